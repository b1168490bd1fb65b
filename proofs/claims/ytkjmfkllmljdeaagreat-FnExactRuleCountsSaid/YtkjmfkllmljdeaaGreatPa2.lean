/- Texts in one file: Good PartP Text Parsed IsText Cont Plain Gp Fo TwoF Plr StEqS OwnV JfG ShelfC Put Put2 JfW Pt S12 DecT DecL IdxC JfP Above SeqP PutA JfT Vt Say SayA JfL. -/
import Derived.Lib.SlicesS
import Derived.Deep.RegionHeld3
import Derived.Deep.QuietTactic
import Derived.BigQuiet
import Derived.Deep.LoopGhost
import Derived.WalkSpells
import Derived.WalkLawsBesides
import Derived.Outline
import Derived.Shelf.Abstract
import Derived.Shelf.Sort.Plain
import Derived.Shelf.Slices.CompactS
import Derived.Shelf.Slices.In.SortNone
import Derived.Test.YtkjmfkllmljdeaaGreatProg
import Derived.Lib.OwnBridge
import Derived.Lib.RowBridge
import Derived.Sort.OwnSorted
import Derived.OwnWalk
import Derived.Lib.SliceRun
import Derived.Test.YtkjmfkllmljdeaaGreatPa1
set_option linter.all false

/- A text that reads to a tree whose text it is. -/
namespace Go.Proofs.YtkjmfkllmljdeaaGreat
open Go.RowKit
open Fm (Nd)

theorem enc_pre (t : Fm.Tree) : ∀ (u : Fm.Tree) (a b : List Nd), Fm.enc t ++ a = Fm.enc u ++ b → t = u ∧ a = b := by
  induction t with
  | var v =>
    intro u a b h
    cases u <;> simp [Fm.enc] at h
    exact ⟨congrArg Fm.Tree.var (Fin.ext (by have := h.1; omega)), h.2⟩
  | fls =>
    intro u a b h
    cases u <;> simp [Fm.enc] at h
    exact ⟨rfl, h⟩
  | and x y hx hy =>
    intro u a b h
    cases u <;> simp [Fm.enc] at h
    obtain ⟨e1, h1⟩ := hx _ _ _ h
    obtain ⟨e2, h2⟩ := hy _ _ _ h1
    exact ⟨by rw [e1, e2], h2⟩
  | or x y hx hy =>
    intro u a b h
    cases u <;> simp [Fm.enc] at h
    obtain ⟨e1, h1⟩ := hx _ _ _ h
    obtain ⟨e2, h2⟩ := hy _ _ _ h1
    exact ⟨by rw [e1, e2], h2⟩
  | imp x y hx hy =>
    intro u a b h
    cases u <;> simp [Fm.enc] at h
    obtain ⟨e1, h1⟩ := hx _ _ _ h
    obtain ⟨e2, h2⟩ := hy _ _ _ h1
    exact ⟨by rw [e1, e2], h2⟩
  | box x hx =>
    intro u a b h
    cases u <;> simp [Fm.enc] at h
    obtain ⟨e1, h1⟩ := hx _ _ _ h
    exact ⟨by rw [e1], h1⟩
  | dia x hx =>
    intro u a b h
    cases u <;> simp [Fm.enc] at h
    obtain ⟨e1, h1⟩ := hx _ _ _ h
    exact ⟨by rw [e1], h1⟩
theorem enc_inj {t u : Fm.Tree} (h : Fm.enc t = Fm.enc u) : t = u := (enc_pre t u [] [] (by simpa using h)).1

/-- The text is the text of a formula. -/
def IsGood (s : ByteArray) : Prop := ∃ t, Fm.pf s = (Fm.enc t, 0, 0) ∧ bs (Fm.txt t 0) = s
noncomputable def gd (s : ByteArray) : Bool := @decide (IsGood s) (Classical.propDecidable _)
theorem gd_true {s : ByteArray} (h : IsGood s) : gd s = true := by
  unfold gd
  exact @decide_eq_true _ (Classical.propDecidable _) h
theorem gd_false {s : ByteArray} (h : ¬ IsGood s) : gd s = false := by
  unfold gd
  exact @decide_eq_false _ (Classical.propDecidable _) h

theorem pf_cases (s : ByteArray) : (∃ t, Fm.pf s = (Fm.enc t, 0, 0)) ∨ ∃ p c, Fm.pf s = ([], p, c) ∧ (c == 0) = false := by
  unfold Fm.pf
  split
  · exact .inr ⟨_, _, rfl, by decide⟩
  · split
    · exact .inr ⟨_, _, rfl, by decide⟩
    · split
      · exact .inr ⟨_, _, rfl, by decide⟩
      · obtain ⟨t, ht⟩ := Fm.parse_enc s.data.toList Fm.fuel
        refine .inl ⟨t, ?_⟩
        rw [← ht]
        rfl
theorem gd_bad {s : ByteArray} {p : Nat} {c : Int} (h : Fm.pf s = ([], p, c)) (hc : (c == 0) = false) : gd s = false := by
  apply gd_false
  rintro ⟨t, ht, _⟩
  rw [h] at ht
  simp only [Prod.mk.injEq] at ht
  rw [ht.2.2] at hc
  cases hc
theorem gd_tree {s : ByteArray} {t : Fm.Tree} (h : Fm.pf s = (Fm.enc t, 0, 0)) : gd s = ((bs (Fm.txt t 0)).toList == s.toList) := by
  have e : ((bs (Fm.txt t 0)).toList == s.toList) = true ↔ bs (Fm.txt t 0) = s := by
    exact Lib.bytes_beq_iff _ _
  cases hb : ((bs (Fm.txt t 0)).toList == s.toList) with
  | true => exact gd_true ⟨t, h, e.1 hb⟩
  | false =>
    apply gd_false
    rintro ⟨u, hu, hs⟩
    rw [h] at hu
    simp only [Prod.mk.injEq, and_true] at hu
    have := enc_inj hu
    subst this
    rw [e.2 hs] at hb
    cases hb

/-- What the reference's test of a text gives. -/
def GivesG (w : World) (s : ByteArray) (e : Ending) (w' : World) : Prop := ∃ v, e = .returned (.tuple #[v, .bool (gd s)]) ∧ Own w' w.heap.size v (Fm.pf s).1 ∧ Grew w w'

theorem l02Good_c (s : ByteArray) (w : World) (hs : s.size ≤ 140737488355328) :
    Calls Tryz.prog 69 #[.string s] w (GivesG w s) := by
  have HP := fun w => specParse_c s w hs
  unfold GivesG
  rcases pf_cases s with ⟨t, ht⟩ | ⟨p, c, hp, hc⟩
  · have hn := Fm.pf_len s
    rw [gd_tree ht]
    rw [ht] at HP hn ⊢
    simp only at HP hn ⊢
    replace HP := Lib.hid HP
    have HT := Lib.hid (fun v w h => l02Text_c t v w h (by omega))
    clear ht
    generalize Fm.enc t = xs at *
    go_enter Tryz.func69, Tryz.ntmps69
    go_wp2_with fail
    refine (HP.out _).mono ?_
    rintro e w1 ⟨v1, rfl, ho1, hg1, _⟩
    go_wp2_with fail
    refine (HT.out _ _ ho1.nodes).mono ?_
    rintro e w2 ⟨rfl, hg2⟩
    go_wp2_with fail
    go_ret2
    exact ⟨_, rfl, ho1.grew hg2, hg1.trans hg2⟩
  · rw [gd_bad hp hc]
    rw [hp] at HP ⊢
    replace HP := Lib.hid HP
    clear hp
    go_enter Tryz.func69, Tryz.ntmps69
    go_wp2_with fail
    refine (HP.out _).mono ?_
    rintro e w1 ⟨v1, rfl, ho1, hg1, _⟩
    go_wp2_with fail
    go_ret2
    exact ⟨.slice none 0 0, rfl, Own.nil_ _ _, hg1⟩
end Go.Proofs.YtkjmfkllmljdeaaGreat

/- The parts of a formula, as the program's text needs them. -/
namespace Go.Proofs.YtkjmfkllmljdeaaGreat
open Go.RowKit
open Fm (Nd Tree)

theorem first_c (v : Value) (xs : List Nd) (t : Tree) (w : World) (h : Nodes w v xs) (hn : xs.length ≤ 1099511627776) (ht : At xs 1 t) :
    Calls Tryz.prog 103 #[v] w (Cuts w (Fm.enc t)) := by
  have HT := Lib.hid ht
  clear ht
  go_enter Tryz.func103, Tryz.ntmps103
  go_wp2_with fail
  refine (part_c _ xs 1 t _ h hn HT.out).mono ?_
  rintro e w1 ⟨v1, rfl, hN1, hg1⟩
  go_wp2_with fail
  go_ret
  exact ⟨_, rfl, hN1, hg1⟩

theorem second_c (v : Value) (xs : List Nd) (a t : Tree) (w : World) (h : Nodes w v xs) (hn : xs.length ≤ 1099511627776) (ha : At xs 1 a) (ht : At xs (1 + (Fm.enc a).length) t) :
    Calls Tryz.prog 104 #[v] w (Cuts w (Fm.enc t)) := by
  have HA := Lib.hid ha
  have HT := Lib.hid ht
  clear ha ht
  go_enter Tryz.func104, Tryz.ntmps104
  go_wp2_with fail
  refine (partEnd_at _ xs 1 a _ h hn HA.out).mono ?_
  rintro e w1 ⟨rfl, hg1⟩
  go_wp2_with fail
  refine (part_c _ xs (1 + (Fm.enc a).length) t _ (h.grew hg1) hn HT.out).mono ?_
  rintro e w2 ⟨v2, rfl, hN2, hg2⟩
  go_wp2_with fail
  go_ret
  exact ⟨_, rfl, hN2, hg1.trans hg2⟩

theorem isFalsum_c (v : Value) (t : Tree) (w : World) (h : Nodes w v (Fm.enc t)) :
    Calls Tryz.prog 116 #[v] w fun e w' => e = .returned (.bool (Fm.isF t)) ∧ Grew w w' := by
  have hpos := Fm.enc_pos t
  rcases h.open_ with ⟨rfl, h0⟩ | ⟨b, o, c, rfl, hc, hm, hb, hf⟩
  · rw [h0] at hpos; simp at hpos
  · have k1 := (hf 0 (by omega) w (Grew.refl _)).1
    rw [kd_enc] at k1
    rw [isF_kind]
    simp only [Nat.zero_mul, Nat.add_zero] at k1
    clear hf h
    go_enter Tryz.func116, Tryz.ntmps116
    go_wp2_with fail
    go_ret
    exact ⟨rfl, Grew.refl _⟩

theorem isNegation_c (v : Value) (t : Tree) (w : World) (h : Nodes w v (Fm.enc t)) (hn : (Fm.enc t).length ≤ 1099511627776) :
    Calls Tryz.prog 115 #[v] w fun e w' => e = .returned (.bool (isNeg t)) ∧ Grew w w' := by
  have hpos := Fm.enc_pos t
  rcases h.open_ with ⟨rfl, h0⟩ | ⟨b, o, c, rfl, hc, hm, hb, hf⟩
  · rw [h0] at hpos; simp at hpos
  · have k1 := (hf 0 (by omega) w (Grew.refl _)).1
    rw [kd_enc] at k1
    simp only [Nat.zero_mul, Nat.add_zero] at k1
    clear hf
    by_cases hk : kindOf t = 4
    · obtain ⟨x, y, rfl⟩ : ∃ x y, t = .imp x y := by cases t <;> simp_all [kindOf]
      have ha := at_first (xs := Fm.enc (.imp x y)) (k := (4, 0)) (a := x) (rest := Fm.enc y) rfl
      have hb2 := at_second (xs := Fm.enc (.imp x y)) (k := (4, 0)) (a := x) (b := y) rfl
      have HA := Lib.hid ha
      have HB := Lib.hid hb2
      have HH := Lib.hid h
      have hE : isNeg (.imp x y) = Fm.isF y := rfl
      rw [hE]
      rw [hk] at k1
      clear ha hb2 h hE hk
      generalize Fm.enc (.imp x y) = T at *
      go_enter Tryz.func115, Tryz.ntmps115
      go_wp2_with fail
      refine (second_c _ T x y _ HH.out hn HA.out HB.out).mono ?_
      rintro e w1 ⟨v1, rfl, hN1, hg1⟩
      go_wp2_with fail
      refine (isFalsum_c _ y _ hN1).mono ?_
      rintro e w2 ⟨rfl, hg2⟩
      go_wp2_with fail
      go_ret
      exact ⟨by simp, hg1.trans hg2⟩
    · have hE : isNeg t = false := by cases t <;> simp_all [isNeg, kindOf]
      rw [hE]
      have hk' : (kindOf t == 4) = false := by simpa using hk
      clear hE hk h
      generalize kindOf t = K at *
      go_enter Tryz.func115, Tryz.ntmps115
      go_wp2_with fail
      go_ret
      exact ⟨rfl, Grew.refl _⟩

theorem levelOf_c (v : Value) (t : Tree) (w : World) (h : Nodes w v (Fm.enc t)) (hn : (Fm.enc t).length ≤ 1099511627776) :
    Calls Tryz.prog 114 #[v] w fun e w' => e = .returned (.int .i64 (Fm.own t)) ∧ Grew w w' := by
  have hpos := Fm.enc_pos t
  rcases h.open_ with ⟨rfl, h0⟩ | ⟨b, o, c, rfl, hc, hm, hb, hf⟩
  · rw [h0] at hpos; simp at hpos
  · have k1 := fun W hW => (hf 0 (by omega) W hW).1
    rw [kd_enc] at k1
    simp only [Nat.zero_mul, Nat.add_zero] at k1
    have HN := Lib.hid (fun w h => isNegation_c (.slice (some ⟨b, o, none⟩) (Fm.enc t).length c) t w h hn)
    have HH := Lib.hid h
    have hg0 := Grew.refl w
    clear hf h
    by_cases hk : kindOf t = 4
    · rw [hk] at k1
      cases hng : isNeg t with
      | true =>
        have hE : Fm.own t = 3 := by cases t <;> simp_all [isNeg, kindOf, Fm.own]
        rw [hE]
        rw [hng] at HN
        clear hE hk hng
        go_enter Tryz.func114, Tryz.ntmps114
        go_wp2_with fail
        refine (HN.out _ HH.out).mono ?_
        rintro e w1 ⟨rfl, hg1⟩
        go_wp2_with fail
        go_ret
        exact ⟨rfl, hg1⟩
      | false =>
        have hE : Fm.own t = 0 := by cases t <;> simp_all [isNeg, kindOf, Fm.own]
        rw [hE]
        rw [hng] at HN
        clear hE hk hng
        go_enter Tryz.func114, Tryz.ntmps114
        go_wp2_with fail
        refine (HN.out _ HH.out).mono ?_
        rintro e w1 ⟨rfl, hg1⟩
        go_wp2_with fail
        go_ret
        exact ⟨rfl, hg1⟩
    · have hk4 : (kindOf t == 4) = false := by simpa using hk
      by_cases hk3 : kindOf t = 3
      · have hE : Fm.own t = 1 := by cases t <;> simp_all [kindOf, Fm.own]
        rw [hE]
        rw [hk3] at k1
        clear hE hk hk4 hk3
        go_enter Tryz.func114, Tryz.ntmps114
        go_wp2_with fail
        go_ret
        exact ⟨rfl, Grew.refl _⟩
      by_cases hk2 : kindOf t = 2
      · have hE : Fm.own t = 2 := by cases t <;> simp_all [kindOf, Fm.own]
        rw [hE]
        rw [hk2] at k1
        clear hE hk hk4 hk3 hk2
        go_enter Tryz.func114, Tryz.ntmps114
        go_wp2_with fail
        go_ret
        exact ⟨rfl, Grew.refl _⟩
      · have hE : Fm.own t = 3 := by cases t <;> simp_all [kindOf, Fm.own]
        rw [hE]
        have hk3' : (kindOf t == 3) = false := by simpa using hk3
        have hk2' : (kindOf t == 2) = false := by simpa using hk2
        clear hE hk hk3 hk2 HN HH
        generalize kindOf t = K at *
        go_enter Tryz.func114, Tryz.ntmps114
        go_wp2_with fail
        go_ret
        exact ⟨rfl, Grew.refl _⟩
end Go.Proofs.YtkjmfkllmljdeaaGreat

/- The text of a formula: the program's textAt. -/
namespace Go.Proofs.YtkjmfkllmljdeaaGreat
open Go.RowKit
open Fm (Nd Tree)

def TextOk (t : Tree) : Prop := ∀ (l : Nat) (v : Value) (w : World), l ≤ 3 → Nodes w v (Fm.enc t) → (Fm.enc t).length ≤ 1048576 →
  Calls Tryz.prog 100 #[v, .int .i64 l] w (Says w (Fm.txt t l))
/-- The same where no brackets are needed. -/
def BodyOk (t : Tree) : Prop := ∀ (l : Nat) (v : Value) (w : World), l ≤ Fm.own t → Nodes w v (Fm.enc t) → (Fm.enc t).length ≤ 1048576 →
  Calls Tryz.prog 100 #[v, .int .i64 l] w (Says w (Fm.txt t l))

theorem body_and (x y : Tree) (hx : TextOk x) (hy : TextOk y) : BodyOk (.and x y) := by
  intro l v w hl h hn
  have hown : Fm.own (.and x y) = 2 := by rfl
  have hE : Fm.txt (.and x y) l = Fm.txt x 2 ++ [38] ++ Fm.txt y 3 := by
    rw [Fm.txt, Fm.wrap, if_neg (by omega)]
  rw [hE]
  rw [hown] at hl
  obtain ⟨b, o, c, rfl, hc, hm, k1⟩ := nodes_head h
  have hpos := Fm.enc_pos (.and x y)
  have HL := Lib.hid (levelOf_c _ _ w h (by omega))
  have HH := Lib.hid h
  have hg0 := Grew.refl w
  rw [hown] at HL
  rw [show kindOf (.and x y) = 2 from rfl] at k1
  have HA := Lib.hid (at_first (xs := Fm.enc (.and x y)) (k := (2, 0)) (a := x) (rest := Fm.enc y) rfl)
  have HB := Lib.hid (at_second (xs := Fm.enc (.and x y)) (k := (2, 0)) (a := x) (b := y) rfl)
  have hlen : (Fm.enc (.and x y)).length = 1 + ((Fm.enc x).length + (Fm.enc y).length) := by simp [Fm.enc]; omega
  have h1 := Fm.txt_len x 2
  have h2 := Fm.txt_len y 3
  have HX := Lib.hid hx
  have HY := Lib.hid hy
  have hn1 : (Fm.enc x).length ≤ 1048576 := by omega
  have hn2 : (Fm.enc y).length ≤ 1048576 := by omega
  clear hE h hx hy hlen hown
  generalize Fm.enc (.and x y) = T at *
  have s1 := bs_size (Fm.txt x 2)
  have s2 := bs_size (Fm.txt y 3)
  have z1 : (bs (Fm.txt x 2)).size ≤ 4194304 := by omega
  have z2 : (bs (Fm.txt y 3)).size ≤ 4194304 := by omega
  have HE : Hid (bs (Fm.txt x 2) ++ bs [38] ++ bs (Fm.txt y 3) = bs (Fm.txt x 2 ++ [38] ++ Fm.txt y 3)) := by unfold Hid; rw [bs_append, bs_append]
  clear s1 s2 h1 h2
  generalize Fm.txt x 2 ++ [38] ++ Fm.txt y 3 = Z at *
  go_enter Tryz.func100, Tryz.ntmps100
  go_wp2_with fail
  refine HL.out.mono ?_
  rintro e w1 ⟨rfl, hg1⟩
  go_wp2_with fail
  refine (first_c _ T x _ (HH.out.grew hg1) (by omega) HA.out).mono ?_
  rintro e w2 ⟨v2, rfl, hN2, hg2⟩
  go_wp2_with fail
  refine (HX.out 2 _ _ (by omega) hN2 hn1).mono ?_
  rintro e w3 ⟨rfl, hg3⟩
  go_wp2_with fail
  refine (second_c _ T x y _ (HH.out.grew ((hg1.trans hg2).trans hg3)) (by omega) HA.out HB.out).mono ?_
  rintro e w4 ⟨v4, rfl, hN4, hg4⟩
  go_wp2_with fail
  refine (HY.out 3 _ _ (by omega) hN4 hn2).mono ?_
  rintro e w5 ⟨rfl, hg5⟩
  go_wp2_with fail
  go_ret
  exact ⟨congrArg (fun z => Ending.returned (.string z)) HE.out, (((hg1.trans hg2).trans hg3).trans hg4).trans hg5⟩

theorem body_or (x y : Tree) (hx : TextOk x) (hy : TextOk y) : BodyOk (.or x y) := by
  intro l v w hl h hn
  have hown : Fm.own (.or x y) = 1 := by rfl
  have hE : Fm.txt (.or x y) l = Fm.txt x 1 ++ [124] ++ Fm.txt y 2 := by
    rw [Fm.txt, Fm.wrap, if_neg (by omega)]
  rw [hE]
  rw [hown] at hl
  obtain ⟨b, o, c, rfl, hc, hm, k1⟩ := nodes_head h
  have hpos := Fm.enc_pos (.or x y)
  have HL := Lib.hid (levelOf_c _ _ w h (by omega))
  have HH := Lib.hid h
  have hg0 := Grew.refl w
  rw [hown] at HL
  rw [show kindOf (.or x y) = 3 from rfl] at k1
  have HA := Lib.hid (at_first (xs := Fm.enc (.or x y)) (k := (3, 0)) (a := x) (rest := Fm.enc y) rfl)
  have HB := Lib.hid (at_second (xs := Fm.enc (.or x y)) (k := (3, 0)) (a := x) (b := y) rfl)
  have hlen : (Fm.enc (.or x y)).length = 1 + ((Fm.enc x).length + (Fm.enc y).length) := by simp [Fm.enc]; omega
  have h1 := Fm.txt_len x 1
  have h2 := Fm.txt_len y 2
  have HX := Lib.hid hx
  have HY := Lib.hid hy
  have hn1 : (Fm.enc x).length ≤ 1048576 := by omega
  have hn2 : (Fm.enc y).length ≤ 1048576 := by omega
  clear hE h hx hy hlen hown
  generalize Fm.enc (.or x y) = T at *
  have s1 := bs_size (Fm.txt x 1)
  have s2 := bs_size (Fm.txt y 2)
  have z1 : (bs (Fm.txt x 1)).size ≤ 4194304 := by omega
  have z2 : (bs (Fm.txt y 2)).size ≤ 4194304 := by omega
  have HE : Hid (bs (Fm.txt x 1) ++ bs [124] ++ bs (Fm.txt y 2) = bs (Fm.txt x 1 ++ [124] ++ Fm.txt y 2)) := by unfold Hid; rw [bs_append, bs_append]
  clear s1 s2 h1 h2
  generalize Fm.txt x 1 ++ [124] ++ Fm.txt y 2 = Z at *
  go_enter Tryz.func100, Tryz.ntmps100
  go_wp2_with fail
  refine HL.out.mono ?_
  rintro e w1 ⟨rfl, hg1⟩
  go_wp2_with fail
  refine (first_c _ T x _ (HH.out.grew hg1) (by omega) HA.out).mono ?_
  rintro e w2 ⟨v2, rfl, hN2, hg2⟩
  go_wp2_with fail
  refine (HX.out 1 _ _ (by omega) hN2 hn1).mono ?_
  rintro e w3 ⟨rfl, hg3⟩
  go_wp2_with fail
  refine (second_c _ T x y _ (HH.out.grew ((hg1.trans hg2).trans hg3)) (by omega) HA.out HB.out).mono ?_
  rintro e w4 ⟨v4, rfl, hN4, hg4⟩
  go_wp2_with fail
  refine (HY.out 2 _ _ (by omega) hN4 hn2).mono ?_
  rintro e w5 ⟨rfl, hg5⟩
  go_wp2_with fail
  go_ret
  exact ⟨congrArg (fun z => Ending.returned (.string z)) HE.out, (((hg1.trans hg2).trans hg3).trans hg4).trans hg5⟩

theorem body_imp (x y : Tree) (hf : Fm.isF y = false) (hx : TextOk x) (hy : TextOk y) : BodyOk (.imp x y) := by
  intro l v w hl h hn
  have hown : Fm.own (.imp x y) = 0 := by simp [Fm.own, hf]
  have hE : Fm.txt (.imp x y) l = Fm.txt x 1 ++ [62] ++ Fm.txt y 0 := by
    rw [Fm.txt, if_neg (by simp [hf]), Fm.wrap, if_neg (by omega)]
  rw [hE]
  rw [hown] at hl
  obtain ⟨b, o, c, rfl, hc, hm, k1⟩ := nodes_head h
  have hpos := Fm.enc_pos (.imp x y)
  have HL := Lib.hid (levelOf_c _ _ w h (by omega))
  have HH := Lib.hid h
  have hg0 := Grew.refl w
  have hng : isNeg (.imp x y) = false := hf
  have HG := Lib.hid (fun w h => isNegation_c (.slice (some ⟨b, o, none⟩) (Fm.enc (.imp x y)).length c) (.imp x y) w h (by omega))
  rw [hng] at HG
  rw [hown] at HL
  rw [show kindOf (.imp x y) = 4 from rfl] at k1
  have HA := Lib.hid (at_first (xs := Fm.enc (.imp x y)) (k := (4, 0)) (a := x) (rest := Fm.enc y) rfl)
  have HB := Lib.hid (at_second (xs := Fm.enc (.imp x y)) (k := (4, 0)) (a := x) (b := y) rfl)
  have hlen : (Fm.enc (.imp x y)).length = 1 + ((Fm.enc x).length + (Fm.enc y).length) := by simp [Fm.enc]; omega
  have h1 := Fm.txt_len x 1
  have h2 := Fm.txt_len y 0
  have HX := Lib.hid hx
  have HY := Lib.hid hy
  have hn1 : (Fm.enc x).length ≤ 1048576 := by omega
  have hn2 : (Fm.enc y).length ≤ 1048576 := by omega
  clear hE h hx hy hlen hown hng hf
  generalize Fm.enc (.imp x y) = T at *
  have s1 := bs_size (Fm.txt x 1)
  have s2 := bs_size (Fm.txt y 0)
  have z1 : (bs (Fm.txt x 1)).size ≤ 4194304 := by omega
  have z2 : (bs (Fm.txt y 0)).size ≤ 4194304 := by omega
  have HE : Hid (bs (Fm.txt x 1) ++ bs [62] ++ bs (Fm.txt y 0) = bs (Fm.txt x 1 ++ [62] ++ Fm.txt y 0)) := by unfold Hid; rw [bs_append, bs_append]
  clear s1 s2 h1 h2
  generalize Fm.txt x 1 ++ [62] ++ Fm.txt y 0 = Z at *
  go_enter Tryz.func100, Tryz.ntmps100
  go_wp2_with fail
  refine HL.out.mono ?_
  rintro e w1 ⟨rfl, hg1⟩
  go_wp2_with fail
  refine (HG.out _ (HH.out.grew hg1)).mono ?_
  rintro e w11 ⟨rfl, hg11⟩
  have hg1 := hg1.trans hg11
  go_wp2_with fail
  refine (first_c _ T x _ (HH.out.grew hg1) (by omega) HA.out).mono ?_
  rintro e w2 ⟨v2, rfl, hN2, hg2⟩
  go_wp2_with fail
  refine (HX.out 1 _ _ (by omega) hN2 hn1).mono ?_
  rintro e w3 ⟨rfl, hg3⟩
  go_wp2_with fail
  refine (second_c _ T x y _ (HH.out.grew ((hg1.trans hg2).trans hg3)) (by omega) HA.out HB.out).mono ?_
  rintro e w4 ⟨v4, rfl, hN4, hg4⟩
  go_wp2_with fail
  refine (HY.out 0 _ _ (by omega) hN4 hn2).mono ?_
  rintro e w5 ⟨rfl, hg5⟩
  go_wp2_with fail
  go_ret
  exact ⟨congrArg (fun z => Ending.returned (.string z)) HE.out, (((hg1.trans hg2).trans hg3).trans hg4).trans hg5⟩

theorem body_box (x : Tree) (hx : TextOk x) : BodyOk (.box x) := by
  intro l v w hl h hn
  have hown : Fm.own (.box x) = 3 := rfl
  have hE : Fm.txt (.box x) l = [91, 93] ++ Fm.txt x 3 := rfl
  rw [hE]
  rw [hown] at hl
  obtain ⟨b, o, c, rfl, hc, hm, k1⟩ := nodes_head h
  have hpos := Fm.enc_pos (.box x)
  have HL := Lib.hid (levelOf_c _ _ w h (by omega))
  have HH := Lib.hid h
  have hg0 := Grew.refl w
  rw [hown] at HL
  rw [show kindOf (.box x) = 5 from rfl] at k1
  have HA := Lib.hid (at_first (xs := Fm.enc (.box x)) (k := (5, 0)) (a := x) (rest := []) (by simp [Fm.enc]))
  have hlen : (Fm.enc (.box x)).length = 1 + (Fm.enc x).length := by simp [Fm.enc]; omega
  have h1 := Fm.txt_len x 3
  have HX := Lib.hid hx
  have hn1 : (Fm.enc x).length ≤ 1048576 := by omega
  clear hE h hx hlen hown
  generalize Fm.enc (.box x) = T at *
  have s1 := bs_size (Fm.txt x 3)
  have z1 : (bs (Fm.txt x 3)).size ≤ 4194304 := by omega
  have HE : Hid (bs [91, 93] ++ bs (Fm.txt x 3) = bs ([91, 93] ++ Fm.txt x 3)) := by unfold Hid; rw [bs_append]
  clear s1 h1
  generalize [91, 93] ++ Fm.txt x 3 = Z at *
  go_enter Tryz.func100, Tryz.ntmps100
  go_wp2_with fail
  refine HL.out.mono ?_
  rintro e w1 ⟨rfl, hg1⟩
  go_wp2_with fail
  refine (first_c _ T x _ (HH.out.grew hg1) (by omega) HA.out).mono ?_
  rintro e w2 ⟨v2, rfl, hN2, hg2⟩
  go_wp2_with fail
  refine (HX.out 3 _ _ (by omega) hN2 hn1).mono ?_
  rintro e w3 ⟨rfl, hg3⟩
  go_wp2_with fail
  go_ret
  exact ⟨congrArg (fun z => Ending.returned (.string z)) HE.out, (hg1.trans hg2).trans hg3⟩

theorem body_dia (x : Tree) (hx : TextOk x) : BodyOk (.dia x) := by
  intro l v w hl h hn
  have hown : Fm.own (.dia x) = 3 := rfl
  have hE : Fm.txt (.dia x) l = [60, 62] ++ Fm.txt x 3 := rfl
  rw [hE]
  rw [hown] at hl
  obtain ⟨b, o, c, rfl, hc, hm, k1⟩ := nodes_head h
  have hpos := Fm.enc_pos (.dia x)
  have HL := Lib.hid (levelOf_c _ _ w h (by omega))
  have HH := Lib.hid h
  have hg0 := Grew.refl w
  rw [hown] at HL
  rw [show kindOf (.dia x) = 6 from rfl] at k1
  have HA := Lib.hid (at_first (xs := Fm.enc (.dia x)) (k := (6, 0)) (a := x) (rest := []) (by simp [Fm.enc]))
  have hlen : (Fm.enc (.dia x)).length = 1 + (Fm.enc x).length := by simp [Fm.enc]; omega
  have h1 := Fm.txt_len x 3
  have HX := Lib.hid hx
  have hn1 : (Fm.enc x).length ≤ 1048576 := by omega
  clear hE h hx hlen hown
  generalize Fm.enc (.dia x) = T at *
  have s1 := bs_size (Fm.txt x 3)
  have z1 : (bs (Fm.txt x 3)).size ≤ 4194304 := by omega
  have HE : Hid (bs [60, 62] ++ bs (Fm.txt x 3) = bs ([60, 62] ++ Fm.txt x 3)) := by unfold Hid; rw [bs_append]
  clear s1 h1
  generalize [60, 62] ++ Fm.txt x 3 = Z at *
  go_enter Tryz.func100, Tryz.ntmps100
  go_wp2_with fail
  refine HL.out.mono ?_
  rintro e w1 ⟨rfl, hg1⟩
  go_wp2_with fail
  refine (first_c _ T x _ (HH.out.grew hg1) (by omega) HA.out).mono ?_
  rintro e w2 ⟨v2, rfl, hN2, hg2⟩
  go_wp2_with fail
  refine (HX.out 3 _ _ (by omega) hN2 hn1).mono ?_
  rintro e w3 ⟨rfl, hg3⟩
  go_wp2_with fail
  go_ret
  exact ⟨congrArg (fun z => Ending.returned (.string z)) HE.out, (hg1.trans hg2).trans hg3⟩

theorem body_tru (x : Tree) (hf : Fm.isF x = true) : BodyOk (.imp x .fls) := by
  intro l v w hl h hn
  have hown : Fm.own (.imp x .fls) = 3 := rfl
  have hE : Fm.txt (.imp x .fls) l = [84] := by
    rw [Fm.txt, if_pos (show Fm.isF .fls = true from rfl), if_pos hf]
  rw [hE]
  rw [hown] at hl
  obtain ⟨b, o, c, rfl, hc, hm, k1⟩ := nodes_head h
  have hpos := Fm.enc_pos (.imp x .fls)
  have HL := Lib.hid (levelOf_c _ _ w h (by omega))
  have HH := Lib.hid h
  have hg0 := Grew.refl w
  have HG := Lib.hid (fun w h => isNegation_c (.slice (some ⟨b, o, none⟩) (Fm.enc (.imp x .fls)).length c) (.imp x .fls) w h (by omega))
  rw [show isNeg (.imp x .fls) = true from rfl] at HG
  rw [hown] at HL
  rw [show kindOf (.imp x .fls) = 4 from rfl] at k1
  have HA := Lib.hid (at_first (xs := Fm.enc (.imp x .fls)) (k := (4, 0)) (a := x) (rest := Fm.enc .fls) rfl)
  have hlen : (Fm.enc (.imp x .fls)).length = 2 + (Fm.enc x).length := by simp [Fm.enc]; omega
  have hn1 : (Fm.enc x).length ≤ 1048576 := by omega
  have HI := Lib.hid (fun v w h => isFalsum_c v x w h)
  rw [hf] at HI
  clear hE h hlen hown hf
  generalize Fm.enc (.imp x .fls) = T at *
  go_enter Tryz.func100, Tryz.ntmps100
  go_wp2_with fail
  refine HL.out.mono ?_
  rintro e w1 ⟨rfl, hg1⟩
  go_wp2_with fail
  refine (HG.out _ (HH.out.grew hg1)).mono ?_
  rintro e w11 ⟨rfl, hg11⟩
  have hg1 := hg1.trans hg11
  go_wp2_with fail
  refine (first_c _ T x _ (HH.out.grew hg1) (by omega) HA.out).mono ?_
  rintro e w2 ⟨v2, rfl, hN2, hg2⟩
  go_wp2_with fail
  refine (HI.out _ _ hN2).mono ?_
  rintro e w3 ⟨rfl, hg3⟩
  go_wp2_with fail
  go_ret
  exact ⟨rfl, (hg1.trans hg2).trans hg3⟩

theorem body_not (x : Tree) (hf : Fm.isF x = false) (hx : TextOk x) : BodyOk (.imp x .fls) := by
  intro l v w hl h hn
  have hown : Fm.own (.imp x .fls) = 3 := rfl
  have hE : Fm.txt (.imp x .fls) l = [126] ++ Fm.txt x 3 := by
    rw [Fm.txt, if_pos (show Fm.isF .fls = true from rfl), if_neg (by simp [hf])]
  rw [hE]
  rw [hown] at hl
  obtain ⟨b, o, c, rfl, hc, hm, k1⟩ := nodes_head h
  have hpos := Fm.enc_pos (.imp x .fls)
  have HL := Lib.hid (levelOf_c _ _ w h (by omega))
  have HH := Lib.hid h
  have hg0 := Grew.refl w
  have HG := Lib.hid (fun w h => isNegation_c (.slice (some ⟨b, o, none⟩) (Fm.enc (.imp x .fls)).length c) (.imp x .fls) w h (by omega))
  rw [show isNeg (.imp x .fls) = true from rfl] at HG
  rw [hown] at HL
  rw [show kindOf (.imp x .fls) = 4 from rfl] at k1
  have HA := Lib.hid (at_first (xs := Fm.enc (.imp x .fls)) (k := (4, 0)) (a := x) (rest := Fm.enc .fls) rfl)
  have hlen : (Fm.enc (.imp x .fls)).length = 2 + (Fm.enc x).length := by simp [Fm.enc]; omega
  have hn1 : (Fm.enc x).length ≤ 1048576 := by omega
  have HI := Lib.hid (fun v w h => isFalsum_c v x w h)
  rw [hf] at HI
  have h1 := Fm.txt_len x 3
  have HX := Lib.hid hx
  have s1 := bs_size (Fm.txt x 3)
  have z1 : (bs (Fm.txt x 3)).size ≤ 4194304 := by omega
  have HE : Hid (bs [126] ++ bs (Fm.txt x 3) = bs ([126] ++ Fm.txt x 3)) := by unfold Hid; rw [bs_append]
  clear s1 h1 hx
  generalize [126] ++ Fm.txt x 3 = Z at *
  clear hE h hlen hown hf
  generalize Fm.enc (.imp x .fls) = T at *
  go_enter Tryz.func100, Tryz.ntmps100
  go_wp2_with fail
  refine HL.out.mono ?_
  rintro e w1 ⟨rfl, hg1⟩
  go_wp2_with fail
  refine (HG.out _ (HH.out.grew hg1)).mono ?_
  rintro e w11 ⟨rfl, hg11⟩
  have hg1 := hg1.trans hg11
  go_wp2_with fail
  refine (first_c _ T x _ (HH.out.grew hg1) (by omega) HA.out).mono ?_
  rintro e w2 ⟨v2, rfl, hN2, hg2⟩
  go_wp2_with fail
  refine (HI.out _ _ hN2).mono ?_
  rintro e w3 ⟨rfl, hg3⟩
  go_wp2_with fail
  refine (first_c _ T x _ (HH.out.grew ((hg1.trans hg2).trans hg3)) (by omega) HA.out).mono ?_
  rintro e w4 ⟨v4, rfl, hN4, hg4⟩
  go_wp2_with fail
  refine (HX.out 3 _ _ (by omega) hN4 hn1).mono ?_
  rintro e w5 ⟨rfl, hg5⟩
  go_wp2_with fail
  go_ret
  exact ⟨congrArg (fun z => Ending.returned (.string z)) HE.out, (((hg1.trans hg2).trans hg3).trans hg4).trans hg5⟩

theorem body_fls : BodyOk .fls := by
  intro l v w hl h hn
  have hE : Fm.txt .fls l = [70] := rfl
  rw [hE]
  rw [show Fm.own .fls = 3 from rfl] at hl
  obtain ⟨b, o, c, rfl, hc, hm, k1⟩ := nodes_head h
  have hpos := Fm.enc_pos (.fls)
  have HL := Lib.hid (levelOf_c _ _ w h (by omega))
  have HH := Lib.hid h
  have hg0 := Grew.refl w
  rw [show Fm.own .fls = 3 from rfl] at HL
  rw [show kindOf .fls = 1 from rfl] at k1
  clear hE h
  generalize Fm.enc .fls = T at *
  go_enter Tryz.func100, Tryz.ntmps100
  go_wp2_with fail
  refine HL.out.mono ?_
  rintro e w1 ⟨rfl, hg1⟩
  go_wp2_with fail
  go_ret
  exact ⟨rfl, hg1⟩

theorem body_var (n : Fin 6) : BodyOk (.var n) := by
  intro l v w hl h hn
  have hE : Fm.txt (.var n) l = [UInt8.ofNat (112 + n.val)] := rfl
  rw [hE]
  rw [show Fm.own (.var n) = 3 from rfl] at hl
  have k2 : ∃ b o c, v = .slice (some ⟨b, o, none⟩) (Fm.enc (.var n)).length c ∧ ∀ W, Grew w W → W.cell? ⟨b, o + 1, none⟩ = some (.int .i64 (n.val : Int)) := by
    rcases h.open_ with ⟨_, h0⟩ | ⟨b, o, c, hv, _, _, _, hf⟩
    · simp [Fm.enc] at h0
    · refine ⟨b, o, c, hv, fun W hW => ?_⟩
      have := (hf 0 (by simp [Fm.enc]) W hW).2
      rw [show sy (Fm.enc (.var n)) 0 = (n.val : Int) from rfl] at this
      simpa using this
  obtain ⟨b, o, c, rfl, hc, hm, k1⟩ := nodes_head h
  have hpos := Fm.enc_pos (.var n)
  have HL := Lib.hid (levelOf_c _ _ w h (by omega))
  have HH := Lib.hid h
  have hg0 := Grew.refl w
  obtain ⟨b', o', c', hv', k2⟩ := k2
  simp only [Value.slice.injEq, Option.some.injEq, Addr.mk.injEq, and_true, true_and] at hv'
  obtain ⟨⟨rfl, rfl⟩, rfl⟩ := hv'
  rw [show Fm.own (.var n) = 3 from rfl] at HL
  rw [show kindOf (.var n) = 0 from rfl] at k1
  have hn6 := n.isLt
  clear hE h
  generalize Fm.enc (.var n) = T at *
  generalize n.val = q at *
  go_enter Tryz.func100, Tryz.ntmps100
  go_wp2_with fail
  refine HL.out.mono ?_
  rintro e w1 ⟨rfl, hg1⟩
  go_wp2_with fail
  go_quiet (fail)
  go_wp2_with fail
  go_ret
  exact ⟨congrArg (fun z => Ending.returned (.string z)) (letter_cut hn6), hg1.drewN _⟩

theorem textOk_of (t : Tree) (hb : BodyOk t) : TextOk t := by
  intro l v w hl h hn
  by_cases hw : Fm.own t < l
  · have hE : Fm.txt t l = [40] ++ Fm.txt t 0 ++ [41] := by
      cases t with
      | var n => simp [Fm.own] at hw; omega
      | fls => simp [Fm.own] at hw; omega
      | and x y => simp only [Fm.own] at hw; simp [Fm.txt, Fm.wrap, hw]
      | or x y => simp only [Fm.own] at hw; simp [Fm.txt, Fm.wrap, hw]
      | imp x y =>
        cases hf : Fm.isF y with
        | true => simp [Fm.own, hf] at hw; omega
        | false => simp [Fm.own, hf] at hw; simp [Fm.txt, Fm.wrap, hf, hw]
      | box x => simp [Fm.own] at hw; omega
      | dia x => simp [Fm.own] at hw; omega
    rw [hE]
    have h1 := Fm.txt_len t 0
    have s1 := bs_size (Fm.txt t 0)
    have z1 : (bs (Fm.txt t 0)).size ≤ 4194304 := by omega
    have HL := Lib.hid (levelOf_c _ _ w h (by omega))
    have HB := Lib.hid (fun w h => hb 0 v w (Nat.zero_le _) h hn)
    have HH := Lib.hid h
    have HE : Hid (bs [40] ++ bs (Fm.txt t 0) ++ bs [41] = bs ([40] ++ Fm.txt t 0 ++ [41])) := by unfold Hid; rw [bs_append, bs_append]
    clear hE h1 s1 hb h
    generalize Fm.own t = q at *
    generalize [40] ++ Fm.txt t 0 ++ [41] = Z at *
    go_enter Tryz.func100, Tryz.ntmps100
    go_wp2_with fail
    refine HL.out.mono ?_
    rintro e w1 ⟨rfl, hg1⟩
    go_wp2_with fail
    refine (HB.out _ (HH.out.grew hg1)).mono ?_
    rintro e w2 ⟨rfl, hg2⟩
    go_wp2_with fail
    go_ret
    exact ⟨congrArg (fun z => Ending.returned (.string z)) HE.out, hg1.trans hg2⟩
  · exact hb l v w (by omega) h hn

theorem text_ok (t : Tree) : TextOk t := by
  induction t with
  | var n => exact textOk_of _ (body_var n)
  | fls => exact textOk_of _ body_fls
  | and x y hx hy => exact textOk_of _ (body_and x y hx hy)
  | or x y hx hy => exact textOk_of _ (body_or x y hx hy)
  | imp x y hx hy =>
    cases hf : Fm.isF y with
    | true =>
      obtain rfl := Fm.isF_eq hf
      cases hg : Fm.isF x with
      | true => exact textOk_of _ (body_tru x hg)
      | false => exact textOk_of _ (body_not x hg hx)
    | false => exact textOk_of _ (body_imp x y hf hx hy)
  | box x hx => exact textOk_of _ (body_box x hx)
  | dia x hx => exact textOk_of _ (body_dia x hx)

theorem text_c (t : Tree) (v : Value) (w : World) (h : Nodes w v (Fm.enc t)) (hn : (Fm.enc t).length ≤ 1048576) :
    Calls Tryz.prog 87 #[v] w (Says w (Fm.txt t 0)) := by
  have HT := Lib.hid (text_ok t 0 v w (by omega) h hn)
  go_enter Tryz.func87, Tryz.ntmps87
  go_wp2_with fail
  refine HT.out.mono ?_
  rintro e w1 ⟨rfl, hg1⟩
  go_wp2_with fail
  go_ret
  exact ⟨rfl, hg1⟩
end Go.Proofs.YtkjmfkllmljdeaaGreat

/- The program's 'parsed'. -/
namespace Go.Proofs.YtkjmfkllmljdeaaGreat
open Go.RowKit
open Fm (Nd)

/-- A new list, nil where it is empty. -/
def GivesN (w : World) (xs : List Nd) (e : Ending) (w' : World) : Prop := ∃ v, e = .returned v ∧ Own w' w.heap.size v xs ∧ Grew w w' ∧ (xs = [] → v = .slice none 0 0)

theorem parsed_c (s : ByteArray) (w : World) (hs : s.size ≤ 140737488355328) :
    Calls Tryz.prog 64 #[.string s] w (GivesN w (Fm.pf s).1) := by
  have HP := Lib.hid (fun w => parse_c s w hs)
  generalize Fm.pf s = r at *
  go_enter Tryz.func64, Tryz.ntmps64
  go_wp2_with fail
  refine (HP.out _).mono ?_
  rintro e w1 ⟨v1, rfl, ho1, hg1, hz1⟩
  have HZ := Lib.hid hz1
  clear hz1
  go_wp2_with fail
  go_ret
  exact ⟨_, rfl, ho1, hg1, HZ.out⟩
end Go.Proofs.YtkjmfkllmljdeaaGreat

/- isText of the program. -/
namespace Go.Proofs.YtkjmfkllmljdeaaGreat
open Go.RowKit
open Fm (Nd)

theorem text0_c (t : Fm.Tree) (v : Value) (w : World) (h : Nodes w v (Fm.enc t)) (hn : (Fm.enc t).length ≤ 1048576) :
    Calls Tryz.prog 87 #[v] w (Says w (Fm.txt t 0)) := text_c t v w h hn

theorem isText_c (s : ByteArray) (w : World) (hs : s.size ≤ 140737488355328) :
    Calls Tryz.prog 77 #[.string s] w fun e w' => e = .returned (.bool (gd s)) ∧ Grew w w' := by
  have HP := fun w => parsed_c s w hs
  rcases pf_cases s with ⟨t, ht⟩ | ⟨p, c, hp, hc⟩
  · have hn := Fm.pf_len s
    have hpos := Fm.enc_pos t
    rw [gd_tree ht]
    rw [ht] at HP hn
    simp only at HP hn
    replace HP := Lib.hid HP
    have HT := Lib.hid (fun v w h => text0_c t v w h (by omega))
    have HO := Lib.hid (fun w (v : Value) (h : Own w w.heap.size v (Fm.enc t)) => h)
    clear ht HO
    have hne := fun w (b : Option Addr) n c => run_neq_slice_nil_any (P := Tryz.prog) w 70 87 b n c 0 0 Tryz.underlying70
    generalize Fm.enc t = xs at *
    go_enter Tryz.func77, Tryz.ntmps77
    go_wp2_with fail
    refine (HP.out _).mono ?_
    rintro e w1 ⟨v1, rfl, ho1, hg1, _⟩
    rcases ho1.open_ with ⟨rfl, h0⟩ | ⟨g, c, cur, rfl, _⟩
    · rw [h0] at hpos; cases hpos
    go_wp2_with fail
    refine (HT.out _ _ ho1.nodes).mono ?_
    rintro e w2 ⟨rfl, hg2⟩
    go_wp2_with fail
    go_ret
    exact ⟨rfl, hg1.trans hg2⟩
  · rw [gd_bad hp hc]
    rw [hp] at HP
    replace HP := Lib.hid HP
    clear hp
    go_enter Tryz.func77, Tryz.ntmps77
    go_wp2_with fail
    refine (HP.out _).mono ?_
    rintro e w1 ⟨v1, rfl, ho1, hg1, hz1⟩
    obtain rfl := hz1 rfl
    go_wp2_with fail
    go_ret
    exact ⟨rfl, hg1⟩
end Go.Proofs.YtkjmfkllmljdeaaGreat

/- A predicate on nodes: IndexFunc, ContainsFunc. -/
namespace Go.Proofs.YtkjmfkllmljdeaaGreat
open Go.RowKit
open Fm (Nd)

/-- None of the first k nodes meets the predicate. -/
def NoneP (p : Int → Int → Bool) (xs : List Nd) (k : Nat) : Prop := ∀ i, i < k → p (kd xs i) (sy xs i) = false
theorem NoneP.zero (p : Int → Int → Bool) (xs : List Nd) : NoneP p xs 0 := fun i hi => absurd hi (by omega)
theorem NoneP.succ {p : Int → Int → Bool} {xs : List Nd} {k : Nat} (h : NoneP p xs k) (h1 : p (kd xs k) (sy xs k) = false) : NoneP p xs (k + 1) := by
  intro i hi
  rcases Nat.lt_or_ge i k with hk | hk
  · exact h i hk
  · obtain rfl : i = k := by omega
    exact h1
/-- Some node meets the predicate. -/
noncomputable def anyP (p : Int → Int → Bool) (xs : List Nd) : Bool := !@decide (NoneP p xs xs.length) (Classical.propDecidable _)
theorem anyP_no {p : Int → Int → Bool} {xs : List Nd} (h : NoneP p xs xs.length) : anyP p xs = false := by
  unfold anyP
  rw [@decide_eq_true _ (Classical.propDecidable _) h]
  rfl
theorem anyP_at {p : Int → Int → Bool} {xs : List Nd} {k : Nat} (hk : k < xs.length) (h : p (kd xs k) (sy xs k) = true) : anyP p xs = true := by
  unfold anyP
  rw [@decide_eq_false _ (Classical.propDecidable _) fun H => by rw [H k hk] at h; cases h]
  rfl

/-- What the function value gives at a node. -/
def PredOk (f : Nat) (p : Int → Int → Bool) : Prop := ∀ a b W, Calls Tryz.prog f #[.agg #[.int .i64 a, .int .i64 b]] W fun e w' => e = .returned (.bool (p a b)) ∧ Grew W w'

theorem indexFunc_c (v : Value) (xs : List Nd) (f : Nat) (p : Int → Int → Bool) (w : World) (h : Nodes w v xs) (hn : xs.length ≤ 1099511627776) (hf : PredOk f p) (eg : ∀ args w, (callFunc f args).run Tryz.prog w = .ok (.enter f args) w) :
    Calls Tryz.prog 101 #[v, .func (.func f) #[] #[]] w fun e w' => ∃ r : Int, e = .returned (.int .i64 r) ∧ Grew w w' ∧ decide (0 ≤ r) = anyP p xs := by
  rcases h.open_ with ⟨rfl, rfl⟩ | ⟨b, o, c, rfl, hc, hm, hb, hcell⟩
  · rw [anyP_no (NoneP.zero _ _)]
    clear h hf
    go_enter Tryz.func101, Tryz.ntmps101
    go_wp2_with fail
    refine wp_loop_rounds 1 ?_; rw [rounds_succ]
    go_wp2_with fail
    go_ret
    exact ⟨_, rfl, Grew.refl _, rfl⟩
  obtain ⟨R, hR⟩ : ∃ R, R = anyP p xs := ⟨_, rfl⟩
  rw [← hR]
  have HA := Lib.hid (fun k hk h => hR.trans (@anyP_at p xs k hk h))
  have HZ := Lib.hid (fun h => hR.trans (@anyP_no p xs h))
  have HC := Lib.hid hcell
  have HF := Lib.hid hf
  clear hcell h hf hR
  generalize hN : xs.length = n at *
  clear hN
  go_enter Tryz.func101, Tryz.ntmps101
  go_wp2_with fail
  go_loopw [5, 8] (fun _ i wr => ∃ j : Nat, j ≤ n ∧ i = .int .i64 j ∧ Grew w wr ∧ Hid (NoneP p xs j)) (fun _ i _ => n - (intOf i).toNat)
  case atStart => exact ⟨0, Nat.zero_le _, rfl, Grew.refl _, NoneP.zero _ _⟩
  case round =>
    obtain ⟨j, hj, rfl, hB, HJ⟩ := hrel
    by_cases hlt : j < n
    · have k1 := (HC.out j hlt _ hB).1
      have k2 := (HC.out j hlt _ hB).2
      have hA := Lib.hid (HA.out j hlt)
      have hS := Lib.hid (fun h => HJ.out.succ (k := j) h)
      generalize kd xs j = x at *
      generalize sy xs j = y at *
      go_wp2_with fail
      go_at_fn f
      refine (HF.out x y _).mono ?_
      rintro e w1 ⟨rfl, hg1⟩
      have hB1 := hB.trans hg1
      cases hp : p x y with
      | true =>
        have hv := hA.out hp
        go_wp2_with fail
        go_ret
        exact ⟨_, rfl, hB1, by rw [hv]; simp⟩
      | false =>
        have hs := Lib.hid (hS.out hp)
        go_wp2_with fail
        go_roundw
        case rel => exact ⟨j + 1, by omega, by go_num, hB1, hs⟩
        case measure => simp [intOf]; omega
    · obtain rfl : j = n := by omega
      have hv := Lib.hid (HZ.out HJ.out)
      go_wp2_with fail
      go_ret
      exact ⟨_, rfl, hB, by rw [hv.out]; rfl⟩

theorem containsFunc_c (v : Value) (xs : List Nd) (f : Nat) (p : Int → Int → Bool) (w : World) (h : Nodes w v xs) (hn : xs.length ≤ 1099511627776) (hf : PredOk f p) (eg : ∀ args w, (callFunc f args).run Tryz.prog w = .ok (.enter f args) w) :
    Calls Tryz.prog 88 #[v, .func (.func f) #[] #[]] w fun e w' => e = .returned (.bool (anyP p xs)) ∧ Grew w w' := by
  have HI := Lib.hid (indexFunc_c v xs f p w h hn hf eg)
  clear h hf eg
  generalize anyP p xs = R at *
  go_enter Tryz.func88, Tryz.ntmps88
  go_wp2_with fail
  refine HI.out.mono ?_
  rintro e w1 ⟨r, rfl, hg1, hr⟩
  go_wp2_with fail
  go_ret
  exact ⟨by rw [← hr]; rfl, hg1⟩

end Go.Proofs.YtkjmfkllmljdeaaGreat

/- isPlain of the program, l02Plain of the reference. -/
namespace Go.Proofs.YtkjmfkllmljdeaaGreat
open Go.RowKit
open Fm (Nd)

def isBD (a _b : Int) : Bool := a == 5 || a == 6
theorem isModal_c (a : Int) (w : World) : Calls Tryz.prog 90 #[.int .i64 a] w fun e w' => e = .returned (.bool (a == 5 || a == 6)) ∧ Grew w w' := by
  cases h : (a == 5) with
  | true =>
    go_enter Tryz.func90, Tryz.ntmps90
    go_wp2_with fail
    go_ret
    exact ⟨rfl, Grew.refl _⟩
  | false =>
    go_enter Tryz.func90, Tryz.ntmps90
    go_wp2_with fail
    go_ret
    exact ⟨by simp, Grew.refl _⟩
theorem isPlain1_ok : PredOk 89 isBD := by
  intro a b w
  go_enter Tryz.func89, Tryz.ntmps89
  go_wp2_with fail
  refine (isModal_c _ _).mono ?_
  rintro e w1 ⟨rfl, hg1⟩
  go_wp2_with fail
  go_ret
  exact ⟨rfl, Grew.of_alloc hg1⟩
theorem isPlain_c (v : Value) (xs : List Nd) (w : World) (h : Nodes w v xs) (hn : xs.length ≤ 1099511627776) :
    Calls Tryz.prog 78 #[v] w fun e w' => e = .returned (.bool (!anyP isBD xs)) ∧ Grew w w' := by
  have HI := Lib.hid (containsFunc_c v xs _ _ w h hn isPlain1_ok (enters_of Tryz.func89 (by kernel_rfl) rfl))
  clear h
  generalize anyP isBD xs = R at *
  go_enter Tryz.func78, Tryz.ntmps78
  go_wp2_with fail
  refine HI.out.mono ?_
  rintro e w1 ⟨rfl, hg1⟩
  go_wp2_with fail
  go_ret
  exact ⟨rfl, hg1⟩

theorem l02Plain_c (v : Value) (xs : List Nd) (w : World) (h : Nodes w v xs) (hn : xs.length ≤ 1099511627776) :
    Calls Tryz.prog 70 #[v] w fun e w' => e = .returned (.bool (!anyP isBD xs)) ∧ Grew w w' := by
  rcases h.open_ with ⟨rfl, rfl⟩ | ⟨b, o, c, rfl, hc, hm, hb, hcell⟩
  · rw [anyP_no (NoneP.zero _ _)]
    clear h
    go_enter Tryz.func70, Tryz.ntmps70
    go_wp2_with fail
    refine wp_loop_rounds 1 ?_; rw [rounds_succ]
    go_wp2_with fail
    go_ret
    exact ⟨rfl, Grew.refl _⟩
  obtain ⟨R, hR⟩ : ∃ R, R = anyP isBD xs := ⟨_, rfl⟩
  rw [← hR]
  have HA := Lib.hid (fun k hk h => hR.trans (@anyP_at isBD xs k hk h))
  have HZ := Lib.hid (fun h => hR.trans (@anyP_no isBD xs h))
  have HC := Lib.hid hcell
  clear hcell h hR
  generalize hN : xs.length = n at *
  clear hN
  go_enter Tryz.func70, Tryz.ntmps70
  go_wp2_with fail
  go_loopw [3] (fun i wr => ∃ j : Nat, j ≤ n ∧ i = .int .i64 j ∧ Grew w wr ∧ Hid (NoneP isBD xs j)) (fun i _ => n - (intOf i).toNat)
  case atStart => exact ⟨0, Nat.zero_le _, rfl, Grew.refl _, NoneP.zero _ _⟩
  case round =>
    obtain ⟨j, hj, rfl, hB, HJ⟩ := hrel
    by_cases hlt : j < n
    · have k1 := (HC.out j hlt _ hB).1
      have hA := Lib.hid (HA.out j hlt)
      have hS := Lib.hid (fun h => HJ.out.succ (k := j) h)
      generalize kd xs j = x at *
      generalize sy xs j = y at *
      cases h5 : (x == 5) with
      | true =>
        have hv := Lib.hid (hA.out (by simp [isBD, h5]))
        go_wp2_with fail
        go_ret
        rw [hv.out]
        exact ⟨rfl, hB⟩
      | false =>
        cases h6 : (x == 6) with
        | true =>
          have hv := Lib.hid (hA.out (by simp [isBD, h6]))
          go_wp2_with fail
          go_ret
          rw [hv.out]
          exact ⟨rfl, hB⟩
        | false =>
          have hs := Lib.hid (hS.out (by simp [isBD, h5, h6]))
          go_wp2_with fail
          go_roundw
          case rel => exact ⟨j + 1, by omega, by go_num, hB, hs⟩
          case measure => simp [intOf]; omega
    · obtain rfl : j = n := by omega
      have hv := Lib.hid (HZ.out HJ.out)
      go_wp2_with fail
      go_ret
      rw [hv.out]
      exact ⟨rfl, hB⟩
end Go.Proofs.YtkjmfkllmljdeaaGreat

/- Is a text that of a plain formula? -/
namespace Go.Proofs.YtkjmfkllmljdeaaGreat
open Go.RowKit
open Fm (Nd)

/-- The text is the text of a plain formula. -/
noncomputable def gp (s : ByteArray) : Bool := gd s && !anyP isBD (Fm.pf s).1

def GivesP (w : World) (s : ByteArray) (e : Ending) (w' : World) : Prop := ∃ v, e = .returned (.tuple #[v, .bool (gp s)]) ∧ Own w' w.heap.size v (Fm.pf s).1 ∧ Grew w w'

theorem isPlainText_c (s : ByteArray) (w : World) (hs : s.size ≤ 140737488355328) :
    Calls Tryz.prog 59 #[.string s] w fun e w' => e = .returned (.bool (gp s)) ∧ Grew w w' := by
  have HG := fun w => isText_c s w hs
  have HR := fun w => parsed_c s w hs
  have hn := Fm.pf_len s
  unfold gp
  generalize (Fm.pf s).1 = xs at *
  have HP := Lib.hid (fun v w h => isPlain_c v xs w h (by omega))
  replace HR := Lib.hid HR
  generalize anyP isBD xs = q at *
  cases hg : gd s with
  | true =>
    rw [hg] at HG
    replace HG := Lib.hid HG
    clear hg
    go_enter Tryz.func59, Tryz.ntmps59
    go_wp2_with fail
    refine (HG.out _).mono ?_
    rintro e w1 ⟨rfl, hg1⟩
    go_wp2_with fail
    refine (HR.out _).mono ?_
    rintro e w2 ⟨v2, rfl, ho2, hg2, _⟩
    go_wp2_with fail
    refine (HP.out _ _ ho2.nodes).mono ?_
    rintro e w3 ⟨rfl, hg3⟩
    go_wp2_with fail
    go_ret
    exact ⟨rfl, (hg1.trans hg2).trans hg3⟩
  | false =>
    rw [hg] at HG
    replace HG := Lib.hid HG
    clear hg
    go_enter Tryz.func59, Tryz.ntmps59
    go_wp2_with fail
    refine (HG.out _).mono ?_
    rintro e w1 ⟨rfl, hg1⟩
    go_wp2_with fail
    go_ret
    exact ⟨rfl, hg1⟩
end Go.Proofs.YtkjmfkllmljdeaaGreat

/- Plain formulas of the size of a text, and their texts. No program is in sight. -/
namespace Go.Proofs.YtkjmfkllmljdeaaGreat
open Go.RowKit

/-- The text of a formula. -/
def tx (A : Fm.Tree) : ByteArray := bs (Fm.txt A 0)
/-- A formula of the size of a text. -/
def FmOk (A : Fm.Tree) : Prop := (Fm.enc A).length ≤ 40 ∧ anyP isBD (Fm.enc A) = false
theorem tx_pf {A : Fm.Tree} (h : (Fm.enc A).length ≤ 40) : Fm.pf (tx A) = (Fm.enc A, 0, 0) := Fm.pf_txt A (by have := Fm.txt_len A 0; omega) h
theorem tx_size {A : Fm.Tree} (h : (Fm.enc A).length ≤ 40) : (tx A).size ≤ 160 := by
  unfold tx
  rw [bs_size]
  have := Fm.txt_len A 0
  omega
theorem tx_inj {A B : Fm.Tree} (ha : (Fm.enc A).length ≤ 40) (hb : (Fm.enc B).length ≤ 40) (h : tx A = tx B) : A = B := by
  have h1 := tx_pf ha
  rw [h, tx_pf hb] at h1
  simp only [Prod.mk.injEq, and_true] at h1
  exact (enc_inj h1).symm
theorem gp_tx {A : Fm.Tree} (h : FmOk A) : gp (tx A) = true := by
  unfold gp
  rw [gd_true ⟨A, tx_pf h.1, rfl⟩, tx_pf h.1]
  simp [h.2]
theorem gp_tree {s : ByteArray} (h : gp s = true) : ∃ A, FmOk A ∧ tx A = s := by
  unfold gp at h
  simp only [Bool.and_eq_true, Bool.not_eq_true'] at h
  have hg : IsGood s := by
    by_cases hg : IsGood s
    · exact hg
    · rw [gd_false hg] at h; exact absurd h.1 (by simp)
  obtain ⟨A, h1, h2⟩ := hg
  have hl := Fm.pf_len s
  rw [h1] at hl h
  exact ⟨A, ⟨hl, h.2⟩, h2⟩
theorem tx_ne (A : Fm.Tree) : (tx A).toList.isEmpty = false := by
  have h1 := Fm.txt_pos A 0
  unfold tx
  cases he : Fm.txt A 0 with
  | nil => rw [he] at h1; simp at h1
  | cons x xs =>
    have := Lib.bytes_beq_iff (bs (x :: xs)) ByteArray.empty
    cases hq : (bs (x :: xs)).toList.isEmpty with
    | false => rfl
    | true =>
      exfalso
      have h2 : (bs (x :: xs)).toList = ByteArray.empty.toList := by
        rw [List.isEmpty_iff] at hq
        rw [hq]; exact (by unfold ByteArray.toList ByteArray.toList.loop; rfl : ([] : List UInt8) = ByteArray.empty.toList)
      have h3 := this.1 (by rw [h2]; simp)
      have h4 := congrArg ByteArray.size h3
      rw [bs_size] at h4
      simp at h4

/-- The formula that a text is the text of. -/
noncomputable def fo (s : ByteArray) : Fm.Tree := @dite _ (gp s = true) (Classical.propDecidable _) (fun h => Classical.choose (gp_tree h)) (fun _ => .fls)
theorem fo_ok {s : ByteArray} (h : gp s = true) : FmOk (fo s) ∧ tx (fo s) = s := by
  unfold fo
  rw [dif_pos h]
  exact Classical.choose_spec (gp_tree h)

/-- The formula, if it has not too many nodes. -/
def smallF (A : Fm.Tree) : Option Fm.Tree := if (Fm.enc A).length ≤ 40 then some A else none
theorem anyP_mem {p : Int → Int → Bool} {xs : List Fm.Nd} : anyP p xs = false ↔ ∀ x ∈ xs, p x.1 x.2 = false := by
  constructor
  · intro h x hx
    obtain ⟨i, hi, rfl⟩ := List.getElem_of_mem hx
    cases hq : p xs[i].1 xs[i].2 with
    | false => rfl
    | true =>
      have := anyP_at (p := p) hi (by simpa [kd, sy, List.getD, hi] using hq)
      rw [this] at h; cases h
  · intro h
    apply anyP_no
    intro i hi
    have := h xs[i] (List.getElem_mem hi)
    simpa [kd, sy, List.getD, hi] using this
theorem FmOk.bin {k : Int} {A B : Fm.Tree} {C : Fm.Tree} (he : Fm.enc C = (k, 0) :: (Fm.enc A ++ Fm.enc B)) (h : FmOk C) : FmOk A ∧ FmOk B := by
  obtain ⟨h1, h2⟩ := h
  rw [he] at h1 h2
  rw [anyP_mem] at h2
  simp only [List.length_cons, List.length_append] at h1
  exact ⟨⟨by omega, anyP_mem.2 fun x hx => h2 x (by simp [hx])⟩, ⟨by omega, anyP_mem.2 fun x hx => h2 x (by simp [hx])⟩⟩
theorem FmOk.join {k : Int} {A B : Fm.Tree} {C : Fm.Tree} (he : Fm.enc C = (k, 0) :: (Fm.enc A ++ Fm.enc B)) (hk : k ≠ 5 ∧ k ≠ 6) (hA : FmOk A) (hB : FmOk B) (hl : (Fm.enc C).length ≤ 40) : FmOk C := by
  refine ⟨hl, anyP_mem.2 ?_⟩
  rw [he]
  intro x hx
  simp only [List.mem_cons, List.mem_append] at hx
  rcases hx with rfl | hx | hx
  · unfold isBD
    have h5 : (k == 5) = false := by simpa using hk.1
    have h6 : (k == 6) = false := by simpa using hk.2
    show (k == 5 || k == 6) = false
    rw [h5, h6]; rfl
  · exact anyP_mem.1 hA.2 x hx
  · exact anyP_mem.1 hB.2 x hx
theorem smallF_ok {A B : Fm.Tree} (h : smallF A = some B) : A = B ∧ (Fm.enc B).length ≤ 40 := by
  unfold smallF at h
  split at h
  · simp at h; subst h; exact ⟨rfl, ‹_›⟩
  · cases h
theorem fmOk_and {p q : Fm.Tree} (h : FmOk (.and p q)) : FmOk p ∧ FmOk q := FmOk.bin (k := 2) rfl h
theorem fmOk_or {p q : Fm.Tree} (h : FmOk (.or p q)) : FmOk p ∧ FmOk q := FmOk.bin (k := 3) rfl h
theorem fmOk_imp {p q : Fm.Tree} (h : FmOk (.imp p q)) : FmOk p ∧ FmOk q := FmOk.bin (k := 4) rfl h
theorem small_and {p q B : Fm.Tree} (hp : FmOk p) (hq : FmOk q) (h : smallF (.and p q) = some B) : FmOk B := by
  obtain ⟨rfl, hl⟩ := smallF_ok h
  exact FmOk.join (k := 2) rfl (by decide) hp hq hl
theorem small_or {p q B : Fm.Tree} (hp : FmOk p) (hq : FmOk q) (h : smallF (.or p q) = some B) : FmOk B := by
  obtain ⟨rfl, hl⟩ := smallF_ok h
  exact FmOk.join (k := 3) rfl (by decide) hp hq hl
theorem small_imp {p q B : Fm.Tree} (hp : FmOk p) (hq : FmOk q) (h : smallF (.imp p q) = some B) : FmOk B := by
  obtain ⟨rfl, hl⟩ := smallF_ok h
  exact FmOk.join (k := 4) rfl (by decide) hp hq hl
end Go.Proofs.YtkjmfkllmljdeaaGreat

/- Formulas of two parts. -/
namespace Go.Proofs.YtkjmfkllmljdeaaGreat
open Go.RowKit

/-- The formula has two parts. -/
def TwoF (A p q : Fm.Tree) : Prop := Fm.enc A = (kindOf A, 0) :: (Fm.enc p ++ Fm.enc q)
theorem TwoF.len {A p q : Fm.Tree} (h : TwoF A p q) : (Fm.enc A).length = 1 + (Fm.enc p).length + (Fm.enc q).length := by rw [h]; simp; omega
end Go.Proofs.YtkjmfkllmljdeaaGreat

/- The parts of a formula by its text; what holds as a Boolean. No program is in sight. -/
namespace Go.Proofs.YtkjmfkllmljdeaaGreat
open Go.RowKit

/-- Texts on the left, a text on the right. -/
abbrev Jg := List ByteArray × ByteArray
/-- The parts of a formula with two parts. -/
def lft : Fm.Tree → Fm.Tree
  | .and p _ => p
  | .or p _ => p
  | .imp p _ => p
  | t => t
def rgt : Fm.Tree → Fm.Tree
  | .and _ q => q
  | .or _ q => q
  | .imp _ q => q
  | t => t
/-- The kind of the formula of a text, the texts of its parts. -/
noncomputable def kT (s : ByteArray) : Int := kindOf (fo s)
noncomputable def pl (s : ByteArray) : ByteArray := tx (lft (fo s))
noncomputable def pr (s : ByteArray) : ByteArray := tx (rgt (fo s))
def txF : ByteArray := ⟨#[70]⟩

noncomputable def dcd (p : Prop) : Bool := @decide p (Classical.propDecidable _)
theorem dcd_true {p : Prop} (h : p) : dcd p = true := @decide_eq_true _ (Classical.propDecidable _) h
theorem dcd_false {p : Prop} (h : ¬ p) : dcd p = false := @decide_eq_false _ (Classical.propDecidable _) h
theorem of_dcd {p : Prop} (h : dcd p = true) : p := @of_decide_eq_true _ (Classical.propDecidable _) h
theorem not_dcd {p : Prop} (h : dcd p = false) : ¬ p := @of_decide_eq_false _ (Classical.propDecidable _) h
theorem dcd_congr {p q : Prop} (h : p ↔ q) : dcd p = dcd q := by rw [propext h]
theorem two_of {s : ByteArray} (h : gp s = true) (hk : kT s = 2 ∨ kT s = 3 ∨ kT s = 4) : TwoF (fo s) (lft (fo s)) (rgt (fo s)) ∧ FmOk (fo s) ∧ tx (fo s) = s := by
  obtain ⟨h1, h2⟩ := fo_ok h
  refine ⟨?_, h1, h2⟩
  unfold kT at hk
  cases hf : fo s with
  | and p q => rfl
  | or p q => rfl
  | imp p q => rfl
  | var v => rw [hf] at hk; simp [kindOf] at hk
  | fls => rw [hf] at hk; simp [kindOf] at hk
  | box p => rw [hf] at hk; simp [kindOf] at hk
  | dia p => rw [hf] at hk; simp [kindOf] at hk

end Go.Proofs.YtkjmfkllmljdeaaGreat

/- Two lists of strings compared: slices.Equal of the program, l01Words and l25Same of the reference. -/
namespace Go.Proofs.YtkjmfkllmljdeaaGreat
open Go.RowKit

/-- The first k strings are the same. -/
def AgreeS (xs ys : List ByteArray) (k : Nat) : Prop := ∀ i, i < k → st xs i = st ys i
theorem AgreeS.zero (xs ys : List ByteArray) : AgreeS xs ys 0 := fun i hi => absurd hi (by omega)
theorem AgreeS.succ {xs ys : List ByteArray} {k : Nat} (h : AgreeS xs ys k) (h1 : st xs k = st ys k) : AgreeS xs ys (k + 1) := by
  intro i hi
  rcases Nat.lt_or_ge i k with hk | hk
  · exact h i hk
  · obtain rfl : i = k := by omega
    exact h1
theorem agreeS_all {xs ys : List ByteArray} (hl : xs.length = ys.length) (h : AgreeS xs ys xs.length) : xs = ys := by
  apply List.ext_getElem hl
  intro i h1 h2
  rw [st_get h1, st_get h2]
  exact h i h1
theorem bytes_ne {a b : ByteArray} (h : a ≠ b) : (a.toList == b.toList) = false := by
  cases hq : (a.toList == b.toList) with
  | false => rfl
  | true => exact absurd ((Lib.bytes_beq_iff _ _).1 hq) h

theorem equalS_c (v1 v2 : Value) (xs ys : List ByteArray) (w : World) (h1 : Strs w v1 xs) (h2 : Strs w v2 ys) :
    Calls Tryz.prog 68 #[v1, v2] w fun e w' => e = .returned (.bool (@decide (xs = ys) (Classical.propDecidable _))) ∧ Grew w w' := by
  by_cases hl : xs.length = ys.length
  · rcases h1.open_ with ⟨rfl, rfl⟩ | ⟨b1, o1, c1, rfl, hc1, hm1, hb1, hf⟩
    · obtain rfl : ys = [] := List.eq_nil_of_length_eq_zero (by simpa using hl.symm)
      obtain ⟨A, c, rfl⟩ := strs_slice h2
      simp only [List.length_nil]
      clear hl h1 h2
      go_enter Tryz.func68, Tryz.ntmps68
      go_wp2_with fail
      refine wp_loop_rounds 1 ?_; rw [rounds_succ]
      go_wp2_with fail
      go_ret
      exact ⟨by simp, Grew.refl _⟩
    · rcases h2.open_ with ⟨rfl, rfl⟩ | ⟨b2, o2, c2, rfl, hc2, hm2, hb2, hh⟩
      · obtain rfl : xs = [] := List.eq_nil_of_length_eq_zero (by simpa using hl)
        simp only [List.length_nil]
        clear hl hf h1 h2
        go_enter Tryz.func68, Tryz.ntmps68
        go_wp2_with fail
        refine wp_loop_rounds 1 ?_; rw [rounds_succ]
        go_wp2_with fail
        go_ret
        exact ⟨by simp, Grew.refl _⟩
      · clear h1 h2
        have HE := Lib.hid (fun h => agreeS_all hl h)
        rw [← hl] at hc2 hh ⊢
        have HF := Lib.hid hf
        have HH := Lib.hid hh
        have HX := Lib.hid (fun (h : xs = ys) (i : Nat) => (by rw [h] : st xs i = st ys i))
        obtain ⟨D, hD⟩ : ∃ D, D = @decide (xs = ys) (Classical.propDecidable _) := ⟨_, rfl⟩
        rw [← hD]
        have HD := Lib.hid hD
        clear hl hf hh hD
        generalize hN : xs.length = n at *
        clear hN
        go_enter Tryz.func68, Tryz.ntmps68
        go_wp2_with fail
        go_loopg [4, 13] n (fun k _ i wr => ∃ j : Nat, j ≤ n ∧ k = n - j ∧ i = .int .i64 j ∧ Grew w wr ∧ Hid (AgreeS xs ys j))
        case atStart => exact ⟨0, Nat.zero_le _, by omega, rfl, Grew.refl _, AgreeS.zero _ _⟩
        case round =>
          obtain ⟨j, hj, rfl, rfl, hB, HA⟩ := hrel
          by_cases hlt : j < n
          · have k1 : ∀ W, Grew w W → W.cell? ⟨b1, o1 + j, none⟩ = some (.string (st xs j)) := fun W hW => HF.out j hlt W hW
            have k3 : ∀ W, Grew w W → W.cell? ⟨b2, o2 + j, none⟩ = some (.string (st ys j)) := fun W hW => HH.out j hlt W hW
            by_cases he : st xs j = st ys j
            · have HB := Lib.hid (HA.out.succ he)
              rw [he] at k1
              have hq : ((st ys j).toList != (st ys j).toList) = false := by simp
              clear he HA
              generalize st ys j = z at *
              go_wp2_with fail
              go_quiet (fail)
              go_wp2_with fail
              go_roundg (n - (j + 1))
              case measure => omega
              case rel => exact ⟨j + 1, by omega, rfl, by go_num, hB.drewN _, HB⟩
            · have hv : Hid (D = false) := Lib.hid (by rw [HD.out]; exact @decide_eq_false _ (Classical.propDecidable _) fun h => he (HX.out h j))
              have hb1 := bytes_ne he
              have hq : ((st xs j).toList != (st ys j).toList) = true := by rw [bne, hb1]; rfl
              have hq2 : (!(st xs j).toList == (st ys j).toList) = true := by rw [hb1]; rfl
              clear he HA hb1
              generalize st ys j = z at *
              generalize st xs j = y at *
              go_wp2_with fail
              go_quiet (fail)
              go_wp2_with fail
              go_ret
              rw [hv.out]
              exact ⟨rfl, hB.drewN _⟩
          · have hjn : j = n := by omega
            subst hjn
            have hv : Hid (D = true) := Lib.hid (by rw [HD.out]; exact @decide_eq_true _ (Classical.propDecidable _) (HE.out HA.out))
            go_wp2_with fail
            go_ret
            rw [hv.out]
            exact ⟨rfl, hB⟩
  · have hne : xs ≠ ys := fun h => hl (by rw [h])
    rw [@decide_eq_false _ (Classical.propDecidable _) hne]
    obtain ⟨A, c, rfl⟩ := strs_slice h1
    obtain ⟨B, d, rfl⟩ := strs_slice h2
    have hl' : (((xs.length : Nat) : Int) != ((ys.length : Nat) : Int)) = true := by simp; omega
    clear hl h1 h2 hne
    generalize xs.length = n at *
    generalize ys.length = m at *
    go_enter Tryz.func68, Tryz.ntmps68
    go_wp2_with fail
    go_ret
    exact ⟨rfl, Grew.refl _⟩

theorem l01Words_c (v1 v2 : Value) (xs ys : List ByteArray) (w : World) (h1 : Strs w v1 xs) (h2 : Strs w v2 ys) :
    Calls Tryz.prog 74 #[v1, v2] w fun e w' => e = .returned (.bool (@decide (xs = ys) (Classical.propDecidable _))) ∧ Grew w w' := by
  by_cases hl : xs.length = ys.length
  · rcases h1.open_ with ⟨rfl, rfl⟩ | ⟨b1, o1, c1, rfl, hc1, hm1, hb1, hf⟩
    · obtain rfl : ys = [] := List.eq_nil_of_length_eq_zero (by simpa using hl.symm)
      obtain ⟨A, c, rfl⟩ := strs_slice h2
      simp only [List.length_nil]
      clear hl h1 h2
      go_enter Tryz.func74, Tryz.ntmps74
      go_wp2_with fail
      refine wp_loop_rounds 1 ?_; rw [rounds_succ]
      go_wp2_with fail
      go_ret
      exact ⟨by simp, Grew.refl _⟩
    · rcases h2.open_ with ⟨rfl, rfl⟩ | ⟨b2, o2, c2, rfl, hc2, hm2, hb2, hh⟩
      · obtain rfl : xs = [] := List.eq_nil_of_length_eq_zero (by simpa using hl)
        simp only [List.length_nil]
        clear hl hf h1 h2
        go_enter Tryz.func74, Tryz.ntmps74
        go_wp2_with fail
        refine wp_loop_rounds 1 ?_; rw [rounds_succ]
        go_wp2_with fail
        go_ret
        exact ⟨by simp, Grew.refl _⟩
      · clear h1 h2
        have HE := Lib.hid (fun h => agreeS_all hl h)
        rw [← hl] at hc2 hh ⊢
        have HF := Lib.hid hf
        have HH := Lib.hid hh
        have HX := Lib.hid (fun (h : xs = ys) (i : Nat) => (by rw [h] : st xs i = st ys i))
        obtain ⟨D, hD⟩ : ∃ D, D = @decide (xs = ys) (Classical.propDecidable _) := ⟨_, rfl⟩
        rw [← hD]
        have HD := Lib.hid hD
        clear hl hf hh hD
        generalize hN : xs.length = n at *
        clear hN
        go_enter Tryz.func74, Tryz.ntmps74
        go_wp2_with fail
        go_loopg [5] n (fun k i wr => ∃ j : Nat, j ≤ n ∧ k = n - j ∧ i = .int .i64 j ∧ Grew w wr ∧ Hid (AgreeS xs ys j))
        case atStart => exact ⟨0, Nat.zero_le _, by omega, rfl, Grew.refl _, AgreeS.zero _ _⟩
        case round =>
          obtain ⟨j, hj, rfl, rfl, hB, HA⟩ := hrel
          by_cases hlt : j < n
          · have k1 : ∀ W, Grew w W → W.cell? ⟨b1, o1 + j, none⟩ = some (.string (st xs j)) := fun W hW => HF.out j hlt W hW
            have k3 : ∀ W, Grew w W → W.cell? ⟨b2, o2 + j, none⟩ = some (.string (st ys j)) := fun W hW => HH.out j hlt W hW
            by_cases he : st xs j = st ys j
            · have HB := Lib.hid (HA.out.succ he)
              rw [he] at k1
              have hq : ((st ys j).toList != (st ys j).toList) = false := by simp
              clear he HA
              generalize st ys j = z at *
              go_wp2_with fail
              go_quiet (fail)
              go_wp2_with fail
              go_roundg (n - (j + 1))
              case measure => omega
              case rel => exact ⟨j + 1, by omega, rfl, by go_num, hB.drewN _, HB⟩
            · have hv : Hid (D = false) := Lib.hid (by rw [HD.out]; exact @decide_eq_false _ (Classical.propDecidable _) fun h => he (HX.out h j))
              have hb1 := bytes_ne he
              have hq : ((st xs j).toList != (st ys j).toList) = true := by rw [bne, hb1]; rfl
              have hq2 : (!(st xs j).toList == (st ys j).toList) = true := by rw [hb1]; rfl
              clear he HA hb1
              generalize st ys j = z at *
              generalize st xs j = y at *
              go_wp2_with fail
              go_quiet (fail)
              go_wp2_with fail
              go_ret
              rw [hv.out]
              exact ⟨rfl, hB.drewN _⟩
          · have hjn : j = n := by omega
            subst hjn
            have hv : Hid (D = true) := Lib.hid (by rw [HD.out]; exact @decide_eq_true _ (Classical.propDecidable _) (HE.out HA.out))
            go_wp2_with fail
            go_ret
            rw [hv.out]
            exact ⟨rfl, hB⟩
  · have hne : xs ≠ ys := fun h => hl (by rw [h])
    rw [@decide_eq_false _ (Classical.propDecidable _) hne]
    obtain ⟨A, c, rfl⟩ := strs_slice h1
    obtain ⟨B, d, rfl⟩ := strs_slice h2
    have hl' : (((xs.length : Nat) : Int) != ((ys.length : Nat) : Int)) = true := by simp; omega
    clear hl h1 h2 hne
    generalize xs.length = n at *
    generalize ys.length = m at *
    go_enter Tryz.func74, Tryz.ntmps74
    go_wp2_with fail
    go_ret
    exact ⟨rfl, Grew.refl _⟩

end Go.Proofs.YtkjmfkllmljdeaaGreat

/- Rows of slices of nodes of the call's own: an append of one slice. -/
namespace Go.Proofs.YtkjmfkllmljdeaaGreat
open Go.RowKit
open Fm (Nd)

/-- A row of slices of the call's own. -/
def OwnV (w : World) (B : Nat) (v : Value) (us : List Value) : Prop := w.ownsRow B 70 1 v us.length us

theorem own_app {w w' : World} {B B' : Nat} {u v : Value} {xs : List Nd} {us : List Value} (h : Own w B u xs) (hv : OwnV w B' v us) (hg : w.grownBy w' v.ownBlock) : Own w' B u xs := by
  rcases hv.2 with ⟨rfl, _⟩ | ⟨g, cap, cur, rfl, _, hh, _⟩
  · exact own_grew h (by
      have hg' : w.grownBy w' none := hg
      exact ⟨hg'.os, hg'.tape, hg'.output, hg'.size, fun i hi => hg'.block i hi (by simp)⟩)
  · exact own_only h (show Only g w w' from hg) (own_ne h hh (by decide))

theorem infoSl : (Tryz.prog.info? 70).map (fun i => (i.zero, i.size, i.bytes)) = some (some (.slice none 0 0), 1, 24) := by kernel_rfl

theorem wpList_appV {ops : Array Oper} {rest : List Oper} {o : Oper} {a : Act} {Q : Exit → Act → World → Prop} {w w0 : World} (s x : Operand) (hgd : o.guard = none)
    (ho : o.op = .call { callee := .builtin .append, args := #[s, x], argTypes := #[100, 100] })
    (v : Value) (us : List Value) (hs : a.eval s = v) (hown : OwnV w w0.heap.size v us) (hg : Grew w0 w) (vx u : Value) (hx : a.eval x = vx) (hr : Rd w 1 vx 1 [u]) (h1 : u.oneCell' = true) (hn : us.length ≤ 1048576)
    (h : ∀ v' w', OwnV w' w0.heap.size v' (us ++ [u]) → Grew w0 w' → w.grownBy w' v.ownBlock → wpList Tryz.prog ops Q rest (a.put o.dst v') w') : wpList Tryz.prog ops Q (o :: rest) a w := by
  obtain ⟨i0, hi0, hz0, hz1, hz2⟩ := info_parts infoSl
  refine wpList_append_rd w hgd s x _ ho w0.heap.size 70 i0 _ 1 24 Tryz.underlying100 hi0 hz0 hz1 hz2 rfl (by omega) v us.length us hs hown vx 1 [u] hx hr (by simpa using h1) (by unfold maxLen; omega) (by omega) hg.size ?_
  intro v' w' h1 h2 h3
  refine h v' w' ?_ (hg.grown h2 fun k hk => (hown.lt k hk).1) h2
  unfold OwnV
  rw [List.length_append]
  exact h1

theorem own_one {w : World} {B : Nat} {u : Value} {xs : List Nd} (h : Own w B u xs) : u.oneCell' = true := by
  obtain ⟨A, c, rfl⟩ := nodes_slice h.nodes
  rfl
theorem rd_lit (w : World) (u : Value) (t : TypeId) : Rd (w.alloc (.cells #[u] t)) 1 (.slice (some ⟨w.heap.size, 0, none⟩) 1 1) 1 [u] := by
  refine ⟨rfl, by omega, .inr ⟨w.heap.size, 0, 1, rfl, by omega, by omega, by simp, fun j x hx => ?_⟩⟩
  have hj : j = 0 := by
    have := (List.getElem?_eq_some_iff.1 hx).1
    simp at this
    omega
  subst hj
  simp at hx
  subst hx
  simp

theorem own_empty (w : World) : OwnV (w.alloc (.cells #[] 70)) w.heap.size (.slice (some ⟨w.heap.size, 0, none⟩) 0 0) [] :=
  World.ownsRow_lit (e := 70) (size := 1) w #[] 0 (Nat.le_refl _) (by omega) rfl
end Go.Proofs.YtkjmfkllmljdeaaGreat

/- Sequents in memory: rows of them, comparing them. -/
namespace Go.Proofs.YtkjmfkllmljdeaaGreat
open Go.RowKit

/-- The value reads as the list of sequents. -/
def Jgs (w : World) (v : Value) (Js : List Jg) : Prop :=
  (v = .slice none 0 0 ∧ Js = []) ∨ ∃ b o c, v = .slice (some ⟨b, o, none⟩) Js.length c ∧ Js.length ≤ c ∧ c ≤ 9223372036854775807 ∧ b < w.heap.size ∧
    ∀ i x, Js[i]? = some x → ∃ u, w.cell? ⟨b, o + i * 2, none⟩ = some u ∧ w.cell? ⟨b, o + i * 2 + 1, none⟩ = some (.string x.2) ∧ Strs w u x.1
theorem Jgs.grew {w w' : World} {v : Value} {Js : List Jg} (h : Jgs w v Js) (hg : Grew w w') : Jgs w' v Js := by
  rcases h with h | ⟨b, o, c, h1, h2, h3, h4, h5⟩
  · exact .inl h
  · refine .inr ⟨b, o, c, h1, h2, h3, Nat.lt_of_lt_of_le h4 hg.size, fun i x hx => ?_⟩
    obtain ⟨u, k1, k2, k3⟩ := h5 i x hx
    exact ⟨u, (hg.cell (p := ⟨b, o + i * 2, none⟩) h4).trans k1, (hg.cell (p := ⟨b, o + i * 2 + 1, none⟩) h4).trans k2, k3.grew hg⟩
theorem Jgs.nil_ (w : World) : Jgs w (.slice none 0 0) [] := .inl ⟨rfl, rfl⟩
theorem jgs_slice {w : World} {v : Value} {Js : List Jg} (h : Jgs w v Js) : ∃ A c, v = .slice A Js.length c := by
  rcases h with ⟨rfl, rfl⟩ | ⟨b, o, c, rfl, _⟩
  · exact ⟨_, _, rfl⟩
  · exact ⟨_, _, rfl⟩
theorem Jgs.open_ {w : World} {v : Value} {Js : List Jg} (h : Jgs w v Js) : (v = .slice none 0 0 ∧ Js = []) ∨ ∃ b o c, v = .slice (some ⟨b, o, none⟩) Js.length c ∧ Js.length ≤ c ∧ c ≤ 9223372036854775807 ∧ b < w.heap.size ∧
    ∀ i x, Js[i]? = some x → ∃ u, (∀ W, Grew w W → W.cell? ⟨b, o + i * 2, none⟩ = some u ∧ W.cell? ⟨b, o + i * 2 + 1, none⟩ = some (.string x.2)) ∧ Strs w u x.1 := by
  rcases h with h | ⟨b, o, c, h1, h2, h3, h4, h5⟩
  · exact .inl h
  · refine .inr ⟨b, o, c, h1, h2, h3, h4, fun i x hx => ?_⟩
    obtain ⟨u, k1, k2, k3⟩ := h5 i x hx
    exact ⟨u, fun W hW => ⟨(hW.cell (p := ⟨b, o + i * 2, none⟩) h4).trans k1, (hW.cell (p := ⟨b, o + i * 2 + 1, none⟩) h4).trans k2⟩, k3⟩

/-- A row of sequents of the call's own; the lists of assumptions lie wherever. -/
def jcells (ps : List (Value × Jg)) : List Value := ps.flatMap fun p => [p.1, .string p.2.2]
theorem jcells_append (ps qs : List (Value × Jg)) : jcells (ps ++ qs) = jcells ps ++ jcells qs := by simp [jcells]
theorem jcells_length (ps : List (Value × Jg)) : (jcells ps).length = ps.length * 2 := by
  induction ps with
  | nil => rfl
  | cons p ps ih => show ([p.1, .string p.2.2] ++ jcells ps).length = _; simp [ih]; omega
theorem jcells_at (ps : List (Value × Jg)) : ∀ i p, ps[i]? = some p → (jcells ps)[i * 2]? = some p.1 ∧ (jcells ps)[i * 2 + 1]? = some (.string p.2.2) := by
  induction ps with
  | nil => intro i p hi; simp at hi
  | cons x ps ih =>
    intro i p hi
    match i with
    | 0 => simp at hi; subst hi; exact ⟨rfl, rfl⟩
    | i + 1 =>
      have h := ih i p (by simpa using hi)
      have e1 : (i + 1) * 2 = i * 2 + 1 + 1 := by omega
      rw [e1]
      show ([x.1, .string x.2.2] ++ jcells ps)[i * 2 + 1 + 1]? = _ ∧ ([x.1, .string x.2.2] ++ jcells ps)[i * 2 + 1 + 1 + 1]? = _
      simpa using h
def OwnJ (w0 w : World) (B : Nat) (v : Value) (Js : List Jg) : Prop := ∃ ps : List (Value × Jg), ps.map (·.2) = Js ∧ w.ownsRow B 63 2 v Js.length (jcells ps) ∧ ∀ p ∈ ps, Strs w0 p.1 p.2.1
theorem OwnJ.nil_ (w0 w : World) (B : Nat) : OwnJ w0 w B (.slice none 0 0) [] := ⟨[], rfl, World.ownsRow_nil w B _ 2, fun p hp => by cases hp⟩
theorem OwnJ.grew {w0 w w' : World} {B : Nat} {v : Value} {Js : List Jg} (h : OwnJ w0 w B v Js) (hg : Grew w w') : OwnJ w0 w' B v Js := by
  obtain ⟨ps, h1, h2, h3⟩ := h
  exact ⟨ps, h1, own_grew h2 hg, h3⟩
theorem OwnJ.jgs {w0 w : World} {B : Nat} {v : Value} {Js : List Jg} (h : OwnJ w0 w B v Js) (hg : Grew w0 w) : Jgs w v Js := by
  obtain ⟨ps, rfl, h2, h3⟩ := h
  obtain ⟨_, _, h4⟩ := Rd.of_own h2
  rcases h4 with ⟨h5, h6⟩ | ⟨b, o, c, h5, h6, h7, h8, h9⟩
  · exact .inl ⟨h5, List.eq_nil_of_length_eq_zero h6⟩
  · refine .inr ⟨b, o, c, h5, h6, h7, h8, fun i x hx => ?_⟩
    rw [List.getElem?_map] at hx
    cases hp : ps[i]? with
    | none => rw [hp] at hx; cases hx
    | some p =>
      rw [hp] at hx
      simp at hx
      obtain ⟨e1, e2⟩ := jcells_at ps i p hp
      refine ⟨p.1, h9 _ _ e1, ?_, ?_⟩
      · rw [← hx]; exact h9 _ _ e2
      · rw [← hx]; exact (h3 p (List.mem_of_getElem? hp)).grew hg
theorem infoJ : (Tryz.prog.info? 63).map (fun i => (i.zero, i.size, i.bytes)) = some (some (.agg #[.slice none 0 0, .string ByteArray.empty]), 2, 40) := by kernel_rfl
theorem rd_litJ (w : World) (u : Value) (s : ByteArray) (t : TypeId) : Rd (w.alloc (.cells #[u, .string s] t)) 2 (.slice (some ⟨w.heap.size, 0, none⟩) 1 1) 1 [u, .string s] := by
  refine ⟨rfl, by omega, .inr ⟨w.heap.size, 0, 1, rfl, by omega, by omega, by simp, fun j x hx => ?_⟩⟩
  have hj : j = 0 ∨ j = 1 := by
    have := (List.getElem?_eq_some_iff.1 hx).1
    simp at this
    omega
  rcases hj with rfl | rfl
  · simp at hx; subst hx; simp
  · simp at hx; subst hx; simp
/-- 'out = append(out, j)', out a row of sequents of the call's own. -/
theorem wpList_appJ {ops : Array Oper} {rest : List Oper} {o : Oper} {a : Act} {Q : Exit → Act → World → Prop} {w w0 : World} (s x : Operand) (hgd : o.guard = none)
    (ho : o.op = .call { callee := .builtin .append, args := #[s, x], argTypes := #[61, 61] })
    (v : Value) (Js : List Jg) (hs : a.eval s = v) (hown : OwnJ w0 w w0.heap.size v Js) (hg : Grew w0 w) (vx u : Value) (j : Jg) (hx : a.eval x = vx) (hr : Rd w 2 vx 1 [u, .string j.2]) (hu : Strs w0 u j.1) (hn : Js.length ≤ 1048576)
    (h : ∀ v' w', OwnJ w0 w' w0.heap.size v' (Js ++ [j]) → Grew w0 w' → w.grownBy w' v.ownBlock → wpList Tryz.prog ops Q rest (a.put o.dst v') w') : wpList Tryz.prog ops Q (o :: rest) a w := by
  obtain ⟨i0, hi0, hz0, hz1, hz2⟩ := info_parts infoJ
  obtain ⟨ps, h1, h2, h3⟩ := hown
  have hu1 : u.oneCell' = true := by
    obtain ⟨A, c, rfl⟩ := strs_slice hu
    rfl
  refine wpList_append_rd w hgd s x _ ho w0.heap.size 63 i0 _ 2 40 Tryz.underlying61 hi0 hz0 hz1 hz2 rfl (by omega) v Js.length (jcells ps) hs h2 vx 1 [u, .string j.2] hx hr (by intro y hy; simp at hy; rcases hy with rfl | rfl; exact hu1; rfl) (by unfold maxLen; omega) (by omega) hg.size ?_
  intro v' w' k1 k2 k3
  refine h v' w' ⟨ps ++ [(u, j)], by rw [List.map_append, h1]; rfl, ?_, fun p hp => ?_⟩ (hg.grown k2 fun k hk => (h2.lt k hk).1) k2
  · rw [List.length_append, jcells_append]
    exact k1
  · rw [List.mem_append] at hp
    rcases hp with hp | hp
    · exact h3 p hp
    · simp at hp; subst hp; exact hu

/-- A literal of one judgement, of two. -/
theorem jgs_lit1 (w : World) (u : Value) (L : List ByteArray) (s : ByteArray) (t : TypeId) (h : Strs w u L) : Jgs (w.alloc (.cells #[u, .string s] t)) (.slice (some ⟨w.heap.size, 0, none⟩) 1 1) [(L, s)] := by
  refine .inr ⟨w.heap.size, 0, 1, rfl, by simp, by omega, by simp, fun i x hx => ?_⟩
  have hi : i = 0 := by
    have := (List.getElem?_eq_some_iff.1 hx).1
    simp at this
    omega
  subst hi
  simp at hx
  subst hx
  exact ⟨u, by simp, by simp, h.grew ((Grew.refl w).alloc _)⟩
theorem jgs_lit2 (w : World) (u u2 : Value) (L L2 : List ByteArray) (s s2 : ByteArray) (t : TypeId) (h : Strs w u L) (h2 : Strs w u2 L2) : Jgs (w.alloc (.cells #[u, .string s, u2, .string s2] t)) (.slice (some ⟨w.heap.size, 0, none⟩) 2 2) [(L, s), (L2, s2)] := by
  refine .inr ⟨w.heap.size, 0, 2, rfl, by simp, by omega, by simp, fun i x hx => ?_⟩
  have hi : i = 0 ∨ i = 1 := by
    have := (List.getElem?_eq_some_iff.1 hx).1
    simp at this
    omega
  rcases hi with rfl | rfl
  · simp at hx
    subst hx
    exact ⟨u, by simp, by simp, h.grew ((Grew.refl w).alloc _)⟩
  · simp at hx
    subst hx
    exact ⟨u2, by simp, by simp, h2.grew ((Grew.refl w).alloc _)⟩

theorem sameGoal_c (u v : Value) (j k : Jg) (w : World) (hu : Strs w u j.1) (hv : Strs w v k.1) :
    Calls Tryz.prog 50 #[.agg #[u, .string j.2], .agg #[v, .string k.2]] w fun e w' => e = .returned (.bool (dcd (j = k))) ∧ Grew w w' := by
  have KE := fun W (hW : Grew w W) => equalS_c u v j.1 k.1 W (hu.grew hW) (hv.grew hW)
  have hiff : (j = k) ↔ j.2 = k.2 ∧ j.1 = k.1 := ⟨fun h => ⟨by rw [h], by rw [h]⟩, fun h => Prod.ext h.2 h.1⟩
  rw [dcd_congr hiff]
  obtain ⟨A, c, rfl⟩ := strs_slice hu
  obtain ⟨B, d, rfl⟩ := strs_slice hv
  clear hu hv hiff
  have hal := ((Grew.refl w).alloc (.cells #[.slice A j.1.length c, .string j.2] 63)).alloc (.cells #[.slice B k.1.length d, .string k.2] 63)
  by_cases h2 : j.2 = k.2
  · have he : (j.2 = k.2 ∧ j.1 = k.1) ↔ j.1 = k.1 := ⟨fun h => h.2, fun h => ⟨h2, h⟩⟩
    rw [dcd_congr he]
    change ∀ W, Grew w W → Calls _ _ _ _ (fun e w' => e = .returned (.bool (dcd (j.1 = k.1))) ∧ Grew W w') at KE
    replace KE := Lib.hid KE
    rw [h2] at hal ⊢
    have hx : (k.2.toList == k.2.toList) = true := by simp
    clear h2 he
    generalize dcd (j.1 = k.1) = R at *
    generalize j.1.length = n at *
    generalize k.1.length = m at *
    generalize k.2 = s at *
    go_enter Tryz.func50, Tryz.ntmps50
    go_wp2_with fail
    refine (KE.out _ hal).mono ?_
    rintro e w1 ⟨rfl, hg1⟩
    go_wp2_with fail
    go_ret
    exact ⟨rfl, hal.trans hg1⟩
  · rw [dcd_false (fun h => h2 h.1)]
    have hb := bytes_ne h2
    clear KE h2
    generalize j.1.length = n at *
    generalize k.1.length = m at *
    generalize j.2 = s at *
    generalize k.2 = z at *
    go_enter Tryz.func50, Tryz.ntmps50
    go_wp2_with fail
    go_ret
    exact ⟨rfl, hal⟩

/-- The first k sequents are the same. -/
def AgreeJ (xs ys : List Jg) (k : Nat) : Prop := ∀ i, i < k → xs[i]? = ys[i]?
theorem AgreeJ.zero (xs ys : List Jg) : AgreeJ xs ys 0 := fun i hi => absurd hi (by omega)
theorem AgreeJ.succ {xs ys : List Jg} {k : Nat} (h : AgreeJ xs ys k) (h1 : xs[k]? = ys[k]?) : AgreeJ xs ys (k + 1) := by
  intro i hi
  rcases Nat.lt_or_ge i k with hk | hk
  · exact h i hk
  · obtain rfl : i = k := by omega
    exact h1
theorem agreeJ_all {xs ys : List Jg} (hl : xs.length = ys.length) (h : AgreeJ xs ys xs.length) : xs = ys := by
  apply List.ext_getElem?
  intro i
  rcases Nat.lt_or_ge i xs.length with hk | hk
  · exact h i hk
  · rw [List.getElem?_eq_none hk, List.getElem?_eq_none (by omega)]

theorem equalFuncJ_c (v1 v2 : Value) (xs ys : List Jg) (w : World) (h1 : Jgs w v1 xs) (h2 : Jgs w v2 ys) (eg : ∀ args w, (callFunc 50 args).run Tryz.prog w = .ok (.enter 50 args) w) :
    Calls Tryz.prog 49 #[v1, v2, .func (.func 50) #[] #[]] w fun e w' => e = .returned (.bool (dcd (xs = ys))) ∧ Grew w w' := by
  by_cases hl : xs.length = ys.length
  · rcases h1.open_ with ⟨rfl, rfl⟩ | ⟨b1, o1, c1, rfl, hc1, hm1, hb1, hf⟩
    · obtain rfl : ys = [] := List.eq_nil_of_length_eq_zero (by simpa using hl.symm)
      obtain ⟨A, c, rfl⟩ := jgs_slice h2
      simp only [List.length_nil]
      rw [dcd_true trivial]
      clear hl h1 h2
      go_enter Tryz.func49, Tryz.ntmps49
      go_wp2_with fail
      refine wp_loop_rounds 1 ?_; rw [rounds_succ]
      go_wp2_with fail
      go_ret
      exact ⟨rfl, Grew.refl _⟩
    · rcases h2.open_ with ⟨rfl, rfl⟩ | ⟨b2, o2, c2, rfl, hc2, hm2, hb2, hh⟩
      · obtain rfl : xs = [] := List.eq_nil_of_length_eq_zero (by simpa using hl)
        simp only [List.length_nil]
        rw [dcd_true trivial]
        clear hl hf h1 h2
        go_enter Tryz.func49, Tryz.ntmps49
        go_wp2_with fail
        refine wp_loop_rounds 1 ?_; rw [rounds_succ]
        go_wp2_with fail
        go_ret
        exact ⟨rfl, Grew.refl _⟩
      · clear h1 h2
        have HE := Lib.hid (fun h => agreeJ_all hl h)
        have HJ1 := Lib.hid (fun j (hj : j < xs.length) => (⟨xs[j], List.getElem?_eq_getElem hj⟩ : ∃ x, xs[j]? = some x))
        have HJ2 := Lib.hid (fun j (hj : j < ys.length) => (⟨ys[j], List.getElem?_eq_getElem hj⟩ : ∃ x, ys[j]? = some x))
        rw [← hl] at hc2 HJ2 ⊢
        have HF := Lib.hid hf
        have HH := Lib.hid hh
        have HX := Lib.hid (fun (h : xs = ys) (i : Nat) => (by rw [h] : xs[i]? = ys[i]?))
        obtain ⟨D, hD⟩ : ∃ D, D = dcd (xs = ys) := ⟨_, rfl⟩
        rw [← hD]
        have HD := Lib.hid hD
        clear hl hf hh hD
        generalize hN : xs.length = n at *
        clear hN
        go_enter Tryz.func49, Tryz.ntmps49
        go_wp2_with fail
        go_loopw [7, 8, 9, 17] (fun _ _ _ i wr => ∃ j : Nat, j ≤ n ∧ i = .int .i64 j ∧ Grew w wr ∧ Hid (AgreeJ xs ys j)) (fun _ _ _ i _ => n - (intOf i).toNat)
        case atStart => exact ⟨0, Nat.zero_le _, rfl, Grew.refl _, AgreeJ.zero _ _⟩
        case round =>
          obtain ⟨j, hj, rfl, hB, HA⟩ := hrel
          by_cases hlt : j < n
          · obtain ⟨x, hx⟩ := HJ1.out j hlt
            obtain ⟨y, hy⟩ := HJ2.out j hlt
            obtain ⟨u, hu, hus⟩ := HF.out j x hx
            obtain ⟨v, hv, hvs⟩ := HH.out j y hy
            have k1 := fun W (hW : Grew w W) => (hu W hW).1
            have k2 := fun W (hW : Grew w W) => (hu W hW).2
            have k3 := fun W (hW : Grew w W) => (hv W hW).1
            have k4 := fun W (hW : Grew w W) => (hv W hW).2
            obtain ⟨U, cu, rfl⟩ := strs_slice hus
            obtain ⟨V, cv, rfl⟩ := strs_slice hvs
            have KS := Lib.hid (fun W (hW : Grew w W) => sameGoal_c _ _ x y W (hus.grew hW) (hvs.grew hW))
            have HSU := Lib.hid (fun (h : x = y) => HA.out.succ (k := j) (by rw [hx, hy, h]))
            have hvd : Hid (x ≠ y → D = false) := Lib.hid (fun hne => by rw [HD.out]; exact dcd_false fun h => hne (by have := HX.out h j; rw [hx, hy] at this; exact Option.some.inj this))
            clear hx hy hu hv hus hvs
            generalize x.1.length = xl at *
            generalize y.1.length = yl at *
            have hg1 := hB.alloc (.cells #[.slice U xl cu, .string x.2] 63)
            have hg2 := (hB.alloc (.cells #[.slice U xl cu, .string x.2] 63)).alloc (.cells #[.slice V yl cv, .string y.2] 63)
            cases hq : dcd (x = y) with
            | true =>
              have HB := Lib.hid (HSU.out (of_dcd hq))
              rw [hq] at KS
              clear hq HA HSU hvd
              generalize x.2 = xs2 at *
              generalize y.2 = ys2 at *
              go_wp2_with fail
              go_at_fn 50
              refine (KS.out _ hg2).mono ?_
              rintro e w1 ⟨rfl, hg1⟩
              go_wp2_with fail
              go_roundw
              case rel => exact ⟨j + 1, by omega, by go_num, hg2.trans hg1, HB⟩
              case measure => simp [intOf]; omega
            | false =>
              have HB := Lib.hid (hvd.out (not_dcd hq))
              rw [hq] at KS
              clear hq HA HSU hvd
              generalize x.2 = xs2 at *
              generalize y.2 = ys2 at *
              go_wp2_with fail
              go_at_fn 50
              refine (KS.out _ hg2).mono ?_
              rintro e w1 ⟨rfl, hg1⟩
              go_wp2_with fail
              go_ret
              exact ⟨by rw [HB.out]; rfl, hg2.trans hg1⟩
          · have hjn : j = n := by omega
            subst hjn
            have hv : Hid (D = true) := Lib.hid (by rw [HD.out]; exact dcd_true (HE.out HA.out))
            go_wp2_with fail
            go_ret
            exact ⟨by rw [hv.out]; rfl, hB⟩
  · have hne : xs ≠ ys := fun h => hl (by rw [h])
    rw [dcd_false hne]
    obtain ⟨A, c, rfl⟩ := jgs_slice h1
    obtain ⟨B, d, rfl⟩ := jgs_slice h2
    have hl' : (((xs.length : Nat) : Int) != ((ys.length : Nat) : Int)) = true := by simp; omega
    clear hl h1 h2 hne
    generalize xs.length = n at *
    generalize ys.length = m at *
    go_enter Tryz.func49, Tryz.ntmps49
    go_wp2_with fail
    go_ret
    exact ⟨rfl, Grew.refl _⟩
end Go.Proofs.YtkjmfkllmljdeaaGreat

/- Contracts of the library (sorting, compacting strings), laid at this program. -/
namespace Go.Proofs
open Go.Shelf
def Tryz.lays190_ren : Go.Shelf.Ren := ⟨fun | 190 => 94 | 125 => 110 | 258 => 109 | 128 => 130 | 129 => 131 | 302 => 121 | 303 => 122 | 304 => 123 | 305 => 124 | 306 => 125 | 307 => 126 | 308 => 127 | 309 => 128 | 310 => 129 | 333 => 137 | 329 => 138 | 330 => 139 | 334 => 140 | 335 => 141 | 336 => 142 | 344 => 148 | n => n, fun | 31 => 37 | 9 => 9 | 3 => 3 | 46 => 118 | 0 => 0 | 51 => 136 | 53 => 138 | 4 => 4 | 183 => 128 | 182 => 127 | 131 => 133 | 5 => 5 | 218 => 140 | 222 => 144 | 228 => 148 | 229 => 149 | n => n, fun | n => n⟩
theorem Tryz.lays190 : Go.Proofs.Lays.n190 Tryz.prog Tryz.lays190_ren := {
  mixed := by kernel_rfl
  f125 := Tryz.func110.trans (congrArg some (by kernel_rfl))
  f128 := Tryz.func130.trans (congrArg some (by kernel_rfl))
  f129 := Tryz.func131.trans (congrArg some (by kernel_rfl))
  f190 := Tryz.func94.trans (congrArg some (by kernel_rfl))
  f258 := Tryz.func109.trans (congrArg some (by kernel_rfl))
  f302 := Tryz.func121.trans (congrArg some (by kernel_rfl))
  f303 := Tryz.func122.trans (congrArg some (by kernel_rfl))
  f304 := Tryz.func123.trans (congrArg some (by kernel_rfl))
  f305 := Tryz.func124.trans (congrArg some (by kernel_rfl))
  f306 := Tryz.func125.trans (congrArg some (by kernel_rfl))
  f307 := Tryz.func126.trans (congrArg some (by kernel_rfl))
  f308 := Tryz.func127.trans (congrArg some (by kernel_rfl))
  f309 := Tryz.func128.trans (congrArg some (by kernel_rfl))
  f310 := Tryz.func129.trans (congrArg some (by kernel_rfl))
  f329 := Tryz.func138.trans (congrArg some (by kernel_rfl))
  f330 := Tryz.func139.trans (congrArg some (by kernel_rfl))
  f333 := Tryz.func137.trans (congrArg some (by kernel_rfl))
  f334 := Tryz.func140.trans (congrArg some (by kernel_rfl))
  f335 := Tryz.func141.trans (congrArg some (by kernel_rfl))
  f336 := Tryz.func142.trans (congrArg some (by kernel_rfl))
  f344 := Tryz.func148.trans (congrArg some (by kernel_rfl))
  t0 := Tryz.underlying0
  a0 := Tryz.isAgg0
  z0 := Tryz.sizeOf0
  v0 := Tryz.zeroValue0
  t3 := Tryz.underlying3
  a3 := Tryz.isAgg3
  z3 := Tryz.sizeOf3
  v3 := Tryz.zeroValue3
  t4 := Tryz.underlying4
  a4 := Tryz.isAgg4
  z4 := Tryz.sizeOf4
  v4 := Tryz.zeroValue4
  t5 := Tryz.underlying5
  a5 := Tryz.isAgg5
  z5 := Tryz.sizeOf5
  v5 := Tryz.zeroValue5
  t9 := Tryz.underlying9
  a9 := Tryz.isAgg9
  z9 := Tryz.sizeOf9
  v9 := Tryz.zeroValue9
  t31 := Tryz.underlying37
  a31 := Tryz.isAgg37
  z31 := Tryz.sizeOf37
  v31 := Tryz.zeroValue37
  t46 := Tryz.underlying118
  a46 := Tryz.isAgg118
  z46 := Tryz.sizeOf118
  v46 := Tryz.zeroValue118
  t51 := Tryz.underlying136
  a51 := Tryz.isAgg136
  z51 := Tryz.sizeOf136
  v51 := Tryz.zeroValue136
  t53 := Tryz.underlying138
  a53 := Tryz.isAgg138
  z53 := Tryz.sizeOf138
  v53 := Tryz.zeroValue138
  t131 := Tryz.underlying133
  a131 := Tryz.isAgg133
  z131 := Tryz.sizeOf133
  v131 := Tryz.zeroValue133
  t182 := Tryz.underlying127
  a182 := Tryz.isAgg127
  z182 := Tryz.sizeOf127
  v182 := Tryz.zeroValue127
  t183 := Tryz.underlying128
  a183 := Tryz.isAgg128
  z183 := Tryz.sizeOf128
  v183 := Tryz.zeroValue128
  t218 := Tryz.underlying140
  a218 := Tryz.isAgg140
  z218 := Tryz.sizeOf140
  v218 := Tryz.zeroValue140
  t222 := Tryz.underlying144
  a222 := Tryz.isAgg144
  z222 := Tryz.sizeOf144
  v222 := Tryz.zeroValue144
  t228 := Tryz.underlying148
  a228 := Tryz.isAgg148
  z228 := Tryz.sizeOf148
  v228 := Tryz.zeroValue148
  t229 := Tryz.underlying149
  a229 := Tryz.isAgg149
  z229 := Tryz.sizeOf149
  v229 := Tryz.zeroValue149 }
open Go.Sort Go.RowKit in
theorem Tryz.slices_Sort_string (blk off cap : Nat) (ss : List (List UInt8)) (w : World) (hH : Holds encStr w blk off ss.toArray) (hblk : blk < w.heap.size) (hsz : ss.length < 4611686018427387904) :
    Calls Tryz.prog 94 #[.slice (some ⟨blk, off, none⟩) ss.length cap] w fun e w' =>
      e = .returned (.tuple #[]) ∧ ∃ n os, w' = grow (putRow encStr (Sort.ahead w n) blk off (ss.mergeSort fun x y => decide (x ≤ y)).toArray) os := Any.slices_Sort_string Tryz.lays190 blk off cap ss w hH hblk hsz
def Tryz.lays194_ren : Go.Shelf.Ren := ⟨fun | 194 => 95 | n => n, fun | 31 => 37 | 9 => 9 | 3 => 3 | 4 => 4 | 0 => 0 | n => n, fun | n => n⟩
theorem Tryz.lays194 : Go.Proofs.Lays.n194 Tryz.prog Tryz.lays194_ren := {
  mixed := by kernel_rfl
  f194 := Tryz.func95.trans (congrArg some (by kernel_rfl))
  t0 := Tryz.underlying0
  a0 := Tryz.isAgg0
  z0 := Tryz.sizeOf0
  v0 := Tryz.zeroValue0
  t3 := Tryz.underlying3
  a3 := Tryz.isAgg3
  z3 := Tryz.sizeOf3
  v3 := Tryz.zeroValue3
  t4 := Tryz.underlying4
  a4 := Tryz.isAgg4
  z4 := Tryz.sizeOf4
  v4 := Tryz.zeroValue4
  t9 := Tryz.underlying9
  a9 := Tryz.isAgg9
  z9 := Tryz.sizeOf9
  v9 := Tryz.zeroValue9
  t31 := Tryz.underlying37
  a31 := Tryz.isAgg37
  z31 := Tryz.sizeOf37
  v31 := Tryz.zeroValue37 }
open Go.RowKit Go.Lib Go.Sort in
theorem Tryz.slices_Compact_string (blk off cap : Nat) (zs : List (List UInt8)) (w : World) (hH : Holds encStr w blk off zs.toArray) (hsz : zs.length ≤ 9223372036854775807) (hcap : zs.length ≤ cap) :
    Calls Tryz.prog 95 #[.slice (some ⟨blk, off, none⟩) zs.length cap] w fun e w' => e = .returned (.slice (some ⟨blk, off, none⟩) (Lib.compact zs).length cap) ∧ ∃ q, w' = putRow encStr (Sort.ahead w q) blk off (Lib.compact zs ++ List.replicate (zs.length - (Lib.compact zs).length) []).toArray := Any.slices_Compact_string Tryz.lays194 blk off cap zs w hH hsz hcap
open Go.RowKit Go.Lib Go.Sort in
theorem Tryz.slices_Compact_string_empty (a : Option Addr) (cap : Nat) (w : World) :
    Calls Tryz.prog 95 #[.slice a 0 cap] w fun e w' => e = .returned (.slice a 0 cap) ∧ w' = w := Any.slices_Compact_string_empty Tryz.lays194 a cap w
open Go.RowKit Go.Sort in
theorem Tryz.slices_Sort_string_none (p : Option Addr) (cap : Nat) (w : World) :
    Calls Tryz.prog 94 #[.slice p 0 cap] w fun e w' => e = .returned (.tuple #[]) ∧ w' = w := Any.slices_Sort_string_none Tryz.lays190 p cap w
end Go.Proofs

/- Texts put to a sorted list (put of the program): concat, sort, compact. -/
namespace Go.Proofs.YtkjmfkllmljdeaaGreat
open Go.RowKit Go.Sort

/-! What compacting leaves. -/
theorem compact_sub (zs : List (List UInt8)) : (Lib.compact zs).Sublist zs := by
  have h : ((List.range zs.toArray.size).map (zs.toArray[·]!)) = zs := by have := Lib.range_map_get zs.toArray; simpa using this
  unfold Lib.compact Lib.compactUpTo
  have h2 := ((List.filter_sublist (l := List.range zs.length) (p := Lib.keeps zs.toArray)).map (zs.toArray[·]!))
  rw [show (List.range zs.length).map (zs.toArray[·]!) = zs by simpa using h] at h2
  exact h2
theorem compact_has (d : Array (List UInt8)) (m : Nat) : ∀ j, j < m → d[j]! ∈ Lib.compactUpTo d m := by
  intro j
  induction j with
  | zero =>
    intro hj
    exact List.mem_map.2 ⟨0, List.mem_filter.2 ⟨List.mem_range.2 hj, Lib.keeps_lt_one d 0 (by omega)⟩, rfl⟩
  | succ j ih =>
    intro hj
    by_cases h : d[j + 1]! = d[j]!
    · rw [h]; exact ih (by omega)
    · exact List.mem_map.2 ⟨j + 1, List.mem_filter.2 ⟨List.mem_range.2 hj, Lib.keeps_pos (by simpa using h)⟩, rfl⟩
theorem compact_mem (zs : List (List UInt8)) (x : List UInt8) : x ∈ Lib.compact zs ↔ x ∈ zs := by
  constructor
  · exact fun h => (compact_sub zs).subset h
  · intro h
    obtain ⟨j, hj, rfl⟩ := List.getElem_of_mem h
    have := compact_has zs.toArray zs.length j hj
    simpa [Lib.compact, getElem!_pos, hj] using this

/-- The bytes of texts. -/
def bl (L : List ByteArray) : List (List UInt8) := L.map (·.data.toList)
/-- Texts put together, sorted, each once. -/
def putB (L : List ByteArray) : List (List UInt8) := Lib.compact ((bl L).mergeSort fun x y => decide (x ≤ y))
theorem putB_mem (L : List ByteArray) (x : List UInt8) : x ∈ putB L ↔ x ∈ bl L := by
  unfold putB
  rw [compact_mem, (List.mergeSort_perm _ _).mem_iff]
/-- A part of them in some order. -/
theorem putB_perm (L : List ByteArray) : ∃ M, (putB L).Sublist M ∧ M.Perm (bl L) := ⟨_, compact_sub _, List.mergeSort_perm _ _⟩
theorem scells_bl (L : List ByteArray) : scells L = (bl L).map encStr := by
  unfold scells bl
  rw [List.map_map]
  apply List.map_congr_left
  intro x _
  rfl
theorem ofB (M : List (List UInt8)) : scells (M.map fun b => (⟨b.toArray⟩ : ByteArray)) = M.map encStr := by
  unfold scells
  rw [List.map_map]
  rfl
def putS (L : List ByteArray) : List ByteArray := (putB L).map fun b => (⟨b.toArray⟩ : ByteArray)

theorem growS_c (n : Nat) (w : World) (hn : n ≤ 1099511627776) :
    Calls Tryz.prog 108 #[.slice none 0 0, .int .i64 n] w (GivesS w []) := by
  obtain ⟨i0, hi0, hz0, hz1, hz2⟩ := info_parts Tryz.infoStr
  rcases Nat.eq_zero_or_pos n with rfl | h0
  · go_enter Tryz.func108, Tryz.ntmps108
    go_wp2_with fail
    go_ret
    exact ⟨_, rfl, OwnS.nil_ _ _, Grew.refl _⟩
  · have hr := fun ty => run_grow_nil (P := Tryz.prog) w 37 3 ty 9 i0 _ 1 Tryz.underlying37 Tryz.underlying3 hi0 hz0 hz1 rfl (by omega) n h0 (by rw [hz2]; omega) (by omega)
    have HR := Lib.hid hr
    clear hr hz0 hz1 hz2 hi0
    go_enter Tryz.func108, Tryz.ntmps108
    go_wp2_with (at_builtin; obtain ⟨G, cs, hG1, hG2, hcs, hrun⟩ := HR.out _; refine Lib.wpList_append_run _ rfl _ _ _ _ rfl _ _ rfl rfl _ _ hrun ?_; have HC := Lib.hid hcs; clear hcs hrun)
    go_ret
    refine ⟨_, rfl, ?_, ((Grew.refl w).alloc _).drew⟩
    exact OwnS.mk_ (L := []) (Nat.le_refl _) (blk_new w _) (by simp) hG2 (by have := HC.out; omega) (by simp)

/-- 'out = append(out, xs...)', out a row of strings of the call's own. -/
theorem wpList_appSs {ops : Array Oper} {rest : List Oper} {o : Oper} {a : Act} {Q : Exit → Act → World → Prop} {w w0 : World} (s x : Operand) (hgd : o.guard = none)
    (ho : o.op = .call { callee := .builtin .append, args := #[s, x], argTypes := #[37, 37] })
    (v : Value) (L : List ByteArray) (hs : a.eval s = v) (hown : OwnS w w0.heap.size v L) (hg : Grew w0 w) (vx : Value) (K : List ByteArray) (hx : a.eval x = vx) (hr : Strs w vx K) (hn : L.length + K.length ≤ 1099511627776)
    (h : ∀ v' w', OwnS w' w0.heap.size v' (L ++ K) → Grew w0 w' → w.grownBy w' v.ownBlock → wpList Tryz.prog ops Q rest (a.put o.dst v') w') : wpList Tryz.prog ops Q (o :: rest) a w := by
  obtain ⟨i0, hi0, hz0, hz1, hz2⟩ := info_parts Tryz.infoStr
  refine wpList_append_rd w hgd s x _ ho w0.heap.size 9 i0 _ 1 16 Tryz.underlying37 hi0 hz0 hz1 hz2 rfl (by omega) v L.length (scells L) hs hown vx K.length (scells K) hx hr (scells_one K) (by unfold maxLen; omega) (by omega) hg.size ?_
  intro v' w' h1 h2 h3
  refine h v' w' ?_ (hg.grown h2 fun k hk => (hown.lt k hk).1) h2
  unfold OwnS
  rw [List.length_append, scells_append]
  exact h1

set_option maxHeartbeats 2000000 in
/-- Two lists, one behind the other. -/
theorem concat2_c (b : Nat) (A1 A2 : Option Addr) (c1 c2 : Nat) (L K : List ByteArray) (w : World) (h1 : Strs w (.slice A1 L.length c1) L) (h2 : Strs w (.slice A2 K.length c2) K)
    (k1 : ∀ W, Grew w W → W.cell? ⟨b, 0, none⟩ = some (.slice A1 L.length c1)) (k2 : ∀ W, Grew w W → W.cell? ⟨b, 1, none⟩ = some (.slice A2 K.length c2)) (hn : L.length + K.length ≤ 1099511627776) :
    Calls Tryz.prog 93 #[.slice (some ⟨b, 0, none⟩) 2 2] w (GivesS w (L ++ K)) := by
  have H1 := Lib.hid h1
  have H2 := Lib.hid h2
  have KG := Lib.hid (growS_c (L.length + K.length) w hn)
  have e1 : IntKind.i64.wrap ((L.length : Int) + (K.length : Int)) = (L.length : Int) + (K.length : Int) := by rw [IntKind.wrap_i64]; omega
  have p1 := k1 _ (Grew.refl _)
  have p2 := k2 _ (Grew.refl _)
  have eKG : ((L.length + K.length : Nat) : Int) = (L.length : Int) + (K.length : Int) := by omega
  rw [eKG] at KG
  have hL0 : (0 : Int) ≤ (L.length : Int) := by omega
  have hK0 : (0 : Int) ≤ (L.length : Int) + (K.length : Int) := by omega
  have hL1 : L.length ≤ 1099511627776 := by omega
  clear h1 h2 eKG
  go_enter Tryz.func93, Tryz.ntmps93
  go_wp2_with fail
  refine wp_loop_rounds 3 ?_
  rw [rounds_succ]
  go_wp2_with fail
  rw [rounds_succ]
  go_wp2_with fail
  rw [rounds_succ]
  go_wp2_with fail
  refine (KG.out).mono ?_
  rintro e w1 ⟨v1, rfl, ho1, hg1⟩
  have q1 := k1 _ hg1
  have r1 := Lib.hid (H1.out.grew hg1)
  go_wp2_with fail
  refine wp_loop_rounds 3 ?_
  rw [rounds_succ]
  go_wp2_with (first | (at_builtin; refine wpList_appSs (w0 := w) _ _ rfl rfl _ [] rfl ho1 hg1 _ L rfl r1.out (by simp; omega) ?_; intro v2 w2 hown2 hg2 _))
  rw [rounds_succ]
  have q2 := k2 _ hg2
  have r2 := Lib.hid (H2.out.grew hg2)
  go_wp2_with (first | (at_builtin; refine wpList_appSs (w0 := w) _ _ rfl rfl _ _ rfl hown2 hg2 _ K rfl r2.out (by simp; omega) ?_; intro v3 w3 hown3 hg3 _))
  rw [rounds_succ]
  go_wp2_with fail
  go_ret
  exact ⟨_, rfl, by simpa using hown3, hg3⟩
end Go.Proofs.YtkjmfkllmljdeaaGreat

/- put of the program. -/
namespace Go.Proofs.YtkjmfkllmljdeaaGreat
open Go.RowKit Go.Sort

theorem left_put {w w1 : World} {g cap n nn q : Nat} {os : Array Obj} {ss : List (List UInt8)} (hown : w1.ownsRow w.heap.size 9 1 (.slice (some ⟨g, 0, none⟩) n cap) n (ss.map encStr)) (hbel : Grew w w1) (hbg : w.heap.size ≤ g) (hlen : ss.length = n) :
    (putRow encStr (Sort.ahead (grow (putRow encStr (Sort.ahead w1 nn) g 0 (ss.mergeSort fun x y => decide (x ≤ y)).toArray) os) q) g 0 (Lib.compact (ss.mergeSort fun x y => decide (x ≤ y)) ++ List.replicate (n - (Lib.compact (ss.mergeSort fun x y => decide (x ≤ y))).length) []).toArray).ownsRow w.heap.size 9 1 (.slice (some ⟨g, 0, none⟩) (Lib.compact (ss.mergeSort fun x y => decide (x ≤ y))).length cap) (Lib.compact (ss.mergeSort fun x y => decide (x ≤ y))).length ((Lib.compact (ss.mergeSort fun x y => decide (x ≤ y))).map encStr) ∧
    Grew w (putRow encStr (Sort.ahead (grow (putRow encStr (Sort.ahead w1 nn) g 0 (ss.mergeSort fun x y => decide (x ≤ y)).toArray) os) q) g 0 (Lib.compact (ss.mergeSort fun x y => decide (x ≤ y)) ++ List.replicate (n - (Lib.compact (ss.mergeSort fun x y => decide (x ≤ y))).length) []).toArray) := by
  have hl2 : (ss.mergeSort fun x y => decide (x ≤ y)).length = ss.length := List.length_mergeSort ss
  have hle := Lib.compact_length_le (ss.mergeSort fun x y => decide (x ≤ y))
  subst hlen
  rcases hown.2 with ⟨h0, _⟩ | ⟨g', cap', cur, hv, hbase, hb, h1, h2, h3, h4⟩
  · cases h0
  cases hv
  have hs := ownsRow_sorted (n := nn) (os := os) (ts := ss.mergeSort fun x y => decide (x ≤ y)) hl2 hbase hb h1 h2 h3
  have hc := Lib.ownsRow_putRow (q := q) (k := (Lib.compact (ss.mergeSort fun x y => decide (x ≤ y))).length) (ys := Lib.compact (ss.mergeSort fun x y => decide (x ≤ y)) ++ List.replicate (ss.length - (Lib.compact (ss.mergeSort fun x y => decide (x ≤ y))).length) []) hs (by simp; omega) (by omega)
  rw [List.take_left] at hc
  exact ⟨hc, Lib.below_putRow (Below.grown hbel (grownBy_sorted _) hbel.size (fun j hj => by cases hj; exact hbase)) hbg⟩

theorem putS_nil : putS [] = [] := by simp [putS, putB, bl, Lib.compact, Lib.compactUpTo]

set_option maxHeartbeats 2000000 in
theorem put_c (v vt : Value) (L K : List ByteArray) (w : World) (h : Strs w v L) (hk : Strs w vt K) (hn : L.length + K.length ≤ 1099511627776) :
    Calls Tryz.prog 83 #[v, vt] w fun e w' => ∃ u, e = .returned u ∧ OwnS w' w.heap.size u (putS (L ++ K)) ∧ Grew w w' := by
  obtain ⟨A1, c1, rfl⟩ := strs_slice h
  obtain ⟨A2, c2, rfl⟩ := strs_slice hk
  have HAL := Lib.hid ((Grew.refl w).alloc (.cells #[.slice A1 L.length c1, .slice A2 K.length c2] 37))
  have KC := Lib.hid (concat2_c w.heap.size A1 A2 c1 c2 L K (w.alloc (.cells #[.slice A1 L.length c1, .slice A2 K.length c2] 37)) (h.grew HAL.out) (hk.grew HAL.out)
    (fun W hW => (hW.cell (p := ⟨w.heap.size, 0, none⟩) (by simp)).trans (by simp)) (fun W hW => (hW.cell (p := ⟨w.heap.size, 1, none⟩) (by simp)).trans (by simp)) hn)
  have hll : (L ++ K).length ≤ 1099511627776 := by rw [List.length_append]; exact hn
  clear h hk
  generalize L ++ K = M at *
  by_cases hM : M = []
  · subst hM
    rw [putS_nil]
    have KS := Lib.hid (fun p cap w => Tryz.slices_Sort_string_none p cap w)
    have KT := Lib.hid (fun p cap w => Tryz.slices_Compact_string_empty p cap w)
    go_enter Tryz.func83, Tryz.ntmps83
    go_wp2_with fail
    refine (KC.out).mono ?_
    rintro e w1 ⟨v1, rfl, ho1, hg1⟩
    obtain ⟨A, c, rfl⟩ := strs_slice ho1.strs
    simp only [List.length_nil]
    go_wp2_with fail
    refine (KS.out _ _ _).mono ?_
    rintro e w2 ⟨rfl, rfl⟩
    go_wp2_with fail
    refine (KT.out _ _ _).mono ?_
    rintro e w3 ⟨rfl, rfl⟩
    go_wp2_with fail
    go_ret
    exact ⟨_, rfl, ho1.base HAL.out.size, HAL.out.trans hg1⟩
  · have hpos : 0 < M.length := List.length_pos_iff.2 hM
    have hbl : (bl M).length = M.length := by simp [bl]
    have hP : putS M = (Lib.compact ((bl M).mergeSort fun x y => decide (x ≤ y))).map fun b => (⟨b.toArray⟩ : ByteArray) := rfl
    have hPL : (putS M).length = (Lib.compact ((bl M).mergeSort fun x y => decide (x ≤ y))).length := by rw [hP]; simp
    have HEND := Lib.hid (fun (w' : World) g cap (hown : w'.ownsRow w.heap.size 9 1 (.slice (some ⟨g, 0, none⟩) (Lib.compact ((bl M).mergeSort fun x y => decide (x ≤ y))).length cap) (Lib.compact ((bl M).mergeSort fun x y => decide (x ≤ y))).length ((Lib.compact ((bl M).mergeSort fun x y => decide (x ≤ y))).map encStr)) =>
      (show OwnS w' w.heap.size (.slice (some ⟨g, 0, none⟩) (Lib.compact ((bl M).mergeSort fun x y => decide (x ≤ y))).length cap) (putS M) from by
        have hr := hown
        unfold OwnS
        rw [hPL]
        have e := ofB (Lib.compact ((bl M).mergeSort fun x y => decide (x ≤ y)))
        rw [← hP] at e
        rw [e]
        exact hr))
    have HSC := scells_bl M
    clear hM hP hPL
    go_enter Tryz.func83, Tryz.ntmps83
    go_wp2_with fail
    refine (KC.out).mono ?_
    rintro e w1 ⟨v1, rfl, ho1, hg1⟩
    have g1 := HAL.out.trans hg1
    have ho2 : w1.ownsRow w.heap.size 9 1 v1 M.length ((bl M).map encStr) := by
      have := ho1.base HAL.out.size
      unfold OwnS at this
      rw [HSC] at this
      exact this
    obtain ⟨g, cap, rfl, hbg, hgl, hncap, hcm, hlen, hH⟩ := Lib.holds_of_ownsRow ho2 (by
      intro h0
      rw [h0] at ho2
      rcases ho2.2 with ⟨_, h3⟩ | ⟨_, _, _, h3, _⟩
      · omega
      · cases h3)
    have hcm2 : cap ≤ 9223372036854775807 := hcm
    have KS := Tryz.slices_Sort_string g 0 cap (bl M) w1 hH hgl (by omega)
    rw [hlen] at KS
    replace KS := Lib.hid KS
    have X := Lib.hid (show _ ∧ _ from ⟨ho2, hH⟩)
    have KT := Lib.hid (fun (nn : Nat) (os : Array Obj) => (by
      have hl2 : ((bl M).mergeSort fun x y => decide (x ≤ y)).length = M.length := by rw [List.length_mergeSort]; exact hlen
      have hH2 : Holds encStr (grow (putRow encStr (Sort.ahead w1 nn) g 0 ((bl M).mergeSort fun x y => decide (x ≤ y)).toArray) os) g 0 ((bl M).mergeSort fun x y => decide (x ≤ y)).toArray :=
        holds_grow encStr _ os g 0 _ (by simpa [putRow, mapBlock, Sort.ahead] using hgl) (holds_putRow encStr _ g 0 _ _ (holds_ahead encStr w1 nn g 0 _ hH) (by simp))
      have hc := Tryz.slices_Compact_string g 0 cap ((bl M).mergeSort fun x y => decide (x ≤ y)) _ hH2 (by omega) (by omega)
      rw [hl2] at hc
      exact hc))
    clear ho1 ho2 hH HSC hbl
    go_wp2_with fail
    refine (KS.out).mono ?_
    rintro e w2 ⟨rfl, nn, os, rfl⟩
    go_wp2_with fail
    refine (KT.out nn os).mono ?_
    rintro e w3 ⟨rfl, q, rfl⟩
    go_wp2_with fail
    go_ret
    obtain ⟨z1, z2⟩ := left_put (nn := nn) (q := q) (os := os) X.out.1 g1 hbg hlen
    exact ⟨_, rfl, HEND.out _ _ _ z1, z2⟩
end Go.Proofs.YtkjmfkllmljdeaaGreat

/- Sequents of the program: with, proving. -/
namespace Go.Proofs.YtkjmfkllmljdeaaGreat
open Go.RowKit

theorem infoG2 : (Tryz.prog.info? 63).map (·.size) = some 2 := by kernel_rfl

theorem proving_c (A : Option Addr) (n c : Nat) (r s : ByteArray) (w : World) :
    Calls Tryz.prog 65 #[.agg #[.slice A n c, .string r], .string s] w fun e w' => e = .returned (.agg #[.slice A n c, .string s]) ∧ Grew w w' := by
  have hinfo := infoG2
  have hb : ∀ o1 o2, ((w.alloc o1).alloc o2).heap[w.heap.size + 1]? = some o2 := fun o1 o2 => by
    have h := blk_new (w.alloc o1) o2
    have e : (w.alloc o1).heap.size = w.heap.size + 1 := by simp
    rwa [e] at h
  go_enter Tryz.func65, Tryz.ntmps65
  go_wp2_with fail
  (try simp only [Exit.inBlock, Exit.then])
  refine bodyPost_ret (results_cell_row rfl _ _ (w.heap.size + 1) _ _ _ _ rfl (hb _ _) Tryz.underlying63 rfl hinfo) rfl ?_
  exact ⟨rfl, ((Grew.refl w).alloc _).alloc _⟩

set_option maxHeartbeats 2000000 in
theorem withS_c (v vt : Value) (L K : List ByteArray) (r : ByteArray) (w : World) (h : Strs w v L) (hk : Strs w vt K) (hn : L.length + K.length ≤ 1099511627776) :
    Calls Tryz.prog 66 #[.agg #[v, .string r], vt] w fun e w' => ∃ u, e = .returned (.agg #[u, .string r]) ∧ Strs w' u (putS (L ++ K)) ∧ Grew w w' := by
  have KP := Lib.hid (fun W (hW : Grew w W) => put_c v vt L K W (h.grew hW) (hk.grew hW) hn)
  obtain ⟨A, c, rfl⟩ := strs_slice h
  obtain ⟨B, d, rfl⟩ := strs_slice hk
  clear h hk
  generalize putS (L ++ K) = P at *
  generalize L.length = n at *
  generalize K.length = m at *
  have hinfo := infoG2
  go_enter Tryz.func66, Tryz.ntmps66
  go_wp2_with fail
  have hgg := Lib.hid (((Grew.refl w).alloc (.cells #[.slice A n c, .string r] 63)).alloc (.cells #[.slice none 0 0, .string ⟨#[]⟩] 63))
  have hb := blk_new (w.alloc (.cells #[.slice A n c, .string r] 63)) (.cells #[.slice none 0 0, .string ⟨#[]⟩] 63)
  rw [show (w.alloc (.cells #[.slice A n c, .string r] 63)).heap.size = w.heap.size + 1 by simp] at hb
  have hbd : ((w.alloc (.cells #[.slice A n c, .string r] 63)).alloc (.cells #[.slice none 0 0, .string ⟨#[]⟩] 63)).heap[w.heap.size]? = some (.cells #[.slice A n c, .string r] 63 (0, 0)) :=
    (((Grew.refl (w.alloc (.cells #[.slice A n c, .string r] 63))).alloc _).block (k := w.heap.size) (by simp)).trans (blk_new w _)
  generalize hw2 : (w.alloc (.cells #[.slice A n c, .string r] 63)).alloc (.cells #[.slice none 0 0, .string ⟨#[]⟩] 63) = w2 at *
  clear hw2
  have HB := Lib.hid (fun W (hW : Grew w2 W) => (hW.block (blk_lt hb)).trans hb)
  have HD := Lib.hid hbd
  have c1 : ∀ W, Only (w.heap.size + 1) w2 W → W.cell? ⟨w.heap.size, 0, none⟩ = some (.slice A n c) := fun W hW => (hW.cell (p := ⟨w.heap.size, 0, none⟩) (blk_lt hbd) (by show w.heap.size ≠ w.heap.size + 1; omega)).trans (blk_cell hbd 0)
  have c2 : ∀ W, Only (w.heap.size + 1) w2 W → W.cell? ⟨w.heap.size, 1, none⟩ = some (.string r) := fun W hW => (hW.cell (p := ⟨w.heap.size, 1, none⟩) (blk_lt hbd) (by show w.heap.size ≠ w.heap.size + 1; omega)).trans (blk_cell hbd 1)
  have c3 : ∀ W, Grew w2 W → W.cell? ⟨w.heap.size + 1, 0, none⟩ = some (.slice none 0 0) := fun W hW => blk_cell (HB.out W hW) 0
  have c4 : ∀ W, Grew w2 W → W.cell? ⟨w.heap.size + 1, 1, none⟩ = some (.string ⟨#[]⟩) := fun W hW => blk_cell (HB.out W hW) 1
  have c5 : ∀ W, Grew w2 W → W.frozen? ⟨w.heap.size + 1, 0, none⟩ = false := fun W hW => blk_frozen (HB.out W hW) 0
  have c6 : ∀ W, Grew w2 W → W.frozen? ⟨w.heap.size + 1, 1, none⟩ = false := fun W hW => blk_frozen (HB.out W hW) 1
  have hO1 : Only (w.heap.size + 1) w2 w2 := Only.refl _ _
  have hOd : Only (w.heap.size + 1) w2 w2.drew := hO1.drew
  have hd1 := (Grew.refl w2).drew
  have gd := hgg.out.trans hd1
  clear hb hbd
  go_region_held3 (fun w' => Only (w.heap.size + 1) w2 w') (first | with_reducible assumption | exact Only.setCell (Only.setCell (by with_reducible assumption) _) _)
    (first | (go_at_call 83; refine (KP.out _ gd).mono ?_; rintro e w3 ⟨u, rfl, hu, hg3⟩; have hk2 : Grew w2 w3 := hd1.trans hg3; have hO2 : Only (w.heap.size + 1) w2 w3 := hk2.only; have HU := Lib.hid hu; obtain ⟨A2, n2, k2, rfl⟩ := (show ∃ A n c, u = .slice A n c from by obtain ⟨A, c, e⟩ := strs_slice hu.strs; exact ⟨A, _, c, e⟩); clear hu))
  go_wp2_with fail
  (try simp only [Exit.inBlock, Exit.then])
  have hb6 : ((w3.setCell ⟨w.heap.size + 1, 0, none⟩ (.slice A2 n2 k2)).setCell ⟨w.heap.size + 1, 1, none⟩ (.string r)).heap[w.heap.size + 1]? = some (.cells #[.slice A2 n2 k2, .string r] 63 (0, 0)) :=
    blk_set (blk_set (HB.out _ hk2) _ _) _ _
  refine bodyPost_ret (results_cell_row rfl _ _ (w.heap.size + 1) _ _ _ _ rfl hb6 Tryz.underlying63 rfl hinfo) rfl ?_
  have hsz : w2.drew.heap.size = w2.heap.size := rfl
  have hlt : w.heap.size + 1 < w2.heap.size := blk_lt (HB.out _ (Grew.refl _))
  have e1 := own_only HU.out (((Only.refl (w.heap.size + 1) w3).setCell (o := 0) (.slice A2 n2 k2)).setCell (o := 1) (.string r)) (fun h => by have := own_of_ge HU.out h; omega)
  exact ⟨_, rfl, OwnS.strs e1, ((hgg.out.trans hk2).setCell (by show w.heap.size ≤ w.heap.size + 1; omega) _).setCell (by show w.heap.size ≤ w.heap.size + 1; omega) _⟩
end Go.Proofs.YtkjmfkllmljdeaaGreat

/- The parts of a formula: parts, partTexts of the program. -/
namespace Go.Proofs.YtkjmfkllmljdeaaGreat
open Go.RowKit

/-- 'out = append(out, s)', out a row of strings of the call's own. -/
theorem wpList_appStr {ops : Array Oper} {rest : List Oper} {o : Oper} {a : Act} {Q : Exit → Act → World → Prop} {w w0 : World} (s x : Operand) (hgd : o.guard = none)
    (ho : o.op = .call { callee := .builtin .append, args := #[s, x], argTypes := #[37, 37] })
    (v : Value) (L : List ByteArray) (hs : a.eval s = v) (hown : OwnS w w0.heap.size v L) (hg : Grew w0 w) (vx : Value) (k : ByteArray) (hx : a.eval x = vx) (hr : Rd w 1 vx 1 [.string k]) (hn : L.length ≤ 1048576)
    (h : ∀ v' w', OwnS w' w0.heap.size v' (L ++ [k]) → Grew w0 w' → w.grownBy w' v.ownBlock → wpList Tryz.prog ops Q rest (a.put o.dst v') w') : wpList Tryz.prog ops Q (o :: rest) a w := by
  obtain ⟨i0, hi0, hz0, hz1, hz2⟩ := info_parts Tryz.infoStr
  refine wpList_append_rd w hgd s x _ ho w0.heap.size 9 i0 _ 1 16 Tryz.underlying37 hi0 hz0 hz1 hz2 rfl (by omega) v L.length (scells L) hs hown vx 1 [.string k] hx hr (by simp [Value.oneCell']) (by unfold maxLen; omega) (by omega) hg.size ?_
  intro v' w' h1 h2 h3
  refine h v' w' ?_ (hg.grown h2 fun k hk => (hown.lt k hk).1) h2
  unfold OwnS
  rw [List.length_append, scells_append]
  exact h1

/-- A slice of two slices that read as the two parts. -/
def Two (w : World) (v : Value) (p q : Fm.Tree) : Prop := ∃ g u1 u2, v = .slice (some ⟨g, 0, none⟩) 2 2 ∧ (∀ W, Grew w W → W.cell? ⟨g, 0, none⟩ = some u1) ∧ (∀ W, Grew w W → W.cell? ⟨g, 1, none⟩ = some u2) ∧ Nodes w u1 (Fm.enc p) ∧ Nodes w u2 (Fm.enc q)

theorem parts_two (v : Value) (A p q : Fm.Tree) (w : World) (h : Nodes w v (Fm.enc A)) (hl : (Fm.enc A).length ≤ 40) (h2 : TwoF A p q) (hk : kindOf A = 2 ∨ kindOf A = 3 ∨ kindOf A = 4) :
    Calls Tryz.prog 91 #[v] w fun e w' => ∃ u, e = .returned u ∧ Two w' u p q ∧ Grew w w' := by
  have HH := Lib.hid h
  obtain ⟨b, o, c, rfl, hc, hm, k0⟩ := nodes_head h
  have K1 := Lib.hid (fun W (hW : Grew w W) => first_c _ (Fm.enc A) p W (h.grew hW) (by omega) (at_first h2))
  have K2 := Lib.hid (fun W (hW : Grew w W) => second_c _ (Fm.enc A) p q W (h.grew hW) (by omega) (at_first h2) (at_second h2))
  have KO := Lib.hid (fun w => partsOf_c (kindOf A) w)
  have ha : (Fm.arity (kindOf A) : Int) = 2 := by unfold Fm.arity; rw [if_pos hk]; rfl
  rw [ha] at KO
  have r0 := Grew.refl w
  have hpos := Fm.enc_pos A
  clear h h2 hk ha HH
  generalize kindOf A = kk at *
  generalize (Fm.enc A).length = n at *
  go_enter Tryz.func91, Tryz.ntmps91
  go_wp2_with fail
  refine (KO.out _).mono ?_
  rintro e w1 ⟨rfl, hg1⟩
  go_wp2_with fail
  refine (K1.out _ hg1).mono ?_
  rintro e w2 ⟨u1, rfl, hn1, hg2⟩
  have H1 := Lib.hid hn1
  obtain ⟨A1, c1, rfl⟩ := nodes_slice hn1
  clear hn1
  have g2 := hg1.trans hg2
  go_wp2_with fail
  refine (K2.out _ g2).mono ?_
  rintro e w3 ⟨u2, rfl, hn2, hg3⟩
  have H2 := Lib.hid hn2
  obtain ⟨A2, c2, rfl⟩ := nodes_slice hn2
  clear hn2
  go_wp2_with fail
  go_ret
  have hal := (Grew.refl w3).alloc (.cells #[.slice A1 (Fm.enc p).length c1, .slice A2 (Fm.enc q).length c2] 70)
  exact ⟨_, rfl, ⟨w3.heap.size, _, _, rfl, fun W hW => (hW.cell (by simp)).trans (by simp), fun W hW => (hW.cell (by simp)).trans (by simp), (H1.out.grew hg3).grew hal, H2.out.grew hal⟩, (g2.trans hg3).trans hal⟩

theorem parts_none (v : Value) (A : Fm.Tree) (w : World) (h : Nodes w v (Fm.enc A)) (hk : kindOf A = 0 ∨ kindOf A = 1) :
    Calls Tryz.prog 91 #[v] w fun e w' => e = .returned (.slice none 0 0) ∧ Grew w w' := by
  obtain ⟨b, o, c, rfl, hc, hm, k0⟩ := nodes_head h
  have KO := Lib.hid (fun w => partsOf_c (kindOf A) w)
  have ha : (Fm.arity (kindOf A) : Int) = 0 := by unfold Fm.arity; rw [if_neg (by omega), if_neg (by omega)]; rfl
  rw [ha] at KO
  have r0 := Grew.refl w
  have hpos := Fm.enc_pos A
  clear h hk ha
  generalize kindOf A = kk at *
  generalize (Fm.enc A).length = n at *
  go_enter Tryz.func91, Tryz.ntmps91
  go_wp2_with fail
  refine (KO.out _).mono ?_
  rintro e w1 ⟨rfl, hg1⟩
  go_wp2_with fail
  go_ret
  exact ⟨rfl, hg1⟩

theorem partTexts_none (v : Value) (A : Fm.Tree) (w : World) (h : Nodes w v (Fm.enc A)) (hk : kindOf A = 0 ∨ kindOf A = 1) :
    Calls Tryz.prog 81 #[v] w fun e w' => e = .returned (.slice none 0 0) ∧ Grew w w' := by
  have KP := Lib.hid (parts_none v A w h hk)
  obtain ⟨b, o, c, rfl, hc, hm, k0⟩ := nodes_head h
  clear h hk k0
  generalize (Fm.enc A).length = n at *
  go_enter Tryz.func81, Tryz.ntmps81
  go_wp2_with fail
  refine KP.out.mono ?_
  rintro e w1 ⟨rfl, hg1⟩
  go_wp2_with fail
  refine wp_loop_rounds 1 ?_; rw [rounds_succ]
  go_wp2_with fail
  go_ret
  exact ⟨rfl, hg1⟩

theorem partTexts_two (v : Value) (A p q : Fm.Tree) (w : World) (h : Nodes w v (Fm.enc A)) (hl : (Fm.enc A).length ≤ 40) (h2 : TwoF A p q) (hk : kindOf A = 2 ∨ kindOf A = 3 ∨ kindOf A = 4) :
    Calls Tryz.prog 81 #[v] w (GivesS w [tx p, tx q]) := by
  have KP := Lib.hid (parts_two v A p q w h hl h2 hk)
  have hlen := h2.len
  have K1 := Lib.hid (fun v w h => text0_c p v w h (by omega))
  have K2 := Lib.hid (fun v w h => text0_c q v w h (by omega))
  have e1 : bs (Fm.txt p 0) = tx p := rfl
  have e2 : bs (Fm.txt q 0) = tx q := rfl
  unfold Says at K1 K2
  rw [e1] at K1
  rw [e2] at K2
  obtain ⟨b, o, c, rfl, hc, hm, k0⟩ := nodes_head h
  clear h h2 hk k0 e1 e2 hlen
  generalize (Fm.enc A).length = n at *
  generalize tx p = sp at *
  generalize tx q = sq at *
  go_enter Tryz.func81, Tryz.ntmps81
  go_wp2_with fail
  refine KP.out.mono ?_
  rintro e w1 ⟨u, rfl, ⟨g, u1, u2, rfl, c1, c2, hn1, hn2⟩, hg1⟩
  have H1 := Lib.hid hn1
  have H2 := Lib.hid hn2
  obtain ⟨A1, d1, rfl⟩ := nodes_slice hn1
  obtain ⟨A2, d2, rfl⟩ := nodes_slice hn2
  clear hn1 hn2
  have r1 := Grew.refl w1
  have HO1 := OwnS.nil_ w1 w.heap.size
  go_wp2_with fail
  refine wp_loop_rounds 3 ?_; rw [rounds_succ]
  go_wp2_with fail
  refine (K1.out _ _ H1.out).mono ?_
  rintro e w2 ⟨rfl, hg2⟩
  have hB2 := hg1.trans hg2
  have hO2 := HO1.grew (hg2.trans ((Grew.refl w2).alloc (.cells #[.string sp] 9)))
  go_wp2_with (first | (at_builtin; refine wpList_appStr (w0 := w) _ _ rfl rfl _ [] rfl hO2 (hB2.alloc _) _ sp rfl (rd_lit _ _ _) (by simp) ?_; intro v3 w3 hown3 hg3 hgr3))
  have g13 : Grew w1 w3 := (hg2.trans ((Grew.refl w2).alloc (.cells #[.string sp] 9))).trans (by
    have hg' : (w2.alloc (.cells #[.string sp] 9)).grownBy w3 none := hgr3
    exact ⟨hg'.os, hg'.tape, hg'.output, hg'.size, fun i hi => hg'.block i hi (by simp)⟩)
  clear HO1 hO2 hgr3 hB2
  rw [rounds_succ]
  go_wp2_with fail
  refine (K2.out _ _ (H2.out.grew g13)).mono ?_
  rintro e w4 ⟨rfl, hg4⟩
  have hB4 := hg3.trans hg4
  have hO4 := hown3.grew (hg4.trans ((Grew.refl w4).alloc (.cells #[.string sq] 9)))
  go_wp2_with (first | (at_builtin; refine wpList_appStr (w0 := w) _ _ rfl rfl _ [sp] rfl hO4 (hB4.alloc _) _ sq rfl (rd_lit _ _ _) (by simp) ?_; intro v5 w5 hown5 hg5 hgr5))
  rw [rounds_succ]
  go_wp2_with fail
  go_ret
  exact ⟨_, rfl, hown5, hg5⟩
end Go.Proofs.YtkjmfkllmljdeaaGreat

/- Lists of one and of two strings. -/
namespace Go.Proofs.YtkjmfkllmljdeaaGreat
open Go.RowKit

theorem strs_one {w : World} {v : Value} {a : ByteArray} (h : Strs w v [a]) : ∃ b o c, v = .slice (some ⟨b, o, none⟩) 1 c ∧ 1 ≤ c ∧ c ≤ 9223372036854775807 ∧ b < w.heap.size ∧ ∀ W, Grew w W → W.cell? ⟨b, o, none⟩ = some (.string a) := by
  rcases h.open_ with ⟨_, h0⟩ | ⟨b, o, c, rfl, hc, hm, hb, hf⟩
  · cases h0
  · exact ⟨b, o, c, rfl, hc, hm, hb, fun W hW => by simpa [st] using hf 0 (by simp) W hW⟩
theorem strs_two {w : World} {v : Value} {a a2 : ByteArray} (h : Strs w v [a, a2]) : ∃ b o c, v = .slice (some ⟨b, o, none⟩) 2 c ∧ 2 ≤ c ∧ c ≤ 9223372036854775807 ∧ b < w.heap.size ∧ ∀ W, Grew w W → W.cell? ⟨b, o, none⟩ = some (.string a) ∧ W.cell? ⟨b, o + 1, none⟩ = some (.string a2) := by
  rcases h.open_ with ⟨_, h0⟩ | ⟨b, o, c, rfl, hc, hm, hb, hf⟩
  · cases h0
  · exact ⟨b, o, c, rfl, hc, hm, hb, fun W hW => ⟨by simpa [st] using hf 0 (by simp) W hW, by simpa [st] using hf 1 (by simp) W hW⟩⟩

end Go.Proofs.YtkjmfkllmljdeaaGreat

/- Intuitionistic consequence by Kripke models; the rules of a terminating search, each an equivalence; a measure. No program is in sight. -/
namespace Go.Proofs.YtkjmfkllmljdeaaGreat
namespace Fm

structure Kr where
  W : Type
  le : W → W → Prop
  val : W → Fin 6 → Prop
  refl : ∀ w, le w w
  trans : ∀ {a b c}, le a b → le b c → le a c
  mono : ∀ {a b v}, le a b → val a v → val b v

namespace Kr
def force (K : Kr) : K.W → Tree → Prop
  | w, .var v => K.val w v
  | _, .fls => False
  | w, .and a b => K.force w a ∧ K.force w b
  | w, .or a b => K.force w a ∨ K.force w b
  | w, .imp a b => ∀ u, K.le w u → K.force u a → K.force u b
  | _, .box _ => False
  | _, .dia _ => False
theorem force_mono (K : Kr) {w u : K.W} (h : K.le w u) : ∀ {a : Tree}, K.force w a → K.force u a := by
  intro a
  induction a with
  | var v => exact K.mono h
  | fls => exact id
  | and a b ha hb => exact fun ⟨h1, h2⟩ => ⟨ha h1, hb h2⟩
  | or a b ha hb => exact fun h1 => h1.elim (fun h => .inl (ha h)) (fun h => .inr (hb h))
  | imp a b _ _ => exact fun h1 v hv => h1 v (K.trans h hv)
  | box a _ => exact id
  | dia a _ => exact id

/-- A new root below the roots of some models. -/
def glue (ι : Type) (M : ι → Kr) (r : ∀ i, (M i).W) (p : Fin 6 → Prop) (hp : ∀ v, p v → ∀ i, (M i).val (r i) v) : Kr where
  W := Option (Σ i, (M i).W)
  le x y := match x, y with
    | none, none => True
    | none, some ⟨i, u⟩ => (M i).le (r i) u
    | some _, none => False
    | some ⟨i, u⟩, some ⟨j, v⟩ => ∃ h : i = j, (M j).le (h ▸ u) v
  val x v := match x with
    | none => p v
    | some ⟨i, u⟩ => (M i).val u v
  refl := by
    intro x
    cases x with
    | none => trivial
    | some x => exact ⟨rfl, (M x.1).refl _⟩
  trans := by
    intro a b c h1 h2
    match a, b, c, h1, h2 with
    | none, none, none, _, _ => trivial
    | none, none, some _, _, h2 => exact h2
    | none, some ⟨i, u⟩, some ⟨j, v⟩, h1, h2 =>
      obtain ⟨rfl, h2⟩ := h2
      exact (M i).trans h1 h2
    | some ⟨i, u⟩, some ⟨j, v⟩, some ⟨k, x⟩, h1, h2 =>
      obtain ⟨rfl, h1⟩ := h1
      obtain ⟨rfl, h2⟩ := h2
      exact ⟨rfl, (M i).trans h1 h2⟩
  mono := by
    intro a b v h1 h2
    match a, b, h1, h2 with
    | none, none, _, h2 => exact h2
    | none, some ⟨i, u⟩, h1, h2 => exact (M i).mono h1 (hp v h2 i)
    | some ⟨i, u⟩, some ⟨j, x⟩, h1, h2 =>
      obtain ⟨rfl, h1⟩ := h1
      exact (M i).mono h1 h2

theorem glue_force {ι : Type} {M : ι → Kr} {r : ∀ i, (M i).W} {p : Fin 6 → Prop} {hp : ∀ v, p v → ∀ i, (M i).val (r i) v} (i : ι) : ∀ (a : Tree) (u : (M i).W), (glue ι M r p hp).force (some ⟨i, u⟩) a ↔ (M i).force u a := by
  intro a
  induction a with
  | var v => intro u; exact Iff.rfl
  | fls => intro u; exact Iff.rfl
  | and a b ha hb => intro u; exact and_congr (ha u) (hb u)
  | or a b ha hb => intro u; exact or_congr (ha u) (hb u)
  | imp a b ha hb =>
    intro u
    constructor
    · intro h v hv h1
      exact (hb v).1 (h (some ⟨i, v⟩) ⟨rfl, hv⟩ ((ha v).2 h1))
    · intro h x hx h1
      match x, hx, h1 with
      | some ⟨j, v⟩, hx, h1 =>
        obtain ⟨rfl, hx⟩ := hx
        exact (hb v).2 (h v hx ((ha v).1 h1))
  | box a _ => intro u; exact Iff.rfl
  | dia a _ => intro u; exact Iff.rfl
end Kr

/-- c follows from the formulas of G. -/
def Ent (G : Tree → Prop) (c : Tree) : Prop := ∀ (K : Kr) (w : K.W), (∀ a, G a → K.force w a) → K.force w c
theorem Ent.congr {G H : Tree → Prop} {c : Tree} (h : ∀ a, G a ↔ H a) : Ent G c ↔ Ent H c := by
  have : G = H := funext fun a => propext (h a)
  rw [this]
theorem Ent.more {G H : Tree → Prop} {c : Tree} (h : ∀ a, G a → H a) (hG : Ent G c) : Ent H c := fun K w hw => hG K w fun a ha => hw a (h a ha)
/-- G with one formula more. -/
def plus (G : Tree → Prop) (x : Tree) : Tree → Prop := fun a => G a ∨ a = x

theorem ent_mem {G : Tree → Prop} {c : Tree} (h : G c) : Ent G c := fun _ _ hw => hw c h
theorem ent_fls {G : Tree → Prop} {c : Tree} (h : G .fls) : Ent G c := fun _ _ hw => (hw .fls h).elim
/-- Formulas x that are forced exactly where those of the list are. -/
theorem ent_swap {R : Tree → Prop} {x c : Tree} {H : Tree → Prop} (h : ∀ (K : Kr) (w : K.W), (∀ a, R a → K.force w a) → (K.force w x ↔ ∀ a, H a → K.force w a)) : Ent (plus R x) c ↔ Ent (fun a => R a ∨ H a) c := by
  constructor
  · intro h1 K w hw
    refine h1 K w fun a ha => ?_
    rcases ha with ha | rfl
    · exact hw a (.inl ha)
    · exact (h K w fun a ha => hw a (.inl ha)).2 fun a ha => hw a (.inr ha)
  · intro h1 K w hw
    refine h1 K w fun a ha => ?_
    rcases ha with ha | ha
    · exact hw a (.inl ha)
    · exact (h K w fun a ha => hw a (.inl ha)).1 (hw x (.inr rfl)) a ha
theorem ent_drop {R : Tree → Prop} {x c : Tree} (h : ∀ (K : Kr) (w : K.W), (∀ a, R a → K.force w a) → K.force w x) : Ent (plus R x) c ↔ Ent R c := by
  constructor
  · intro h1 K w hw
    refine h1 K w fun a ha => ?_
    rcases ha with ha | rfl
    · exact hw a ha
    · exact h K w hw
  · exact Ent.more fun a ha => .inl ha
theorem ent_or_useless {R : Tree → Prop} {x y c : Tree} (h : R x ∨ R y) : Ent (plus R (.or x y)) c ↔ Ent R c :=
  ent_drop fun _ _ hw => h.elim (fun h => .inl (hw _ h)) (fun h => .inr (hw _ h))
theorem ent_imp_useless {R : Tree → Prop} {x y c : Tree} (h : R y) : Ent (plus R (.imp x y)) c ↔ Ent R c :=
  ent_drop fun K _ hw _ hu _ => K.force_mono hu (hw _ h)
theorem ent_fls_imp {R : Tree → Prop} {y c : Tree} : Ent (plus R (.imp .fls y)) c ↔ Ent R c :=
  ent_drop fun _ _ _ _ _ h => h.elim
theorem ent_and {R : Tree → Prop} {x y c : Tree} : Ent (plus R (.and x y)) c ↔ Ent (plus (plus R x) y) c := by
  refine (ent_swap (x := .and x y) (H := fun a => a = x ∨ a = y) fun K w _ => ⟨fun h a ha => ?_, fun h => ⟨h x (.inl rfl), h y (.inr rfl)⟩⟩).trans (Ent.congr fun a => ?_)
  · rcases ha with rfl | rfl
    · exact h.1
    · exact h.2
  · exact or_assoc.symm
theorem ent_or {R : Tree → Prop} {x y c : Tree} : Ent (plus R (.or x y)) c ↔ Ent (plus R x) c ∧ Ent (plus R y) c := by
  constructor
  · intro h
    refine ⟨fun K w hw => h K w fun a ha => ?_, fun K w hw => h K w fun a ha => ?_⟩
    · rcases ha with ha | rfl
      · exact hw a (.inl ha)
      · exact .inl (hw x (.inr rfl))
    · rcases ha with ha | rfl
      · exact hw a (.inl ha)
      · exact .inr (hw y (.inr rfl))
  · intro ⟨h1, h2⟩ K w hw
    rcases hw _ (.inr rfl) with h | h
    · refine h1 K w fun a ha => ?_
      rcases ha with ha | rfl
      · exact hw a (.inl ha)
      · exact h
    · refine h2 K w fun a ha => ?_
      rcases ha with ha | rfl
      · exact hw a (.inl ha)
      · exact h
theorem ent_one {R : Tree → Prop} {x y c : Tree} (h : ∀ (K : Kr) (w : K.W), (∀ a, R a → K.force w a) → (K.force w x ↔ K.force w y)) : Ent (plus R x) c ↔ Ent (plus R y) c :=
  (ent_swap (H := fun a => a = y) fun K w hw => ⟨fun hx a ha => by rw [ha]; exact (h K w hw).1 hx, fun ha => (h K w hw).2 (ha y rfl)⟩)
theorem ent_mp {R : Tree → Prop} {x y c : Tree} (h : R x) : Ent (plus R (.imp x y)) c ↔ Ent (plus R y) c :=
  ent_one fun K w hw => ⟨fun hi => hi w (K.refl w) (hw x h), fun hy _ hu _ => K.force_mono hu hy⟩
theorem ent_and_imp {R : Tree → Prop} {x y z c : Tree} : Ent (plus R (.imp (.and x y) z)) c ↔ Ent (plus R (.imp x (.imp y z))) c :=
  ent_one fun K _ _ => ⟨fun h u hu hx v hv hy => h v (K.trans hu hv) ⟨K.force_mono hv hx, hy⟩, fun h u hu ⟨hx, hy⟩ => h u hu hx u (K.refl u) hy⟩
theorem ent_or_imp {R : Tree → Prop} {x y z c : Tree} : Ent (plus R (.imp (.or x y) z)) c ↔ Ent (plus (plus R (.imp x z)) (.imp y z)) c := by
  refine (ent_swap (x := .imp (.or x y) z) (H := fun a => a = .imp x z ∨ a = .imp y z) fun K w _ => ⟨fun h a ha => ?_, fun h u hu hxy => ?_⟩).trans (Ent.congr fun a => ?_)
  · rcases ha with rfl | rfl
    · exact fun u hu hx => h u hu (.inl hx)
    · exact fun u hu hy => h u hu (.inr hy)
  · rcases hxy with hx | hy
    · exact h _ (.inl rfl) u hu hx
    · exact h _ (.inr rfl) u hu hy
  · exact or_assoc.symm
theorem ent_r_and {G : Tree → Prop} {x y : Tree} : Ent G (.and x y) ↔ Ent G x ∧ Ent G y :=
  ⟨fun h => ⟨fun K w hw => (h K w hw).1, fun K w hw => (h K w hw).2⟩, fun h K w hw => ⟨h.1 K w hw, h.2 K w hw⟩⟩
theorem ent_r_imp {G : Tree → Prop} {x y : Tree} : Ent G (.imp x y) ↔ Ent (plus G x) y := by
  constructor
  · intro h K w hw
    exact h K w (fun a ha => hw a (.inl ha)) w (K.refl w) (hw x (.inr rfl))
  · intro h K w hw u hu hx
    refine h K u fun a ha => ?_
    rcases ha with ha | rfl
    · exact K.force_mono hu (hw a ha)
    · exact hx
theorem ent_r_or1 {G : Tree → Prop} {x y : Tree} (h : Ent G x) : Ent G (.or x y) := fun K w hw => .inl (h K w hw)
theorem ent_r_or2 {G : Tree → Prop} {x y : Tree} (h : Ent G y) : Ent G (.or x y) := fun K w hw => .inr (h K w hw)
/-- The rule for (x>y)>z is sound. -/
theorem ent_imp_imp {R : Tree → Prop} {x y z c : Tree} (h1 : Ent (plus (plus R (.imp y z)) x) y) (h2 : Ent (plus R z) c) : Ent (plus R (.imp (.imp x y) z)) c := by
  intro K w hw
  have hz : K.force w z := by
    refine hw _ (.inr rfl) w (K.refl w) fun u hu hx => ?_
    refine h1 K u fun a ha => ?_
    rcases ha with (ha | rfl) | rfl
    · exact K.force_mono hu (hw a (.inl ha))
    · intro v hv hy
      exact hw _ (.inr rfl) v (K.trans hu hv) fun s hs _ => K.force_mono hs hy
    · exact hx
  refine h2 K w fun a ha => ?_
  rcases ha with ha | rfl
  · exact hw a (.inl ha)
  · exact hz

theorem not_ent {G : Tree → Prop} {c : Tree} (h : ¬ Ent G c) : ∃ (K : Kr) (w : K.W), (∀ a, G a → K.force w a) ∧ ¬ K.force w c := by
  by_cases hx : ∃ (K : Kr) (w : K.W), (∀ a, G a → K.force w a) ∧ ¬ K.force w c
  · exact hx
  · refine absurd (fun K w hw => ?_) h
    by_cases hc : K.force w c
    · exact hc
    · exact absurd ⟨K, w, hw, hc⟩ hx

/-- A formula to which no rule of the left side applies that loses nothing. -/
def Stuck (G : Tree → Prop) (a : Tree) : Prop := (∃ v, a = .var v) ∨ (∃ v y, a = .imp (.var v) y ∧ ¬ G (.var v)) ∨ (∃ x y z, a = .imp (.imp x y) z)

/-- Where every formula is stuck, a consequence comes by one of the ways. -/
theorem ent_ways {G : Tree → Prop} {c : Tree} (hs : ∀ a, G a → Stuck G a) (hc : ¬ G c) (hk : (∃ v, c = .var v) ∨ c = .fls ∨ ∃ x y, c = .or x y) (h : Ent G c) :
    (∃ x y, c = .or x y ∧ (Ent G x ∨ Ent G y)) ∨ ∃ x y z, G (.imp (.imp x y) z) ∧ Ent (fun a => (G a ∧ a ≠ .imp (.imp x y) z) ∨ a = .imp y z ∨ a = x) y ∧ Ent (fun a => (G a ∧ a ≠ .imp (.imp x y) z) ∨ a = z) c := by
  by_cases hno : (∃ x y, c = .or x y ∧ (Ent G x ∨ Ent G y)) ∨ ∃ x y z, G (.imp (.imp x y) z) ∧ Ent (fun a => (G a ∧ a ≠ .imp (.imp x y) z) ∨ a = .imp y z ∨ a = x) y ∧ Ent (fun a => (G a ∧ a ≠ .imp (.imp x y) z) ∨ a = z) c
  · exact hno
  exfalso
  -- the right premise of every such implication follows, since its conclusion does
  have hr : ∀ x y z, G (.imp (.imp x y) z) → Ent (fun a => (G a ∧ a ≠ .imp (.imp x y) z) ∨ a = z) c := by
    intro x y z hG K w hw
    refine h K w fun a ha => ?_
    by_cases e : a = .imp (.imp x y) z
    · subst e
      exact fun u hu _ => K.force_mono hu (hw z (.inr rfl))
    · exact hw a (.inl ⟨ha, e⟩)
  have hl : ∀ x y z, G (.imp (.imp x y) z) → ¬ Ent (fun a => (G a ∧ a ≠ .imp (.imp x y) z) ∨ a = .imp y z ∨ a = x) y := fun x y z hG hE => hno (.inr ⟨x, y, z, hG, hE, hr x y z hG⟩)
  -- the models: one for each implication of an implication, two for a disjunction
  let I := { q : Tree × Tree × Tree // G (.imp (.imp q.1 q.2.1) q.2.2) }
  have hm1 : ∀ i : I, ∃ (K : Kr) (w : K.W), (∀ a, ((G a ∧ a ≠ .imp (.imp i.1.1 i.1.2.1) i.1.2.2) ∨ a = .imp i.1.2.1 i.1.2.2 ∨ a = i.1.1) → K.force w a) ∧ ¬ K.force w i.1.2.1 := fun i => not_ent (hl _ _ _ i.2)
  let J := { q : Tree × Tree // c = .or q.1 q.2 } × Bool
  have hm2 : ∀ j : J, ∃ (K : Kr) (w : K.W), (∀ a, G a → K.force w a) ∧ ¬ K.force w (if j.2 then j.1.1.1 else j.1.1.2) := by
    rintro ⟨⟨⟨x, y⟩, hq⟩, b⟩
    cases b with
    | true => exact not_ent fun hE => hno (.inl ⟨x, y, hq, .inl hE⟩)
    | false => exact not_ent fun hE => hno (.inl ⟨x, y, hq, .inr hE⟩)
  let M : I ⊕ J → Kr := fun s => match s with
    | .inl i => Classical.choose (hm1 i)
    | .inr j => Classical.choose (hm2 j)
  let r : ∀ s : I ⊕ J, (M s).W := fun s => match s with
    | .inl i => Classical.choose (Classical.choose_spec (hm1 i))
    | .inr j => Classical.choose (Classical.choose_spec (hm2 j))
  have s1 : ∀ i : I, (∀ a, ((G a ∧ a ≠ .imp (.imp i.1.1 i.1.2.1) i.1.2.2) ∨ a = .imp i.1.2.1 i.1.2.2 ∨ a = i.1.1) → (M (.inl i)).force (r (.inl i)) a) ∧ ¬ (M (.inl i)).force (r (.inl i)) i.1.2.1 := fun i => Classical.choose_spec (Classical.choose_spec (hm1 i))
  have s2 : ∀ j : J, (∀ a, G a → (M (.inr j)).force (r (.inr j)) a) ∧ ¬ (M (.inr j)).force (r (.inr j)) (if j.2 then j.1.1.1 else j.1.1.2) := fun j => Classical.choose_spec (Classical.choose_spec (hm2 j))
  -- every model's root forces all of G
  have hall : ∀ (s : I ⊕ J) a, G a → (M s).force (r s) a := by
    intro s a ha
    match s with
    | .inr j => exact (s2 j).1 a ha
    | .inl i =>
      by_cases e : a = .imp (.imp i.1.1 i.1.2.1) i.1.2.2
      · rw [e]
        intro u hu hxy
        have hx := (s1 i).1 i.1.1 (.inr (.inr rfl))
        have hyz := (s1 i).1 (.imp i.1.2.1 i.1.2.2) (.inr (.inl rfl))
        exact hyz u hu (hxy u ((M (.inl i)).refl u) ((M (.inl i)).force_mono hu hx))
      · exact (s1 i).1 a (.inl ⟨ha, e⟩)
  let N := Kr.glue (I ⊕ J) M r (fun v => G (.var v)) (fun v hv s => hall s (.var v) hv)
  have hsome : ∀ (s : I ⊕ J) a, N.force (some ⟨s, r s⟩) a ↔ (M s).force (r s) a := fun s a => Kr.glue_force s a (r s)
  have hup : ∀ s : I ⊕ J, N.le none (some ⟨s, r s⟩) := fun s => (M s).refl (r s)
  -- the root forces all of G
  have hroot : ∀ a, G a → N.force none a := by
    intro a ha
    -- above the root, all of G is forced
    have habove : ∀ s u, (M s).le (r s) u → (M s).force u a := fun s u hu => (M s).force_mono hu (hall s a ha)
    rcases hs a ha with ⟨v, rfl⟩ | ⟨v, y, rfl, hv⟩ | ⟨x, y, z, rfl⟩
    · exact ha
    · intro w hw hp
      match w, hw, hp with
      | none, _, hp => exact absurd hp hv
      | some ⟨s, u⟩, hw, hp =>
        have h1 := habove s u hw
        exact (Kr.glue_force s y u).2 (h1 u ((M s).refl u) ((Kr.glue_force s (.var v) u).1 hp))
    · intro w hw hp
      match w, hw, hp with
      | none, _, hp =>
        have i : I := ⟨(x, y, z), ha⟩
        exfalso
        have hy := hp (some ⟨.inl ⟨(x, y, z), ha⟩, r (.inl ⟨(x, y, z), ha⟩)⟩) (hup (.inl ⟨(x, y, z), ha⟩)) ((hsome _ x).2 ((s1 ⟨(x, y, z), ha⟩).1 x (.inr (.inr rfl))))
        exact (s1 ⟨(x, y, z), ha⟩).2 ((hsome _ y).1 hy)
      | some ⟨s, u⟩, hw, hp =>
        have h1 := habove s u hw
        exact (Kr.glue_force s z u).2 (h1 u ((M s).refl u) ((Kr.glue_force s (.imp x y) u).1 hp))
  have hcf := h N none hroot
  rcases hk with ⟨v, rfl⟩ | rfl | ⟨x, y, rfl⟩
  · exact hc hcf
  · exact hcf
  · rcases hcf with hx | hy
    · have h1 := N.force_mono (hup (.inr (⟨(x, y), rfl⟩, true))) hx
      exact (s2 (⟨(x, y), rfl⟩, true)).2 ((hsome _ _).1 h1)
    · have h1 := N.force_mono (hup (.inr (⟨(x, y), rfl⟩, false))) hy
      exact (s2 (⟨(x, y), rfl⟩, false)).2 ((hsome _ _).1 h1)
end Fm
end Go.Proofs.YtkjmfkllmljdeaaGreat

/- The rules of a search over lists of formulas: what follows, and what grows smaller. No program is in sight. -/
namespace Go.Proofs.YtkjmfkllmljdeaaGreat
open Go.RowKit
open Fm (Tree Ent)

noncomputable def dc (p : Prop) : Bool := @decide p (Classical.propDecidable _)
theorem dc_true {p : Prop} (h : p) : dc p = true := @decide_eq_true _ (Classical.propDecidable _) h
theorem dc_false {p : Prop} (h : ¬ p) : dc p = false := @decide_eq_false _ (Classical.propDecidable _) h
theorem of_dc {p : Prop} (h : dc p = true) : p := @of_decide_eq_true _ (Classical.propDecidable _) h
theorem not_dc {p : Prop} (h : dc p = false) : ¬ p := @of_decide_eq_false _ (Classical.propDecidable _) h
theorem dc_congr {p q : Prop} (h : p ↔ q) : dc p = dc q := by rw [propext h]
theorem dc_and (p q : Prop) : dc (p ∧ q) = (dc p && dc q) := by
  by_cases hp : p
  · by_cases hq : q
    · rw [dc_true hp, dc_true hq, dc_true ⟨hp, hq⟩]; rfl
    · rw [dc_true hp, dc_false hq, dc_false fun h => hq h.2]; rfl
  · rw [dc_false hp, dc_false fun h => hp h.1]; rfl

/-- The formula follows from those of the list. -/
def EntL (L : List Tree) (c : Tree) : Prop := Ent (fun a => a ∈ L) c
theorem entL_congr {L K : List Tree} {c : Tree} (h : ∀ a, a ∈ L ↔ a ∈ K) : EntL L c ↔ EntL K c := Ent.congr h
theorem entL_more {L K : List Tree} {c : Tree} (h : ∀ a, a ∈ L → a ∈ K) (hL : EntL L c) : EntL K c := Ent.more h hL
/-- L is R with one formula more. -/
def Adds (L R : List Tree) (x : Tree) : Prop := ∀ b, b ∈ L ↔ b ∈ R ∨ b = x
theorem adds_ent {L R : List Tree} {x c : Tree} (h : Adds L R x) : EntL L c ↔ Ent (Fm.plus (fun b => b ∈ R) x) c := Ent.congr h
/-- L is R with two formulas more. -/
def Adds2 (L R : List Tree) (x y : Tree) : Prop := ∀ b, b ∈ L ↔ b ∈ R ∨ b = x ∨ b = y
theorem adds2_ent {L R : List Tree} {x y c : Tree} (h : Adds2 L R x y) : EntL L c ↔ Ent (Fm.plus (Fm.plus (fun b => b ∈ R) x) y) c :=
  Ent.congr fun b => (h b).trans or_assoc.symm

theorem el_mem {L : List Tree} {c : Tree} (h : c ∈ L) : EntL L c := Fm.ent_mem h
theorem el_fls {L : List Tree} {c : Tree} (h : Tree.fls ∈ L) : EntL L c := Fm.ent_fls h
theorem el_or_useless {L R : List Tree} {x y c : Tree} (ha : Adds L R (.or x y)) (h : x ∈ R ∨ y ∈ R) : EntL L c ↔ EntL R c := (adds_ent ha).trans (Fm.ent_or_useless h)
theorem el_imp_useless {L R : List Tree} {x y c : Tree} (ha : Adds L R (.imp x y)) (h : y ∈ R) : EntL L c ↔ EntL R c := (adds_ent ha).trans (Fm.ent_imp_useless h)
theorem el_fls_imp {L R : List Tree} {y c : Tree} (ha : Adds L R (.imp .fls y)) : EntL L c ↔ EntL R c := (adds_ent ha).trans Fm.ent_fls_imp
theorem el_and {L R K : List Tree} {x y c : Tree} (ha : Adds L R (.and x y)) (hk : Adds2 K R x y) : EntL L c ↔ EntL K c := (adds_ent ha).trans (Fm.ent_and.trans (adds2_ent hk).symm)
theorem el_or {L R K1 K2 : List Tree} {x y c : Tree} (ha : Adds L R (.or x y)) (h1 : Adds K1 R x) (h2 : Adds K2 R y) : EntL L c ↔ EntL K1 c ∧ EntL K2 c :=
  (adds_ent ha).trans (Fm.ent_or.trans (and_congr (adds_ent h1).symm (adds_ent h2).symm))
theorem el_and_imp {L R K : List Tree} {x y z c : Tree} (ha : Adds L R (.imp (.and x y) z)) (hk : Adds K R (.imp x (.imp y z))) : EntL L c ↔ EntL K c := (adds_ent ha).trans (Fm.ent_and_imp.trans (adds_ent hk).symm)
theorem el_or_imp {L R K : List Tree} {x y z c : Tree} (ha : Adds L R (.imp (.or x y) z)) (hk : Adds2 K R (.imp x z) (.imp y z)) : EntL L c ↔ EntL K c := (adds_ent ha).trans (Fm.ent_or_imp.trans (adds2_ent hk).symm)
theorem el_mp {L R K : List Tree} {x y c : Tree} (ha : Adds L R (.imp x y)) (hx : x ∈ R) (hk : Adds K R y) : EntL L c ↔ EntL K c := (adds_ent ha).trans ((Fm.ent_mp hx).trans (adds_ent hk).symm)
theorem el_r_and {L : List Tree} {x y : Tree} : EntL L (.and x y) ↔ EntL L x ∧ EntL L y := Fm.ent_r_and
theorem el_r_imp {L K : List Tree} {x y : Tree} (hk : Adds K L x) : EntL L (.imp x y) ↔ EntL K y := Fm.ent_r_imp.trans (adds_ent hk).symm
theorem el_r_or1 {L : List Tree} {x y : Tree} (h : EntL L x) : EntL L (.or x y) := Fm.ent_r_or1 h
theorem el_r_or2 {L : List Tree} {x y : Tree} (h : EntL L y) : EntL L (.or x y) := Fm.ent_r_or2 h
theorem el_imp_imp {L R K1 K2 : List Tree} {x y z c : Tree} (ha : Adds L R (.imp (.imp x y) z)) (h1 : Adds2 K1 R (.imp y z) x) (h2 : Adds K2 R z) (e1 : EntL K1 y) (e2 : EntL K2 c) : EntL L c :=
  (adds_ent ha).2 (Fm.ent_imp_imp ((adds2_ent h1).1 e1) ((adds_ent h2).1 e2))

/-- No rule of the left side applies to a formula that loses nothing. -/
def StuckL (L : List Tree) (a : Tree) : Prop := Fm.Stuck (fun b => b ∈ L) a
/-- Where every formula is stuck, a consequence comes by one of the ways. -/
theorem el_ways {L : List Tree} {c : Tree} (hs : ∀ a, a ∈ L → StuckL L a) (hc : ¬ c ∈ L) (hk : (∃ v, c = .var v) ∨ c = .fls ∨ ∃ x y, c = .or x y) (h : EntL L c) :
    (∃ x y, c = .or x y ∧ (EntL L x ∨ EntL L y)) ∨ ∃ x y z, (Tree.imp (.imp x y) z) ∈ L ∧
      ∀ R, (∀ b, b ∈ L → b ≠ .imp (.imp x y) z → b ∈ R) → (∀ K, Adds2 K R (.imp y z) x → EntL K y) ∧ ∀ K, Adds K R z → EntL K c := by
  rcases Fm.ent_ways hs hc hk h with h1 | ⟨x, y, z, h1, h2, h3⟩
  · exact .inl h1
  · refine .inr ⟨x, y, z, h1, fun R hR => ⟨fun K hK => ?_, fun K hK => ?_⟩⟩
    · refine Ent.more (fun b hb => (hK b).2 ?_) h2
      rcases hb with ⟨hb, hne⟩ | hb | hb
      · exact .inl (hR b hb hne)
      · exact .inr (.inl hb)
      · exact .inr (.inr hb)
    · refine Ent.more (fun b hb => (hK b).2 ?_) h3
      rcases hb with ⟨hb, hne⟩ | hb
      · exact .inl (hR b hb hne)
      · exact .inr hb

/-! What grows smaller. -/
def wt : Tree → Nat
  | .var _ => 1
  | .fls => 1
  | .and a b => wt a + wt b + 2
  | .or a b => wt a + wt b + 1
  | .imp a b => wt a + wt b + 1
  | .box a => wt a + 1
  | .dia a => wt a + 1
theorem wt_pos (t : Tree) : 1 ≤ wt t := by cases t <;> simp [wt]
def nn (t : Tree) : Nat := (Fm.enc t).length
theorem nn_pos (t : Tree) : 1 ≤ nn t := Fm.enc_pos t
theorem nn_and (a b : Tree) : nn (.and a b) = nn a + nn b + 1 := by simp [nn, Fm.enc]
theorem nn_or (a b : Tree) : nn (.or a b) = nn a + nn b + 1 := by simp [nn, Fm.enc]
theorem nn_imp (a b : Tree) : nn (.imp a b) = nn a + nn b + 1 := by simp [nn, Fm.enc]
def tot (f : Tree → Nat) (L : List Tree) : Nat := (L.map f).sum
theorem tot_nil (f : Tree → Nat) : tot f [] = 0 := rfl
theorem tot_cons (f : Tree → Nat) (a : Tree) (L : List Tree) : tot f (a :: L) = f a + tot f L := by simp [tot]
theorem tot_app (f : Tree → Nat) (L K : List Tree) : tot f (L ++ K) = tot f L + tot f K := by simp [tot]
theorem tot_one (f : Tree → Nat) (a : Tree) : tot f [a] = f a := by simp [tot]
theorem tot_two (f : Tree → Nat) (a b : Tree) : tot f [a, b] = f a + f b := by simp [tot]
theorem tot_perm {f : Tree → Nat} {L K : List Tree} (h : L.Perm K) : tot f L = tot f K := (h.map f).sum_nat
theorem tot_sub {f : Tree → Nat} {L K : List Tree} (h : L.Sublist K) : tot f L ≤ tot f K := by
  induction h with
  | slnil => exact Nat.le_refl _
  | cons a _ ih => rw [tot_cons]; omega
  | cons_cons a _ ih => rw [tot_cons, tot_cons]; omega
def f4 (t : Tree) : Nat := 4 ^ wt t
def f2 (t : Tree) : Nat := 2 ^ nn t
def mu (L : List Tree) (c : Tree) : Nat := tot f4 L + f4 c
def nu (L : List Tree) (c : Tree) : Nat := tot f2 L + f2 c
theorem p4_lt {a b : Nat} (h : a < b) : 4 * 4 ^ a ≤ 4 ^ b := by
  obtain ⟨k, rfl⟩ : ∃ k, b = a + 1 + k := ⟨b - a - 1, by omega⟩
  rw [Nat.pow_add, Nat.pow_succ]
  have := Nat.pow_pos (n := k) (show 0 < 4 by omega)
  calc 4 * 4 ^ a = 4 ^ a * 4 * 1 := by omega
    _ ≤ 4 ^ a * 4 * 4 ^ k := Nat.mul_le_mul_left _ this
theorem p4_pos (a : Nat) : 1 ≤ 4 ^ a := Nat.pow_pos (by omega)
theorem p2_lt {a b : Nat} (h : a < b) : 2 * 2 ^ a ≤ 2 ^ b := by
  obtain ⟨k, rfl⟩ : ∃ k, b = a + 1 + k := ⟨b - a - 1, by omega⟩
  rw [Nat.pow_add, Nat.pow_succ]
  have := Nat.pow_pos (n := k) (show 0 < 2 by omega)
  calc 2 * 2 ^ a = 2 ^ a * 2 * 1 := by omega
    _ ≤ 2 ^ a * 2 * 2 ^ k := Nat.mul_le_mul_left _ this
theorem p2_lt2 {a b : Nat} (h : a + 2 ≤ b) : 4 * 2 ^ a ≤ 2 ^ b := by
  have h1 := p2_lt (show a < a + 1 by omega)
  have h2 := p2_lt (show a + 1 < b by omega)
  omega
theorem p2_pos (a : Nat) : 1 ≤ 2 ^ a := Nat.pow_pos (by omega)

theorem f4_pos (a : Tree) : 1 ≤ f4 a := p4_pos _
theorem f4_and (a b : Tree) : f4 a + f4 b < f4 (.and a b) := by
  have h1 := p4_lt (show wt a < wt (.and a b) by simp only [wt]; omega)
  have h2 := p4_lt (show wt b < wt (.and a b) by simp only [wt]; omega)
  have := f4_pos a
  unfold f4 at *; omega
theorem f4_or (a b : Tree) : f4 a + f4 b < f4 (.or a b) := by
  have h1 := p4_lt (show wt a < wt (.or a b) by have := wt_pos b; simp only [wt]; omega)
  have h2 := p4_lt (show wt b < wt (.or a b) by have := wt_pos a; simp only [wt]; omega)
  have := f4_pos a
  unfold f4 at *; omega
theorem f4_imp (a b : Tree) : f4 a + f4 b < f4 (.imp a b) := by
  have h1 := p4_lt (show wt a < wt (.imp a b) by have := wt_pos b; simp only [wt]; omega)
  have h2 := p4_lt (show wt b < wt (.imp a b) by have := wt_pos a; simp only [wt]; omega)
  have := f4_pos a
  unfold f4 at *; omega
theorem f4_and_imp (x y z : Tree) : f4 (.imp x (.imp y z)) < f4 (.imp (.and x y) z) := by
  have h1 := p4_lt (show wt (.imp x (.imp y z)) < wt (.imp (.and x y) z) by simp only [wt]; omega)
  have := f4_pos (.imp x (.imp y z))
  unfold f4 at *; omega
theorem f4_or_imp (x y z : Tree) : f4 (.imp x z) + f4 (.imp y z) < f4 (.imp (.or x y) z) := by
  have h1 := p4_lt (show wt (.imp x z) < wt (.imp (.or x y) z) by have := wt_pos y; simp only [wt]; omega)
  have h2 := p4_lt (show wt (.imp y z) < wt (.imp (.or x y) z) by have := wt_pos x; simp only [wt]; omega)
  have := f4_pos (.imp x z)
  unfold f4 at *; omega
theorem f4_imp_imp (x y z : Tree) : f4 (.imp y z) + f4 x + f4 y < f4 (.imp (.imp x y) z) := by
  have h1 := p4_lt (show wt (.imp y z) < wt (.imp (.imp x y) z) by have := wt_pos x; simp only [wt]; omega)
  have h2 := p4_lt (show wt x < wt (.imp (.imp x y) z) by have := wt_pos y; simp only [wt]; omega)
  have h3 := p4_lt (show wt y < wt (.imp (.imp x y) z) by have := wt_pos x; simp only [wt]; omega)
  have := f4_pos x
  unfold f4 at *; omega
theorem f4_imp_imp' (x y z : Tree) : f4 (.imp y z) + f4 (.imp x y) < f4 (.imp (.imp x y) z) := by
  have h1 := p4_lt (show wt (.imp y z) < wt (.imp (.imp x y) z) by have := wt_pos x; simp only [wt]; omega)
  have h2 := p4_lt (show wt (.imp x y) < wt (.imp (.imp x y) z) by have := wt_pos z; simp only [wt]; omega)
  have := f4_pos (.imp x y)
  unfold f4 at *; omega
theorem f2_pos (a : Tree) : 1 ≤ f2 a := p2_pos _
theorem f2_and (a b : Tree) : f2 a + f2 b ≤ f2 (.and a b) := by
  have h1 := p2_lt (show nn a < nn (.and a b) by rw [nn_and]; omega)
  have h2 := p2_lt (show nn b < nn (.and a b) by rw [nn_and]; omega)
  unfold f2 at *; omega
theorem f2_or (a b : Tree) : f2 a + f2 b ≤ f2 (.or a b) := by
  have h1 := p2_lt (show nn a < nn (.or a b) by rw [nn_or]; omega)
  have h2 := p2_lt (show nn b < nn (.or a b) by rw [nn_or]; omega)
  unfold f2 at *; omega
theorem f2_imp (a b : Tree) : f2 a + f2 b ≤ f2 (.imp a b) := by
  have h1 := p2_lt (show nn a < nn (.imp a b) by rw [nn_imp]; omega)
  have h2 := p2_lt (show nn b < nn (.imp a b) by rw [nn_imp]; omega)
  unfold f2 at *; omega
theorem f2_and_imp (x y z : Tree) : f2 (.imp x (.imp y z)) = f2 (.imp (.and x y) z) := by
  unfold f2
  congr 1
  simp only [nn_imp, nn_and]; omega
theorem f2_or_imp (x y z : Tree) : f2 (.imp x z) + f2 (.imp y z) ≤ f2 (.imp (.or x y) z) := by
  have h1 := p2_lt (show nn (.imp x z) < nn (.imp (.or x y) z) by simp only [nn_imp, nn_or]; omega)
  have h2 := p2_lt (show nn (.imp y z) < nn (.imp (.or x y) z) by simp only [nn_imp, nn_or]; omega)
  unfold f2 at *; omega
theorem f2_imp_imp (x y z : Tree) : f2 (.imp y z) + f2 x + f2 y ≤ f2 (.imp (.imp x y) z) := by
  have h1 := p2_lt2 (show nn (.imp y z) + 2 ≤ nn (.imp (.imp x y) z) by have := nn_pos x; simp only [nn_imp]; omega)
  have h2 := p2_lt2 (show nn x + 2 ≤ nn (.imp (.imp x y) z) by simp only [nn_imp]; omega)
  have h3 := p2_lt2 (show nn y + 2 ≤ nn (.imp (.imp x y) z) by simp only [nn_imp]; omega)
  unfold f2 at *; omega
theorem f2_imp_imp' (x y z : Tree) : f2 (.imp y z) + f2 (.imp x y) ≤ f2 (.imp (.imp x y) z) := by
  have h1 := p2_lt (show nn (.imp y z) < nn (.imp (.imp x y) z) by simp only [nn_imp]; omega)
  have h2 := p2_lt (show nn (.imp x y) < nn (.imp (.imp x y) z) by simp only [nn_imp]; omega)
  unfold f2 at *; omega
theorem len_tot (L : List Tree) : L.length ≤ tot f2 L := by
  induction L with
  | nil => exact Nat.le_refl _
  | cons a L ih => rw [tot_cons]; have := f2_pos a; simp only [List.length_cons]; omega
theorem len_nu (L : List Tree) (c : Tree) : L.length ≤ nu L c := by have := len_tot L; unfold nu; omega
theorem tot2_pow (L : List Tree) : tot f2 L ≤ 2 ^ tot nn L ∧ (1 ≤ L.length → 1 ≤ tot nn L) ∧ (L = [] → tot f2 L = 0) := by
  induction L with
  | nil => exact ⟨by simp [tot], by simp, fun _ => rfl⟩
  | cons a L ih =>
    have ha := nn_pos a
    refine ⟨?_, fun _ => by rw [tot_cons]; omega, by simp⟩
    rw [tot_cons, tot_cons]
    cases L with
    | nil => simp [tot, f2]
    | cons b K =>
      have h1 := ih.2.1 (by simp)
      have h2 := p2_lt (show nn a < nn a + tot nn (b :: K) by omega)
      have h3 := p2_lt (show tot nn (b :: K) < nn a + tot nn (b :: K) by omega)
      have h4 := ih.1
      unfold f2 at *
      omega
theorem nu_pow (L : List Tree) (c : Tree) : nu L c ≤ 2 ^ (tot nn L + nn c) := by
  have hc := nn_pos c
  cases L with
  | nil => simp [nu, tot, f2]
  | cons b K =>
    have h1 := (tot2_pow (b :: K)).2.1 (by simp)
    have h2 := p2_lt (show tot nn (b :: K) < tot nn (b :: K) + nn c by omega)
    have h3 := p2_lt (show nn c < tot nn (b :: K) + nn c by omega)
    have h4 := (tot2_pow (b :: K)).1
    unfold nu
    have h5 : f2 c = 2 ^ nn c := rfl
    omega
theorem nu_small {L : List Tree} {c : Tree} (h : tot nn L + nn c ≤ 20) : nu L c ≤ 1048576 := by
  have h1 := nu_pow L c
  have h2 : 2 ^ (tot nn L + nn c) ≤ 2 ^ 20 := Nat.pow_le_pow_right (by omega) h
  have h3 : (2 : Nat) ^ 20 = 1048576 := by decide
  omega

/-! Formulas of the search. -/
theorem fmOk_nn {A : Tree} (h : FmOk A) : nn A ≤ 40 := h.1
theorem fmOk_imp_mk {A B : Tree} (hA : FmOk A) (hB : FmOk B) (h : nn A + nn B + 1 ≤ 40) : FmOk (.imp A B) := FmOk.join (k := 4) rfl (by omega) hA hB (by have := nn_imp A B; unfold nn at *; omega)
theorem fmOk_and_imp {x y z : Tree} (h : FmOk (.imp (.and x y) z)) : FmOk (.imp x (.imp y z)) := by
  obtain ⟨h1, h2⟩ := fmOk_imp h
  obtain ⟨h3, h4⟩ := fmOk_and h1
  have h5 := fmOk_nn h
  simp only [nn_imp, nn_and] at h5
  exact fmOk_imp_mk h3 (fmOk_imp_mk h4 h2 (by omega)) (by rw [nn_imp]; omega)
theorem fmOk_or_imp {x y z : Tree} (h : FmOk (.imp (.or x y) z)) : FmOk (.imp x z) ∧ FmOk (.imp y z) := by
  obtain ⟨h1, h2⟩ := fmOk_imp h
  obtain ⟨h3, h4⟩ := fmOk_or h1
  have h5 := fmOk_nn h
  simp only [nn_imp, nn_or] at h5
  exact ⟨fmOk_imp_mk h3 h2 (by omega), fmOk_imp_mk h4 h2 (by omega)⟩
theorem fmOk_imp_imp {x y z : Tree} (h : FmOk (.imp (.imp x y) z)) : FmOk x ∧ FmOk y ∧ FmOk z ∧ FmOk (.imp x y) ∧ FmOk (.imp y z) := by
  obtain ⟨h1, h2⟩ := fmOk_imp h
  obtain ⟨h3, h4⟩ := fmOk_imp h1
  have h5 := fmOk_nn h
  simp only [nn_imp] at h5
  exact ⟨h3, h4, h2, h1, fmOk_imp_mk h4 h2 (by omega)⟩
/-- A formula without modalities is of one of five kinds. -/
theorem fm_five {A : Tree} (h : FmOk A) : (∃ v, A = .var v) ∨ A = .fls ∨ (∃ x y, A = .and x y) ∨ (∃ x y, A = .or x y) ∨ ∃ x y, A = .imp x y := by
  cases A with
  | var v => exact .inl ⟨v, rfl⟩
  | fls => exact .inr (.inl rfl)
  | and x y => exact .inr (.inr (.inl ⟨x, y, rfl⟩))
  | or x y => exact .inr (.inr (.inr (.inl ⟨x, y, rfl⟩)))
  | imp x y => exact .inr (.inr (.inr (.inr ⟨x, y, rfl⟩)))
  | box x => exact absurd (anyP_mem.1 h.2 (5, 0) (by simp [Fm.enc])) (by simp [isBD])
  | dia x => exact absurd (anyP_mem.1 h.2 (6, 0) (by simp [Fm.enc])) (by simp [isBD])
/-- A state of the search. -/
def OkS (L : List Tree) (c : Tree) : Prop := (∀ a ∈ L, FmOk a) ∧ FmOk c ∧ nu L c ≤ 1048576
end Go.Proofs.YtkjmfkllmljdeaaGreat

/- slices.Index, slices.Contains at texts. -/
namespace Go.Proofs.YtkjmfkllmljdeaaGreat
open Go.RowKit

theorem bytes_ne' {a b : ByteArray} (h : a ≠ b) : (a.toList == b.toList) = false := by
  rw [beq_eq_false_iff_ne]
  intro he
  exact h (by rw [Lib.toList_data, Lib.toList_data] at he; cases a; cases b; simpa using he)
theorem bytes_eq' (a : ByteArray) : (a.toList == a.toList) = true := by simp
/-- The first k texts are others. -/
def NotS (L : List ByteArray) (s : ByteArray) (k : Nat) : Prop := ∀ i, i < k → st L i ≠ s
theorem NotS.zero (L : List ByteArray) (s : ByteArray) : NotS L s 0 := fun i hi => absurd hi (by omega)
theorem NotS.succ {L : List ByteArray} {s : ByteArray} {k : Nat} (h : NotS L s k) (h1 : st L k ≠ s) : NotS L s (k + 1) := by
  intro i hi
  rcases Nat.lt_or_ge i k with hk | hk
  · exact h i hk
  · obtain rfl : i = k := by omega
    exact h1
theorem notS_all {L : List ByteArray} {s : ByteArray} (h : NotS L s L.length) : ¬ s ∈ L := by
  intro hm
  obtain ⟨i, hi, he⟩ := List.getElem_of_mem hm
  exact h i hi (by rw [← st_get hi, he])
theorem st_mem {L : List ByteArray} {k : Nat} (hk : k < L.length) : st L k ∈ L := by rw [← st_get hk]; exact List.getElem_mem hk

theorem indexS_c (v : Value) (L : List ByteArray) (s : ByteArray) (w : World) (h : Strs w v L) (hn : L.length ≤ 1099511627776) :
    Calls Tryz.prog 80 #[v, .string s] w fun e w' => ∃ r : Int, e = .returned (.int .i64 r) ∧ Grew w w' ∧ decide (0 ≤ r) = dc (s ∈ L) := by
  obtain ⟨R, hR⟩ : ∃ R, R = dc (s ∈ L) := ⟨_, rfl⟩
  rw [← hR]
  rcases h.open_ with ⟨rfl, rfl⟩ | ⟨b, o, c, rfl, hc, hm, hb, hcell⟩
  · have hv := Lib.hid (hR.trans (dc_false (by simp)))
    clear h hR
    go_enter Tryz.func80, Tryz.ntmps80
    go_wp2_with fail
    refine wp_loop_rounds 1 ?_; rw [rounds_succ]
    go_wp2_with fail
    go_ret
    exact ⟨_, rfl, Grew.refl _, by rw [hv.out]; rfl⟩
  have HA := Lib.hid (fun k (hk : k < L.length) (he : st L k = s) => hR.trans (dc_true (by rw [← he]; exact st_mem hk)))
  have HZ := Lib.hid (fun h => hR.trans (dc_false (@notS_all L s h)))
  have HC := Lib.hid hcell
  clear h hcell hR
  generalize hN : L.length = n at *
  clear hN
  go_enter Tryz.func80, Tryz.ntmps80
  go_wp2_with fail
  go_loopw [8] (fun i wr => ∃ j : Nat, j ≤ n ∧ i = .int .i64 j ∧ Grew w wr ∧ Hid (NotS L s j)) (fun i _ => n - (intOf i).toNat)
  case atStart => exact ⟨0, Nat.zero_le _, rfl, Grew.refl _, NotS.zero _ _⟩
  case round =>
    obtain ⟨j, hj, rfl, hB, HJ⟩ := hrel
    by_cases hlt : j < n
    · have k1 := HC.out j hlt _ hB
      have hA := Lib.hid (HA.out j hlt)
      have hS := Lib.hid (fun h => HJ.out.succ (k := j) h)
      generalize st L j = x at *
      by_cases hx : x = s
      · have hv := Lib.hid (hA.out hx)
        subst hx
        have q1 := bytes_eq' x
        clear hA hS
        go_wp2_with fail
        go_ret
        exact ⟨_, rfl, hB, by rw [hv.out]; simp⟩
      · have hs := Lib.hid (hS.out hx)
        have q1 := bytes_ne' (fun e : s = x => hx e.symm)
        have q2 := bytes_ne' hx
        clear hA hS hx
        go_wp2_with fail
        go_roundw
        case rel => exact ⟨j + 1, by omega, by go_num, hB, hs⟩
        case measure => simp [intOf]; omega
    · obtain rfl : j = n := by omega
      have hv := Lib.hid (HZ.out HJ.out)
      go_wp2_with fail
      go_ret
      exact ⟨_, rfl, hB, by rw [hv.out]; rfl⟩
theorem containsS_c (v : Value) (L : List ByteArray) (s : ByteArray) (w : World) (h : Strs w v L) (hn : L.length ≤ 1099511627776) :
    Calls Tryz.prog 62 #[v, .string s] w fun e w' => e = .returned (.bool (dc (s ∈ L))) ∧ Grew w w' := by
  have HI := Lib.hid (indexS_c v L s w h hn)
  obtain ⟨A, c, rfl⟩ := strs_slice h
  clear h
  generalize dc (s ∈ L) = R at *
  go_enter Tryz.func62, Tryz.ntmps62
  go_wp2_with fail
  refine HI.out.mono ?_
  rintro e w1 ⟨r, rfl, hg1, hr⟩
  go_wp2_with fail
  go_ret
  exact ⟨by rw [← hr]; rfl, hg1⟩

theorem own_emptyS' (w : World) : OwnS (w.alloc (.cells #[] 9)) w.heap.size (.slice (some ⟨w.heap.size, 0, none⟩) 0 0) [] :=
  World.ownsRow_lit (e := 9) (size := 1) w #[] 0 (Nat.le_refl _) (by omega) rfl
end Go.Proofs.YtkjmfkllmljdeaaGreat

/- The premises that a rule of the sequent calculus tells. partTexts at a text. -/
namespace Go.Proofs.YtkjmfkllmljdeaaGreat
open Go.RowKit

/-- What a rule for a main formula of the left side tells. -/
noncomputable def lgl (R : Int) (L : List ByteArray) (C M : ByteArray) : Option (List Jg) :=
  if R = 3 ∧ kT M = 2 then some [(putS (L ++ [pl M, pr M]), C)]
  else if R = 5 ∧ kT M = 3 then some [(putS (L ++ [pl M]), C), (putS (L ++ [pr M]), C)]
  else if R = 8 ∧ kT M = 4 then some [(L, pl M), (putS (L ++ [pr M]), C)]
  else none
/-- What a rule for the right side tells. -/
noncomputable def rgl (R : Int) (L : List ByteArray) (C : ByteArray) : Option (List Jg) :=
  if R = 4 ∧ kT C = 2 then some [(L, pl C), (L, pr C)]
  else if R = 6 ∧ kT C = 3 then some [(L, pl C)]
  else if R = 7 ∧ kT C = 3 then some [(L, pr C)]
  else if R = 9 ∧ kT C = 4 then some [(putS (L ++ [pl C]), pr C)]
  else none
/-- What a rule tells. -/
noncomputable def gls (R : Int) (L : List ByteArray) (C M : ByteArray) : Option (List Jg) :=
  if R = 1 then (if dcd (M = ByteArray.empty ∧ C ∈ L) = true then some [] else none)
  else if R = 2 then (if dcd (M = ByteArray.empty ∧ txF ∈ L) = true then some [] else none)
  else if R = 3 ∨ R = 5 ∨ R = 8 then (if dcd (M ∈ L) = true then lgl R L C M else none)
  else if R = 11 then (if gp M = true then some [(L, M), (putS (L ++ [M]), C)] else none)
  else (if dcd (M = ByteArray.empty) = true then rgl R L C else none)
def GivesO (w : World) (o : Option (List Jg)) (e : Ending) (w' : World) : Prop := ∃ v, e = .returned (.tuple #[v, .bool o.isSome]) ∧ (∃ A n c, v = .slice A n c) ∧ (∀ Ks, o = some Ks → Jgs w' v Ks) ∧ Grew w w'
theorem givesO_none {w w' : World} {A : Option Addr} {n c : Nat} (h : Grew w w') : GivesO w none (.returned (.tuple #[.slice A n c, .bool false])) w' := ⟨_, rfl, ⟨_, _, _, rfl⟩, fun _ h => (by cases h), h⟩
theorem givesO_some {w w' : World} {A : Option Addr} {n c : Nat} {Ks : List Jg} (hj : Jgs w' (.slice A n c) Ks) (h : Grew w w') : GivesO w (some Ks) (.returned (.tuple #[.slice A n c, .bool true])) w' := ⟨_, rfl, ⟨_, _, _, rfl⟩, fun _ h => (by obtain rfl := Option.some.inj h; exact hj), h⟩
theorem kT_five {s : ByteArray} (h : gp s = true) : kT s = 0 ∨ kT s = 1 ∨ kT s = 2 ∨ kT s = 3 ∨ kT s = 4 := by
  have hf := (fo_ok h).1
  unfold kT
  generalize fo s = A at *
  cases A with
  | var v => exact .inl rfl
  | fls => exact .inr (.inl rfl)
  | and x y => exact .inr (.inr (.inl rfl))
  | or x y => exact .inr (.inr (.inr (.inl rfl)))
  | imp x y => exact .inr (.inr (.inr (.inr rfl)))
  | box x => exact absurd (anyP_mem.1 hf.2 (5, 0) (by simp [Fm.enc])) (by simp [isBD])
  | dia x => exact absurd (anyP_mem.1 hf.2 (6, 0) (by simp [Fm.enc])) (by simp [isBD])
theorem pf_fo {s : ByteArray} (h : gp s = true) : (Fm.pf s).1 = Fm.enc (fo s) := by
  obtain ⟨h1, h2⟩ := fo_ok h
  have h3 := tx_pf h1.1
  rw [h2] at h3
  rw [h3]
theorem pt_two (s : ByteArray) (v : Value) (w : World) (h : gp s = true) (hk : kT s = 2 ∨ kT s = 3 ∨ kT s = 4) (hA : Nodes w v (Fm.enc (fo s))) :
    Calls Tryz.prog 81 #[v] w (GivesS w [pl s, pr s]) := by
  obtain ⟨h2, hok, _⟩ := two_of h hk
  exact partTexts_two v (fo s) (lft (fo s)) (rgt (fo s)) w hA hok.1 h2 hk
theorem pt_any (s : ByteArray) (v : Value) (w : World) (h : gp s = true) (hA : Nodes w v (Fm.enc (fo s))) :
    Calls Tryz.prog 81 #[v] w fun e w' => ∃ A n c, e = .returned (.slice A n c) ∧ Grew w w' := by
  by_cases hk : kT s = 2 ∨ kT s = 3 ∨ kT s = 4
  · refine (pt_two s v w h hk hA).mono ?_
    rintro e w' ⟨u, rfl, hu, hg⟩
    obtain ⟨A, c, rfl⟩ := strs_slice hu.strs
    exact ⟨_, _, _, rfl, hg⟩
  · refine (partTexts_none v (fo s) w hA (by have := kT_five h; unfold kT at *; omega)).mono ?_
    rintro e w' ⟨rfl, hg⟩
    exact ⟨_, _, _, rfl, hg⟩
theorem strs_at1 {w : World} {k : Nat} {a : ByteArray} (hk : k < w.heap.size) (h : w.cell? ⟨k, 0, none⟩ = some (.string a)) : Strs w (.slice (some ⟨k, 0, none⟩) 1 1) [a] := by
  refine ⟨rfl, by simp, .inr ⟨k, 0, 1, rfl, by simp, by omega, hk, fun j u hu => ?_⟩⟩
  have hj : j = 0 := by have := (List.getElem?_eq_some_iff.1 hu).1; simp [scells] at this; omega
  subst hj
  obtain rfl : (.string a : Value) = u := by simpa [scells] using hu
  exact h
theorem putS_len (L : List ByteArray) : (putS L).length ≤ L.length := by
  unfold putS putB
  rw [List.length_map]
  have := Lib.compact_length_le ((bl L).mergeSort fun x y => decide (x ≤ y))
  rw [List.length_mergeSort] at this
  simpa [bl] using this
end Go.Proofs.YtkjmfkllmljdeaaGreat

/- The order of texts. -/
namespace Go.Proofs.YtkjmfkllmljdeaaGreat
open Go.RowKit

theorem above_iff : ∀ (x y : List UInt8), (Op.bytesLess x y || x == y) = !Op.bytesLess y x
  | [], [] => by simp [Op.bytesLess]
  | _ :: _, [] => by simp [Op.bytesLess]
  | [], _ :: _ => by simp [Op.bytesLess]
  | a :: x, b :: y => by
    have ih := above_iff x y
    rw [Op.bytesLess, Op.bytesLess]
    by_cases h1 : a < b
    · have h2 : ¬ b < a := by simp only [UInt8.lt_iff_toNat_lt] at *; omega
      have h3 : ¬ b = a := by rintro rfl; exact h2 h1
      simp [h1, h2, h3]
    · by_cases h2 : a = b
      · subst h2
        have h3 : ¬ a < a := h1
        simp only [h3, decide_false, Bool.false_or, beq_self_eq_true, Bool.true_and]
        rw [← ih]
        simp
      · have h3 : b < a := by
          simp only [UInt8.lt_iff_toNat_lt, ← UInt8.toNat_inj] at *
          omega
        have h4 : ¬ b = a := fun h => h2 h.symm
        simp [h1, h2, h3, h4]
end Go.Proofs.YtkjmfkllmljdeaaGreat

/- A sequent: every text of the left side is a plain text above the one before. -/
namespace Go.Proofs.YtkjmfkllmljdeaaGreat
open Go.RowKit
open Fm (Nd)

theorem l22Formula_c (s : ByteArray) (w : World) (hs : s.size ≤ 140737488355328) :
    Calls Tryz.prog 52 #[.string s] w (GivesP w s) := by
  have HG := fun w => l02Good_c s w hs
  have hn := Fm.pf_len s
  unfold GivesP gp
  unfold GivesG at HG
  generalize (Fm.pf s).1 = xs at *
  have HP := Lib.hid (fun v w h => l02Plain_c v xs w h (by omega))
  generalize anyP isBD xs = q at *
  cases hg : gd s with
  | true =>
    rw [hg] at HG
    replace HG := Lib.hid HG
    clear hg
    go_enter Tryz.func52, Tryz.ntmps52
    go_wp2_with fail
    refine (HG.out _).mono ?_
    rintro e w1 ⟨v1, rfl, ho1, hg1⟩
    go_wp2_with fail
    refine (HP.out _ _ ho1.nodes).mono ?_
    rintro e w2 ⟨rfl, hg2⟩
    go_wp2_with fail
    go_ret2
    exact ⟨_, rfl, ho1.grew hg2, hg1.trans hg2⟩
  | false =>
    rw [hg] at HG
    replace HG := Lib.hid HG
    clear hg
    go_enter Tryz.func52, Tryz.ntmps52
    go_wp2_with fail
    refine (HG.out _).mono ?_
    rintro e w1 ⟨v1, rfl, ho1, hg1⟩
    go_wp2_with fail
    go_ret2
    exact ⟨_, rfl, ho1, hg1⟩

/-- The first k are plain texts, each above the one before. -/
def AscP (L : List ByteArray) (k : Nat) : Prop := ∀ i, i < k → gp (st L i) = true ∧ (0 < i → Op.bytesLess (st L (i - 1)).toList (st L i).toList = true)
noncomputable def ascP (L : List ByteArray) : Bool := @decide (AscP L L.length) (Classical.propDecidable _)
theorem AscP.zero (L : List ByteArray) : AscP L 0 := fun i hi => absurd hi (by omega)
theorem AscP.succ {L : List ByteArray} {k : Nat} (h : AscP L k) (h1 : gp (st L k) = true) (h2 : 0 < k → Op.bytesLess (st L (k - 1)).toList (st L k).toList = true) : AscP L (k + 1) := by
  intro i hi
  rcases Nat.lt_or_ge i k with hk | hk
  · exact h i hk
  · obtain rfl : i = k := by omega
    exact ⟨h1, h2⟩
theorem ascP_true {L : List ByteArray} (h : AscP L L.length) : ascP L = true := by
  unfold ascP
  exact @decide_eq_true _ (Classical.propDecidable _) h
theorem ascP_bad {L : List ByteArray} {k : Nat} (hk : k < L.length) (h : gp (st L k) = false) : ascP L = false := by
  unfold ascP
  refine @decide_eq_false _ (Classical.propDecidable _) fun H => ?_
  rw [(H k hk).1] at h
  cases h
theorem ascP_low {L : List ByteArray} {k : Nat} (hk : k + 1 < L.length) (h : Op.bytesLess (st L k).toList (st L (k + 1)).toList = false) : ascP L = false := by
  unfold ascP
  refine @decide_eq_false _ (Classical.propDecidable _) fun H => ?_
  have := (H (k + 1) hk).2 (by omega)
  rw [Nat.add_sub_cancel, h] at this
  cases this
theorem l22Left_c (v : Value) (L : List ByteArray) (w : World) (h : Strs w v L) (hs : Fits L) (hn : L.length ≤ 1048576) :
    Calls Tryz.prog 53 #[v] w fun e w' => e = .returned (.bool (ascP L && decide (L.length ≤ 12))) ∧ Grew w w' := by
  rcases h.open_ with ⟨rfl, rfl⟩ | ⟨b, o, c, rfl, hc, hm, hb, hcell⟩
  · rw [show (ascP [] && decide ((([] : List ByteArray)).length ≤ 12)) = true from by rw [ascP_true (AscP.zero _)]; rfl]
    clear h hs
    go_enter Tryz.func53, Tryz.ntmps53
    go_wp2_with fail
    refine wp_loop_rounds 1 ?_; rw [rounds_succ]
    go_wp2_with fail
    go_ret
    exact ⟨rfl, Grew.refl _⟩
  obtain ⟨R, hR⟩ : ∃ R, R = ascP L := ⟨_, rfl⟩
  rw [← hR]
  have HT := Lib.hid (fun h => hR.trans (@ascP_true L h))
  have HB := Lib.hid (fun k hk h => hR.trans (@ascP_bad L k hk h))
  have HL := Lib.hid (fun k hk h => hR.trans (@ascP_low L k hk h))
  have HC := Lib.hid hcell
  have HS := Lib.hid hs
  clear hcell h hs hR
  unfold Fits at HS
  generalize hN : L.length = n at *
  clear hN
  go_enter Tryz.func53, Tryz.ntmps53
  go_wp2_with fail
  go_loopw [3] (fun i wr => ∃ j : Nat, j ≤ n ∧ i = .int .i64 j ∧ Grew w wr ∧ Hid (AscP L j)) (fun i _ => n - (intOf i).toNat)
  case atStart => exact ⟨0, Nat.zero_le _, rfl, Grew.refl _, AscP.zero _⟩
  case round =>
    obtain ⟨j, hj, rfl, hB, HJ⟩ := hrel
    by_cases hlt : j < n
    · have k1 : ∀ W, Grew w W → W.cell? ⟨b, o + j, none⟩ = some (.string (st L j)) := fun W hW => HC.out j hlt W hW
      have hsz := HS.out j hlt
      have hG := Lib.hid (fun w => l22Formula_c (st L j) w (by omega))
      have k2 := k1 _ hB
      go_wp2_with fail
      refine (hG.out _).mono ?_
      rintro e w1 ⟨v1, rfl, _, hg1⟩
      have hB1 := hB.trans hg1
      cases hgd : gp (st L j) with
      | false =>
        have hv := Lib.hid (HB.out j hlt hgd)
        generalize st L j = x at *
        go_wp2_with fail
        go_quiet (fail)
        go_wp2_with fail
        go_ret
        rw [hv.out]
        exact ⟨rfl, by first | assumption | exact hB1.drewN _⟩
      | true =>
        cases j with
        | zero =>
          have HS1 := Lib.hid (HJ.out.succ hgd (fun h => absurd h (by omega)))
          generalize st L 0 = x at *
          go_wp2_with fail
          go_quiet (fail)
          go_wp2_with fail
          go_roundw
          case rel => exact ⟨1, by omega, by go_num, by first | assumption | exact hB1.drewN _, HS1⟩
          case measure => simp [intOf]; omega
        | succ m =>
          have k3 := HC.out m (by omega) _ hB1
          have k4 := k1 _ hB1
          cases hlo : Op.bytesLess (st L m).toList (st L (m + 1)).toList with
          | false =>
            have hv := Lib.hid (HL.out m hlt hlo)
            generalize st L m = y at *
            generalize st L (m + 1) = x at *
            go_wp2_with fail
            go_quiet (fail)
            go_wp2_with fail
            go_ret
            rw [hv.out]
            exact ⟨rfl, by first | assumption | exact hB1.drewN _⟩
          | true =>
            have HS1 := Lib.hid (HJ.out.succ hgd (fun _ => hlo))
            generalize st L m = y at *
            generalize st L (m + 1) = x at *
            go_wp2_with fail
            go_quiet (fail)
            go_wp2_with fail
            go_roundw
            case rel => exact ⟨m + 1 + 1, by omega, by go_num, by first | assumption | exact hB1.drewN _, HS1⟩
            case measure => simp [intOf]; omega
    · obtain rfl : j = n := by omega
      have hv := Lib.hid (HT.out HJ.out)
      go_wp2_with fail
      go_ret
      rw [hv.out]
      exact ⟨by simp; omega, hB⟩
theorem isLeft_c (v : Value) (L : List ByteArray) (w : World) (h : Strs w v L) (hs : Fits L) (hn : L.length ≤ 1048576) :
    Calls Tryz.prog 76 #[v] w fun e w' => e = .returned (.bool (ascP L)) ∧ Grew w w' := by
  rcases h.open_ with ⟨rfl, rfl⟩ | ⟨b, o, c, rfl, hc, hm, hb, hcell⟩
  · rw [ascP_true (AscP.zero _)]
    clear h hs
    go_enter Tryz.func76, Tryz.ntmps76
    go_wp2_with fail
    refine wp_loop_rounds 1 ?_; rw [rounds_succ]
    go_wp2_with fail
    go_ret
    exact ⟨rfl, Grew.refl _⟩
  obtain ⟨R, hR⟩ : ∃ R, R = ascP L := ⟨_, rfl⟩
  rw [← hR]
  have HT := Lib.hid (fun h => hR.trans (@ascP_true L h))
  have HB := Lib.hid (fun k hk h => hR.trans (@ascP_bad L k hk h))
  have HL := Lib.hid (fun k hk h => hR.trans (@ascP_low L k hk h))
  have HC := Lib.hid hcell
  have HS := Lib.hid hs
  clear hcell h hs hR
  unfold Fits at HS
  generalize hN : L.length = n at *
  clear hN
  go_enter Tryz.func76, Tryz.ntmps76
  go_wp2_with fail
  go_loopw [3, 4, 7] (fun _ _ i wr => ∃ j : Nat, j ≤ n ∧ i = .int .i64 j ∧ Grew w wr ∧ Hid (AscP L j)) (fun _ _ i _ => n - (intOf i).toNat)
  case atStart => exact ⟨0, Nat.zero_le _, rfl, Grew.refl _, AscP.zero _⟩
  case round =>
    obtain ⟨j, hj, rfl, hB, HJ⟩ := hrel
    by_cases hlt : j < n
    · have k1 : ∀ W, Grew w W → W.cell? ⟨b, o + j, none⟩ = some (.string (st L j)) := fun W hW => HC.out j hlt W hW
      have hsz := HS.out j hlt
      have hG := Lib.hid (fun w => isPlainText_c (st L j) w (by omega))
      have k2 := k1 _ hB
      go_wp2_with fail
      refine (hG.out _).mono ?_
      rintro e w1 ⟨rfl, hg1⟩
      have hB1 := hB.trans hg1
      cases hgd : gp (st L j) with
      | false =>
        have hv := Lib.hid (HB.out j hlt hgd)
        generalize st L j = x at *
        go_wp2_with fail
        go_ret
        rw [hv.out]
        exact ⟨rfl, hB1⟩
      | true =>
        cases j with
        | zero =>
          have HS1 := Lib.hid (HJ.out.succ hgd (fun h => absurd h (by omega)))
          generalize st L 0 = x at *
          go_wp2_with fail
          go_roundw
          case rel => exact ⟨1, by omega, by go_num, hB1, HS1⟩
          case measure => simp [intOf]; omega
        | succ m =>
          have k3 := HC.out m (by omega) _ hB1
          have k4 := k1 _ hB1
          cases hlo : Op.bytesLess (st L m).toList (st L (m + 1)).toList with
          | false =>
            have hv := Lib.hid (HL.out m hlt hlo)
            generalize st L m = y at *
            generalize st L (m + 1) = x at *
            go_wp2_with fail
            go_ret
            rw [hv.out]
            exact ⟨rfl, hB1⟩
          | true =>
            have HS1 := Lib.hid (HJ.out.succ hgd (fun _ => hlo))
            generalize st L m = y at *
            generalize st L (m + 1) = x at *
            go_wp2_with fail
            go_roundw
            case rel => exact ⟨m + 1 + 1, by omega, by go_num, hB1, HS1⟩
            case measure => simp [intOf]; omega
    · obtain rfl : j = n := by omega
      have hv := Lib.hid (HT.out HJ.out)
      go_wp2_with fail
      go_ret
      rw [hv.out]
      exact ⟨rfl, hB⟩

theorem isLeftSide_c (v : Value) (L : List ByteArray) (w : World) (h : Strs w v L) (hs : Fits L) (hn : L.length ≤ 1048576) :
    Calls Tryz.prog 58 #[v] w fun e w' => e = .returned (.bool (ascP L && decide (L.length ≤ 12))) ∧ Grew w w' := by
  have HI := Lib.hid (isLeft_c v L w h hs hn)
  obtain ⟨A, c, rfl⟩ := strs_slice h
  clear h hs
  generalize ascP L = R at *
  generalize L.length = n at *
  by_cases h12 : n ≤ 12
  · rw [show (R && decide (n ≤ 12)) = R from by simp [h12]]
    go_enter Tryz.func58, Tryz.ntmps58
    go_wp2_with fail
    refine HI.out.mono ?_
    rintro e w1 ⟨rfl, hg1⟩
    go_wp2_with fail
    go_ret
    exact ⟨rfl, hg1⟩
  · rw [show (R && decide (n ≤ 12)) = false from by simp [h12]]
    go_enter Tryz.func58, Tryz.ntmps58
    go_wp2_with fail
    go_ret
    exact ⟨rfl, Grew.refl _⟩

theorem l22Is_c (v : Value) (L : List ByteArray) (s : ByteArray) (w : World) (h : Strs w v L) (hs : Fits L) (hn : L.length ≤ 1048576) (hsz : s.size ≤ 140737488355328) :
    Calls Tryz.prog 41 #[v, .string s] w fun e w' => e = .returned (.bool (gp s && (ascP L && decide (L.length ≤ 12)))) ∧ Grew w w' := by
  have HF := fun w => l22Formula_c s w hsz
  have HL := Lib.hid (fun W (hW : Grew w W) => l22Left_c v L W (h.grew hW) hs hn)
  unfold GivesP at HF
  clear h hs
  generalize (ascP L && decide (L.length ≤ 12)) = R at *
  cases hg : gp s with
  | true =>
    rw [hg] at HF
    replace HF := Lib.hid HF
    clear hg
    go_enter Tryz.func41, Tryz.ntmps41
    go_wp2_with fail
    refine (HF.out _).mono ?_
    rintro e w1 ⟨v1, rfl, _, hg1⟩
    go_wp2_with fail
    refine (HL.out _ hg1).mono ?_
    rintro e w2 ⟨rfl, hg2⟩
    go_wp2_with fail
    go_ret
    exact ⟨rfl, hg1.trans hg2⟩
  | false =>
    rw [hg] at HF
    replace HF := Lib.hid HF
    clear hg
    go_enter Tryz.func41, Tryz.ntmps41
    go_wp2_with fail
    refine (HF.out _).mono ?_
    rintro e w1 ⟨v1, rfl, _, hg1⟩
    go_wp2_with fail
    go_ret
    exact ⟨rfl, hg1⟩

theorem isSequent_c (v : Value) (L : List ByteArray) (s : ByteArray) (w : World) (h : Strs w v L) (hs : Fits L) (hn : L.length ≤ 1048576) (hsz : s.size ≤ 140737488355328) :
    Calls Tryz.prog 44 #[v, .string s] w fun e w' => e = .returned (.bool (gp s && (ascP L && decide (L.length ≤ 12)))) ∧ Grew w w' := by
  have HF := Lib.hid (fun w => isPlainText_c s w hsz)
  have HL := isLeftSide_c v L w h hs hn
  clear h hs
  generalize (ascP L && decide (L.length ≤ 12)) = R at *
  generalize gp s = q at *
  cases R with
  | true =>
    replace HL := Lib.hid HL
    go_enter Tryz.func44, Tryz.ntmps44
    go_wp2_with fail
    refine HL.out.mono ?_
    rintro e w1 ⟨rfl, hg1⟩
    go_wp2_with fail
    refine (HF.out _).mono ?_
    rintro e w2 ⟨rfl, hg2⟩
    go_wp2_with fail
    go_ret
    exact ⟨by simp, hg1.trans hg2⟩
  | false =>
    replace HL := Lib.hid HL
    go_enter Tryz.func44, Tryz.ntmps44
    go_wp2_with fail
    refine HL.out.mono ?_
    rintro e w1 ⟨rfl, hg1⟩
    go_wp2_with fail
    go_ret
    exact ⟨by simp, hg1⟩
end Go.Proofs.YtkjmfkllmljdeaaGreat

/- Texts in ascending order: what put makes, what inserting makes. No program is in sight. -/
namespace Go.Proofs.YtkjmfkllmljdeaaGreat
open Go.RowKit Go.Sort

theorem blt_le {a b : List UInt8} (h : a ≤ b) (hne : a ≠ b) : a < b := by
  by_cases h2 : a < b
  · exact h2
  · exact absurd (List.le_antisymm h (List.not_lt.1 h2)) hne
theorem upToB_lt (d : Array (List UInt8)) (hs : ∀ i j, i ≤ j → j < d.size → d[i]! ≤ d[j]!) : ∀ m, m ≤ d.size → (Lib.compactUpTo d m).Pairwise (· < ·) ∧ (∀ x ∈ Lib.compactUpTo d m, ∃ i, i < m ∧ x = d[i]!)
  | 0, _ => ⟨by simp [Lib.compactUpTo], fun x hx => by simp [Lib.compactUpTo] at hx⟩
  | m + 1, hm => by
    obtain ⟨h1, h2⟩ := upToB_lt d hs m (by omega)
    rw [Lib.compactUpTo_succ]
    by_cases hk : Lib.keeps d m = true
    · rw [if_pos hk]
      have hlt : ∀ i, i < m → d[i]! < d[m]! := fun i hi => by
        have h4 := hs i (m - 1) (by omega) (by omega)
        have h5 := hs (m - 1) m (by omega) (by omega)
        have h6 : ¬ d[m]! = d[m - 1]! := fun e => by
          rw [Lib.keeps_neg (by omega) e] at hk
          cases hk
        exact List.lt_of_le_of_lt h4 (blt_le h5 fun e => h6 e.symm)
      refine ⟨?_, fun x hx => ?_⟩
      · rw [List.pairwise_append]
        refine ⟨h1, List.pairwise_singleton _ _, fun x hx y hy => ?_⟩
        obtain ⟨i, hi, rfl⟩ := h2 x hx
        obtain rfl : y = d[m]! := by simpa using hy
        exact hlt i hi
      · rcases List.mem_append.1 hx with hx | hx
        · obtain ⟨i, hi, rfl⟩ := h2 x hx
          exact ⟨i, by omega, rfl⟩
        · exact ⟨m, by omega, by simpa using hx⟩
    · rw [if_neg hk, List.append_nil]
      refine ⟨h1, fun x hx => ?_⟩
      obtain ⟨i, hi, rfl⟩ := h2 x hx
      exact ⟨i, by omega, rfl⟩
theorem arrB_get {L : List (List UInt8)} {i : Nat} (h : i < L.length) : L.toArray[i]! = L[i] := by
  rw [getElem!_pos L.toArray i (by simpa using h)]
  simp
theorem sortedB_at {L : List (List UInt8)} (h : L.Pairwise (· ≤ ·)) {i j : Nat} (hij : i ≤ j) (hj : j < L.toArray.size) : L.toArray[i]! ≤ L.toArray[j]! := by
  have hj2 : j < L.length := by simpa using hj
  by_cases e : i = j
  · subst e; exact List.le_refl _
  · have := List.pairwise_iff_getElem.1 h i j (by omega) hj2 (by omega)
    have h1 : L.toArray[i]! = L[i]'(by omega) := arrB_get (by omega)
    have h2 : L.toArray[j]! = L[j]'(by omega) := arrB_get hj2
    rw [h1, h2]
    exact this
theorem mergeB_sorted (L : List (List UInt8)) : (L.mergeSort fun x y => decide (x ≤ y)).Pairwise (· ≤ ·) := by
  have h := List.pairwise_mergeSort (le := fun x y : List UInt8 => decide (x ≤ y)) (fun a b c h1 h2 => by simp only [decide_eq_true_eq] at h1 h2 ⊢; exact List.le_trans h1 h2) (fun a b => by simp only [Bool.or_eq_true, decide_eq_true_eq]; exact List.le_total a b) L
  exact h.imp (fun h => by simpa using h)

/-- Ascending, each once. -/
def Up (L : List ByteArray) : Prop := L.Pairwise fun a b => a.data.toList < b.data.toList
theorem putS_mem (L : List ByteArray) (s : ByteArray) : s ∈ putS L ↔ s ∈ L := by
  unfold putS
  constructor
  · intro h
    obtain ⟨b, hb, rfl⟩ := List.mem_map.1 h
    rw [putB_mem] at hb
    obtain ⟨s, hs, rfl⟩ := List.mem_map.1 hb
    have e : (⟨s.data.toList.toArray⟩ : ByteArray) = s := by cases s; simp
    rw [e]
    exact hs
  · intro h
    refine List.mem_map.2 ⟨s.data.toList, (putB_mem L _).2 (List.mem_map.2 ⟨s, h, rfl⟩), ?_⟩
    cases s; simp
theorem putS_up (L : List ByteArray) : Up (putS L) := by
  unfold Up putS
  rw [List.pairwise_map]
  refine (upToB_lt _ (fun _ _ h1 h2 => sortedB_at (mergeB_sorted (bl L)) h1 h2) _ (by simp)).1.imp ?_
  intro a b h
  simpa using h
theorem bdata_inj {a b : ByteArray} (h : a.data.toList = b.data.toList) : a = b := by
  cases a; cases b; simpa using h
/-- Ascending lists with the same members are the same. -/
theorem up_ext : ∀ {L M : List ByteArray}, Up L → Up M → (∀ x, x ∈ L ↔ x ∈ M) → L = M
  | [], [], _, _, _ => rfl
  | [], b :: M, _, _, h => absurd ((h b).2 (by simp)) (by simp)
  | a :: L, [], _, _, h => absurd ((h a).1 (by simp)) (by simp)
  | a :: L, b :: M, h1, h2, h => by
    obtain ⟨h3, h4⟩ := List.pairwise_cons.1 h1
    obtain ⟨h5, h6⟩ := List.pairwise_cons.1 h2
    have hab : a = b := by
      have ha := (h a).1 (by simp)
      have hb := (h b).2 (by simp)
      rcases List.mem_cons.1 ha with e | ha
      · exact e
      rcases List.mem_cons.1 hb with e | hb
      · exact e.symm
      exact absurd (List.lt_trans (h5 a ha) (h3 b hb)) (List.lt_irrefl _)
    subst hab
    congr 1
    refine up_ext h4 h6 fun x => ⟨fun hx => ?_, fun hx => ?_⟩
    · rcases List.mem_cons.1 ((h x).1 (List.mem_cons_of_mem _ hx)) with e | hx2
      · have := h3 x hx; rw [e] at this; exact absurd this (List.lt_irrefl _)
      · exact hx2
    · rcases List.mem_cons.1 ((h x).2 (List.mem_cons_of_mem _ hx)) with e | hx2
      · have := h5 x hx; rw [e] at this; exact absurd this (List.lt_irrefl _)
      · exact hx2

/-- A text put into an ascending list. -/
noncomputable def insA : List ByteArray → ByteArray → List ByteArray
  | [], s => [s]
  | x :: L, s => if Op.bytesLess x.toList s.toList = true then x :: insA L s else @ite _ (x = s) (Classical.propDecidable _) (x :: L) (s :: x :: L)
theorem insA_mem (L : List ByteArray) (s y : ByteArray) : y ∈ insA L s ↔ y ∈ L ∨ y = s := by
  induction L with
  | nil => simp [insA]
  | cons x L ih =>
    unfold insA
    split
    · rw [List.mem_cons, ih, List.mem_cons, or_assoc]
    · split
      · rename_i h
        subst h
        rw [List.mem_cons]
        exact ⟨.inl, fun h => h.elim id .inl⟩
      · simp only [List.mem_cons]
        constructor
        · rintro (h | h | h)
          · exact .inr h
          · exact .inl (.inl h)
          · exact .inl (.inr h)
        · rintro ((h | h) | h)
          · exact .inr (.inl h)
          · exact .inr (.inr h)
          · exact .inl h
theorem blt_iff (a b : ByteArray) : Op.bytesLess a.toList b.toList = true ↔ a.data.toList < b.data.toList := by
  rw [bytesLess_eq, Lib.toList_data, Lib.toList_data, decide_eq_true_eq]
theorem insA_up {L : List ByteArray} {s : ByteArray} (h : Up L) : Up (insA L s) := by
  induction L with
  | nil => exact List.pairwise_singleton _ _
  | cons x L ih =>
    obtain ⟨h3, h4⟩ := List.pairwise_cons.1 h
    unfold insA
    split
    · rename_i hb
      refine List.pairwise_cons.2 ⟨fun y hy => ?_, ih h4⟩
      rcases (insA_mem L s y).1 hy with hy | rfl
      · exact h3 y hy
      · exact (blt_iff _ _).1 hb
    · rename_i hb
      split
      · exact h
      · rename_i hne
        have hlt : s.data.toList < x.data.toList := by
          have h1 : ¬ x.data.toList < s.data.toList := fun h => hb ((blt_iff _ _).2 h)
          exact blt_le (List.not_lt.1 h1) fun e => hne (bdata_inj e.symm)
        refine List.pairwise_cons.2 ⟨fun y hy => ?_, h⟩
        rcases List.mem_cons.1 hy with rfl | hy
        · exact hlt
        · exact List.lt_trans hlt (h3 y hy)
theorem insA_put {L : List ByteArray} (h : Up L) (s : ByteArray) : insA L s = putS (L ++ [s]) :=
  up_ext (insA_up h) (putS_up _) fun x => by rw [insA_mem, putS_mem, List.mem_append, List.mem_singleton]
theorem insA_put2 {L : List ByteArray} (h : Up L) (s z : ByteArray) : insA (insA L s) z = putS (L ++ [s, z]) :=
  up_ext (insA_up (insA_up h)) (putS_up _) fun x => by
    rw [insA_mem, insA_mem, putS_mem, List.mem_append]
    simp only [List.mem_cons, List.not_mem_nil, or_false, or_assoc]
/-- The first j are ahead of the text. -/
def Ahd (L : List ByteArray) (s : ByteArray) (j : Nat) : Prop := ∀ i, i < j → Op.bytesLess (st L i).toList s.toList = true
theorem Ahd.zero (L : List ByteArray) (s : ByteArray) : Ahd L s 0 := fun i hi => absurd hi (by omega)
theorem Ahd.succ {L : List ByteArray} {s : ByteArray} {j : Nat} (h : Ahd L s j) (h1 : Op.bytesLess (st L j).toList s.toList = true) : Ahd L s (j + 1) := by
  intro i hi
  rcases Nat.lt_or_ge i j with hk | hk
  · exact h i hk
  · obtain rfl : i = j := by omega
    exact h1
theorem insA_ahd {L : List ByteArray} {s : ByteArray} : ∀ {j : Nat}, j ≤ L.length → Ahd L s j → insA L s = L.take j ++ insA (L.drop j) s := by
  induction L with
  | nil => intro j hj _; obtain rfl : j = 0 := by simpa using hj
           rfl
  | cons x L ih =>
    intro j hj h
    match j with
    | 0 => rfl
    | j + 1 =>
      have h0 := h 0 (by omega)
      have e : insA (x :: L) s = x :: insA L s := by
        rw [insA, if_pos (by simpa [st] using h0)]
      rw [e, ih (j := j) (by simpa using hj) (fun i hi => by simpa [st] using h (i + 1) (by omega))]
      rfl
theorem insA_end {L : List ByteArray} {s : ByteArray} (h : Ahd L s L.length) : L.take L.length ++ [s] ++ L.drop L.length = insA L s := by
  rw [insA_ahd (Nat.le_refl _) h]
  simp [insA]
theorem insA_mid {L : List ByteArray} {s : ByteArray} {j : Nat} (hj : j < L.length) (h : Ahd L s j) (h1 : Op.bytesLess (st L j).toList s.toList = false) (h2 : st L j ≠ s) : L.take j ++ [s] ++ L.drop j = insA L s := by
  rw [insA_ahd (by omega) h, List.drop_eq_getElem_cons hj]
  rw [← st_get hj] at h1 h2
  rw [insA, if_neg (by rw [h1]; decide), if_neg h2]
  simp
theorem insA_same {L : List ByteArray} {s : ByteArray} {j : Nat} (hj : j < L.length) (h : Ahd L s j) (h1 : Op.bytesLess (st L j).toList s.toList = false) (h2 : st L j = s) : insA L s = L := by
  rw [insA_ahd (by omega) h, List.drop_eq_getElem_cons hj]
  rw [← st_get hj] at h1 h2
  rw [insA, if_neg (by rw [h1]; decide), if_pos h2, ← List.drop_eq_getElem_cons hj, List.take_append_drop]
theorem ascP_up {L : List ByteArray} (h : ascP L = true) : Up L := by
  have h3 : AscP L L.length := by
    unfold ascP at h
    exact @of_decide_eq_true _ (Classical.propDecidable _) h
  have hs : ∀ d i, i + d + 1 < L.length → (st L i).data.toList < (st L (i + d + 1)).data.toList := by
    intro d
    induction d with
    | zero =>
      intro i hi
      have := (h3 (i + 1) hi).2 (by omega)
      rw [Nat.add_sub_cancel] at this
      exact (blt_iff _ _).1 this
    | succ d ih =>
      intro i hi
      have h2 := (h3 (i + (d + 1) + 1) hi).2 (by omega)
      rw [Nat.add_sub_cancel] at h2
      exact List.lt_trans (ih i (by omega)) ((blt_iff _ _).1 h2)
  unfold Up
  rw [List.pairwise_iff_getElem]
  intro i j hi hj hij
  have := hs (j - i - 1) i (by omega)
  rw [show i + (j - i - 1) + 1 = j by omega, ← st_get hi, ← st_get hj] at this
  exact this
theorem ascP_gp {L : List ByteArray} (h : ascP L = true) : ∀ s ∈ L, gp s = true := by
  have h3 : AscP L L.length := by
    unfold ascP at h
    exact @of_decide_eq_true _ (Classical.propDecidable _) h
  intro s hs
  obtain ⟨i, hi, rfl⟩ := List.getElem_of_mem hs
  have := (h3 i hi).1
  rwa [← st_get hi] at this
theorem insA_len (L : List ByteArray) (s : ByteArray) : (insA L s).length ≤ L.length + 1 := by
  induction L with
  | nil => simp [insA]
  | cons x L ih =>
    unfold insA
    split
    · simpa using ih
    · split <;> simp
end Go.Proofs.YtkjmfkllmljdeaaGreat

/- When an inference of a proof is correct. No program is in sight. -/
namespace Go.Proofs.YtkjmfkllmljdeaaGreat
open Go.RowKit

/-- What an inference concludes. -/
def js (x : Jf) : Jg := (x.2.2.1, x.2.2.2.1)
/-- The texts are a sequent. -/
noncomputable def sqB (L : List ByteArray) (C : ByteArray) : Bool := gp C && (ascP L && decide (L.length ≤ 12))
/-- Weakening. -/
def weakP (L : List ByteArray) (C M : ByteArray) (J : List Jg) : Prop := M = ByteArray.empty ∧ ∃ K, J = [(K, C)] ∧ ∀ s ∈ K, s ∈ L
/-- The rule fits with its premises. -/
def okJ (x : Jf) (J : List Jg) : Prop := (x.1 = 10 ∧ weakP x.2.2.1 x.2.2.2.1 x.2.2.2.2 J) ∨ (x.1 ≠ 10 ∧ gls x.1 x.2.2.1 x.2.2.2.1 x.2.2.2.2 = some J)
/-- What the premises conclude. -/
def givenJ (bef : List Jf) (P : List Int) : List Jg := P.map fun k => js (bef.getD k.toNat (0, [], [], ByteArray.empty, ByteArray.empty))
/-- A correct inference behind others. -/
def goodJ (bef : List Jf) (x : Jf) : Prop := sqB x.2.2.1 x.2.2.2.1 = true ∧ (∀ k ∈ x.2.1, 0 ≤ k ∧ k ≤ (bef.length : Int) - 1) ∧ okJ x (givenJ bef x.2.1)
/-- The first of the first n inferences that is not correct, or -1. -/
noncomputable def fbj (xs : List Jf) : Nat → Int
  | 0 => -1
  | n + 1 => if 0 ≤ fbj xs n then fbj xs n else if dcd (∃ x, xs[n]? = some x ∧ goodJ (xs.take n) x) then -1 else n
theorem fbj_bad {xs : List Jf} {n m : Nat} (h : fbj xs n = -1) (hb : ¬ ∃ x, xs[n]? = some x ∧ goodJ (xs.take n) x) (hm : n < m) : fbj xs m = n := by
  induction m with
  | zero => omega
  | succ m ih =>
    rw [fbj]
    rcases Nat.lt_or_ge n m with hk | hk
    · rw [ih hk, if_pos (by omega)]
    · obtain rfl : n = m := by omega
      rw [h, if_neg (by omega), dcd_false hb]; rfl
theorem fbj_good {xs : List Jf} {n : Nat} {x : Jf} (h : fbj xs n = -1) (hx : xs[n]? = some x) (hg : goodJ (xs.take n) x) : fbj xs (n + 1) = -1 := by
  rw [fbj, h, if_neg (by omega), dcd_true ⟨x, hx, hg⟩]; rfl
theorem fbj_or (xs : List Jf) : ∀ m, fbj xs m = -1 ∨ 0 ≤ fbj xs m := by
  intro m
  induction m with
  | zero => exact .inl rfl
  | succ m ihm =>
    rw [fbj]
    split
    · exact .inr ‹_›
    · split
      · exact .inl rfl
      · exact .inr (by omega)
theorem fbj_all {xs : List Jf} {n : Nat} (h : fbj xs n = -1) : ∀ i, i < n → ∃ x, xs[i]? = some x ∧ goodJ (xs.take i) x := by
  induction n with
  | zero => intro i hi; omega
  | succ n ih =>
    intro i hi
    rw [fbj] at h
    split at h
    · omega
    · rename_i h1
      have h0 : fbj xs n = -1 := (fbj_or xs n).resolve_right h1
      split at h
      · rename_i h2
        rcases Nat.lt_or_ge i n with hk | hk
        · exact ih h0 i hk
        · obtain rfl : i = n := by omega
          exact of_dcd h2
      · omega
/-- What the premises conclude, up to one. -/
def givenM (bef : List Jf) (P : List Int) (n : Nat) : List Jg := givenJ bef (P.take n)
theorem givenM_succ {bef : List Jf} {P : List Int} {n m : Nat} {y : Jf} (hn : n < P.length) (hm : it P n = (m : Int)) (hy : bef[m]? = some y) : givenM bef P (n + 1) = givenM bef P n ++ [js y] := by
  unfold givenM givenJ
  rw [List.take_succ_eq_append_getElem hn, List.map_append, List.map_singleton, it_get hn, hm, Int.toNat_natCast]
  simp [List.getD, hy]
theorem givenM_all (bef : List Jf) (P : List Int) : givenM bef P P.length = givenJ bef P := by unfold givenM; rw [List.take_length]
theorem givenM_len (bef : List Jf) (P : List Int) (n : Nat) : (givenM bef P n).length ≤ P.length := by unfold givenM givenJ; simp; omega
/-- The first n premises are there. -/
def PremJ (bef : List Jf) (P : List Int) (n : Nat) : Prop := ∀ i, i < n → 0 ≤ it P i ∧ it P i ≤ (bef.length : Int) - 1
theorem premJ_all {bef : List Jf} {P : List Int} : PremJ bef P P.length ↔ ∀ k ∈ P, 0 ≤ k ∧ k ≤ (bef.length : Int) - 1 := by
  constructor
  · intro h k hk
    obtain ⟨i, hi, rfl⟩ := List.getElem_of_mem hk
    rw [it_get hi]
    exact h i hi
  · intro h i hi
    have := h _ (List.getElem_mem hi)
    rwa [it_get hi] at this
theorem sqB_and {L : List ByteArray} {C : ByteArray} (h : sqB L C = true) : gp C = true ∧ ascP L = true ∧ L.length ≤ 12 := by
  unfold sqB at h
  simpa using h
end Go.Proofs.YtkjmfkllmljdeaaGreat

/- Slices of slices of nodes that read as formulas. -/
namespace Go.Proofs.YtkjmfkllmljdeaaGreat
open Go.RowKit
open Fm (Nd Tree)

/-- The values read as the formulas. -/
def VT (w : World) (us : List Value) (L : List Tree) : Prop := us.length = L.length ∧ ∀ (i : Nat) (t : Tree), L[i]? = some t → ∃ u : Value, us[i]? = some u ∧ Nodes w u (Fm.enc t)
theorem VT.grew {w w' : World} {us : List Value} {L : List Tree} (h : VT w us L) (hg : Grew w w') : VT w' us L :=
  ⟨h.1, fun i t ht => let ⟨u, h1, h2⟩ := h.2 i t ht; ⟨u, h1, h2.grew hg⟩⟩
theorem VT.nil_ (w : World) : VT w [] [] := ⟨rfl, fun i t h => by simp at h⟩
theorem VT.one {w : World} {u : Value} {t : Tree} (h : Nodes w u (Fm.enc t)) : VT w [u] [t] := ⟨rfl, fun i t' ht => by
  have hi : i = 0 := by have := (List.getElem?_eq_some_iff.1 ht).1; simp at this; omega
  subst hi
  obtain rfl : t = t' := by simpa using ht
  exact ⟨u, rfl, h⟩⟩
theorem VT.app {w : World} {us vs : List Value} {L K : List Tree} (h : VT w us L) (k : VT w vs K) : VT w (us ++ vs) (L ++ K) := by
  refine ⟨by rw [List.length_append, List.length_append, h.1, k.1], fun i t ht => ?_⟩
  rw [List.getElem?_append] at ht ⊢
  rw [h.1]
  split at ht
  · rename_i hlt
    rw [if_pos hlt]; exact h.2 i t ht
  · rename_i hlt
    rw [if_neg hlt]; exact k.2 _ t ht
theorem VT.take {w : World} {us : List Value} {L : List Tree} (h : VT w us L) (k : Nat) : VT w (us.take k) (L.take k) := by
  refine ⟨by simp [h.1], fun i t ht => ?_⟩
  rw [List.getElem?_take] at ht ⊢
  split at ht
  · rename_i hlt
    rw [if_pos hlt]; exact h.2 i t ht
  · cases ht
theorem VT.drop {w : World} {us : List Value} {L : List Tree} (h : VT w us L) (k : Nat) : VT w (us.drop k) (L.drop k) := by
  refine ⟨by simp [h.1], fun i t ht => ?_⟩
  rw [List.getElem?_drop] at ht ⊢
  exact h.2 _ t ht
theorem VT.cell1 {w : World} {us : List Value} {L : List Tree} (h : VT w us L) : ∀ u ∈ us, u.oneCell' = true := by
  intro u hu
  obtain ⟨i, hi, rfl⟩ := List.getElem_of_mem hu
  have hi2 : i < L.length := by rw [← h.1]; exact hi
  obtain ⟨u', h1, h2⟩ := h.2 i L[i] (List.getElem?_eq_getElem hi2)
  rw [List.getElem?_eq_getElem hi] at h1
  cases h1
  obtain ⟨A, c, e⟩ := nodes_slice h2
  rw [e]; rfl

/-- The value reads as the list of formulas. -/
def LT (w : World) (v : Value) (L : List Tree) : Prop := ∃ us, Rd w 1 v L.length us ∧ VT w us L
theorem LT.grew {w w' : World} {v : Value} {L : List Tree} (h : LT w v L) (hg : Grew w w') : LT w' v L := let ⟨us, h1, h2⟩ := h; ⟨us, h1.grew hg, h2.grew hg⟩
theorem LT.of_own {w : World} {B : Nat} {v : Value} {us : List Value} {L : List Tree} (h : OwnV w B v us) (k : VT w us L) : LT w v L := ⟨us, by have := Rd.of_own h; rw [k.1] at this; exact this, k⟩
theorem LT.open_ {w : World} {v : Value} {L : List Tree} (h : LT w v L) : (v = .slice none 0 0 ∧ L = []) ∨ ∃ b o c, v = .slice (some ⟨b, o, none⟩) L.length c ∧ L.length ≤ c ∧ c ≤ 9223372036854775807 ∧ b < w.heap.size ∧
    ∀ i t, L[i]? = some t → ∃ u, (∀ W, Grew w W → W.cell? ⟨b, o + i, none⟩ = some u) ∧ Nodes w u (Fm.enc t) := by
  obtain ⟨us, ⟨h1, h2, h3⟩, h4, h5⟩ := h
  rcases h3 with ⟨h6, h7⟩ | ⟨b, o, c, h6, h7, h8, h9, h10⟩
  · exact .inl ⟨h6, List.eq_nil_of_length_eq_zero h7⟩
  · refine .inr ⟨b, o, c, h6, h7, h8, h9, fun i t ht => ?_⟩
    obtain ⟨u, k1, k2⟩ := h5 i t ht
    exact ⟨u, fun W hW => (hW.cell (p := ⟨b, o + i, none⟩) h9).trans (h10 i u k1), k2⟩
theorem lt_slice {w : World} {v : Value} {L : List Tree} (h : LT w v L) : ∃ A c, v = .slice A L.length c := by
  rcases h.open_ with ⟨rfl, rfl⟩ | ⟨b, o, c, rfl, _⟩
  · exact ⟨_, _, rfl⟩
  · exact ⟨_, _, rfl⟩
theorem LT.openA {w : World} {A : Option Addr} {n c : Nat} {L : List Tree} (h : LT w (.slice A n c) L) (hn : L.length = n) : ∀ j, j < n → ∃ b o, A = some ⟨b, o, none⟩ ∧ n ≤ c ∧ c ≤ 9223372036854775807 ∧ b < w.heap.size ∧
    ∀ i t, L[i]? = some t → ∃ u, (∀ W, Grew w W → W.cell? ⟨b, o + i, none⟩ = some u) ∧ Nodes w u (Fm.enc t) := by
  intro j hj
  rcases h.open_ with ⟨_, h0⟩ | ⟨b, o, c', hv, h2, h3, h4, h5⟩
  · rw [h0] at hn; simp at hn; omega
  · obtain ⟨rfl, _, rfl⟩ : A = some ⟨b, o, none⟩ ∧ n = L.length ∧ c = c' := by simpa using hv
    exact ⟨b, o, rfl, by omega, h3, h4, h5⟩
theorem LT.one {w : World} {T : TypeId} {u : Value} {t : Tree} (h : Nodes w u (Fm.enc t)) : LT (w.alloc (.cells #[u] T)) (.slice (some ⟨w.heap.size, 0, none⟩) 1 1) [t] :=
  ⟨[u], rd_lit w u T, (VT.one h).grew ((Grew.refl w).alloc _)⟩
theorem rd_lit2 (w : World) (u u2 : Value) (t : TypeId) : Rd (w.alloc (.cells #[u, u2] t)) 1 (.slice (some ⟨w.heap.size, 0, none⟩) 2 2) 2 [u, u2] := by
  refine ⟨rfl, by omega, .inr ⟨w.heap.size, 0, 2, rfl, by omega, by omega, by simp, fun j x hx => ?_⟩⟩
  have hj : j < 2 := by simpa using (List.getElem?_eq_some_iff.1 hx).1
  match j, hj with
  | 0, _ =>
    obtain rfl : u = x := by simpa using hx
    simp
  | 1, _ =>
    obtain rfl : u2 = x := by simpa using hx
    simp
theorem LT.two {w : World} {T : TypeId} {u u2 : Value} {t s : Tree} (h : Nodes w u (Fm.enc t)) (h2 : Nodes w u2 (Fm.enc s)) : LT (w.alloc (.cells #[u, u2] T)) (.slice (some ⟨w.heap.size, 0, none⟩) 2 2) [t, s] :=
  ⟨[u, u2], rd_lit2 w u u2 T, ((VT.one h).app (VT.one h2)).grew ((Grew.refl w).alloc _)⟩
theorem slice3 {w : World} {u : Value} {xs : List Nd} (h : Nodes w u xs) : ∃ A n c, u = .slice A n c := by
  obtain ⟨A, c, e⟩ := nodes_slice h
  exact ⟨A, _, c, e⟩
/-- Slices of a slice of slices. -/
theorem rd_take {w : World} {A : Option Addr} {n c : Nat} {us : List Value} (h : Rd w 1 (.slice A n c) n us) (i : Nat) (hi : i ≤ n) : Rd w 1 (.slice A i c) i (us.take i) := by
  obtain ⟨h1, h2, h3⟩ := h
  refine ⟨by simp; omega, by omega, ?_⟩
  rcases h3 with ⟨h4, h5⟩ | ⟨b, o, c', h4, h5, h6, h7, h8⟩
  · cases h4
    obtain rfl : i = 0 := by omega
    exact .inl ⟨rfl, rfl⟩
  · obtain ⟨rfl, rfl⟩ : A = some ⟨b, o, none⟩ ∧ c = c' := by simpa using h4
    refine .inr ⟨b, o, c, rfl, by omega, h6, h7, fun j u hu => ?_⟩
    rw [List.getElem?_take] at hu
    split at hu
    · exact h8 j u hu
    · cases hu
theorem rd_drop {w : World} {b o n c : Nat} {us : List Value} (h : Rd w 1 (.slice (some ⟨b, o, none⟩) n c) n us) (i : Nat) (hi : i ≤ n) : Rd w 1 (.slice (some ⟨b, o + i, none⟩) (n - i) (c - i)) (n - i) (us.drop i) := by
  obtain ⟨h1, h2, h3⟩ := h
  refine ⟨by simp; omega, by omega, ?_⟩
  rcases h3 with ⟨h4, h5⟩ | ⟨b', o', c', h4, h5, h6, h7, h8⟩
  · cases h4
  · obtain ⟨⟨rfl, rfl⟩, rfl⟩ : (b = b' ∧ o = o') ∧ c = c' := by simpa using h4
    refine .inr ⟨b, o + i, c - i, rfl, by omega, by omega, h7, fun j u hu => ?_⟩
    rw [List.getElem?_drop] at hu
    rw [Nat.add_assoc]
    exact h8 _ u hu

/-- The slice behind an index, as the walk spells it. -/
theorem rd_tail {w : World} {b o n c : Nat} {us : List Value} (h : Rd w 1 (.slice (some ⟨b, o, none⟩) n c) n us) (i : Nat) (hi : i ≤ n) (hn : n ≤ c) : Rd w 1 (.slice (if c = i then some ⟨b, o, none⟩ else some ⟨b, o + i, none⟩) (n - i) (c - i)) (n - i) (us.drop i) := by
  by_cases hc : c = i
  · rw [if_pos hc]
    have h0 : n - i = 0 := by omega
    have h1 := h.1
    refine ⟨by simp; omega, by omega, ?_⟩
    obtain ⟨_, _, h3⟩ := h
    rcases h3 with ⟨h4, _⟩ | ⟨b', o', c', h4, h5, h6, h7, h8⟩
    · cases h4
    · obtain ⟨⟨rfl, rfl⟩, rfl⟩ : (b = b' ∧ o = o') ∧ c = c' := by simpa using h4
      refine .inr ⟨b, o, c - i, rfl, by omega, by omega, h7, fun j u hu => ?_⟩
      rw [List.getElem?_drop, List.getElem?_eq_none (by omega)] at hu
      cases hu
  · rw [if_neg hc]
    exact rd_drop h i hi

/-- An append onto a row of the call's own, at a step of a region that draws its order. -/
theorem step_append_rd {P : Program} (w : World) {ops : Array Oper} {o : Oper} {a : Act} {K : Act → World → Prop} {Q : Exit → Act → World → Prop} {E : Prop} (hgd : o.guard = none) (s x : Operand) (t : TypeId)
    (ho : o.op = .call { callee := .builtin .append, args := #[s, x], argTypes := #[t, t] })
    (base : Nat) (e : TypeId) (i : TypeInfo) (z : Value) (size bytes : Nat) (ht : P.underlying t = some (.slice e)) (hi : P.info? e = some i) (hz : i.zero = some z)
    (hsize : i.size = size) (hby : i.bytes = bytes) (hzs : z.cells.size = size) (hsz : 0 < size)
    (v : Value) (n : Nat) (xs : List Value) (hs : a.eval s = v) (hown : w.ownsRow base e size v n xs)
    (vx : Value) (m : Nat) (news : List Value) (hx : a.eval x = vx) (hr : Rd w size vx m news) (h1 : ∀ u ∈ news, u.oneCell' = true)
    (h63 : n + m ≤ maxLen) (hbytes : (n + m) * bytes ≤ 140737488355328) (hbase : base ≤ w.heap.size)
    (h : ∀ v' w', w'.ownsRow base e size v' (n + m) (xs ++ news) → w.grownBy w' v.ownBlock → K (a.put o.dst v') w') :
    if Region.wanted o (yielded ops a.tmps) = true then Oper.wp P o a w K Q else E := by
  have hw : Region.wanted o (yielded ops a.tmps) = true := by simp [Region.wanted, hgd]
  rw [if_pos hw]
  obtain ⟨hl, _, hr⟩ := hr
  rcases hr with ⟨rfl, rfl⟩ | ⟨b, of, c, rfl, _, _, _, hc⟩
  · have hnews : news = [] := List.eq_nil_of_length_eq_zero (by simpa using hl)
    subst hnews
    have hrun := run_append_owned_none (P := P) w base t o.type e i size ht hi v n xs hown
    unfold Oper.wp execOp
    simp only [ho, resolve, invoke, builtin, Sem.run_bind, Sem.run_pure, Result.andThen_ok, List.map_toArray, List.map_cons, List.map_nil, hs, hx, hrun]
    exact h v w (by simpa using hown) (World.grownBy.refl _ _)
  · obtain ⟨v', w', hrun, h2, h3, _, _⟩ := run_append_own_at (P := P) w base t o.type e i z size bytes ht hi hz hsize hby hzs hsz v n xs hown ⟨b, of, none⟩ m c news hl (fun j u hu => by rw [Addr.add_lit]; exact hc j u hu) h1 h63 hbytes hbase
    unfold Oper.wp execOp
    simp only [ho, resolve, invoke, builtin, Sem.run_bind, Sem.run_pure, Result.andThen_ok, List.map_toArray, List.map_cons, List.map_nil, hs, hx, hrun]
    exact h v' w' h2 h3

theorem bigV {n m : Nat} (h : n + m ≤ 4294967296) : n + m ≤ maxLen ∧ (n + m) * 24 ≤ 140737488355328 := by
  unfold maxLen; omega
/-- 'out = append(out, xs...)' in a region that draws its order. -/
theorem step_appV {ops : Array Oper} {o : Oper} {a : Act} {K : Act → World → Prop} {Q : Exit → Act → World → Prop} {E : Prop} {w w0 : World} (hgd : o.guard = none) (s x : Operand)
    (ho : o.op = .call { callee := .builtin .append, args := #[s, x], argTypes := #[100, 100] })
    (v : Value) (us : List Value) (hs : a.eval s = v) (hown : OwnV w w0.heap.size v us) (hg : Grew w0 w) (vx : Value) (m : Nat) (vs : List Value) (hx : a.eval x = vx) (hr : Rd w 1 vx m vs) (h1 : ∀ u ∈ vs, u.oneCell' = true) (hn : us.length + m ≤ 4294967296)
    (h : ∀ v' w', OwnV w' w0.heap.size v' (us ++ vs) → Grew w0 w' → K (a.put o.dst v') w') : if Region.wanted o (yielded ops a.tmps) = true then Oper.wp Tryz.prog o a w K Q else E := by
  obtain ⟨i0, hi0, hz0, hz1, hz2⟩ := info_parts infoSl
  have hm : vs.length = m := by have := hr.1; omega
  refine step_append_rd w hgd s x _ ho w0.heap.size 70 i0 _ 1 24 Tryz.underlying100 hi0 hz0 hz1 hz2 rfl (by omega) v us.length us hs hown vx m vs hx hr h1 (bigV hn).1 (bigV hn).2 hg.size ?_
  intro v' w' h2 h3
  refine h v' w' ?_ (hg.grown h3 fun k hk => (hown.lt k hk).1)
  unfold OwnV
  rw [List.length_append, hm]
  exact h2
theorem wpList_appVs {ops : Array Oper} {rest : List Oper} {o : Oper} {a : Act} {Q : Exit → Act → World → Prop} {w w0 : World} (s x : Operand) (hgd : o.guard = none)
    (ho : o.op = .call { callee := .builtin .append, args := #[s, x], argTypes := #[100, 100] })
    (v : Value) (us : List Value) (hs : a.eval s = v) (hown : OwnV w w0.heap.size v us) (hg : Grew w0 w) (vx : Value) (m : Nat) (vs : List Value) (hx : a.eval x = vx) (hr : Rd w 1 vx m vs) (h1 : ∀ u ∈ vs, u.oneCell' = true) (hn : us.length + m ≤ 4294967296)
    (h : ∀ v' w', OwnV w' w0.heap.size v' (us ++ vs) → Grew w0 w' → wpList Tryz.prog ops Q rest (a.put o.dst v') w') : wpList Tryz.prog ops Q (o :: rest) a w := by
  obtain ⟨i0, hi0, hz0, hz1, hz2⟩ := info_parts infoSl
  have hm : vs.length = m := by have := hr.1; omega
  refine wpList_append_rd w hgd s x _ ho w0.heap.size 70 i0 _ 1 24 Tryz.underlying100 hi0 hz0 hz1 hz2 rfl (by omega) v us.length us hs hown vx m vs hx hr h1 (bigV hn).1 (bigV hn).2 hg.size ?_
  intro v' w' h2 h3 _
  refine h v' w' ?_ (hg.grown h3 fun k hk => (hown.lt k hk).1)
  unfold OwnV
  rw [List.length_append, hm]
  exact h2
end Go.Proofs.YtkjmfkllmljdeaaGreat

/- l01Says, l02Insert, l22With of the reference. -/
namespace Go.Proofs.YtkjmfkllmljdeaaGreat
open Go.RowKit

theorem l01Says_c (v : Value) (L : List ByteArray) (s : ByteArray) (w : World) (h : Strs w v L) (hn : L.length ≤ 1099511627776) :
    Calls Tryz.prog 54 #[v, .string s] w fun e w' => e = .returned (.bool (dc (s ∈ L))) ∧ Grew w w' := by
  obtain ⟨R, hR⟩ : ∃ R, R = dc (s ∈ L) := ⟨_, rfl⟩
  rw [← hR]
  rcases h.open_ with ⟨rfl, rfl⟩ | ⟨b, o, c, rfl, hc, hm, hb, hcell⟩
  · have hv := Lib.hid (hR.trans (dc_false (by simp)))
    clear h hR
    go_enter Tryz.func54, Tryz.ntmps54
    go_wp2_with fail
    refine wp_loop_rounds 1 ?_; rw [rounds_succ]
    go_wp2_with fail
    go_ret
    exact ⟨by rw [hv.out]; rfl, Grew.refl _⟩
  have HA := Lib.hid (fun k (hk : k < L.length) (he : st L k = s) => hR.trans (dc_true (by rw [← he]; exact st_mem hk)))
  have HZ := Lib.hid (fun h => hR.trans (dc_false (@notS_all L s h)))
  have HC := Lib.hid hcell
  clear h hcell hR
  generalize hN : L.length = n at *
  clear hN
  go_enter Tryz.func54, Tryz.ntmps54
  go_wp2_with fail
  go_loopw [5] (fun i wr => ∃ j : Nat, j ≤ n ∧ i = .int .i64 j ∧ Grew w wr ∧ Hid (NotS L s j)) (fun i _ => n - (intOf i).toNat)
  case atStart => exact ⟨0, Nat.zero_le _, rfl, Grew.refl _, NotS.zero _ _⟩
  case round =>
    obtain ⟨j, hj, rfl, hB, HJ⟩ := hrel
    by_cases hlt : j < n
    · have k1 := HC.out j hlt _ hB
      have hA := Lib.hid (HA.out j hlt)
      have hS := Lib.hid (fun h => HJ.out.succ (k := j) h)
      generalize st L j = x at *
      by_cases hx : x = s
      · have hv := Lib.hid (hA.out hx)
        subst hx
        have q1 := bytes_eq' x
        clear hA hS
        go_wp2_with fail
        go_ret
        exact ⟨by rw [hv.out]; rfl, hB⟩
      · have hs := Lib.hid (hS.out hx)
        have q1 := bytes_ne' (fun e : s = x => hx e.symm)
        have q2 := bytes_ne' hx
        clear hA hS hx
        go_wp2_with fail
        go_roundw
        case rel => exact ⟨j + 1, by omega, by go_num, hB, hs⟩
        case measure => simp [intOf]; omega
    · obtain rfl : j = n := by omega
      have hv := Lib.hid (HZ.out HJ.out)
      go_wp2_with fail
      go_ret
      exact ⟨by rw [hv.out]; rfl, hB⟩

/-- A list with a text put in. -/
def InsB (L : List ByteArray) (s : ByteArray) (K : List ByteArray) : Prop := (K = L ∧ s ∈ L) ∨ ∃ j, j ≤ L.length ∧ K = L.take j ++ [s] ++ L.drop j
def GivesIn (w : World) (L : List ByteArray) (s : ByteArray) (e : Ending) (w' : World) : Prop := ∃ u K, e = .returned u ∧ Strs w' u K ∧ InsB L s K ∧ Grew w w'
theorem insB_nil (s : ByteArray) : InsB [] s [s] := .inr ⟨0, Nat.le_refl _, rfl⟩
theorem rdS_take {w : World} {A : Option Addr} {n c : Nat} {L : List ByteArray} (h : Rd w 1 (.slice A n c) n (scells L)) (hl : L.length = n) (i : Nat) (hi : i ≤ n) : Strs w (.slice A i c) (L.take i) := by
  have := rd_take h i hi
  unfold Strs scells at *
  rw [List.length_take, hl, Nat.min_eq_left hi, List.map_take]
  exact this
theorem rdS_tail {w : World} {b o n c : Nat} {L : List ByteArray} (h : Rd w 1 (.slice (some ⟨b, o, none⟩) n c) n (scells L)) (hl : L.length = n) (i : Nat) (hi : i ≤ n) (hn : n ≤ c) : Strs w (.slice (if c = i then some ⟨b, o, none⟩ else some ⟨b, o + i, none⟩) (n - i) (c - i)) (L.drop i) := by
  have := rd_tail h i hi hn
  unfold Strs scells at *
  rw [List.length_drop, hl, List.map_drop]
  exact this
set_option maxHeartbeats 2000000 in
theorem l02Insert_c (v : Value) (L : List ByteArray) (s : ByteArray) (w : World) (h : Strs w v L) (hn : L.length ≤ 1048576) :
    Calls Tryz.prog 75 #[v, .string s] w (GivesIn w L s) := by
  have h0 := Lib.hid h
  rcases h.open_ with ⟨rfl, rfl⟩ | ⟨b, o, c, rfl, hc, hm, hb, hcell⟩
  · clear h
    have he := own_emptyS' w
    go_enter Tryz.func75, Tryz.ntmps75
    go_wp2_with fail
    refine wp_loop_rounds 1 ?_; rw [rounds_succ]
    go_wp2_with (first
      | (at_builtin; have hz := hown2; refine wpList_appSs (w0 := w) _ _ rfl rfl _ _ rfl hown2 hg2 _ [] rfl (Strs.nil_ _) (by simp) ?_; intro v3 w3 hown3 hg3 _)
      | (at_builtin; have hz := hown1; refine wpList_appStr (w0 := w) _ _ rfl rfl _ _ rfl (own_grew hown1 ((Grew.refl w1).alloc _)) (hg1.alloc _) _ s rfl (rd_lit _ _ _) (by simp) ?_; intro v2 w2 hown2 hg2 _; have hs2 := strs_slice hown2.strs; obtain ⟨A2, c2, rfl⟩ := hs2)
      | (at_builtin; refine wpList_appSs (w0 := w) _ _ rfl rfl _ [] rfl he ((Grew.refl w).alloc _) _ [] rfl (Strs.nil_ _) (by simp) ?_; intro v1 w1 hown1 hg1 _; have hs1 := strs_slice hown1.strs; obtain ⟨A1, c1, rfl⟩ := hs1))
    go_ret
    exact ⟨_, _, rfl, hown3.strs, by simpa using insB_nil s, hg3⟩
  have HC := Lib.hid hcell
  have HR := Lib.hid (show Rd w 1 (.slice (some ⟨b, o, none⟩) L.length c) L.length (scells L) from h)
  have HT := Lib.hid (fun i hi => rdS_take HR.out rfl i hi)
  have HD := Lib.hid (fun i hi => rdS_tail HR.out rfl i hi hc)
  have HM := Lib.hid (fun j hj (he : st L j = s) => (by rw [← he]; exact st_mem hj : s ∈ L))
  have HJ := Lib.hid (fun j (hj : j ≤ L.length) => (show InsB L s (L.take j ++ [s] ++ L.drop j) from .inr ⟨j, hj, rfl⟩))
  have HLt := Lib.hid (fun j => (by rw [List.length_take]; omega : (L.take j).length ≤ L.length))
  have HLd := Lib.hid (fun j => (by rw [List.length_drop]; omega : (L.drop j).length ≤ L.length))
  clear h hcell HR
  generalize hN : L.length = n at *
  clear hN
  go_enter Tryz.func75, Tryz.ntmps75
  go_wp2_with fail
  go_loopw [5] (fun i wr => ∃ j : Nat, j ≤ n ∧ i = .int .i64 j ∧ Grew w wr) (fun i _ => n - (intOf i).toNat)
  case atStart => exact ⟨0, Nat.zero_le _, rfl, Grew.refl _⟩
  case round =>
    obtain ⟨j, hj, rfl, hB⟩ := hrel
    have he := own_emptyS' wr
    have hT := Lib.hid (HT.out j hj)
    have hD := Lib.hid (HD.out j hj)
    have hJ := Lib.hid (HJ.out j hj)
    have hlt1 := HLt.out j
    have hld1 := HLd.out j
    have hb1 := hB.size
    by_cases hlt : j < n
    · have k1 := HC.out j hlt _ hB
      have hM := Lib.hid (HM.out j hlt)
      have hcj : ¬ c = j := by omega
      rw [if_neg hcj] at hD
      generalize st L j = x at *
      generalize L.take j = T at *
      generalize L.drop j = U at *
      cases hl : Op.bytesLess x.toList s.toList with
      | true =>
        go_wp2_with fail
        go_roundw
        case rel => exact ⟨j + 1, by omega, by go_num, hB⟩
        case measure => simp [intOf]; omega
      | false =>
        by_cases hx : x = s
        · have hv := Lib.hid (hM.out hx)
          subst hx
          have q1 := bytes_eq' x
          go_wp2_with fail
          go_ret
          exact ⟨_, _, rfl, Strs.grew h0.out hB, .inl ⟨rfl, hv.out⟩, hB⟩
        · have q1 := bytes_ne' (fun e : s = x => hx e.symm)
          have q2 := bytes_ne' hx
          have he1 : OwnS (wr.alloc (.cells #[] 9)) w.heap.size (.slice (some ⟨wr.heap.size, 0, none⟩) 0 0) [] := World.ownsRow_lit (e := 9) (size := 1) wr #[] 0 hb1 (by omega) rfl
          go_wp2_with (first
            | (at_builtin; have hz := hown2; refine wpList_appSs (w0 := w) _ _ rfl rfl _ _ rfl hown2 hg2 _ U rfl (Strs.grew hD.out hg2) (by first | omega | (simp; omega)) ?_; intro v3 w3 hown3 hg3 _)
            | (at_builtin; have hz := hown1; refine wpList_appStr (w0 := w) _ _ rfl rfl _ _ rfl (own_grew hown1 ((Grew.refl w1).alloc _)) (hg1.alloc _) _ s rfl (rd_lit _ _ _) (by first | omega | (simp; omega)) ?_; intro v2 w2 hown2 hg2 _; have hs2 := strs_slice hown2.strs; rw [List.length_append, List.length_singleton] at hs2; obtain ⟨A2, c2, rfl⟩ := hs2)
            | (at_builtin; refine wpList_appSs (w0 := w) _ _ rfl rfl _ [] rfl he1 (hB.alloc _) _ T rfl (Strs.grew hT.out (hB.alloc _)) (by first | omega | (simp; omega)) ?_; intro v1 w1 hown1 hg1 _; rw [List.nil_append] at hown1; have hs1 := strs_slice hown1.strs; obtain ⟨A1, c1, rfl⟩ := hs1))
          go_ret
          exact ⟨_, _, rfl, hown3.strs, by simpa using hJ.out, hg3⟩
    · obtain rfl : j = n := by omega
      generalize L.take j = T at *
      generalize L.drop j = U at *
      have he1 : OwnS (wr.alloc (.cells #[] 9)) w.heap.size (.slice (some ⟨wr.heap.size, 0, none⟩) 0 0) [] := World.ownsRow_lit (e := 9) (size := 1) wr #[] 0 hb1 (by omega) rfl
      by_cases hcj : c = j
      · subst hcj
        rw [if_pos rfl, Nat.sub_self] at hD
        go_wp2_with (first
          | (at_builtin; have hz := hown2; refine wpList_appSs (w0 := w) _ _ rfl rfl _ _ rfl hown2 hg2 _ U rfl (Strs.grew hD.out hg2) (by first | omega | (simp; omega)) ?_; intro v3 w3 hown3 hg3 _)
          | (at_builtin; have hz := hown1; refine wpList_appStr (w0 := w) _ _ rfl rfl _ _ rfl (own_grew hown1 ((Grew.refl w1).alloc _)) (hg1.alloc _) _ s rfl (rd_lit _ _ _) (by first | omega | (simp; omega)) ?_; intro v2 w2 hown2 hg2 _; have hs2 := strs_slice hown2.strs; rw [List.length_append, List.length_singleton] at hs2; obtain ⟨A2, c2, rfl⟩ := hs2)
          | (at_builtin; refine wpList_appSs (w0 := w) _ _ rfl rfl _ [] rfl he1 (hB.alloc _) _ T rfl (Strs.grew hT.out (hB.alloc _)) (by first | omega | (simp; omega)) ?_; intro v1 w1 hown1 hg1 _; rw [List.nil_append] at hown1; have hs1 := strs_slice hown1.strs; obtain ⟨A1, c1, rfl⟩ := hs1))
        go_ret
        exact ⟨_, _, rfl, hown3.strs, by simpa using hJ.out, hg3⟩
      · rw [if_neg hcj, Nat.sub_self] at hD
        go_wp2_with (first
          | (at_builtin; have hz := hown2; refine wpList_appSs (w0 := w) _ _ rfl rfl _ _ rfl hown2 hg2 _ U rfl (Strs.grew hD.out hg2) (by first | omega | (simp; omega)) ?_; intro v3 w3 hown3 hg3 _)
          | (at_builtin; have hz := hown1; refine wpList_appStr (w0 := w) _ _ rfl rfl _ _ rfl (own_grew hown1 ((Grew.refl w1).alloc _)) (hg1.alloc _) _ s rfl (rd_lit _ _ _) (by first | omega | (simp; omega)) ?_; intro v2 w2 hown2 hg2 _; have hs2 := strs_slice hown2.strs; rw [List.length_append, List.length_singleton] at hs2; obtain ⟨A2, c2, rfl⟩ := hs2)
          | (at_builtin; refine wpList_appSs (w0 := w) _ _ rfl rfl _ [] rfl he1 (hB.alloc _) _ T rfl (Strs.grew hT.out (hB.alloc _)) (by first | omega | (simp; omega)) ?_; intro v1 w1 hown1 hg1 _; rw [List.nil_append] at hown1; have hs1 := strs_slice hown1.strs; obtain ⟨A1, c1, rfl⟩ := hs1))
        go_ret
        exact ⟨_, _, rfl, hown3.strs, by simpa using hJ.out, hg3⟩
/-- l22With of one text. -/
theorem l22With_c (v vt : Value) (L : List ByteArray) (s : ByteArray) (w : World) (h : Strs w v L) (hk : Strs w vt [s]) (hn : L.length ≤ 1048576) :
    Calls Tryz.prog 57 #[v, vt] w (GivesIn w L s) := by
  have he := own_emptyS' w
  have KI := Lib.hid (fun u W (hu : Strs W u L) => l02Insert_c u L s W hu hn)
  obtain ⟨b, o, c, rfl, hc, hm, hb, hcell⟩ := strs_one hk
  have HK := Lib.hid hcell
  have HL := Lib.hid h
  obtain ⟨A, cA, rfl⟩ := strs_slice h
  clear h hk hcell
  go_enter Tryz.func57, Tryz.ntmps57
  go_wp2_with (first
    | (at_builtin; refine wpList_appSs (w0 := w) _ _ rfl rfl _ [] rfl he ((Grew.refl w).alloc _) _ L rfl (Strs.grew HL.out ((Grew.refl w).alloc _)) (by first | omega | (simp; omega)) ?_; intro v1 w1 hown1 hg1 _; have hs1 := Lib.hid hown1.strs; obtain ⟨A1, c1, rfl⟩ := strs_slice hown1.strs; clear hown1))
  go_wp2_with fail
  have k1 := HK.out _ hg1
  refine wp_loop_rounds 2 ?_
  rw [rounds_succ]
  go_wp2_with fail
  refine (KI.out _ _ (by simpa using hs1.out)).mono ?_
  rintro e w2 ⟨u, K, rfl, hu, hK, hg2⟩
  obtain ⟨A2, c2, rfl⟩ := strs_slice hu
  have HU := Lib.hid hu
  clear hu
  go_wp2_with fail
  rw [rounds_succ]
  go_wp2_with fail
  go_ret
  exact ⟨_, K, rfl, HU.out, hK, hg1.trans hg2⟩
end Go.Proofs.YtkjmfkllmljdeaaGreat

/- l02Insert, l22With of the reference at an ascending list: what they make. -/
namespace Go.Proofs.YtkjmfkllmljdeaaGreat
open Go.RowKit

def GivesA (w : World) (K : List ByteArray) (e : Ending) (w' : World) : Prop := ∃ u, e = .returned u ∧ Strs w' u K ∧ Grew w w'
set_option maxHeartbeats 2000000 in
theorem l02InsertA_c (v : Value) (L : List ByteArray) (s : ByteArray) (w : World) (h : Strs w v L) (hn : L.length ≤ 1048576) :
    Calls Tryz.prog 75 #[v, .string s] w (GivesA w (insA L s)) := by
  have h0 := Lib.hid h
  rcases h.open_ with ⟨rfl, rfl⟩ | ⟨b, o, c, rfl, hc, hm, hb, hcell⟩
  · clear h
    have he := own_emptyS' w
    go_enter Tryz.func75, Tryz.ntmps75
    go_wp2_with fail
    refine wp_loop_rounds 1 ?_; rw [rounds_succ]
    go_wp2_with (first
      | (at_builtin; have hz := hown2; refine wpList_appSs (w0 := w) _ _ rfl rfl _ _ rfl hown2 hg2 _ [] rfl (Strs.nil_ _) (by simp) ?_; intro v3 w3 hown3 hg3 _)
      | (at_builtin; have hz := hown1; refine wpList_appStr (w0 := w) _ _ rfl rfl _ _ rfl (own_grew hown1 ((Grew.refl w1).alloc _)) (hg1.alloc _) _ s rfl (rd_lit _ _ _) (by simp) ?_; intro v2 w2 hown2 hg2 _; have hs2 := strs_slice hown2.strs; obtain ⟨A2, c2, rfl⟩ := hs2)
      | (at_builtin; refine wpList_appSs (w0 := w) _ _ rfl rfl _ [] rfl he ((Grew.refl w).alloc _) _ [] rfl (Strs.nil_ _) (by simp) ?_; intro v1 w1 hown1 hg1 _; have hs1 := strs_slice hown1.strs; obtain ⟨A1, c1, rfl⟩ := hs1))
    go_ret
    exact ⟨_, rfl, by simpa [insA] using hown3.strs, hg3⟩
  have HC := Lib.hid hcell
  have HR := Lib.hid (show Rd w 1 (.slice (some ⟨b, o, none⟩) L.length c) L.length (scells L) from h)
  have HT := Lib.hid (fun i hi => rdS_take HR.out rfl i hi)
  have HD := Lib.hid (fun i hi => rdS_tail HR.out rfl i hi hc)
  obtain ⟨R, hR⟩ : ∃ R, R = insA L s := ⟨_, rfl⟩
  rw [← hR]
  have HM := Lib.hid (fun j hj (h : Ahd L s j) h1 h2 => hR.trans (insA_same hj h h1 h2))
  have HJ := Lib.hid (fun j (hj : j < L.length) (h : Ahd L s j) h1 h2 => (insA_mid hj h h1 h2).trans hR.symm)
  have HE := Lib.hid (fun (h : Ahd L s L.length) => (insA_end h).trans hR.symm)
  clear hR
  have HLt := Lib.hid (fun j => (by rw [List.length_take]; omega : (L.take j).length ≤ L.length))
  have HLd := Lib.hid (fun j => (by rw [List.length_drop]; omega : (L.drop j).length ≤ L.length))
  clear h hcell HR
  generalize hN : L.length = n at *
  clear hN
  go_enter Tryz.func75, Tryz.ntmps75
  go_wp2_with fail
  go_loopw [5] (fun i wr => ∃ j : Nat, j ≤ n ∧ i = .int .i64 j ∧ Grew w wr ∧ Hid (Ahd L s j)) (fun i _ => n - (intOf i).toNat)
  case atStart => exact ⟨0, Nat.zero_le _, rfl, Grew.refl _, Lib.hid (Ahd.zero L s)⟩
  case round =>
    obtain ⟨j, hj, rfl, hB, HA⟩ := hrel
    have he := own_emptyS' wr
    have hT := Lib.hid (HT.out j hj)
    have hD := Lib.hid (HD.out j hj)
    have hlt1 := HLt.out j
    have hld1 := HLd.out j
    have hb1 := hB.size
    by_cases hlt : j < n
    · have k1 := HC.out j hlt _ hB
      have hM := Lib.hid (HM.out j hlt HA.out)
      have hJ := Lib.hid (HJ.out j hlt HA.out)
      have hS := Lib.hid (fun h => HA.out.succ (j := j) h)
      have hcj : ¬ c = j := by omega
      rw [if_neg hcj] at hD
      generalize st L j = x at *
      generalize L.take j = T at *
      generalize L.drop j = U at *
      cases hl : Op.bytesLess x.toList s.toList with
      | true =>
        go_wp2_with fail
        go_roundw
        case rel => exact ⟨j + 1, by omega, by go_num, hB, Lib.hid (hS.out hl)⟩
        case measure => simp [intOf]; omega
      | false =>
        by_cases hx : x = s
        · have hv := Lib.hid (hM.out hl hx)
          subst hx
          have q1 := bytes_eq' x
          go_wp2_with fail
          go_ret
          exact ⟨_, rfl, by rw [hv.out]; exact Strs.grew h0.out hB, hB⟩
        · have q1 := bytes_ne' (fun e : s = x => hx e.symm)
          have q2 := bytes_ne' hx
          have he1 : OwnS (wr.alloc (.cells #[] 9)) w.heap.size (.slice (some ⟨wr.heap.size, 0, none⟩) 0 0) [] := World.ownsRow_lit (e := 9) (size := 1) wr #[] 0 hb1 (by omega) rfl
          go_wp2_with (first
            | (at_builtin; have hz := hown2; refine wpList_appSs (w0 := w) _ _ rfl rfl _ _ rfl hown2 hg2 _ U rfl (Strs.grew hD.out hg2) (by first | omega | (simp; omega)) ?_; intro v3 w3 hown3 hg3 _)
            | (at_builtin; have hz := hown1; refine wpList_appStr (w0 := w) _ _ rfl rfl _ _ rfl (own_grew hown1 ((Grew.refl w1).alloc _)) (hg1.alloc _) _ s rfl (rd_lit _ _ _) (by first | omega | (simp; omega)) ?_; intro v2 w2 hown2 hg2 _; have hs2 := strs_slice hown2.strs; rw [List.length_append, List.length_singleton] at hs2; obtain ⟨A2, c2, rfl⟩ := hs2)
            | (at_builtin; refine wpList_appSs (w0 := w) _ _ rfl rfl _ [] rfl he1 (hB.alloc _) _ T rfl (Strs.grew hT.out (hB.alloc _)) (by first | omega | (simp; omega)) ?_; intro v1 w1 hown1 hg1 _; rw [List.nil_append] at hown1; have hs1 := strs_slice hown1.strs; obtain ⟨A1, c1, rfl⟩ := hs1))
          go_ret
          exact ⟨_, rfl, by rw [← hJ.out hl hx]; exact hown3.strs, hg3⟩
    · obtain rfl : j = n := by omega
      have hz1 := Lib.hid (HE.out HA.out)
      generalize L.take j = T at *
      generalize L.drop j = U at *
      have he1 : OwnS (wr.alloc (.cells #[] 9)) w.heap.size (.slice (some ⟨wr.heap.size, 0, none⟩) 0 0) [] := World.ownsRow_lit (e := 9) (size := 1) wr #[] 0 hb1 (by omega) rfl
      by_cases hcj : c = j
      · subst hcj
        rw [if_pos rfl, Nat.sub_self] at hD
        go_wp2_with (first
          | (at_builtin; have hz := hown2; refine wpList_appSs (w0 := w) _ _ rfl rfl _ _ rfl hown2 hg2 _ U rfl (Strs.grew hD.out hg2) (by first | omega | (simp; omega)) ?_; intro v3 w3 hown3 hg3 _)
          | (at_builtin; have hz := hown1; refine wpList_appStr (w0 := w) _ _ rfl rfl _ _ rfl (own_grew hown1 ((Grew.refl w1).alloc _)) (hg1.alloc _) _ s rfl (rd_lit _ _ _) (by first | omega | (simp; omega)) ?_; intro v2 w2 hown2 hg2 _; have hs2 := strs_slice hown2.strs; rw [List.length_append, List.length_singleton] at hs2; obtain ⟨A2, c2, rfl⟩ := hs2)
          | (at_builtin; refine wpList_appSs (w0 := w) _ _ rfl rfl _ [] rfl he1 (hB.alloc _) _ T rfl (Strs.grew hT.out (hB.alloc _)) (by first | omega | (simp; omega)) ?_; intro v1 w1 hown1 hg1 _; rw [List.nil_append] at hown1; have hs1 := strs_slice hown1.strs; obtain ⟨A1, c1, rfl⟩ := hs1))
        go_ret
        exact ⟨_, rfl, by rw [← hz1.out]; exact hown3.strs, hg3⟩
      · rw [if_neg hcj, Nat.sub_self] at hD
        go_wp2_with (first
          | (at_builtin; have hz := hown2; refine wpList_appSs (w0 := w) _ _ rfl rfl _ _ rfl hown2 hg2 _ U rfl (Strs.grew hD.out hg2) (by first | omega | (simp; omega)) ?_; intro v3 w3 hown3 hg3 _)
          | (at_builtin; have hz := hown1; refine wpList_appStr (w0 := w) _ _ rfl rfl _ _ rfl (own_grew hown1 ((Grew.refl w1).alloc _)) (hg1.alloc _) _ s rfl (rd_lit _ _ _) (by first | omega | (simp; omega)) ?_; intro v2 w2 hown2 hg2 _; have hs2 := strs_slice hown2.strs; rw [List.length_append, List.length_singleton] at hs2; obtain ⟨A2, c2, rfl⟩ := hs2)
          | (at_builtin; refine wpList_appSs (w0 := w) _ _ rfl rfl _ [] rfl he1 (hB.alloc _) _ T rfl (Strs.grew hT.out (hB.alloc _)) (by first | omega | (simp; omega)) ?_; intro v1 w1 hown1 hg1 _; rw [List.nil_append] at hown1; have hs1 := strs_slice hown1.strs; obtain ⟨A1, c1, rfl⟩ := hs1))
        go_ret
        exact ⟨_, rfl, by rw [← hz1.out]; exact hown3.strs, hg3⟩
/-- l22With of one text. -/
theorem l22WithA_c (v vt : Value) (L : List ByteArray) (s : ByteArray) (w : World) (h : Strs w v L) (hk : Strs w vt [s]) (hn : L.length ≤ 1048576) :
    Calls Tryz.prog 57 #[v, vt] w (GivesA w (insA L s)) := by
  have he := own_emptyS' w
  have KI := Lib.hid (fun u W (hu : Strs W u L) => l02InsertA_c u L s W hu hn)
  obtain ⟨b, o, c, rfl, hc, hm, hb, hcell⟩ := strs_one hk
  have HK := Lib.hid hcell
  have HL := Lib.hid h
  obtain ⟨A, cA, rfl⟩ := strs_slice h
  clear h hk hcell
  generalize insA L s = K at *
  go_enter Tryz.func57, Tryz.ntmps57
  go_wp2_with (first
    | (at_builtin; refine wpList_appSs (w0 := w) _ _ rfl rfl _ [] rfl he ((Grew.refl w).alloc _) _ L rfl (Strs.grew HL.out ((Grew.refl w).alloc _)) (by first | omega | (simp; omega)) ?_; intro v1 w1 hown1 hg1 _; have hs1 := Lib.hid hown1.strs; obtain ⟨A1, c1, rfl⟩ := strs_slice hown1.strs; clear hown1))
  go_wp2_with fail
  have k1 := HK.out _ hg1
  refine wp_loop_rounds 2 ?_
  rw [rounds_succ]
  go_wp2_with fail
  refine (KI.out _ _ (by simpa using hs1.out)).mono ?_
  rintro e w2 ⟨u, rfl, hu, hg2⟩
  obtain ⟨A2, c2, rfl⟩ := strs_slice hu
  have HU := Lib.hid hu
  clear hu
  go_wp2_with fail
  rw [rounds_succ]
  go_wp2_with fail
  go_ret
  exact ⟨_, rfl, HU.out, hg1.trans hg2⟩
/-- l22With of two texts. -/
theorem l22WithA2_c (v vt : Value) (L : List ByteArray) (s z : ByteArray) (w : World) (h : Strs w v L) (hk : Strs w vt [s, z]) (hn : L.length ≤ 1000000) :
    Calls Tryz.prog 57 #[v, vt] w (GivesA w (insA (insA L s) z)) := by
  have he := own_emptyS' w
  have KI := Lib.hid (fun u W (hu : Strs W u L) => l02InsertA_c u L s W hu (by omega))
  have KI2 := Lib.hid (fun u W (hu : Strs W u (insA L s)) => l02InsertA_c u (insA L s) z W hu (by have := insA_len L s; omega))
  obtain ⟨b, o, c, rfl, hc, hm, hb, hcell⟩ := strs_two hk
  have HK := Lib.hid hcell
  have HL := Lib.hid h
  obtain ⟨A, cA, rfl⟩ := strs_slice h
  clear h hk hcell
  generalize insA (insA L s) z = K2 at *
  generalize insA L s = K at *
  go_enter Tryz.func57, Tryz.ntmps57
  go_wp2_with (first
    | (at_builtin; refine wpList_appSs (w0 := w) _ _ rfl rfl _ [] rfl he ((Grew.refl w).alloc _) _ L rfl (Strs.grew HL.out ((Grew.refl w).alloc _)) (by first | omega | (simp; omega)) ?_; intro v1 w1 hown1 hg1 _; have hs1 := Lib.hid hown1.strs; obtain ⟨A1, c1, rfl⟩ := strs_slice hown1.strs; clear hown1))
  go_wp2_with fail
  have k1 := (HK.out _ hg1).1
  refine wp_loop_rounds 3 ?_
  rw [rounds_succ]
  go_wp2_with fail
  refine (KI.out _ _ (by simpa using hs1.out)).mono ?_
  rintro e w2 ⟨u, rfl, hu, hg2⟩
  have HU := Lib.hid hu
  obtain ⟨A2, c2, rfl⟩ := strs_slice hu
  clear hu
  have g2 := hg1.trans hg2
  have k2 := (HK.out _ g2).2
  go_wp2_with fail
  rw [rounds_succ]
  go_wp2_with fail
  refine (KI2.out _ _ HU.out).mono ?_
  rintro e w3 ⟨u3, rfl, hu3, hg3⟩
  have HU3 := Lib.hid hu3
  obtain ⟨A3, c3, rfl⟩ := strs_slice hu3
  clear hu3
  go_wp2_with fail
  rw [rounds_succ]
  go_wp2_with fail
  go_ret
  exact ⟨_, rfl, HU3.out, g2.trans hg3⟩
end Go.Proofs.YtkjmfkllmljdeaaGreat

/- leftGoals of the program. -/
namespace Go.Proofs.YtkjmfkllmljdeaaGreat
open Go.RowKit

set_option maxHeartbeats 2000000 in
theorem left_3 (v vA : Value) (L : List ByteArray) (C M : ByteArray) (w : World) (hL : Strs w v L) (hA : Nodes w vA (Fm.enc (fo M))) (hM : gp M = true) (hn : L.length ≤ 1048576) (hk : kT M = 2) :
    Calls Tryz.prog 63 #[.agg #[v, .string C], .int .i64 3, vA] w (GivesO w (some [(putS (L ++ [pl M, pr M]), C)])) := by
  have KP := Lib.hid (fun W (hW : Grew w W) => pt_two M vA W hM (by omega) (hA.grew hW))
  have KI := Lib.hid (fun K u W (hW : Grew w W) (hu : Strs W u K) (hl : K.length ≤ 2) => withS_c v u L K C W (hL.grew hW) hu (by omega))
  have HS := Lib.hid hL
  obtain ⟨b, o, c, rfl, hc, hm, k0⟩ := nodes_head hA
  obtain ⟨A, cA, rfl⟩ := strs_slice hL
  have KV := fun s W => proving_c A L.length cA C s W
  have hal := (Grew.refl w).alloc (.cells #[.slice A L.length cA, .string C] 63)
  have hpos := Fm.enc_pos (fo M)
  rw [show kindOf (fo M) = 2 from hk] at k0
  generalize (Fm.enc (fo M)).length = nx at *
  clear hL hA hk hM
  generalize hal2 : L.length = al at *
  replace hal2 := Lib.hid hal2
  generalize pl M = tp at *
  generalize pr M = tq at *
  replace KV := Lib.hid KV
  go_enter Tryz.func63, Tryz.ntmps63
  go_wp2_with fail
  refine (KP.out _ hal).mono ?_
  rintro e w2 ⟨vp, rfl, hp, hg2⟩
  have g2 := hal.trans hg2
  obtain ⟨b2, o2, c2, rfl, hc2, hm2, hb2, hz⟩ := strs_two hp.strs
  have HZ := Lib.hid hp.strs
  clear hp
  have z0 := fun W (hW : Grew w2 W) => (hz W hW).1
  have z1 := fun W (hW : Grew w2 W) => (hz W hW).2
  clear hz
  have b0 : ∀ W, Grew w2 W → W.cell? ⟨w.heap.size, 0, none⟩ = some (.slice A al cA) := fun W hW => ((hg2.trans hW).cell (p := ⟨w.heap.size, 0, none⟩) (by simp)).trans (by simp)
  have b1 : ∀ W, Grew w2 W → W.cell? ⟨w.heap.size, 1, none⟩ = some (.string C) := fun W hW => ((hg2.trans hW).cell (p := ⟨w.heap.size, 1, none⟩) (by simp)).trans (by simp)
  have q0 := k0 _ g2
  have i1 : (1 : Int) < (2 : Int) := by omega
  have hr2 := Grew.refl w2
  have hd2 := hr2.drew
  have gd := g2.trans hd2
  go_wp2_with fail
  refine (KI.out [tp, tq] _ _ g2 HZ.out (by simp)).mono ?_
  rintro e w3 ⟨u, rfl, hu, hg3⟩
  have HU := Lib.hid hu
  obtain ⟨Au, cu, rfl⟩ := strs_slice hu
  clear hu
  go_wp2_with fail
  go_ret2
  exact givesO_some (jgs_lit1 _ _ _ _ _ HU.out) ((g2.trans hg3).alloc _)

set_option maxHeartbeats 2000000 in
theorem left_5 (v vA : Value) (L : List ByteArray) (C M : ByteArray) (w : World) (hL : Strs w v L) (hA : Nodes w vA (Fm.enc (fo M))) (hM : gp M = true) (hn : L.length ≤ 1048576) (hk : kT M = 3) :
    Calls Tryz.prog 63 #[.agg #[v, .string C], .int .i64 5, vA] w (GivesO w (some [(putS (L ++ [pl M]), C), (putS (L ++ [pr M]), C)])) := by
  have KP := Lib.hid (fun W (hW : Grew w W) => pt_two M vA W hM (by omega) (hA.grew hW))
  have KI := Lib.hid (fun K u W (hW : Grew w W) (hu : Strs W u K) (hl : K.length ≤ 2) => withS_c v u L K C W (hL.grew hW) hu (by omega))
  have HS := Lib.hid hL
  obtain ⟨b, o, c, rfl, hc, hm, k0⟩ := nodes_head hA
  obtain ⟨A, cA, rfl⟩ := strs_slice hL
  have KV := fun s W => proving_c A L.length cA C s W
  have hal := (Grew.refl w).alloc (.cells #[.slice A L.length cA, .string C] 63)
  have hpos := Fm.enc_pos (fo M)
  rw [show kindOf (fo M) = 3 from hk] at k0
  generalize (Fm.enc (fo M)).length = nx at *
  clear hL hA hk hM
  generalize hal2 : L.length = al at *
  replace hal2 := Lib.hid hal2
  generalize pl M = tp at *
  generalize pr M = tq at *
  replace KV := Lib.hid KV
  go_enter Tryz.func63, Tryz.ntmps63
  go_wp2_with fail
  refine (KP.out _ hal).mono ?_
  rintro e w2 ⟨vp, rfl, hp, hg2⟩
  have g2 := hal.trans hg2
  obtain ⟨b2, o2, c2, rfl, hc2, hm2, hb2, hz⟩ := strs_two hp.strs
  have HZ := Lib.hid hp.strs
  clear hp
  have z0 := fun W (hW : Grew w2 W) => (hz W hW).1
  have z1 := fun W (hW : Grew w2 W) => (hz W hW).2
  clear hz
  have b0 : ∀ W, Grew w2 W → W.cell? ⟨w.heap.size, 0, none⟩ = some (.slice A al cA) := fun W hW => ((hg2.trans hW).cell (p := ⟨w.heap.size, 0, none⟩) (by simp)).trans (by simp)
  have b1 : ∀ W, Grew w2 W → W.cell? ⟨w.heap.size, 1, none⟩ = some (.string C) := fun W hW => ((hg2.trans hW).cell (p := ⟨w.heap.size, 1, none⟩) (by simp)).trans (by simp)
  have q0 := k0 _ g2
  have i1 : (1 : Int) < (2 : Int) := by omega
  have hr2 := Grew.refl w2
  have hd2 := hr2.drew
  have gd := g2.trans hd2
  go_wp2_with fail
  go_region_held3 (fun w' => Grew w2 w') (first | with_reducible assumption | exact Grew.alloc ‹_› _ | exact Grew.drew (Grew.alloc (Grew.alloc ‹_› _) _))
    (first
     | (go_at_call 66; have tt4 := tg3; refine (KI.out [tq] _ _ (by repeat (first | with_reducible assumption | with_reducible refine Grew.alloc ?_ _ | with_reducible refine Grew.drew ?_)) (by first | exact strs_at1 (by simp <;> omega) (by simp) | exact strs_at1 (Nat.lt_of_lt_of_le (by simp <;> omega) hg3.size) ((hg3.cell (by simp <;> omega)).trans (by simp))) (by simp)).mono ?_; rintro e v4 ⟨u4, rfl, hu4, hg4⟩; have gq4 : Grew w v4 := Grew.trans (by repeat (first | with_reducible assumption | with_reducible refine Grew.alloc ?_ _ | with_reducible refine Grew.drew ?_)) hg4; have hq4 : Grew w2 v4 := Grew.trans (by repeat (first | with_reducible assumption | with_reducible refine Grew.alloc ?_ _ | with_reducible refine Grew.drew ?_)) hg4; have tg4 := trivial; have HU4 := Lib.hid hu4; obtain ⟨Au4, cu4, rfl⟩ := strs_slice hu4; clear hu4)
     | (go_at_call 66; refine (KI.out [tp] _ _ (by repeat (first | with_reducible assumption | with_reducible refine Grew.alloc ?_ _ | with_reducible refine Grew.drew ?_)) (strs_at1 (by simp <;> omega) (by simp)) (by simp)).mono ?_; rintro e v3 ⟨u3, rfl, hu3, hg3⟩; have gq3 : Grew w v3 := Grew.trans (by repeat (first | with_reducible assumption | with_reducible refine Grew.alloc ?_ _ | with_reducible refine Grew.drew ?_)) hg3; have hq3 : Grew w2 v3 := Grew.trans (by repeat (first | with_reducible assumption | with_reducible refine Grew.alloc ?_ _ | with_reducible refine Grew.drew ?_)) hg3; have tg3 := trivial; have HU3 := Lib.hid hu3; obtain ⟨Au3, cu3, rfl⟩ := strs_slice hu3; clear hu3))
  all_goals go_wp2_with fail
  all_goals go_ret2
  all_goals exact givesO_some (jgs_lit2 _ _ _ _ _ _ _ _ (by first | exact HU3.out.grew hg4 | exact HU3.out.grew (Grew.of_alloc hg4)) HU4.out) (gq4.alloc _)

set_option maxHeartbeats 2000000 in
theorem left_8 (v vA : Value) (L : List ByteArray) (C M : ByteArray) (w : World) (hL : Strs w v L) (hA : Nodes w vA (Fm.enc (fo M))) (hM : gp M = true) (hn : L.length ≤ 1048576) (hk : kT M = 4) :
    Calls Tryz.prog 63 #[.agg #[v, .string C], .int .i64 8, vA] w (GivesO w (some [(L, pl M), (putS (L ++ [pr M]), C)])) := by
  have KP := Lib.hid (fun W (hW : Grew w W) => pt_two M vA W hM (by omega) (hA.grew hW))
  have KI := Lib.hid (fun K u W (hW : Grew w W) (hu : Strs W u K) (hl : K.length ≤ 2) => withS_c v u L K C W (hL.grew hW) hu (by omega))
  have HS := Lib.hid hL
  obtain ⟨b, o, c, rfl, hc, hm, k0⟩ := nodes_head hA
  obtain ⟨A, cA, rfl⟩ := strs_slice hL
  have KV := fun s W => proving_c A L.length cA C s W
  have hal := (Grew.refl w).alloc (.cells #[.slice A L.length cA, .string C] 63)
  have hpos := Fm.enc_pos (fo M)
  rw [show kindOf (fo M) = 4 from hk] at k0
  generalize (Fm.enc (fo M)).length = nx at *
  clear hL hA hk hM
  generalize hal2 : L.length = al at *
  replace hal2 := Lib.hid hal2
  generalize pl M = tp at *
  generalize pr M = tq at *
  replace KV := Lib.hid KV
  go_enter Tryz.func63, Tryz.ntmps63
  go_wp2_with fail
  refine (KP.out _ hal).mono ?_
  rintro e w2 ⟨vp, rfl, hp, hg2⟩
  have g2 := hal.trans hg2
  obtain ⟨b2, o2, c2, rfl, hc2, hm2, hb2, hz⟩ := strs_two hp.strs
  have HZ := Lib.hid hp.strs
  clear hp
  have z0 := fun W (hW : Grew w2 W) => (hz W hW).1
  have z1 := fun W (hW : Grew w2 W) => (hz W hW).2
  clear hz
  have b0 : ∀ W, Grew w2 W → W.cell? ⟨w.heap.size, 0, none⟩ = some (.slice A al cA) := fun W hW => ((hg2.trans hW).cell (p := ⟨w.heap.size, 0, none⟩) (by simp)).trans (by simp)
  have b1 : ∀ W, Grew w2 W → W.cell? ⟨w.heap.size, 1, none⟩ = some (.string C) := fun W hW => ((hg2.trans hW).cell (p := ⟨w.heap.size, 1, none⟩) (by simp)).trans (by simp)
  have q0 := k0 _ g2
  have i1 : (1 : Int) < (2 : Int) := by omega
  have hr2 := Grew.refl w2
  have hd2 := hr2.drew
  have gd := g2.trans hd2
  go_wp2_with fail
  go_region_held3 (fun w' => Grew w2 w') (first | with_reducible assumption | exact Grew.alloc ‹_› _ | exact Grew.drew (Grew.alloc (Grew.alloc ‹_› _) _))
    (first
     | (go_at_call 66; have tt4 := tg3; refine (KI.out [tq] _ _ (by repeat (first | with_reducible assumption | with_reducible refine Grew.alloc ?_ _ | with_reducible refine Grew.drew ?_)) (by first | exact strs_at1 (by simp <;> omega) (by simp) | exact strs_at1 (Nat.lt_of_lt_of_le (by simp <;> omega) hg3.size) ((hg3.cell (by simp <;> omega)).trans (by simp))) (by simp)).mono ?_; rintro e v4 ⟨u4, rfl, hu4, hg4⟩; have gq4 : Grew w v4 := Grew.trans (by repeat (first | with_reducible assumption | with_reducible refine Grew.alloc ?_ _ | with_reducible refine Grew.drew ?_)) hg4; have hq4 : Grew w2 v4 := Grew.trans (by repeat (first | with_reducible assumption | with_reducible refine Grew.alloc ?_ _ | with_reducible refine Grew.drew ?_)) hg4; have tg4 := trivial; have HU4 := Lib.hid hu4; obtain ⟨Au4, cu4, rfl⟩ := strs_slice hu4; clear hu4)
     | (go_at_call 65; refine (KV.out tp _).mono ?_; rintro e v3 ⟨rfl, hg3⟩; have gq3 : Grew w v3 := Grew.trans (by repeat (first | with_reducible assumption | with_reducible refine Grew.alloc ?_ _ | with_reducible refine Grew.drew ?_)) hg3; have hq3 : Grew w2 v3 := Grew.trans (by repeat (first | with_reducible assumption | with_reducible refine Grew.alloc ?_ _ | with_reducible refine Grew.drew ?_)) hg3; have tg3 := trivial))
  all_goals go_wp2_with fail
  all_goals go_ret2
  all_goals (have HL := Lib.hid (HS.out.grew gq4); exact givesO_some (jgs_lit2 _ _ _ _ _ _ _ _ HL.out HU4.out) (gq4.alloc _))

set_option maxHeartbeats 2000000 in
theorem left_3n (v vA : Value) (L : List ByteArray) (C M : ByteArray) (w : World) (hL : Strs w v L) (hA : Nodes w vA (Fm.enc (fo M))) (hM : gp M = true) (_hn : L.length ≤ 1048576) (hk : kT M ≠ 2) :
    Calls Tryz.prog 63 #[.agg #[v, .string C], .int .i64 3, vA] w (GivesO w none) := by
  have KP := Lib.hid (fun W (hW : Grew w W) => pt_any M vA W hM (hA.grew hW))
  obtain ⟨b, o, c, rfl, hc, hm, k0⟩ := nodes_head hA
  obtain ⟨A, cA, rfl⟩ := strs_slice hL
  have hal := (Grew.refl w).alloc (.cells #[.slice A L.length cA, .string C] 63)
  have hpos := Fm.enc_pos (fo M)
  have hkk : (kindOf (fo M) == 2) = false := by unfold kT at hk; simpa using hk
  generalize kindOf (fo M) = km at *
  generalize (Fm.enc (fo M)).length = nx at *
  clear hL hA hk hM
  generalize L.length = al at *
  go_enter Tryz.func63, Tryz.ntmps63
  go_wp2_with fail
  refine (KP.out _ hal).mono ?_
  rintro e w2 ⟨A2, n2, c2, rfl, hg2⟩
  have g2 := hal.trans hg2
  have q0 := k0 _ g2
  go_wp2_with fail
  go_ret2
  exact givesO_none g2

set_option maxHeartbeats 2000000 in
theorem left_5n (v vA : Value) (L : List ByteArray) (C M : ByteArray) (w : World) (hL : Strs w v L) (hA : Nodes w vA (Fm.enc (fo M))) (hM : gp M = true) (_hn : L.length ≤ 1048576) (hk : kT M ≠ 3) :
    Calls Tryz.prog 63 #[.agg #[v, .string C], .int .i64 5, vA] w (GivesO w none) := by
  have KP := Lib.hid (fun W (hW : Grew w W) => pt_any M vA W hM (hA.grew hW))
  obtain ⟨b, o, c, rfl, hc, hm, k0⟩ := nodes_head hA
  obtain ⟨A, cA, rfl⟩ := strs_slice hL
  have hal := (Grew.refl w).alloc (.cells #[.slice A L.length cA, .string C] 63)
  have hpos := Fm.enc_pos (fo M)
  have hkk : (kindOf (fo M) == 3) = false := by unfold kT at hk; simpa using hk
  generalize kindOf (fo M) = km at *
  generalize (Fm.enc (fo M)).length = nx at *
  clear hL hA hk hM
  generalize L.length = al at *
  go_enter Tryz.func63, Tryz.ntmps63
  go_wp2_with fail
  refine (KP.out _ hal).mono ?_
  rintro e w2 ⟨A2, n2, c2, rfl, hg2⟩
  have g2 := hal.trans hg2
  have q0 := k0 _ g2
  go_wp2_with fail
  go_ret2
  exact givesO_none g2

set_option maxHeartbeats 2000000 in
theorem left_8n (v vA : Value) (L : List ByteArray) (C M : ByteArray) (w : World) (hL : Strs w v L) (hA : Nodes w vA (Fm.enc (fo M))) (hM : gp M = true) (_hn : L.length ≤ 1048576) (hk : kT M ≠ 4) :
    Calls Tryz.prog 63 #[.agg #[v, .string C], .int .i64 8, vA] w (GivesO w none) := by
  have KP := Lib.hid (fun W (hW : Grew w W) => pt_any M vA W hM (hA.grew hW))
  obtain ⟨b, o, c, rfl, hc, hm, k0⟩ := nodes_head hA
  obtain ⟨A, cA, rfl⟩ := strs_slice hL
  have hal := (Grew.refl w).alloc (.cells #[.slice A L.length cA, .string C] 63)
  have hpos := Fm.enc_pos (fo M)
  have hkk : (kindOf (fo M) == 4) = false := by unfold kT at hk; simpa using hk
  generalize kindOf (fo M) = km at *
  generalize (Fm.enc (fo M)).length = nx at *
  clear hL hA hk hM
  generalize L.length = al at *
  go_enter Tryz.func63, Tryz.ntmps63
  go_wp2_with fail
  refine (KP.out _ hal).mono ?_
  rintro e w2 ⟨A2, n2, c2, rfl, hg2⟩
  have g2 := hal.trans hg2
  have q0 := k0 _ g2
  go_wp2_with fail
  go_ret2
  exact givesO_none g2

theorem leftGoals_c (R : Int) (v vA : Value) (L : List ByteArray) (C M : ByteArray) (w : World) (hL : Strs w v L) (hA : Nodes w vA (Fm.enc (fo M))) (hM : gp M = true) (hn : L.length ≤ 1048576) (hR : R = 3 ∨ R = 5 ∨ R = 8) :
    Calls Tryz.prog 63 #[.agg #[v, .string C], .int .i64 R, vA] w (GivesO w (lgl R L C M)) := by
  unfold lgl
  rcases hR with rfl | rfl | rfl
  · by_cases hk : kT M = 2
    · rw [if_pos ⟨rfl, hk⟩]; exact left_3 v vA L C M w hL hA hM hn hk
    · rw [if_neg (fun h => hk h.2), if_neg (by omega), if_neg (by omega)]; exact left_3n v vA L C M w hL hA hM hn hk
  · by_cases hk : kT M = 3
    · rw [if_neg (by omega), if_pos ⟨rfl, hk⟩]; exact left_5 v vA L C M w hL hA hM hn hk
    · rw [if_neg (by omega), if_neg (fun h => hk h.2), if_neg (by omega)]; exact left_5n v vA L C M w hL hA hM hn hk
  · by_cases hk : kT M = 4
    · rw [if_neg (by omega), if_neg (by omega), if_pos ⟨rfl, hk⟩]; exact left_8 v vA L C M w hL hA hM hn hk
    · rw [if_neg (by omega), if_neg (by omega), if_neg (fun h => hk h.2)]; exact left_8n v vA L C M w hL hA hM hn hk
end Go.Proofs.YtkjmfkllmljdeaaGreat

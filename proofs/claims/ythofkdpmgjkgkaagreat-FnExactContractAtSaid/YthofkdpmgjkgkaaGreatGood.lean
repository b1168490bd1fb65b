/- A text that reads to a tree whose text it is. -/
import Derived.Test.YthofkdpmgjkgkaaGreatParseF
import Derived.Test.YthofkdpmgjkgkaaGreatWrite
import Derived.Lib.SlicesS
namespace Go.Proofs.YthofkdpmgjkgkaaGreat
open Go.RowKit
open Fm (Nd)

theorem enc_pre (t : Fm.Tree) : ∀ (u : Fm.Tree) (a b : List Nd), Fm.enc t ++ a = Fm.enc u ++ b → t = u ∧ a = b := by
  induction t with
  | var v =>
    intro u a b h
    cases u <;> simp [Fm.enc] at h
    exact ⟨congrArg Fm.Tree.var (Fin.ext (by have := h.1; omega)), h.2⟩
  | fls =>
    intro u a b h
    cases u <;> simp [Fm.enc] at h
    exact ⟨rfl, h⟩
  | and x y hx hy =>
    intro u a b h
    cases u <;> simp [Fm.enc] at h
    obtain ⟨e1, h1⟩ := hx _ _ _ h
    obtain ⟨e2, h2⟩ := hy _ _ _ h1
    exact ⟨by rw [e1, e2], h2⟩
  | or x y hx hy =>
    intro u a b h
    cases u <;> simp [Fm.enc] at h
    obtain ⟨e1, h1⟩ := hx _ _ _ h
    obtain ⟨e2, h2⟩ := hy _ _ _ h1
    exact ⟨by rw [e1, e2], h2⟩
  | imp x y hx hy =>
    intro u a b h
    cases u <;> simp [Fm.enc] at h
    obtain ⟨e1, h1⟩ := hx _ _ _ h
    obtain ⟨e2, h2⟩ := hy _ _ _ h1
    exact ⟨by rw [e1, e2], h2⟩
  | box x hx =>
    intro u a b h
    cases u <;> simp [Fm.enc] at h
    obtain ⟨e1, h1⟩ := hx _ _ _ h
    exact ⟨by rw [e1], h1⟩
  | dia x hx =>
    intro u a b h
    cases u <;> simp [Fm.enc] at h
    obtain ⟨e1, h1⟩ := hx _ _ _ h
    exact ⟨by rw [e1], h1⟩
theorem enc_inj {t u : Fm.Tree} (h : Fm.enc t = Fm.enc u) : t = u := (enc_pre t u [] [] (by simpa using h)).1

/-- The text is the text of a formula. -/
def IsGood (s : ByteArray) : Prop := ∃ t, Fm.pf s = (Fm.enc t, 0, 0) ∧ bs (Fm.txt t 0) = s
noncomputable def gd (s : ByteArray) : Bool := @decide (IsGood s) (Classical.propDecidable _)
theorem gd_true {s : ByteArray} (h : IsGood s) : gd s = true := by
  unfold gd
  exact @decide_eq_true _ (Classical.propDecidable _) h
theorem gd_false {s : ByteArray} (h : ¬ IsGood s) : gd s = false := by
  unfold gd
  exact @decide_eq_false _ (Classical.propDecidable _) h

theorem pf_cases (s : ByteArray) : (∃ t, Fm.pf s = (Fm.enc t, 0, 0)) ∨ ∃ p c, Fm.pf s = ([], p, c) ∧ (c == 0) = false := by
  unfold Fm.pf
  split
  · exact .inr ⟨_, _, rfl, by decide⟩
  · split
    · exact .inr ⟨_, _, rfl, by decide⟩
    · split
      · exact .inr ⟨_, _, rfl, by decide⟩
      · obtain ⟨t, ht⟩ := Fm.parse_enc s.data.toList Fm.fuel
        refine .inl ⟨t, ?_⟩
        rw [← ht]
        rfl
theorem gd_bad {s : ByteArray} {p : Nat} {c : Int} (h : Fm.pf s = ([], p, c)) (hc : (c == 0) = false) : gd s = false := by
  apply gd_false
  rintro ⟨t, ht, _⟩
  rw [h] at ht
  simp only [Prod.mk.injEq] at ht
  rw [ht.2.2] at hc
  cases hc
theorem gd_tree {s : ByteArray} {t : Fm.Tree} (h : Fm.pf s = (Fm.enc t, 0, 0)) : gd s = ((bs (Fm.txt t 0)).toList == s.toList) := by
  have e : ((bs (Fm.txt t 0)).toList == s.toList) = true ↔ bs (Fm.txt t 0) = s := by
    exact Lib.bytes_beq_iff _ _
  cases hb : ((bs (Fm.txt t 0)).toList == s.toList) with
  | true => exact gd_true ⟨t, h, e.1 hb⟩
  | false =>
    apply gd_false
    rintro ⟨u, hu, hs⟩
    rw [h] at hu
    simp only [Prod.mk.injEq, and_true] at hu
    have := enc_inj hu
    subst this
    rw [e.2 hs] at hb
    cases hb

/-- What the reference's test of a text gives. -/
def GivesG (w : World) (s : ByteArray) (e : Ending) (w' : World) : Prop := ∃ v, e = .returned (.tuple #[v, .bool (gd s)]) ∧ Own w' w.heap.size v (Fm.pf s).1 ∧ Grew w w'

theorem l02Good_c (s : ByteArray) (w : World) (hs : s.size ≤ 140737488355328) :
    Calls Tryz.prog 123 #[.string s] w (GivesG w s) := by
  have HP := fun w => specParse_c s w hs
  unfold GivesG
  rcases pf_cases s with ⟨t, ht⟩ | ⟨p, c, hp, hc⟩
  · have hn := Fm.pf_len s
    rw [gd_tree ht]
    rw [ht] at HP hn ⊢
    simp only at HP hn ⊢
    replace HP := Lib.hid HP
    have HT := Lib.hid (fun v w h => l02Text_c t v w h (by omega))
    clear ht
    generalize Fm.enc t = xs at *
    go_enter Tryz.func123, Tryz.ntmps123
    go_wp2_with fail
    refine (HP.out _).mono ?_
    rintro e w1 ⟨v1, rfl, ho1, hg1, _⟩
    go_wp2_with fail
    refine (HT.out _ _ ho1.nodes).mono ?_
    rintro e w2 ⟨rfl, hg2⟩
    go_wp2_with fail
    go_ret2
    exact ⟨_, rfl, ho1.grew hg2, hg1.trans hg2⟩
  · rw [gd_bad hp hc]
    rw [hp] at HP ⊢
    replace HP := Lib.hid HP
    clear hp
    go_enter Tryz.func123, Tryz.ntmps123
    go_wp2_with fail
    refine (HP.out _).mono ?_
    rintro e w1 ⟨v1, rfl, ho1, hg1, _⟩
    go_wp2_with fail
    go_ret2
    exact ⟨.slice none 0 0, rfl, Own.nil_ _ _, hg1⟩
end Go.Proofs.YthofkdpmgjkgkaaGreat

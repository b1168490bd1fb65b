/- SchemeFormula, of the program and of the reference. -/
import Derived.Test.YtpbaiadaanpllaaDoorStrs
import Derived.Test.YtpbaiadaanpllaaDoorTab
import Derived.Test.YtpbaiadaanpllaaDoorGood
import Derived.Test.YtpbaiadaanpllaaDoorParsed
import Derived.Test.YtpbaiadaanpllaaDoorRange
namespace Go.Proofs.YtpbaiadaanpllaaDoor
open Go.RowKit

def schTexts : List ByteArray := [⟨#[112, 62, 113, 62, 112]⟩, ⟨#[40, 112, 62, 113, 62, 114, 41, 62, 40, 112, 62, 113, 41, 62, 112, 62, 114]⟩, ⟨#[112, 38, 113, 62, 112]⟩, ⟨#[112, 38, 113, 62, 113]⟩, ⟨#[112, 62, 113, 62, 112, 38, 113]⟩, ⟨#[112, 62, 112, 124, 113]⟩, ⟨#[113, 62, 112, 124, 113]⟩, ⟨#[40, 112, 62, 114, 41, 62, 40, 113, 62, 114, 41, 62, 112, 124, 113, 62, 114]⟩, ⟨#[70, 62, 112]⟩, ⟨#[126, 126, 112, 62, 112]⟩, ⟨#[91, 93, 40, 112, 62, 113, 41, 62, 91, 93, 112, 62, 91, 93, 113]⟩, ⟨#[60, 62, 112, 62, 126, 91, 93, 126, 112]⟩, ⟨#[126, 91, 93, 126, 112, 62, 60, 62, 112]⟩, ⟨#[91, 93, 112, 62, 112]⟩, ⟨#[91, 93, 112, 62, 91, 93, 91, 93, 112]⟩, ⟨#[60, 62, 112, 62, 91, 93, 60, 62, 112]⟩, ⟨#[112, 62, 91, 93, 60, 62, 112]⟩, ⟨#[91, 93, 112, 62, 60, 62, 112]⟩, ⟨#[91, 93, 40, 91, 93, 112, 62, 112, 41, 62, 91, 93, 112]⟩]
theorem schTexts_len : schTexts.length = 19 := rfl
theorem schTexts_small {i : Nat} (h : i < 19) : (st schTexts i).size ≤ 200 := by
  have : ∀ j : Fin 19, (st schTexts j.val).size ≤ 200 := by decide
  exact this ⟨i, h⟩

theorem l13Texts_c (w : World) : Calls Tryd.prog 36 #[] w (GivesS w schTexts) := by
  have h := OwnS.lit w w.heap.size schTexts #[.string ⟨#[112, 62, 113, 62, 112]⟩, .string ⟨#[40, 112, 62, 113, 62, 114, 41, 62, 40, 112, 62, 113, 41, 62, 112, 62, 114]⟩, .string ⟨#[112, 38, 113, 62, 112]⟩, .string ⟨#[112, 38, 113, 62, 113]⟩, .string ⟨#[112, 62, 113, 62, 112, 38, 113]⟩, .string ⟨#[112, 62, 112, 124, 113]⟩, .string ⟨#[113, 62, 112, 124, 113]⟩, .string ⟨#[40, 112, 62, 114, 41, 62, 40, 113, 62, 114, 41, 62, 112, 124, 113, 62, 114]⟩, .string ⟨#[70, 62, 112]⟩, .string ⟨#[126, 126, 112, 62, 112]⟩, .string ⟨#[91, 93, 40, 112, 62, 113, 41, 62, 91, 93, 112, 62, 91, 93, 113]⟩, .string ⟨#[60, 62, 112, 62, 126, 91, 93, 126, 112]⟩, .string ⟨#[126, 91, 93, 126, 112, 62, 60, 62, 112]⟩, .string ⟨#[91, 93, 112, 62, 112]⟩, .string ⟨#[91, 93, 112, 62, 91, 93, 91, 93, 112]⟩, .string ⟨#[60, 62, 112, 62, 91, 93, 60, 62, 112]⟩, .string ⟨#[112, 62, 91, 93, 60, 62, 112]⟩, .string ⟨#[91, 93, 112, 62, 60, 62, 112]⟩, .string ⟨#[91, 93, 40, 91, 93, 112, 62, 112, 41, 62, 91, 93, 112]⟩] (Nat.le_refl _) (by rw [schTexts_len]; omega) rfl
  rw [schTexts_len] at h
  go_enter Tryd.func36, Tryd.ntmps36
  go_wp2_with fail
  go_ret
  exact ⟨_, rfl, h, (Grew.refl w).alloc _⟩

/-- The schemes as trees. -/
def schTrees : List Fm.Tree := [(.imp (.var 0) (.imp (.var 1) (.var 0))), (.imp (.imp (.var 0) (.imp (.var 1) (.var 2))) (.imp (.imp (.var 0) (.var 1)) (.imp (.var 0) (.var 2)))), (.imp (.and (.var 0) (.var 1)) (.var 0)), (.imp (.and (.var 0) (.var 1)) (.var 1)), (.imp (.var 0) (.imp (.var 1) (.and (.var 0) (.var 1)))), (.imp (.var 0) (.or (.var 0) (.var 1))), (.imp (.var 1) (.or (.var 0) (.var 1))), (.imp (.imp (.var 0) (.var 2)) (.imp (.imp (.var 1) (.var 2)) (.imp (.or (.var 0) (.var 1)) (.var 2)))), (.imp .fls (.var 0)), (.imp (.imp (.imp (.var 0) .fls) .fls) (.var 0)), (.imp (.box (.imp (.var 0) (.var 1))) (.imp (.box (.var 0)) (.box (.var 1)))), (.imp (.dia (.var 0)) (.imp (.box (.imp (.var 0) .fls)) .fls)), (.imp (.imp (.box (.imp (.var 0) .fls)) .fls) (.dia (.var 0))), (.imp (.box (.var 0)) (.var 0)), (.imp (.box (.var 0)) (.box (.box (.var 0)))), (.imp (.dia (.var 0)) (.box (.dia (.var 0)))), (.imp (.var 0) (.box (.dia (.var 0)))), (.imp (.box (.var 0)) (.dia (.var 0))), (.imp (.box (.imp (.box (.var 0)) (.var 0))) (.box (.var 0)))]
def schTree (i : Nat) : Fm.Tree := schTrees.getD i .fls
theorem schTree_text {i : Nat} (h : i < 19) : st schTexts i = bs (Fm.txt (schTree i) 0) := by
  have : ∀ j : Fin 19, st schTexts j.val = bs (Fm.txt (schTree j.val) 0) := by decide
  exact this ⟨i, h⟩
theorem schTree_len {i : Nat} (h : i < 19) : (Fm.enc (schTree i)).length ≤ 40 ∧ (Fm.txt (schTree i) 0).length ≤ 200 := by
  have : ∀ j : Fin 19, (Fm.enc (schTree j.val)).length ≤ 40 ∧ (Fm.txt (schTree j.val) 0).length ≤ 200 := by decide
  exact this ⟨i, h⟩
theorem sch_pf {i : Nat} (h : i < 19) : Fm.pf (st schTexts i) = (Fm.enc (schTree i), 0, 0) := by
  rw [schTree_text h, Fm.pf_txt _ (schTree_len h).2 (schTree_len h).1]

/-- What SchemeFormula gives. -/
def schF (k : Int) : List Fm.Nd × Int := if 0 ≤ k ∧ k ≤ 18 then (Fm.enc (schTree k.toNat), 0) else ([], 2)
theorem schF_in {k : Nat} (h : k < 19) : schF (k : Int) = (Fm.enc (schTree k), 0) := by
  rw [schF, if_pos (by omega)]; rfl
theorem schF_out {k : Int} (h : ¬ (0 ≤ k ∧ k ≤ 18)) : schF k = ([], 2) := by rw [schF, if_neg h]
theorem schF_len (k : Int) : (schF k).1.length ≤ 40 := by
  unfold schF
  split
  · exact (schTree_len (by omega)).1
  · simp

theorem l13Scheme_c (k : Nat) (w : World) (hk : k < 19) :
    Calls Tryd.prog 24 #[.int .i64 k] w (Gives w (Fm.enc (schTree k))) := by
  have hG := fun w => l02Good_c (st schTexts k) w (by have := schTexts_small hk; omega)
  unfold GivesG at hG
  rw [sch_pf hk] at hG
  simp only at hG
  have HG := Lib.hid hG
  have hlen := schTexts_len
  clear hG
  go_enter Tryd.func24, Tryd.ntmps24
  go_wp2_with fail
  refine (l13Texts_c _).mono ?_
  rintro e w1 ⟨v1, rfl, ho1, hg1⟩
  rcases ho1.strs.open_ with ⟨rfl, h0⟩ | ⟨b, o, c, rfl, hc, hm, hb, hcell⟩
  · cases h0
  rw [hlen] at hc hcell ⊢
  have k1 := hcell k hk _ (Grew.refl _)
  clear hcell ho1 hlen
  generalize st schTexts k = tx at *
  go_wp2_with fail
  refine (HG.out _).mono ?_
  rintro e w4 ⟨v4, rfl, ho4, hg4⟩
  go_wp2_with fail
  go_ret
  exact ⟨_, rfl, ho4.base hg1.size, hg1.trans hg4⟩

theorem scheme_c (k : Nat) (w : World) (hk : k < 19) (hX : TabAt w 2 schTexts) :
    Calls Tryd.prog 26 #[.int .i64 k] w (Gives w (Fm.enc (schTree k))) := by
  have hP := fun w => parsed_c (st schTexts k) w (by have := schTexts_small hk; omega)
  rw [sch_pf hk] at hP
  have k1 : w.cell? ⟨2, k, none⟩ = some (.string (st schTexts k)) := hX.cell hk
  have HP := Lib.hid hP
  clear hP hX
  generalize st schTexts k = tx at *
  go_enter Tryd.func26, Tryd.ntmps26
  go_wp2_with fail
  refine (HP.out _).mono ?_
  rintro e w3 ⟨v3, rfl, ho3, hg3, _⟩
  go_wp2_with fail
  go_ret
  exact ⟨_, rfl, ho3, hg3⟩
end Go.Proofs.YtpbaiadaanpllaaDoor

/- AxiomFormula, of the program and of the reference. -/
import Derived.Test.YtpbaiadaanpllaaDoorFind
import Derived.Test.YtpbaiadaanpllaaDoorTab
import Derived.Test.YtpbaiadaanpllaaDoorParseF
namespace Go.Proofs.YtpbaiadaanpllaaDoor
open Go.RowKit

def axNames : List ByteArray := [⟨#[52]⟩, ⟨#[53]⟩, ⟨#[66]⟩, ⟨#[67]⟩, ⟨#[68]⟩, ⟨#[70]⟩, ⟨#[71]⟩, ⟨#[72]⟩, ⟨#[76]⟩, ⟨#[84]⟩, ⟨#[86]⟩, ⟨#[88]⟩, ⟨#[90]⟩]
def axTexts : List ByteArray := [⟨#[91, 93, 112, 62, 91, 93, 91, 93, 112]⟩, ⟨#[60, 62, 112, 62, 91, 93, 60, 62, 112]⟩, ⟨#[112, 62, 91, 93, 60, 62, 112]⟩, ⟨#[91, 93, 91, 93, 112, 62, 91, 93, 112]⟩, ⟨#[91, 93, 112, 62, 60, 62, 112]⟩, ⟨#[60, 62, 112, 62, 91, 93, 112]⟩, ⟨#[60, 62, 91, 93, 112, 62, 91, 93, 60, 62, 112]⟩, ⟨#[91, 93, 40, 91, 93, 112, 62, 113, 41, 124, 91, 93, 40, 91, 93, 113, 62, 112, 41]⟩, ⟨#[91, 93, 40, 91, 93, 112, 62, 112, 41, 62, 91, 93, 112]⟩, ⟨#[91, 93, 112, 62, 112]⟩, ⟨#[91, 93, 70]⟩, ⟨#[112, 62, 91, 93, 112]⟩, ⟨#[91, 93, 40, 91, 93, 40, 112, 62, 91, 93, 112, 41, 62, 112, 41, 62, 112]⟩]
theorem axNames_len : axNames.length = 13 := rfl
theorem axTexts_len : axTexts.length = 13 := rfl
theorem axTexts_small {i : Nat} (h : i < 13) : (st axTexts i).size ≤ 200 := by
  have : ∀ j : Fin 13, (st axTexts j.val).size ≤ 200 := by decide
  exact this ⟨i, h⟩

theorem l09Names_c (w : World) : Calls Tryd.prog 18 #[] w (GivesS w axNames) := by
  have h := OwnS.lit w w.heap.size axNames #[.string ⟨#[52]⟩, .string ⟨#[53]⟩, .string ⟨#[66]⟩, .string ⟨#[67]⟩, .string ⟨#[68]⟩, .string ⟨#[70]⟩, .string ⟨#[71]⟩, .string ⟨#[72]⟩, .string ⟨#[76]⟩, .string ⟨#[84]⟩, .string ⟨#[86]⟩, .string ⟨#[88]⟩, .string ⟨#[90]⟩] (Nat.le_refl _) (by rw [axNames_len]; omega) rfl
  rw [axNames_len] at h
  go_enter Tryd.func18, Tryd.ntmps18
  go_wp2_with fail
  go_ret
  exact ⟨_, rfl, h, (Grew.refl w).alloc _⟩
theorem l09Texts_c (w : World) : Calls Tryd.prog 33 #[] w (GivesS w axTexts) := by
  have h := OwnS.lit w w.heap.size axTexts #[.string ⟨#[91, 93, 112, 62, 91, 93, 91, 93, 112]⟩, .string ⟨#[60, 62, 112, 62, 91, 93, 60, 62, 112]⟩, .string ⟨#[112, 62, 91, 93, 60, 62, 112]⟩, .string ⟨#[91, 93, 91, 93, 112, 62, 91, 93, 112]⟩, .string ⟨#[91, 93, 112, 62, 60, 62, 112]⟩, .string ⟨#[60, 62, 112, 62, 91, 93, 112]⟩, .string ⟨#[60, 62, 91, 93, 112, 62, 91, 93, 60, 62, 112]⟩, .string ⟨#[91, 93, 40, 91, 93, 112, 62, 113, 41, 124, 91, 93, 40, 91, 93, 113, 62, 112, 41]⟩, .string ⟨#[91, 93, 40, 91, 93, 112, 62, 112, 41, 62, 91, 93, 112]⟩, .string ⟨#[91, 93, 112, 62, 112]⟩, .string ⟨#[91, 93, 70]⟩, .string ⟨#[112, 62, 91, 93, 112]⟩, .string ⟨#[91, 93, 40, 91, 93, 40, 112, 62, 91, 93, 112, 41, 62, 112, 41, 62, 112]⟩] (Nat.le_refl _) (by rw [axTexts_len]; omega) rfl
  rw [axTexts_len] at h
  go_enter Tryd.func33, Tryd.ntmps33
  go_wp2_with fail
  go_ret
  exact ⟨_, rfl, h, (Grew.refl w).alloc _⟩

theorem index_names (i : Nat) (hi : i < 13) (w : World) : (Instr.index 41 (.agg (scells axNames).toArray) (.int .i64 i)).run Tryd.prog w = .ok (.string (st axNames i)) w := by
  have h : ∀ j : Fin 13, (Instr.index 41 (.agg (scells axNames).toArray) (.int .i64 j.val)).run Tryd.prog w = .ok (.string (st axNames j.val)) w := by
    intro j
    match j with
    | 0 => rfl
    | 1 => rfl
    | 2 => rfl
    | 3 => rfl
    | 4 => rfl
    | 5 => rfl
    | 6 => rfl
    | 7 => rfl
    | 8 => rfl
    | 9 => rfl
    | 10 => rfl
    | 11 => rfl
    | 12 => rfl
  exact h ⟨i, hi⟩

/-- The axioms as trees. -/
def axTrees : List Fm.Tree := [(.imp (.box (.var 0)) (.box (.box (.var 0)))), (.imp (.dia (.var 0)) (.box (.dia (.var 0)))), (.imp (.var 0) (.box (.dia (.var 0)))), (.imp (.box (.box (.var 0))) (.box (.var 0))), (.imp (.box (.var 0)) (.dia (.var 0))), (.imp (.dia (.var 0)) (.box (.var 0))), (.imp (.dia (.box (.var 0))) (.box (.dia (.var 0)))), (.or (.box (.imp (.box (.var 0)) (.var 1))) (.box (.imp (.box (.var 1)) (.var 0)))), (.imp (.box (.imp (.box (.var 0)) (.var 0))) (.box (.var 0))), (.imp (.box (.var 0)) (.var 0)), (.box .fls), (.imp (.var 0) (.box (.var 0))), (.imp (.box (.imp (.box (.imp (.var 0) (.box (.var 0)))) (.var 0))) (.var 0))]
def axTree (i : Nat) : Fm.Tree := axTrees.getD i .fls
theorem axTree_text {i : Nat} (h : i < 13) : st axTexts i = bs (Fm.txt (axTree i) 0) := by
  have : ∀ j : Fin 13, st axTexts j.val = bs (Fm.txt (axTree j.val) 0) := by decide
  exact this ⟨i, h⟩
theorem axTree_len {i : Nat} (h : i < 13) : (Fm.enc (axTree i)).length ≤ 40 ∧ (Fm.txt (axTree i) 0).length ≤ 200 := by
  have : ∀ j : Fin 13, (Fm.enc (axTree j.val)).length ≤ 40 ∧ (Fm.txt (axTree j.val) 0).length ≤ 200 := by decide
  exact this ⟨i, h⟩
theorem ax_pf {i : Nat} (h : i < 13) : Fm.pf (st axTexts i) = (Fm.enc (axTree i), 0, 0) := by
  rw [axTree_text h, Fm.pf_txt _ (axTree_len h).2 (axTree_len h).1]
theorem ax_rd {i : Nat} (h : i < 13) : Fm.rd (st axTexts i) = (Fm.enc (axTree i), -1) := by
  rw [axTree_text h, Fm.rd_txt _ (by have := (axTree_len h).2; unfold Fm.fuel; omega)]

/-- What AxiomFormula gives. -/
def axF (s : ByteArray) : List Fm.Nd × Int := if findS axNames s < 0 then ([], 4) else (Fm.enc (axTree (findS axNames s).toNat), 0)

theorem l09Formula_c (s : ByteArray) (k : Nat) (w : World) (hk : k < 13) (hf : findS axNames s = (k : Int)) :
    Calls Tryd.prog 19 #[.string s] w (Gives w (Fm.enc (axTree k))) := by
  have hF := fun v w h => l09Find_c v axNames s w h (by rw [axNames_len]; omega)
  rw [hf] at hF
  have HF := Lib.hid hF
  have hR := fun w => l02Read_c (st axTexts k) w (by have := axTexts_small hk; omega)
  rw [ax_rd hk] at hR
  have HR := Lib.hid hR
  have hlen := axTexts_len
  clear hF hR hf
  go_enter Tryd.func19, Tryd.ntmps19
  go_wp2_with fail
  refine (l09Texts_c _).mono ?_
  rintro e w1 ⟨v1, rfl, ho1, hg1⟩
  rcases ho1.strs.open_ with ⟨rfl, h0⟩ | ⟨b, o, c, rfl, hc, hm, hb, hcell⟩
  · cases h0
  rw [hlen] at hc hcell ⊢
  have k1 := fun W hW => hcell k hk W hW
  have HO := Lib.hid ho1
  clear hcell ho1 hlen
  go_wp2_with fail
  refine (l09Names_c _).mono ?_
  rintro e w2 ⟨v2, rfl, ho2, hg2⟩
  go_wp2_with fail
  refine (HF.out _ _ ho2.strs).mono ?_
  rintro e w3 ⟨rfl, hg3⟩
  have hg13 := hg2.trans hg3
  clear ho2
  generalize st axTexts k = tx at *
  go_wp2_with fail
  refine (HR.out _).mono ?_
  rintro e w4 ⟨v4, rfl, ho4, hg4⟩
  go_wp2_with fail
  go_ret
  exact ⟨_, rfl, ho4.base (hg1.trans hg13).size, (hg1.trans hg13).trans hg4⟩
end Go.Proofs.YtpbaiadaanpllaaDoor

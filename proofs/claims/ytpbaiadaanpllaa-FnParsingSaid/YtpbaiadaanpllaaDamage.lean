/- The damage of a drawn text: l01Damage. -/
import Derived.Test.YtpbaiadaanpllaaFrom
import Derived.Test.YtpbaiadaanpllaaStrs
import Derived.WalkLawsBesides
namespace Go.Proofs.Ytpbaiadaanpllaa
open Go.RowKit

def signs : List ByteArray := [⟨#[112]⟩, ⟨#[113]⟩, ⟨#[70]⟩, ⟨#[84]⟩, ⟨#[126]⟩, ⟨#[38]⟩, ⟨#[124]⟩, ⟨#[62]⟩, ⟨#[40]⟩, ⟨#[41]⟩, ⟨#[91, 93]⟩, ⟨#[60, 62]⟩, ⟨#[32]⟩, ⟨#[44]⟩, ⟨#[59]⟩, ⟨#[48]⟩, ⟨#[49]⟩, ⟨#[46]⟩, ⟨#[91]⟩, ⟨#[60]⟩, ⟨#[120]⟩, ⟨#[10]⟩]
theorem signs_len : signs.length = 22 := rfl
theorem signs_small {i : Nat} (h : i < 22) : (st signs i).size ≤ 2 := by
  have : ∀ j : Fin 22, (st signs j.val).size ≤ 2 := by decide
  exact this ⟨i, h⟩

/-- What a drawn text is. -/
def DrawnText (w : World) (g : Nat) (cv : Value) (N m : Nat) (e : Ending) (w' : World) : Prop :=
  ∃ s, e = .returned (.string s) ∧ s.size ≤ m ∧ Src w' g cv N ∧ Only g w w'

theorem l01Damage_c (g : Nat) (cv : Value) (N : Nat) (t : ByteArray) (w : World) (hS : Src w g cv N) (ht : t.size ≤ 1000000) :
    Calls Try.prog 67 #[.pointer (some ⟨g, 0, none⟩), .string t] w (DrawnText w g cv N (t.size + 2)) := by
  have h := OwnS.lit w w.heap.size signs #[.string ⟨#[112]⟩, .string ⟨#[113]⟩, .string ⟨#[70]⟩, .string ⟨#[84]⟩, .string ⟨#[126]⟩, .string ⟨#[38]⟩, .string ⟨#[124]⟩, .string ⟨#[62]⟩, .string ⟨#[40]⟩, .string ⟨#[41]⟩, .string ⟨#[91, 93]⟩, .string ⟨#[60, 62]⟩, .string ⟨#[32]⟩, .string ⟨#[44]⟩, .string ⟨#[59]⟩, .string ⟨#[48]⟩, .string ⟨#[49]⟩, .string ⟨#[46]⟩, .string ⟨#[91]⟩, .string ⟨#[60]⟩, .string ⟨#[120]⟩, .string ⟨#[10]⟩] (Nat.le_refl _) (by rw [signs_len]; omega) rfl
  rw [signs_len] at h
  have HO := Lib.hid h
  have HSs := Lib.hid (fun o => hS.grew ((Grew.refl w).alloc o))
  have hgl := hS.lt
  have HAL := Lib.hid (fun o => (Grew.refl w).alloc o)
  clear h hS
  go_enter Try.func67, Try.ntmps67
  go_wp2_with fail
  refine (l01Next_c g cv N 22 _ (HSs.out _) (by omega)).mono ?_
  rintro e w1 ⟨r, rfl, hr0, hr1, _, hS1, ho1⟩
  obtain ⟨k, rfl⟩ : ∃ k : Nat, r = (k : Int) := ⟨r.toNat, by omega⟩
  have hk : k < 22 := by have := hr1 (by omega); omega
  have hown := own_only HO.out ho1 (fun he => by simp [Value.ownBlock] at he; omega)
  have k1 : w1.cell? ⟨w.heap.size, k, none⟩ = some (.string (st signs k)) := by
    rcases (OwnS.strs hown).open_ with ⟨h0, _⟩ | ⟨b, o, c, hv, hc, hm, hb, hcell⟩
    · cases h0
    · have hv' : w.heap.size = b ∧ 0 = o := by simp at hv; exact ⟨hv.1.1, hv.1.2⟩
      obtain ⟨rfl, rfl⟩ := hv'
      have := hcell k (by rw [signs_len]; exact hk) _ (Grew.refl w1)
      simpa using this
  have hsz := signs_small hk
  have hG1 := (HAL.out _).only.trans ho1
  have HS1 := Lib.hid hS1
  clear hown HO HSs HAL hS1 ho1 hr1 hr0
  generalize st signs k = x at *
  by_cases h0 : t.size = 0
  · go_wp2_with fail
    go_ret
    exact ⟨_, rfl, by omega, HS1.out, hG1⟩
  go_wp2_with fail
  refine (l01Next_c g cv N t.size _ HS1.out (by omega)).mono ?_
  rintro e w2 ⟨r2, rfl, hr20, hr21, _, hS2, ho2⟩
  obtain ⟨m, rfl⟩ : ∃ m : Nat, r2 = (m : Int) := ⟨r2.toNat, by omega⟩
  have hm : m < t.size := by have := hr21 (by omega); omega
  have HS2 := Lib.hid hS2
  have hG2 := hG1.trans ho2
  clear hS2 ho2 hr20 hr21 HS1 hG1
  go_wp2_with fail
  refine (l01Next_c g cv N 3 _ HS2.out (by omega)).mono ?_
  rintro e w3 ⟨r3, rfl, hr30, hr31, _, hS3, ho3⟩
  have HS3 := Lib.hid hS3
  have hG3 := hG2.trans ho3
  clear hS3 ho3 HS2 hG2
  cases he0 : (r3 == 0) with
  | true =>
    go_wp2_with fail
    go_quiet (fail)
    go_wp2_with fail
    go_ret
    exact ⟨_, rfl, by simp [ByteArray.size_append, ByteArray.size_extract]; omega, HS3.out.grew ((Grew.refl _).drewN _), hG3.drewN _⟩
  | false =>
    cases he1 : (r3 == 1) with
    | true =>
      go_wp2_with fail
      go_quiet (fail)
      go_wp2_with fail
      go_ret
      exact ⟨_, rfl, by simp [ByteArray.size_append, ByteArray.size_extract]; omega, HS3.out.grew ((Grew.refl _).drewN _), hG3.drewN _⟩
    | false =>
      go_wp2_with fail
      go_quiet (fail)
      go_wp2_with fail
      go_ret
      exact ⟨_, rfl, by simp [ByteArray.size_append, ByteArray.size_extract]; omega, HS3.out.grew ((Grew.refl _).drewN _), hG3.drewN _⟩
end Go.Proofs.Ytpbaiadaanpllaa

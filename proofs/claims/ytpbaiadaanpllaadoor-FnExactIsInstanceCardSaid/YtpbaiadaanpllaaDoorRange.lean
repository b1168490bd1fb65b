/- A number between two bounds. -/
import Derived.Test.YtpbaiadaanpllaaDoorBase
import Derived.Test.YtpbaiadaanpllaaDoorProg
namespace Go.Proofs.YtpbaiadaanpllaaDoor
open Go.RowKit

theorem l01In_c (k lo hi : Int) (w : World) : Calls Tryd.prog 23 #[.int .i64 k, .int .i64 lo, .int .i64 hi] w fun e w' => e = .returned (.bool (decide (lo ≤ k ∧ k ≤ hi))) ∧ Grew w w' := by
  by_cases h : lo ≤ k
  · have hd : decide (lo ≤ k ∧ k ≤ hi) = decide (k ≤ hi) := by simp [h]
    rw [hd]
    go_enter Tryd.func23, Tryd.ntmps23
    go_wp2_with fail
    go_ret
    exact ⟨rfl, Grew.refl _⟩
  · have hd : decide (lo ≤ k ∧ k ≤ hi) = false := by simp [h]
    rw [hd]
    go_enter Tryd.func23, Tryd.ntmps23
    go_wp2_with fail
    go_ret
    exact ⟨rfl, Grew.refl _⟩

theorem inRange_c (k lo hi : Int) (w : World) : Calls Tryd.prog 25 #[.int .i64 k, .int .i64 lo, .int .i64 hi] w fun e w' => e = .returned (.bool (decide (lo ≤ k ∧ k ≤ hi))) ∧ Grew w w' := by
  by_cases h : lo ≤ k
  · have hd : decide (lo ≤ k ∧ k ≤ hi) = decide (k ≤ hi) := by simp [h]
    rw [hd]
    go_enter Tryd.func25, Tryd.ntmps25
    go_wp2_with fail
    go_ret
    exact ⟨rfl, Grew.refl _⟩
  · have hd : decide (lo ≤ k ∧ k ≤ hi) = false := by simp [h]
    rw [hd]
    go_enter Tryd.func25, Tryd.ntmps25
    go_wp2_with fail
    go_ret
    exact ⟨rfl, Grew.refl _⟩
end Go.Proofs.YtpbaiadaanpllaaDoor

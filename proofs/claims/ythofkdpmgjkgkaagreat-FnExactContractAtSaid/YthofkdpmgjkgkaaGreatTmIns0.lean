/- Small lemmas on the numbers and types of terms. -/
import Derived.Test.YthofkdpmgjkgkaaGreatTmRaise
import Derived.Test.YthofkdpmgjkgkaaGreatTmFits2
namespace Go.Proofs.YthofkdpmgjkgkaaGreat
open Go.RowKit

theorem tnB_num0 {k n : Int} {s : ByteArray} (h : tnB k n s = true) : 0 ≤ n ∧ n ≤ 99 := by
  by_cases hn : 0 ≤ n ∧ n ≤ 99
  · exact hn
  · rw [tnB_range hn] at h; cases h
theorem tm_nodes {xs : List Tn} (h : tmB xs = true) (i : Nat) (hi : i < xs.length) : tnB (tk xs i) (tn xs i) (tt xs i) = true := by
  unfold tmB at h
  simp only [Bool.and_eq_true, Bool.not_eq_true'] at h
  have := anyT_none h.1.2 hi
  simpa [noTn] using this
theorem tm_numOk {xs : List Tn} (h : tmB xs = true) : NumOk xs := fun i hi => by
  have := tnB_num0 (tm_nodes h i hi)
  omega
theorem raise_fits {k d : Int} {xs : List Tn} (h : FitsT xs) : FitsT (raiseL k d xs) := fun i hi => by
  rw [raiseL_length] at hi
  rw [raise_tt hi]
  exact h i hi
def GivesT2 (w : World) (r : List Tn × Int) (e : Ending) (w' : World) : Prop := ∃ v, e = .returned (.tuple #[v, .int .i64 r.2]) ∧ OwnT w' w.heap.size v r.1 ∧ Grew w w'
end Go.Proofs.YthofkdpmgjkgkaaGreat

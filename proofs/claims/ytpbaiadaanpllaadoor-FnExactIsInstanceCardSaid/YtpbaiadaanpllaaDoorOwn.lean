/- A copy: l02Own of the reference. -/
import Derived.Test.YtpbaiadaanpllaaDoorLit
namespace Go.Proofs.YtpbaiadaanpllaaDoor
open Go.RowKit
open Fm (Nd)

theorem l02Own_c (v : Value) (xs : List Nd) (w : World) (h : Nodes w v xs) (hn : xs.length ≤ 1099511627775) :
    Calls Tryd.prog 51 #[v] w (Gives w xs) := by
  have he : Own (w.alloc (.cells #[] 44)) w.heap.size (.slice (some ⟨w.heap.size, 0, none⟩) 0 0) [] :=
    World.ownsRow_lit (e := 44) (size := 2) w #[] 0 (Nat.le_refl _) (by omega) rfl
  go_enter Tryd.func51, Tryd.ntmps51
  go_wp2_with (first
    | (at_builtin; refine wpList_app (w0 := w) _ _ rfl rfl _ [] rfl he ((Grew.refl w).alloc _) v xs rfl (h.grew ((Grew.refl w).alloc _)) (by simp; omega) ?_; intro v1 w1 hown1 hg1 _))
  go_ret
  exact ⟨_, rfl, by simpa using hown1, hg1⟩
end Go.Proofs.YtpbaiadaanpllaaDoor

/- The law FnExactParseFormula, walked. -/
import Derived.Test.YtpbaiadaanpllaaParseF
import Derived.Test.YtpbaiadaanpllaaEq
namespace Go.Proofs.Ytpbaiadaanpllaa
open Go.RowKit
open Fm (Nd)

theorem own_block_ge {w : World} {B g : Nat} {v : Value} {xs : List Nd} (h : Own w B v xs) (hv : v.ownBlock = some g) : B ≤ g := (h.lt g hv).1

theorem lawParse_c (s : ByteArray) (w : World) :
    Calls Try.prog 3 #[.string s] w fun e w' => e = .returned (.bool true) ∧ Grew w w' := by
  by_cases hbig : 1048576 < s.size
  · go_enter Try.func3, Try.ntmps3
    go_wp2_with fail
    go_ret
    exact ⟨rfl, Grew.refl _⟩
  · have hl := Fm.pf_len s
    have HS := Lib.hid (fun w => specParse_c s w (by omega))
    have HI := Lib.hid (fun w => parse_c s w (by omega))
    generalize Fm.pf s = r at *
    obtain ⟨xs, p, c⟩ := r
    simp only at hl
    go_enter Try.func3, Try.ntmps3
    go_wp2_with fail
    refine (HS.out _).mono ?_
    rintro e w1 ⟨v1, rfl, ho1, hg1⟩
    go_wp2_with fail
    refine (HI.out _).mono ?_
    rintro e w2 ⟨v2, rfl, ho2, hg2⟩
    go_wp2_with fail
    refine (eqNodeS_yes _ _ xs _ ho2.nodes (ho1.grew hg2).nodes (by omega)).mono ?_
    rintro e w3 ⟨rfl, hg3⟩
    go_wp2_with fail
    refine (markNodeS_g v2 xs w1.heap.size 1 _ (ho2.grew hg3) (by omega) (by omega) (by omega)).mono ?_
    rintro e w4 ⟨rfl, ho4, hm4⟩
    have hg4 := hm4 w1 (Nat.le_refl _) (hg2.trans hg3)
    clear hm4 ho2
    go_wp2_with fail
    refine (heldNodeS_c v2 xs.length 1 _ ho4.nodes (by omega) (by omega) (by omega)).mono ?_
    rintro e w5 ⟨rfl, hg5⟩
    go_wp2_with fail
    refine (HI.out _).mono ?_
    rintro e w6 ⟨v6, rfl, ho6, hg6⟩
    go_wp2_with fail
    refine (eqNodeS_yes _ _ xs _ ho6.nodes (ho1.grew ((hg4.trans hg5).trans hg6)).nodes (by omega)).mono ?_
    rintro e w7 ⟨rfl, hg7⟩
    go_wp2_with fail
    refine (heldNodeS_c v2 xs.length 1 _ (ho4.grew ((hg5.trans hg6).trans hg7)).nodes (by omega) (by omega) (by omega)).mono ?_
    rintro e w8 ⟨rfl, hg8⟩
    go_wp2_with fail
    go_ret
    exact ⟨rfl, hg1.trans ((((hg4.trans hg5).trans hg6).trans hg7).trans hg8)⟩
end Go.Proofs.Ytpbaiadaanpllaa

/- The law FnExactIsSequent, walked. -/
import Derived.Test.YtpbaiadaanpllaaSeq
namespace Go.Proofs.Ytpbaiadaanpllaa
open Go.RowKit

theorem lawSeq_c (v : Value) (L : List ByteArray) (s : ByteArray) (w : World) (h : ArgS w v L) :
    Calls Try.prog 5 #[v, .string s] w fun e w' => e = .returned (.bool true) ∧ Grew w w' := by
  by_cases hbig : 1048576 < s.size
  · clear h
    go_enter Try.func5, Try.ntmps5
    go_wp2_with fail
    go_ret
    exact ⟨rfl, Grew.refl _⟩
  have K0 := Lib.hid (szStringS_c v L 1048576 w h (by omega) (by omega))
  have K1 := Lib.hid (fun W (hW : Grew w W) => toStringS_c v L W (h.grew hW))
  clear h
  go_enter Try.func5, Try.ntmps5
  go_wp2_with fail
  refine K0.out.mono ?_
  rintro e w1 ⟨r, rfl, ⟨_, hs⟩, hg1⟩
  by_cases hr : r < 0
  · clear hs
    go_wp2_with fail
    go_ret
    exact ⟨rfl, hg1⟩
  obtain ⟨hn, hf⟩ := hs (by omega)
  clear hs
  have F := Lib.hid hf
  clear hf
  generalize hRR : (gp s && (ascP L && decide (L.length ≤ 12))) = RR
  have KS : Hid (∀ v W, Strs W v L → Calls Try.prog 23 #[v, .string s] W fun e w' => e = .returned (.bool RR) ∧ Grew W w') := Lib.hid (fun v W h => by rw [← hRR]; exact specSeq_c v L s W h F.out hn (by omega))
  have KI : Hid (∀ v W, Strs W v L → Calls Try.prog 25 #[v, .string s] W fun e w' => e = .returned (.bool RR) ∧ Grew W w') := Lib.hid (fun v W h => by rw [← hRR]; exact implSeq_c v L s W h F.out hn (by omega))
  clear hRR
  go_wp2_with fail
  refine (K1.out _ hg1 hn).mono ?_
  rintro e w2 ⟨a1, rfl, ho1, hg2⟩
  go_wp2_with fail
  refine (KS.out _ _ ho1.strs).mono ?_
  rintro e w3 ⟨rfl, hg3⟩
  have hg13 := (hg1.trans hg2).trans hg3
  clear ho1 hg1 hg2 hg3
  go_wp2_with fail
  refine (K1.out _ hg13 hn).mono ?_
  rintro e w4 ⟨a3, rfl, ho3, hg4⟩
  go_wp2_with fail
  refine (KI.out _ _ ho3.strs).mono ?_
  rintro e w5 ⟨rfl, hg5⟩
  have hs5 := ho3.strs.grew hg5
  have hg15 := (hg13.trans hg4).trans hg5
  clear ho3 hg4 hg5 hg13 KS KI
  cases hB : (RR != RR) with
  | true => simp at hB
  | false =>
  go_wp2_with fail
  refine (K1.out _ hg15 hn).mono ?_
  rintro e w6 ⟨a6, rfl, ho6, hg6⟩
  go_wp2_with fail
  refine (eqStringS_yes _ _ L _ (hs5.grew hg6) ho6.strs (by omega)).mono ?_
  rintro e w7 ⟨rfl, hg7⟩
  go_wp2_with fail
  go_ret
  exact ⟨rfl, (hg15.trans hg6).trans hg7⟩
end Go.Proofs.Ytpbaiadaanpllaa

/- Two lists of int64 that are equal: eqInt64S. -/
import Derived.Test.YthofkdpmgjkgkaaInts
namespace Go.Proofs.Ythofkdpmgjkgkaa
open Go.RowKit

/-- Two lists of numbers that are equal. -/
theorem eqInt64S_yes (v1 v2 : Value) (L : List Int) (w : World) (h1 : Ints w v1 L) (h2 : Ints w v2 L) (hn : L.length ≤ 1099511627776) :
    Calls Try.prog 10 #[v1, v2] w fun e w' => e = .returned (.bool true) ∧ Grew w w' := by
  rcases h1.open_ with ⟨rfl, rfl⟩ | ⟨b1, o1, c1, rfl, hc1, hm1, hb1, hf⟩
  · obtain ⟨A, c, rfl⟩ := ints_slice h2
    go_enter Try.func10, Try.ntmps10
    go_wp2_with fail
    refine wp_loop_rounds 1 ?_; rw [rounds_succ]
    go_wp2_with fail
    go_ret
    exact ⟨rfl, Grew.refl _⟩
  · rcases h2.open_ with ⟨rfl, rfl⟩ | ⟨b2, o2, c2, rfl, hc2, hm2, hb2, hh⟩
    · go_enter Try.func10, Try.ntmps10
      go_wp2_with fail
      refine wp_loop_rounds 1 ?_; rw [rounds_succ]
      go_wp2_with fail
      go_ret
      exact ⟨rfl, Grew.refl _⟩
    · clear h1 h2
      have HF := Lib.hid hf
      have HH := Lib.hid hh
      clear hf hh
      generalize hN : L.length = n at *
      clear hN
      go_enter Try.func10, Try.ntmps10
      go_wp2_with fail
      go_loopw [5] (fun i wr => ∃ j : Nat, j ≤ n ∧ i = .int .i64 j ∧ Grew w wr) (fun i _ => n - (intOf i).toNat)
      case atStart => exact ⟨0, Nat.zero_le _, rfl, Grew.refl _⟩
      case round =>
        obtain ⟨j, hj, rfl, hB⟩ := hrel
        by_cases hlt : j < n
        · have k1 : ∀ W, Grew w W → W.cell? ⟨b1, o1 + j, none⟩ = some (.int .i64 (it L j)) := fun W hW => HF.out j hlt W hW
          have k2 : ∀ W, Grew w W → W.cell? ⟨b2, o2 + j, none⟩ = some (.int .i64 (it L j)) := fun W hW => HH.out j hlt W hW
          have k3 := k1 _ hB
          have k4 := k2 _ hB
          generalize it L j = x at *
          have hx : (x != x) = false := by simp
          go_wp2_with fail
          go_quiet (fail)
          go_wp2_with fail
          go_roundw
          case rel => exact ⟨j + 1, by omega, by go_num, by first | assumption | exact hB.drewN _⟩
          case measure => simp [intOf]; omega
        · go_wp2_with fail
          go_ret
          exact ⟨rfl, by assumption⟩
end Go.Proofs.Ythofkdpmgjkgkaa

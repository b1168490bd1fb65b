/- The laws' marks on lists of strings. -/
import Derived.Test.YtpbaiadaanpllaaStrLaw
import Derived.WalkLawsBesides
import Derived.Laws.BytesArg
namespace Go.Proofs.Ytpbaiadaanpllaa
open Go.RowKit

theorem conv_one (Y : Int) (w : World) (t : TypeId) : (convert 41 9 (.slice (some ⟨w.heap.size, 0, none⟩) 1 1)).run Try.prog (w.alloc (.cells #[.int .u8 Y] t)) = .ok (.string (strOfNums [Y])) (w.alloc (.cells #[.int .u8 Y] t)) :=
  run_convert_bytes_arg (P := Try.prog) (w := w.alloc (.cells #[.int .u8 Y] t)) 41 5 Try.underlying41 Try.underlying5 w.heap.size 0 1 1 [Y] rfl (fun i hi => by
    obtain rfl : i = 0 := by omega
    simp) 9 Try.underlying9

theorem markText_c (k : Int) (w : World) (h0 : 0 ≤ k) (h1 : k ≤ 4611686018427387904) :
    Calls Try.prog 97 #[.int .i64 k] w fun e w' => ∃ s, e = .returned (.string s) ∧ Grew w w' := by
  by_cases hk : k ≤ 0
  · go_enter Try.func97, Try.ntmps97
    go_wp2_with fail
    go_ret
    exact ⟨_, rfl, Grew.refl _⟩
  · go_enter Try.func97, Try.ntmps97
    go_wp2_with fail
    go_loopw [0, 3] (fun kk s wr => ∃ (m : Int) (z : ByteArray), 0 ≤ m ∧ (z.size : Int) + m ≤ 4611686018427387904 ∧ kk = .int .i64 m ∧ s = .string z ∧ Grew w wr) (fun kk _ _ => (intOf kk).toNat)
    case atStart => exact ⟨k, ⟨#[]⟩, by omega, by show ((0 : Nat) : Int) + k ≤ _; omega, rfl, rfl, Grew.refl _⟩
    case round =>
      obtain ⟨m, z, hm0, hm1, rfl, rfl, hB⟩ := hrel
      by_cases hp : 0 < m
      · have hcv := conv_one
        have hs1 : ∀ Y, (strOfNums [Y]).size = 1 := fun Y => by rw [strOfNums_size]; rfl
        have hne : ∀ o, Grew w (wr.alloc o) := fun o => hB.alloc o
        go_wp2_with fail
        go_roundw
        case rel => exact ⟨m / 10, _, by omega, by rw [ByteArray.size_append, hs1]; omega, by go_num, rfl, hne _⟩
        case measure => simp [intOf]; omega
      · obtain rfl : m = 0 := by omega
        go_wp2_with fail
        go_ret
        exact ⟨⟨_, rfl⟩, hB⟩
/-- markStringS writes into a row of the call's own. -/
theorem markStringS_c (v : Value) (L : List ByteArray) (B : Nat) (k : Int) (w : World) (h : OwnS w B v L) (hk0 : 0 ≤ k) (hk : k ≤ 1099511627776) (hn : L.length ≤ 1048576) :
    Calls Try.prog 53 #[v, .int .i64 k] w fun e w' => e = .returned (.int .i64 (k + L.length)) ∧ (∀ g, v.ownBlock = some g → Only g w w') ∧ (v.ownBlock = none → Grew w w') := by
  rcases h.2 with ⟨rfl, h0⟩ | ⟨g, c, cur0, rfl, hB, hh0, hnc, hcm, hcs0, _⟩
  · have hL : L.length = 0 := by simpa using h0
    rw [hL]
    clear h h0
    go_enter Try.func53, Try.ntmps53
    go_wp2_with fail
    refine wp_loop_rounds 1 ?_; rw [rounds_succ]
    go_wp2_with fail
    go_ret
    exact ⟨by simp, fun _ _ => Only.refl _ _, fun _ => Grew.refl _⟩
  · clear h
    generalize hN : L.length = n at *
    clear hN
    go_enter Try.func53, Try.ntmps53
    go_wp2_with fail
    go_loopw [1, 5] (fun kk i wr => ∃ (j : Nat) (cur : Array Value), j ≤ n ∧ i = .int .i64 j ∧ kk = .int .i64 (k + (j : Int)) ∧ wr.heap[g]? = some (.cells cur 9 (0, 0)) ∧ cur.size = c * 1 ∧ Only g w wr) (fun _ i _ => n - (intOf i).toNat)
    case atStart => exact ⟨0, cur0, Nat.zero_le _, rfl, by simp, hh0, hcs0, Only.refl _ _⟩
    case round =>
      obtain ⟨j, cur, hj, rfl, rfl, hh, hcs, ho⟩ := hrel
      by_cases hlt : j < n
      · have HH := Lib.hid hh
        clear hh
        go_wp2_with fail
        refine (markText_c _ _ (by omega) (by omega)).mono ?_
        rintro e w1 ⟨s, rfl, hg1⟩
        have hh1 := (hg1.block (blk_lt HH.out)).trans HH.out
        have f1 : w1.frozen? ⟨g, j, none⟩ = false := blk_frozen hh1 j
        obtain ⟨u1, hu1⟩ : ∃ u, w1.cell? ⟨g, j, none⟩ = some u := by
          rw [blk_cell hh1]
          exact ⟨_, Array.getElem?_eq_getElem (by omega)⟩
        have HH1 := Lib.hid hh1
        clear hh1
        go_wp2_with fail
        go_roundw
        case rel => exact ⟨j + 1, _, by omega, by go_num, by go_num, blk_set HH1.out _ _, by simp [hcs], (ho.grew hg1).setCell _⟩
        case measure => simp [intOf]; omega
      · obtain rfl : j = n := by omega
        have HH := Lib.hid hh
        clear hh
        go_wp2_with fail
        go_ret
        exact ⟨rfl, fun g' hg' => by simp [Value.ownBlock] at hg'; subst hg'; exact ho, fun hg' => by simp [Value.ownBlock] at hg'⟩
end Go.Proofs.Ytpbaiadaanpllaa

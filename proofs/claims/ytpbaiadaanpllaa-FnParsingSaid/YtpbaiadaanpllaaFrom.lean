/- The source made: l01From; the damage: l01Damage. -/
import Derived.Test.YtpbaiadaanpllaaSrc
import Derived.StillTailTactics
import Derived.BigRegion
import Derived.Deep.LoopGhost
namespace Go.Proofs.Ytpbaiadaanpllaa
open Go.RowKit

/-- The bytes that came in. -/
def ArgB (w : World) (v : Value) (N : Nat) : Prop :=
  (∃ A c, v = .slice A N c) ∧ N ≤ 9223372036854775807 ∧ (0 < N → ∃ b o c, v = .slice (some ⟨b, o, none⟩) N c ∧ b < w.heap.size ∧ N ≤ c ∧ c ≤ 9223372036854775807 ∧ ∀ j, j < N → ∃ x : Int, 0 ≤ x ∧ x ≤ 255 ∧ w.cell? ⟨b, o + j, none⟩ = some (.int .u8 x))
theorem ArgB.code {w w' : World} {v : Value} {N g : Nat} (h : ArgB w v N) (hN : N ≤ 4096) (hg : Grew w w') (hl : w.heap.size ≤ g) : Code w' g v N := by
  obtain ⟨h1, _, h2⟩ := h
  refine ⟨hN, h1, fun hp => ?_⟩
  obtain ⟨b, o, c, e, hb, hc, hm, hx⟩ := h2 hp
  refine ⟨b, o, c, e, by omega, hc, hm, fun j hj => ?_⟩
  obtain ⟨x, x0, x1, hcell⟩ := hx j hj
  exact ⟨x, x0, x1, (hg.cell (p := ⟨b, o + j, none⟩) hb).trans hcell⟩

theorem l01From_c (v : Value) (N : Nat) (w : World) (h : ArgB w v N) (hN : N ≤ 4096) :
    Calls Try.prog 63 #[v] w fun e w' => ∃ g, e = .returned (.pointer (some ⟨g, 0, none⟩)) ∧ w.heap.size ≤ g ∧ Src w' g v N ∧ Grew w w' := by
  have HC := Lib.hid (fun w' (hg : Grew w w') => h.code hN hg (Nat.le_refl w.heap.size))
  obtain ⟨⟨A, c, rfl⟩, hmax, h2⟩ := h
  have H2 := Lib.hid h2
  clear h2
  go_enter Try.func63, Try.ntmps63
  go_wp2_with fail
  have hnew := fun o => blk_new w o
  go_loopw [4] (fun i wr => ∃ (j : Nat) (x : Int), j ≤ N ∧ i = .int .i64 j ∧ 0 ≤ x ∧ x ≤ 18446744073709551615 ∧ wr.heap[w.heap.size]? = some (.cells #[.slice A N c, .int .i64 0, .int .u64 x] 122 (0, 0)) ∧ Grew w wr) (fun i _ => N - (intOf i).toNat)
  case atStart => exact ⟨0, _, Nat.zero_le _, rfl, by omega, by omega, hnew _, (Grew.refl w).alloc _⟩
  case round =>
    obtain ⟨j, x, hj, rfl, hx0, hx1, hb, hB⟩ := hrel
    by_cases hlt : j < N
    · obtain ⟨b, o, c', e, hbg, hc, hm, hx⟩ := H2.out (by omega)
      obtain ⟨y, hy0, hy1, k1⟩ := hx j hlt
      obtain ⟨rfl, rfl⟩ : A = some ⟨b, o, none⟩ ∧ c = c' := by simpa using e
      have k2 := (hB.cell (p := ⟨b, o + j, none⟩) hbg).trans k1
      have c2 : wr.cell? ⟨w.heap.size, 2, none⟩ = some (.int .u64 x) := by rw [blk_cell hb]; rfl
      have f2 := blk_frozen hb 2
      have HB := Lib.hid hb
      have h4 : (j : Int) < 4096 := by omega
      clear hb e hx k1
      go_wp2_with fail
      have hw0 : ∀ z : Int, 0 ≤ IntKind.u64.wrap z := fun z => by rw [IntKind.wrap_u64]; omega
      have hw1 : ∀ z : Int, IntKind.u64.wrap z ≤ 18446744073709551615 := fun z => by rw [IntKind.wrap_u64]; omega
      have HW0 := Lib.hid hw0
      have HW1 := Lib.hid hw1
      clear hw0 hw1
      go_region
      go_wp2_with fail
      go_roundw
      case rel => exact ⟨j + 1, _, by omega, by go_num, HW0.out _, HW1.out _, blk_set (w := wr.drewN _) HB.out 2 _, (hB.drewN _).setCell (Nat.le_refl _) _⟩
      case measure => simp [intOf]; omega
    · go_wp2_with fail
      go_ret
      exact ⟨_, rfl, Nat.le_refl _, ⟨HC.out _ hB, 0, x, Nat.zero_le _, hx0, hx1, hb⟩, hB⟩
end Go.Proofs.Ytpbaiadaanpllaa

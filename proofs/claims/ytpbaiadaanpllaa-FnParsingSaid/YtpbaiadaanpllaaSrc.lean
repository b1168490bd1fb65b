/- The source of the drawn inputs: l01Next. -/
import Derived.Test.YtpbaiadaanpllaaNodes
import Derived.Deep.QuietTactic
import Derived.BigQuiet
import Derived.Deep.RegionHeld3
import Derived.WalkLawsBesides
import Derived.Outline
import Derived.Conc.WgArith
import Derived.Laws.Bits64
namespace Go.Proofs.Ytpbaiadaanpllaa
open Go.RowKit

/-- The bytes that the source reads, in a block before block g. -/
def Code (w : World) (g : Nat) (v : Value) (N : Nat) : Prop :=
  N ≤ 4096 ∧ (∃ A c, v = .slice A N c) ∧ (0 < N → ∃ b o c, v = .slice (some ⟨b, o, none⟩) N c ∧ b < g ∧ N ≤ c ∧ c ≤ 9223372036854775807 ∧ ∀ j, j < N → ∃ x : Int, 0 ≤ x ∧ x ≤ 255 ∧ w.cell? ⟨b, o + j, none⟩ = some (.int .u8 x))
theorem Code.only {w w' : World} {g : Nat} {v : Value} {N : Nat} (h : Code w g v N) (hg : g < w.heap.size) (ho : Only g w w') : Code w' g v N := by
  obtain ⟨h1, h2, h3⟩ := h
  refine ⟨h1, h2, fun hp => ?_⟩
  obtain ⟨b, o, c, e, hb, hc, hm, hx⟩ := h3 hp
  refine ⟨b, o, c, e, hb, hc, hm, fun j hj => ?_⟩
  obtain ⟨x, x0, x1, hcell⟩ := hx j hj
  exact ⟨x, x0, x1, (ho.cell (p := ⟨b, o + j, none⟩) (by show b < _; omega) (by show b ≠ g; omega)).trans hcell⟩

def Src (w : World) (g : Nat) (v : Value) (N : Nat) : Prop :=
  Code w g v N ∧ ∃ (i : Nat) (h : Int), i ≤ N ∧ 0 ≤ h ∧ h ≤ 18446744073709551615 ∧ w.heap[g]? = some (.cells #[v, .int .i64 i, .int .u64 h] 122 (0, 0))
theorem Src.lt {w : World} {g : Nat} {v : Value} {N : Nat} (h : Src w g v N) : g < w.heap.size := by
  obtain ⟨_, _, _, _, _, _, h⟩ := h
  exact blk_lt h
theorem Src.grew {w w' : World} {g : Nat} {v : Value} {N : Nat} (h : Src w g v N) (hg : Grew w w') : Src w' g v N := by
  have hl := h.lt
  obtain ⟨h1, i, x, h2, h3, h4, h5⟩ := h
  exact ⟨h1.only hl hg.only, i, x, h2, h3, h4, (hg.block hl).trans h5⟩

theorem small_hash (X : Int) (h0 : 0 ≤ X) (h1 : X ≤ 18446744073709551615) : 0 ≤ wrap64 (bits .and .u64 (X / 8589934592) 16777215) ∧ wrap64 (bits .and .u64 (X / 8589934592) 16777215) ≤ 16777215 := by
  have h := bits_mask .u64 63 (by decide) Go.ConcN.wraps_u64_63 24 (by decide) (X / 8589934592) (by omega) (by omega)
  have e : ((2 : Int) ^ 24 - 1) = 16777215 := by decide
  have e2 : ((2 : Int) ^ 24) = 16777216 := by decide
  rw [e, e2] at h
  rw [h]
  unfold wrap64
  omega

theorem l01Next_c (g : Nat) (v : Value) (N : Nat) (n : Int) (w : World) (h : Src w g v N) (hn : n ≤ 9223372036854775807) :
    Calls Try.prog 66 #[.pointer (some ⟨g, 0, none⟩), .int .i64 n] w fun e w' => ∃ r : Int, e = .returned (.int .i64 r) ∧ 0 ≤ r ∧ (1 ≤ n → r < n) ∧ (n < 1 → r = 0) ∧ Src w' g v N ∧ Only g w w' := by
  by_cases h1 : n < 1
  · have HS := Lib.hid h
    clear h
    go_enter Try.func66, Try.ntmps66
    go_wp2_with fail
    go_ret
    exact ⟨_, rfl, by omega, fun h => absurd h (by omega), fun _ => rfl, HS.out, Only.refl _ _⟩
  obtain ⟨hC, i, hh, hi, hh0, hh1, hb⟩ := h
  have c0 : w.cell? ⟨g, 0, none⟩ = some v := by rw [blk_cell hb]; rfl
  have c1 : w.cell? ⟨g, 1, none⟩ = some (.int .i64 i) := by rw [blk_cell hb]; rfl
  have c2 : w.cell? ⟨g, 2, none⟩ = some (.int .u64 hh) := by rw [blk_cell hb]; rfl
  have f1 := blk_frozen hb 1
  have f2 := blk_frozen hb 2
  obtain ⟨A, c, rfl⟩ := hC.2.1
  have hN := hC.1
  have HB := Lib.hid hb
  have HC := Lib.hid hC
  clear hb hC
  go_enter Try.func66, Try.ntmps66
  go_wp2_with fail
  have hX0 : 0 ≤ IntKind.u64.wrap (IntKind.u64.wrap (hh * 6364136223846793005) + 1442695040888963407) := by rw [IntKind.wrap_u64]; omega
  have hX1 : IntKind.u64.wrap (IntKind.u64.wrap (hh * 6364136223846793005) + 1442695040888963407) ≤ 18446744073709551615 := by rw [IntKind.wrap_u64]; omega
  generalize IntKind.u64.wrap (IntKind.u64.wrap (hh * 6364136223846793005) + 1442695040888963407) = X at *
  obtain ⟨hY0, hY1⟩ := small_hash X hX0 hX1
  generalize wrap64 (bits .and .u64 (X / 8589934592) 16777215) = Y at *
  have hb1 := blk_set HB.out 2 (.int .u64 X)
  have ho1 := (Only.refl g w).setCell (o := 2) (.int .u64 X)
  have hC1 := HC.out.only (blk_lt HB.out) ho1
  clear c0 c1 c2 f1 f2 HB HC
  generalize w.setCell ⟨g, 2, none⟩ (.int .u64 X) = w1 at *
  have c0 : w1.cell? ⟨g, 0, none⟩ = some (.slice A N c) := by rw [blk_cell hb1]; rfl
  have c1 : w1.cell? ⟨g, 1, none⟩ = some (.int .i64 i) := by rw [blk_cell hb1]; rfl
  have f1 := blk_frozen hb1 1
  have HB := Lib.hid hb1
  clear hb1
  by_cases hlt : i < N
  · obtain ⟨b, o, c', e, hbg, hc, hm, hx⟩ := hC1.2.2 (by omega)
    obtain ⟨x, hx0, hx1, k1⟩ := hx i hlt
    obtain ⟨rfl, rfl⟩ : A = some ⟨b, o, none⟩ ∧ c = c' := by simpa using e
    have HC := Lib.hid hC1
    clear hC1 e hx
    go_quiet (fail)
    go_wp2_with fail
    go_quiet (fail)
    go_wp2_with fail
    go_ret
    exact ⟨_, rfl, Int.emod_nonneg _ (by omega), fun _ => Int.emod_lt_of_pos _ (by omega), fun h => absurd h (by omega), ⟨HC.out.only (blk_lt HB.out) (Only.setCell ((Only.refl g w1).drewN _) _), i + 1, X, by omega, hX0, hX1, blk_set (w := w1.drewN _) HB.out 1 _⟩, ho1.trans (Only.setCell ((Only.refl g w1).drewN _) _)⟩
  · have HC := Lib.hid hC1
    clear hC1
    go_quiet (fail)
    go_wp2_with fail
    go_ret
    exact ⟨_, rfl, Int.emod_nonneg _ (by omega), fun _ => Int.emod_lt_of_pos _ (by omega), fun h => absurd h (by omega), ⟨HC.out.only (blk_lt HB.out) ((Only.refl g w1).drewN _), i, X, by omega, hX0, hX1, HB.out⟩, ho1.drewN _⟩
end Go.Proofs.Ytpbaiadaanpllaa

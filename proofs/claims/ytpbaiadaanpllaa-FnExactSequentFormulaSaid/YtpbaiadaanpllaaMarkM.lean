/- The laws' marks on a sequent of texts. -/
import Derived.Test.YtpbaiadaanpllaaMarkS
import Derived.Test.YtpbaiadaanpllaaModalB
namespace Go.Proofs.Ytpbaiadaanpllaa
open Go.RowKit

theorem own_row {w w' : World} {B : Nat} {e : TypeId} {k n : Nat} {v : Value} {xs : List Value} {row : Option Nat} (h : w.ownsRow B e k v n xs) (hg : w.grownBy w' row) (hne : ∀ g, row = some g → v.ownBlock ≠ some g) : w'.ownsRow B e k v n xs := by
  cases row with
  | none => exact own_grew h ⟨hg.os, hg.tape, hg.output, hg.size, fun i hi => hg.block i hi (by simp)⟩
  | some g => exact own_only h (show Only g w w' from hg) (hne g rfl)
theorem grew_row {W w w' : World} {row : Option Nat} (h : Grew W w) (hg : w.grownBy w' row) (hne : ∀ g, row = some g → W.heap.size ≤ g) : Grew W w' := h.grown hg hne
theorem row_of {w w' : World} {v : Value} (h1 : ∀ g, v.ownBlock = some g → Only g w w') (h2 : v.ownBlock = none → Grew w w') : w.grownBy w' v.ownBlock := by
  cases hv : v.ownBlock with
  | none => exact (h2 hv).by_ _
  | some g => exact h1 g hv

theorem markModal_c (a b : Value) (L1 L2 : List ByteArray) (B : Nat) (w : World) (h1 : OwnS w B a L1) (h2 : OwnS w B b L2) (hn1 : L1.length ≤ 1048576) (hn2 : L2.length ≤ 1048576) (hab : ∀ g, a.ownBlock = some g → b.ownBlock ≠ some g) :
    Calls Try.prog 50 #[.agg #[a, b], .int .i64 1] w fun e w' => e = .returned (.int .i64 (1 + L1.length + L2.length)) ∧ w.heap.size ≤ w'.heap.size ∧
      (∀ B' e k n v xs, w.ownsRow B' e k v n xs → e ≠ 9 → w'.ownsRow B' e k v n xs) ∧ (∀ W, W.heap.size ≤ B → Grew W w → Grew W w') := by
  have H1 := Lib.hid (fun W (hW : Grew w W) => own_grew h1 hW)
  have H2 := Lib.hid h2
  have HB1 := Lib.hid (fun g (hg : a.ownBlock = some g) => own_of_ge h1 hg)
  have HB2 := Lib.hid (fun g (hg : b.ownBlock = some g) => own_of_ge h2 hg)
  have HG : Hid (∀ B' e k n v xs, w.ownsRow B' e k v n xs → e ≠ 9 → (∀ g, a.ownBlock = some g → v.ownBlock ≠ some g) ∧ (∀ g, b.ownBlock = some g → v.ownBlock ≠ some g)) := Lib.hid (fun B' e k n v xs hv hne => by
    refine ⟨fun g hg => ?_, fun g hg => ?_⟩
    · rcases h1.2 with ⟨rfl, _⟩ | ⟨g', cap, cur, rfl, _, hh, _⟩
      · simp [Value.ownBlock] at hg
      · have : g' = g := by simpa [Value.ownBlock] using hg
        subst this
        exact own_ne hv hh hne
    · rcases h2.2 with ⟨rfl, _⟩ | ⟨g', cap, cur, rfl, _, hh, _⟩
      · simp [Value.ownBlock] at hg
      · have : g' = g := by simpa [Value.ownBlock] using hg
        subst this
        exact own_ne hv hh hne)
  have HN := Lib.hid hab
  have HL1 := Lib.hid (fun g (hg : a.ownBlock = some g) => (h1.lt g hg).2)
  clear h1 h2 hab
  go_enter Try.func50, Try.ntmps50
  go_wp2_with fail
  refine (markStringS_c a L1 B 1 _ (H1.out _ ((Grew.refl w).alloc _)) (by omega) (by omega) hn1).mono ?_
  rintro e w1 ⟨rfl, ho1, hn1'⟩
  have hr1 := row_of ho1 hn1'
  have hb1 := hr1.block w.heap.size (by simp) (fun h => by have := HL1.out _ h.symm; omega)
  have c1 : w1.cell? ⟨w.heap.size, 1, none⟩ = some b := by
    rw [blk_cell (hb1.trans (blk_new w _))]
    rfl
  have hr1' : w.grownBy w1 a.ownBlock := (((Grew.refl w).alloc _).by_ _).trans hr1
  have H2' := Lib.hid (own_row H2.out hr1' HN.out)
  have HR1 := Lib.hid hr1'
  clear ho1 hn1' hr1 hb1 hr1'
  go_wp2_with fail
  refine (markStringS_c b L2 B (1 + L1.length) _ H2'.out (by omega) (by omega) hn2).mono ?_
  rintro e w2 ⟨rfl, ho2, hn2'⟩
  have HR2 := Lib.hid (row_of ho2 hn2')
  clear ho2 hn2'
  go_wp2_with fail
  go_ret
  refine ⟨rfl, Nat.le_trans HR1.out.size HR2.out.size, fun B' e k n v xs hv hne => ?_, fun W hW hg => ?_⟩
  · obtain ⟨n1, n2⟩ := HG.out B' e k n v xs hv hne
    exact own_row (own_row hv HR1.out n1) HR2.out n2
  · exact grew_row (grew_row hg HR1.out fun g h => Nat.le_trans hW (HB1.out g h)) HR2.out fun g h => Nat.le_trans hW (HB2.out g h)
end Go.Proofs.Ytpbaiadaanpllaa

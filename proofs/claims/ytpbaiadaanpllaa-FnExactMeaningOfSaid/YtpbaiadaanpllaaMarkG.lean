/- The laws' marks on a list of strings, in the form that the walks use: rows of other kinds stay, older worlds have not changed. -/
import Derived.Test.YtpbaiadaanpllaaMarkS
namespace Go.Proofs.Ytpbaiadaanpllaa
open Go.RowKit

theorem own_row {w w' : World} {B : Nat} {e : TypeId} {k n : Nat} {v : Value} {xs : List Value} {row : Option Nat} (h : w.ownsRow B e k v n xs) (hg : w.grownBy w' row) (hne : ∀ g, row = some g → v.ownBlock ≠ some g) : w'.ownsRow B e k v n xs := by
  cases row with
  | none => exact own_grew h ⟨hg.os, hg.tape, hg.output, hg.size, fun i hi => hg.block i hi (by simp)⟩
  | some g => exact own_only h (show Only g w w' from hg) (hne g rfl)
theorem grew_row {W w w' : World} {row : Option Nat} (h : Grew W w) (hg : w.grownBy w' row) (hne : ∀ g, row = some g → W.heap.size ≤ g) : Grew W w' := h.grown hg hne
theorem row_of {w w' : World} {v : Value} (h1 : ∀ g, v.ownBlock = some g → Only g w w') (h2 : v.ownBlock = none → Grew w w') : w.grownBy w' v.ownBlock := by
  cases hv : v.ownBlock with
  | none => exact (h2 hv).by_ _
  | some g => exact h1 g hv
/-- What a mark on a row of type t from block B on leaves. -/
def Marked (t : TypeId) (B : Nat) (w w' : World) : Prop :=
  (∀ B' e k n v xs, w.ownsRow B' e k v n xs → e ≠ t → w'.ownsRow B' e k v n xs) ∧ (∀ W, W.heap.size ≤ B → Grew W w → Grew W w')
theorem markStringS_g (v : Value) (L : List ByteArray) (B : Nat) (k : Int) (w : World) (h : OwnS w B v L) (hk0 : 0 ≤ k) (hk : k ≤ 1099511627776) (hn : L.length ≤ 1048576) :
    Calls Try.prog 53 #[v, .int .i64 k] w fun e w' => e = .returned (.int .i64 (k + L.length)) ∧ Marked 9 B w w' := by
  refine (markStringS_c v L B k w h hk0 hk hn).mono ?_
  rintro e w' ⟨h1, h2, h3⟩
  have hr := row_of h2 h3
  refine ⟨h1, fun B' e' k' n' u xs hu hne => own_row hu hr fun g hg => ?_, fun W hW hg => grew_row hg hr fun g hg' => Nat.le_trans hW (own_of_ge h hg')⟩
  rcases h.2 with ⟨rfl, _⟩ | ⟨g', cap, cur, rfl, _, hh, _⟩
  · simp [Value.ownBlock] at hg
  · have : g' = g := by simpa [Value.ownBlock] using hg
    subst this
    exact own_ne hu hh hne
end Go.Proofs.Ytpbaiadaanpllaa

/- A table of strings that is a package-level variable: what the row's condition gives. -/
import Derived.Test.YtpbaiadaanpllaaDoorStrs
import Derived.ProofKit
import Derived.LaidMore
import Derived.OpenShut
import Derived.Lib.LaidTab
namespace Go.Proofs.YtpbaiadaanpllaaDoor
open Go.RowKit

/-- The table as a row lists it. -/
def tabS {H : Type} (L : List ByteArray) : DataW H := .agg (L.map fun s => .lit (.string s.data.toList))

theorem cells_of_strs {H : Type} {enc : TypeId × Value → H} {P : Program} {w : World} {base : Nat} {sp : Nat → Bool} {held : Bool} {fuel : Nat} {t e : TypeId} {n : Nat} {cs : List Value} {L : List ByteArray} {p : List MemPlace}
    (ht : P.underlying t = some (.array n e)) (he : P.underlying e = some .string) (hce : P.cellsOf e = 1) (hct : P.cellsOf t = n)
    (h : DataW.trod enc P w base sp held fuel t cs = some (tabS L, p)) : cs = scells L := by
  obtain ⟨xs, m, _, hx, hl, hxl, hi⟩ := DataW.trod_array ht h
  rw [hct] at hl
  simp only [tabS, Prod.mk.injEq, DataW.agg.injEq] at hx
  have hLn : L.length = n := by
    have := congrArg List.length hx.1
    simp only [List.length_map] at this
    omega
  apply List.ext_getElem?
  intro i
  by_cases h1 : i < n
  · have hk := hi i h1
    rw [hce, Nat.mul_one] at hk
    have hxi : xs[i]? = some xs[i] := List.getElem?_eq_getElem (by omega)
    rw [hxi] at hk
    obtain ⟨s, hc, hs, _⟩ := DataW.trod_string he hk
    have h2 : cs[i]? = some (.string s) := by
      have := congrArg (·[0]?) hc
      simpa [List.getElem?_take, List.getElem?_drop] using this
    have h3 := congrArg (·[i]?) hx.1
    simp only [List.getElem?_map, hxi, Option.map_some, hs] at h3
    have h4 : L[i]? = some L[i] := List.getElem?_eq_getElem (by omega)
    rw [h4] at h3
    simp only [Option.map_some, Option.some.injEq, DataW.lit.injEq, Lit.string.injEq] at h3
    have h5 : L[i] = s := by
      apply ByteArray.ext
      apply Array.ext'
      exact h3
    rw [h2, scells, List.getElem?_map, h4, Option.map_some, h5]
  · rw [List.getElem?_eq_none (by omega), List.getElem?_eq_none (by rw [scells_length]; omega)]

/-- Block g holds the table, none of it frozen. -/
def TabAt (w : World) (g : Nat) (L : List ByteArray) : Prop := ∃ t, w.heap[g]? = some (.cells (scells L).toArray t (0, 0))
theorem TabAt.grew {w w' : World} {g : Nat} {L : List ByteArray} (h : TabAt w g L) (hg : Grew w w') : TabAt w' g L := by
  obtain ⟨t, h⟩ := h
  exact ⟨t, (hg.block (blk_lt h)).trans h⟩
theorem TabAt.lt {w : World} {g : Nat} {L : List ByteArray} (h : TabAt w g L) : g < w.heap.size := by
  obtain ⟨t, h⟩ := h
  exact blk_lt h
theorem TabAt.cell {w : World} {g : Nat} {L : List ByteArray} (h : TabAt w g L) {i : Nat} (hi : i < L.length) : w.cell? ⟨g, i, none⟩ = some (.string (st L i)) := by
  obtain ⟨t, h⟩ := h
  rw [blk_cell h]
  have := scells_at hi
  simpa using this
/-- What one variable of the condition gives. -/
theorem laid_tab {P : Program} {W : World} {name : String} {L : List ByteArray} {rest : List (String × DataW Unit)} {g : Nat} {t e : TypeId} {n : Nat} {ps : List MemPlace}
    (hg : P.globalNamed name = some g) (hty : (P.globals[g]?).map (·.type) = some t) (ht : P.underlying t = some (.array n e)) (he : P.underlying e = some .string) (hce : P.cellsOf e = 1) (hct : P.cellsOf t = n) (hn : 0 < L.length)
    (h : DataW.LaidVars P W ((name, tabS L) :: rest) ps) (hcell : ∀ b off, MemPlace.cell b off ∈ ps → (∃ c t, W.heap[b]? = some (.cells c t (0, 0))) ∧ ∀ u v, W.cell? ⟨b, off, none⟩ = some (.iface u v) → Value.okWide P W .any 0 u v) :
    W.var? P name = some (scells L).toArray ∧ TabAt W g L ∧ ∃ q, DataW.LaidVars P W rest q ∧ ∀ x ∈ q, x ∈ ps := by
  obtain ⟨g', t', cs, f, p, q, hg', ht', hv, hd, hr, hps⟩ := h
  obtain rfl := Option.some.inj (hg.symm.trans hg')
  obtain rfl := Option.some.inj (hty.symm.trans ht')
  have hc := cells_of_strs ht he hce hct hd
  have hcs : cs = (scells L).toArray := by apply Array.ext'; simpa using hc
  subst hcs
  refine ⟨hv, ?_, q, hr, fun x hx => by rw [hps]; simp [hx]⟩
  have hm : MemPlace.cell g 0 ∈ ps := by
    rw [hps]
    apply List.mem_append_left
    apply List.mem_append_left
    rw [MemPlace.mem_row]
    exact ⟨0, by simp [scells, hn], rfl⟩
  obtain ⟨⟨c, t2, hb⟩, _⟩ := hcell g 0 hm
  simp only [World.var?, hg, Option.bind_some, hb, Option.some.injEq] at hv
  exact ⟨t2, by rw [hb, hv]⟩
end Go.Proofs.YtpbaiadaanpllaaDoor

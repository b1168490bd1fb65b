/- An argument that is a list of nodes. -/
import Derived.Test.YtpbaiadaanpllaaDoorNdLaw
import Derived.Deep.SlicePairs
import Derived.Lib.SmallJoins
import Derived.Carry
import Derived.ProofKit
namespace Go.Proofs.YtpbaiadaanpllaaDoor
open Go.RowKit
open Fm (Nd)

theorem cellN_lt {w : World} {a : Addr} {u : Value} (h : w.cell? a = some u) : a.block < w.heap.size := by
  unfold World.cell? at h
  split at h
  · rename_i hh
    exact (Array.getElem?_eq_some_iff.1 hh).1
  · cases h

theorem argN_of_trod {H : Type} {enc : TypeId × Value → H} {P : Program} {W : World} {sp : Nat → Bool} {held : Bool} {n : Nat} {t e : TypeId} {f0 f1 : Field} {v : Value} {y : DataW H × List MemPlace}
    (ht : P.underlying t = some (.slice e)) (he : P.underlying e = some (.struct #[f0, f1])) (ce : P.cellsOf e = 2) (o0 : f0.offset = 0) (o1 : f1.offset = 1) (c0 : P.cellsOf f0.type = 1) (c1 : P.cellsOf f1.type = 1)
    (u0 : P.underlying f0.type = some (.int .i64)) (u1 : P.underlying f1.type = some (.int .i64)) (h : DataW.trod enc P W 0 sp held n t [v] = some y) : ∃ xs, ArgN W v xs := by
  rcases Go.Deep.open_slice_pairs ht he ce o0 o1 c0 c1 h with ⟨hv, _⟩ | ⟨a, len, cap, m, k, V0, V1, D0, D1, P0, P1, hv, _, hl, hm, hmm, _, hcell⟩
  · obtain rfl : v = .slice none 0 0 := by simpa using hv
    exact ⟨[], ⟨none, 0, rfl, by simp⟩, fun h => absurd h (by simp)⟩
  · obtain rfl : v = .slice (some a) len cap := by simpa using hv
    have hlm : len ≤ m := by rw [hmm]; split <;> omega
    have hmax : maxLen = 9223372036854775807 := by decide
    rw [hmax] at hm
    have each : ∀ i, i < len → ∃ q : Int × Int, V0 i = .int .i64 q.1 ∧ V1 i = .int .i64 q.2 := fun i hi => by
      obtain ⟨_, _, t0, t1⟩ := hcell i (by omega)
      obtain ⟨x, hx, _⟩ := DataW.trod_int u0 t0
      obtain ⟨z, hz, _⟩ := DataW.trod_int u1 t1
      exact ⟨(x, z), by simpa using hx, by simpa using hz⟩
    obtain ⟨q, hq⟩ := Go.Deep.choose_lt each
    have hlen : ((List.range len).map q).length = len := by simp
    refine ⟨(List.range len).map q, ⟨some a, cap, by rw [hlen], by rw [hlen]; omega⟩, fun hp => ?_⟩
    rw [hlen] at hp
    obtain ⟨b, off, spot⟩ := a
    have h0 := (hcell 0 (by omega)).1
    have hspot : spot = none := by simpa [Addr.add] using World.cell?_spot h0
    subst hspot
    have hb := cellN_lt h0
    have hadd : ∀ i, (⟨b, off, none⟩ : Addr).add i = ⟨b, off + i, none⟩ := fun i => by
      unfold Addr.add
      split
      · subst_vars; rfl
      · rfl
    rw [hadd] at hb
    unfold Nodes Rd
    rw [hlen]
    refine ⟨by rw [cells_length, hlen], by omega, .inr ⟨b, off, cap, rfl, hl, hm, hb, fun j u hu => ?_⟩⟩
    have hj : j < len * 2 := by
      have := (List.getElem?_eq_some_iff.1 hu).1
      rw [cells_length, hlen] at this
      exact this
    have hi : j / 2 < len := by omega
    obtain ⟨e0, e1, _⟩ := hcell (j / 2) (by omega)
    rw [hadd, (hq _ hi).1] at e0
    rw [hadd, (hq _ hi).2] at e1
    obtain ⟨k0, k1⟩ := cells_at ((List.range len).map q) (j / 2) (by rw [hlen]; exact hi)
    have hk0 : kd ((List.range len).map q) (j / 2) = (q (j / 2)).1 := by simp [kd, List.getD, hi]
    have hk1 : sy ((List.range len).map q) (j / 2) = (q (j / 2)).2 := by simp [sy, List.getD, hi]
    rw [hk0] at k0
    rw [hk1] at k1
    have hd := Nat.div_add_mod j 2
    rcases Nat.mod_two_eq_zero_or_one j with hmo | hmo
    · have e : j = j / 2 * 2 := by omega
      rw [e] at hu ⊢
      rw [k0] at hu
      rw [← hu]
      exact e0
    · have e : j = j / 2 * 2 + 1 := by omega
      rw [e] at hu ⊢
      rw [k1] at hu
      rw [← hu]
      exact e1
end Go.Proofs.YtpbaiadaanpllaaDoor

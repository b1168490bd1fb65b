/- An argument that is a list of nodes of terms. -/
import Derived.Test.YthofkdpmgjkgkaaGreatTmLaw
import Derived.Deep.SlicePairs
import Derived.Lib.SmallJoins
import Derived.Carry
import Derived.ProofKit
namespace Go.Proofs.YthofkdpmgjkgkaaGreat
open Go.RowKit

theorem cellT_lt {w : World} {a : Addr} {u : Value} (h : w.cell? a = some u) : a.block < w.heap.size := by
  unfold World.cell? at h
  split at h
  · rename_i hh
    exact (Array.getElem?_eq_some_iff.1 hh).1
  · cases h

theorem argT_of_trod {H : Type} {enc : TypeId × Value → H} {P : Program} {W : World} {sp : Nat → Bool} {held : Bool} {n : Nat} {t e : TypeId} {f0 f1 f2 : Field} {v : Value} {y : DataW H × List MemPlace}
    (ht : P.underlying t = some (.slice e)) (he : P.underlying e = some (.struct #[f0, f1, f2])) (ce : P.cellsOf e = 3) (o0 : f0.offset = 0) (o1 : f1.offset = 1) (o2 : f2.offset = 2) (c0 : P.cellsOf f0.type = 1) (c1 : P.cellsOf f1.type = 1) (c2 : P.cellsOf f2.type = 1)
    (u0 : P.underlying f0.type = some (.int .i64)) (u1 : P.underlying f1.type = some (.int .i64)) (u2 : P.underlying f2.type = some .string) (h : DataW.trod enc P W 0 sp held n t [v] = some y) : ∃ xs, ArgT W v xs := by
  rcases Go.Deep.open_slice ht h with ⟨hv, _⟩ | ⟨a, len, cap, m, k, D, Pl, hv, _, hl, hm, hmm, _, hcell⟩
  · obtain rfl : v = .slice none 0 0 := by simpa using hv
    exact ⟨[], ⟨none, 0, rfl, by simp⟩, fun h => absurd h (by simp), fun i hi => absurd hi (by simp)⟩
  · obtain rfl : v = .slice (some a) len cap := by simpa using hv
    have hlm : len ≤ m := by rw [hmm]; split <;> omega
    have hmax : maxLen = 9223372036854775807 := by decide
    rw [hmax] at hm
    have each : ∀ i, i < len → ∃ q : Tn, W.cell? (a.add (i * 3)) = some (.int .i64 q.1) ∧ W.cell? (a.add (i * 3 + 1)) = some (.int .i64 q.2.1) ∧ W.cell? (a.add (i * 3 + 2)) = some (.string q.2.2) ∧ q.2.2.size ≤ maxLen := fun i hi => by
      obtain ⟨cs', h1, h2⟩ := hcell i (by omega)
      rw [ce] at h1
      obtain ⟨_, hlen, hc⟩ := World.cells?_some h1
      obtain ⟨xs, k', hk, hxy, _, hxl, hf⟩ := DataW.trod_struct he h2
      match xs, hxl, cs', hlen with
      | [y0, y1, y2], _, [v0, v1, v2], _ =>
        have g0 := hf 0 f0 rfl
        have g1 := hf 1 f1 rfl
        have g2 := hf 2 f2 rfl
        simp [o0, o1, o2, c0, c1, c2] at g0 g1 g2
        have e0 := hc 0 (by omega)
        have e1 := hc 1 (by omega)
        have e2 := hc 2 (by omega)
        rw [Go.Deep.add_add] at e0 e1 e2
        obtain ⟨x, hx, _⟩ := DataW.trod_int u0 g0
        obtain ⟨z, hz, _⟩ := DataW.trod_int u1 g1
        obtain ⟨s, hs, _, hsz⟩ := DataW.trod_string u2 g2
        obtain rfl : v0 = .int .i64 x := by simpa using hx
        obtain rfl : v1 = .int .i64 z := by simpa using hz
        obtain rfl : v2 = .string s := by simpa using hs
        exact ⟨(x, z, s), by simpa using e0, by simpa using e1, by simpa using e2, hsz⟩
    obtain ⟨q, hq⟩ := Go.Deep.choose_lt each
    have hlen : ((List.range len).map q).length = len := by simp
    have hk0 : ∀ i, i < len → tk ((List.range len).map q) i = (q i).1 := fun i hi => by simp [tk, List.getD, hi]
    have hk1 : ∀ i, i < len → tn ((List.range len).map q) i = (q i).2.1 := fun i hi => by simp [tn, List.getD, hi]
    have hk2 : ∀ i, i < len → tt ((List.range len).map q) i = (q i).2.2 := fun i hi => by simp [tt, List.getD, hi]
    refine ⟨(List.range len).map q, ⟨some a, cap, by rw [hlen], by rw [hlen]; omega⟩, fun hp => ?_, fun i hi => ?_⟩
    · rw [hlen] at hp
      obtain ⟨b, off, spot⟩ := a
      have h0 := (hq 0 (by omega)).1
      have hspot : spot = none := by simpa [Addr.add] using World.cell?_spot h0
      subst hspot
      have hb := cellT_lt h0
      have hadd : ∀ i, (⟨b, off, none⟩ : Addr).add i = ⟨b, off + i, none⟩ := fun i => by
        unfold Addr.add
        split
        · subst_vars; rfl
        · rfl
      rw [hadd] at hb
      unfold Tms Rd
      rw [hlen]
      refine ⟨by rw [tcells_length, hlen], by omega, .inr ⟨b, off, cap, rfl, hl, hm, hb, fun j u hu => ?_⟩⟩
      have hj : j < len * 3 := by
        have := (List.getElem?_eq_some_iff.1 hu).1
        rw [tcells_length, hlen] at this
        exact this
      have hi : j / 3 < len := by omega
      obtain ⟨e0, e1, e2, _⟩ := hq (j / 3) hi
      rw [hadd] at e0 e1 e2
      obtain ⟨k0, k1, k2⟩ := tcells_at ((List.range len).map q) (j / 3) (by rw [hlen]; exact hi)
      rw [hk0 _ hi] at k0
      rw [hk1 _ hi] at k1
      rw [hk2 _ hi] at k2
      have hd := Nat.div_add_mod j 3
      have hmo : j % 3 = 0 ∨ j % 3 = 1 ∨ j % 3 = 2 := by omega
      rcases hmo with hmo | hmo | hmo
      · have e : j = j / 3 * 3 := by omega
        rw [e] at hu ⊢
        rw [k0] at hu
        rw [← hu]
        exact e0
      · have e : j = j / 3 * 3 + 1 := by omega
        rw [e] at hu ⊢
        rw [k1] at hu
        rw [← hu]
        exact e1
      · have e : j = j / 3 * 3 + 2 := by omega
        rw [e] at hu ⊢
        rw [k2] at hu
        rw [← hu]
        exact e2
    · rw [hlen] at hi
      rw [hk2 i hi, ← hmax]
      exact (hq i hi).2.2.2
end Go.Proofs.YthofkdpmgjkgkaaGreat

/- Texts in one file: ArgDd. -/
import Derived.Deep.SlicePairs
import Derived.Lib.SmallJoins
import Derived.Carry
import Derived.ProofKit
import Derived.Test.YtofeeenjlaljpaaGreatPb1
import Derived.Test.YtofeeenjlaljpaaGreatPb2
import Derived.Test.YtofeeenjlaljpaaGreatPb3
import Derived.Test.YtofeeenjlaljpaaGreatPb4
import Derived.Test.YtofeeenjlaljpaaGreatPb5
set_option linter.all false

/- An argument that is a list of Deductions. -/
namespace Go.Proofs.YtofeeenjlaljpaaGreat
open Go.RowKit


theorem argDd_of_trod {H : Type} {enc : TypeId × Value → H} {P : Program} {W : World} {sp : Nat → Bool} {held : Bool} {n : Nat} {t e ei es : TypeId} {f0 f1 f2 f3 f4 : Field} {v : Value} {y : DataW H × List MemPlace}
    (ht : P.underlying t = some (.slice e)) (he : P.underlying e = some (.struct #[f0, f1, f2, f3, f4])) (ce : P.cellsOf e = 5) (o0 : f0.offset = 0) (o1 : f1.offset = 1) (o2 : f2.offset = 2) (o3 : f3.offset = 3) (o4 : f4.offset = 4)
    (c0 : P.cellsOf f0.type = 1) (c1 : P.cellsOf f1.type = 1) (c2 : P.cellsOf f2.type = 1) (c3 : P.cellsOf f3.type = 1) (c4 : P.cellsOf f4.type = 1)
    (u0 : P.underlying f0.type = some (.int .i64)) (u1 : P.underlying f1.type = some (.slice ei)) (u2 : P.underlying f2.type = some (.slice es)) (u3 : P.underlying f3.type = some .string) (u4 : P.underlying f4.type = some (.int .i64))
    (ui : P.underlying ei = some (.int .i64)) (ci : P.cellsOf ei = 1) (us : P.underlying es = some .string) (cs : P.cellsOf es = 1) (h : DataW.trod enc P W 0 sp held n t [v] = some y) : ∃ xs, ArgDd W v xs := by
  rcases Go.Deep.open_slice ht h with ⟨hv, _⟩ | ⟨a, len, cap, m, k, D, Pl, hv, _, hl, hm, hmm, _, hcell⟩
  · obtain rfl : v = .slice none 0 0 := by simpa using hv
    exact ⟨[], ⟨none, 0, rfl, by simp⟩, fun h => absurd h (by simp), fun x hx => absurd hx (by simp)⟩
  · obtain rfl : v = .slice (some a) len cap := by simpa using hv
    have hlm : len ≤ m := by rw [hmm]; split <;> omega
    have hmax : maxLen = 9223372036854775807 := by decide
    rw [hmax] at hm
    have each : ∀ i, i < len → ∃ q : (Value × Value) × Dd, W.cell? (a.add (i * 5)) = some (.int .i64 q.2.1) ∧ W.cell? (a.add (i * 5 + 1)) = some q.1.1 ∧ W.cell? (a.add (i * 5 + 2)) = some q.1.2 ∧ W.cell? (a.add (i * 5 + 3)) = some (.string q.2.2.2.2.1) ∧ W.cell? (a.add (i * 5 + 4)) = some (.int .i64 q.2.2.2.2.2) ∧ ArgI W q.1.1 q.2.2.1 ∧ ArgS W q.1.2 q.2.2.2.1 ∧ q.2.2.2.2.1.size ≤ maxLen := fun i hi => by
      obtain ⟨cs', h1, h2⟩ := hcell i (by omega)
      rw [ce] at h1
      obtain ⟨_, hlen, hc⟩ := World.cells?_some h1
      obtain ⟨xs, k', hk, hxy, _, hxl, hf⟩ := DataW.trod_struct he h2
      match xs, hxl, cs', hlen with
      | [y0, y1, y2, y3, y4], _, [v0, v1, v2, v3, v4], _ =>
        have g0 := hf 0 f0 rfl
        have g1 := hf 1 f1 rfl
        have g2 := hf 2 f2 rfl
        have g3 := hf 3 f3 rfl
        have g4 := hf 4 f4 rfl
        simp [o0, o1, o2, o3, o4, c0, c1, c2, c3, c4] at g0 g1 g2 g3 g4
        have e0 := hc 0 (by omega)
        have e1 := hc 1 (by omega)
        have e2 := hc 2 (by omega)
        have e3 := hc 3 (by omega)
        have e4 := hc 4 (by omega)
        rw [Go.Deep.add_add] at e0 e1 e2 e3 e4
        obtain ⟨x, hx, _⟩ := DataW.trod_int u0 g0
        obtain ⟨L1, hL1⟩ := argI_of_trod u1 ui ci g1
        obtain ⟨L2, hL2⟩ := argS_of_trod u2 us cs g2
        obtain ⟨s, hs, _, hsz⟩ := DataW.trod_string u3 g3
        obtain ⟨z, hz, _⟩ := DataW.trod_int u4 g4
        obtain rfl : v0 = .int .i64 x := by simpa using hx
        obtain rfl : v3 = .string s := by simpa using hs
        obtain rfl : v4 = .int .i64 z := by simpa using hz
        exact ⟨((v1, v2), (x, L1, L2, s, z)), by simpa using e0, by simpa using e1, by simpa using e2, by simpa using e3, by simpa using e4, hL1, hL2, hsz⟩
    obtain ⟨q, hq⟩ := Go.Deep.choose_lt each
    have hlen : ((List.range len).map fun i => (q i).2).length = len := by simp
    refine ⟨(List.range len).map fun i => (q i).2, ⟨some a, cap, by rw [hlen], by rw [hlen]; omega⟩, fun hp => ?_, fun x hx => ?_⟩
    · rw [hlen] at hp
      obtain ⟨b, off, spot⟩ := a
      have h0 := (hq 0 (by omega)).1
      have hspot : spot = none := by simpa [Addr.add] using World.cell?_spot h0
      subst hspot
      have hb := cell_lt h0
      have hadd : ∀ i, (⟨b, off, none⟩ : Addr).add i = ⟨b, off + i, none⟩ := fun i => by
        unfold Addr.add
        split
        · subst_vars; rfl
        · rfl
      rw [hadd] at hb
      refine .inr ⟨b, off, cap, by rw [hlen], by rw [hlen]; exact hl, hm, hb, fun i x hx => ?_⟩
      have hi : i < len := by
        have := (List.getElem?_eq_some_iff.1 hx).1
        rw [hlen] at this
        exact this
      have hxe : x = (q i).2 := by
        rw [List.getElem?_map, List.getElem?_range hi] at hx
        simp at hx
        exact hx.symm
      subst hxe
      obtain ⟨e0, e1, e2, e3, e4, e5, e6, _⟩ := hq i hi
      rw [hadd] at e0 e1 e2 e3 e4
      exact ⟨_, _, ⟨e0, by rw [← e1, Nat.add_assoc], by rw [← e2, Nat.add_assoc], by rw [← e3, Nat.add_assoc], by rw [← e4, Nat.add_assoc]⟩, e5, e6⟩
    · rw [List.mem_map] at hx
      obtain ⟨i, hi, rfl⟩ := hx
      rw [← hmax]
      exact (hq i (by simpa using hi)).2.2.2.2.2.2.2
end Go.Proofs.YtofeeenjlaljpaaGreat

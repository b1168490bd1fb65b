/- The first place of a text in a list. -/
import Derived.Test.YtpbaiadaanpllaaDoorStrs
namespace Go.Proofs.YtpbaiadaanpllaaDoor
open Go.RowKit

/-- The first place at which the text stands, or -1. -/
def findS (L : List ByteArray) (s : ByteArray) : Int := match L.findIdx? (fun x => x.toList == s.toList) with
  | some i => i
  | none => -1
/-- The text does not stand among the first k. -/
def NotIn (L : List ByteArray) (s : ByteArray) (k : Nat) : Prop := ∀ i, i < k → ((st L i).toList == s.toList) = false
theorem NotIn.zero (L : List ByteArray) (s : ByteArray) : NotIn L s 0 := fun i hi => absurd hi (by omega)
theorem NotIn.succ {L : List ByteArray} {s : ByteArray} {k : Nat} (h : NotIn L s k) (h1 : ((st L k).toList == s.toList) = false) : NotIn L s (k + 1) := by
  intro i hi
  rcases Nat.lt_or_ge i k with hk | hk
  · exact h i hk
  · obtain rfl : i = k := by omega
    exact h1
theorem findS_at {L : List ByteArray} {s : ByteArray} {k : Nat} (hk : k < L.length) (h : NotIn L s k) (h1 : ((st L k).toList == s.toList) = true) : findS L s = (k : Int) := by
  have : L.findIdx? (fun x => x.toList == s.toList) = some k := by
    rw [List.findIdx?_eq_some_iff_getElem]
    refine ⟨hk, by rw [st_get hk]; exact h1, fun j hj => ?_⟩
    rw [st_get (by omega)]
    simpa using h j hj
  rw [findS, this]
theorem findS_none {L : List ByteArray} {s : ByteArray} (h : NotIn L s L.length) : findS L s = -1 := by
  have : L.findIdx? (fun x => x.toList == s.toList) = none := by
    rw [List.findIdx?_eq_none_iff]
    intro x hx
    obtain ⟨i, hi, rfl⟩ := List.getElem_of_mem hx
    rw [st_get hi]
    exact h i hi
  rw [findS, this]
theorem findS_range (L : List ByteArray) (s : ByteArray) : findS L s = -1 ∨ ∃ k, k < L.length ∧ findS L s = (k : Int) := by
  unfold findS
  cases h : L.findIdx? (fun x => x.toList == s.toList) with
  | none => exact .inl rfl
  | some i =>
    rw [List.findIdx?_eq_some_iff_getElem] at h
    exact .inr ⟨i, h.1, rfl⟩

theorem l09Find_c (v : Value) (L : List ByteArray) (s : ByteArray) (w : World) (h : Strs w v L) (hn : L.length ≤ 1099511627776) :
    Calls Tryd.prog 17 #[v, .string s] w fun e w' => e = .returned (.int .i64 (findS L s)) ∧ Grew w w' := by
  rcases h.open_ with ⟨rfl, rfl⟩ | ⟨b, o, c, rfl, hc, hm, hb, hf⟩
  · have hE : findS [] s = -1 := rfl
    rw [hE]
    go_enter Tryd.func17, Tryd.ntmps17
    go_wp2_with fail
    refine wp_loop_rounds 1 ?_; rw [rounds_succ]
    go_wp2_with fail
    go_ret
    exact ⟨rfl, Grew.refl _⟩
  · clear h
    obtain ⟨R, hR⟩ : ∃ R, R = findS L s := ⟨_, rfl⟩
    rw [← hR]
    have HA := Lib.hid (fun k hk h1 h2 => hR.trans (@findS_at L s k hk h1 h2))
    have HZ := Lib.hid (fun h => hR.trans (@findS_none L s h))
    have HF := Lib.hid hf
    clear hR hf
    generalize hN : L.length = n at *
    clear hN
    go_enter Tryd.func17, Tryd.ntmps17
    go_wp2_with fail
    go_loopg [5] n (fun k i wr => ∃ j : Nat, j ≤ n ∧ k = n - j ∧ i = .int .i64 j ∧ Grew w wr ∧ Hid (NotIn L s j))
    case atStart => exact ⟨0, Nat.zero_le _, by omega, rfl, Grew.refl _, NotIn.zero _ _⟩
    case round =>
      obtain ⟨j, hj, rfl, rfl, hB, HJ⟩ := hrel
      by_cases hlt : j < n
      · have k1 : ∀ W, Grew w W → W.cell? ⟨b, o + j, none⟩ = some (.string (st L j)) := fun W hW => HF.out j hlt W hW
        cases he : ((st L j).toList == s.toList) with
        | true =>
          have hv := Lib.hid (HA.out j hlt HJ.out he)
          generalize st L j = x at *
          go_wp2_with fail
          go_ret
          rw [hv.out]
          exact ⟨rfl, hB⟩
        | false =>
          have HS := Lib.hid (HJ.out.succ he)
          generalize st L j = x at *
          go_wp2_with fail
          go_roundg (n - (j + 1))
          case measure => omega
          case rel => exact ⟨j + 1, by omega, rfl, by go_num, hB, HS⟩
      · have hjn : j = n := by omega
        subst hjn
        have hv := Lib.hid (HZ.out HJ.out)
        go_wp2_with fail
        go_ret
        rw [hv.out]
        exact ⟨rfl, hB⟩
end Go.Proofs.YtpbaiadaanpllaaDoor

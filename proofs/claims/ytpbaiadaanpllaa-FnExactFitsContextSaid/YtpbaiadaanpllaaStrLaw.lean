/- The laws' own helpers on slices of strings: szStringS, toStringS, eqStringS. -/
import Derived.Test.YtpbaiadaanpllaaStrs
import Derived.Deep.RegionHeld3
import Derived.Deep.QuietTactic
import Derived.BigQuiet
import Derived.Deep.LoopGhost
import Derived.Deep.OwnRows
import Derived.Outline
namespace Go.Proofs.Ytpbaiadaanpllaa
open Go.RowKit

/-- A list of strings that came in. -/
def ArgS (w : World) (v : Value) (L : List ByteArray) : Prop :=
  (∃ A c, v = .slice A L.length c ∧ L.length ≤ 9223372036854775807) ∧ (0 < L.length → Strs w v L) ∧ ∀ i, i < L.length → (st L i).size ≤ 9223372036854775807
theorem ArgS.grew {w w' : World} {v : Value} {L : List ByteArray} (h : ArgS w v L) (hg : Grew w w') : ArgS w' v L := ⟨h.1, fun hp => (h.2.1 hp).grew hg, h.2.2⟩

/-- None of the first k is long. -/
def Small (L : List ByteArray) (k : Nat) : Prop := ∀ i, i < k → (st L i).size ≤ 1048576
theorem Small.zero (L : List ByteArray) : Small L 0 := fun i hi => absurd hi (by omega)
theorem Small.succ {L : List ByteArray} {k : Nat} (h : Small L k) (h1 : (st L k).size ≤ 1048576) : Small L (k + 1) := by
  intro i hi
  rcases Nat.lt_or_ge i k with hk | hk
  · exact h i hk
  · obtain rfl : i = k := by omega
    exact h1
/-- What the sizes' walk gives. -/
def Sizes (L : List ByteArray) (r : Int) : Prop := r ≤ 1048576 ∧ (0 ≤ r → L.length ≤ 1048576 ∧ Small L L.length)

theorem szStringS_c (v : Value) (L : List ByteArray) (left : Int) (w : World) (h : ArgS w v L) (h0 : 0 ≤ left) (h1 : left ≤ 1048576) :
    Calls Try.prog 22 #[v, .int .i64 left] w fun e w' => ∃ r : Int, e = .returned (.int .i64 r) ∧ Sizes L r ∧ Grew w w' := by
  obtain ⟨⟨A, c, rfl, hmax⟩, hS, hz⟩ := h
  by_cases hlong : left < L.length
  · clear hS hz
    go_enter Try.func22, Try.ntmps22
    go_wp2_with fail
    go_ret
    exact ⟨_, rfl, ⟨by omega, fun h => absurd h (by omega)⟩, Grew.refl _⟩
  · by_cases hp : 0 < L.length
    · rcases (hS hp).open_ with ⟨_, h2⟩ | ⟨b, o, c', hv, hc, hm, hb, hcell⟩
      · rw [h2] at hp; cases hp
      obtain ⟨rfl, rfl⟩ : A = some ⟨b, o, none⟩ ∧ c = c' := by simpa using hv
      clear hS hv
      have HE : Hid (∀ r : Int, (r ≤ 1048576 ∧ (0 ≤ r → L.length ≤ 1048576 ∧ Small L L.length)) → Sizes L r) := Lib.hid (fun _ h => h)
      have HC := Lib.hid hcell
      have HZ := Lib.hid hz
      clear hcell hz
      generalize hN : L.length = n at *
      clear hN
      go_enter Try.func22, Try.ntmps22
      go_wp2_with fail
      go_loopw [1, 5] (fun kk i wr => ∃ (j : Nat) (l : Int), j ≤ n ∧ i = .int .i64 j ∧ kk = .int .i64 l ∧ 0 ≤ l ∧ l ≤ left ∧ Grew w wr ∧ Hid (Small L j)) (fun _ i _ => n - (intOf i).toNat)
      case atStart => exact ⟨0, left - n, Nat.zero_le _, rfl, rfl, by omega, by omega, Grew.refl _, Small.zero _⟩
      case round =>
        obtain ⟨j, l, hj, rfl, rfl, hl0, hl1, hB, HJ⟩ := hrel
        by_cases hlt : j < n
        · have k1 := HC.out j hlt _ hB
          have k2 := HZ.out j hlt
          have HS := Lib.hid (fun h => HJ.out.succ (k := j) h)
          generalize st L j = x at *
          by_cases hbig : l < x.size
          · go_wp2_with fail
            go_ret
            exact ⟨_, rfl, HE.out _ ⟨by omega, fun h => absurd h (by omega)⟩, hB⟩
          · go_wp2_with fail
            go_roundw
            case rel => exact ⟨j + 1, l - x.size, by omega, by go_num, rfl, by omega, by omega, hB, HS.out (by omega)⟩
            case measure => simp [intOf]; omega
        · obtain rfl : j = n := by omega
          go_wp2_with fail
          go_ret
          exact ⟨_, rfl, HE.out _ ⟨by omega, fun _ => ⟨by omega, HJ.out⟩⟩, hB⟩
    · obtain rfl : L = [] := List.eq_nil_of_length_eq_zero (by omega)
      simp only [List.length_nil] at *
      go_enter Try.func22, Try.ntmps22
      go_wp2_with fail
      refine wp_loop_rounds 1 ?_; rw [rounds_succ]
      go_wp2_with fail
      go_ret
      exact ⟨_, rfl, ⟨by omega, fun _ => ⟨by simp, fun i hi => absurd hi (by simp)⟩⟩, Grew.refl _⟩

theorem one_step {cur : Array Value} {F : Nat → Value} {j : Nat} (hs : j < cur.size) (h : ∀ i, i < j → cur[i]? = some (F i)) :
    ∀ i, i < j + 1 → (cur.setIfInBounds j (F j))[i]? = some (F i) := by
  intro i hi
  simp only [Array.getElem?_setIfInBounds]
  rcases Nat.lt_or_ge i j with hk | hk
  · rw [if_neg (by omega)]
    exact h i hk
  · obtain rfl : i = j := by omega
    rw [if_pos rfl, if_pos hs]

theorem toStringS_c (v : Value) (L : List ByteArray) (w : World) (h : ArgS w v L) (hn : L.length ≤ 1048576) :
    Calls Try.prog 24 #[v] w (GivesS w L) := by
  obtain ⟨⟨A, c, rfl, hmax⟩, hS, _⟩ := h
  have hmk := run_make_row' (P := Try.prog) 28 9 (.string ByteArray.empty) 16 Try.underlying28 Try.infoStr rfl .i64 .i64 L.length (by omega) (by omega)
  have hend : ∀ cur w', w'.heap[w.heap.size]? = some (.cells cur 9 (0, 0)) → cur.size = L.length → (∀ i, i < L.length → cur[i]? = some (.string (st L i))) → OwnS w' w.heap.size (.slice (some ⟨w.heap.size, 0, none⟩) L.length L.length) L :=
    fun cur w' h1 h2 h3 => OwnS.mk_ (Nat.le_refl _) h1 (Nat.le_refl _) (by omega) h2 h3
  have HE := Lib.hid hend
  clear hend
  have hsz : (madeCells #[Value.string ByteArray.empty] L.length).size = L.length := by simp [madeCells]
  have hnew := blk_new w (.cells (madeCells #[Value.string ByteArray.empty] L.length) 9)
  have hal := (Grew.refl w).alloc (.cells (madeCells #[Value.string ByteArray.empty] L.length) 9)
  generalize madeCells #[Value.string ByteArray.empty] L.length = cur0 at *
  by_cases hp : 0 < L.length
  · rcases (hS hp).open_ with ⟨_, h2⟩ | ⟨b, o, c', hv, hc, hm, hb, hcell⟩
    · rw [h2] at hp; cases hp
    obtain ⟨rfl, rfl⟩ : A = some ⟨b, o, none⟩ ∧ c = c' := by simpa using hv
    clear hS hv
    have HC := Lib.hid hcell
    clear hcell
    generalize hN : L.length = n at *
    clear hN
    have HNEW := Lib.hid hnew
    clear hnew
    have HAL := Lib.hid hal
    clear hal
    go_enter Try.func24, Try.ntmps24
    go_wp2_with fail
    go_loopw [4] (fun i wr => ∃ (j : Nat) (cur : Array Value), j ≤ n ∧ i = .int .i64 j ∧ wr.heap[w.heap.size]? = some (.cells cur 9 (0, 0)) ∧ cur.size = n ∧ Grew w wr ∧ (∀ i, i < j → cur[i]? = some (.string (st L i)))) (fun i _ => n - (intOf i).toNat)
    case atStart => exact ⟨0, cur0, Nat.zero_le _, rfl, HNEW.out, hsz, HAL.out, fun i hi => absurd hi (by omega)⟩
    case round =>
      obtain ⟨j, cur, hj, rfl, hh, hcs, hB, hc2⟩ := hrel
      have HD := Lib.hid hc2
      clear hc2
      by_cases hlt : j < n
      · have k1 := HC.out j hlt _ hB
        have HS := Lib.hid (one_step (F := fun i => .string (st L i)) (j := j) (by omega) HD.out)
        have f1 : ∀ i, wr.frozen? ⟨w.heap.size, i, none⟩ = false := fun i => by simp [World.frozen?, hh]
        obtain ⟨u1, hu1⟩ : ∃ u, wr.cell? ⟨w.heap.size, 0 + j, none⟩ = some u := by
          rw [cell_of_row wr w.heap.size _ cur _ (0, 0) hh]
          exact ⟨_, Array.getElem?_eq_getElem (by omega)⟩
        simp only [Nat.zero_add] at hu1
        have HH := Lib.hid hh
        clear hh
        generalize st L j = x at *
        go_wp2_with fail
        go_roundw
        case rel => exact ⟨j + 1, _, by omega, by go_num, blk_set HH.out _ _, by simp [hcs], hB.setCell (Nat.le_refl _) _, HS.out⟩
        case measure => simp [intOf]; omega
      · obtain rfl : j = n := by omega
        have HH := Lib.hid hh
        clear hh
        go_wp2_with fail
        go_ret
        exact ⟨_, rfl, HE.out _ _ HH.out hcs HD.out, hB⟩
  · have hp0 : L.length ≤ 0 := by omega
    have HNEW := Lib.hid hnew
    clear hnew hS hp
    have HAL := Lib.hid hal
    clear hal
    generalize hN : L.length = n at *
    clear hN
    go_enter Try.func24, Try.ntmps24
    go_wp2_with fail
    refine wp_loop_rounds 1 ?_; rw [rounds_succ]
    go_wp2_with fail
    go_ret
    exact ⟨_, rfl, HE.out _ _ HNEW.out hsz (fun i hi => absurd hi (by omega)), HAL.out⟩

/-- Two lists of strings that are equal. -/
theorem eqStringS_yes (v1 v2 : Value) (L : List ByteArray) (w : World) (h1 : Strs w v1 L) (h2 : Strs w v2 L) (hn : L.length ≤ 1099511627776) :
    Calls Try.prog 26 #[v1, v2] w fun e w' => e = .returned (.bool true) ∧ Grew w w' := by
  rcases h1.open_ with ⟨rfl, rfl⟩ | ⟨b1, o1, c1, rfl, hc1, hm1, hb1, hf⟩
  · obtain ⟨A, c, rfl⟩ := strs_slice h2
    go_enter Try.func26, Try.ntmps26
    go_wp2_with fail
    refine wp_loop_rounds 1 ?_; rw [rounds_succ]
    go_wp2_with fail
    go_ret
    exact ⟨rfl, Grew.refl _⟩
  · rcases h2.open_ with ⟨rfl, rfl⟩ | ⟨b2, o2, c2, rfl, hc2, hm2, hb2, hh⟩
    · go_enter Try.func26, Try.ntmps26
      go_wp2_with fail
      refine wp_loop_rounds 1 ?_; rw [rounds_succ]
      go_wp2_with fail
      go_ret
      exact ⟨rfl, Grew.refl _⟩
    · clear h1 h2
      have HF := Lib.hid hf
      have HH := Lib.hid hh
      clear hf hh
      generalize hN : L.length = n at *
      clear hN
      go_enter Try.func26, Try.ntmps26
      go_wp2_with fail
      go_loopw [5] (fun i wr => ∃ j : Nat, j ≤ n ∧ i = .int .i64 j ∧ Grew w wr) (fun i _ => n - (intOf i).toNat)
      case atStart => exact ⟨0, Nat.zero_le _, rfl, Grew.refl _⟩
      case round =>
        obtain ⟨j, hj, rfl, hB⟩ := hrel
        by_cases hlt : j < n
        · have k1 : ∀ W, Grew w W → W.cell? ⟨b1, o1 + j, none⟩ = some (.string (st L j)) := fun W hW => HF.out j hlt W hW
          have k2 : ∀ W, Grew w W → W.cell? ⟨b2, o2 + j, none⟩ = some (.string (st L j)) := fun W hW => HH.out j hlt W hW
          have k3 := k1 _ hB
          have k4 := k2 _ hB
          generalize st L j = x at *
          have hx : (x.toList != x.toList) = false := by simp
          go_wp2_with fail
          go_quiet (fail)
          go_wp2_with fail
          go_roundw
          case rel => exact ⟨j + 1, by omega, by go_num, by first | assumption | exact hB.drewN _⟩
          case measure => simp [intOf]; omega
        · go_wp2_with fail
          go_ret
          exact ⟨rfl, by assumption⟩
end Go.Proofs.Ytpbaiadaanpllaa

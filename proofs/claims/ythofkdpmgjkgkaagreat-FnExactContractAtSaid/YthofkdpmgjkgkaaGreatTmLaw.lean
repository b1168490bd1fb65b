/- The laws' own helpers on slices of the nodes of terms: szTermNodeS, toTermNodeS, eqTermNodeS. -/
import Derived.Test.YthofkdpmgjkgkaaGreatTm
import Derived.Test.YthofkdpmgjkgkaaGreatMake
import Derived.Deep.RegionHeld3
import Derived.Deep.QuietTactic
import Derived.BigQuiet
import Derived.Deep.LoopGhost
import Derived.Deep.OwnRows
import Derived.WalkLawsBesides
import Derived.Outline
namespace Go.Proofs.YthofkdpmgjkgkaaGreat
open Go.RowKit

/-- A list of nodes that came in. -/
def ArgT (w : World) (v : Value) (xs : List Tn) : Prop :=
  (∃ A c, v = .slice A xs.length c ∧ xs.length ≤ 9223372036854775807) ∧ (0 < xs.length → Tms w v xs) ∧ ∀ i, i < xs.length → (tt xs i).size ≤ 9223372036854775807
theorem ArgT.grew {w w' : World} {v : Value} {xs : List Tn} (h : ArgT w v xs) (hg : Grew w w') : ArgT w' v xs := ⟨h.1, fun hp => (h.2.1 hp).grew hg, h.2.2⟩

/-- None of the first k types is long. -/
def SmallT (xs : List Tn) (k : Nat) : Prop := ∀ i, i < k → (tt xs i).size ≤ 1048576
theorem SmallT.zero (xs : List Tn) : SmallT xs 0 := fun i hi => absurd hi (by omega)
theorem SmallT.succ {xs : List Tn} {k : Nat} (h : SmallT xs k) (h1 : (tt xs k).size ≤ 1048576) : SmallT xs (k + 1) := by
  intro i hi
  rcases Nat.lt_or_ge i k with hk | hk
  · exact h i hk
  · obtain rfl : i = k := by omega
    exact h1
/-- What the sizes' walk gives. -/
def SizesT (xs : List Tn) (r : Int) : Prop := r ≤ 1048576 ∧ (0 ≤ r → xs.length ≤ 1048576 ∧ SmallT xs xs.length)

theorem szTermNode_c (a b : Int) (s : ByteArray) (left : Int) (w : World) (hs : s.size ≤ 9223372036854775807) (h0 : 0 ≤ left) (h1 : left ≤ 1048576) :
    Calls Tryz.prog 44 #[.agg #[.int .i64 a, .int .i64 b, .string s], .int .i64 left] w fun e w' => e = .returned (.int .i64 (if left < s.size then -1 else left - s.size)) ∧ Grew w w' := by
  by_cases hb : left < s.size
  · rw [if_pos hb]
    go_enter Tryz.func44, Tryz.ntmps44
    go_wp2_with fail
    go_ret
    exact ⟨rfl, (Grew.refl _).alloc _⟩
  · rw [if_neg hb]
    go_enter Tryz.func44, Tryz.ntmps44
    go_wp2_with fail
    go_ret
    exact ⟨rfl, (Grew.refl _).alloc _⟩

theorem szTermNodeS_c (v : Value) (xs : List Tn) (left : Int) (w : World) (h : ArgT w v xs) (h0 : 0 ≤ left) (h1 : left ≤ 1048576) :
    Calls Tryz.prog 11 #[v, .int .i64 left] w fun e w' => ∃ r : Int, e = .returned (.int .i64 r) ∧ SizesT xs r ∧ Grew w w' := by
  obtain ⟨⟨A, c, rfl, hmax⟩, hS, hz⟩ := h
  by_cases hlong : left < xs.length
  · clear hS hz
    go_enter Tryz.func11, Tryz.ntmps11
    go_wp2_with fail
    go_ret
    exact ⟨_, rfl, ⟨by omega, fun h => absurd h (by omega)⟩, Grew.refl _⟩
  · by_cases hp : 0 < xs.length
    · rcases (hS hp).open_ with ⟨_, h2⟩ | ⟨b, o, c', hv, hc, hm, hb, hcell⟩
      · rw [h2] at hp; cases hp
      obtain ⟨rfl, rfl⟩ : A = some ⟨b, o, none⟩ ∧ c = c' := by simpa using hv
      clear hS hv
      have HE : Hid (∀ r : Int, (r ≤ 1048576 ∧ (0 ≤ r → xs.length ≤ 1048576 ∧ SmallT xs xs.length)) → SizesT xs r) := Lib.hid (fun _ h => h)
      have HC := Lib.hid hcell
      have HZ := Lib.hid hz
      clear hcell hz
      generalize hN : xs.length = n at *
      clear hN
      go_enter Tryz.func11, Tryz.ntmps11
      go_wp2_with fail
      go_loopw [1, 5] (fun kk i wr => ∃ (j : Nat) (l : Int), j ≤ n ∧ i = .int .i64 j ∧ kk = .int .i64 l ∧ 0 ≤ l ∧ l ≤ left ∧ Grew w wr ∧ Hid (SmallT xs j)) (fun _ i _ => n - (intOf i).toNat)
      case atStart => exact ⟨0, left - n, Nat.zero_le _, rfl, rfl, by omega, by omega, Grew.refl _, SmallT.zero _⟩
      case round =>
        obtain ⟨j, l, hj, rfl, rfl, hl0, hl1, hB, HJ⟩ := hrel
        by_cases hlt : j < n
        · have k1 := (HC.out j hlt _ hB).1
          have k2 := (HC.out j hlt _ hB).2.1
          have k3 := (HC.out j hlt _ hB).2.2
          have kz := HZ.out j hlt
          have HS := Lib.hid (fun h => HJ.out.succ (k := j) h)
          generalize tk xs j = x at *
          generalize tn xs j = y at *
          generalize tt xs j = z at *
          have HW := Lib.hid (fun W => szTermNode_c x y z l W kz hl0 (by omega))
          by_cases hbig : l < z.size
          · rw [if_pos hbig] at HW
            go_wp2_with fail
            refine (HW.out _).mono ?_
            rintro e w1 ⟨rfl, hg1⟩
            go_wp2_with fail
            go_ret
            exact ⟨_, rfl, HE.out _ ⟨by omega, fun h => absurd h (by omega)⟩, hB.trans hg1⟩
          · rw [if_neg hbig] at HW
            go_wp2_with fail
            refine (HW.out _).mono ?_
            rintro e w1 ⟨rfl, hg1⟩
            go_wp2_with fail
            go_roundw
            case rel => exact ⟨j + 1, l - z.size, by omega, by go_num, rfl, by omega, by omega, hB.trans hg1, HS.out (by omega)⟩
            case measure => simp [intOf]; omega
        · obtain rfl : j = n := by omega
          go_wp2_with fail
          go_ret
          exact ⟨_, rfl, HE.out _ ⟨by omega, fun _ => ⟨by omega, HJ.out⟩⟩, hB⟩
    · obtain rfl : xs = [] := List.eq_nil_of_length_eq_zero (by omega)
      simp only [List.length_nil] at *
      go_enter Tryz.func11, Tryz.ntmps11
      go_wp2_with fail
      refine wp_loop_rounds 1 ?_; rw [rounds_succ]
      go_wp2_with fail
      go_ret
      exact ⟨_, rfl, ⟨by omega, fun _ => ⟨by simp, fun i hi => absurd hi (by simp)⟩⟩, Grew.refl _⟩

theorem toTermNode_c (a b : Int) (s : ByteArray) (w : World) :
    Calls Tryz.prog 50 #[.agg #[.int .i64 a, .int .i64 b, .string s]] w fun e w' => e = .returned (.agg #[.int .i64 a, .int .i64 b, .string s]) ∧ Grew w w' := by
  go_enter Tryz.func50, Tryz.ntmps50
  go_wp2_with fail
  (try simp only [Exit.inBlock, Exit.then])
  have hinfo : (Tryz.prog.info? 66).map (·.size) = some 3 := by kernel_rfl
  refine bodyPost_ret (results_cell_row rfl _ _ (w.heap.size + 1) _ _ _ _ rfl (blk3_mid w _ _ _) Tryz.underlying66 rfl hinfo) rfl ?_
  exact ⟨rfl, (((Grew.refl w).alloc _).alloc _).alloc _⟩

theorem eqTermNode_c (a b : Int) (s : ByteArray) (w : World) :
    Calls Tryz.prog 56 #[.agg #[.int .i64 a, .int .i64 b, .string s], .agg #[.int .i64 a, .int .i64 b, .string s]] w fun e w' => e = .returned (.bool true) ∧ Grew w w' := by
  have hz : ∀ o1 o2, Grew w ((w.alloc o1).alloc o2) := fun o1 o2 => ((Grew.refl _).alloc _).alloc _
  have hx : (s.toList != s.toList) = false := by simp
  have hx1 : (a != a) = false := by simp
  have hx2 : (b != b) = false := by simp
  go_enter Tryz.func56, Tryz.ntmps56
  go_wp2_with fail
  go_ret
  exact ⟨rfl, hz _ _⟩

theorem trip_step {cur : Array Value} {F G H : Nat → Value} {j : Nat} (hs : j * 3 + 2 < cur.size) (h : ∀ i, i < j → cur[i * 3]? = some (F i) ∧ cur[i * 3 + 1]? = some (G i) ∧ cur[i * 3 + 2]? = some (H i)) :
    ∀ i, i < j + 1 → (((cur.setIfInBounds (j * 3) (F j)).setIfInBounds (j * 3 + 1) (G j)).setIfInBounds (j * 3 + 2) (H j))[i * 3]? = some (F i) ∧ (((cur.setIfInBounds (j * 3) (F j)).setIfInBounds (j * 3 + 1) (G j)).setIfInBounds (j * 3 + 2) (H j))[i * 3 + 1]? = some (G i) ∧ (((cur.setIfInBounds (j * 3) (F j)).setIfInBounds (j * 3 + 1) (G j)).setIfInBounds (j * 3 + 2) (H j))[i * 3 + 2]? = some (H i) := by
  intro i hi
  simp only [Array.getElem?_setIfInBounds, Array.size_setIfInBounds]
  rcases Nat.lt_or_ge i j with hk | hk
  · rw [if_neg (by omega), if_neg (by omega), if_neg (by omega), if_neg (by omega), if_neg (by omega), if_neg (by omega), if_neg (by omega), if_neg (by omega), if_neg (by omega)]
    exact h i hk
  · obtain rfl : i = j := by omega
    rw [if_neg (by omega), if_neg (by omega), if_pos rfl, if_pos (by omega), if_neg (by omega), if_pos rfl, if_pos (by omega), if_pos rfl, if_pos (by omega)]
    exact ⟨rfl, rfl, rfl⟩

/-- A new row of nodes. -/
def GivesT (w : World) (xs : List Tn) (e : Ending) (w' : World) : Prop := ∃ v, e = .returned v ∧ OwnT w' w.heap.size v xs ∧ Grew w w'

theorem toTermNodeS_c (v : Value) (xs : List Tn) (w : World) (h : ArgT w v xs) (hn : xs.length ≤ 1048576) :
    Calls Tryz.prog 13 #[v] w (GivesT w xs) := by
  obtain ⟨⟨A, c, rfl, hmax⟩, hS, _⟩ := h
  have hmk := fun W => run_make_rows (P := Tryz.prog) 24 66 (.agg #[.int .i64 0, .int .i64 0, .string ByteArray.empty]) 3 32 #[.int .i64 0, .int .i64 0, .string ByteArray.empty] Tryz.underlying24 infoTn rfl .i64 .i64 xs.length (by omega) (by omega) W
  have hend : ∀ cur w', w'.heap[w.heap.size]? = some (.cells cur 66 (0, 0)) → cur.size = xs.length * 3 → (∀ i, i < xs.length → cur[i * 3]? = some (.int .i64 (tk xs i)) ∧ cur[i * 3 + 1]? = some (.int .i64 (tn xs i)) ∧ cur[i * 3 + 2]? = some (.string (tt xs i))) → OwnT w' w.heap.size (.slice (some ⟨w.heap.size, 0, none⟩) xs.length xs.length) xs :=
    fun cur w' h1 h2 h3 => OwnT.mk_ (Nat.le_refl _) h1 (Nat.le_refl _) (by omega) h2 h3
  have HE := Lib.hid hend
  clear hend
  have hsz : (madeCells #[Value.int .i64 0, .int .i64 0, .string ByteArray.empty] (xs.length * 3)).size = xs.length * 3 := size_madeCells _ _
  have hnew := blk_new w (.cells (madeCells #[Value.int .i64 0, .int .i64 0, .string ByteArray.empty] (xs.length * 3)) 66)
  have hal := (Grew.refl w).alloc (.cells (madeCells #[Value.int .i64 0, .int .i64 0, .string ByteArray.empty] (xs.length * 3)) 66)
  generalize madeCells #[Value.int .i64 0, .int .i64 0, .string ByteArray.empty] (xs.length * 3) = cur0 at *
  by_cases hp : 0 < xs.length
  · rcases (hS hp).open_ with ⟨_, h2⟩ | ⟨b, o, c', hv, hc, hm, hb, hcell⟩
    · rw [h2] at hp; cases hp
    obtain ⟨rfl, rfl⟩ : A = some ⟨b, o, none⟩ ∧ c = c' := by simpa using hv
    clear hS hv
    have HC := Lib.hid hcell
    clear hcell
    generalize hN : xs.length = n at *
    clear hN
    have HNEW := Lib.hid hnew
    clear hnew
    have HAL := Lib.hid hal
    clear hal
    go_enter Tryz.func13, Tryz.ntmps13
    go_wp2_with fail
    go_loopw [4] (fun i wr => ∃ (j : Nat) (cur : Array Value), j ≤ n ∧ i = .int .i64 j ∧ wr.heap[w.heap.size]? = some (.cells cur 66 (0, 0)) ∧ cur.size = n * 3 ∧ Grew w wr ∧ (∀ i, i < j → cur[i * 3]? = some (.int .i64 (tk xs i)) ∧ cur[i * 3 + 1]? = some (.int .i64 (tn xs i)) ∧ cur[i * 3 + 2]? = some (.string (tt xs i)))) (fun i _ => n - (intOf i).toNat)
    case atStart => exact ⟨0, cur0, Nat.zero_le _, rfl, HNEW.out, hsz, HAL.out, fun i hi => absurd hi (by omega)⟩
    case round =>
      obtain ⟨j, cur, hj, rfl, hh, hcs, hB, hc2⟩ := hrel
      have HD := Lib.hid hc2
      clear hc2
      by_cases hlt : j < n
      · have k1 := (HC.out j hlt _ hB).1
        have k2 := (HC.out j hlt _ hB).2.1
        have k3 := (HC.out j hlt _ hB).2.2
        have HS := Lib.hid (trip_step (F := fun i => .int .i64 (tk xs i)) (G := fun i => .int .i64 (tn xs i)) (H := fun i => .string (tt xs i)) (j := j) (by omega) HD.out)
        have HH := Lib.hid hh
        clear hh
        generalize tk xs j = x at *
        generalize tn xs j = y at *
        generalize tt xs j = z at *
        go_wp2_with fail
        refine (toTermNode_c x y z _).mono ?_
        rintro e w1 ⟨rfl, hg1⟩
        have hh := (hg1.block (blk_lt HH.out)).trans HH.out
        have f1 : ∀ i, w1.frozen? ⟨w.heap.size, i, none⟩ = false := fun i => blk_frozen hh i
        have f2 : ∀ i k u, (w1.setCell ⟨w.heap.size, k, none⟩ u).frozen? ⟨w.heap.size, i, none⟩ = false := fun i k u => blk_frozen (blk_set hh k u) i
        have f3 : ∀ i k u l u', ((w1.setCell ⟨w.heap.size, k, none⟩ u).setCell ⟨w.heap.size, l, none⟩ u').frozen? ⟨w.heap.size, i, none⟩ = false := fun i k u l u' => blk_frozen (blk_set (blk_set hh k u) l u') i
        obtain ⟨u1, hu1⟩ : ∃ u, w1.cell? ⟨w.heap.size, j * 3, none⟩ = some u := by
          rw [blk_cell hh]
          exact ⟨_, Array.getElem?_eq_getElem (by omega)⟩
        obtain ⟨u2, hu2⟩ : ∃ u, w1.cell? ⟨w.heap.size, j * 3 + 1, none⟩ = some u := by
          rw [blk_cell hh]
          exact ⟨_, Array.getElem?_eq_getElem (by omega)⟩
        obtain ⟨u3, hu3⟩ : ∃ u, w1.cell? ⟨w.heap.size, j * 3 + 2, none⟩ = some u := by
          rw [blk_cell hh]
          exact ⟨_, Array.getElem?_eq_getElem (by omega)⟩
        have HH1 := Lib.hid hh
        clear hh
        go_wp2_with fail
        go_roundw
        case rel => exact ⟨j + 1, _, by omega, by go_num, blk_set (blk_set (blk_set HH1.out _ _) _ _) _ _, by simp [hcs], (((hB.trans hg1).setCell (Nat.le_refl _) _).setCell (Nat.le_refl _) _).setCell (Nat.le_refl _) _, HS.out⟩
        case measure => simp [intOf]; omega
      · obtain rfl : j = n := by omega
        have HH := Lib.hid hh
        clear hh
        go_wp2_with fail
        go_ret
        exact ⟨_, rfl, HE.out _ _ HH.out hcs HD.out, hB⟩
  · have hp0 : xs.length ≤ 0 := by omega
    have HNEW := Lib.hid hnew
    clear hnew hS hp
    have HAL := Lib.hid hal
    clear hal
    generalize hN : xs.length = n at *
    clear hN
    go_enter Tryz.func13, Tryz.ntmps13
    go_wp2_with fail
    refine wp_loop_rounds 1 ?_; rw [rounds_succ]
    go_wp2_with fail
    go_ret
    exact ⟨_, rfl, HE.out _ _ HNEW.out hsz (fun i hi => absurd hi (by omega)), HAL.out⟩

/-- Two lists that are equal. -/
theorem eqTermNodeS_yes (v1 v2 : Value) (xs : List Tn) (w : World) (h1 : Tms w v1 xs) (h2 : Tms w v2 xs) (hn : xs.length ≤ 1099511627776) :
    Calls Tryz.prog 15 #[v1, v2] w fun e w' => e = .returned (.bool true) ∧ Grew w w' := by
  rcases h1.open_ with ⟨rfl, rfl⟩ | ⟨b1, o1, c1, rfl, hc1, hm1, hb1, hf⟩
  · obtain ⟨A, c, rfl⟩ := tms_slice h2
    go_enter Tryz.func15, Tryz.ntmps15
    go_wp2_with fail
    refine wp_loop_rounds 1 ?_; rw [rounds_succ]
    go_wp2_with fail
    go_ret
    exact ⟨rfl, Grew.refl _⟩
  · rcases h2.open_ with ⟨rfl, rfl⟩ | ⟨b2, o2, c2, rfl, hc2, hm2, hb2, hh⟩
    · go_enter Tryz.func15, Tryz.ntmps15
      go_wp2_with fail
      refine wp_loop_rounds 1 ?_; rw [rounds_succ]
      go_wp2_with fail
      go_ret
      exact ⟨rfl, Grew.refl _⟩
    · clear h1 h2
      have HF := Lib.hid hf
      have HH := Lib.hid hh
      clear hf hh
      generalize hN : xs.length = n at *
      clear hN
      go_enter Tryz.func15, Tryz.ntmps15
      go_wp2_with fail
      go_loopw [5] (fun i wr => ∃ j : Nat, j ≤ n ∧ i = .int .i64 j ∧ Grew w wr) (fun i _ => n - (intOf i).toNat)
      case atStart => exact ⟨0, Nat.zero_le _, rfl, Grew.refl _⟩
      case round =>
        obtain ⟨j, hj, rfl, hB⟩ := hrel
        by_cases hlt : j < n
        · have k1 : ∀ W, Grew w W → W.cell? ⟨b1, o1 + j * 3, none⟩ = some (.int .i64 (tk xs j)) := fun W hW => (HF.out j hlt W hW).1
          have k2 : ∀ W, Grew w W → W.cell? ⟨b1, o1 + j * 3 + 1, none⟩ = some (.int .i64 (tn xs j)) := fun W hW => (HF.out j hlt W hW).2.1
          have k3 : ∀ W, Grew w W → W.cell? ⟨b1, o1 + j * 3 + 2, none⟩ = some (.string (tt xs j)) := fun W hW => (HF.out j hlt W hW).2.2
          have l1 : ∀ W, Grew w W → W.cell? ⟨b2, o2 + j * 3, none⟩ = some (.int .i64 (tk xs j)) := fun W hW => (HH.out j hlt W hW).1
          have l2 : ∀ W, Grew w W → W.cell? ⟨b2, o2 + j * 3 + 1, none⟩ = some (.int .i64 (tn xs j)) := fun W hW => (HH.out j hlt W hW).2.1
          have l3 : ∀ W, Grew w W → W.cell? ⟨b2, o2 + j * 3 + 2, none⟩ = some (.string (tt xs j)) := fun W hW => (HH.out j hlt W hW).2.2
          generalize tk xs j = x at *
          generalize tn xs j = y at *
          generalize tt xs j = z at *
          go_wp2_with fail
          go_region_held3 (fun w' => Grew w w') (first | assumption | exact Grew.drew ‹_› | exact Grew.trans ‹_› ‹_›)
            (first | (go_at_call 56; refine (eqTermNode_c _ _ _ _).mono ?_; rintro e w' ⟨rfl, hB1⟩))
          go_wp2_with fail
          go_roundw
          case rel => exact ⟨j + 1, by omega, by go_num, by assumption⟩
          case measure => simp [intOf]; omega
        · go_wp2_with fail
          go_ret
          exact ⟨rfl, by assumption⟩
end Go.Proofs.YthofkdpmgjkgkaaGreat

/- Copies of terms with greater numbers: raised and limitedTerm of the program, l26Shift and l26Made of the reference. -/
import Derived.Test.YthofkdpmgjkgkaaGreatTmIs2
import Derived.Lib.SliceRun
namespace Go.Proofs.YthofkdpmgjkgkaaGreat
open Go.RowKit

theorem own_emptyT (w : World) : OwnT (w.alloc (.cells #[] 66)) w.heap.size (.slice (some ⟨w.heap.size, 0, none⟩) 0 0) [] :=
  World.ownsRow_lit (e := 66) (size := 3) w #[] 0 (Nat.le_refl _) (by omega) rfl

/-- slices.Clone: the same nodes in a row of the call's own; nil where it was nil. -/
theorem cloneT_c (v : Value) (xs : List Tn) (w : World) (h : Tms w v xs) (hn : xs.length ≤ 1048576) :
    Calls Tryz.prog 66 #[v] w (GivesT w xs) := by
  have q : ∀ (w : World) (a : Option Addr) (n c n' c' : Nat), (binOp .eql 24 (.slice a n c) (.slice none n' c')).run Tryz.prog w = .ok (.bool a.isNone) w := fun w a n c n' c' => Lib.run_eql_slice_nil w _ _ a n c n' c' Tryz.underlying24
  have he := own_emptyT w
  rcases h.open_ with ⟨rfl, rfl⟩ | ⟨b, o, c, rfl, hc, hm, hb, hf⟩
  · clear he h
    go_enter Tryz.func66, Tryz.ntmps66
    go_wp2_with fail
    go_ret
    exact ⟨_, rfl, OwnT.nil_ _ _, Grew.refl _⟩
  · clear hf
    go_enter Tryz.func66, Tryz.ntmps66
    go_wp2_with (first
      | (at_builtin; refine wpList_appT (w0 := w) _ _ rfl rfl _ [] rfl he ((Grew.refl w).alloc _) _ xs rfl (h.grew ((Grew.refl w).alloc _)) (by simp; omega) ?_; intro v1 w1 hown1 hg1 _))
    go_ret
    exact ⟨_, rfl, by simpa using hown1, hg1⟩

/-- A node with a number of at least k greater by d. -/
def raiseN (k d : Int) (x : Tn) : Tn := if x.1 = 0 ∧ k ≤ x.2.1 then (x.1, x.2.1 + d, x.2.2) else x
def raiseL (k d : Int) (xs : List Tn) : List Tn := xs.map (raiseN k d)
theorem raiseL_length (k d : Int) (xs : List Tn) : (raiseL k d xs).length = xs.length := by simp [raiseL]
theorem raise_tk {k d : Int} {xs : List Tn} {i : Nat} (h : i < xs.length) : tk (raiseL k d xs) i = tk xs i := by
  simp only [raiseL, tk, List.getD, List.getElem?_map, List.getElem?_eq_getElem h, Option.map_some, Option.getD_some, raiseN]
  split <;> rfl
theorem raise_tt {k d : Int} {xs : List Tn} {i : Nat} (h : i < xs.length) : tt (raiseL k d xs) i = tt xs i := by
  simp only [raiseL, tt, List.getD, List.getElem?_map, List.getElem?_eq_getElem h, Option.map_some, Option.getD_some, raiseN]
  split <;> rfl
theorem raise_tn {k d : Int} {xs : List Tn} {i : Nat} (h : i < xs.length) : tn (raiseL k d xs) i = if tk xs i = 0 ∧ k ≤ tn xs i then tn xs i + d else tn xs i := by
  simp only [raiseL, tn, tk, List.getD, List.getElem?_map, List.getElem?_eq_getElem h, Option.map_some, Option.getD_some, raiseN]
  split <;> rfl
/-- The numbers are small. -/
def NumOk (xs : List Tn) : Prop := ∀ i, i < xs.length → 0 ≤ tn xs i ∧ tn xs i ≤ 1000000
/-- The numbers behind the first j rounds. -/
def mixN (k d : Int) (xs : List Tn) (j i : Nat) : Int := if i < j then tn (raiseL k d xs) i else tn xs i
theorem mix_zero (k d : Int) (xs : List Tn) (i : Nat) : mixN k d xs 0 i = tn xs i := by simp [mixN]
theorem mix_end {k d : Int} {xs : List Tn} {j i : Nat} (h : i < j) : mixN k d xs j i = tn (raiseL k d xs) i := by simp [mixN, h]
theorem mix_at (k d : Int) (xs : List Tn) (j : Nat) : mixN k d xs j j = tn xs j := by simp [mixN]
theorem mix_other {k d : Int} {xs : List Tn} {j i : Nat} (h : i ≠ j) : mixN k d xs (j + 1) i = mixN k d xs j i := by
  unfold mixN
  by_cases h1 : i < j
  · rw [if_pos h1, if_pos (by omega)]
  · rw [if_neg h1, if_neg (by omega)]
theorem mix_same {k d : Int} {xs : List Tn} {j : Nat} (h : tn (raiseL k d xs) j = tn xs j) (i : Nat) : mixN k d xs (j + 1) i = mixN k d xs j i := by
  by_cases hij : i = j
  · subst hij
    rw [mix_at, mix_end (by omega), h]
  · exact mix_other hij
/-- The block's cells behind j rounds. -/
def Mix (cur : Array Value) (k d : Int) (xs : List Tn) (j : Nat) : Prop := ∀ i, i < xs.length → cur[i * 3]? = some (.int .i64 (tk xs i)) ∧ cur[i * 3 + 1]? = some (.int .i64 (mixN k d xs j i)) ∧ cur[i * 3 + 2]? = some (.string (tt xs i))
theorem Mix.keep {cur : Array Value} {k d : Int} {xs : List Tn} {j : Nat} (h : Mix cur k d xs j) (he : tn (raiseL k d xs) j = tn xs j) : Mix cur k d xs (j + 1) := fun i hi => by
  rw [mix_same he]; exact h i hi
theorem Mix.set {cur : Array Value} {k d : Int} {xs : List Tn} {j : Nat} (h : Mix cur k d xs j) (hs : xs.length * 3 ≤ cur.size) (hj : j < xs.length) : Mix (cur.setIfInBounds (j * 3 + 1) (.int .i64 (tn (raiseL k d xs) j))) k d xs (j + 1) := fun i hi => by
  obtain ⟨h1, h2, h3⟩ := h i hi
  refine ⟨?_, ?_, ?_⟩
  · rw [Array.getElem?_setIfInBounds, if_neg (by omega)]; exact h1
  · rw [Array.getElem?_setIfInBounds]
    by_cases hij : i = j
    · subst hij
      rw [if_pos rfl, if_pos (by omega), mix_end (by omega)]
    · rw [if_neg (by omega), mix_other hij]
      exact h2
  · rw [Array.getElem?_setIfInBounds, if_neg (by omega)]; exact h3
theorem Mix.fin {w : World} {B g c : Nat} {cur : Array Value} {k d : Int} {xs : List Tn} (h : Mix cur k d xs xs.length) (hB : B ≤ g) (hg : w.heap[g]? = some (.cells cur 66 (0, 0))) (hnc : xs.length ≤ c) (hcm : c ≤ 9223372036854775807) (hcs : cur.size = c * 3) : OwnT w B (.slice (some ⟨g, 0, none⟩) xs.length c) (raiseL k d xs) := by
  have := OwnT.mk_ (w := w) (B := B) (xs := raiseL k d xs) (g := g) (c := c) (cur := cur) hB hg (by rw [raiseL_length]; exact hnc) hcm hcs (fun i hi => by
    rw [raiseL_length] at hi
    rw [raise_tk hi, raise_tt hi]
    have := h i hi
    rw [mix_end hi] at this
    exact this)
  rw [raiseL_length] at this
  exact this

theorem raised_c (v : Value) (xs : List Tn) (k d : Int) (w : World) (h : Tms w v xs) (hn : xs.length ≤ 1048576) (hok : NumOk xs) (hd0 : 0 ≤ d) (hd1 : d ≤ 1000000) :
    Calls Tryz.prog 97 #[v, .int .i64 k, .int .i64 d] w (GivesT w (raiseL k d xs)) := by
  have HOK := Lib.hid hok
  have HCL := Lib.hid (cloneT_c v xs w h hn)
  clear h hok
  go_enter Tryz.func97, Tryz.ntmps97
  go_wp2_with fail
  refine HCL.out.mono ?_
  rintro e w1 ⟨u, rfl, ho, hg1⟩
  rcases ho.open_ with ⟨rfl, rfl⟩ | ⟨g, c, cur0, rfl, hgB, hgl, hh0, hnc, hcm, hcs0, hc0⟩
  · clear ho
    go_wp2_with fail
    refine wp_loop_rounds 1 ?_; rw [rounds_succ]
    go_wp2_with fail
    go_ret
    exact ⟨_, rfl, OwnT.nil_ _ _, hg1⟩
  have HFIN := Lib.hid (fun W cur hm (hh : W.heap[g]? = some (.cells cur 66 (0, 0))) hs => Mix.fin (w := W) (B := w.heap.size) (g := g) (c := c) (cur := cur) (k := k) (d := d) (xs := xs) hm hgB hh hnc hcm hs)
  clear ho
  generalize hN : xs.length = n at *
  go_wp2_with fail
  go_loopw [8, 14] (fun _ i wr => ∃ (j : Nat) (cur : Array Value), j ≤ n ∧ i = .int .i64 j ∧ wr.heap[g]? = some (.cells cur 66 (0, 0)) ∧ cur.size = c * 3 ∧ Grew w wr ∧ Hid (Mix cur k d xs j)) (fun _ i _ => n - (intOf i).toNat)
  case atStart => exact ⟨0, cur0, Nat.zero_le _, rfl, hh0, hcs0, hg1, fun i hi => by rw [mix_zero]; exact hc0 i (by omega)⟩
  case round =>
    clear hh0 hcs0 hc0
    obtain ⟨j, cur, hj, rfl, hh, hcs, hB, HM⟩ := hrel
    by_cases hlt : j < n
    · obtain ⟨m1, m2, m3⟩ := HM.out j (by omega)
      rw [mix_at] at m2
      have hr := Lib.hid (raise_tn (k := k) (d := d) (show j < xs.length by omega))
      obtain ⟨ho1, ho2⟩ := HOK.out j (by omega)
      have k1 : ∀ W, Grew wr W → W.cell? ⟨g, j * 3, none⟩ = some (.int .i64 (tk xs j)) := fun W hW => (hW.cell (p := ⟨g, j * 3, none⟩) (blk_lt hh)).trans ((blk_cell hh _).trans m1)
      have k2 : ∀ W, Grew wr W → W.cell? ⟨g, j * 3 + 1, none⟩ = some (.int .i64 (tn xs j)) := fun W hW => (hW.cell (p := ⟨g, j * 3 + 1, none⟩) (blk_lt hh)).trans ((blk_cell hh _).trans m2)
      have k3 : ∀ W, Grew wr W → W.cell? ⟨g, j * 3 + 2, none⟩ = some (.string (tt xs j)) := fun W hW => (hW.cell (p := ⟨g, j * 3 + 2, none⟩) (blk_lt hh)).trans ((blk_cell hh _).trans m3)
      have hrr := Grew.refl wr
      have f1 : ∀ W, Grew wr W → W.frozen? ⟨g, j * 3 + 1, none⟩ = false := fun W hW => blk_frozen ((hW.block (blk_lt hh)).trans hh) _
      have HH := Lib.hid hh
      clear m1 m2 m3 hh
      by_cases hk0 : tk xs j = 0
      · by_cases hkn : k ≤ tn xs j
        · have hv := Lib.hid (hr.out.trans (if_pos ⟨hk0, hkn⟩))
          have HS := Lib.hid (HM.out.set (by omega) (show j < xs.length by omega))
          rw [hk0] at k1
          clear hk0 hr HM
          generalize tn xs j = a at *
          generalize tt xs j = z at *
          have hra := hrr.alloc (.cells #[.int .i64 0, .int .i64 a, .string z] 66)
          go_wp2_with fail
          go_roundw
          case rel => exact ⟨j + 1, _, by omega, by go_num, by rw [hv.out] at HS; exact blk_set (((hrr.alloc _).block (blk_lt HH.out)).trans HH.out) _ _, by simp [hcs], (hB.alloc _).setCell hgB _, by rw [hv.out] at HS; exact HS.out⟩
          case measure => simp [intOf]; omega
        · have hv := Lib.hid (hr.out.trans (if_neg (fun h => hkn h.2)))
          have HS := Lib.hid (HM.out.keep hv.out)
          rw [hk0] at k1
          clear hk0 hr HM
          generalize tn xs j = a at *
          generalize tt xs j = z at *
          go_wp2_with fail
          go_roundw
          case rel => exact ⟨j + 1, cur, by omega, by go_num, ((hrr.alloc _).block (blk_lt HH.out)).trans HH.out, hcs, hB.alloc _, HS.out⟩
          case measure => simp [intOf]; omega
      · have hv := Lib.hid (hr.out.trans (if_neg (fun h => hk0 h.1)))
        have HS := Lib.hid (HM.out.keep hv.out)
        have hk0' : (tk xs j == 0) = false := by simpa using hk0
        clear hk0 hr HM
        generalize tk xs j = kk at *
        generalize tn xs j = a at *
        generalize tt xs j = z at *
        go_wp2_with fail
        go_roundw
        case rel => exact ⟨j + 1, cur, by omega, by go_num, ((hrr.alloc _).block (blk_lt HH.out)).trans HH.out, hcs, hB.alloc _, HS.out⟩
        case measure => simp [intOf]; omega
    · obtain rfl : j = n := by omega
      have hf := Lib.hid (HFIN.out _ _ HM.out hh hcs)
      go_wp2_with fail
      go_ret
      exact ⟨_, rfl, hf.out, hB⟩

theorem l26Shift_c (v : Value) (xs : List Tn) (k d : Int) (w : World) (h : Tms w v xs) (hn : xs.length ≤ 1048576) (hok : NumOk xs) (hd0 : 0 ≤ d) (hd1 : d ≤ 1000000) :
    Calls Tryz.prog 86 #[v, .int .i64 k, .int .i64 d] w (GivesT w (raiseL k d xs)) := by
  have HOK := Lib.hid hok
  have he := own_emptyT w
  go_enter Tryz.func86, Tryz.ntmps86
  go_wp2_with (first
    | (at_builtin; refine wpList_appT (w0 := w) _ _ rfl rfl _ [] rfl he ((Grew.refl w).alloc _) _ xs rfl (h.grew ((Grew.refl w).alloc _)) (by simp; omega) ?_; intro u w1 ho hg1 _))
  rw [List.nil_append] at ho
  clear he h hok
  rcases ho.open_ with ⟨rfl, rfl⟩ | ⟨g, c, cur0, rfl, hgB, hgl, hh0, hnc, hcm, hcs0, hc0⟩
  · clear ho
    go_wp2_with fail
    refine wp_loop_rounds 1 ?_; rw [rounds_succ]
    go_wp2_with fail
    go_ret
    exact ⟨_, rfl, OwnT.nil_ _ _, hg1⟩
  have HFIN := Lib.hid (fun W cur hm (hh : W.heap[g]? = some (.cells cur 66 (0, 0))) hs => Mix.fin (w := W) (B := w.heap.size) (g := g) (c := c) (cur := cur) (k := k) (d := d) (xs := xs) hm hgB hh hnc hcm hs)
  clear ho
  generalize hN : xs.length = n at *
  go_wp2_with fail
  go_loopw [8] (fun i wr => ∃ (j : Nat) (cur : Array Value), j ≤ n ∧ i = .int .i64 j ∧ wr.heap[g]? = some (.cells cur 66 (0, 0)) ∧ cur.size = c * 3 ∧ Grew w wr ∧ Hid (Mix cur k d xs j)) (fun i _ => n - (intOf i).toNat)
  case atStart => exact ⟨0, cur0, Nat.zero_le _, rfl, hh0, hcs0, hg1, fun i hi => by rw [mix_zero]; exact hc0 i (by omega)⟩
  case round =>
    clear hh0 hcs0 hc0
    obtain ⟨j, cur, hj, rfl, hh, hcs, hB, HM⟩ := hrel
    by_cases hlt : j < n
    · obtain ⟨m1, m2, m3⟩ := HM.out j (by omega)
      rw [mix_at] at m2
      have hr := Lib.hid (raise_tn (k := k) (d := d) (show j < xs.length by omega))
      obtain ⟨ho1, ho2⟩ := HOK.out j (by omega)
      have k1 : ∀ W, Grew wr W → W.cell? ⟨g, j * 3, none⟩ = some (.int .i64 (tk xs j)) := fun W hW => (hW.cell (p := ⟨g, j * 3, none⟩) (blk_lt hh)).trans ((blk_cell hh _).trans m1)
      have k2 : ∀ W, Grew wr W → W.cell? ⟨g, j * 3 + 1, none⟩ = some (.int .i64 (tn xs j)) := fun W hW => (hW.cell (p := ⟨g, j * 3 + 1, none⟩) (blk_lt hh)).trans ((blk_cell hh _).trans m2)
      have k3 : ∀ W, Grew wr W → W.cell? ⟨g, j * 3 + 2, none⟩ = some (.string (tt xs j)) := fun W hW => (hW.cell (p := ⟨g, j * 3 + 2, none⟩) (blk_lt hh)).trans ((blk_cell hh _).trans m3)
      have hrr := Grew.refl wr
      have f1 : ∀ W, Grew wr W → W.frozen? ⟨g, j * 3 + 1, none⟩ = false := fun W hW => blk_frozen ((hW.block (blk_lt hh)).trans hh) _
      have HH := Lib.hid hh
      clear m1 m2 m3 hh
      by_cases hk0 : tk xs j = 0
      · by_cases hkn : k ≤ tn xs j
        · have hv := Lib.hid (hr.out.trans (if_pos ⟨hk0, hkn⟩))
          have HS := Lib.hid (HM.out.set (by omega) (show j < xs.length by omega))
          rw [hk0] at k1
          clear hk0 hr HM
          generalize tn xs j = a at *
          generalize tt xs j = z at *
          go_wp2_with fail
          go_roundw
          case rel => exact ⟨j + 1, _, by omega, by go_num, blk_set HH.out _ _, by simp [hcs], hB.setCell hgB _, by rw [hv.out] at HS; exact HS.out⟩
          case measure => simp [intOf]; omega
        · have hv := Lib.hid (hr.out.trans (if_neg (fun h => hkn h.2)))
          have HS := Lib.hid (HM.out.keep hv.out)
          rw [hk0] at k1
          clear hk0 hr HM
          generalize tn xs j = a at *
          generalize tt xs j = z at *
          go_wp2_with fail
          go_roundw
          case rel => exact ⟨j + 1, cur, by omega, by go_num, HH.out, hcs, hB, HS.out⟩
          case measure => simp [intOf]; omega
      · have hv := Lib.hid (hr.out.trans (if_neg (fun h => hk0 h.1)))
        have HS := Lib.hid (HM.out.keep hv.out)
        have hk0' : (tk xs j == 0) = false := by simpa using hk0
        clear hk0 hr HM
        generalize tk xs j = kk at *
        generalize tn xs j = a at *
        generalize tt xs j = z at *
        go_wp2_with fail
        go_roundw
        case rel => exact ⟨j + 1, cur, by omega, by go_num, HH.out, hcs, hB, HS.out⟩
        case measure => simp [intOf]; omega
    · obtain rfl : j = n := by omega
      have hf := Lib.hid (HFIN.out _ _ HM.out hh hcs)
      go_wp2_with fail
      go_ret
      exact ⟨_, rfl, hf.out, hB⟩
end Go.Proofs.YthofkdpmgjkgkaaGreat

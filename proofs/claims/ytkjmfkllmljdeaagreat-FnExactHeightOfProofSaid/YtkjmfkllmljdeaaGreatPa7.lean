/- Texts in one file: MkM IntMark JfMk LawRc. -/
import Derived.Test.YtkjmfkllmljdeaaGreatPa1
import Derived.Test.YtkjmfkllmljdeaaGreatPa2
import Derived.Test.YtkjmfkllmljdeaaGreatPa3
import Derived.Test.YtkjmfkllmljdeaaGreatPa4
import Derived.Test.YtkjmfkllmljdeaaGreatPa5
import Derived.Test.YtkjmfkllmljdeaaGreatPa6
set_option linter.all false

/- The laws' marks on a list of strings that is read again: what markStringS leaves. -/
namespace Go.Proofs.YtkjmfkllmljdeaaGreat
open Go.RowKit

def smarks (k : Int) (n : Nat) : List ByteArray := (List.range n).map fun i : Nat => mtx (k + (i : Int))
theorem smarks_length (k : Int) (n : Nat) : (smarks k n).length = n := by simp [smarks]
theorem smarks_st {k : Int} {n i : Nat} (h : i < n) : st (smarks k n) i = mtx (k + (i : Int)) := by simp [smarks, st, List.getD, h]

theorem markStringS_m (v : Value) (xs : List ByteArray) (B : Nat) (k : Int) (w : World) (h : OwnS w B v xs) (hk0 : 0 ≤ k) (hk : k ≤ 2305843009213693952) (hn : xs.length ≤ 1048576) :
    Calls Tryz.prog 28 #[v, .int .i64 k] w fun e w' => e = .returned (.int .i64 (k + xs.length)) ∧ OwnS w' B v (smarks k xs.length) ∧ w.grownBy w' v.ownBlock := by
  rcases h.2 with ⟨rfl, h0⟩ | ⟨g, c, cur0, rfl, hB, hh0, hnc, hcm, hcs0, _⟩
  · have hL : xs.length = 0 := by simpa using h0
    rw [hL]
    clear h h0
    go_enter Tryz.func28, Tryz.ntmps28
    go_wp2_with fail
    refine wp_loop_rounds 1 ?_; rw [rounds_succ]
    go_wp2_with fail
    go_ret
    exact ⟨by simp, by simpa [smarks] using OwnS.nil_ _ _, World.grownBy.refl _ _⟩
  · have hend : ∀ cur w', w'.heap[g]? = some (.cells cur 9 (0, 0)) → cur.size = c * 1 → (∀ i, i < xs.length → cur[i]? = some (.string (mtx (k + (i : Int))))) → OwnS w' B (.slice (some ⟨g, 0, none⟩) xs.length c) (smarks k xs.length) := by
      intro cur w' h1 h2 h3
      have := OwnS.mk_ (w := w') (B := B) (L := smarks k xs.length) (g := g) (c := c) (cur := cur) hB h1 (by rw [smarks_length]; exact hnc) hcm (by omega) (fun i hi => by
        rw [smarks_length] at hi
        rw [smarks_st hi]
        exact h3 i hi)
      rw [smarks_length] at this
      exact this
    generalize hN : xs.length = n at *
    clear hN h
    have HE := Lib.hid hend
    clear hend
    go_enter Tryz.func28, Tryz.ntmps28
    go_wp2_with fail
    go_loopw [1, 5] (fun kk i wr => ∃ (j : Nat) (cur : Array Value), j ≤ n ∧ i = .int .i64 j ∧ kk = .int .i64 (k + (j : Int)) ∧ wr.heap[g]? = some (.cells cur 9 (0, 0)) ∧ cur.size = c * 1 ∧ Only g w wr ∧ Hid (∀ i, i < j → cur[i]? = some (.string (mtx (k + (i : Int)))))) (fun _ i _ => n - (intOf i).toNat)
    case atStart => exact ⟨0, cur0, Nat.zero_le _, rfl, by simp, hh0, hcs0, Only.refl _ _, fun i hi => absurd hi (by omega)⟩
    case round =>
      obtain ⟨j, cur, hj, rfl, rfl, hh, hcs, ho, HC⟩ := hrel
      by_cases hlt : j < n
      · have HS := Lib.hid (one_step (F := fun i => .string (mtx (k + (i : Int)))) (j := j) (by omega) HC.out)
        have HH := Lib.hid hh
        clear hh
        go_wp2_with fail
        refine (markTextD_c (k + (j : Int)) _ (by omega) (by omega)).mono ?_
        rintro e w1 ⟨rfl, hg1⟩
        have hh1 := (hg1.block (blk_lt HH.out)).trans HH.out
        have f1 : w1.frozen? ⟨g, j, none⟩ = false := blk_frozen hh1 j
        obtain ⟨u1, hu1⟩ : ∃ u, w1.cell? ⟨g, j, none⟩ = some u := by
          rw [blk_cell hh1]
          exact ⟨_, Array.getElem?_eq_getElem (by omega)⟩
        have HH1 := Lib.hid hh1
        clear hh1
        go_wp2_with fail
        go_roundw
        case rel => exact ⟨j + 1, _, by omega, by go_num, by go_num, blk_set HH1.out _ _, by simp [hcs], (ho.grew hg1).setCell _, HS.out⟩
        case measure => simp [intOf]; omega
      · obtain rfl : j = n := by omega
        have HH := Lib.hid hh
        clear hh
        go_wp2_with fail
        go_ret
        exact ⟨rfl, HE.out _ _ HH.out hcs HC.out, ho⟩

end Go.Proofs.YtkjmfkllmljdeaaGreat

/- The laws' marks on slices of int64. -/
namespace Go.Proofs.YtkjmfkllmljdeaaGreat
open Go.RowKit

def imarks (k : Int) (n : Nat) : List Int := (List.range n).map fun i : Nat => k + (i : Int)
theorem imarks_length (k : Int) (n : Nat) : (imarks k n).length = n := by simp [imarks]
theorem imarks_at {k : Int} {n i : Nat} (h : i < n) : it (imarks k n) i = k + i := by simp [imarks, it, List.getD, h]

theorem markInt64S_c (v : Value) (L : List Int) (B : Nat) (k : Int) (w : World) (h : OwnI w B v L) (hk0 : 0 ≤ k) (hk : k ≤ 4611686018427387904) (hn : L.length ≤ 1099511627776) :
    Calls Tryz.prog 17 #[v, .int .i64 k] w fun e w' => e = .returned (.int .i64 (k + L.length)) ∧ OwnI w' B v (imarks k L.length) ∧ w.grownBy w' v.ownBlock := by
  rcases h.2 with ⟨rfl, h0⟩ | ⟨g, c, cur0, rfl, hB, hh0, hnc, hcm, hcs0, _⟩
  · have hL : L.length = 0 := by simpa using h0
    rw [hL]
    clear h h0
    go_enter Tryz.func17, Tryz.ntmps17
    go_wp2_with fail
    refine wp_loop_rounds 1 ?_; rw [rounds_succ]
    go_wp2_with fail
    go_ret
    exact ⟨by simp, by simpa [imarks] using OwnI.nil_ _ _, World.grownBy.refl _ _⟩
  · have hend : ∀ cur w', w'.heap[g]? = some (.cells cur 2 (0, 0)) → cur.size = c → (∀ i, i < L.length → cur[i]? = some (.int .i64 (k + (i : Int)))) → OwnI w' B (.slice (some ⟨g, 0, none⟩) L.length c) (imarks k L.length) := by
      intro cur w' h1 h2 h3
      have := OwnI.mk_ (w := w') (B := B) (L := imarks k L.length) (g := g) (c := c) (cur := cur) hB h1 (by rw [imarks_length]; exact hnc) hcm h2 (fun i hi => by
        rw [imarks_length] at hi
        rw [imarks_at hi]
        exact h3 i hi)
      rw [imarks_length] at this
      exact this
    generalize hN : L.length = n at *
    clear hN h
    have HE := Lib.hid hend
    clear hend
    go_enter Tryz.func17, Tryz.ntmps17
    go_wp2_with fail
    go_loopw [1, 5] (fun kk i wr => ∃ (j : Nat) (cur : Array Value), j ≤ n ∧ i = .int .i64 j ∧ kk = .int .i64 (k + (j : Int)) ∧ wr.heap[g]? = some (.cells cur 2 (0, 0)) ∧ cur.size = c ∧ Only g w wr ∧ (∀ i, i < j → cur[i]? = some (.int .i64 (k + (i : Int))))) (fun _ i _ => n - (intOf i).toNat)
    case atStart => exact ⟨0, cur0, Nat.zero_le _, rfl, by simp, hh0, by omega, Only.refl _ _, fun i hi => absurd hi (by omega)⟩
    case round =>
      obtain ⟨j, cur, hj, rfl, rfl, hh, hcs, ho, hc⟩ := hrel
      have HC := Lib.hid hc
      clear hc
      by_cases hlt : j < n
      · have f1 : wr.frozen? ⟨g, j, none⟩ = false := blk_frozen hh j
        obtain ⟨u1, hu1⟩ : ∃ u, wr.cell? ⟨g, j, none⟩ = some u := by
          rw [blk_cell hh]
          exact ⟨_, Array.getElem?_eq_getElem (by omega)⟩
        have HH := Lib.hid hh
        clear hh
        go_wp2_with fail
        go_roundw
        case rel => exact ⟨j + 1, _, by omega, by go_num, by go_num, blk_set HH.out _ _, by simp [hcs], ho.setCell _, one_stepI (F := fun i => .int .i64 (k + (i : Int))) (by omega) HC.out⟩
        case measure => simp [intOf]; omega
      · obtain rfl : j = n := by omega
        have HH := Lib.hid hh
        clear hh
        go_wp2_with fail
        go_ret
        exact ⟨rfl, HE.out _ _ HH.out hcs HC.out, ho⟩

theorem heldInt64S_c (v : Value) (n : Nat) (k : Int) (w : World) (h : Ints w v (imarks k n)) (hk0 : 0 ≤ k) (hk : k ≤ 4611686018427387904) (hn : n ≤ 1099511627776) :
    Calls Tryz.prog 18 #[v, .int .i64 k] w fun e w' => e = .returned (.int .i64 (k + n)) ∧ Grew w w' := by
  have hat := fun i => @imarks_at k n i
  rcases h.open_ with ⟨rfl, h0⟩ | ⟨b, o, c, rfl, hc, hm, hb, hcell⟩
  · have hn0 : n = 0 := by have := congrArg List.length h0; rw [imarks_length] at this; simpa using this
    subst hn0
    clear h h0 hat
    go_enter Tryz.func18, Tryz.ntmps18
    go_wp2_with fail
    refine wp_loop_rounds 1 ?_; rw [rounds_succ]
    go_wp2_with fail
    go_ret
    exact ⟨by simp, Grew.refl _⟩
  · rw [imarks_length] at hc hcell ⊢
    have HC : Hid (∀ i, i < n → ∀ W, Grew w W → W.cell? ⟨b, o + i, none⟩ = some (.int .i64 (k + (i : Int)))) := Lib.hid (fun i hi W hW => by rw [← hat i hi]; exact hcell i hi W hW)
    clear h hcell hat
    go_enter Tryz.func18, Tryz.ntmps18
    go_wp2_with fail
    go_loopw [1, 5] (fun kk i wr => ∃ j : Nat, j ≤ n ∧ i = .int .i64 j ∧ kk = .int .i64 (k + (j : Int)) ∧ Grew w wr) (fun _ i _ => n - (intOf i).toNat)
    case atStart => exact ⟨0, Nat.zero_le _, rfl, by simp, Grew.refl _⟩
    case round =>
      obtain ⟨j, hj, rfl, rfl, hB⟩ := hrel
      by_cases hlt : j < n
      · have k1 := HC.out j hlt _ hB
        have hq : (k + (j : Int) != k + (j : Int)) = false := by simp
        go_wp2_with fail
        go_roundw
        case rel => exact ⟨j + 1, by omega, by go_num, by go_num, hB⟩
        case measure => simp [intOf]; omega
      · obtain rfl : j = n := by omega
        go_wp2_with fail
        go_ret
        exact ⟨rfl, hB⟩
/-- The forms that the laws' walks use. -/
theorem markInt64S_w (v : Value) (L : List Int) (B : Nat) (k : Int) (w : World) (h : OwnI w B v L) (hk0 : 0 ≤ k) (hk : k ≤ 1099511627776) (hn : L.length ≤ 1048576) :
    Calls Tryz.prog 17 #[v, .int .i64 k] w fun e w' => e = .returned (.int .i64 (k + L.length)) ∧ w.grownBy w' v.ownBlock :=
  (markInt64S_c v L B k w h hk0 (by omega) (by omega)).mono fun _ _ ⟨h1, _, h3⟩ => ⟨h1, h3⟩
theorem markInt64S_m (v : Value) (L : List Int) (B : Nat) (k : Int) (w : World) (h : OwnI w B v L) (hk0 : 0 ≤ k) (hk : k ≤ 1099511627776) (hn : L.length ≤ 1048576) :
    Calls Tryz.prog 17 #[v, .int .i64 k] w fun e w' => e = .returned (.int .i64 (k + L.length)) ∧ OwnI w' B v (imarks k L.length) ∧ w.grownBy w' v.ownBlock :=
  markInt64S_c v L B k w h hk0 (by omega) (by omega)
end Go.Proofs.YtkjmfkllmljdeaaGreat

/- The laws' marks on rows of inferences: markInferenceS, heldInferenceS. -/
namespace Go.Proofs.YtkjmfkllmljdeaaGreat
open Go.RowKit

def dd0 : Jf := (0, [], [], ByteArray.empty, ByteArray.empty)
/-- The number at which the marks of the j-th step begin. -/
def dk (k : Int) (xs : List Jf) : Nat → Int
  | 0 => k
  | j + 1 => dk k xs j + 3 + ((xs.getD j dd0).2.1.length : Int) + ((xs.getD j dd0).2.2.1.length : Int)
theorem dk_zero (k : Int) (xs : List Jf) : dk k xs 0 = k := rfl
theorem dk_succ {k : Int} {xs : List Jf} {j : Nat} {x : Jf} (h : xs[j]? = some x) : dk k xs (j + 1) = dk k xs j + 3 + (x.2.1.length : Int) + (x.2.2.1.length : Int) := by
  rw [dk]
  simp [List.getD, h]
theorem dk_le {k : Int} {xs : List Jf} (hf : FitsJf xs) : ∀ j, j ≤ xs.length → k ≤ dk k xs j ∧ dk k xs j ≤ k + 2097155 * (j : Int) := by
  intro j
  induction j with
  | zero => intro _; rw [dk_zero]; omega
  | succ j ih =>
    intro hj
    obtain ⟨h1, h2⟩ := ih (by omega)
    have hx : xs[j]? = some xs[j] := List.getElem?_eq_getElem (by omega)
    obtain ⟨f1, f2, _⟩ := hf xs[j] (List.getElem_mem (by omega))
    rw [dk_succ hx]
    omega
/-- A step with marks from k on. -/
def dmk (k : Int) (x : Jf) : Jf := (k, imarks (k + 1) x.2.1.length, smarks (k + 1 + x.2.1.length) x.2.2.1.length, mtx (k + 1 + x.2.1.length + x.2.2.1.length), mtx (k + 1 + x.2.1.length + x.2.2.1.length + 1))
/-- The inferences of which the first j bear marks. -/
def mixl (k : Int) (xs : List Jf) (j : Nat) : List Jf := (List.range xs.length).map fun i => if i < j then dmk (dk k xs i) (xs.getD i dd0) else xs.getD i dd0
theorem mixl_len (k : Int) (xs : List Jf) (j : Nat) : (mixl k xs j).length = xs.length := by simp [mixl]
theorem mixl_at {k : Int} {xs : List Jf} {i j : Nat} {x : Jf} (h : xs[i]? = some x) : (mixl k xs j)[i]? = some (if i < j then dmk (dk k xs i) x else x) := by
  have hi := (List.getElem?_eq_some_iff.1 h).1
  unfold mixl
  rw [List.getElem?_map, List.getElem?_range hi]
  have e : xs.getD i dd0 = x := by simp [List.getD, h]
  simp only [Option.map_some, e]
theorem mixl_zero (k : Int) (xs : List Jf) : mixl k xs 0 = xs := by
  apply List.ext_getElem? 
  intro i
  cases h : xs[i]? with
  | none => exact List.getElem?_eq_none (by rw [mixl_len]; exact List.getElem?_eq_none_iff.1 h)
  | some x => rw [mixl_at h, if_neg (by omega)]
def ddmarks (k : Int) (xs : List Jf) : List Jf := mixl k xs xs.length
theorem ddmarks_len (k : Int) (xs : List Jf) : (ddmarks k xs).length = xs.length := mixl_len k xs _
theorem ddmarks_at {k : Int} {xs : List Jf} {i : Nat} {x : Jf} (h : xs[i]? = some x) : (ddmarks k xs)[i]? = some (dmk (dk k xs i) x) := by
  unfold ddmarks
  rw [mixl_at h, if_pos (List.getElem?_eq_some_iff.1 h).1]

theorem own_types {w : World} {B B' : Nat} {e e' : TypeId} {k n k' n' : Nat} {v v' : Value} {xs xs' : List Value} (h : w.ownsRow B e k v n xs) (h' : w.ownsRow B' e' k' v' n' xs') (hne : e ≠ e') : Apart v v' := by
  intro g hg hg'
  rcases h'.2 with ⟨rfl, _⟩ | ⟨g', cap, cur, rfl, _, hh, _⟩
  · simp [Value.ownBlock] at hg'
  · have : g' = g := by simpa [Value.ownBlock] using hg'
    subst this
    exact own_ne h hh hne hg
/-- A row keeps its place while an apart one is written. -/
theorem own_apart {w w' : World} {B : Nat} {e : TypeId} {k n : Nat} {v r : Value} {xs : List Value} (h : w.ownsRow B e k v n xs) (hg : w.grownBy w' r.ownBlock) (ha : Apart r v) : w'.ownsRow B e k v n xs := own_row h hg ha
theorem tS_D : 9 ≠ 42 := by decide
theorem tI_D : 2 ≠ 42 := by decide
theorem tI_S : 2 ≠ 9 := by decide

theorem Dx.at1 {w : World} {lo hi n g j i : Nat} {ys : List Jf} {cur : Array Value} {ps us : Nat → Value} {x : Jf} {u : Value} (h : Dx w lo hi ys n cur ps us) (hh : w.heap[g]? = some (.cells cur 42 (0, 0))) (hj : j < n) (hx : ys[j]? = some x) :
    OwnI (w.setCell ⟨g, i, none⟩ u) lo (ps j) x.2.1 ∧ OwnS (w.setCell ⟨g, i, none⟩ u) lo (us j) x.2.2.1 := by
  obtain ⟨_, k2, k3⟩ := h.rows j x hj hx
  have ho : Only g w (w.setCell ⟨g, i, none⟩ u) := (Only.refl g w).setCell u
  exact ⟨own_only k2 ho (own_ne k2 hh tI_D), own_only k3 ho (own_ne k3 hh tS_D)⟩
theorem Dx.mark {w wb wc wd W : World} {lo hi n g j i : Nat} {ys ys' : List Jf} {cur cur' : Array Value} {ps us : Nat → Value} {x x' : Jf} {u : Value} (h : Dx w lo hi ys n cur ps us) (hh : w.heap[g]? = some (.cells cur 42 (0, 0))) (hj : j < n) (hx : ys[j]? = some x) (hx' : ys'[j]? = some x') (hys : ∀ i, i ≠ j → ys'[i]? = ys[i]?)
    (hb : (w.setCell ⟨g, i, none⟩ u).grownBy wb (ps j).ownBlock) (hP : OwnI wb lo (ps j) x'.2.1) (hc : wb.grownBy wc (us j).ownBlock) (hS : OwnS wc lo (us j) x'.2.2.1) (hd : Grew wc wd) (hW : Only g wd W) (hg : wd.heap[g]? = some (.cells cur' 42 (0, 0)))
    {curW : Array Value} (hn : JfRow curW (j * 5) x' (ps j) (us j)) (hk : ∀ i y up ua, i ≠ j → JfRow cur (i * 5) y up ua → JfRow curW (i * 5) y up ua) : Dx W lo hi ys' n curW ps us := by
  obtain ⟨b2, b3⟩ := h.at1 (i := i) (u := u) hh hj hx
  have c3 : OwnS wb lo (us j) x.2.2.1 := own_apart b3 hb (own_types b2 b3 tI_S)
  have hPc : OwnI wc lo (ps j) x'.2.1 := own_apart hP hc ((own_types hP c3 tI_S).symm)
  have hPd := hPc.grew hd
  have hSd := hS.grew hd
  refine ⟨fun k y hk1 hy => ?_, h.hiP, h.hiS, h.apP, h.apS⟩
  by_cases hkj : k = j
  · subst hkj
    have e : y = x' := Option.some.inj (hy.symm.trans hx')
    subst e
    exact ⟨hn, own_only hPd hW (own_ne hPd hg tI_D), own_only hSd hW (own_ne hSd hg tS_D)⟩
  · rw [hys k hkj] at hy
    obtain ⟨k1, _, _⟩ := h.rows k y hk1 hy
    obtain ⟨d2, d3⟩ := h.at1 (i := i) (u := u) hh hk1 hy
    have apP : Apart (ps j) (ps k) := by
      rcases Nat.lt_or_ge j k with h1 | h1
      · exact h.apP j k h1 hk1
      · exact (h.apP k j (by omega) hj).symm
    have apS : Apart (us j) (us k) := by
      rcases Nat.lt_or_ge j k with h1 | h1
      · exact h.apS j k h1 hk1
      · exact (h.apS k j (by omega) hj).symm
    have e2 : OwnI wb lo (ps k) y.2.1 := own_apart d2 hb apP
    have e3 : OwnS wb lo (us k) y.2.2.1 := own_apart d3 hb (own_types b2 d3 tI_S)
    have f2 : OwnI wc lo (ps k) y.2.1 := own_apart e2 hc ((own_types e2 c3 tI_S).symm)
    have f3 : OwnS wc lo (us k) y.2.2.1 := own_apart e3 hc apS
    have g2 := f2.grew hd
    have g3 := f3.grew hd
    exact ⟨hk k y _ _ hkj k1, own_only g2 hW (own_ne g2 hg tI_D), own_only g3 hW (own_ne g3 hg tS_D)⟩

/-- The row's cells behind the marks of a step. -/
theorem row_new {cur : Array Value} {j : Nat} {x : Jf} {up ua : Value} (r c n : Value) (x' : Jf) (h : JfRow cur (j * 5) x up ua) (hs : j * 5 + 4 < cur.size) (hr : r = .int .i64 x'.1) (hc : c = .string x'.2.2.2.1) (hn : n = .string x'.2.2.2.2) :
    JfRow (((cur.setIfInBounds (j * 5) r).setIfInBounds (j * 5 + 3) c).setIfInBounds (j * 5 + 4) n) (j * 5) x' up ua := by
  obtain ⟨h0, h1, h2, h3, h4⟩ := h
  subst hr hc hn
  unfold JfRow
  simp only [Array.getElem?_setIfInBounds, Array.size_setIfInBounds]
  refine ⟨?_, ?_, ?_, ?_, ?_⟩
  · rw [if_neg (by omega), if_neg (by omega), if_pos trivial, if_pos (by omega)]
  · rw [if_neg (by omega), if_neg (by omega), if_neg (by omega)]; exact h1
  · rw [if_neg (by omega), if_neg (by omega), if_neg (by omega)]; exact h2
  · rw [if_neg (by omega), if_pos trivial, if_pos (by omega)]
  · rw [if_pos trivial, if_pos (by omega)]
theorem row_keep {cur : Array Value} {i j : Nat} {y : Jf} {up ua r c n : Value} (hij : i ≠ j) (h : JfRow cur (i * 5) y up ua) : JfRow (((cur.setIfInBounds (j * 5) r).setIfInBounds (j * 5 + 3) c).setIfInBounds (j * 5 + 4) n) (i * 5) y up ua := by
  obtain ⟨h0, h1, h2, h3, h4⟩ := h
  unfold JfRow
  simp only [Array.getElem?_setIfInBounds, Array.size_setIfInBounds]
  refine ⟨?_, ?_, ?_, ?_, ?_⟩
  · rw [if_neg (by omega), if_neg (by omega), if_neg (by omega)]; exact h0
  · rw [if_neg (by omega), if_neg (by omega), if_neg (by omega)]; exact h1
  · rw [if_neg (by omega), if_neg (by omega), if_neg (by omega)]; exact h2
  · rw [if_neg (by omega), if_neg (by omega), if_neg (by omega)]; exact h3
  · rw [if_neg (by omega), if_neg (by omega), if_neg (by omega)]; exact h4

set_option maxHeartbeats 4000000 in
theorem markInferenceS_x (v : Value) (xs : List Jf) (lo hi : Nat) (k : Int) (w : World) (h : OwnDx w lo hi v xs) (hf : FitsJf xs) (hk0 : 0 ≤ k) (hk : k ≤ 35184372088832) (hn : xs.length ≤ 1048576) :
    Calls Tryz.prog 16 #[v, .int .i64 k] w fun e w' => e = .returned (.int .i64 (dk k xs xs.length)) ∧ OwnDx w' lo hi v (ddmarks k xs) ∧ Span lo hi w w' := by
  rcases h with ⟨rfl, rfl⟩ | ⟨g, c, cur0, ps, us, rfl, hlo, hhi, hh0, hnc, hcm, hcs0, hD0⟩
  · go_enter Tryz.func16, Tryz.ntmps16
    go_wp2_with fail
    refine wp_loop_rounds 1 ?_; rw [rounds_succ]
    go_wp2_with fail
    go_ret
    exact ⟨rfl, .inl ⟨rfl, rfl⟩, Span.refl _ _ _⟩
  · have HE : Hid (∀ cur w', w'.heap[g]? = some (.cells cur 42 (0, 0)) → cur.size = c * 5 → Dx w' lo hi (mixl k xs xs.length) xs.length cur ps us → OwnDx w' lo hi (.slice (some ⟨g, 0, none⟩) xs.length c) (ddmarks k xs)) := Lib.hid (fun cur w' h1 h2 h3 => .inr ⟨g, c, cur, ps, us, by rw [ddmarks_len], hlo, hhi, h1, by rw [ddmarks_len]; exact hnc, hcm, h2, by rw [ddmarks_len]; exact h3⟩)
    have HX := Lib.hid (fun j (hj : j < xs.length) => (⟨xs[j], List.getElem?_eq_getElem hj, hf _ (List.getElem_mem hj)⟩ : ∃ x, xs[j]? = some x ∧ FitJf x))
    have HL := Lib.hid (fun j (hj : j ≤ xs.length) => @dk_le k xs hf j hj)
    have HS := Lib.hid (fun j x (hx : xs[j]? = some x) => @dk_succ k xs j x hx)
    have HM := Lib.hid (fun i j x (hx : xs[i]? = some x) => @mixl_at k xs i j x hx)
    have HMN : Hid (∀ i j, xs[i]? = none → (mixl k xs j)[i]? = none) := Lib.hid (fun i j h => List.getElem?_eq_none (by rw [mixl_len]; exact List.getElem?_eq_none_iff.1 h))
    have hD1 : Hid (Dx w lo hi (mixl k xs 0) xs.length cur0 ps us) := Lib.hid (by rw [mixl_zero]; exact hD0)
    have hz0 := dk_zero k xs
    have HZ := Lib.hid hz0
    clear hf hD0 hz0
    generalize hN : xs.length = n at *
    have HN := Lib.hid hN
    clear hN
    go_enter Tryz.func16, Tryz.ntmps16
    go_wp2_with fail
    go_loopw [1, 5] (fun kk i wr => ∃ (j : Nat) (cur : Array Value), j ≤ n ∧ i = .int .i64 j ∧ kk = .int .i64 (dk k xs j) ∧ Hid (wr.heap[g]? = some (.cells cur 42 (0, 0))) ∧ cur.size = c * 5 ∧ Hid (Dx wr lo hi (mixl k xs j) n cur ps us) ∧ Hid (Span lo hi w wr)) (fun _ i _ => n - (intOf i).toNat)
    case atStart => exact ⟨0, cur0, Nat.zero_le _, rfl, by rw [HZ.out], hh0, hcs0, hD1, Span.refl _ _ _⟩
    case round =>
      obtain ⟨j, cur, hj, rfl, rfl, HH, hcs, HD, HSp⟩ := hrel
      by_cases hlt : j < n
      · obtain ⟨x, hx, hfx⟩ := HX.out j hlt
        have hmj : (mixl k xs j)[j]? = some x := by rw [HM.out j j x hx, if_neg (by omega)]
        have hmj1 : (mixl k xs (j + 1))[j]? = some (dmk (dk k xs j) x) := by rw [HM.out j (j + 1) x hx, if_pos (by omega)]
        have hmo : ∀ i, i ≠ j → (mixl k xs (j + 1))[i]? = (mixl k xs j)[i]? := fun i hij => by
          cases hxi : xs[i]? with
          | none => rw [HMN.out i _ hxi, HMN.out i _ hxi]
          | some y =>
            rw [HM.out i _ y hxi, HM.out i _ y hxi]
            by_cases hlt2 : i < j
            · rw [if_pos hlt2, if_pos (by omega)]
            · rw [if_neg hlt2, if_neg (by omega)]
        obtain ⟨hb1, hb2⟩ := HL.out j (by omega)
        obtain ⟨hb3, hb4⟩ := HL.out (j + 1) (by omega)
        have hsu := HS.out j x hx
        obtain ⟨f1, f2, _, _⟩ := hfx
        obtain ⟨k1, k2, k3⟩ := HD.out.rows j x hlt hmj
        have hA := HD.out.at1 (i := j * 5) (u := .int .i64 (dk k xs j)) HH.out hlt hmj
        have HK1 := Lib.hid k1
        have HMJ := Lib.hid hmj
        have HMJ1 := Lib.hid hmj1
        have HMO := Lib.hid hmo
        have KI := Lib.hid (markInt64S_c (ps j) x.2.1 lo (dk k xs j + 1) _ hA.1 (by omega) (by omega) (by omega))
        have KS : Hid (∀ W, OwnS W lo (us j) x.2.2.1 → Calls Tryz.prog 28 #[us j, .int .i64 (dk k xs j + 1 + x.2.1.length)] W fun e w' => e = .returned (.int .i64 (dk k xs j + 1 + x.2.1.length + x.2.2.1.length)) ∧ OwnS w' lo (us j) (smarks (dk k xs j + 1 + x.2.1.length) x.2.2.1.length) ∧ W.grownBy w' (us j).ownBlock) := Lib.hid (fun W hW => markStringS_m (us j) x.2.2.1 lo (dk k xs j + 1 + x.2.1.length) W hW (by omega) (by omega) (by omega))
        have KT := Lib.hid (fun W => markTextD_c (dk k xs j + 1 + x.2.1.length + x.2.2.1.length) W (by omega) (by omega))
        have KT2 := Lib.hid (fun W => markTextD_c (dk k xs j + 1 + x.2.1.length + x.2.2.1.length + 1) W (by omega) (by omega))
        have HSU := Lib.hid hsu
        have HA := Lib.hid hA
        have c0 : ∃ u, wr.cell? ⟨g, j * 5, none⟩ = some u := ⟨_, (blk_cell HH.out _).trans k1.1⟩
        obtain ⟨u0, hu0⟩ := c0
        have ff : ∀ i, wr.frozen? ⟨g, i, none⟩ = false := fun i => blk_frozen HH.out i
        have HH1 := Lib.hid (blk_set HH.out (j * 5) (.int .i64 (dk k xs j)))
        have c1 : (wr.setCell ⟨g, j * 5, none⟩ (.int .i64 (dk k xs j))).cell? ⟨g, j * 5 + 1, none⟩ = some (ps j) := (blk_cell HH1.out _).trans (by rw [Array.getElem?_setIfInBounds, if_neg (by omega)]; exact k1.2.1)
        have hpo := HD.out.hiP j
        have hso := HD.out.hiS j
        have HPO := Lib.hid (fun b (hb : (ps j).ownBlock = some b) => hpo b hlt hb)
        have HSO := Lib.hid (fun b (hb : (us j).ownBlock = some b) => hso b hlt hb)
        have nb1 : (ps j).ownBlock ≠ some g := own_ne hA.1 HH1.out tI_D
        have nb2 : (us j).ownBlock ≠ some g := own_ne hA.2 HH1.out tS_D
        have NB1 := Lib.hid nb1
        have NB2 := Lib.hid nb2
        have HP0 := Lib.hid (fun b (hb : (ps j).ownBlock = some b) => own_of_ge k2 hb)
        have HS0 := Lib.hid (fun b (hb : (us j).ownBlock = some b) => own_of_ge k3 hb)
        have hk3 : cur[j * 5 + 2]? = some (us j) := k1.2.2.1
        have HK3 := Lib.hid hk3
        have hjs : j * 5 + 4 < cur.size := by omega
        clear hA k1 k2 k3 hmj hmj1 hmo hsu hpo hso hx nb1 nb2 hk3
        generalize hdj : dk k xs j = dj at *
        have HDJ := Lib.hid hdj
        clear hdj
        generalize hlp : x.2.1.length = lp at *
        have HLP := Lib.hid hlp
        clear hlp
        generalize hls : x.2.2.1.length = ls at *
        have HLS := Lib.hid hls
        clear hls
        generalize hpj : ps j = vp at *
        have HPJ := Lib.hid hpj
        clear hpj
        generalize huj : us j = vu at *
        have HUJ := Lib.hid huj
        clear huj
        go_wp2_with fail
        refine (KI.out).mono ?_
        rintro e wb ⟨rfl, hPb, hbr⟩
        have HPb := Lib.hid hPb
        have HBR := Lib.hid hbr
        have hgb := (hbr.block g (blk_lt HH1.out) (fun e => NB1.out e.symm)).trans HH1.out
        have HGB := Lib.hid hgb
        have c2 : wb.cell? ⟨g, j * 5 + 2, none⟩ = some vu := (blk_cell hgb _).trans (by rw [Array.getElem?_setIfInBounds, if_neg (by omega)]; exact HK3.out)
        have S2 := Lib.hid (own_apart HA.out.2 hbr (own_types HA.out.1 HA.out.2 tI_S))
        clear hPb hbr hgb c1
        go_wp2_with fail
        refine (KS.out _ S2.out).mono ?_
        rintro e wc ⟨rfl, hSc, hcr⟩
        have HSc := Lib.hid hSc
        have HCR := Lib.hid hcr
        have hgc := (hcr.block g (blk_lt HGB.out) (fun e => NB2.out e.symm)).trans HGB.out
        have HGC := Lib.hid hgc
        clear hSc hcr hgc c2
        go_wp2_with fail
        refine (KT.out _).mono ?_
        rintro e wd ⟨rfl, hgd⟩
        have HGD0 := Lib.hid hgd
        have hgd5 := (hgd.block (blk_lt HGC.out)).trans HGC.out
        have fd : ∀ i, wd.frozen? ⟨g, i, none⟩ = false := fun i => blk_frozen hgd5 i
        obtain ⟨u3, hu3⟩ : ∃ u, wd.cell? ⟨g, j * 5 + 3, none⟩ = some u := by
          rw [blk_cell hgd5]
          exact ⟨_, Array.getElem?_eq_getElem (by simp; omega)⟩
        have HGD := Lib.hid hgd5
        have HG3 := Lib.hid (blk_set hgd5 (j * 5 + 3) (.string (mtx (dj + 1 + lp + ls))))
        clear hgd5 hgd ff
        go_wp2_with fail
        refine (KT2.out _).mono ?_
        rintro e we ⟨rfl, hge⟩
        have HGE0 := Lib.hid hge
        have hge5 := (hge.block (blk_lt HG3.out)).trans HG3.out
        have fe : ∀ i, we.frozen? ⟨g, i, none⟩ = false := fun i => blk_frozen hge5 i
        obtain ⟨u4, hu4⟩ : ∃ u, we.cell? ⟨g, j * 5 + 4, none⟩ = some u := by
          rw [blk_cell hge5]
          exact ⟨_, Array.getElem?_eq_getElem (by simp; omega)⟩
        have HGE := Lib.hid hge5
        clear hge5 hge fd
        go_wp2_with fail
        go_roundw
        case rel =>
          have hW := (Only.refl g wd).setCell (o := j * 5 + 3) (.string (mtx (dj + 1 + lp + ls)))
          have hW2 := (hW.trans HGE0.out.only).setCell (o := j * 5 + 4) (.string (mtx (dj + 1 + lp + ls + 1)))
          refine ⟨j + 1, _, by omega, by go_num, congrArg (Value.int .i64) (by have := HSU.out; omega), blk_set HGE.out _ _, by simp [hcs], ?_, ?_⟩
          · have hm := HMJ1.out
            refine HD.out.mark (x := x) (x' := dmk dj x) (i := j * 5) (u := .int .i64 dj) HH.out hlt HMJ.out hm HMO.out (by rw [HPJ.out]; exact HBR.out) (by rw [HPJ.out]; unfold dmk; rw [HLP.out]; exact HPb.out) (by rw [HUJ.out]; exact HCR.out) (by rw [HUJ.out]; unfold dmk; rw [HLP.out, HLS.out]; exact HSc.out) HGD0.out hW2 HGD.out ?_ (fun i y up ua hij hr => row_keep hij hr)
            rw [HPJ.out, HUJ.out]
            exact row_new _ _ _ (dmk dj x) HK1.out hjs rfl (by unfold dmk; rw [HLP.out, HLS.out]) (by unfold dmk; rw [HLP.out, HLS.out])
          · have s0 : Span lo hi wr (wr.setCell ⟨g, j * 5, none⟩ (.int .i64 dj)) := Span.of_only ((Only.refl g wr).setCell _) hlo hhi
            exact ((((HSp.out.trans s0).trans (Span.of_row HBR.out fun b hb => ⟨HP0.out b hb, HPO.out b hb⟩)).trans (Span.of_row HCR.out fun b hb => ⟨HS0.out b hb, HSO.out b hb⟩)).grew HGD0.out).trans (Span.of_only hW2 hlo hhi)
        case measure => simp [intOf]; omega
      · obtain rfl : j = n := by omega
        have HE1 := Lib.hid (HE.out cur wr HH.out hcs)
        go_wp2_with fail
        go_ret
        exact ⟨rfl, HE1.out HD.out, HSp.out⟩

end Go.Proofs.YtkjmfkllmljdeaaGreat

/- The law FnExactRuleCounts, walked. -/
namespace Go.Proofs.YtkjmfkllmljdeaaGreat
open Go.RowKit

theorem lawRc_c (v0 : Value) (L0 : List Jf) (w : World) (h0 : ArgJf w v0 L0) :
    Calls Tryz.prog 5 #[v0] w fun e w' => e = .returned (.bool true) ∧ Grew w w' := by
  have Z0 := Lib.hid (fun W l (hW : Grew w W) (a0 : 0 ≤ l) (a1 : l ≤ 1048576) => szInferenceS_c v0 L0 l W (h0.grew hW) a0 a1)
  have T0 := Lib.hid (fun W (hW : Grew w W) => toInferenceS_x v0 L0 W (h0.grew hW))
  clear h0
  go_enter Tryz.func5, Tryz.ntmps5
  go_wp2_with fail
  refine (Z0.out _ _ (Grew.refl w) (by omega) (by omega)).mono ?_
  rintro e w1 ⟨r0, rfl, ⟨hm0, hs0⟩, hg1⟩
  have z1 := Lib.hid hg1.size
  have g1 : Grew w w1 := (Grew.refl w).trans hg1
  clear hg1
  by_cases hr0 : r0 < 0
  · clear hs0
    go_wp2_with fail
    go_ret
    exact ⟨rfl, g1⟩
  obtain ⟨hn0, hf0⟩ := hs0 (by omega)
  have F0 : Hid (FitsJf L0) := Lib.hid hf0
  clear hs0 hf0
  have KS := Lib.hid (fun u0 W x0 => specRc_c u0 L0 W x0 F0.out (by omega))
  have KI := Lib.hid (fun u0 W x0 => implRc_c u0 L0 W x0 F0.out (by omega))
  have hlen := rcF_len (xs := L0) (by omega)
  generalize rcF L0 = rr at *
  obtain ⟨xs, c⟩ := rr
  simp only at hlen
  unfold GivesRc at KS KI
  simp only at KS KI
  have hcc : (c != c) = false := by simp
  go_wp2_with fail
  refine (T0.out _ g1 hn0 F0.out).mono ?_
  rintro e w2 ⟨a0, rfl, oa0, hg2⟩
  have z2 := Lib.hid hg2.size
  have g2 : Grew w w2 := g1.trans hg2
  clear hg2
  go_wp2_with fail
  refine (KS.out _ _ oa0.rd).mono ?_
  rintro e w3 ⟨q0, rfl, hq, hg3⟩
  have HQB := Lib.hid (fun g (hg : q0.ownBlock = some g) => (hq.lt g hg).2)
  have z3 := Lib.hid hg3.size
  have g3 : Grew w w3 := g2.trans hg3
  clear hg3 oa0
  go_wp2_with fail
  refine (T0.out _ g3 hn0 F0.out).mono ?_
  rintro e w4 ⟨x0, rfl, ox0, hg4⟩
  have z4 := Lib.hid hg4.size
  have g4 : Grew w w4 := g3.trans hg4
  replace hq := hq.grew hg4
  clear hg4
  go_wp2_with fail
  refine (KI.out _ _ ox0.rd).mono ?_
  rintro e w5 ⟨g0, rfl, hog, hg5⟩
  have HGB := Lib.hid (fun g (hg : g0.ownBlock = some g) => (hog.lt g hg).1)
  have z5 := Lib.hid hg5.size
  have g5 : Grew w w5 := g4.trans hg5
  replace hq := hq.grew hg5
  replace ox0 := ox0.grew hg5
  clear hg5
  go_wp2_with fail
  refine (eqInt64S_yes _ _ xs _ hog.ints hq.ints (by omega)).mono ?_
  rintro e w6 ⟨rfl, hg6⟩
  have z6 := Lib.hid hg6.size
  have g6 : Grew w w6 := g5.trans hg6
  replace hq := hq.grew hg6
  replace ox0 := ox0.grew hg6
  replace hog := hog.grew hg6
  clear hg6
  go_wp2_with fail
  refine (T0.out _ g6 hn0 F0.out).mono ?_
  rintro e w7 ⟨y0, rfl, oy0, hg7⟩
  have z7 := Lib.hid hg7.size
  have g7 : Grew w w7 := g6.trans hg7
  replace hq := hq.grew hg7
  replace ox0 := ox0.grew hg7
  replace hog := hog.grew hg7
  clear hg7
  go_wp2_with fail
  refine (eqInferenceS_yes _ _ L0 _ ox0.rd oy0.rd (by omega) F0.out).mono ?_
  rintro e w8 ⟨rfl, hg8⟩
  have z8 := Lib.hid hg8.size
  have g8 : Grew w w8 := g7.trans hg8
  replace hq := hq.grew hg8
  replace ox0 := ox0.grew hg8
  replace hog := hog.grew hg8
  clear hg8 oy0
  have hdk0 := dk_le (k := 1) F0.out L0.length (Nat.le_refl _)
  go_wp2_with fail
  refine (markInferenceS_x _ L0 _ _ (1) _ ox0 F0.out (by omega) (by omega) (by omega)).mono ?_
  rintro e w9 ⟨rfl, _, hsp⟩
  replace hq : OwnI w9 _ q0 xs := hsp.own hq (fun g hg => .inl (by have h1 := HQB.out g hg; have y1 := z1.out; have y2 := z2.out; have y3 := z3.out; have y4 := z4.out; omega))
  replace hog : OwnI w9 _ g0 xs := hsp.own hog (fun g hg => .inr (by have h1 := HGB.out g hg; have y1 := z1.out; have y2 := z2.out; have y3 := z3.out; have y4 := z4.out; omega))
  have g9 : Grew w w9 := hsp.old g8 (by have y1 := z1.out; have y2 := z2.out; have y3 := z3.out; have y4 := z4.out; omega)
  clear hsp ox0
  generalize hkk0 : dk 1 L0 L0.length = kk0 at *
  clear hkk0
  go_wp2_with fail
  refine (eqInt64S_yes _ _ xs _ hog.ints hq.ints (by omega)).mono ?_
  rintro e w10 ⟨rfl, hg10⟩
  have z10 := Lib.hid hg10.size
  have g10 : Grew w w10 := g9.trans hg10
  replace hq := hq.grew hg10
  replace hog := hog.grew hg10
  clear hg10
  go_wp2_with fail
  refine (markInt64S_m _ xs _ 1 _ hog (by omega) (by omega) (by omega)).mono ?_
  rintro e w11 ⟨rfl, hog, hrow⟩
  replace hq : OwnI w11 _ q0 xs := own_row hq hrow (fun g hg hg2 => by have h1 := HQB.out g hg2; have h2 := HGB.out g hg; have y1 := z1.out; have y2 := z2.out; have y3 := z3.out; have y4 := z4.out; omega)
  have g11 : Grew w w11 := grew_row g10 hrow (fun g hg => by have h2 := HGB.out g hg; have y1 := z1.out; have y2 := z2.out; have y3 := z3.out; have y4 := z4.out; omega)
  clear hrow
  go_wp2_with fail
  refine (heldInt64S_c _ xs.length 1 _ hog.ints (by omega) (by omega) (by omega)).mono ?_
  rintro e w12 ⟨rfl, hg12⟩
  have z12 := Lib.hid hg12.size
  have g12 : Grew w w12 := g11.trans hg12
  replace hq := hq.grew hg12
  replace hog := hog.grew hg12
  clear hg12
  go_wp2_with fail
  refine (T0.out _ g12 hn0 F0.out).mono ?_
  rintro e w13 ⟨b0, rfl, ob0, hg13⟩
  have z13 := Lib.hid hg13.size
  have g13 : Grew w w13 := g12.trans hg13
  replace hq := hq.grew hg13
  replace hog := hog.grew hg13
  clear hg13
  go_wp2_with fail
  refine (KI.out _ _ ob0.rd).mono ?_
  rintro e w14 ⟨h0, rfl, hoh, hg14⟩
  have z14 := Lib.hid hg14.size
  have g14 : Grew w w14 := g13.trans hg14
  replace hq := hq.grew hg14
  replace hog := hog.grew hg14
  clear hg14
  go_wp2_with fail
  refine (eqInt64S_yes _ _ xs _ hoh.ints hq.ints (by omega)).mono ?_
  rintro e w15 ⟨rfl, hg15⟩
  have z15 := Lib.hid hg15.size
  have g15 : Grew w w15 := g14.trans hg15
  replace hq := hq.grew hg15
  replace hog := hog.grew hg15
  replace hoh := hoh.grew hg15
  clear hg15
  go_wp2_with fail
  refine (heldInt64S_c _ xs.length 1 _ hog.ints (by omega) (by omega) (by omega)).mono ?_
  rintro e w16 ⟨rfl, hg16⟩
  go_wp2_with fail
  go_ret
  exact ⟨rfl, g15.trans hg16⟩
end Go.Proofs.YtkjmfkllmljdeaaGreat

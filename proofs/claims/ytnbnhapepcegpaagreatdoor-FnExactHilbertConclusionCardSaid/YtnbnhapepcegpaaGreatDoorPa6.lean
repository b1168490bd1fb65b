/- Texts in one file: CmpI ShelfI SrtI HpN HbS HpB HlTo HlSz LawHb ArgN ArgHl HcP HcI RowLem Span Eq HlX LawHc. -/
import Derived.Lib.OwnBridge
import Derived.Lib.RowBridge
import Derived.Sort.OwnSortedInts
import Derived.Ground.SlgnProg
import Derived.Shelf.SlicesG.CompactI
import Derived.Ground.SlgmProg
import Derived.Shelf.SortM.Plain
import Derived.Shelf.SortM.SortNone
import Derived.Test.YtnbnhapepcegpaaGreatDoorProg
import Derived.Deep.RegionLaw
import Derived.Deep.RegionHeld3
import Derived.Deep.SlicePairs
import Derived.Lib.SmallJoins
import Derived.Carry
import Derived.ProofKit
import Derived.Test.YtnbnhapepcegpaaGreatDoorPa1
import Derived.Test.YtnbnhapepcegpaaGreatDoorPa2
import Derived.Test.YtnbnhapepcegpaaGreatDoorPa3
import Derived.Test.YtnbnhapepcegpaaGreatDoorPa4
import Derived.Test.YtnbnhapepcegpaaGreatDoorPa5
set_option linter.all false

/- Sorting numbers and dropping repeats: the ascending list of them. No program is in sight. -/
namespace Go.Proofs.YtnbnhapepcegpaaGreatDoor
open Go.RowKit Go.Sort

theorem upTo_lt (d : Array Int) (hs : ∀ i j, i ≤ j → j < d.size → d[i]! ≤ d[j]!) : ∀ m, m ≤ d.size → (Lib.compactUpTo d m).Pairwise (· < ·) ∧ (∀ x ∈ Lib.compactUpTo d m, ∃ i, i < m ∧ x = d[i]!) ∧ (∀ i, i < m → d[i]! ∈ Lib.compactUpTo d m)
  | 0, _ => ⟨by simp [Lib.compactUpTo], fun x hx => by simp [Lib.compactUpTo] at hx, fun i hi => by omega⟩
  | m + 1, hm => by
    obtain ⟨h1, h2, h3⟩ := upTo_lt d hs m (by omega)
    rw [Lib.compactUpTo_succ]
    by_cases hk : Lib.keeps d m = true
    · rw [if_pos hk]
      have hlt : ∀ i, i < m → d[i]! < d[m]! := fun i hi => by
        have h4 := hs i (m - 1) (by omega) (by omega)
        have h5 := hs (m - 1) m (by omega) (by omega)
        have h6 : ¬ d[m]! = d[m - 1]! := fun e => by
          rw [Lib.keeps_neg (by omega) e] at hk
          cases hk
        omega
      refine ⟨?_, fun x hx => ?_, fun i hi => ?_⟩
      · rw [List.pairwise_append]
        refine ⟨h1, List.pairwise_singleton _ _, fun x hx y hy => ?_⟩
        obtain ⟨i, hi, rfl⟩ := h2 x hx
        obtain rfl : y = d[m]! := by simpa using hy
        exact hlt i hi
      · rcases List.mem_append.1 hx with hx | hx
        · obtain ⟨i, hi, rfl⟩ := h2 x hx
          exact ⟨i, by omega, rfl⟩
        · exact ⟨m, by omega, by simpa using hx⟩
      · by_cases hi2 : i < m
        · exact List.mem_append_left _ (h3 i hi2)
        · obtain rfl : i = m := by omega
          simp
    · rw [if_neg hk, List.append_nil]
      refine ⟨h1, fun x hx => ?_, fun i hi => ?_⟩
      · obtain ⟨i, hi, rfl⟩ := h2 x hx
        exact ⟨i, by omega, rfl⟩
      · by_cases hi2 : i < m
        · exact h3 i hi2
        · obtain rfl : i = m := by omega
          by_cases h0 : i = 0
          · subst h0
            exact absurd (Lib.keeps_lt_one d 0 (by omega)) hk
          · have : d[i]! = d[i - 1]! := by
              by_cases e : d[i]! = d[i - 1]!
              · exact e
              · exact absurd (Lib.keeps_pos e) hk
            rw [this]
            exact h3 (i - 1) (by omega)

theorem arr_get {L : List Int} {i : Nat} (h : i < L.length) : L.toArray[i]! = L[i] := by
  rw [getElem!_pos L.toArray i (by simpa using h)]
  simp
/-- Numbers in ascending order, each once. -/
def srt (L : List Int) : List Int := Lib.compact (L.mergeSort fun x y => decide (x ≤ y))
theorem sorted_at {L : List Int} (h : L.Pairwise (· ≤ ·)) {i j : Nat} (hij : i ≤ j) (hj : j < L.toArray.size) : L.toArray[i]! ≤ L.toArray[j]! := by
  have hj2 : j < L.length := by simpa using hj
  by_cases e : i = j
  · subst e; omega
  · have := List.pairwise_iff_getElem.1 h i j (by omega) hj2 (by omega)
    have h1 : L.toArray[i]! = L[i]'(by omega) := arr_get (by omega)
    have h2 : L.toArray[j]! = L[j]'(by omega) := arr_get hj2
    rw [h1, h2]
    exact this
theorem merge_sorted (L : List Int) : (L.mergeSort fun x y => decide (x ≤ y)).Pairwise (· ≤ ·) := by
  have h := List.pairwise_mergeSort (le := fun x y : Int => decide (x ≤ y)) (fun a b c h1 h2 => by simp at h1 h2 ⊢; omega) (fun a b => by simp; omega) L
  exact h.imp (fun h => by simpa using h)
theorem srt_lt (L : List Int) : (srt L).Pairwise (· < ·) :=
  (upTo_lt _ (fun _ _ h1 h2 => sorted_at (merge_sorted L) h1 h2) _ (by simp)).1
theorem srt_mem (L : List Int) (x : Int) : x ∈ srt L ↔ x ∈ L := by
  obtain ⟨_, h2, h3⟩ := upTo_lt (L.mergeSort fun x y => decide (x ≤ y)).toArray (fun _ _ h1 h2 => sorted_at (merge_sorted L) h1 h2) (L.mergeSort fun x y => decide (x ≤ y)).length (by simp)
  have hp := (List.mergeSort_perm L fun x y => decide (x ≤ y)).mem_iff (a := x)
  rw [← hp]
  constructor
  · intro h
    obtain ⟨i, hi, rfl⟩ := h2 x h
    have : (L.mergeSort fun x y => decide (x ≤ y)).toArray[i]! = (L.mergeSort fun x y => decide (x ≤ y))[i] := arr_get hi
    rw [this]
    exact List.getElem_mem _
  · intro h
    obtain ⟨i, hi, he⟩ := List.getElem_of_mem h
    have := h3 i hi
    have e : (L.mergeSort fun x y => decide (x ≤ y)).toArray[i]! = (L.mergeSort fun x y => decide (x ≤ y))[i] := arr_get hi
    rw [e, he] at this
    exact this
theorem srt_nil : srt [] = [] := by simp [srt, Lib.compact, Lib.compactUpTo]
theorem srt_len (L : List Int) : (srt L).length ≤ L.length := by
  unfold srt
  have := Lib.compact_length_le (L.mergeSort fun x y => decide (x ≤ y))
  rwa [List.length_mergeSort] at this
/-- Ascending lists with the same members are the same. -/
theorem asc_ext : ∀ {L M : List Int}, L.Pairwise (· < ·) → M.Pairwise (· < ·) → (∀ x, x ∈ L ↔ x ∈ M) → L = M
  | [], [], _, _, _ => rfl
  | [], b :: M, _, _, h => absurd ((h b).2 (by simp)) (by simp)
  | a :: L, [], _, _, h => absurd ((h a).1 (by simp)) (by simp)
  | a :: L, b :: M, h1, h2, h => by
    obtain ⟨h3, h4⟩ := List.pairwise_cons.1 h1
    obtain ⟨h5, h6⟩ := List.pairwise_cons.1 h2
    have hab : a = b := by
      have ha := (h a).1 (by simp)
      have hb := (h b).2 (by simp)
      rcases List.mem_cons.1 ha with e | ha
      · exact e
      rcases List.mem_cons.1 hb with e | hb
      · exact e.symm
      have := h5 a ha
      have := h3 b hb
      omega
    subst hab
    congr 1
    refine asc_ext h4 h6 fun x => ⟨fun hx => ?_, fun hx => ?_⟩
    · rcases List.mem_cons.1 ((h x).1 (List.mem_cons_of_mem _ hx)) with e | hx2
      · have := h3 x hx; omega
      · exact hx2
    · rcases List.mem_cons.1 ((h x).2 (List.mem_cons_of_mem _ hx)) with e | hx2
      · have := h5 x hx; omega
      · exact hx2
/-- The numbers below n of a kind. -/
def below (n : Nat) (p : Nat → Bool) : List Int := ((List.range n).filter p).map fun i : Nat => (i : Int)
theorem below_zero (p : Nat → Bool) : below 0 p = [] := rfl
theorem below_yes {n : Nat} {p : Nat → Bool} (h : p n = true) : below (n + 1) p = below n p ++ [(n : Int)] := by
  unfold below
  rw [List.range_succ, List.filter_append, List.map_append, List.filter_cons, h]
  rfl
theorem below_no {n : Nat} {p : Nat → Bool} (h : p n = false) : below (n + 1) p = below n p := by
  unfold below
  rw [List.range_succ, List.filter_append, List.map_append, List.filter_cons, h]
  simp
theorem below_len (n : Nat) (p : Nat → Bool) : (below n p).length ≤ n := by
  unfold below
  rw [List.length_map]
  have := List.length_filter_le p (List.range n)
  rwa [List.length_range] at this
theorem below_lt (n : Nat) (p : Nat → Bool) : (below n p).Pairwise (· < ·) := by
  unfold below
  rw [List.pairwise_map]
  exact ((List.pairwise_lt_range (n := n)).filter p).imp (fun h => by omega)
theorem below_mem (n : Nat) (p : Nat → Bool) (x : Int) : x ∈ below n p ↔ ∃ i : Nat, i < n ∧ p i = true ∧ x = (i : Int) := by
  unfold below
  simp only [List.mem_map, List.mem_filter, List.mem_range]
  constructor
  · rintro ⟨i, ⟨h1, h2⟩, rfl⟩; exact ⟨i, h1, h2, rfl⟩
  · rintro ⟨i, h1, h2, rfl⟩; exact ⟨i, ⟨h1, h2⟩, rfl⟩
theorem srt_below {L : List Int} {n : Nat} {p : Nat → Bool} (h1 : ∀ x ∈ L, 0 ≤ x ∧ x < (n : Int)) (h2 : ∀ i, i < n → (p i = true ↔ (i : Int) ∈ L)) : srt L = below n p := by
  refine asc_ext (srt_lt L) (below_lt n p) fun x => ?_
  rw [srt_mem, below_mem]
  constructor
  · intro hx
    have := h1 x hx
    have e : ((x.toNat : Nat) : Int) = x := by omega
    exact ⟨x.toNat, by omega, (h2 _ (by omega)).2 (by rw [e]; exact hx), e.symm⟩
  · rintro ⟨i, hi, hp, rfl⟩
    exact (h2 i hi).1 hp

end Go.Proofs.YtnbnhapepcegpaaGreatDoor

/- Contracts of the library (sorting, compacting strings), laid at this program. -/
namespace Go.Proofs
open Go.Shelf
def Tryz.laysCmpI_ren : Go.Shelf.Ren := ⟨fun | 43 => 64 | n => n, fun | 22 => 69 | 23 => 2 | 3 => 3 | 4 => 4 | 0 => 0 | n => n, fun | n => n⟩
theorem Tryz.laysCmpI : Go.Proofs.SlLaysN.n43 Tryz.prog Tryz.laysCmpI_ren := {
  mixed := by kernel_rfl
  f43 := ⟨Tryz.f64.name, by decide, Tryz.func64.trans (congrArg some (by kernel_rfl))⟩
  t0 := Tryz.underlying0
  a0 := Tryz.isAgg0
  z0 := Tryz.sizeOf0
  v0 := Tryz.zeroValue0
  t3 := Tryz.underlying3
  a3 := Tryz.isAgg3
  z3 := Tryz.sizeOf3
  v3 := Tryz.zeroValue3
  t4 := Tryz.underlying4
  a4 := Tryz.isAgg4
  z4 := Tryz.sizeOf4
  v4 := Tryz.zeroValue4
  t22 := Tryz.underlying69
  a22 := Tryz.isAgg69
  z22 := Tryz.sizeOf69
  v22 := Tryz.zeroValue69
  t23 := Tryz.underlying2
  a23 := Tryz.isAgg2
  z23 := Tryz.sizeOf2
  v23 := Tryz.zeroValue2
  i23 := by kernel_rfl }
open Go.RowKit Go.Lib Go.Sort in
theorem Tryz.slices_Compact_int_arr (blk off cap : Nat) (d : Array Int) (w : World) (hH : Holds encI w blk off d) (hsz : d.size ≤ 9223372036854775807) (hcap : d.size ≤ cap) :
    Calls Tryz.prog 64 #[.slice (some ⟨blk, off, none⟩) d.size cap] w fun e w' => e = .returned (.slice (some ⟨blk, off, none⟩) (compactUpTo d d.size).length cap) ∧ ∃ q, w' = putRow encI (Sort.ahead w q) blk off (compactUpTo d d.size ++ List.replicate (d.size - (compactUpTo d d.size).length) 0).toArray := AnyG.slices_Compact_int_arr Tryz.laysCmpI blk off cap d w hH hsz hcap
open Go.RowKit Go.Lib Go.Sort in
theorem Tryz.slices_Compact_int (blk off cap : Nat) (zs : List Int) (w : World) (hH : Holds (Value.int .i64) w blk off zs.toArray) (hsz : zs.length ≤ 9223372036854775807) (hcap : zs.length ≤ cap) :
    Calls Tryz.prog 64 #[.slice (some ⟨blk, off, none⟩) zs.length cap] w fun e w' => e = .returned (.slice (some ⟨blk, off, none⟩) (Lib.compact zs).length cap) ∧ ∃ q, w' = putRow (Value.int .i64) (Sort.ahead w q) blk off (Lib.compact zs ++ List.replicate (zs.length - (Lib.compact zs).length) 0).toArray := AnyG.slices_Compact_int Tryz.laysCmpI blk off cap zs w hH hsz hcap
open Go.RowKit Go.Lib Go.Sort in
theorem Tryz.slices_Compact_int_empty (a : Option Addr) (cap : Nat) (w : World) :
    Calls Tryz.prog 64 #[.slice a 0 cap] w fun e w' => e = .returned (.slice a 0 cap) ∧ w' = w := AnyG.slices_Compact_int_empty Tryz.laysCmpI a cap w
def Tryz.laysSortI_ren : Go.Shelf.Ren := ⟨fun | 5 => 63 | 8 => 82 | 7 => 81 | 19 => 104 | 20 => 105 | 10 => 95 | 11 => 96 | 12 => 97 | 13 => 98 | 14 => 99 | 15 => 100 | 16 => 101 | 17 => 102 | 18 => 103 | 30 => 112 | 31 => 113 | 32 => 114 | 33 => 115 | 34 => 116 | 35 => 117 | 40 => 121 | n => n, fun | 23 => 69 | 25 => 2 | 3 => 3 | 32 => 104 | 22 => 69 | 0 => 0 | 44 => 126 | 46 => 128 | 4 => 4 | 36 => 118 | 35 => 117 | 41 => 123 | 5 => 5 | 9 => 9 | 53 => 134 | 57 => 138 | 63 => 142 | 64 => 143 | n => n, fun | n => n⟩
theorem Tryz.laysSortI : Go.Proofs.SlLaysM.n5 Tryz.prog Tryz.laysSortI_ren := {
  mixed := by kernel_rfl
  f5 := ⟨Tryz.f63.name, by decide, Tryz.func63.trans (congrArg some (by kernel_rfl))⟩
  f7 := ⟨Tryz.f81.name, by decide, Tryz.func81.trans (congrArg some (by kernel_rfl))⟩
  f8 := Tryz.func82.trans (congrArg some (by kernel_rfl))
  f10 := ⟨Tryz.f95.name, by decide, Tryz.func95.trans (congrArg some (by kernel_rfl))⟩
  f11 := ⟨Tryz.f96.name, by decide, Tryz.func96.trans (congrArg some (by kernel_rfl))⟩
  f12 := ⟨Tryz.f97.name, by decide, Tryz.func97.trans (congrArg some (by kernel_rfl))⟩
  f13 := ⟨Tryz.f98.name, by decide, Tryz.func98.trans (congrArg some (by kernel_rfl))⟩
  f14 := ⟨Tryz.f99.name, by decide, Tryz.func99.trans (congrArg some (by kernel_rfl))⟩
  f15 := ⟨Tryz.f100.name, by decide, Tryz.func100.trans (congrArg some (by kernel_rfl))⟩
  f16 := ⟨Tryz.f101.name, by decide, Tryz.func101.trans (congrArg some (by kernel_rfl))⟩
  f17 := ⟨Tryz.f102.name, by decide, Tryz.func102.trans (congrArg some (by kernel_rfl))⟩
  f18 := ⟨Tryz.f103.name, by decide, Tryz.func103.trans (congrArg some (by kernel_rfl))⟩
  f19 := Tryz.func104.trans (congrArg some (by kernel_rfl))
  f20 := Tryz.func105.trans (congrArg some (by kernel_rfl))
  f30 := ⟨Tryz.f112.name, by decide, Tryz.func112.trans (congrArg some (by kernel_rfl))⟩
  f31 := Tryz.func113.trans (congrArg some (by kernel_rfl))
  f32 := Tryz.func114.trans (congrArg some (by kernel_rfl))
  f33 := ⟨Tryz.f115.name, by decide, Tryz.func115.trans (congrArg some (by kernel_rfl))⟩
  f34 := ⟨Tryz.f116.name, by decide, Tryz.func116.trans (congrArg some (by kernel_rfl))⟩
  f35 := ⟨Tryz.f117.name, by decide, Tryz.func117.trans (congrArg some (by kernel_rfl))⟩
  f40 := ⟨Tryz.f121.name, by decide, Tryz.func121.trans (congrArg some (by kernel_rfl))⟩
  t0 := Tryz.underlying0
  a0 := Tryz.isAgg0
  z0 := Tryz.sizeOf0
  v0 := Tryz.zeroValue0
  t3 := Tryz.underlying3
  a3 := Tryz.isAgg3
  z3 := Tryz.sizeOf3
  v3 := Tryz.zeroValue3
  t4 := Tryz.underlying4
  a4 := Tryz.isAgg4
  z4 := Tryz.sizeOf4
  v4 := Tryz.zeroValue4
  t5 := Tryz.underlying5
  a5 := Tryz.isAgg5
  z5 := Tryz.sizeOf5
  v5 := Tryz.zeroValue5
  t9 := Tryz.underlying9
  a9 := Tryz.isAgg9
  z9 := Tryz.sizeOf9
  v9 := Tryz.zeroValue9
  t22 := Tryz.underlying69
  a22 := Tryz.isAgg69
  z22 := Tryz.sizeOf69
  v22 := Tryz.zeroValue69
  t23 := Tryz.underlying69
  a23 := Tryz.isAgg69
  z23 := Tryz.sizeOf69
  v23 := Tryz.zeroValue69
  t25 := Tryz.underlying2
  a25 := Tryz.isAgg2
  z25 := Tryz.sizeOf2
  v25 := Tryz.zeroValue2
  t32 := Tryz.underlying104
  a32 := Tryz.isAgg104
  z32 := Tryz.sizeOf104
  v32 := Tryz.zeroValue104
  t35 := Tryz.underlying117
  a35 := Tryz.isAgg117
  z35 := Tryz.sizeOf117
  v35 := Tryz.zeroValue117
  t36 := Tryz.underlying118
  a36 := Tryz.isAgg118
  z36 := Tryz.sizeOf118
  v36 := Tryz.zeroValue118
  t41 := Tryz.underlying123
  a41 := Tryz.isAgg123
  z41 := Tryz.sizeOf123
  v41 := Tryz.zeroValue123
  t44 := Tryz.underlying126
  a44 := Tryz.isAgg126
  z44 := Tryz.sizeOf126
  v44 := Tryz.zeroValue126
  t46 := Tryz.underlying128
  a46 := Tryz.isAgg128
  z46 := Tryz.sizeOf128
  v46 := Tryz.zeroValue128
  t53 := Tryz.underlying134
  a53 := Tryz.isAgg134
  z53 := Tryz.sizeOf134
  v53 := Tryz.zeroValue134
  t57 := Tryz.underlying138
  a57 := Tryz.isAgg138
  z57 := Tryz.sizeOf138
  v57 := Tryz.zeroValue138
  t63 := Tryz.underlying142
  a63 := Tryz.isAgg142
  z63 := Tryz.sizeOf142
  v63 := Tryz.zeroValue142
  t64 := Tryz.underlying143
  a64 := Tryz.isAgg143
  z64 := Tryz.sizeOf143
  v64 := Tryz.zeroValue143 }
open Go.Sort Go.RowKit in
theorem Tryz.slices_Sort_int (blk off cap : Nat) (zs : List Int) (w : World) (hH : Holds (Value.int .i64) w blk off zs.toArray) (hblk : blk < w.heap.size) (hsz : zs.length < 4611686018427387904) :
    Calls Tryz.prog 63 #[.slice (some ⟨blk, off, none⟩) zs.length cap] w fun e w' =>
      e = .returned (.tuple #[]) ∧ ∃ n os, w' = grow (putRow (Value.int .i64) (Sort.ahead w n) blk off (zs.mergeSort fun x y => decide (x ≤ y)).toArray) os := AnyM.slices_Sort_int Tryz.laysSortI blk off cap zs w hH hblk hsz
open Go.RowKit Go.Sort in
theorem Tryz.slices_Sort_int_none (p : Option Addr) (cap : Nat) (w : World) :
    Calls Tryz.prog 63 #[.slice p 0 cap] w fun e w' => e = .returned (.tuple #[]) ∧ w' = w := AnyM.slices_Sort_int_none Tryz.laysSortI p cap w
end Go.Proofs

/- slices.Sort and slices.Compact of numbers, on a row of the call's own. -/
namespace Go.Proofs.YtnbnhapepcegpaaGreatDoor
open Go.RowKit Go.Sort

theorem sortI_c (w0 W : World) (v : Value) (L : List Int) (hg : Grew w0 W) (h : OwnI W w0.heap.size v L) (hn : L.length ≤ 1099511627776) :
    Calls Tryz.prog 63 #[v] W fun e W1 => e = .returned (.tuple #[]) ∧ OwnI W1 w0.heap.size v (L.mergeSort fun x y => decide (x ≤ y)) ∧ Grew w0 W1 := by
  rcases h.2 with ⟨rfl, h0⟩ | ⟨g, cap, cur, rfl, hbase, hb, h1, h2, h3, h4⟩
  · obtain rfl := List.eq_nil_of_length_eq_zero h0
    refine (Tryz.slices_Sort_int_none none 0 W).mono fun e W1 hh => ?_
    obtain ⟨h5, h6⟩ := hh
    subst h6
    refine ⟨h5, ?_, hg⟩
    simpa using h
  · have hH := holds_of_blockI hb (by simpa [icells] using h4)
    refine (Tryz.slices_Sort_int g 0 cap L W hH (blk_lt hb) (by omega)).mono fun e W1 hh => ?_
    obtain ⟨h5, n, os, h6⟩ := hh
    subst h6
    have hl2 : (L.mergeSort fun x y => decide (x ≤ y)).length = L.length := List.length_mergeSort L
    refine ⟨h5, ?_, Below.grown hg (grownBy_sortedI _) hg.size (fun j hj => by cases hj; exact hbase)⟩
    have hs := ownsRow_sortedI (n := n) (os := os) (ts := L.mergeSort fun x y => decide (x ≤ y)) hl2 hbase hb h1 h2 h3
    unfold OwnI icells
    rw [hl2]
    exact hs
theorem compactI_c (w0 W : World) (v : Value) (L : List Int) (hg : Grew w0 W) (h : OwnI W w0.heap.size v L) (hn : L.length ≤ 1099511627776) :
    Calls Tryz.prog 64 #[v] W fun e W1 => ∃ u, e = .returned u ∧ OwnI W1 w0.heap.size u (Lib.compact L) ∧ Grew w0 W1 := by
  rcases h.2 with ⟨rfl, h0⟩ | ⟨g, cap, cur, rfl, hbase, hb, h1, h2, h3, h4⟩
  · obtain rfl := List.eq_nil_of_length_eq_zero h0
    refine (Tryz.slices_Compact_int_empty none 0 W).mono fun e W1 hh => ?_
    obtain ⟨h5, h6⟩ := hh
    subst h6
    refine ⟨_, h5, ?_, hg⟩
    simpa [Lib.compact, Lib.compactUpTo] using h
  · have hH := holds_of_blockI hb (by simpa [icells] using h4)
    refine (Tryz.slices_Compact_int g 0 cap L W hH (by omega) h1).mono fun e W1 hh => ?_
    obtain ⟨h5, q, h6⟩ := hh
    subst h6
    have hle := Lib.compact_length_le L
    have ho : W.ownsRow w0.heap.size 2 1 (.slice (some ⟨g, 0, none⟩) L.length cap) L.length (L.map (Value.int .i64)) := h
    have hc := Lib.ownsRow_putRow (q := q) (k := (Lib.compact L).length) (ys := Lib.compact L ++ List.replicate (L.length - (Lib.compact L).length) 0) ho (by simp; omega) (by omega)
    rw [List.take_left] at hc
    exact ⟨_, h5, hc, Lib.below_putRow hg hbase⟩
end Go.Proofs.YtnbnhapepcegpaaGreatDoor

/- The program's note and firstBad. -/
namespace Go.Proofs.YtnbnhapepcegpaaGreatDoor
open Go.RowKit
open Fm (Nd)

/-- The lines whose indices a line has. -/
def premL (x : Hl) : List Int := if x.1 == 3 then [x.2.1, x.2.2.1] else if x.1 == 4 then [x.2.1] else []
theorem premises_c (rr fi se : Int) (A : Option Addr) (l c : Nat) (fo : List Nd) (w : World) :
    Calls Tryz.prog 62 #[.agg #[.int .i64 rr, .int .i64 fi, .int .i64 se, .slice A l c]] w (GivesI w (premL (rr, fi, se, fo))) := by
  have hal := (Grew.refl w).alloc (.cells #[.int .i64 rr, .int .i64 fi, .int .i64 se, .slice A l c] 51)
  have hn := litI2 (w.alloc (.cells #[.int .i64 rr, .int .i64 fi, .int .i64 se, .slice A l c] 51)) fi se
  have hm := litI1 (w.alloc (.cells #[.int .i64 rr, .int .i64 fi, .int .i64 se, .slice A l c] 51)) fi
  by_cases h3 : rr = 3
  · subst h3
    have e : premL (3, fi, se, fo) = [fi, se] := rfl
    rw [e]
    go_enter Tryz.func62, Tryz.ntmps62
    go_wp2_with fail
    go_ret
    exact ⟨_, rfl, by simpa using hn.base hal.size, hal.alloc _⟩
  by_cases h4 : rr = 4
  · subst h4
    have e : premL (4, fi, se, fo) = [fi] := rfl
    rw [e]
    go_enter Tryz.func62, Tryz.ntmps62
    go_wp2_with fail
    go_ret
    exact ⟨_, rfl, by simpa using hm.base hal.size, hal.alloc _⟩
  have z3 : (rr == 3) = false := by simpa using h3
  have z4 : (rr == 4) = false := by simpa using h4
  have e : premL (rr, fi, se, fo) = [] := by unfold premL; simp only [z3, z4, Bool.false_eq_true, if_false]
  rw [e]
  go_enter Tryz.func62, Tryz.ntmps62
  go_wp2_with fail
  go_ret
  exact ⟨_, rfl, OwnI.nil_ _ _, hal⟩

/-- What the numbers so far are: the hypothesis of the line itself, and those of the first m premises. -/
def useL (Us : List (List Int)) (x : Hl) (m : Nat) : List Int := (if x.1 == 2 then [x.2.1] else []) ++ ((premL x).take m).flatMap fun p => Us.getD p.toNat []
theorem useL_succ {Us : List (List Int)} {x : Hl} {m : Nat} (h : m < (premL x).length) : useL Us x (m + 1) = useL Us x m ++ Us.getD (it (premL x) m).toNat [] := by
  unfold useL
  rw [List.take_succ_eq_append_getElem h, List.flatMap_append, it_get h, List.append_assoc]
  simp
theorem DepOk.congr {L : List Hl} {k : Nat} {U V : List Int} (h : DepOk L k U) (hn : V.Nodup) (hm : ∀ a, a ∈ V ↔ a ∈ U) : DepOk L k V := by
  refine ⟨hn, fun a ha => h.sub a ((hm a).1 ha), ?_⟩
  rw [← h.emp]
  constructor
  · rintro rfl
    exact List.eq_nil_iff_forall_not_mem.2 fun a ha => by simpa using (hm a).2 ha
  · rintro rfl
    exact List.eq_nil_iff_forall_not_mem.2 fun a ha => by simpa using (hm a).1 ha
theorem srt_nodup (L : List Int) : (srt L).Nodup := (srt_lt L).imp fun h => by omega
/-- The lists of a line whose premises lie ahead are as told. -/
theorem dep_note {L : List Hl} {k : Nat} {Us : List (List Int)} (hk : k < L.length) (hl0 : Us.length = k) (hD : DepsOk L Us) (hP : PremIn L (k + 1)) : DepOk L k (srt (useL Us (hl L k) (premL (hl L k)).length)) := by
  have hm : ∀ a, a ∈ srt (useL Us (hl L k) (premL (hl L k)).length) ↔ a ∈ useL Us (hl L k) (premL (hl L k)).length := srt_mem _
  have hn := srt_nodup (useL Us (hl L k) (premL (hl L k)).length)
  obtain ⟨h3, h4⟩ := hP k (by omega)
  generalize srt _ = X at *
  unfold useL at hm
  rw [List.take_length] at hm
  by_cases r2 : (hl L k).1 = 2
  · refine (dep_two hk r2).congr hn fun a => ?_
    rw [hm]
    unfold premL
    simp only [r2, show ((2 : Int) == 2) = true from rfl, show ((2 : Int) == 3) = false from rfl, show ((2 : Int) == 4) = false from rfl, Bool.false_eq_true, if_false, if_true]
    simp
  by_cases r3 : (hl L k).1 = 3
  · obtain ⟨i, j, hi, hj, hik, hjk⟩ := h3 r3
    refine dep_three r3 hi hj hik hjk (hD i (by omega)) (hD j (by omega)) hn fun a => ?_
    rw [hm]
    unfold premL
    simp only [r3, hi, hj, show ((3 : Int) == 2) = false from rfl, show ((3 : Int) == 3) = true from rfl, Bool.false_eq_true, if_false, if_true]
    simp
  by_cases r4 : (hl L k).1 = 4
  · obtain ⟨i, hi, hik⟩ := h4 r4
    refine (dep_four r4 hi hik (hD i (by omega))).congr hn fun a => ?_
    rw [hm]
    unfold premL
    simp only [r4, hi, show ((4 : Int) == 2) = false from rfl, show ((4 : Int) == 3) = false from rfl, show ((4 : Int) == 4) = true from rfl, Bool.false_eq_true, if_false, if_true]
    simp
  · refine (dep_rule rfl r2 r3 r4).congr hn fun a => ?_
    rw [hm]
    unfold premL
    simp only [show ((hl L k).1 == 2) = false by simpa using r2, show ((hl L k).1 == 3) = false by simpa using r3, show ((hl L k).1 == 4) = false by simpa using r4, Bool.false_eq_true, if_false]
    simp
theorem prem_at {L : List Hl} {k : Nat} (hP : PremIn L (k + 1)) {m : Nat} (hm : m < (premL (hl L k)).length) : ∃ p : Nat, it (premL (hl L k)) m = (p : Int) ∧ p < k := by
  obtain ⟨h3, h4⟩ := hP k (by omega)
  have h0 : it (premL (hl L k)) m ∈ premL (hl L k) := it_mem hm
  generalize it (premL (hl L k)) m = a at *
  unfold premL at h0
  by_cases r3 : (hl L k).1 = 3
  · obtain ⟨i, j, hi, hj, hik, hjk⟩ := h3 r3
    simp only [r3, hi, hj, show ((3 : Int) == 3) = true from rfl, if_true] at h0
    simp at h0
    rcases h0 with rfl | rfl
    · exact ⟨i, rfl, hik⟩
    · exact ⟨j, rfl, hjk⟩
  by_cases r4 : (hl L k).1 = 4
  · obtain ⟨i, hi, hik⟩ := h4 r4
    simp only [r4, hi, show ((4 : Int) == 3) = false from rfl, show ((4 : Int) == 4) = true from rfl, Bool.false_eq_true, if_false, if_true] at h0
    simp at h0
    exact ⟨i, h0, hik⟩
  · simp only [show ((hl L k).1 == 3) = false by simpa using r3, show ((hl L k).1 == 4) = false by simpa using r4, Bool.false_eq_true, if_false] at h0
    simp at h0
theorem premL_len (x : Hl) : (premL x).length ≤ 2 := by
  unfold premL
  split
  · simp
  · split <;> simp
theorem useL_len {L : List Hl} {k : Nat} {Us : List (List Int)} (hl0 : Us.length = k) (hk : k ≤ 200) (hD : DepsOk L Us) (hP : PremIn L (k + 1)) : ∀ m, m ≤ (premL (hl L k)).length → (useL Us (hl L k) m).length ≤ 1 + m * 200
  | 0, _ => by
    unfold useL
    split <;> simp
  | m + 1, hm => by
    have ih := useL_len hl0 hk hD hP m (by omega)
    obtain ⟨p, hp, hpk⟩ := prem_at hP (m := m) (by omega)
    have := (hD p (by omega)).len
    rw [useL_succ (by omega), List.length_append, hp, Int.toNat_natCast]
    omega

theorem Der.set {w : World} {D : Nat} {s : ByteArray} {vH vL vU : Value} (h : Der w D s vH vL vU) (u : Value) : Der (w.setCell ⟨D, 3, none⟩ u) D s vH vL u := blk_set h 3 u
theorem der_ne : (2 : TypeId) ≠ 58 ∧ (69 : TypeId) ≠ 58 := by decide
theorem OwnU.set {w : World} {B D : Nat} {v : Value} {Us : List (List Int)} {s : ByteArray} {vH vL vU : Value} (h : OwnU w B v Us) (hD : Der w D s vH vL vU) (u : Value) : OwnU (w.setCell ⟨D, 3, none⟩ u) B v Us := by
  obtain ⟨us, h1, h2, h3⟩ := h
  exact ⟨us, h1, own_only h2 ((Only.refl D w).setCell u) (own_ne h2 hD der_ne.2), fun j hj => own_only (h3 j hj) ((Only.refl D w).setCell u) (own_ne (h3 j hj) hD der_ne.1)⟩
/-- The derivation lies in no row. -/
theorem Der.app {w w' : World} {B D : Nat} {v : Value} {Us : List (List Int)} {s : ByteArray} {vH vL vU : Value} (h : Der w D s vH vL vU) (hU : OwnU w B v Us) (hg : w.grownBy w' v.ownBlock) : Der w' D s vH vL vU := by
  obtain ⟨us, h1, h2, h3⟩ := hU
  unfold Der at *
  rw [hg.block D (blk_lt h) (own_ne h2 h der_ne.2).symm]
  exact h
theorem step_apprdU {P : Program} (w : World) {ops : Array Oper} {o : Oper} {a : Act} {K : Act → World → Prop} {Q : Exit → Act → World → Prop} {E : Prop} (hgd : o.guard = none) (s x : Operand) (t : TypeId)
    (ho : o.op = .call { callee := .builtin .append, args := #[s, x], argTypes := #[t, t] })
    (base : Nat) (e : TypeId) (i : TypeInfo) (z : Value) (size bytes : Nat) (ht : P.underlying t = some (.slice e)) (hi : P.info? e = some i) (hz : i.zero = some z)
    (hsize : i.size = size) (hby : i.bytes = bytes) (hzs : z.cells.size = size) (hsz : 0 < size)
    (v : Value) (n : Nat) (xs : List Value) (hs : a.eval s = v) (hown : w.ownsRow base e size v n xs)
    (vx : Value) (m : Nat) (news : List Value) (hx : a.eval x = vx) (hr : Rd w size vx m news) (h1 : ∀ u ∈ news, u.oneCell' = true)
    (h63 : n + m ≤ maxLen) (hbytes : (n + m) * bytes ≤ 140737488355328) (hbase : base ≤ w.heap.size)
    (h : ∀ v' w', w'.ownsRow base e size v' (n + m) (xs ++ news) → w.grownBy w' v.ownBlock → K (a.put o.dst v') w') :
    if Region.wanted o (yielded ops a.tmps) = true then Oper.wp P o a w K Q else E := by
  have hw : Region.wanted o (yielded ops a.tmps) = true := by simp [Region.wanted, hgd]
  rw [if_pos hw]
  obtain ⟨hl, _, hr⟩ := hr
  rcases hr with ⟨rfl, rfl⟩ | ⟨b, of, c, rfl, _, _, _, hc⟩
  · have hnews : news = [] := List.eq_nil_of_length_eq_zero (by simpa using hl)
    subst hnews
    have hrun := run_append_owned_none (P := P) w base t o.type e i size ht hi v n xs hown
    unfold Oper.wp execOp
    simp only [ho, resolve, invoke, builtin, Sem.run_bind, Sem.run_pure, Result.andThen_ok, List.map_toArray, List.map_cons, List.map_nil, hs, hx, hrun]
    exact h v w (by simpa using hown) (World.grownBy.refl _ _)
  · obtain ⟨v', w', hrun, h2, h3, _, _⟩ := run_append_own_at (P := P) w base t o.type e i z size bytes ht hi hz hsize hby hzs hsz v n xs hown ⟨b, of, none⟩ m c news hl (fun j u hu => by rw [Addr.add_lit]; exact hc j u hu) h1 h63 hbytes hbase
    unfold Oper.wp execOp
    simp only [ho, resolve, invoke, builtin, Sem.run_bind, Sem.run_pure, Result.andThen_ok, List.map_toArray, List.map_cons, List.map_nil, hs, hx, hrun]
    exact h v' w' h2 h3
/-- 'append(out, x)' of a row of rows as one step of a region. -/
theorem step_appU {ops : Array Oper} {o : Oper} {a : Act} {K : Act → World → Prop} {Q : Exit → Act → World → Prop} {E : Prop} {w : World} (B : Nat) (hgd : o.guard = none) (s x : Operand)
    (ho : o.op = .call { callee := .builtin .append, args := #[s, x], argTypes := #[56, 56] })
    (v : Value) (Us : List (List Int)) (hs : a.eval s = v) (hown : OwnU w B v Us) (hB : B ≤ w.heap.size) (vx u : Value) (U : List Int) (hx : a.eval x = vx) (hr : Rd w 1 vx 1 [u]) (hu : OwnI w B u U) (hn : Us.length ≤ 1048576)
    (h : ∀ v' w', OwnU w' B v' (Us ++ [U]) → w.grownBy w' v.ownBlock → K (a.put o.dst v') w') : if Region.wanted o (yielded ops a.tmps) = true then Oper.wp Tryz.prog o a w K Q else E := by
  obtain ⟨i0, hi0, hz0, hz1, hz2⟩ := info_parts infoIs
  obtain ⟨us, h1, h2, h3⟩ := hown
  have hu1 : u.oneCell' = true := by
    obtain ⟨A, c, rfl⟩ := ints_slice hu.ints
    rfl
  refine step_apprdU w hgd s x _ ho B 69 i0 _ 1 24 Tryz.underlying56 hi0 hz0 hz1 hz2 rfl (by omega) v Us.length us hs h2 vx 1 [u] hx hr (by simpa using hu1) (by unfold maxLen; omega) (by omega) hB ?_
  intro v' w' k1 k2
  exact h v' w' (snocU h1 h2 h3 hu k1 k2) k2

set_option maxHeartbeats 2000000 in
set_option maxRecDepth 100000 in
theorem note_c (D : Nat) (s : ByteArray) (vH vL vU u : Value) (L : List Hl) (Us : List (List Int)) (k : Nat) (w0 w : World) (hg : Grew w0 w) (hD0 : w0.heap.size ≤ D) (hD : Der w D s vH vL vU) (hU : OwnU w w0.heap.size vU Us)
    (hu : Nodes w u (hl L k).2.2.2) (hUl : Us.length = k) (hDp : DepsOk L Us) (hP : PremIn L (k + 1)) (hk : k < L.length) (hn : L.length ≤ 200) :
    Calls Tryz.prog 42 #[.pointer (some ⟨D, 0, none⟩), .agg #[.int .i64 (hl L k).1, .int .i64 (hl L k).2.1, .int .i64 (hl L k).2.2.1, u]] w fun e w' => e = .returned (.tuple #[]) ∧ ∃ vU' U, Der w' D s vH vL vU' ∧ OwnU w' w0.heap.size vU' (Us ++ [U]) ∧ DepOk L k U ∧ Grew w0 w' := by
  have HDN := Lib.hid (dep_note hk hUl hDp hP)
  have HUL := Lib.hid (useL_len hUl (by omega) hDp hP)
  have HPA := Lib.hid (fun m hm => prem_at hP (m := m) hm)
  have HUS := Lib.hid (fun m hm => useL_succ (Us := Us) (x := hl L k) (m := m) hm)
  have hpl := premL_len (hl L k)
  have HUA := Lib.hid (fun i (hi : i < k) => (⟨hU.at_ (i := i) (by omega), (hDp i (by omega)).len⟩ : (∃ g c u, vU = .slice (some ⟨g, 0, none⟩) Us.length c ∧ (∀ W, Grew w W → W.cell? ⟨g, i, none⟩ = some u) ∧ OwnI w w0.heap.size u (Us.getD i [])) ∧ (Us.getD i []).length ≤ i + 1))
  obtain ⟨d0, d1, d2, d3⟩ := hD.at_
  have HD := Lib.hid hD
  have HU := Lib.hid hU
  obtain ⟨Au, cu, rfl⟩ := nodes_slice hu
  have hUb : Us.length ≤ 1048576 := by omega
  have hsz := hg.size
  have H0 : useL Us (hl L k) 0 = if (hl L k).1 == 2 then [(hl L k).2.1] else [] := by unfold useL; simp
  clear hD hU hu hDp hP
  generalize hx : hl L k = x at *
  obtain ⟨rr, fi, se, fo⟩ := x
  simp only at H0 ⊢
  have KP := Lib.hid (fun W => premises_c rr fi se Au fo.length cu fo W)
  generalize fo.length = fl at *
  generalize hPL : premL (rr, fi, se, fo) = PL at *
  clear hx
  have hwr := Grew.refl w
  have hal := hwr.alloc (.cells #[.int .i64 rr, .int .i64 fi, .int .i64 se, .slice Au fl cu] 51)
  have f0 : ∀ W, Grew (w.alloc (.cells #[.int .i64 rr, .int .i64 fi, .int .i64 se, .slice Au fl cu] 51)) W → W.cell? ⟨w.heap.size, 0, none⟩ = some (.int .i64 rr) := fun W hW => (hW.cell (p := ⟨w.heap.size, 0, none⟩) (by simp)).trans (by simp)
  have f1 : ∀ W, Grew (w.alloc (.cells #[.int .i64 rr, .int .i64 fi, .int .i64 se, .slice Au fl cu] 51)) W → W.cell? ⟨w.heap.size, 1, none⟩ = some (.int .i64 fi) := fun W hW => (hW.cell (p := ⟨w.heap.size, 1, none⟩) (by simp)).trans (by simp)
  have f2 : ∀ W, Grew (w.alloc (.cells #[.int .i64 rr, .int .i64 fi, .int .i64 se, .slice Au fl cu] 51)) W → W.cell? ⟨w.heap.size, 2, none⟩ = some (.int .i64 se) := fun W hW => (hW.cell (p := ⟨w.heap.size, 2, none⟩) (by simp)).trans (by simp)
  have f3 : ∀ W, Grew (w.alloc (.cells #[.int .i64 rr, .int .i64 fi, .int .i64 se, .slice Au fl cu] 51)) W → W.cell? ⟨w.heap.size, 3, none⟩ = some (.slice Au fl cu) := fun W hW => (hW.cell (p := ⟨w.heap.size, 3, none⟩) (by simp)).trans (by simp)
  generalize hwb : w.alloc (.cells #[.int .i64 rr, .int .i64 fi, .int .i64 se, .slice Au fl cu] 51) = wb at *
  replace hwb := hwb.symm
  have rb := Grew.refl wb
  by_cases h2 : rr = 2
  · subst h2
    rw [show ((2 : Int) == 2) = true from rfl, if_pos rfl] at H0
    have hP0 : PL.length = 0 := by rw [← hPL]; rfl
    clear hPL
    subst hwb
    have hrd := rd_litI' (w.alloc (.cells #[.int .i64 2, .int .i64 fi, .int .i64 se, .slice Au fl cu] 51)) (w.heap.size + 1) (by simp) fi 2
    have hO0 := OwnI.nil_ ((w.alloc (.cells #[.int .i64 2, .int .i64 fi, .int .i64 se, .slice Au fl cu] 51)).alloc (.cells #[.int .i64 fi] 2)) w.heap.size
    have hga := hal.alloc (.cells #[.int .i64 fi] 2)
    have hwg := (Grew.refl (w.alloc (.cells #[.int .i64 2, .int .i64 fi, .int .i64 se, .slice Au fl cu] 51))).alloc (.cells #[.int .i64 fi] 2)
    have hl00 : ([] : List Int).length ≤ 1048576 := by simp
    have hgA := fun w1 (hgb : ((w.alloc (.cells #[.int .i64 2, .int .i64 fi, .int .i64 se, .slice Au fl cu] 51)).alloc (.cells #[.int .i64 fi] 2)).grownBy w1 (Value.slice none 0 0).ownBlock) => hwg.grown hgb (fun g hg => by cases hg)
    have HGA := Lib.hid hgA
    clear hgA
    go_enter Tryz.func42, Tryz.ntmps42
    go_wp2_with (at_builtin; refine wpList_appI (w0 := w) _ _ rfl rfl _ [] rfl hO0 hga _ fi rfl hrd hl00 ?_; intro v1 w1 hown1 hg1 hgb1; have hw1 := HGA.out _ hgb1; have e0 := fun W (hW : Grew w1 W) => f0 W (hw1.trans hW); have e1 := fun W (hW : Grew w1 W) => f1 W (hw1.trans hW); have e2 := fun W (hW : Grew w1 W) => f2 W (hw1.trans hW); have e3 := fun W (hW : Grew w1 W) => f3 W (hw1.trans hW); have r1 := Grew.refl w1)
    refine (KP.out _).mono ?_
    rintro e w2 ⟨vp, rfl, hop, hg2⟩
    have g2 := hg1.trans hg2
    have ho2 : OwnI w2 w.heap.size v1 (useL Us (2, fi, se, fo) 0) := by rw [H0]; exact hown1.grew hg2
    have HOP := Lib.hid hop.ints.open_
    obtain ⟨AP, cP, rfl⟩ := ints_slice hop.ints
    clear e0 e1 e2 e3 r1 hop
    go_wp2_with fail
    go_loopg [4, 6, 18] PL.length (fun gg uv _ i wr => ∃ m : Nat, m ≤ PL.length ∧ gg = PL.length - m ∧ i = .int .i64 m ∧ OwnI wr w.heap.size uv (useL Us (2, fi, se, fo) m) ∧ Grew w2 wr)
    case atStart => exact ⟨0, Nat.zero_le _, by omega, rfl, ho2, Grew.refl _⟩
    case round =>
      obtain ⟨m, hm, rfl, rfl, hO, hB⟩ := hrel
      have hgw := g2.trans hB
      by_cases hlt : m < PL.length
      · omega
      · obtain rfl : m = PL.length := by omega
        have hl0 := HUL.out _ (Nat.le_refl _)
        have KS := Lib.hid (sortI_c w wr _ _ hgw (hO.base (Nat.le_refl _)) (by omega))
        go_wp2_with fail
        refine KS.out.mono ?_
        rintro e w3 ⟨rfl, ho3, hg3⟩
        have hl3 : ((useL Us (2, fi, se, fo) PL.length).mergeSort fun x y => decide (x ≤ y)).length ≤ 1099511627776 := by rw [List.length_mergeSort]; omega
        have KC := Lib.hid (fun W (hW : Grew w3 W) => compactI_c w W _ _ (hg3.trans hW) (ho3.grew hW) hl3)
        have hcs : Lib.compact ((useL Us (2, fi, se, fo) PL.length).mergeSort fun x y => decide (x ≤ y)) = srt (useL Us (2, fi, se, fo) PL.length) := rfl
        rw [hcs] at KC
        have hdn := HDN.out
        generalize srt (useL Us (2, fi, se, fo) PL.length) = U at *
        have r3d := (Grew.refl w3).drew
        have hg3d := hg3.drew
        clear ho3 hcs d0 d1 d2 hl3 hl0 KS
        go_wp2_with fail
        go_region_law (first
          | (refine step_appU w0.heap.size rfl (.tmp 38) (.tmp 41) rfl vU Us (by simp [Act.eval, Act.put]) hUa hsa (.slice (some ⟨w4.heap.size, 0, none⟩) 1 1) (.slice A4 U.length c4) U (by simp [Act.eval, Act.put]) hrd4 hIa hUb ?_; intro v5 w5 hown5 hg5; have hs5 := hown5.slice; obtain ⟨A5, c5, rfl⟩ := hs5; have hD5 := hDa.app hUa hg5; have k5 := (blk_cell hD5 3).trans rfl; have f5 := blk_frozen hD5 3; have hG5 := (hg.trans hga).grown hg5 (fun g hg' => own_of_geU hUa hg'))
          | (go_simp; go_at_call 64; refine (KC.out _ r3d).mono ?_; rintro e w4 ⟨u4, rfl, ho4, hg4⟩; have ho5 := ho4.base hsz; have hs4 := ints_slice ho4.ints; obtain ⟨A4, c4, rfl⟩ := hs4; have hUa := (HU.out.grew hg4).grew ((Grew.refl w4).alloc (.cells #[.slice A4 U.length c4] 69)); have hIa := ho5.grew ((Grew.refl w4).alloc (.cells #[.slice A4 U.length c4] 69)); have hrd4 := rd_litU w4 (.slice A4 U.length c4) 69; have hga := hg4.alloc (.cells #[.slice A4 U.length c4] 69); have hsa := Nat.le_trans hsz hga.size; have hDa := HD.out.grew hga))
        all_goals
          go_wp2_with fail
          (try simp only [Exit.inBlock, Exit.then])
          first | refine bodyPost_end (results_none rfl _ _ _) rfl ?_ | refine bodyPost_ret (results_none rfl _ _ _) rfl ?_
          have hl5 : (Us ++ [U]).length = k + 1 := by rw [List.length_append, hUl]; rfl
          rw [hl5] at hown5
          exact ⟨rfl, _, U, hD5.set _, hown5.set hD5 _, hdn, hG5.setCell hD0 _⟩
  · have z2 : (rr == 2) = false := by simpa using h2
    rw [z2, if_neg (by simp)] at H0
    clear hPL
    go_enter Tryz.func42, Tryz.ntmps42
    go_wp2_with fail
    rw [← hwb]
    clear hwb
    have e0 := fun W (hW : Grew wb W) => f0 W (rb.trans hW)
    have e1 := fun W (hW : Grew wb W) => f1 W (rb.trans hW)
    have e2 := fun W (hW : Grew wb W) => f2 W (rb.trans hW)
    have e3 := fun W (hW : Grew wb W) => f3 W (rb.trans hW)
    have r1 := Grew.refl wb
    clear f0 f1 f2 f3
    refine (KP.out _).mono ?_
    rintro e w2 ⟨vp, rfl, hop, hg2⟩
    have g2 := hal.trans hg2
    have ho2 : OwnI w2 w2.heap.size (.slice none 0 0) (useL Us (rr, fi, se, fo) 0) := by rw [H0]; exact OwnI.nil_ _ _
    have HOP := Lib.hid hop.ints.open_
    obtain ⟨AP, cP, rfl⟩ := ints_slice hop.ints
    clear e0 e1 e2 e3 r1 hop
    go_wp2_with fail
    go_loopg [4, 6, 18] PL.length (fun gg uv _ i wr => ∃ m : Nat, m ≤ PL.length ∧ gg = PL.length - m ∧ i = .int .i64 m ∧ OwnI wr w2.heap.size uv (useL Us (rr, fi, se, fo) m) ∧ Grew w2 wr)
    case atStart => exact ⟨0, Nat.zero_le _, by omega, rfl, ho2, Grew.refl _⟩
    case round =>
      obtain ⟨m, hm, rfl, rfl, hO, hB⟩ := hrel
      have hgw := g2.trans hB
      by_cases hlt : m < PL.length
      · obtain ⟨p, hp, hpk⟩ := HPA.out m hlt
        obtain ⟨⟨g, c, ui, rfl, hcu, hou⟩, hil⟩ := HUA.out p hpk
        rcases HOP.out with ⟨_, hz⟩ | ⟨bP, oP, cP', hv, hPc, hPm, hPb, hPcell⟩
        · rw [hz] at hlt; simp at hlt
        obtain ⟨rfl, rfl⟩ : AP = some ⟨bP, oP, none⟩ ∧ cP = cP' := by simpa using hv
        have k1 := hPcell m hlt wr hB
        rw [hp] at k1
        have hs := HUS.out m hlt
        rw [hp, Int.toNat_natCast] at hs
        have hl0 := HUL.out m (by omega)
        have k2 := hcu wr hgw
        have k3 := d3 wr hgw
        have hin := (hou.grew hgw).ints
        have hpU : (p : Int) < (Us.length : Int) := by omega
        obtain ⟨AI, cI, rfl⟩ := ints_slice hou.ints
        have HS := Lib.hid hs
        clear hs hv hPcell hou hcu hp hPb
        generalize Us.getD p [] = UI at *
        have hsum : (useL Us (rr, fi, se, fo) m).length + UI.length ≤ 1048576 := by omega
        go_wp2_with (at_builtin; refine wpList_appIs (w0 := w2) _ _ rfl rfl _ (useL Us (rr, fi, se, fo) m) rfl hO hB _ UI rfl hin hsum ?_; intro v9 w9 hown9 hg9 hgb9)
        go_roundg (PL.length - (m + 1))
        case measure => omega
        case rel => exact ⟨m + 1, by omega, rfl, by go_num, by rw [HS.out]; exact hown9, hg9⟩
      · obtain rfl : m = PL.length := by omega
        have hl0 := HUL.out _ (Nat.le_refl _)
        have KS := Lib.hid (sortI_c w wr _ _ hgw (hO.base g2.size) (by omega))
        go_wp2_with fail
        refine KS.out.mono ?_
        rintro e w3 ⟨rfl, ho3, hg3⟩
        have hl3 : ((useL Us (rr, fi, se, fo) PL.length).mergeSort fun x y => decide (x ≤ y)).length ≤ 1099511627776 := by rw [List.length_mergeSort]; omega
        have KC := Lib.hid (fun W (hW : Grew w3 W) => compactI_c w W _ _ (hg3.trans hW) (ho3.grew hW) hl3)
        have hcs : Lib.compact ((useL Us (rr, fi, se, fo) PL.length).mergeSort fun x y => decide (x ≤ y)) = srt (useL Us (rr, fi, se, fo) PL.length) := rfl
        rw [hcs] at KC
        have hdn := HDN.out
        generalize srt (useL Us (rr, fi, se, fo) PL.length) = U at *
        have r3d := (Grew.refl w3).drew
        have hg3d := hg3.drew
        clear ho3 hcs d0 d1 d2 hl3 hl0 KS
        go_wp2_with fail
        go_region_law (first
          | (refine step_appU w0.heap.size rfl (.tmp 38) (.tmp 41) rfl vU Us (by simp [Act.eval, Act.put]) hUa hsa (.slice (some ⟨w4.heap.size, 0, none⟩) 1 1) (.slice A4 U.length c4) U (by simp [Act.eval, Act.put]) hrd4 hIa hUb ?_; intro v5 w5 hown5 hg5; have hs5 := hown5.slice; obtain ⟨A5, c5, rfl⟩ := hs5; have hD5 := hDa.app hUa hg5; have k5 := (blk_cell hD5 3).trans rfl; have f5 := blk_frozen hD5 3; have hG5 := (hg.trans hga).grown hg5 (fun g hg' => own_of_geU hUa hg'))
          | (go_simp; go_at_call 64; refine (KC.out _ r3d).mono ?_; rintro e w4 ⟨u4, rfl, ho4, hg4⟩; have ho5 := ho4.base hsz; have hs4 := ints_slice ho4.ints; obtain ⟨A4, c4, rfl⟩ := hs4; have hUa := (HU.out.grew hg4).grew ((Grew.refl w4).alloc (.cells #[.slice A4 U.length c4] 69)); have hIa := ho5.grew ((Grew.refl w4).alloc (.cells #[.slice A4 U.length c4] 69)); have hrd4 := rd_litU w4 (.slice A4 U.length c4) 69; have hga := hg4.alloc (.cells #[.slice A4 U.length c4] 69); have hsa := Nat.le_trans hsz hga.size; have hDa := HD.out.grew hga))
        all_goals
          go_wp2_with fail
          (try simp only [Exit.inBlock, Exit.then])
          first | refine bodyPost_end (results_none rfl _ _ _) rfl ?_ | refine bodyPost_ret (results_none rfl _ _ _) rfl ?_
          have hl5 : (Us ++ [U]).length = k + 1 := by rw [List.length_append, hUl]; rfl
          rw [hl5] at hown5
          exact ⟨rfl, _, U, hD5.set _, hown5.set hD5 _, hdn, hG5.setCell hD0 _⟩
end Go.Proofs.YtnbnhapepcegpaaGreatDoor

/- The reference's FirstBadLine: l13Bad, l13Code. -/
namespace Go.Proofs.YtnbnhapepcegpaaGreatDoor
open Go.RowKit
open Fm (Nd)

/-- The index of the first bad line, or -1. -/
noncomputable def badH (s : ByteArray) (H : List (List Nd)) (L : List Hl) : Int := fbI (fine s H L) L.length
theorem l13Bad_c (s : ByteArray) (vH vL : Value) (H : List (List Nd)) (L : List Hl) (w : World) (hH : Nls w vH H) (hL : Hls w vL L) (hfH : FitsNl H) (hfL : FitsHl L) (hn : L.length ≤ 200) (hHn : H.length ≤ 1048576) :
    Calls Tryz.prog 23 #[.string s, vH, vL] w fun e w' => e = .returned (.int .i64 (badH s H L)) ∧ Grew w w' := by
  obtain ⟨R, hR⟩ : ∃ R, R = badH s H L := ⟨_, rfl⟩
  rw [← hR]
  have KF := Lib.hid (fun k W (hW : Grew w W) hk hP => l13Fine_c s vH vL H L k W (hH.grew hW) (hL.grew hW) hfH hfL hk hn hHn hP)
  have HA := Lib.hid (fun j (hj : j < L.length) (h : FineTo (fine s H L) j) hf => hR.trans (fbI_at hj h hf))
  have HE := Lib.hid (fun (h : FineTo (fine s H L) L.length) => hR.trans (fbI_end h))
  have HS := Lib.hid (fun j (h : FineTo (fine s H L) j) hf => h.succ hf)
  have H0 := FineTo.zero (fine s H L)
  obtain ⟨AL, cL, rfl⟩ := Hls_slice hL
  obtain ⟨AH, cH, rfl⟩ := Nls_slice hH
  clear hR hH hL hfH hfL
  generalize fine s H L = f at *
  generalize L.length = n at *
  generalize H.length = hlen at *
  go_enter Tryz.func23, Tryz.ntmps23
  go_wp2_with fail
  go_loopw [7] (fun i wr => ∃ j : Nat, j ≤ n ∧ i = .int .i64 j ∧ Grew w wr ∧ Hid (FineTo f j)) (fun i _ => n - (intOf i).toNat)
  case atStart => exact ⟨0, Nat.zero_le _, rfl, Grew.refl _, Lib.hid H0⟩
  case round =>
    obtain ⟨j, hj, rfl, hB, HJ⟩ := hrel
    by_cases hlt : j < n
    · have K := KF.out j _ hB hlt HJ.out
      cases hf : f j with
      | false =>
        rw [hf] at K
        replace K := Lib.hid K
        have hv := HA.out j hlt HJ.out hf
        go_wp2_with fail
        refine K.out.mono ?_
        rintro e w1 ⟨rfl, hg1⟩
        go_wp2_with fail
        go_ret
        exact ⟨by rw [hv]; rfl, hB.trans hg1⟩
      | true =>
        rw [hf] at K
        replace K := Lib.hid K
        have hs := Lib.hid (HS.out j HJ.out hf)
        go_wp2_with fail
        refine K.out.mono ?_
        rintro e w1 ⟨rfl, hg1⟩
        go_wp2_with fail
        go_roundw
        case rel => exact ⟨j + 1, by omega, by go_num, hB.trans hg1, hs⟩
        case measure => simp [intOf]; omega
    · obtain rfl : j = n := by omega
      have hv := HE.out HJ.out
      go_wp2_with fail
      go_ret
      exact ⟨by rw [hv]; rfl, hB⟩

/-- The code of a system, hypotheses and lines. -/
noncomputable def hcode (s : ByteArray) (H : List (List Nd)) (n : Nat) : Int :=
  if (sysL s).isNone then 2 else if H.any badF then 1 else if 1 ≤ n ∧ n ≤ 200 then 0 else 3
theorem hcode_2 {s : ByteArray} {H : List (List Nd)} {n : Nat} (h : sysL s = none) : hcode s H n = 2 := by unfold hcode; rw [h]; rfl
theorem hcode_1 {s : ByteArray} {H : List (List Nd)} {n : Nat} {Ls : List Int} (h : sysL s = some Ls) (h1 : H.any badF = true) : hcode s H n = 1 := by unfold hcode; rw [h, h1]; rfl
theorem hcode_3 {s : ByteArray} {H : List (List Nd)} {n : Nat} {Ls : List Int} (h : sysL s = some Ls) (h1 : H.any badF = false) (h2 : ¬ (1 ≤ n ∧ n ≤ 200)) : hcode s H n = 3 := by unfold hcode; rw [h, h1, if_neg (by simp), if_neg (by simp), if_neg h2]
theorem hcode_0 {s : ByteArray} {H : List (List Nd)} {n : Nat} {Ls : List Int} (h : sysL s = some Ls) (h1 : H.any badF = false) (h2 : 1 ≤ n ∧ n ≤ 200) : hcode s H n = 0 := by unfold hcode; rw [h, h1, if_neg (by simp), if_neg (by simp), if_pos h2]
/-- What FirstBadLine gives. -/
noncomputable def fbF (s : ByteArray) (H : List (List Nd)) (L : List Hl) : Int × Int := if hcode s H L.length = 0 then (badH s H L, 0) else (0, hcode s H L.length)
def GivesFb (r : Int × Int) (w : World) (e : Ending) (w' : World) : Prop := e = .returned (.tuple #[.int .i64 r.1, .int .i64 r.2]) ∧ Grew w w'
/-- The code where a proof is asked for. -/
noncomputable def pcode (s : ByteArray) (H : List (List Nd)) (L : List Hl) (p : Bool) : Int := if hcode s H L.length = 0 then (if p && decide (0 ≤ badH s H L) then 5 else 0) else hcode s H L.length

set_option maxHeartbeats 2000000 in
theorem l13Code_c (s : ByteArray) (vH vL : Value) (H : List (List Nd)) (L : List Hl) (p : Bool) (w : World) (hH : Nls w vH H) (hL : Hls w vL L) (hfH : FitsNl H) (hfL : FitsHl L) (hHn : H.length ≤ 1048576) (hLn : L.length ≤ 1048576) :
    Calls Tryz.prog 22 #[.string s, vH, vL, .bool p] w fun e w' => e = .returned (.int .i64 (pcode s H L p)) ∧ Grew w w' := by
  obtain ⟨R, hR⟩ : ∃ R, R = pcode s H L p := ⟨_, rfl⟩
  rw [← hR]
  unfold pcode at hR
  have KB := Lib.hid (fun W (hW : Grew w W) h => l13Bad_c s vH vL H L W (hH.grew hW) (hL.grew hW) hfH hfL h hHn)
  have KS := Lib.hid (fun W => l13Schemes_c s W)
  have KI := Lib.hid (fun i (hi : i < H.length) => (⟨nls_at hH hi, hfH _ (nlD_mem hi)⟩ : (∃ bH oH cH u, vH = .slice (some ⟨bH, oH, none⟩) H.length cH ∧ (∀ W, Grew w W → W.cell? ⟨bH, oH + i, none⟩ = some u) ∧ Nodes w u (H.getD i [])) ∧ (H.getD i []).length ≤ 1048576))
  obtain ⟨AL, cL, rfl⟩ := Hls_slice hL
  obtain ⟨AH, cH, rfl⟩ := Nls_slice hH
  clear hH hL hfH hfL
  cases hs : sysL s with
  | none =>
    rw [hcode_2 hs, if_neg (by decide)] at hR
    rw [hs] at KS
    generalize L.length = n at *
    generalize H.length = hlen at *
    go_enter Tryz.func22, Tryz.ntmps22
    go_wp2_with fail
    refine (KS.out _).mono ?_
    rintro e w1 ⟨v1, rfl, ho1, hg1⟩
    obtain ⟨A1, c1, rfl⟩ := ints_slice ho1.ints
    simp only [Option.getD_none, List.length_nil]
    go_wp2_with fail
    go_ret
    exact ⟨by rw [hR]; rfl, hg1⟩
  | some Ls =>
  obtain ⟨hl0, _, _⟩ := sysL_mem hs
  rw [hs] at KS
  have HNA := Lib.hid (fun k hk h => hcode_1 (s := s) (n := L.length) hs (anyN_at (p := badF) (Ls := H) (k := k) hk h))
  have HNN := Lib.hid (fun (h : NoneN badF H H.length) => noneN_any h)
  have HNS := Lib.hid (fun k (h : NoneN badF H k) h1 => h.succ h1)
  have HC3 := Lib.hid (fun h1 h2 => hcode_3 (s := s) (H := H) (n := L.length) hs h1 h2)
  have HC0 := Lib.hid (fun h1 h2 => hcode_0 (s := s) (H := H) (n := L.length) hs h1 h2)
  generalize hcode s H L.length = hc at *
  generalize badH s H L = bd at *
  generalize hN : L.length = n at *
  clear hN
  generalize hHN : H.length = hlen at *
  clear hHN
  go_enter Tryz.func22, Tryz.ntmps22
  go_wp2_with fail
  refine (KS.out _).mono ?_
  rintro e w1 ⟨v1, rfl, ho1, hg1⟩
  obtain ⟨A1, c1, rfl⟩ := ints_slice ho1.ints
  simp only [Option.getD_some]
  have hz : ((Ls.length : Int) == 0) = false := beq_eq_false_iff_ne.2 (by omega)
  clear ho1
  generalize Ls.length = ll at *
  go_wp2_with fail
  go_loopw [9] (fun i wr => ∃ j : Nat, j ≤ hlen ∧ i = .int .i64 j ∧ Grew w wr ∧ Hid (NoneN badF H j)) (fun i _ => hlen - (intOf i).toNat)
  case atStart => exact ⟨0, Nat.zero_le _, rfl, hg1, NoneN.zero _ _⟩
  case round =>
    obtain ⟨j, hj, rfl, hB, HJ⟩ := hrel
    by_cases hlt : j < hlen
    · obtain ⟨⟨bH, oH, cH', u, hv, hcu, hnu⟩, hfu⟩ := KI.out j hlt
      obtain ⟨rfl, rfl⟩ : AH = some ⟨bH, oH, none⟩ ∧ cH = cH' := by simpa using hv
      have k1 := hcu _ hB
      have K := l02Is_c u _ wr (hnu.grew hB) (by omega)
      have hbd : badF (H.getD j []) = !fmB (H.getD j []) := rfl
      have hA := Lib.hid (HNA.out j hlt)
      have hS := Lib.hid (HNS.out j HJ.out)
      have hnl : nl H j = H.getD j [] := rfl
      rw [hnl, hbd] at hA hS
      obtain ⟨Au, cu, rfl⟩ := nodes_slice hnu
      clear hv hcu hnu hbd hnl
      generalize (H.getD j []).length = ul at *
      cases hf : fmB (H.getD j []) with
      | false =>
        rw [hf] at K hA hS
        replace K := Lib.hid K
        have hv := hA.out rfl
        rw [hv, if_neg (by decide)] at hR
        go_wp2_with fail
        refine K.out.mono ?_
        rintro e w2 ⟨rfl, hg2⟩
        go_wp2_with fail
        go_ret
        exact ⟨by rw [hR]; rfl, hB.trans hg2⟩
      | true =>
        rw [hf] at K hA hS
        replace K := Lib.hid K
        have hs := Lib.hid (hS.out rfl)
        go_wp2_with fail
        refine K.out.mono ?_
        rintro e w2 ⟨rfl, hg2⟩
        go_wp2_with fail
        go_roundw
        case rel => exact ⟨j + 1, by omega, by go_num, hB.trans hg2, hs⟩
        case measure => simp [intOf]; omega
    · obtain rfl : j = hlen := by omega
      have hnn := HNN.out HJ.out
      by_cases hn : 1 ≤ n ∧ n ≤ 200
      · have hv := HC0.out hnn hn
        rw [if_pos hv] at hR
        have hz0 : ((n : Int) == 0) = false := beq_eq_false_iff_ne.2 (by omega)
        cases p with
        | false =>
          simp only [Bool.false_and, Bool.false_eq_true, if_false] at hR
          go_wp2_with fail
          go_ret
          exact ⟨by rw [hR]; rfl, hB⟩
        | true =>
          have K := Lib.hid (KB.out _ hB hn.2)
          by_cases hb : 0 ≤ bd
          · rw [decide_eq_true hb] at hR
            simp only [Bool.and_self, if_true] at hR
            go_wp2_with fail
            refine K.out.mono ?_
            rintro e w2 ⟨rfl, hg2⟩
            go_wp2_with fail
            go_ret
            exact ⟨by rw [hR]; rfl, hB.trans hg2⟩
          · rw [decide_eq_false hb] at hR
            simp only [Bool.and_false, Bool.false_eq_true, if_false] at hR
            go_wp2_with fail
            refine K.out.mono ?_
            rintro e w2 ⟨rfl, hg2⟩
            go_wp2_with fail
            go_ret
            exact ⟨by rw [hR]; rfl, hB.trans hg2⟩
      · have hv := HC3.out hnn hn
        rw [hv, if_neg (by decide)] at hR
        by_cases h0 : n = 0
        · subst h0
          go_wp2_with fail
          go_ret
          exact ⟨by rw [hR]; rfl, hB⟩
        · have hz0 : ((n : Int) == 0) = false := beq_eq_false_iff_ne.2 (by omega)
          go_wp2_with fail
          go_ret
          exact ⟨by rw [hR]; rfl, hB⟩

theorem specFb_c (s : ByteArray) (vH : Value) (H : List (List Nd)) (vL : Value) (L : List Hl) (w : World) (hH : Nls w vH H) (hL : Hls w vL L) (hfH : FitsNl H) (hHn : H.length ≤ 1048576) (hfL : FitsHl L) (hLn : L.length ≤ 1048576) :
    Calls Tryz.prog 7 #[.string s, vH, vL] w (GivesFb (fbF s H L) w) := by
  have KC := l13Code_c s vH vL H L false w hH hL hfH hfL hHn hLn
  have KB := Lib.hid (fun W (hW : Grew w W) h => l13Bad_c s vH vL H L W (hH.grew hW) (hL.grew hW) hfH hfL h hHn)
  have HN : Hid (hcode s H L.length = 0 → L.length ≤ 200) := Lib.hid (fun h => by
    unfold hcode at h
    split at h
    · cases h
    · split at h
      · cases h
      · split at h
        · omega
        · cases h)
  unfold pcode at KC
  unfold fbF
  obtain ⟨AL, cL, rfl⟩ := Hls_slice hL
  obtain ⟨AH, cH, rfl⟩ := Nls_slice hH
  clear hH hL
  generalize hcode s H L.length = hc at *
  generalize badH s H L = bd at *
  generalize L.length = n at *
  generalize H.length = hlen at *
  by_cases h0 : hc = 0
  · subst h0
    simp only [if_true, Bool.false_and, Bool.false_eq_true, if_false] at KC ⊢
    replace KC := Lib.hid KC
    have hn := HN.out rfl
    go_enter Tryz.func7, Tryz.ntmps7
    go_wp2_with fail
    refine KC.out.mono ?_
    rintro e w1 ⟨rfl, hg1⟩
    go_wp2_with fail
    refine (KB.out _ hg1 hn).mono ?_
    rintro e w2 ⟨rfl, hg2⟩
    go_wp2_with fail
    go_ret2
    exact ⟨rfl, hg1.trans hg2⟩
  · rw [if_neg h0] at KC ⊢
    replace KC := Lib.hid KC
    have hne : (hc != 0) = true := by simpa using h0
    go_enter Tryz.func7, Tryz.ntmps7
    go_wp2_with fail
    refine KC.out.mono ?_
    rintro e w1 ⟨rfl, hg1⟩
    go_wp2_with fail
    go_ret2
    exact ⟨rfl, hg1⟩
end Go.Proofs.YtnbnhapepcegpaaGreatDoor

/- The program's FirstBadLine. -/
namespace Go.Proofs.YtnbnhapepcegpaaGreatDoor
open Go.RowKit
open Fm (Nd)

theorem areFormulasL_c (v : Value) (H : List (List Nd)) (w : World) (h : Nls w v H) (hf : FitsNl H) :
    Calls Tryz.prog 40 #[v] w fun e w' => e = .returned (.bool (!H.any badF)) ∧ Grew w w' := by
  rcases h with ⟨rfl, rfl⟩ | ⟨b, o, c, rfl, h2, h3, h4, h5⟩
  · have K2 : Calls Tryz.prog 71 #[.slice none 0 0, .func (.func 54) #[] #[]] w fun e w' => e = .returned (.int .i64 (-1)) ∧ Grew w w' := by
      go_enter Tryz.func71, Tryz.ntmps71
      go_wp2_with fail
      refine wp_loop_rounds 1 ?_; rw [rounds_succ]
      go_wp2_with fail
      go_ret
      exact ⟨rfl, Grew.refl _⟩
    have K1 : Calls Tryz.prog 53 #[.slice none 0 0, .func (.func 54) #[] #[]] w fun e w' => e = .returned (.bool false) ∧ Grew w w' := by
      replace K2 := Lib.hid K2
      go_enter Tryz.func53, Tryz.ntmps53
      go_wp2_with fail
      refine K2.out.mono ?_
      rintro e w1 ⟨rfl, hg1⟩
      go_wp2_with fail
      go_ret
      exact ⟨rfl, hg1⟩
    replace K1 := Lib.hid K1
    clear K2
    go_enter Tryz.func40, Tryz.ntmps40
    go_wp2_with fail
    refine K1.out.mono ?_
    rintro e w1 ⟨rfl, hg1⟩
    go_wp2_with fail
    go_ret
    exact ⟨rfl, hg1⟩
  · refine areFormulas_c _ H w ⟨b, o, c, rfl, h2, h3, fun i hi => ?_⟩ (fun i hi => ?_)
    · obtain ⟨u, k1, k2⟩ := h5 i _ (nlD_some hi)
      exact ⟨u, fun W hW => (hW.cell (p := ⟨b, o + i, none⟩) h4).trans k1, k2⟩
    · have := hf _ (nlD_mem hi)
      have e : nl H i = H.getD i [] := rfl
      rw [e]
      unfold FitNl at this
      omega

/-- The code of a system and hypotheses. -/
noncomputable def hypC (s : ByteArray) (H : List (List Nd)) : Int := if (sysL s).isNone then 2 else if H.any badF then 1 else 0
theorem hypothesesCode_c (s : ByteArray) (v : Value) (H : List (List Nd)) (w : World) (h : Nls w v H) (hf : FitsNl H) :
    Calls Tryz.prog 26 #[.string s, v] w fun e w' => e = .returned (.int .i64 (hypC s H)) ∧ Grew w w' := by
  have KS := Lib.hid (fun W => schemesOf_c s W)
  have KA := Lib.hid (fun W (hW : Grew w W) => areFormulasL_c v H W (h.grew hW) hf)
  unfold hypC
  obtain ⟨A, c, rfl⟩ := Nls_slice h
  clear h hf
  generalize H.any badF = ab at *
  generalize H.length = n at *
  cases hs : sysL s with
  | none =>
    rw [hs] at KS
    go_enter Tryz.func26, Tryz.ntmps26
    go_wp2_with fail
    refine (KS.out _).mono ?_
    rintro e w1 ⟨v1, rfl, ho1, hg1⟩
    simp only [Option.isSome_none]
    go_wp2_with fail
    go_ret
    exact ⟨rfl, hg1⟩
  | some Ls =>
    rw [hs] at KS
    simp only [Option.isNone_some, Bool.false_eq_true, if_false]
    cases ab with
    | true =>
      go_enter Tryz.func26, Tryz.ntmps26
      go_wp2_with fail
      refine (KS.out _).mono ?_
      rintro e w1 ⟨v1, rfl, ho1, hg1⟩
      simp only [Option.isSome_some]
      go_wp2_with fail
      refine (KA.out _ hg1).mono ?_
      rintro e w2 ⟨rfl, hg2⟩
      go_wp2_with fail
      go_ret
      exact ⟨rfl, hg1.trans hg2⟩
    | false =>
      go_enter Tryz.func26, Tryz.ntmps26
      go_wp2_with fail
      refine (KS.out _).mono ?_
      rintro e w1 ⟨v1, rfl, ho1, hg1⟩
      simp only [Option.isSome_some]
      go_wp2_with fail
      refine (KA.out _ hg1).mono ?_
      rintro e w2 ⟨rfl, hg2⟩
      go_wp2_with fail
      go_ret
      exact ⟨rfl, hg1.trans hg2⟩
theorem isLineCount_c (A : Option Addr) (n c : Nat) (w : World) :
    Calls Tryz.prog 27 #[.slice A n c] w fun e w' => e = .returned (.bool (decide (1 ≤ n ∧ n ≤ 200))) ∧ Grew w w' := by
  by_cases h1 : 1 ≤ n
  · have hd : decide (1 ≤ n ∧ n ≤ 200) = decide (n ≤ 200) := by simp [h1]
    rw [hd]
    have h1' : (1 : Int) ≤ (n : Int) := by omega
    go_enter Tryz.func27, Tryz.ntmps27
    go_wp2_with fail
    go_ret
    refine ⟨?_, Grew.refl _⟩
    by_cases h2 : n ≤ 200
    · rw [decide_eq_true h2]; simp; omega
    · rw [decide_eq_false h2]; simp; omega
  · have hd : decide (1 ≤ n ∧ n ≤ 200) = false := by simp [h1]
    rw [hd]
    have h1' : ¬ (1 : Int) ≤ (n : Int) := by omega
    go_enter Tryz.func27, Tryz.ntmps27
    go_wp2_with fail
    go_ret
    exact ⟨rfl, Grew.refl _⟩

set_option maxHeartbeats 2000000 in
theorem firstBad_c (D : Nat) (s : ByteArray) (vH vL : Value) (H : List (List Nd)) (L : List Hl) (w0 w : World) (hg : Grew w0 w) (hD0 : w0.heap.size ≤ D) (hD : Der w D s vH vL (.slice none 0 0)) (hH : Nls w0 vH H) (hL : Hls w0 vL L) (hfH : FitsNl H) (hfL : FitsHl L)
    (hX : TabAt w0 0 schTexts) (hn : L.length ≤ 200) (hn1 : 1 ≤ L.length) (hHn : H.length ≤ 1048576) :
    Calls Tryz.prog 28 #[.pointer (some ⟨D, 0, none⟩)] w fun e w' => e = .returned (.int .i64 (badH s H L)) ∧ Grew w0 w' ∧ ∃ vU, Der w' D s vH vL vU := by
  obtain ⟨R, hR⟩ : ∃ R, R = badH s H L := ⟨_, rfl⟩
  rw [← hR]
  have KG := Lib.hid (fun vU Us k W (hW : Grew w0 W) (h1 : Der W D s vH vL vU) (h2 : OwnU W w0.heap.size vU Us) h3 h4 h5 => isGood_c D w0.heap.size s vH vL vU H L Us k W h1 (hH.grew hW) (hL.grew hW) h2 hfH hfL (hX.grew hW) h3 h4 h5 hn hHn)
  have KN := Lib.hid (fun vU u Us k W (hW : Grew w0 W) (h1 : Der W D s vH vL vU) (h2 : OwnU W w0.heap.size vU Us) h3 h4 h5 h6 h7 => note_c D s vH vL vU u L Us k w0 W hW hD0 h1 h2 h3 h4 h5 h6 h7 hn)
  have HA := Lib.hid (fun j (hj : j < L.length) (h : FineTo (fine s H L) j) hf => hR.trans (fbI_at hj h hf))
  have HE := Lib.hid (fun (h : FineTo (fine s H L) L.length) => hR.trans (fbI_end h))
  have HS := Lib.hid (fun j (h : FineTo (fine s H L) j) hf => h.succ hf)
  have HPR := Lib.hid (fun j (h : FineTo (fine s H L) j) => h.prem)
  have H0 := Lib.hid (FineTo.zero (fine s H L))
  obtain ⟨b, o, c, rfl, hc, hm, hb, hcell⟩ := HlRd.open_ hL (by omega)
  have HC := Lib.hid (fun i (hi : i < L.length) => hcell i _ (hl_some hi))
  have HD0 := Lib.hid hD
  obtain ⟨_, _, d2, _⟩ := hD.at_
  have hwr := Grew.refl w
  have d2' := d2 w hwr
  have HU0 := Lib.hid (OwnU.nil_ w w0.heap.size)
  have HDN := Lib.hid (DepsOk.nil L)
  clear hR hcell hL hH hX hfH hfL hD d2
  generalize hff : fine s H L = f at *
  clear hff
  generalize hln : L.length = ln at *
  replace hln := Lib.hid hln
  go_enter Tryz.func28, Tryz.ntmps28
  go_wp2_with fail
  go_loopg [3, 4, 10] ln (fun gg _ _ i wr => ∃ (j : Nat) (vU : Value) (Us : List (List Int)), j ≤ ln ∧ gg = ln - j ∧ i = .int .i64 j ∧ Hid (Der wr D s vH (.slice (some ⟨b, o, none⟩) ln c) vU) ∧ Hid (OwnU wr w0.heap.size vU Us) ∧ Hid (Us.length = j) ∧ Hid (DepsOk L Us) ∧ Hid (FineTo f j) ∧ Grew w0 wr)
  case atStart => exact ⟨0, _, [], Nat.zero_le _, by omega, rfl, HD0, HU0, Lib.hid rfl, HDN, H0, hg⟩
  case round =>
    obtain ⟨j, vU, Us, hj, rfl, rfl, hDr, hUr, hUl, hDp, hFT, hB⟩ := hrel
    by_cases hlt : j < ln
    · obtain ⟨u, hcl, hu⟩ := HC.out j hlt
      have HU := Lib.hid (fun W (hW : Grew w0 W) => hu.grew hW)
      have KG1 := Lib.hid (fun W (hW : Grew wr W) => KG.out vU Us j W (hB.trans hW) (hDr.out.grew hW) (hUr.out.grew hW) hUl.out hDp.out hlt)
      have KN1 := Lib.hid (fun W (hW : Grew wr W) hu hp => KN.out vU u Us j W (hB.trans hW) (hDr.out.grew hW) (hUr.out.grew hW) hu hUl.out hDp.out hp hlt)
      obtain ⟨A0, c0, rfl⟩ := nodes_slice hu
      have q0 := fun W (hW : Grew wr W) => (hcl W (hB.trans hW)).1
      have q1 := fun W (hW : Grew wr W) => (hcl W (hB.trans hW)).2.1
      have q2 := fun W (hW : Grew wr W) => (hcl W (hB.trans hW)).2.2.1
      have q3 := fun W (hW : Grew wr W) => (hcl W (hB.trans hW)).2.2.2
      have hs := Lib.hid (fun h => HS.out j hFT.out h)
      have hA := Lib.hid (fun h => HA.out j hlt hFT.out h)
      clear hcl hu
      generalize hx : hl L j = x at *
      obtain ⟨rr, fi, se, fo⟩ := x
      simp only at q0 q1 q2 q3 KN1 HU
      generalize fo.length = fl at *
      have hr0 := Grew.refl wr
      have hal := hr0.alloc (.cells #[.int .i64 rr, .int .i64 fi, .int .i64 se, .slice A0 fl c0] 51)
      have f0 : ∀ W, Grew (wr.alloc (.cells #[.int .i64 rr, .int .i64 fi, .int .i64 se, .slice A0 fl c0] 51)) W → W.cell? ⟨wr.heap.size, 0, none⟩ = some (.int .i64 rr) := fun W hW => (hW.cell (p := ⟨wr.heap.size, 0, none⟩) (by simp)).trans (by simp)
      have f1 : ∀ W, Grew (wr.alloc (.cells #[.int .i64 rr, .int .i64 fi, .int .i64 se, .slice A0 fl c0] 51)) W → W.cell? ⟨wr.heap.size, 1, none⟩ = some (.int .i64 fi) := fun W hW => (hW.cell (p := ⟨wr.heap.size, 1, none⟩) (by simp)).trans (by simp)
      have f2 : ∀ W, Grew (wr.alloc (.cells #[.int .i64 rr, .int .i64 fi, .int .i64 se, .slice A0 fl c0] 51)) W → W.cell? ⟨wr.heap.size, 2, none⟩ = some (.int .i64 se) := fun W hW => (hW.cell (p := ⟨wr.heap.size, 2, none⟩) (by simp)).trans (by simp)
      have f3 : ∀ W, Grew (wr.alloc (.cells #[.int .i64 rr, .int .i64 fi, .int .i64 se, .slice A0 fl c0] 51)) W → W.cell? ⟨wr.heap.size, 3, none⟩ = some (.slice A0 fl c0) := fun W hW => (hW.cell (p := ⟨wr.heap.size, 3, none⟩) (by simp)).trans (by simp)
      cases hf : f j with
      | false =>
        rw [hf] at KG1
        replace hA := hA.out hf
        go_wp2_with fail
        refine (KG1.out _ hal).mono ?_
        rintro e w1 ⟨rfl, hg1⟩
        go_wp2_with fail
        go_ret
        exact ⟨by rw [hA]; rfl, hB.trans (hal.trans hg1), vU, hDr.out.grew (hal.trans hg1)⟩
      | true =>
        rw [hf] at KG1
        have hs2 := Lib.hid (hs.out hf)
        have hpr := Lib.hid (HPR.out _ hs2.out)
        go_wp2_with fail
        refine (KG1.out _ hal).mono ?_
        rintro e w1 ⟨rfl, hg1⟩
        have h1 := hal.trans hg1
        have e0 := fun W (hW : Grew w1 W) => f0 W (hg1.trans hW)
        have e1 := fun W (hW : Grew w1 W) => f1 W (hg1.trans hW)
        have e2 := fun W (hW : Grew w1 W) => f2 W (hg1.trans hW)
        have e3 := fun W (hW : Grew w1 W) => f3 W (hg1.trans hW)
        have r1 := Grew.refl w1
        clear f0 f1 f2 f3 q0 q1 q2 q3
        go_wp2_with fail
        refine (KN1.out _ h1 (HU.out _ (hB.trans h1)) hpr.out).mono ?_
        rintro e w2 ⟨rfl, vU2, U, hD2, hU2, hdU, hg2⟩
        have hd2 := Lib.hid (hDp.out.snoc (by rw [hUl.out]; exact hdU))
        have hl2 : Hid ((Us ++ [U]).length = j + 1) := Lib.hid (by rw [List.length_append, hUl.out]; rfl)
        go_wp2_with fail
        go_roundg (ln - (j + 1))
        case measure => omega
        case rel => exact ⟨j + 1, vU2, Us ++ [U], by omega, rfl, by go_num, Lib.hid hD2, Lib.hid hU2, hl2, hd2, hs2, hg2⟩
    · obtain rfl : j = ln := by omega
      have hv := HE.out hFT.out
      go_wp2_with fail
      go_ret
      exact ⟨by rw [hv]; rfl, hB, vU, hDr.out⟩

theorem hcode_of {s : ByteArray} {H : List (List Nd)} {n : Nat} : hcode s H n = if hypC s H = 0 then (if 1 ≤ n ∧ n ≤ 200 then 0 else 3) else hypC s H := by
  unfold hcode hypC
  by_cases h1 : (sysL s).isNone = true
  · rw [if_pos h1, if_pos h1, if_neg (by decide)]
  · rw [if_neg h1, if_neg h1]
    by_cases h2 : H.any badF = true
    · rw [if_pos h2, if_pos h2, if_neg (by decide)]
    · rw [if_neg h2, if_neg h2, if_pos rfl]
set_option maxHeartbeats 1000000 in
theorem implFb_c (s : ByteArray) (vH : Value) (H : List (List Nd)) (vL : Value) (L : List Hl) (w : World) (hX : TabAt w 0 schTexts) (hH : Nls w vH H) (hL : Hls w vL L) (hfH : FitsNl H) (hHn : H.length ≤ 1048576) (hfL : FitsHl L) (hLn : L.length ≤ 1048576) :
    Calls Tryz.prog 10 #[.string s, vH, vL] w (GivesFb (fbF s H L) w) := by
  have KC := Lib.hid (fun W (hW : Grew w W) => hypothesesCode_c s vH H W (hH.grew hW) hfH)
  have KB := Lib.hid (fun D W W' (hW : Grew w W) (hg : Grew W W') hD0 h1 h2 h3 => firstBad_c D s vH vL H L W W' hg hD0 h1 (hH.grew hW) (hL.grew hW) hfH hfL (hX.grew hW) h2 h3 hHn)
  obtain ⟨AL, cL, rfl⟩ := Hls_slice hL
  obtain ⟨AH, cH, rfl⟩ := Nls_slice hH
  have KL := Lib.hid (fun W => isLineCount_c AL L.length cL W)
  unfold fbF
  rw [hcode_of]
  clear hH hL hX
  have hwr := Grew.refl w
  generalize badH s H L = bd at *
  generalize hypC s H = hc at *
  generalize H.length = hlen at *
  generalize hLl : L.length = n at *
  replace hLl := Lib.hid hLl
  by_cases h0 : hc = 0
  · subst h0
    simp only [if_true]
    by_cases hn : 1 ≤ n ∧ n ≤ 200
    · rw [if_pos hn, if_pos rfl]
      rw [decide_eq_true hn] at KL
      go_enter Tryz.func10, Tryz.ntmps10
      go_wp2_with fail
      refine (KC.out _ hwr).mono ?_
      rintro e w1 ⟨rfl, hg1⟩
      go_wp2_with fail
      refine (KL.out _).mono ?_
      rintro e w2 ⟨rfl, hg2⟩
      have hD : Der (w2.alloc (.cells #[.string s, .slice AH hlen cH, .slice AL n cL, .slice none 0 0] 58)) w2.heap.size s (.slice AH hlen cH) (.slice AL n cL) (.slice none 0 0) := blk_new _ _
      have hal := (Grew.refl w2).alloc (.cells #[.string s, .slice AH hlen cH, .slice AL n cL, .slice none 0 0] 58)
      have g2 := hg1.trans hg2
      have K := Lib.hid (KB.out w2.heap.size w2 _ g2 hal (Nat.le_refl _) hD hn.2 hn.1)
      clear hD
      go_wp2_with fail
      refine K.out.mono ?_
      rintro e w3 ⟨rfl, hg3, _⟩
      go_wp2_with fail
      go_ret2
      exact ⟨rfl, g2.trans hg3⟩
    · rw [if_neg hn, if_neg (by decide)]
      rw [decide_eq_false hn] at KL
      go_enter Tryz.func10, Tryz.ntmps10
      go_wp2_with fail
      refine (KC.out _ hwr).mono ?_
      rintro e w1 ⟨rfl, hg1⟩
      go_wp2_with fail
      refine (KL.out _).mono ?_
      rintro e w2 ⟨rfl, hg2⟩
      go_wp2_with fail
      go_ret2
      exact ⟨rfl, hg1.trans hg2⟩
  · rw [if_neg h0, if_neg h0]
    have hne : (hc != 0) = true := by simpa using h0
    go_enter Tryz.func10, Tryz.ntmps10
    go_wp2_with fail
    refine (KC.out _ hwr).mono ?_
    rintro e w1 ⟨rfl, hg1⟩
    go_wp2_with fail
    go_ret2
    exact ⟨rfl, hg1⟩
end Go.Proofs.YtnbnhapepcegpaaGreatDoor

/- The laws' own helpers on lines and lists of nodes: toLineS, eqLineS, toNodeSS, eqNodeSS. -/
namespace Go.Proofs.YtnbnhapepcegpaaGreatDoor
open Go.RowKit
open Fm (Nd)

theorem blk3_all (w : World) (a b c : Obj) : (((w.alloc a).alloc b).alloc c).heap[w.heap.size]? = some a ∧ (((w.alloc a).alloc b).alloc c).heap[w.heap.size + 1]? = some b ∧ (((w.alloc a).alloc b).alloc c).heap[w.heap.size + 1 + 1]? = some c := by
  refine ⟨?_, blk3_mid w a b c, ?_⟩
  · have h := (((Grew.refl (w.alloc a)).alloc b).alloc c).block (k := w.heap.size) (by simp)
    rw [h]; exact blk_new w a
  · have h := blk_new ((w.alloc a).alloc b) c
    have e : ((w.alloc a).alloc b).heap.size = w.heap.size + 1 + 1 := by simp
    rwa [e] at h

theorem own_set {w : World} {B b i : Nat} {e : TypeId} {k n : Nat} {v u : Value} {xs : List Value} (h : w.ownsRow B e k v n xs) (hb : b < B) : (w.setCell ⟨b, i, none⟩ u).ownsRow B e k v n xs :=
  own_only h ((Only.refl b w).setCell u) (fun hh => by have := own_of_ge h hh; omega)

set_option maxHeartbeats 1000000 in
theorem toLine_c (x : Hl) (u : Value) (w : World) (hp : ArgN w u x.2.2.2) (n1 : x.2.2.2.length ≤ 1048576) :
    Calls Tryz.prog 25 #[.agg #[.int .i64 x.1, .int .i64 x.2.1, .int .i64 x.2.2.1, u]] w fun e w' => ∃ v, e = .returned (.agg #[.int .i64 x.1, .int .i64 x.2.1, .int .i64 x.2.2.1, v]) ∧ Own w' w.heap.size v x.2.2.2 ∧ Grew w w' := by
  have KI := Lib.hid (fun W (hW : Grew w W) => toNodeS_c u x.2.2.2 W (hp.grew hW) n1)
  obtain ⟨⟨A, c, rfl, hm1⟩, _⟩ := hp
  clear n1
  obtain ⟨r0, r1, r2, P⟩ := x
  simp only at *
  generalize hpl : P.length = pl at *
  replace hpl := Lib.hid hpl
  have hal := (((Grew.refl w).alloc (.cells #[.int .i64 r0, .int .i64 r1, .int .i64 r2, .slice A pl c] 46)).alloc (.cells #[.int .i64 0, .int .i64 0, .int .i64 0, .slice none 0 0] 51)).alloc (.cells #[.int .i64 r0, .int .i64 r1, .int .i64 r2, .slice none 0 0] 51)
  go_enter Tryz.func25, Tryz.ntmps25
  go_wp2_with fail
  refine (KI.out _ hal).mono ?_
  rintro e w1 ⟨vp, rfl, hop, hg1⟩
  obtain ⟨VA, vc, rfl⟩ := nodes_slice hop.nodes
  rw [hpl.out] at hop ⊢
  have hW0 : (((w.alloc (.cells #[.int .i64 r0, .int .i64 r1, .int .i64 r2, .slice A pl c] 46)).alloc (.cells #[.int .i64 0, .int .i64 0, .int .i64 0, .slice none 0 0] 51)).alloc (.cells #[.int .i64 r0, .int .i64 r1, .int .i64 r2, .slice none 0 0] 51)).heap.size = w.heap.size + 3 := by simp
  rw [hW0] at hop
  have hz1 := hg1.size
  rw [hW0] at hz1
  have hb1 : w1.heap[w.heap.size + 1 + 1]? = some (.cells #[.int .i64 r0, .int .i64 r1, .int .i64 r2, .slice none 0 0] 51 (0, 0)) := (hg1.block (k := w.heap.size + 1 + 1) (by rw [hW0]; omega)).trans (blk3_all w _ _ _).2.2
  have hr1 : w1.heap[w.heap.size + 1]? = some (.cells #[.int .i64 0, .int .i64 0, .int .i64 0, .slice none 0 0] 51 (0, 0)) := (hg1.block (k := w.heap.size + 1) (by rw [hW0]; omega)).trans (blk3_all w _ _ _).2.1
  have o0 : w1.cell? ⟨w.heap.size + 1 + 1, 0, none⟩ = some (.int .i64 r0) := (blk_cell hb1 0).trans rfl
  have o1 : w1.cell? ⟨w.heap.size + 1 + 1, 1, none⟩ = some (.int .i64 r1) := (blk_cell hb1 1).trans rfl
  have o2 : w1.cell? ⟨w.heap.size + 1 + 1, 2, none⟩ = some (.int .i64 r2) := (blk_cell hb1 2).trans rfl
  have o3 : w1.cell? ⟨w.heap.size + 1 + 1, 3, none⟩ = some (.slice none 0 0) := (blk_cell hb1 3).trans rfl
  have q0 : w1.cell? ⟨w.heap.size + 1, 0, none⟩ = some (.int .i64 0) := (blk_cell hr1 0).trans rfl
  have q1 : w1.cell? ⟨w.heap.size + 1, 1, none⟩ = some (.int .i64 0) := (blk_cell hr1 1).trans rfl
  have q2 : w1.cell? ⟨w.heap.size + 1, 2, none⟩ = some (.int .i64 0) := (blk_cell hr1 2).trans rfl
  have q3 : w1.cell? ⟨w.heap.size + 1, 3, none⟩ = some (.slice none 0 0) := (blk_cell hr1 3).trans rfl
  have y1 : ∀ i, w1.frozen? ⟨w.heap.size + 1 + 1, i, none⟩ = false := fun i => blk_frozen hb1 i
  have y2 : ∀ i, w1.frozen? ⟨w.heap.size + 1, i, none⟩ = false := fun i => blk_frozen hr1 i
  have HR := Lib.hid hr1
  have HOP := Lib.hid hop
  have gW := hal.trans hg1
  clear hb1 hr1 hop hW0
  go_wp2_with fail
  (try simp only [Exit.inBlock, Exit.then])
  have hinfo : (Tryz.prog.info? 51).map (·.size) = some 4 := by kernel_rfl
  refine bodyPost_ret (results_cell_row rfl _ _ (w.heap.size + 1) 51 #[.int .i64 r0, .int .i64 r1, .int .i64 r2, .slice VA pl vc] (0, 0) _ rfl ?_ Tryz.underlying51 rfl hinfo) rfl ?_
  · simp [World.setCell, Array.getElem?_modify, HR.out]
  · refine ⟨_, rfl, ?_, ?_⟩
    · exact Own.base (B := w.heap.size + 3) (own_set (own_set (own_set (own_set (own_set HOP.out (by omega)) (by omega)) (by omega)) (by omega)) (by omega)) (by omega)
    · have hq1 : w.heap.size ≤ w.heap.size + 1 := by omega
      have hq2 : w.heap.size ≤ w.heap.size + 1 + 1 := by omega
      exact ((((gW.setCell hq2 _).setCell hq1 _).setCell hq1 _).setCell hq1 _).setCell hq1 _

/-- Four cells are written. -/
theorem HlRow.keep {cur : Array Value} {i j : Nat} {x : Hl} {u a b c d : Value} (h : HlRow cur (i * 4) x u) (hi : i < j) :
    HlRow ((((cur.setIfInBounds (j * 4) a).setIfInBounds (j * 4 + 1) b).setIfInBounds (j * 4 + 2) c).setIfInBounds (j * 4 + 3) d) (i * 4) x u := by
  obtain ⟨h0, h1, h2, h3⟩ := h
  unfold HlRow
  simp only [Array.getElem?_setIfInBounds, Array.size_setIfInBounds]
  refine ⟨?_, ?_, ?_, ?_⟩
  · rw [if_neg (by omega), if_neg (by omega), if_neg (by omega), if_neg (by omega)]; exact h0
  · rw [if_neg (by omega), if_neg (by omega), if_neg (by omega), if_neg (by omega)]; exact h1
  · rw [if_neg (by omega), if_neg (by omega), if_neg (by omega), if_neg (by omega)]; exact h2
  · rw [if_neg (by omega), if_neg (by omega), if_neg (by omega), if_neg (by omega)]; exact h3
theorem HlRow.new {cur : Array Value} {j : Nat} (x : Hl) (u : Value) (hs : j * 4 + 3 < cur.size) :
    HlRow ((((cur.setIfInBounds (j * 4) (.int .i64 x.1)).setIfInBounds (j * 4 + 1) (.int .i64 x.2.1)).setIfInBounds (j * 4 + 2) (.int .i64 x.2.2.1)).setIfInBounds (j * 4 + 3) u) (j * 4) x u := by
  unfold HlRow
  simp only [Array.getElem?_setIfInBounds, Array.size_setIfInBounds]
  refine ⟨?_, ?_, ?_, ?_⟩
  · rw [if_neg (by omega), if_neg (by omega), if_neg (by omega), if_pos trivial, if_pos (by omega)]
  · rw [if_neg (by omega), if_neg (by omega), if_pos trivial, if_pos (by omega)]
  · rw [if_neg (by omega), if_pos trivial, if_pos (by omega)]
  · rw [if_pos trivial, if_pos (by omega)]
/-- The first j are written; their rows lie from block B on. -/
def HlDone (w : World) (B : Nat) (cur : Array Value) (xs : List Hl) (j : Nat) : Prop := ∀ i x, i < j → xs[i]? = some x → ∃ u, HlRow cur (i * 4) x u ∧ Own w B u x.2.2.2
theorem HlDone.own {w : World} {g : Nat} {cur : Array Value} {xs : List Hl} (h : HlDone w (g + 1) cur xs xs.length) (hg : w.heap[g]? = some (.cells cur 51 (0, 0))) (hs : cur.size = xs.length * 4) (hm : xs.length ≤ 9223372036854775807) : OwnHl w g (.slice (some ⟨g, 0, none⟩) xs.length xs.length) xs := by
  refine .inr ⟨g, xs.length, cur, rfl, Nat.le_refl _, hg, Nat.le_refl _, hm, hs, fun i x hx => ?_⟩
  obtain ⟨u, k1, k2⟩ := h i x (List.getElem?_eq_some_iff.1 hx).1 hx
  exact ⟨u, k1, k2.base (Nat.le_succ _)⟩
def NlDone (w : World) (B : Nat) (cur : Array Value) (xs : List (List Nd)) (j : Nat) : Prop := ∀ i x, i < j → xs[i]? = some x → ∃ u, cur[i]? = some u ∧ Own w B u x
theorem NlDone.own {w : World} {g : Nat} {cur : Array Value} {xs : List (List Nd)} (h : NlDone w (g + 1) cur xs xs.length) (hg : w.heap[g]? = some (.cells cur 35 (0, 0))) (hs : cur.size = xs.length) (hm : xs.length ≤ 9223372036854775807) : OwnNl w g (.slice (some ⟨g, 0, none⟩) xs.length xs.length) xs := by
  refine .inr ⟨g, xs.length, cur, rfl, Nat.le_refl _, hg, Nat.le_refl _, hm, hs, fun i x hx => ?_⟩
  obtain ⟨u, k1, k2⟩ := h i x (List.getElem?_eq_some_iff.1 hx).1 hx
  exact ⟨u, k1, k2.base (Nat.le_succ _)⟩

set_option maxHeartbeats 1000000 in
theorem toLineS_c (v : Value) (xs : List Hl) (w : World) (h : ArgHl w v xs) (hn : xs.length ≤ 1048576) (hfit : FitsHl xs) :
    Calls Tryz.prog 9 #[v] w fun e w' => ∃ v', e = .returned v' ∧ OwnHl w' w.heap.size v' xs ∧ Grew w w' := by
  obtain ⟨⟨A, c, rfl, hmax⟩, hS⟩ := h
  have hmk := fun W => run_make_rows (P := Tryz.prog) 30 51 (.agg #[.int .i64 0, .int .i64 0, .int .i64 0, .slice none 0 0]) 4 48 #[.int .i64 0, .int .i64 0, .int .i64 0, .slice none 0 0] Tryz.underlying30 infoHl rfl .i64 .i64 xs.length (by omega) (by omega) W
  have HE := Lib.hid (fun cur w' (h1 : w'.heap[w.heap.size]? = some (.cells cur 51 (0, 0))) (h2 : cur.size = xs.length * 4) (h3 : HlDone w' (w.heap.size + 1) cur xs xs.length) => h3.own h1 h2 (by omega))
  have hsz : (madeCells #[Value.int .i64 0, .int .i64 0, .int .i64 0, .slice none 0 0] (xs.length * 4)).size = xs.length * 4 := size_madeCells _ _
  have hnew := blk_new w (.cells (madeCells #[Value.int .i64 0, .int .i64 0, .int .i64 0, .slice none 0 0] (xs.length * 4)) 51)
  have hal := (Grew.refl w).alloc (.cells (madeCells #[Value.int .i64 0, .int .i64 0, .int .i64 0, .slice none 0 0] (xs.length * 4)) 51)
  generalize madeCells #[Value.int .i64 0, .int .i64 0, .int .i64 0, .slice none 0 0] (xs.length * 4) = cur0 at *
  by_cases hp : 0 < xs.length
  · obtain ⟨b, o, c', hv, hc, hm, hb, hcell⟩ := (hS hp).open_ hp
    obtain ⟨rfl, rfl⟩ : A = some ⟨b, o, none⟩ ∧ c = c' := by simpa using hv
    clear hS hv
    have HC := Lib.hid hcell
    have HX := Lib.hid (fun j (hj : j < xs.length) => (⟨xs[j], List.getElem?_eq_getElem hj, hfit _ (List.getElem_mem hj)⟩ : ∃ x, xs[j]? = some x ∧ FitHl x))
    clear hcell hfit
    generalize hN : xs.length = n at *
    clear hN
    have HNEW := Lib.hid hnew
    clear hnew
    have HAL := Lib.hid hal
    clear hal
    go_enter Tryz.func9, Tryz.ntmps9
    go_wp2_with fail
    go_loopw [4] (fun i wr => ∃ (j : Nat) (cur : Array Value), j ≤ n ∧ i = .int .i64 j ∧ wr.heap[w.heap.size]? = some (.cells cur 51 (0, 0)) ∧ cur.size = n * 4 ∧ Grew w wr ∧ Hid (HlDone wr (w.heap.size + 1) cur xs j)) (fun i _ => n - (intOf i).toNat)
    case atStart => exact ⟨0, cur0, Nat.zero_le _, rfl, HNEW.out, hsz, HAL.out, fun i x hi => absurd hi (by omega)⟩
    case round =>
      obtain ⟨j, cur, hj, rfl, hh, hcs, hB, HD⟩ := hrel
      have HH := Lib.hid hh
      have hlt1 := blk_lt hh
      clear hh
      by_cases hlt : j < n
      · obtain ⟨x, hx, hfx⟩ := HX.out j hlt
        obtain ⟨up, hcl, hpi⟩ := HC.out j x hx
        obtain ⟨k1, k2, k3, k4⟩ := hcl _ hB
        have KT := Lib.hid (fun W (hW : Grew wr W) => toLine_c x up W (hpi.grew (hB.trans hW)) hfx)
        obtain ⟨⟨A1, ca1, rfl, _⟩, _⟩ := hpi
        have hx' := Lib.hid hx
        clear hx hfx hcl
        have HNW := Lib.hid (fun vp => HlRow.new (cur := cur) (j := j) x vp (by omega))
        generalize hl1 : x.2.2.2.length = l1 at *
        replace hl1 := Lib.hid hl1
        generalize hx1 : x.1 = xr at *
        generalize hx3 : x.2.1 = xc at *
        generalize hx4 : x.2.2.1 = xn at *
        clear hx1 hx3 hx4
        go_wp2_with fail
        refine (KT.out _ (Grew.refl wr)).mono ?_
        rintro e w1 ⟨vp, rfl, hop, hg1⟩
        obtain ⟨VA, vc, rfl⟩ := nodes_slice hop.nodes
        have hh := (hg1.block hlt1).trans HH.out
        have f1 : ∀ i, w1.frozen? ⟨w.heap.size, i, none⟩ = false := fun i => blk_frozen hh i
        have hcell : ∀ k, k < n * 4 → ∃ u, w1.cell? ⟨w.heap.size, k, none⟩ = some u := fun k hk => by
          rw [blk_cell hh]
          exact ⟨_, Array.getElem?_eq_getElem (by omega)⟩
        obtain ⟨u1, hu1⟩ := hcell (j * 4) (by omega)
        obtain ⟨u2, hu2⟩ := hcell (j * 4 + 1) (by omega)
        obtain ⟨u3, hu3⟩ := hcell (j * 4 + 2) (by omega)
        obtain ⟨u4, hu4⟩ := hcell (j * 4 + 3) (by omega)
        have HH1 := Lib.hid hh
        have HOP := Lib.hid (hop.base (B' := w.heap.size + 1) (by omega))
        clear hh hcell hop
        rw [hl1.out]
        rw [hl1.out] at HOP
        go_wp2_with fail
        go_roundw
        case rel =>
          refine ⟨j + 1, _, by omega, by go_num, blk_set (blk_set (blk_set (blk_set HH1.out _ _) _ _) _ _) _ _, by simp [hcs], (((((hB.trans hg1).setCell (Nat.le_refl _) _).setCell (Nat.le_refl _) _).setCell (Nat.le_refl _) _).setCell (Nat.le_refl _) _), fun i y hi hy => ?_⟩
          rcases Nat.lt_or_ge i j with hk | hk
          · obtain ⟨p1, q1, q2⟩ := HD.out i y hk hy
            exact ⟨p1, q1.keep hk, own_set (own_set (own_set (own_set (q2.grew hg1) (by omega)) (by omega)) (by omega)) (by omega)⟩
          · obtain rfl : i = j := by omega
            have hxy : x = y := Option.some.inj (hx'.out.symm.trans hy)
            subst hxy
            exact ⟨_, HNW.out _, own_set (own_set (own_set (own_set HOP.out (by omega)) (by omega)) (by omega)) (by omega)⟩
        case measure => simp [intOf]; omega
      · obtain rfl : j = n := by omega
        go_wp2_with fail
        go_ret
        exact ⟨_, rfl, HE.out _ _ HH.out hcs HD.out, hB⟩
  · have hp0 : xs.length ≤ 0 := by omega
    have HNEW := Lib.hid hnew
    clear hnew hS hp hfit
    have HAL := Lib.hid hal
    clear hal
    generalize hN : xs.length = n at *
    clear hN
    go_enter Tryz.func9, Tryz.ntmps9
    go_wp2_with fail
    refine wp_loop_rounds 1 ?_; rw [rounds_succ]
    go_wp2_with fail
    go_ret
    exact ⟨_, rfl, HE.out _ _ HNEW.out hsz (fun i x hi => absurd hi (by omega)), HAL.out⟩

set_option maxHeartbeats 1000000 in
theorem toNodeSS_c (v : Value) (xs : List (List Nd)) (w : World) (h : ArgNl w v xs) (hn : xs.length ≤ 1048576) (hfit : FitsNl xs) :
    Calls Tryz.prog 8 #[v] w fun e w' => ∃ v', e = .returned v' ∧ OwnNl w' w.heap.size v' xs ∧ Grew w w' := by
  obtain ⟨⟨A, c, rfl, hmax⟩, hS⟩ := h
  have hmk := fun W => run_make_rows (P := Tryz.prog) 28 35 (.slice none 0 0) 1 24 #[.slice none 0 0] Tryz.underlying28 infoNl rfl .i64 .i64 xs.length (by omega) (by omega) W
  have HE := Lib.hid (fun cur w' (h1 : w'.heap[w.heap.size]? = some (.cells cur 35 (0, 0))) (h2 : cur.size = xs.length) (h3 : NlDone w' (w.heap.size + 1) cur xs xs.length) => h3.own h1 h2 (by omega))
  have hsz : (madeCells #[Value.slice none 0 0] (xs.length * 1)).size = xs.length := by rw [size_madeCells]; omega
  have hnew := blk_new w (.cells (madeCells #[Value.slice none 0 0] (xs.length * 1)) 35)
  have hal := (Grew.refl w).alloc (.cells (madeCells #[Value.slice none 0 0] (xs.length * 1)) 35)
  generalize madeCells #[Value.slice none 0 0] (xs.length * 1) = cur0 at *
  by_cases hp : 0 < xs.length
  · obtain ⟨b, o, c', hv, hc, hm, hb, hcell⟩ := (hS hp).open_ hp
    obtain ⟨rfl, rfl⟩ : A = some ⟨b, o, none⟩ ∧ c = c' := by simpa using hv
    clear hS hv
    have HC := Lib.hid hcell
    have HX := Lib.hid (fun j (hj : j < xs.length) => (⟨xs[j], List.getElem?_eq_getElem hj, hfit _ (List.getElem_mem hj)⟩ : ∃ x, xs[j]? = some x ∧ FitNl x))
    clear hcell hfit
    generalize hN : xs.length = n at *
    clear hN
    have HNEW := Lib.hid hnew
    clear hnew
    have HAL := Lib.hid hal
    clear hal
    go_enter Tryz.func8, Tryz.ntmps8
    go_wp2_with fail
    go_loopw [4] (fun i wr => ∃ (j : Nat) (cur : Array Value), j ≤ n ∧ i = .int .i64 j ∧ wr.heap[w.heap.size]? = some (.cells cur 35 (0, 0)) ∧ cur.size = n ∧ Grew w wr ∧ Hid (NlDone wr (w.heap.size + 1) cur xs j)) (fun i _ => n - (intOf i).toNat)
    case atStart => exact ⟨0, cur0, Nat.zero_le _, rfl, HNEW.out, hsz, HAL.out, fun i x hi => absurd hi (by omega)⟩
    case round =>
      obtain ⟨j, cur, hj, rfl, hh, hcs, hB, HD⟩ := hrel
      have HH := Lib.hid hh
      have hlt1 := blk_lt hh
      clear hh
      by_cases hlt : j < n
      · obtain ⟨x, hx, hfx⟩ := HX.out j hlt
        obtain ⟨up, hcl, hpi⟩ := HC.out j x hx
        have k1 := hcl _ hB
        have KT := Lib.hid (fun W (hW : Grew wr W) => toNodeS_c up x W (hpi.grew (hB.trans hW)) hfx)
        obtain ⟨⟨A1, ca1, rfl, _⟩, _⟩ := hpi
        have hx' := Lib.hid hx
        clear hx hfx hcl
        generalize hl1 : x.length = l1 at *
        replace hl1 := Lib.hid hl1
        go_wp2_with fail
        refine (KT.out _ (Grew.refl wr)).mono ?_
        rintro e w1 ⟨vp, rfl, hop, hg1⟩
        obtain ⟨VA, vc, rfl⟩ := nodes_slice hop.nodes
        have hh := (hg1.block hlt1).trans HH.out
        have f1 : ∀ i, w1.frozen? ⟨w.heap.size, i, none⟩ = false := fun i => blk_frozen hh i
        have hcell : ∀ k, k < n → ∃ u, w1.cell? ⟨w.heap.size, k, none⟩ = some u := fun k hk => by
          rw [blk_cell hh]
          exact ⟨_, Array.getElem?_eq_getElem (by omega)⟩
        obtain ⟨u1, hu1⟩ := hcell j (by omega)
        have HH1 := Lib.hid hh
        have HOP := Lib.hid (hop.base (B' := w.heap.size + 1) (by omega))
        clear hh hcell hop
        rw [hl1.out]
        rw [hl1.out] at HOP
        go_wp2_with fail
        go_roundw
        case rel =>
          refine ⟨j + 1, _, by omega, by go_num, blk_set HH1.out _ _, by simp [hcs], ((hB.trans hg1).setCell (Nat.le_refl _) _), fun i y hi hy => ?_⟩
          rcases Nat.lt_or_ge i j with hk | hk
          · obtain ⟨p1, q1, q2⟩ := HD.out i y hk hy
            exact ⟨p1, (by rw [Array.getElem?_setIfInBounds, if_neg (by omega)]; exact q1), own_set (q2.grew hg1) (by omega)⟩
          · obtain rfl : i = j := by omega
            have hxy : x = y := Option.some.inj (hx'.out.symm.trans hy)
            subst hxy
            exact ⟨_, (by rw [Array.getElem?_setIfInBounds, if_pos rfl, if_pos (by omega)]), own_set HOP.out (by omega)⟩
        case measure => simp [intOf]; omega
      · obtain rfl : j = n := by omega
        go_wp2_with fail
        go_ret
        exact ⟨_, rfl, HE.out _ _ HH.out hcs HD.out, hB⟩
  · have hp0 : xs.length ≤ 0 := by omega
    have HNEW := Lib.hid hnew
    clear hnew hS hp hfit
    have HAL := Lib.hid hal
    clear hal
    generalize hN : xs.length = n at *
    clear hN
    go_enter Tryz.func8, Tryz.ntmps8
    go_wp2_with fail
    refine wp_loop_rounds 1 ?_; rw [rounds_succ]
    go_wp2_with fail
    go_ret
    exact ⟨_, rfl, HE.out _ _ HNEW.out hsz (fun i x hi => absurd hi (by omega)), HAL.out⟩

theorem eqLine_c (x : Hl) (up vp : Value) (w : World) (h1 : Nodes w up x.2.2.2) (h3 : Nodes w vp x.2.2.2) (n1 : x.2.2.2.length ≤ 1048576) :
    Calls Tryz.prog 29 #[.agg #[.int .i64 x.1, .int .i64 x.2.1, .int .i64 x.2.2.1, up], .agg #[.int .i64 x.1, .int .i64 x.2.1, .int .i64 x.2.2.1, vp]] w fun e w' => e = .returned (.bool true) ∧ Grew w w' := by
  have KI := Lib.hid (fun W (hW : Grew w W) => eqNodeS_yes up vp x.2.2.2 W (h1.grew hW) (h3.grew hW) (by omega))
  obtain ⟨A, c, rfl⟩ := nodes_slice h1
  obtain ⟨A2, c2, rfl⟩ := nodes_slice h3
  clear h1 h3 n1
  have hal := ((Grew.refl w).alloc (.cells #[.int .i64 x.1, .int .i64 x.2.1, .int .i64 x.2.2.1, .slice A x.2.2.2.length c] 51)).alloc (.cells #[.int .i64 x.1, .int .i64 x.2.1, .int .i64 x.2.2.1, .slice A2 x.2.2.2.length c2] 51)
  generalize x.1 = xr at *
  generalize x.2.1 = xc at *
  generalize x.2.2.1 = xn at *
  generalize x.2.2.2.length = l1 at *
  have e1 : (xr != xr) = false := by simp
  have e2 : (xc != xc) = false := by simp
  have e3 : (xn != xn) = false := by simp
  go_enter Tryz.func29, Tryz.ntmps29
  go_wp2_with fail
  refine (KI.out _ hal).mono ?_
  rintro e w1 ⟨rfl, hg1⟩
  go_wp2_with fail
  go_ret
  exact ⟨rfl, hal.trans hg1⟩

/-- Two lists that are equal. -/
theorem eqLineS_yes (v1 v2 : Value) (xs : List Hl) (w : World) (h1 : Hls w v1 xs) (h2 : Hls w v2 xs) (hn : xs.length ≤ 1099511627776) (hf : FitsHl xs) :
    Calls Tryz.prog 12 #[v1, v2] w fun e w' => e = .returned (.bool true) ∧ Grew w w' := by
  by_cases hp : 0 < xs.length
  · obtain ⟨b1, o1, c1, rfl, hc1, hm1, hb1, hcl1⟩ := HlRd.open_ h1 hp
    obtain ⟨b2, o2, c2, rfl, hc2, hm2, hb2, hcl2⟩ := HlRd.open_ h2 hp
    clear h1 h2
    have H1 := Lib.hid hcl1
    have H2 := Lib.hid hcl2
    have HX := Lib.hid (fun j (hj : j < xs.length) => (⟨xs[j], List.getElem?_eq_getElem hj, hf _ (List.getElem_mem hj)⟩ : ∃ x, xs[j]? = some x ∧ FitHl x))
    clear hcl1 hcl2 hf
    generalize hN : xs.length = n at *
    clear hN
    go_enter Tryz.func12, Tryz.ntmps12
    go_wp2_with fail
    go_loopw [5] (fun i wr => ∃ j : Nat, j ≤ n ∧ i = .int .i64 j ∧ Grew w wr) (fun i _ => n - (intOf i).toNat)
    case atStart => exact ⟨0, Nat.zero_le _, rfl, Grew.refl _⟩
    case round =>
      obtain ⟨j, hj, rfl, hB⟩ := hrel
      by_cases hlt : j < n
      · obtain ⟨x, hx, hfx⟩ := HX.out j hlt
        obtain ⟨up, q1, q2⟩ := H1.out j x hx
        obtain ⟨vp, r1, r2⟩ := H2.out j x hx
        have KE := Lib.hid (fun W (hW : Grew w W) => eqLine_c x up vp W (q2.grew hW) (r2.grew hW) hfx)
        obtain ⟨U1, cu1, rfl⟩ := nodes_slice q2
        obtain ⟨V1, cv1, rfl⟩ := nodes_slice r2
        have s0 := fun W (hW : Grew w W) => (q1 W hW).1
        have s1 := fun W (hW : Grew w W) => (q1 W hW).2.1
        have s2 := fun W (hW : Grew w W) => (q1 W hW).2.2.1
        have s3 := fun W (hW : Grew w W) => (q1 W hW).2.2.2
        have t0 := fun W (hW : Grew w W) => (r1 W hW).1
        have t1 := fun W (hW : Grew w W) => (r1 W hW).2.1
        have t2 := fun W (hW : Grew w W) => (r1 W hW).2.2.1
        have t3 := fun W (hW : Grew w W) => (r1 W hW).2.2.2
        have hd := hB.drew
        clear hx q1 q2 r1 r2 hfx
        generalize x.1 = xr at *
        generalize x.2.1 = xc at *
        generalize x.2.2.1 = xn at *
        generalize x.2.2.2.length = l1 at *
        go_wp2_with fail
        go_region_held3 (fun w' => Grew w w') (with_reducible assumption)
          (first | (go_at_call 29; refine (KE.out _ hd).mono ?_; rintro e w1 ⟨rfl, hg1⟩; have hk1 := hd.trans hg1))
        go_wp2_with fail
        go_roundw
        case rel => exact ⟨j + 1, by omega, by go_num, hk1⟩
        case measure => simp [intOf]; omega
      · obtain rfl : j = n := by omega
        go_wp2_with fail
        go_ret
        exact ⟨rfl, hB⟩
  · obtain rfl : xs = [] := List.eq_nil_of_length_eq_zero (by omega)
    obtain ⟨A, c, rfl⟩ := Hls_slice h1
    obtain ⟨B, d, rfl⟩ := Hls_slice h2
    simp only [List.length_nil]
    clear h1 h2 hp hf hn
    go_enter Tryz.func12, Tryz.ntmps12
    go_wp2_with fail
    refine wp_loop_rounds 1 ?_; rw [rounds_succ]
    go_wp2_with fail
    go_ret
    exact ⟨rfl, Grew.refl _⟩

/-- Two lists that are equal. -/
theorem eqNodeSS_yes (v1 v2 : Value) (xs : List (List Nd)) (w : World) (h1 : Nls w v1 xs) (h2 : Nls w v2 xs) (hn : xs.length ≤ 1099511627776) (hf : FitsNl xs) :
    Calls Tryz.prog 11 #[v1, v2] w fun e w' => e = .returned (.bool true) ∧ Grew w w' := by
  by_cases hp : 0 < xs.length
  · obtain ⟨b1, o1, c1, rfl, hc1, hm1, hb1, hcl1⟩ := NlRd.open_ h1 hp
    obtain ⟨b2, o2, c2, rfl, hc2, hm2, hb2, hcl2⟩ := NlRd.open_ h2 hp
    clear h1 h2
    have H1 := Lib.hid hcl1
    have H2 := Lib.hid hcl2
    have HX := Lib.hid (fun j (hj : j < xs.length) => (⟨xs[j], List.getElem?_eq_getElem hj, hf _ (List.getElem_mem hj)⟩ : ∃ x, xs[j]? = some x ∧ FitNl x))
    clear hcl1 hcl2 hf
    generalize hN : xs.length = n at *
    clear hN
    go_enter Tryz.func11, Tryz.ntmps11
    go_wp2_with fail
    go_loopw [5] (fun i wr => ∃ j : Nat, j ≤ n ∧ i = .int .i64 j ∧ Grew w wr) (fun i _ => n - (intOf i).toNat)
    case atStart => exact ⟨0, Nat.zero_le _, rfl, Grew.refl _⟩
    case round =>
      obtain ⟨j, hj, rfl, hB⟩ := hrel
      by_cases hlt : j < n
      · obtain ⟨x, hx, hfx⟩ := HX.out j hlt
        obtain ⟨up, q1, q2⟩ := H1.out j x hx
        obtain ⟨vp, r1, r2⟩ := H2.out j x hx
        have KE := Lib.hid (fun W (hW : Grew w W) => eqNodeS_yes up vp x W (q2.grew hW) (r2.grew hW) (by unfold FitNl at hfx; omega))
        obtain ⟨U1, cu1, rfl⟩ := nodes_slice q2
        obtain ⟨V1, cv1, rfl⟩ := nodes_slice r2
        have s0 := fun W (hW : Grew w W) => q1 W hW
        have t0 := fun W (hW : Grew w W) => r1 W hW
        have hd := hB.drew
        clear hx q1 q2 r1 r2 hfx
        generalize x.length = l1 at *
        go_wp2_with fail
        go_region_held3 (fun w' => Grew w w') (with_reducible assumption)
          (first | (go_at_call 15; refine (KE.out _ hd).mono ?_; rintro e w1 ⟨rfl, hg1⟩; have hk1 := hd.trans hg1))
        go_wp2_with fail
        go_roundw
        case rel => exact ⟨j + 1, by omega, by go_num, hk1⟩
        case measure => simp [intOf]; omega
      · obtain rfl : j = n := by omega
        go_wp2_with fail
        go_ret
        exact ⟨rfl, hB⟩
  · obtain rfl : xs = [] := List.eq_nil_of_length_eq_zero (by omega)
    obtain ⟨A, c, rfl⟩ := Nls_slice h1
    obtain ⟨B, d, rfl⟩ := Nls_slice h2
    simp only [List.length_nil]
    clear h1 h2 hp hf hn
    go_enter Tryz.func11, Tryz.ntmps11
    go_wp2_with fail
    refine wp_loop_rounds 1 ?_; rw [rounds_succ]
    go_wp2_with fail
    go_ret
    exact ⟨rfl, Grew.refl _⟩
end Go.Proofs.YtnbnhapepcegpaaGreatDoor

/- The laws' own helpers: szLineS, szNodeSS. -/
namespace Go.Proofs.YtnbnhapepcegpaaGreatDoor
open Go.RowKit
open Fm (Nd)

theorem szLine_c (x : Hl) (u : Value) (left : Int) (w : World) (hp : ArgN w u x.2.2.2) (h0 : 0 ≤ left) (h1 : left ≤ 1048576) :
    Calls Tryz.prog 21 #[.agg #[.int .i64 x.1, .int .i64 x.2.1, .int .i64 x.2.2.1, u], .int .i64 left] w fun e w' => ∃ r : Int, e = .returned (.int .i64 r) ∧ (r ≤ 1048576 ∧ (0 ≤ r → FitHl x)) ∧ Grew w w' := by
  have hal := (Grew.refl w).alloc (.cells #[.int .i64 x.1, .int .i64 x.2.1, .int .i64 x.2.2.1, u] 46)
  have HE : Hid (FitHl x ↔ x.2.2.2.length ≤ 1048576) := Lib.hid Iff.rfl
  have KI := Lib.hid (fun l W (hW : Grew w W) (a0 : 0 ≤ l) (a1 : l ≤ 1048576) => szNodeS_c u x.2.2.2 l W (hp.grew hW) a0 a1)
  obtain ⟨⟨A, c, rfl, hm1⟩, _⟩ := hp
  generalize FitHl x = FIT at *
  obtain ⟨r0, r1, r2, P⟩ := x
  simp only at *
  generalize P.length = pl at *
  go_enter Tryz.func21, Tryz.ntmps21
  go_wp2_with fail
  refine (KI.out _ _ hal (by omega) (by omega)).mono ?_
  rintro e w1 ⟨r1, rfl, ⟨hr1, hf1⟩, hg1⟩
  have k1 := hal.trans hg1
  by_cases h1 : r1 < 0
  · go_wp2_with fail
    go_ret
    exact ⟨_, rfl, ⟨by omega, fun h => absurd h (by omega)⟩, k1⟩
  · have hf := hf1 (by omega)
    clear hf1
    go_wp2_with fail
    go_ret
    exact ⟨_, rfl, ⟨by omega, fun _ => HE.out.2 hf⟩, k1⟩

/-- The first k are small. -/
def SmallHl (xs : List Hl) (k : Nat) : Prop := ∀ i x, i < k → xs[i]? = some x → FitHl x
theorem SmallHl.zero (xs : List Hl) : SmallHl xs 0 := fun i x hi => absurd hi (by omega)
theorem SmallHl.succ {xs : List Hl} {k : Nat} {x : Hl} (h : SmallHl xs k) (hx : xs[k]? = some x) (h1 : FitHl x) : SmallHl xs (k + 1) := by
  intro i y hi hy
  rcases Nat.lt_or_ge i k with hk | hk
  · exact h i y hk hy
  · obtain rfl : i = k := by omega
    rw [hx] at hy
    injection hy with hy
    subst hy
    exact h1
theorem SmallHl.fits {xs : List Hl} (h : SmallHl xs xs.length) : FitsHl xs := by
  intro x hx
  obtain ⟨i, hi, rfl⟩ := List.getElem_of_mem hx
  exact h i _ hi (List.getElem?_eq_getElem hi)
def SmallNl (xs : List (List Nd)) (k : Nat) : Prop := ∀ i x, i < k → xs[i]? = some x → FitNl x
theorem SmallNl.zero (xs : List (List Nd)) : SmallNl xs 0 := fun i x hi => absurd hi (by omega)
theorem SmallNl.succ {xs : List (List Nd)} {k : Nat} {x : List Nd} (h : SmallNl xs k) (hx : xs[k]? = some x) (h1 : FitNl x) : SmallNl xs (k + 1) := by
  intro i y hi hy
  rcases Nat.lt_or_ge i k with hk | hk
  · exact h i y hk hy
  · obtain rfl : i = k := by omega
    rw [hx] at hy
    injection hy with hy
    subst hy
    exact h1
theorem SmallNl.fits {xs : List (List Nd)} (h : SmallNl xs xs.length) : FitsNl xs := by
  intro x hx
  obtain ⟨i, hi, rfl⟩ := List.getElem_of_mem hx
  exact h i _ hi (List.getElem?_eq_getElem hi)

theorem szLineS_c (v : Value) (xs : List Hl) (left : Int) (w : World) (h : ArgHl w v xs) (h0 : 0 ≤ left) (h1 : left ≤ 1048576) :
    Calls Tryz.prog 6 #[v, .int .i64 left] w fun e w' => ∃ r : Int, e = .returned (.int .i64 r) ∧ SizesHl xs r ∧ Grew w w' := by
  obtain ⟨⟨A, c, rfl, hmax⟩, hS⟩ := h
  have HE : Hid (∀ r : Int, (r ≤ 1048576 ∧ (0 ≤ r → xs.length ≤ 1048576 ∧ FitsHl xs)) → SizesHl xs r) := Lib.hid (fun _ h => h)
  by_cases hlong : left < xs.length
  · clear hS
    generalize xs.length = n at *
    go_enter Tryz.func6, Tryz.ntmps6
    go_wp2_with fail
    go_ret
    exact ⟨_, rfl, HE.out _ ⟨by omega, fun h => absurd h (by omega)⟩, Grew.refl _⟩
  · by_cases hp : 0 < xs.length
    · obtain ⟨b, o, c', hv, hc, hm, hb, hcell⟩ := (hS hp).open_ hp
      obtain ⟨rfl, rfl⟩ : A = some ⟨b, o, none⟩ ∧ c = c' := by simpa using hv
      clear hS hv
      have HC := Lib.hid hcell
      have HX := Lib.hid (fun j (hj : j < xs.length) => (⟨xs[j], List.getElem?_eq_getElem hj⟩ : ∃ x, xs[j]? = some x))
      have HFIN := Lib.hid (fun (h : SmallHl xs xs.length) => h.fits)
      clear hcell
      generalize hN : xs.length = n at *
      clear hN
      go_enter Tryz.func6, Tryz.ntmps6
      go_wp2_with fail
      go_loopw [1, 5] (fun kk i wr => ∃ (j : Nat) (l : Int), j ≤ n ∧ i = .int .i64 j ∧ kk = .int .i64 l ∧ 0 ≤ l ∧ l ≤ 1048576 ∧ Grew w wr ∧ Hid (SmallHl xs j)) (fun _ i _ => n - (intOf i).toNat)
      case atStart => exact ⟨0, left - n, Nat.zero_le _, rfl, rfl, by omega, by omega, Grew.refl _, SmallHl.zero _⟩
      case round =>
        obtain ⟨j, l, hj, rfl, rfl, hl0, hl1, hB, HJ⟩ := hrel
        by_cases hlt : j < n
        · obtain ⟨x, hx⟩ := HX.out j hlt
          obtain ⟨u, hcs, hpi⟩ := HC.out j x hx
          obtain ⟨k1, k2, k3, k4⟩ := hcs _ hB
          have HS := Lib.hid (fun h => HJ.out.succ hx h)
          have HW := Lib.hid (fun W (hW : Grew w W) => szLine_c x u l W (hpi.grew hW) hl0 (by omega))
          clear hcs hpi hx
          generalize hxx : x = y at HS HW
          obtain ⟨r0, r1, r2, P⟩ := x
          simp only at k1 k2 k3 k4
          subst hxx
          simp only at HW
          go_wp2_with fail
          refine (HW.out _ hB).mono ?_
          rintro e w1 ⟨r, rfl, ⟨hr1, hr2⟩, hg1⟩
          by_cases hbig : r < 0
          · clear hr2
            go_wp2_with fail
            go_ret
            exact ⟨_, rfl, HE.out _ ⟨by omega, fun h => absurd h (by omega)⟩, hB.trans hg1⟩
          · have hs := Lib.hid (HS.out (hr2 (by omega)))
            clear hr2
            go_wp2_with fail
            go_roundw
            case rel => exact ⟨j + 1, r, by omega, by go_num, rfl, by omega, by omega, hB.trans hg1, hs⟩
            case measure => simp [intOf]; omega
        · obtain rfl : j = n := by omega
          go_wp2_with fail
          go_ret
          exact ⟨_, rfl, HE.out _ ⟨by omega, fun _ => ⟨by omega, HFIN.out HJ.out⟩⟩, hB⟩
    · obtain rfl : xs = [] := List.eq_nil_of_length_eq_zero (by omega)
      simp only [List.length_nil] at *
      go_enter Tryz.func6, Tryz.ntmps6
      go_wp2_with fail
      refine wp_loop_rounds 1 ?_; rw [rounds_succ]
      go_wp2_with fail
      go_ret
      exact ⟨_, rfl, HE.out _ ⟨by omega, fun _ => ⟨by simp, fun i hi => absurd hi (by simp)⟩⟩, Grew.refl _⟩

theorem szNodeSS_c (v : Value) (xs : List (List Nd)) (left : Int) (w : World) (h : ArgNl w v xs) (h0 : 0 ≤ left) (h1 : left ≤ 1048576) :
    Calls Tryz.prog 5 #[v, .int .i64 left] w fun e w' => ∃ r : Int, e = .returned (.int .i64 r) ∧ SizesNl xs r ∧ Grew w w' := by
  obtain ⟨⟨A, c, rfl, hmax⟩, hS⟩ := h
  have HE : Hid (∀ r : Int, (r ≤ 1048576 ∧ (0 ≤ r → xs.length ≤ 1048576 ∧ FitsNl xs)) → SizesNl xs r) := Lib.hid (fun _ h => h)
  by_cases hlong : left < xs.length
  · clear hS
    generalize xs.length = n at *
    go_enter Tryz.func5, Tryz.ntmps5
    go_wp2_with fail
    go_ret
    exact ⟨_, rfl, HE.out _ ⟨by omega, fun h => absurd h (by omega)⟩, Grew.refl _⟩
  · by_cases hp : 0 < xs.length
    · obtain ⟨b, o, c', hv, hc, hm, hb, hcell⟩ := (hS hp).open_ hp
      obtain ⟨rfl, rfl⟩ : A = some ⟨b, o, none⟩ ∧ c = c' := by simpa using hv
      clear hS hv
      have HC := Lib.hid hcell
      have HX := Lib.hid (fun j (hj : j < xs.length) => (⟨xs[j], List.getElem?_eq_getElem hj⟩ : ∃ x, xs[j]? = some x))
      have HFIN := Lib.hid (fun (h : SmallNl xs xs.length) => h.fits)
      clear hcell
      generalize hN : xs.length = n at *
      clear hN
      go_enter Tryz.func5, Tryz.ntmps5
      go_wp2_with fail
      go_loopw [1, 5] (fun kk i wr => ∃ (j : Nat) (l : Int), j ≤ n ∧ i = .int .i64 j ∧ kk = .int .i64 l ∧ 0 ≤ l ∧ l ≤ 1048576 ∧ Grew w wr ∧ Hid (SmallNl xs j)) (fun _ i _ => n - (intOf i).toNat)
      case atStart => exact ⟨0, left - n, Nat.zero_le _, rfl, rfl, by omega, by omega, Grew.refl _, SmallNl.zero _⟩
      case round =>
        obtain ⟨j, l, hj, rfl, rfl, hl0, hl1, hB, HJ⟩ := hrel
        by_cases hlt : j < n
        · obtain ⟨x, hx⟩ := HX.out j hlt
          obtain ⟨u, hcs, hpi⟩ := HC.out j x hx
          have k1 := hcs _ hB
          have HS := Lib.hid (fun h => HJ.out.succ hx h)
          have HW := Lib.hid (fun W (hW : Grew w W) => szNodeS_c u x l W (hpi.grew hW) hl0 (by omega))
          clear hcs hpi hx
          go_wp2_with fail
          refine (HW.out _ hB).mono ?_
          rintro e w1 ⟨r, rfl, ⟨hr1, hr2⟩, hg1⟩
          by_cases hbig : r < 0
          · clear hr2
            go_wp2_with fail
            go_ret
            exact ⟨_, rfl, HE.out _ ⟨by omega, fun h => absurd h (by omega)⟩, hB.trans hg1⟩
          · have hs := Lib.hid (HS.out (hr2 (by omega)))
            clear hr2
            go_wp2_with fail
            go_roundw
            case rel => exact ⟨j + 1, r, by omega, by go_num, rfl, by omega, by omega, hB.trans hg1, hs⟩
            case measure => simp [intOf]; omega
        · obtain rfl : j = n := by omega
          go_wp2_with fail
          go_ret
          exact ⟨_, rfl, HE.out _ ⟨by omega, fun _ => ⟨by omega, HFIN.out HJ.out⟩⟩, hB⟩
    · obtain rfl : xs = [] := List.eq_nil_of_length_eq_zero (by omega)
      simp only [List.length_nil] at *
      go_enter Tryz.func5, Tryz.ntmps5
      go_wp2_with fail
      refine wp_loop_rounds 1 ?_; rw [rounds_succ]
      go_wp2_with fail
      go_ret
      exact ⟨_, rfl, HE.out _ ⟨by omega, fun _ => ⟨by simp, fun i hi => absurd hi (by simp)⟩⟩, Grew.refl _⟩
end Go.Proofs.YtnbnhapepcegpaaGreatDoor

/- The law FnExactFirstBadLine, walked. -/
namespace Go.Proofs.YtnbnhapepcegpaaGreatDoor
open Go.RowKit

theorem lawFb_c (s0 : ByteArray) (v1 : Value) (L1 : List (List Fm.Nd)) (v2 : Value) (L2 : List Hl) (w : World) (hX : TabAt w 0 schTexts) (h1 : ArgNl w v1 L1) (h2 : ArgHl w v2 L2) :
    Calls Tryz.prog 3 #[.string s0, v1, v2] w fun e w' => e = .returned (.bool true) ∧ Grew w w' := by
  by_cases hbig0 : 1048576 < s0.size
  · clear h1 h2
    go_enter Tryz.func3, Tryz.ntmps3
    go_wp2_with fail
    go_ret
    exact ⟨rfl, Grew.refl _⟩
  have Z1 := Lib.hid (fun W l (hW : Grew w W) (a0 : 0 ≤ l) (a1 : l ≤ 1048576) => szNodeSS_c v1 L1 l W (h1.grew hW) a0 a1)
  have T1 := Lib.hid (fun W (hW : Grew w W) => toNodeSS_c v1 L1 W (h1.grew hW))
  have Z2 := Lib.hid (fun W l (hW : Grew w W) (a0 : 0 ≤ l) (a1 : l ≤ 1048576) => szLineS_c v2 L2 l W (h2.grew hW) a0 a1)
  have T2 := Lib.hid (fun W (hW : Grew w W) => toLineS_c v2 L2 W (h2.grew hW))
  clear h1 h2
  go_enter Tryz.func3, Tryz.ntmps3
  go_wp2_with fail
  refine (Z1.out _ _ (Grew.refl w) (by omega) (by omega)).mono ?_
  rintro e w1 ⟨r1, rfl, ⟨hm1, hs1⟩, hg1⟩
  have z1 := Lib.hid hg1.size
  have g1 : Grew w w1 := (Grew.refl w).trans hg1
  clear hg1
  by_cases hr1 : r1 < 0
  · clear hs1
    go_wp2_with fail
    go_ret
    exact ⟨rfl, g1⟩
  obtain ⟨hn1, hf1⟩ := hs1 (by omega)
  have F1 : Hid (FitsNl L1) := Lib.hid hf1
  clear hs1 hf1
  go_wp2_with fail
  refine (Z2.out _ _ g1 (by omega) (by omega)).mono ?_
  rintro e w2 ⟨r2, rfl, ⟨hm2, hs2⟩, hg2⟩
  have z2 := Lib.hid hg2.size
  have g2 : Grew w w2 := g1.trans hg2
  clear hg2
  by_cases hr2 : r2 < 0
  · clear hs2
    go_wp2_with fail
    go_ret
    exact ⟨rfl, g2⟩
  obtain ⟨hn2, hf2⟩ := hs2 (by omega)
  have F2 : Hid (FitsHl L2) := Lib.hid hf2
  clear hs2 hf2
  have KS := Lib.hid (fun u1 u2 W x1 x2 => specFb_c s0 u1 L1 u2 L2 W x1 x2 F1.out (by omega) F2.out (by omega))
  have KI := Lib.hid (fun u1 u2 W (hW : Grew w W) x1 x2 => implFb_c s0 u1 L1 u2 L2 W (hX.grew hW) x1 x2 F1.out (by omega) F2.out (by omega))
  clear hX
  unfold GivesFb at KS KI
  generalize fbF s0 L1 L2 = rr at *
  obtain ⟨ra, rc⟩ := rr
  simp only at KS KI
  have hc1 : (rc != rc) = false := by simp
  have ha1 : (ra != ra) = false := by simp
  go_wp2_with fail
  refine (T1.out _ g2 hn1 F1.out).mono ?_
  rintro e w3 ⟨a1, rfl, oa1, hg3⟩
  have z3 := Lib.hid hg3.size
  have g3 : Grew w w3 := g2.trans hg3
  clear hg3
  go_wp2_with fail
  refine (T2.out _ g3 hn2 F2.out).mono ?_
  rintro e w4 ⟨a2, rfl, oa2, hg4⟩
  have z4 := Lib.hid hg4.size
  have g4 : Grew w w4 := g3.trans hg4
  replace oa1 := oa1.grew hg4
  clear hg4
  go_wp2_with fail
  refine (KS.out _ _ _ oa1.rd oa2.rd).mono ?_
  rintro e w5 ⟨rfl, hg5⟩
  have z5 := Lib.hid hg5.size
  have g5 : Grew w w5 := g4.trans hg5
  clear hg5 oa1 oa2
  go_wp2_with fail
  refine (T1.out _ g5 hn1 F1.out).mono ?_
  rintro e w6 ⟨x1, rfl, ox1, hg6⟩
  have z6 := Lib.hid hg6.size
  have g6 : Grew w w6 := g5.trans hg6
  clear hg6
  go_wp2_with fail
  refine (T2.out _ g6 hn2 F2.out).mono ?_
  rintro e w7 ⟨x2, rfl, ox2, hg7⟩
  have z7 := Lib.hid hg7.size
  have g7 : Grew w w7 := g6.trans hg7
  replace ox1 := ox1.grew hg7
  clear hg7
  go_wp2_with fail
  refine (KI.out _ _ _ g7 ox1.rd ox2.rd).mono ?_
  rintro e w8 ⟨rfl, hg8⟩
  have z8 := Lib.hid hg8.size
  have g8 : Grew w w8 := g7.trans hg8
  replace ox1 := ox1.grew hg8
  replace ox2 := ox2.grew hg8
  clear hg8
  go_wp2_with fail
  refine (T1.out _ g8 hn1 F1.out).mono ?_
  rintro e w9 ⟨y1, rfl, oy1, hg9⟩
  have z9 := Lib.hid hg9.size
  have g9 : Grew w w9 := g8.trans hg9
  replace ox1 := ox1.grew hg9
  replace ox2 := ox2.grew hg9
  clear hg9
  go_wp2_with fail
  refine (eqNodeSS_yes _ _ L1 _ ox1.rd oy1.rd (by omega) F1.out).mono ?_
  rintro e w10 ⟨rfl, hg10⟩
  have z10 := Lib.hid hg10.size
  have g10 : Grew w w10 := g9.trans hg10
  replace ox1 := ox1.grew hg10
  replace ox2 := ox2.grew hg10
  clear hg10 oy1
  go_wp2_with fail
  refine (T2.out _ g10 hn2 F2.out).mono ?_
  rintro e w11 ⟨y2, rfl, oy2, hg11⟩
  have z11 := Lib.hid hg11.size
  have g11 : Grew w w11 := g10.trans hg11
  replace ox1 := ox1.grew hg11
  replace ox2 := ox2.grew hg11
  clear hg11
  go_wp2_with fail
  refine (eqLineS_yes _ _ L2 _ ox2.rd oy2.rd (by omega) F2.out).mono ?_
  rintro e w12 ⟨rfl, hg12⟩
  have z12 := Lib.hid hg12.size
  have g12 : Grew w w12 := g11.trans hg12
  replace ox1 := ox1.grew hg12
  replace ox2 := ox2.grew hg12
  clear hg12 oy2
  go_wp2_with fail
  go_ret
  exact ⟨rfl, g12⟩
end Go.Proofs.YtnbnhapepcegpaaGreatDoor

/- An argument that is a list of nodes. -/
namespace Go.Proofs.YtnbnhapepcegpaaGreatDoor
open Go.RowKit
open Fm (Nd)

theorem cellN_lt {w : World} {a : Addr} {u : Value} (h : w.cell? a = some u) : a.block < w.heap.size := by
  unfold World.cell? at h
  split at h
  · rename_i hh
    exact (Array.getElem?_eq_some_iff.1 hh).1
  · cases h

theorem argN_of_trod {H : Type} {enc : TypeId × Value → H} {P : Program} {W : World} {sp : Nat → Bool} {held : Bool} {n : Nat} {t e : TypeId} {f0 f1 : Field} {v : Value} {y : DataW H × List MemPlace}
    (ht : P.underlying t = some (.slice e)) (he : P.underlying e = some (.struct #[f0, f1])) (ce : P.cellsOf e = 2) (o0 : f0.offset = 0) (o1 : f1.offset = 1) (c0 : P.cellsOf f0.type = 1) (c1 : P.cellsOf f1.type = 1)
    (u0 : P.underlying f0.type = some (.int .i64)) (u1 : P.underlying f1.type = some (.int .i64)) (h : DataW.trod enc P W 0 sp held n t [v] = some y) : ∃ xs, ArgN W v xs := by
  rcases Go.Deep.open_slice_pairs ht he ce o0 o1 c0 c1 h with ⟨hv, _⟩ | ⟨a, len, cap, m, k, V0, V1, D0, D1, P0, P1, hv, _, hl, hm, hmm, _, hcell⟩
  · obtain rfl : v = .slice none 0 0 := by simpa using hv
    exact ⟨[], ⟨none, 0, rfl, by simp⟩, fun h => absurd h (by simp)⟩
  · obtain rfl : v = .slice (some a) len cap := by simpa using hv
    have hlm : len ≤ m := by rw [hmm]; split <;> omega
    have hmax : maxLen = 9223372036854775807 := by decide
    rw [hmax] at hm
    have each : ∀ i, i < len → ∃ q : Int × Int, V0 i = .int .i64 q.1 ∧ V1 i = .int .i64 q.2 := fun i hi => by
      obtain ⟨_, _, t0, t1⟩ := hcell i (by omega)
      obtain ⟨x, hx, _⟩ := DataW.trod_int u0 t0
      obtain ⟨z, hz, _⟩ := DataW.trod_int u1 t1
      exact ⟨(x, z), by simpa using hx, by simpa using hz⟩
    obtain ⟨q, hq⟩ := Go.Deep.choose_lt each
    have hlen : ((List.range len).map q).length = len := by simp
    refine ⟨(List.range len).map q, ⟨some a, cap, by rw [hlen], by rw [hlen]; omega⟩, fun hp => ?_⟩
    rw [hlen] at hp
    obtain ⟨b, off, spot⟩ := a
    have h0 := (hcell 0 (by omega)).1
    have hspot : spot = none := by simpa [Addr.add] using World.cell?_spot h0
    subst hspot
    have hb := cellN_lt h0
    have hadd : ∀ i, (⟨b, off, none⟩ : Addr).add i = ⟨b, off + i, none⟩ := fun i => by
      unfold Addr.add
      split
      · subst_vars; rfl
      · rfl
    rw [hadd] at hb
    unfold Nodes Rd
    rw [hlen]
    refine ⟨by rw [cells_length, hlen], by omega, .inr ⟨b, off, cap, rfl, hl, hm, hb, fun j u hu => ?_⟩⟩
    have hj : j < len * 2 := by
      have := (List.getElem?_eq_some_iff.1 hu).1
      rw [cells_length, hlen] at this
      exact this
    have hi : j / 2 < len := by omega
    obtain ⟨e0, e1, _⟩ := hcell (j / 2) (by omega)
    rw [hadd, (hq _ hi).1] at e0
    rw [hadd, (hq _ hi).2] at e1
    obtain ⟨k0, k1⟩ := cells_at ((List.range len).map q) (j / 2) (by rw [hlen]; exact hi)
    have hk0 : kd ((List.range len).map q) (j / 2) = (q (j / 2)).1 := by simp [kd, List.getD, hi]
    have hk1 : sy ((List.range len).map q) (j / 2) = (q (j / 2)).2 := by simp [sy, List.getD, hi]
    rw [hk0] at k0
    rw [hk1] at k1
    have hd := Nat.div_add_mod j 2
    rcases Nat.mod_two_eq_zero_or_one j with hmo | hmo
    · have e : j = j / 2 * 2 := by omega
      rw [e] at hu ⊢
      rw [k0] at hu
      rw [← hu]
      exact e0
    · have e : j = j / 2 * 2 + 1 := by omega
      rw [e] at hu ⊢
      rw [k1] at hu
      rw [← hu]
      exact e1
end Go.Proofs.YtnbnhapepcegpaaGreatDoor

/- Arguments that are lists of lines, lists of lists of nodes. -/
namespace Go.Proofs.YtnbnhapepcegpaaGreatDoor
open Go.RowKit
open Fm (Nd)

theorem argHl_of_trod {H : Type} {enc : TypeId × Value → H} {P : Program} {W : World} {sp : Nat → Bool} {held : Bool} {n : Nat} {t e en : TypeId} {f0 f1 f2 f3 g0 g1 : Field} {v : Value} {y : DataW H × List MemPlace}
    (ht : P.underlying t = some (.slice e)) (he : P.underlying e = some (.struct #[f0, f1, f2, f3])) (ce : P.cellsOf e = 4) (o0 : f0.offset = 0) (o1 : f1.offset = 1) (o2 : f2.offset = 2) (o3 : f3.offset = 3)
    (c0 : P.cellsOf f0.type = 1) (c1 : P.cellsOf f1.type = 1) (c2 : P.cellsOf f2.type = 1) (c3 : P.cellsOf f3.type = 1)
    (u0 : P.underlying f0.type = some (.int .i64)) (u1 : P.underlying f1.type = some (.int .i64)) (u2 : P.underlying f2.type = some (.int .i64)) (u3 : P.underlying f3.type = some (.slice en))
    (hn : P.underlying en = some (.struct #[g0, g1])) (cn : P.cellsOf en = 2) (p0 : g0.offset = 0) (p1 : g1.offset = 1) (d0 : P.cellsOf g0.type = 1) (d1 : P.cellsOf g1.type = 1)
    (w0 : P.underlying g0.type = some (.int .i64)) (w1 : P.underlying g1.type = some (.int .i64)) (h : DataW.trod enc P W 0 sp held n t [v] = some y) : ∃ xs, ArgHl W v xs := by
  rcases Go.Deep.open_slice ht h with ⟨hv, _⟩ | ⟨a, len, cap, m, k, D, Pl, hv, _, hl, hm, hmm, _, hcell⟩
  · obtain rfl : v = .slice none 0 0 := by simpa using hv
    exact ⟨[], ⟨none, 0, rfl, by simp⟩, fun h => absurd h (by simp)⟩
  · obtain rfl : v = .slice (some a) len cap := by simpa using hv
    have hlm : len ≤ m := by rw [hmm]; split <;> omega
    have hmax : maxLen = 9223372036854775807 := by decide
    rw [hmax] at hm
    have each : ∀ i, i < len → ∃ q : Value × Hl, W.cell? (a.add (i * 4)) = some (.int .i64 q.2.1) ∧ W.cell? (a.add (i * 4 + 1)) = some (.int .i64 q.2.2.1) ∧ W.cell? (a.add (i * 4 + 2)) = some (.int .i64 q.2.2.2.1) ∧ W.cell? (a.add (i * 4 + 3)) = some q.1 ∧ ArgN W q.1 q.2.2.2.2 := fun i hi => by
      obtain ⟨cs', h1, h2⟩ := hcell i (by omega)
      rw [ce] at h1
      obtain ⟨_, hlen, hc⟩ := World.cells?_some h1
      obtain ⟨xs, k', hk, hxy, _, hxl, hf⟩ := DataW.trod_struct he h2
      match xs, hxl, cs', hlen with
      | [y0, y1, y2, y3], _, [v0, v1, v2, v3], _ =>
        have g0 := hf 0 f0 rfl
        have g1 := hf 1 f1 rfl
        have g2 := hf 2 f2 rfl
        have g3 := hf 3 f3 rfl
        simp [o0, o1, o2, o3, c0, c1, c2, c3] at g0 g1 g2 g3
        have e0 := hc 0 (by omega)
        have e1 := hc 1 (by omega)
        have e2 := hc 2 (by omega)
        have e3 := hc 3 (by omega)
        rw [Go.Deep.add_add] at e0 e1 e2 e3
        obtain ⟨x, hx, _⟩ := DataW.trod_int u0 g0
        obtain ⟨y, hy, _⟩ := DataW.trod_int u1 g1
        obtain ⟨z, hz, _⟩ := DataW.trod_int u2 g2
        obtain ⟨L1, hL1⟩ := argN_of_trod u3 hn cn p0 p1 d0 d1 w0 w1 g3
        obtain rfl : v0 = .int .i64 x := by simpa using hx
        obtain rfl : v1 = .int .i64 y := by simpa using hy
        obtain rfl : v2 = .int .i64 z := by simpa using hz
        exact ⟨(v3, (x, y, z, L1)), by simpa using e0, by simpa using e1, by simpa using e2, by simpa using e3, hL1⟩
    obtain ⟨q, hq⟩ := Go.Deep.choose_lt each
    have hlen : ((List.range len).map fun i => (q i).2).length = len := by simp
    refine ⟨(List.range len).map fun i => (q i).2, ⟨some a, cap, by rw [hlen], by rw [hlen]; omega⟩, fun hp => ?_⟩
    rw [hlen] at hp
    obtain ⟨b, off, spot⟩ := a
    have h0 := (hq 0 (by omega)).1
    have hspot : spot = none := by simpa [Addr.add] using World.cell?_spot h0
    subst hspot
    have hb := cellN_lt h0
    have hadd : ∀ i, (⟨b, off, none⟩ : Addr).add i = ⟨b, off + i, none⟩ := fun i => by
      unfold Addr.add
      split
      · subst_vars; rfl
      · rfl
    rw [hadd] at hb
    refine .inr ⟨b, off, cap, by rw [hlen], by rw [hlen]; exact hl, hm, hb, fun i x hx => ?_⟩
    have hi : i < len := by
      have := (List.getElem?_eq_some_iff.1 hx).1
      rw [hlen] at this
      exact this
    have hxe : x = (q i).2 := by
      rw [List.getElem?_map, List.getElem?_range hi] at hx
      simp at hx
      exact hx.symm
    subst hxe
    obtain ⟨e0, e1, e2, e3, e4⟩ := hq i hi
    rw [hadd] at e0 e1 e2 e3
    exact ⟨_, ⟨e0, by rw [← e1, Nat.add_assoc], by rw [← e2, Nat.add_assoc], by rw [← e3, Nat.add_assoc]⟩, e4⟩

theorem argNl_of_trod {H : Type} {enc : TypeId × Value → H} {P : Program} {W : World} {sp : Nat → Bool} {held : Bool} {n : Nat} {t e en : TypeId} {g0 g1 : Field} {v : Value} {y : DataW H × List MemPlace}
    (ht : P.underlying t = some (.slice e)) (he : P.underlying e = some (.slice en)) (ce : P.cellsOf e = 1)
    (hn : P.underlying en = some (.struct #[g0, g1])) (cn : P.cellsOf en = 2) (p0 : g0.offset = 0) (p1 : g1.offset = 1) (d0 : P.cellsOf g0.type = 1) (d1 : P.cellsOf g1.type = 1)
    (w0 : P.underlying g0.type = some (.int .i64)) (w1 : P.underlying g1.type = some (.int .i64)) (h : DataW.trod enc P W 0 sp held n t [v] = some y) : ∃ xs, ArgNl W v xs := by
  rcases Go.Deep.open_slice ht h with ⟨hv, _⟩ | ⟨a, len, cap, m, k, D, Pl, hv, _, hl, hm, hmm, _, hcell⟩
  · obtain rfl : v = .slice none 0 0 := by simpa using hv
    exact ⟨[], ⟨none, 0, rfl, by simp⟩, fun h => absurd h (by simp)⟩
  · obtain rfl : v = .slice (some a) len cap := by simpa using hv
    have hlm : len ≤ m := by rw [hmm]; split <;> omega
    have hmax : maxLen = 9223372036854775807 := by decide
    rw [hmax] at hm
    have each : ∀ i, i < len → ∃ q : Value × List Nd, W.cell? (a.add i) = some q.1 ∧ ArgN W q.1 q.2 := fun i hi => by
      obtain ⟨cs', h1, h2⟩ := hcell i (by omega)
      rw [ce] at h1
      obtain ⟨_, hlen, hc⟩ := World.cells?_some h1
      match cs', hlen with
      | [v0], _ =>
        have e0 := hc 0 (by omega)
        rw [Go.Deep.add_add] at e0
        obtain ⟨L1, hL1⟩ := argN_of_trod he hn cn p0 p1 d0 d1 w0 w1 h2
        exact ⟨(v0, L1), by simpa using e0, hL1⟩
    obtain ⟨q, hq⟩ := Go.Deep.choose_lt each
    have hlen : ((List.range len).map fun i => (q i).2).length = len := by simp
    refine ⟨(List.range len).map fun i => (q i).2, ⟨some a, cap, by rw [hlen], by rw [hlen]; omega⟩, fun hp => ?_⟩
    rw [hlen] at hp
    obtain ⟨b, off, spot⟩ := a
    have h0 := (hq 0 (by omega)).1
    have hspot : spot = none := by simpa [Addr.add] using World.cell?_spot h0
    subst hspot
    have hb := cellN_lt h0
    have hadd : ∀ i, (⟨b, off, none⟩ : Addr).add i = ⟨b, off + i, none⟩ := fun i => by
      unfold Addr.add
      split
      · subst_vars; rfl
      · rfl
    rw [hadd] at hb
    refine .inr ⟨b, off, cap, by rw [hlen], by rw [hlen]; exact hl, hm, hb, fun i x hx => ?_⟩
    have hi : i < len := by
      have := (List.getElem?_eq_some_iff.1 hx).1
      rw [hlen] at this
      exact this
    have hxe : x = (q i).2 := by
      rw [List.getElem?_map, List.getElem?_range hi] at hx
      simp at hx
      exact hx.symm
    subst hxe
    obtain ⟨e0, e1⟩ := hq i hi
    rw [hadd] at e0
    exact ⟨_, e0, e1⟩
end Go.Proofs.YtnbnhapepcegpaaGreatDoor

/- HilbertConclusion of both sides. -/
namespace Go.Proofs.YtnbnhapepcegpaaGreatDoor
open Go.RowKit
open Fm (Nd)

/-- What HilbertConclusion gives. -/
noncomputable def hcF (s : ByteArray) (H : List (List Nd)) (L : List Hl) : List Nd × Int := if pcode s H L true = 0 then ((hl L (L.length - 1)).2.2.2, 0) else ([], pcode s H L true)
def GivesHc (w : World) (r : List Nd × Int) (e : Ending) (w' : World) : Prop := ∃ v, e = .returned (.tuple #[v, .int .i64 r.2]) ∧ Own w' w.heap.size v r.1 ∧ Grew w w'
theorem pcode_len {s : ByteArray} {H : List (List Nd)} {L : List Hl} {p : Bool} (h : pcode s H L p = 0) : hcode s H L.length = 0 := by
  unfold pcode at h
  by_cases h0 : hcode s H L.length = 0
  · exact h0
  · rw [if_neg h0] at h
    exact absurd h h0
theorem hcode_len {s : ByteArray} {H : List (List Nd)} {n : Nat} (h : hcode s H n = 0) : 1 ≤ n ∧ n ≤ 200 := by
  unfold hcode at h
  split at h
  · cases h
  · split at h
    · cases h
    · split at h
      · assumption
      · cases h
theorem hcF_len {s : ByteArray} {H : List (List Nd)} {L : List Hl} (hf : FitsHl L) : (hcF s H L).1.length ≤ 1048576 := by
  unfold hcF
  split
  · rename_i h
    have hn := hcode_len (pcode_len h)
    exact hf _ (hl_mem (by omega))
  · simp

theorem specHc_c (s : ByteArray) (vH : Value) (H : List (List Nd)) (vL : Value) (L : List Hl) (w : World) (hH : Nls w vH H) (hL : Hls w vL L) (hfH : FitsNl H) (hHn : H.length ≤ 1048576) (hfL : FitsHl L) (hLn : L.length ≤ 1048576) :
    Calls Tryz.prog 13 #[.string s, vH, vL] w (GivesHc w (hcF s H L)) := by
  have KC := Lib.hid (l13Code_c s vH vL H L true w hH hL hfH hfL hHn hLn)
  unfold hcF
  by_cases h0 : pcode s H L true = 0
  · rw [if_pos h0]
    have hn := hcode_len (pcode_len h0)
    rw [h0] at KC
    obtain ⟨b, o, c, rfl, hc, hm, hb, hcell⟩ := HlRd.open_ hL (by omega)
    obtain ⟨u, hcl, hu⟩ := hcell (L.length - 1) _ (hl_some (by omega))
    have hfx : (hl L (L.length - 1)).2.2.2.length ≤ 1048576 := hfL _ (hl_mem (by omega))
    have KO := Lib.hid (fun W (hW : Grew w W) => l02Own_c u _ W (hu.grew hW) (by omega))
    have q3 := fun W (hW : Grew w W) => (hcl W hW).2.2.2
    obtain ⟨AH, cH, rfl⟩ := Nls_slice hH
    obtain ⟨A0, c0, rfl⟩ := nodes_slice hu
    clear hcell hcl hu hL hH
    generalize (hl L (L.length - 1)).2.2.2 = fo at *
    generalize H.length = hlen at *
    generalize L.length = ln at *
    obtain ⟨m, rfl⟩ : ∃ m, ln = m + 1 := ⟨ln - 1, by omega⟩
    simp only [Nat.add_sub_cancel] at q3
    have iw : IntKind.i64.wrap (((m + 1 : Nat) : Int) - 1) = (m : Int) := by rw [IntKind.wrap_i64]; omega
    have hmm : (m : Int) < ((m + 1 : Nat) : Int) := by omega
    go_enter Tryz.func13, Tryz.ntmps13
    go_wp2_with fail
    refine KC.out.mono ?_
    rintro e w1 ⟨rfl, hg1⟩
    go_wp2_with fail
    refine (KO.out _ hg1).mono ?_
    rintro e w2 ⟨v2, rfl, ho2, hg2⟩
    go_wp2_with fail
    go_ret2
    exact ⟨_, rfl, ho2.base hg1.size, hg1.trans hg2⟩
  · rw [if_neg h0]
    have hne : (pcode s H L true != 0) = true := by simpa using h0
    obtain ⟨AL, cL, rfl⟩ := Hls_slice hL
    obtain ⟨AH, cH, rfl⟩ := Nls_slice hH
    clear hH hL
    generalize pcode s H L true = pc at *
    generalize H.length = hlen at *
    generalize L.length = n at *
    go_enter Tryz.func13, Tryz.ntmps13
    go_wp2_with fail
    refine KC.out.mono ?_
    rintro e w1 ⟨rfl, hg1⟩
    go_wp2_with fail
    go_ret2
    exact ⟨.slice none 0 0, rfl, Own.nil_ _ _, hg1⟩

theorem counts_c (k : Nat) (A : Option Addr) (n c : Nat) (w : World) (hk : ∀ W, Grew w W → W.cell? ⟨k, 0, none⟩ = some (.slice A n c)) :
    Calls Tryz.prog 65 #[.slice (some ⟨k, 0, none⟩) 1 1, .func (.func 66) #[] #[]] w fun e w' => e = .returned (.bool (!decide (1 ≤ n ∧ n ≤ 200))) ∧ Grew w w' := by
  have K0 : ∀ W, Calls Tryz.prog 66 #[.slice A n c] W fun e w' => e = .returned (.bool (!decide (1 ≤ n ∧ n ≤ 200))) ∧ Grew W w' := fun W => by
    have K := Lib.hid (isLineCount_c A n c W)
    generalize decide (1 ≤ n ∧ n ≤ 200) = d at *
    go_enter Tryz.func66, Tryz.ntmps66
    go_wp2_with fail
    refine K.out.mono ?_
    rintro e w1 ⟨rfl, hg1⟩
    go_wp2_with fail
    go_ret
    exact ⟨rfl, hg1⟩
  have eg : ∀ args w, (callFunc 66 args).run Tryz.prog w = .ok (.enter 66 args) w := enters_of Tryz.func66 (by kernel_rfl) rfl
  replace K0 := Lib.hid K0
  have hw := Grew.refl w
  have h0 := hk w hw
  generalize hd : decide (1 ≤ n ∧ n ≤ 200) = d at *
  clear hd hk
  cases d with
  | true =>
    have K2 : Calls Tryz.prog 83 #[.slice (some ⟨k, 0, none⟩) 1 1, .func (.func 66) #[] #[]] w fun e w' => e = .returned (.int .i64 (-1)) ∧ Grew w w' := by
      go_enter Tryz.func83, Tryz.ntmps83
      go_wp2_with fail
      refine wp_loop_rounds 2 ?_; rw [rounds_succ]
      go_wp2_with fail
      go_at_fn 66
      refine (K0.out _).mono ?_
      rintro e w1 ⟨rfl, hg1⟩
      go_wp2_with fail
      rw [rounds_succ]
      go_wp2_with fail
      go_ret
      exact ⟨rfl, hg1⟩
    replace K2 := Lib.hid K2
    go_enter Tryz.func65, Tryz.ntmps65
    go_wp2_with fail
    refine K2.out.mono ?_
    rintro e w1 ⟨rfl, hg1⟩
    go_wp2_with fail
    go_ret
    exact ⟨rfl, hg1⟩
  | false =>
    have K2 : Calls Tryz.prog 83 #[.slice (some ⟨k, 0, none⟩) 1 1, .func (.func 66) #[] #[]] w fun e w' => e = .returned (.int .i64 0) ∧ Grew w w' := by
      go_enter Tryz.func83, Tryz.ntmps83
      go_wp2_with fail
      refine wp_loop_rounds 2 ?_; rw [rounds_succ]
      go_wp2_with fail
      go_at_fn 66
      refine (K0.out _).mono ?_
      rintro e w1 ⟨rfl, hg1⟩
      go_wp2_with fail
      go_ret
      exact ⟨rfl, hg1⟩
    replace K2 := Lib.hid K2
    go_enter Tryz.func65, Tryz.ntmps65
    go_wp2_with fail
    refine K2.out.mono ?_
    rintro e w1 ⟨rfl, hg1⟩
    go_wp2_with fail
    go_ret
    exact ⟨rfl, hg1⟩

theorem infoDp : (Tryz.prog.info? 55).map (fun i => (i.zero, i.size, i.bytes)) = some (some (.pointer none), 1, 8) := by kernel_rfl
/-- 'append(out, d)' of a derivation's pointer onto nil. -/
theorem wpList_appP {ops : Array Oper} {rest : List Oper} {o : Oper} {a : Act} {Q : Exit → Act → World → Prop} {w : World} (B : Nat) (s x : Operand) (hgd : o.guard = none)
    (ho : o.op = .call { callee := .builtin .append, args := #[s, x], argTypes := #[62, 62] })
    (hs : a.eval s = .slice none 0 0) (hB : B ≤ w.heap.size) (vx u : Value) (hu : u.oneCell' = true) (hx : a.eval x = vx) (hr : Rd w 1 vx 1 [u])
    (h : ∀ v' w', w'.ownsRow B 55 1 v' 1 [u] → Grew w w' → wpList Tryz.prog ops Q rest (a.put o.dst v') w') : wpList Tryz.prog ops Q (o :: rest) a w := by
  obtain ⟨i0, hi0, hz0, hz1, hz2⟩ := info_parts infoDp
  refine wpList_append_rd w hgd s x _ ho B 55 i0 _ 1 8 Tryz.underlying62 hi0 hz0 hz1 hz2 rfl (by omega) (.slice none 0 0) 0 [] hs (World.ownsRow_nil w B _ 1) vx 1 [u] hx hr (by simpa using hu) (by unfold maxLen; omega) (by omega) hB ?_
  intro v' w' k1 k2 _
  exact h v' w' (by simpa using k1) ((Grew.refl w).grown k2 (fun g hg => by cases hg))
theorem row_one {w : World} {B : Nat} {e : TypeId} {v u : Value} (h : w.ownsRow B e 1 v 1 [u]) : ∃ g c, v = .slice (some ⟨g, 0, none⟩) 1 c ∧ ∀ W, Grew w W → W.cell? ⟨g, 0, none⟩ = some u := by
  obtain ⟨_, h2⟩ := h
  rcases h2 with ⟨_, h5⟩ | ⟨g, cap, cur, rfl, hb, hg, hnc, hcm, hcs, ht⟩
  · cases h5
  · refine ⟨g, cap, rfl, fun W hW => ?_⟩
    rw [hW.cell (p := ⟨g, 0, none⟩) (blk_lt hg), blk_cell hg]
    have h0 : (cur.toList.take (1 * 1))[0]? = some u := by rw [ht]; rfl
    rw [List.getElem?_take, if_pos (by omega)] at h0
    simpa using h0
end Go.Proofs.YtnbnhapepcegpaaGreatDoor

/- HilbertConclusion of the program. -/
namespace Go.Proofs.YtnbnhapepcegpaaGreatDoor
open Go.RowKit
open Fm (Nd)

/-- The code of the lines alone. -/
noncomputable def lcode (s : ByteArray) (H : List (List Nd)) (L : List Hl) : Int := if 1 ≤ L.length ∧ L.length ≤ 200 then (if 0 ≤ badH s H L then 5 else 0) else 3
theorem pcode_of {s : ByteArray} {H : List (List Nd)} {L : List Hl} : pcode s H L true = if hypC s H = 0 then lcode s H L else hypC s H := by
  unfold pcode lcode
  rw [hcode_of]
  by_cases h0 : hypC s H = 0
  · simp only [h0, if_true]
    by_cases hn : 1 ≤ L.length ∧ L.length ≤ 200
    · simp only [hn, and_self, if_true, Bool.true_and, decide_eq_true_eq]
    · rw [if_neg hn, if_neg hn, if_neg (by decide)]
  · simp only [h0, if_false]
/-- What the proofs' derivations are: one that holds the lines, or the code. -/
def GivesPr (s : ByteArray) (vH vL : Value) (code : Int) (w : World) (e : Ending) (w' : World) : Prop :=
  Grew w w' ∧ ((code = 0 ∧ ∃ g c D vU, e = .returned (.tuple #[.slice (some ⟨g, 0, none⟩) 1 c, .int .i64 0]) ∧ (∀ W, Grew w' W → W.cell? ⟨g, 0, none⟩ = some (.pointer (some ⟨D, 0, none⟩))) ∧ Der w' D s vH vL vU) ∨ (code ≠ 0 ∧ e = .returned (.tuple #[.slice none 0 0, .int .i64 code])))

theorem pr_ok {s : ByteArray} {vH vL : Value} {w w' : World} {g c D : Nat} {vU : Value} (hg : Grew w w') (h2 : ∀ W, Grew w' W → W.cell? ⟨g, 0, none⟩ = some (.pointer (some ⟨D, 0, none⟩))) (h3 : Der w' D s vH vL vU) : GivesPr s vH vL 0 w (.returned (.tuple #[.slice (some ⟨g, 0, none⟩) 1 c, .int .i64 0])) w' :=
  ⟨hg, .inl ⟨rfl, g, c, D, vU, rfl, h2, h3⟩⟩
theorem pr_no {s : ByteArray} {vH vL : Value} {code : Int} {w w' : World} (hg : Grew w w') (h : code ≠ 0) : GivesPr s vH vL code w (.returned (.tuple #[.slice none 0 0, .int .i64 code])) w' :=
  ⟨hg, .inr ⟨h, rfl⟩⟩
set_option maxHeartbeats 2000000 in
theorem provenLines_c (s : ByteArray) (vH : Value) (H : List (List Nd)) (vL : Value) (L : List Hl) (k : Nat) (w : World) (hk : ∀ W, Grew w W → W.cell? ⟨k, 0, none⟩ = some vL) (hX : TabAt w 0 schTexts) (hH : Nls w vH H) (hL : Hls w vL L) (hfH : FitsNl H) (hHn : H.length ≤ 1048576) (hfL : FitsHl L) :
    Calls Tryz.prog 43 #[.string s, vH, .slice (some ⟨k, 0, none⟩) 1 1] w (GivesPr s vH vL (lcode s H L) w) := by
  unfold lcode
  have KB := Lib.hid (fun D W W' (hW : Grew w W) (hg : Grew W W') hD0 h1 h2 h3 => firstBad_c D s vH vL H L W W' hg hD0 h1 (hH.grew hW) (hL.grew hW) hfH hfL (hX.grew hW) h2 h3 hHn)
  obtain ⟨AL, cL, rfl⟩ := Hls_slice hL
  obtain ⟨AH, cH, rfl⟩ := Nls_slice hH
  have KC := Lib.hid (counts_c k AL L.length cL w hk)
  clear hH hL hX hfH hfL
  have hwr := Grew.refl w
  generalize badH s H L = bd at *
  generalize H.length = hlen at *
  generalize hLl : L.length = n at *
  replace hLl := Lib.hid hLl
  by_cases hn : 1 ≤ n ∧ n ≤ 200
  · rw [if_pos hn]
    rw [decide_eq_true hn] at KC
    have KC2 := KC.out
    simp only [Bool.not_true] at KC2
    replace KC2 := Lib.hid KC2
    clear KC
    generalize hlc : (if 0 ≤ bd then (5 : Int) else 0) = lc
    replace hlc := Lib.hid hlc
    go_enter Tryz.func43, Tryz.ntmps43
    go_wp2_with fail
    refine KC2.out.mono ?_
    rintro e w2 ⟨rfl, hg2⟩
    have k2 := hk w2 hg2
    have hD : Der (w2.alloc (.cells #[.string s, .slice AH hlen cH, .slice AL n cL, .slice none 0 0] 58)) w2.heap.size s (.slice AH hlen cH) (.slice AL n cL) (.slice none 0 0) := blk_new _ _
    have hal := (Grew.refl w2).alloc (.cells #[.string s, .slice AH hlen cH, .slice AL n cL, .slice none 0 0] 58)
    have K := Lib.hid (KB.out w2.heap.size w2 _ hg2 hal (Nat.le_refl _) hD hn.2 hn.1)
    clear hD
    go_wp2_with fail
    refine wp_loop_rounds 2 ?_; rw [rounds_succ]
    go_wp2_with fail
    refine K.out.mono ?_
    rintro e w3 ⟨rfl, hg3, vU, hD3⟩
    have g3 := hg2.trans hg3
    by_cases hb : 0 ≤ bd
    · have hlc2 := hlc.out
      rw [if_pos hb] at hlc2
      subst hlc2
      go_wp2_with fail
      go_ret2
      exact pr_no g3 (by decide)
    · have hlc2 := hlc.out
      rw [if_neg hb] at hlc2
      subst hlc2
      have hrd := rd_litU w3 (.pointer (some ⟨w2.heap.size, 0, none⟩)) 55
      have hga := g3.alloc (.cells #[.pointer (some ⟨w2.heap.size, 0, none⟩)] 55)
      have hsz := hga.size
      have HD3 := Lib.hid (fun W (hW : Grew w3 W) => hD3.grew hW)
      have hl3 := (Grew.refl w3).alloc (.cells #[.pointer (some ⟨w2.heap.size, 0, none⟩)] 55)
      clear hD3
      go_wp2_with (at_builtin; refine wpList_appP w.heap.size _ _ rfl rfl rfl hsz _ (.pointer (some ⟨w2.heap.size, 0, none⟩)) rfl rfl hrd ?_; intro v4 w4 hown4 hg4)
      have hrow := row_one hown4
      obtain ⟨g5, c5, rfl, hcell5⟩ := hrow
      rw [rounds_succ]
      go_wp2_with fail
      go_ret2
      exact pr_ok (hga.trans hg4) hcell5 (HD3.out _ (hl3.trans hg4))
  · rw [if_neg hn]
    rw [decide_eq_false hn] at KC
    have KC2 := KC.out
    simp only [Bool.not_false] at KC2
    replace KC2 := Lib.hid KC2
    clear KC
    go_enter Tryz.func43, Tryz.ntmps43
    go_wp2_with fail
    refine KC2.out.mono ?_
    rintro e w2 ⟨rfl, hg2⟩
    go_wp2_with fail
    go_ret2
    exact pr_no hg2 (by decide)

theorem proven_c (s : ByteArray) (vH : Value) (H : List (List Nd)) (vL : Value) (L : List Hl) (k : Nat) (w : World) (hk : ∀ W, Grew w W → W.cell? ⟨k, 0, none⟩ = some vL) (hX : TabAt w 0 schTexts) (hH : Nls w vH H) (hL : Hls w vL L) (hfH : FitsNl H) (hHn : H.length ≤ 1048576) (hfL : FitsHl L) :
    Calls Tryz.prog 31 #[.string s, vH, .slice (some ⟨k, 0, none⟩) 1 1] w (GivesPr s vH vL (pcode s H L true) w) := by
  rw [pcode_of]
  have KC := Lib.hid (hypothesesCode_c s vH H w hH hfH)
  have KP := Lib.hid (fun W (hW : Grew w W) => provenLines_c s vH H vL L k W (fun W' hW' => hk W' (hW.trans hW')) (hX.grew hW) (hH.grew hW) (hL.grew hW) hfH hHn hfL)
  obtain ⟨AL, cL, rfl⟩ := Hls_slice hL
  obtain ⟨AH, cH, rfl⟩ := Nls_slice hH
  clear hH hL hX hfH hfL hk
  generalize lcode s H L = lc at *
  generalize hypC s H = hc at *
  generalize H.length = hlen at *
  generalize L.length = n at *
  by_cases h0 : hc = 0
  · subst h0
    simp only [if_true]
    go_enter Tryz.func31, Tryz.ntmps31
    go_wp2_with fail
    refine KC.out.mono ?_
    rintro e w1 ⟨rfl, hg1⟩
    go_wp2_with fail
    refine (KP.out _ hg1).mono ?_
    rintro e w2 hpr
    obtain ⟨hg2, ⟨h1, g, c, D, vU, rfl, h2, h3⟩ | ⟨h1, rfl⟩⟩ := hpr
    · subst h1
      have H2 := Lib.hid h2
      have H3 := Lib.hid h3
      clear h2 h3
      go_wp2_with fail
      go_ret2
      exact pr_ok (hg1.trans hg2) H2.out H3.out
    · go_wp2_with fail
      go_ret2
      exact pr_no (hg1.trans hg2) h1
  · rw [if_neg h0]
    have hne : (hc != 0) = true := by simpa using h0
    go_enter Tryz.func31, Tryz.ntmps31
    go_wp2_with fail
    refine KC.out.mono ?_
    rintro e w1 ⟨rfl, hg1⟩
    go_wp2_with fail
    go_ret2
    exact pr_no hg1 h0

theorem conclusion_c (D : Nat) (s : ByteArray) (vH vL vU : Value) (L : List Hl) (w : World) (hD : Der w D s vH vL vU) (hL : Hls w vL L) (hn : 1 ≤ L.length) (hn2 : L.length ≤ 200) :
    Calls Tryz.prog 33 #[.pointer (some ⟨D, 0, none⟩)] w fun e w' => ∃ u, e = .returned u ∧ Nodes w' u (hl L (L.length - 1)).2.2.2 ∧ Grew w w' := by
  obtain ⟨b, o, c, rfl, hc, hm, hb, hcell⟩ := HlRd.open_ hL (by omega)
  obtain ⟨u, hcl, hu⟩ := hcell (L.length - 1) _ (hl_some (by omega))
  have q3 := fun W (hW : Grew w W) => (hcl W hW).2.2.2
  obtain ⟨_, _, d2, _⟩ := hD.at_
  have HU := Lib.hid (fun W (hW : Grew w W) => hu.grew hW)
  obtain ⟨A0, c0, rfl⟩ := nodes_slice hu
  clear hcell hcl hu hL hD
  generalize (hl L (L.length - 1)).2.2.2 = fo at *
  generalize L.length = ln at *
  obtain ⟨m, rfl⟩ : ∃ m, ln = m + 1 := ⟨ln - 1, by omega⟩
  simp only [Nat.add_sub_cancel] at q3
  have iw : IntKind.i64.wrap (((m + 1 : Nat) : Int) - 1) = (m : Int) := by rw [IntKind.wrap_i64]; omega
  have hmm : (m : Int) < ((m + 1 : Nat) : Int) := by omega
  have hw := Grew.refl w
  have hwd := hw.drew
  go_enter Tryz.func33, Tryz.ntmps33
  go_wp2_with fail
  go_big_region
  go_wp2_with fail
  go_ret
  exact ⟨_, rfl, HU.out _ (by first | assumption | exact hw), by first | assumption | exact hw⟩

set_option maxHeartbeats 1000000 in
theorem implHc_c (s : ByteArray) (vH : Value) (H : List (List Nd)) (vL : Value) (L : List Hl) (w : World) (hX : TabAt w 0 schTexts) (hH : Nls w vH H) (hL : Hls w vL L) (hfH : FitsNl H) (hHn : H.length ≤ 1048576) (hfL : FitsHl L) :
    Calls Tryz.prog 14 #[.string s, vH, vL] w (GivesHc w (hcF s H L)) := by
  have hal := (Grew.refl w).alloc (.cells #[vL] 30)
  have KP := Lib.hid (proven_c s vH H vL L w.heap.size (w.alloc (.cells #[vL] 30)) (fun W hW => (hW.cell (p := ⟨w.heap.size, 0, none⟩) (by simp)).trans (by simp)) (hX.grew hal) (hH.grew hal) (hL.grew hal) hfH hHn hfL)
  have KU := Lib.hid (fun D vU W (hW : Grew w W) h1 h2 h3 => conclusion_c D s vH vL vU L W h1 (hL.grew hW) h2 h3)
  have HNN := Lib.hid (fun (h : pcode s H L true = 0) => (⟨hcode_len (pcode_len h), hfL _ (hl_mem (by have := hcode_len (pcode_len h); omega))⟩ : (1 ≤ L.length ∧ L.length ≤ 200) ∧ (hl L (L.length - 1)).2.2.2.length ≤ 1048576))
  unfold hcF
  obtain ⟨AL, cL, rfl⟩ := Hls_slice hL
  obtain ⟨AH, cH, rfl⟩ := Nls_slice hH
  clear hH hL hX hfH hfL
  generalize hpc : pcode s H L true = pc at *
  generalize (hl L (L.length - 1)).2.2.2 = fo at *
  generalize H.length = hlen at *
  generalize L.length = n at *
  generalize hrr : (if pc = 0 then ((fo, 0) : List Nd × Int) else ([], pc)) = rr
  replace hrr := Lib.hid hrr
  replace hpc := Lib.hid hpc
  go_enter Tryz.func14, Tryz.ntmps14
  go_wp2_with fail
  refine KP.out.mono ?_
  rintro e w1 hpr
  obtain ⟨hg1, ⟨h1, g, c, D, vU, rfl, h2, h3⟩ | ⟨h1, rfl⟩⟩ := hpr
  · subst h1
    have hr2 := hrr.out
    rw [if_pos rfl] at hr2
    have hr2 := Lib.hid hr2
    clear hrr
    obtain ⟨hn, hfo⟩ := HNN.out rfl
    have g1 := hal.trans hg1
    have k1 := h2 w1 (Grew.refl w1)
    have K := Lib.hid (KU.out D vU w1 g1 h3 hn.1 hn.2)
    clear h2 h3
    go_wp2_with fail
    refine K.out.mono ?_
    rintro e w2 ⟨u, rfl, hu, hg2⟩
    have KCl := Lib.hid (clone_c u fo w2 hu (by omega))
    obtain ⟨Au, cu, rfl⟩ := nodes_slice hu
    clear hu
    go_wp2_with fail
    refine KCl.out.mono ?_
    rintro e w3 ⟨v3, rfl, ho3, hg3⟩
    go_wp2_with fail
    go_ret2
    rw [← hr2.out]
    exact ⟨_, rfl, ho3.base (g1.trans hg2).size, (g1.trans hg2).trans hg3⟩
  · have hr2 := hrr.out
    rw [if_neg h1] at hr2
    have hr2 := Lib.hid hr2
    clear hrr
    have hne : (pc != 0) = true := by simpa using h1
    go_wp2_with fail
    go_ret2
    rw [← hr2.out]
    exact ⟨.slice none 0 0, rfl, Own.nil_ _ _, hal.trans hg1⟩
end Go.Proofs.YtnbnhapepcegpaaGreatDoor

/- A row that is written: other rows stay, older worlds have not changed. -/
namespace Go.Proofs.YtnbnhapepcegpaaGreatDoor
open Go.RowKit

theorem own_row {w w' : World} {B : Nat} {e : TypeId} {k n : Nat} {v : Value} {xs : List Value} {row : Option Nat} (h : w.ownsRow B e k v n xs) (hg : w.grownBy w' row) (hne : ∀ g, row = some g → v.ownBlock ≠ some g) : w'.ownsRow B e k v n xs := by
  cases row with
  | none => exact own_grew h ⟨hg.os, hg.tape, hg.output, hg.size, fun i hi => hg.block i hi (by simp)⟩
  | some g => exact own_only h (show Only g w w' from hg) (hne g rfl)
theorem grew_row {W w w' : World} {row : Option Nat} (h : Grew W w) (hg : w.grownBy w' row) (hne : ∀ g, row = some g → W.heap.size ≤ g) : Grew W w' := h.grown hg hne
theorem row_of {w w' : World} {v : Value} (h1 : ∀ g, v.ownBlock = some g → Only g w w') (h2 : v.ownBlock = none → Grew w w') : w.grownBy w' v.ownBlock := by
  cases hv : v.ownBlock with
  | none => exact (h2 hv).by_ _
  | some g => exact h1 g hv
end Go.Proofs.YtnbnhapepcegpaaGreatDoor

/- Two rows that share no block; a frame in which some blocks may have changed. -/
namespace Go.Proofs.YtnbnhapepcegpaaGreatDoor
open Go.RowKit

/-- Two rows that share no block. -/
def Apart (a b : Value) : Prop := ∀ g, a.ownBlock = some g → b.ownBlock ≠ some g
theorem Apart.symm {a b : Value} (h : Apart a b) : Apart b a := fun g hg hb => h g hb hg

/-- Of what was there the blocks from lo to hi alone may have changed. -/
structure Span (lo hi : Nat) (a b : World) : Prop where
  os : b.os = a.os
  tape : b.tape = a.tape
  output : b.output = a.output
  size : a.heap.size ≤ b.heap.size
  block : ∀ k, k < a.heap.size → (k < lo ∨ hi ≤ k) → b.heap[k]? = a.heap[k]?
theorem Span.refl (lo hi : Nat) (w : World) : Span lo hi w w := ⟨rfl, rfl, rfl, Nat.le_refl _, fun _ _ _ => rfl⟩
theorem Span.trans {lo hi : Nat} {a b c : World} (h : Span lo hi a b) (k : Span lo hi b c) : Span lo hi a c :=
  ⟨k.os.trans h.os, k.tape.trans h.tape, k.output.trans h.output, Nat.le_trans h.size k.size, fun i hi' ho => (k.block i (Nat.lt_of_lt_of_le hi' h.size) ho).trans (h.block i hi' ho)⟩
theorem Span.of_grew {lo hi : Nat} {a b : World} (h : Grew a b) : Span lo hi a b := ⟨h.os, h.tape, h.output, h.size, fun k hk _ => h.block hk⟩
theorem Span.grew {lo hi : Nat} {a b c : World} (h : Span lo hi a b) (k : Grew b c) : Span lo hi a c := h.trans (Span.of_grew k)
theorem Span.of_row {lo hi : Nat} {a b : World} {row : Option Nat} (h : a.grownBy b row) (hr : ∀ g, row = some g → lo ≤ g ∧ g < hi) : Span lo hi a b :=
  ⟨h.os, h.tape, h.output, h.size, fun k hk ho => h.block k hk (fun e => by have := hr k e.symm; omega)⟩
theorem Span.of_only {lo hi g : Nat} {a b : World} (h : Only g a b) (h1 : lo ≤ g) (h2 : g < hi) : Span lo hi a b :=
  ⟨h.os, h.tape, h.output, h.size, fun k hk ho => h.block hk (by omega)⟩
/-- Nothing older than lo has changed. -/
theorem Span.old {lo hi : Nat} {w a b : World} (h : Span lo hi a b) (h0 : Grew w a) (hl : w.heap.size ≤ lo) : Grew w b :=
  ⟨h.os.trans h0.os, h.tape.trans h0.tape, h.output.trans h0.output, Nat.le_trans h0.size h.size, fun k hk => (h.block k (Nat.lt_of_lt_of_le hk h0.size) (.inl (Nat.lt_of_lt_of_le hk hl))).trans (h0.block hk)⟩
/-- A row outside stays. -/
theorem Span.own {lo hi B : Nat} {a b : World} {e : TypeId} {k n : Nat} {v : Value} {xs : List Value} (h : Span lo hi a b) (ho : a.ownsRow B e k v n xs) (hv : ∀ g, v.ownBlock = some g → g < lo ∨ hi ≤ g) : b.ownsRow B e k v n xs := by
  obtain ⟨h1, h2⟩ := ho
  refine ⟨h1, ?_⟩
  rcases h2 with h2 | ⟨g, cap, cur, rfl, h4, h5, h6⟩
  · exact .inl h2
  · exact .inr ⟨g, cap, cur, rfl, h4, (h.block g (blk_lt h5) (hv g rfl)).trans h5, h6⟩
end Go.Proofs.YtnbnhapepcegpaaGreatDoor

/- The laws' own helpers on slices of nodes: markNodeS, heldNodeS. -/
namespace Go.Proofs.YtnbnhapepcegpaaGreatDoor
open Go.RowKit
open Fm (Nd)

/-- The numbers that markNodeS lays. -/
def marks (k : Int) (n : Nat) : List Nd := (List.range n).map fun i : Nat => ((k + (i : Int) * 2, k + (i : Int) * 2 + 1) : Nd)
theorem marks_length (k : Int) (n : Nat) : (marks k n).length = n := by simp [marks]
theorem marks_kd {k : Int} {n i : Nat} (h : i < n) : kd (marks k n) i = k + i * 2 := by simp [marks, kd, List.getD, h]
theorem marks_sy {k : Int} {n i : Nat} (h : i < n) : sy (marks k n) i = k + i * 2 + 1 := by simp [marks, sy, List.getD, h]

/-- markNodeS lays its numbers into a row of the call's own. -/
theorem markNodeS_c (v : Value) (xs : List Nd) (B : Nat) (k : Int) (w : World) (h : Own w B v xs) (hk0 : 0 ≤ k) (hk : k ≤ 4611686018427387904) (hn : xs.length ≤ 1099511627776) :
    Calls Tryz.prog 18 #[v, .int .i64 k] w fun e w' => e = .returned (.int .i64 (k + xs.length * 2)) ∧ Own w' B v (marks k xs.length) ∧ (∀ g, v.ownBlock = some g → Only g w w') ∧ (v.ownBlock = none → Grew w w') := by
  rcases h.open_ with ⟨rfl, rfl⟩ | ⟨g, c, cur0, rfl, hB, hg, hh0, hnc, hcm, hcs0, hc0⟩
  · go_enter Tryz.func18, Tryz.ntmps18
    go_wp2_with fail
    refine wp_loop_rounds 1 ?_; rw [rounds_succ]
    go_wp2_with fail
    go_ret
    exact ⟨by simp, by simpa [marks] using Own.nil_ _ _, fun _ _ => Only.refl _ _, fun _ => Grew.refl _⟩
  · have hend : ∀ cur w', w'.heap[g]? = some (.cells cur 68 (0, 0)) → cur.size = c * 2 → (∀ i, i < xs.length → cur[i * 2]? = some (.int .i64 (k + (i : Int) * 2)) ∧ cur[i * 2 + 1]? = some (.int .i64 (k + (i : Int) * 2 + 1))) → Own w' B (.slice (some ⟨g, 0, none⟩) xs.length c) (marks k xs.length) := by
      intro cur w' h1 h2 h3
      have := Own.mk_ (w := w') (B := B) (xs := marks k xs.length) (g := g) (c := c) (cur := cur) hB h1 (by rw [marks_length]; exact hnc) hcm h2 (fun i hi => by
        rw [marks_length] at hi
        rw [marks_kd hi, marks_sy hi]
        exact h3 i hi)
      rw [marks_length] at this
      exact this
    generalize hN : xs.length = n at *
    clear hN hc0 h
    have HE := Lib.hid hend
    clear hend
    go_enter Tryz.func18, Tryz.ntmps18
    go_wp2_with fail
    go_loopw [1, 5] (fun kk i wr => ∃ (j : Nat) (cur : Array Value), j ≤ n ∧ i = .int .i64 j ∧ kk = .int .i64 (k + (j : Int) * 2) ∧ wr.heap[g]? = some (.cells cur 68 (0, 0)) ∧ cur.size = c * 2 ∧ Only g w wr ∧ (∀ i, i < j → cur[i * 2]? = some (.int .i64 (k + (i : Int) * 2)) ∧ cur[i * 2 + 1]? = some (.int .i64 (k + (i : Int) * 2 + 1)))) (fun _ i _ => n - (intOf i).toNat)
    case atStart => exact ⟨0, cur0, Nat.zero_le _, rfl, by simp, hh0, hcs0, Only.refl _ _, fun i hi => absurd hi (by omega)⟩
    case round =>
      obtain ⟨j, cur, hj, rfl, rfl, hh, hcs, ho, hc⟩ := hrel
      have HC := Lib.hid hc
      clear hc
      by_cases hlt : j < n
      · have f1 : ∀ i, wr.frozen? ⟨g, i, none⟩ = false := fun i => by simp [World.frozen?, hh]
        have f2 : ∀ i u, (wr.setCell ⟨g, i, none⟩ u).frozen? ⟨g, i + 1, none⟩ = false := fun i u => by simp [World.frozen?, World.setCell, Array.getElem?_modify, hh]
        obtain ⟨u1, hu1⟩ : ∃ u, wr.cell? ⟨g, 0 + j * 2, none⟩ = some u := by
          rw [cell_of_row wr g _ cur _ (0, 0) hh]
          exact ⟨_, Array.getElem?_eq_getElem (by omega)⟩
        obtain ⟨u2, hu2⟩ : ∃ u, wr.cell? ⟨g, 0 + j * 2 + 1, none⟩ = some u := by
          rw [cell_of_row wr g _ cur _ (0, 0) hh]
          exact ⟨_, Array.getElem?_eq_getElem (by omega)⟩
        simp only [Nat.zero_add] at hu1 hu2
        have HH := Lib.hid hh
        clear hh
        go_wp2_with fail
        go_roundw
        case rel =>
          exact ⟨j + 1, _, by omega, by go_num, by go_num, blk_set (blk_set HH.out _ _) _ _, by simp [hcs], (ho.setCell _).setCell _, pair_step (F := fun i => .int .i64 (k + (i : Int) * 2)) (G := fun i => .int .i64 (k + (i : Int) * 2 + 1)) (by omega) HC.out⟩
        case measure => simp [intOf]; omega
      · obtain rfl : j = n := by omega
        have HH := Lib.hid hh
        clear hh
        go_wp2_with fail
        go_ret
        exact ⟨rfl, HE.out _ _ HH.out hcs HC.out, fun g' hg' => by simp [Value.ownBlock] at hg'; subst hg'; exact ho, fun hg' => by simp [Value.ownBlock] at hg'⟩

/-- heldNodeS finds the numbers that stand there. -/
theorem heldNodeS_c (v : Value) (n : Nat) (k : Int) (w : World) (h : Nodes w v (marks k n)) (hk0 : 0 ≤ k) (hk : k ≤ 4611686018427387904) (hn : n ≤ 1099511627776) :
    Calls Tryz.prog 19 #[v, .int .i64 k] w fun e w' => e = .returned (.int .i64 (k + n * 2)) ∧ Grew w w' := by
  have hl := marks_length k n
  rcases h.open_ with ⟨rfl, h0⟩ | ⟨b, o, c, rfl, hc, hm, hb, hf⟩
  · obtain rfl : n = 0 := by rw [h0] at hl; simpa using hl.symm
    go_enter Tryz.func19, Tryz.ntmps19
    go_wp2_with fail
    refine wp_loop_rounds 1 ?_; rw [rounds_succ]
    go_wp2_with fail
    go_ret
    exact ⟨by simp, Grew.refl _⟩
  · rw [hl] at hc hf ⊢
    clear hl h
    have HF : Hid (∀ i, i < n → ∀ W, Grew w W → W.cell? ⟨b, o + i * 2, none⟩ = some (.int .i64 (k + (i : Int) * 2)) ∧ W.cell? ⟨b, o + i * 2 + 1, none⟩ = some (.int .i64 (k + (i : Int) * 2 + 1))) := Lib.hid fun i hi W hW => by
      have := hf i hi W hW
      rwa [marks_kd hi, marks_sy hi] at this
    clear hf
    go_enter Tryz.func19, Tryz.ntmps19
    go_wp2_with fail
    go_loopw [1, 5] (fun kk i wr => ∃ (j : Nat), j ≤ n ∧ i = .int .i64 j ∧ kk = .int .i64 (k + (j : Int) * 2) ∧ Grew w wr) (fun _ i _ => n - (intOf i).toNat)
    case atStart => exact ⟨0, Nat.zero_le _, rfl, by simp, Grew.refl _⟩
    case round =>
      obtain ⟨j, hj, rfl, rfl, hB⟩ := hrel
      by_cases hlt : j < n
      · have k1 : ∀ W, Grew w W → W.cell? ⟨b, o + j * 2, none⟩ = some (.int .i64 (k + (j : Int) * 2)) := fun W hW => (HF.out j hlt W hW).1
        have k2 : ∀ W, Grew w W → W.cell? ⟨b, o + j * 2 + 1, none⟩ = some (.int .i64 (k + (j : Int) * 2 + 1)) := fun W hW => (HF.out j hlt W hW).2
        have hd : ∀ W, Grew w W → Grew w W.drew := fun W h => h.drew
        go_wp2_with fail
        go_roundw
        case rel => exact ⟨j + 1, by omega, by go_num, by go_num, by assumption⟩
        case measure => simp [intOf]; omega
      · obtain rfl : j = n := by omega
        go_wp2_with fail
        go_ret
        exact ⟨rfl, by assumption⟩
/-- What markNodeS leaves: every world that was there before the row was made has not changed. -/
def Marks (w : World) (B : Nat) (v : Value) (k : Int) (n : Nat) (e : Ending) (w' : World) : Prop :=
  e = .returned (.int .i64 (k + n * 2)) ∧ Own w' B v (marks k n) ∧ ∀ w0 : World, w0.heap.size ≤ B → Grew w0 w → Grew w0 w'
theorem markNodeS_g (v : Value) (xs : List Nd) (B : Nat) (k : Int) (w : World) (h : Own w B v xs) (hk0 : 0 ≤ k) (hk : k ≤ 4611686018427387904) (hn : xs.length ≤ 1099511627776) :
    Calls Tryz.prog 18 #[v, .int .i64 k] w (Marks w B v k xs.length) :=
  (markNodeS_c v xs B k w h hk0 hk hn).mono fun e w' ⟨h1, h2, h3, h4⟩ => ⟨h1, h2, fun w0 hB hg => by
    cases hv : v.ownBlock with
    | none => exact hg.trans (h4 hv)
    | some g => exact (h3 g hv).grew_of hg (Nat.le_trans hB (h.lt g hv).1)⟩

end Go.Proofs.YtnbnhapepcegpaaGreatDoor

/- Rows of lines, of lists of nodes, whose inner rows lie apart; the laws' marks on them. -/
namespace Go.Proofs.YtnbnhapepcegpaaGreatDoor
open Go.RowKit
open Fm (Nd)

theorem ownB_len (A : Option Addr) (n m c : Nat) : (Value.slice A n c).ownBlock = (Value.slice A m c).ownBlock := by cases A <;> rfl
/-- The first n lines' cells; their rows us lie in the blocks from lo to hi, apart. -/
structure HlX (w : World) (lo hi : Nat) (xs : List Hl) (n : Nat) (cur : Array Value) (us : Nat → Value) : Prop where
  rows : ∀ i x, i < n → xs[i]? = some x → HlRow cur (i * 4) x (us i) ∧ Own w lo (us i) x.2.2.2
  top : ∀ i b, i < n → (us i).ownBlock = some b → b < hi
  ap : ∀ i k, i < k → k < n → Apart (us i) (us k)
theorem HlX.zero (w : World) (lo hi : Nat) (xs : List Hl) (cur : Array Value) (us : Nat → Value) : HlX w lo hi xs 0 cur us :=
  ⟨fun i x h => absurd h (by omega), fun i b h => absurd h (by omega), fun i k h h2 => absurd h2 (by omega)⟩
theorem HlX.grew {w w' : World} {lo hi n : Nat} {xs : List Hl} {cur : Array Value} {us : Nat → Value} (h : HlX w lo hi xs n cur us) (hg : Grew w w') : HlX w' lo hi xs n cur us :=
  ⟨fun i x hi hx => let ⟨a, b⟩ := h.rows i x hi hx; ⟨a, b.grew hg⟩, h.top, h.ap⟩
theorem HlX.down {w : World} {lo lo' hi n : Nat} {xs : List Hl} {cur : Array Value} {us : Nat → Value} (h : HlX w lo hi xs n cur us) (hh : lo' ≤ lo) : HlX w lo' hi xs n cur us :=
  ⟨fun i x a b => let ⟨p, q⟩ := h.rows i x a b; ⟨p, q.base hh⟩, h.top, h.ap⟩
def OwnHlx (w : World) (lo hi : Nat) (v : Value) (xs : List Hl) : Prop :=
  (v = .slice none 0 0 ∧ xs = []) ∨ ∃ (g c : Nat) (cur : Array Value) (us : Nat → Value), v = .slice (some ⟨g, 0, none⟩) xs.length c ∧ lo ≤ g ∧ g < hi ∧ w.heap[g]? = some (.cells cur 51 (0, 0)) ∧ xs.length ≤ c ∧ c ≤ 9223372036854775807 ∧ cur.size = c * 4 ∧ HlX w lo hi xs xs.length cur us
theorem OwnHlx.grew {w w' : World} {lo hi : Nat} {v : Value} {xs : List Hl} (h : OwnHlx w lo hi v xs) (hg : Grew w w') : OwnHlx w' lo hi v xs := by
  rcases h with h | ⟨g, c, cur, us, h1, h2, h3, h4, h5, h6, h7, h8⟩
  · exact .inl h
  · exact .inr ⟨g, c, cur, us, h1, h2, h3, (hg.block (blk_lt h4)).trans h4, h5, h6, h7, h8.grew hg⟩
theorem OwnHlx.rd {w : World} {lo hi : Nat} {v : Value} {xs : List Hl} (h : OwnHlx w lo hi v xs) : Hls w v xs := by
  rcases h with h | ⟨g, c, cur, us, h1, h2, h3, h4, h5, h6, h7, h8⟩
  · exact .inl h
  · refine .inr ⟨g, 0, c, h1, h5, h6, blk_lt h4, fun i x hx => ?_⟩
    obtain ⟨k1, k2⟩ := h8.rows i x (List.getElem?_eq_some_iff.1 hx).1 hx
    refine ⟨_, ?_, k2.nodes⟩
    rw [Nat.zero_add]
    exact k1.cells h4
/-- One more. -/
theorem HlX.snoc {w w2 : World} {lo n : Nat} {xs : List Hl} {cur cur' : Array Value} {us : Nat → Value} {x : Hl} {u : Value} (h : HlX w lo w.heap.size xs n cur us) (hx : xs[n]? = some x) (hs : w.heap.size ≤ w2.heap.size)
    (hrow : ∀ i y, i < n → xs[i]? = some y → HlRow cur (i * 4) y (us i) → HlRow cur' (i * 4) y (us i)) (hnew : HlRow cur' (n * 4) x u) (ho : Own w2 lo u x.2.2.2) (hge : ∀ g, u.ownBlock = some g → w.heap.size ≤ g) (hlt : ∀ g, u.ownBlock = some g → g < w2.heap.size)
    (hk : ∀ i y, i < n → xs[i]? = some y → Own w lo (us i) y.2.2.2 → Own w2 lo (us i) y.2.2.2) : HlX w2 lo w2.heap.size xs (n + 1) cur' (fun i => if i = n then u else us i) := by
  refine ⟨fun i y hi hy => ?_, fun i b hi hb => ?_, fun i k hik hk2 => ?_⟩
  · by_cases he : i = n
    · subst he
      rw [if_pos rfl]
      obtain rfl := Option.some.inj (hx.symm.trans hy)
      exact ⟨hnew, ho⟩
    · rw [if_neg he]
      obtain ⟨a, c⟩ := h.rows i y (by omega) hy
      exact ⟨hrow i y (by omega) hy a, hk i y (by omega) hy c⟩
  · by_cases he : i = n
    · rw [if_pos he] at hb
      exact hlt b hb
    · rw [if_neg he] at hb
      exact Nat.lt_of_lt_of_le (h.top i b (by omega) hb) hs
  · by_cases he : k = n
    · rw [if_neg (by omega), if_pos he]
      intro g hg hg2
      have h1 := h.top i g (by omega) hg
      have h2 := hge g hg2
      omega
    · rw [if_neg (by omega), if_neg he]
      exact h.ap i k hik (by omega)
/-- The first n lines' cells; their rows us lie in the blocks from lo to hi, apart. -/
structure NlX (w : World) (lo hi : Nat) (xs : List (List Nd)) (n : Nat) (cur : Array Value) (us : Nat → Value) : Prop where
  rows : ∀ i x, i < n → xs[i]? = some x → cur[i]? = some (us i) ∧ Own w lo (us i) x
  top : ∀ i b, i < n → (us i).ownBlock = some b → b < hi
  ap : ∀ i k, i < k → k < n → Apart (us i) (us k)
theorem NlX.zero (w : World) (lo hi : Nat) (xs : List (List Nd)) (cur : Array Value) (us : Nat → Value) : NlX w lo hi xs 0 cur us :=
  ⟨fun i x h => absurd h (by omega), fun i b h => absurd h (by omega), fun i k h h2 => absurd h2 (by omega)⟩
theorem NlX.grew {w w' : World} {lo hi n : Nat} {xs : List (List Nd)} {cur : Array Value} {us : Nat → Value} (h : NlX w lo hi xs n cur us) (hg : Grew w w') : NlX w' lo hi xs n cur us :=
  ⟨fun i x hi hx => let ⟨a, b⟩ := h.rows i x hi hx; ⟨a, b.grew hg⟩, h.top, h.ap⟩
theorem NlX.down {w : World} {lo lo' hi n : Nat} {xs : List (List Nd)} {cur : Array Value} {us : Nat → Value} (h : NlX w lo hi xs n cur us) (hh : lo' ≤ lo) : NlX w lo' hi xs n cur us :=
  ⟨fun i x a b => let ⟨p, q⟩ := h.rows i x a b; ⟨p, q.base hh⟩, h.top, h.ap⟩
def OwnNlx (w : World) (lo hi : Nat) (v : Value) (xs : List (List Nd)) : Prop :=
  (v = .slice none 0 0 ∧ xs = []) ∨ ∃ (g c : Nat) (cur : Array Value) (us : Nat → Value), v = .slice (some ⟨g, 0, none⟩) xs.length c ∧ lo ≤ g ∧ g < hi ∧ w.heap[g]? = some (.cells cur 35 (0, 0)) ∧ xs.length ≤ c ∧ c ≤ 9223372036854775807 ∧ cur.size = c ∧ NlX w lo hi xs xs.length cur us
theorem OwnNlx.grew {w w' : World} {lo hi : Nat} {v : Value} {xs : List (List Nd)} (h : OwnNlx w lo hi v xs) (hg : Grew w w') : OwnNlx w' lo hi v xs := by
  rcases h with h | ⟨g, c, cur, us, h1, h2, h3, h4, h5, h6, h7, h8⟩
  · exact .inl h
  · exact .inr ⟨g, c, cur, us, h1, h2, h3, (hg.block (blk_lt h4)).trans h4, h5, h6, h7, h8.grew hg⟩
theorem OwnNlx.rd {w : World} {lo hi : Nat} {v : Value} {xs : List (List Nd)} (h : OwnNlx w lo hi v xs) : Nls w v xs := by
  rcases h with h | ⟨g, c, cur, us, h1, h2, h3, h4, h5, h6, h7, h8⟩
  · exact .inl h
  · refine .inr ⟨g, 0, c, h1, h5, h6, blk_lt h4, fun i x hx => ?_⟩
    obtain ⟨k1, k2⟩ := h8.rows i x (List.getElem?_eq_some_iff.1 hx).1 hx
    refine ⟨_, ?_, k2.nodes⟩
    rw [Nat.zero_add]
    exact (blk_cell h4 _).trans k1
/-- One more. -/
theorem NlX.snoc {w w2 : World} {lo n : Nat} {xs : List (List Nd)} {cur cur' : Array Value} {us : Nat → Value} {x : List Nd} {u : Value} (h : NlX w lo w.heap.size xs n cur us) (hx : xs[n]? = some x) (hs : w.heap.size ≤ w2.heap.size)
    (hrow : ∀ i y, i < n → xs[i]? = some y → cur[i]? = some (us i) → cur'[i]? = some (us i)) (hnew : cur'[n]? = some u) (ho : Own w2 lo u x) (hge : ∀ g, u.ownBlock = some g → w.heap.size ≤ g) (hlt : ∀ g, u.ownBlock = some g → g < w2.heap.size)
    (hk : ∀ i y, i < n → xs[i]? = some y → Own w lo (us i) y → Own w2 lo (us i) y) : NlX w2 lo w2.heap.size xs (n + 1) cur' (fun i => if i = n then u else us i) := by
  refine ⟨fun i y hi hy => ?_, fun i b hi hb => ?_, fun i k hik hk2 => ?_⟩
  · by_cases he : i = n
    · subst he
      rw [if_pos rfl]
      obtain rfl := Option.some.inj (hx.symm.trans hy)
      exact ⟨hnew, ho⟩
    · rw [if_neg he]
      obtain ⟨a, c⟩ := h.rows i y (by omega) hy
      exact ⟨hrow i y (by omega) hy a, hk i y (by omega) hy c⟩
  · by_cases he : i = n
    · rw [if_pos he] at hb
      exact hlt b hb
    · rw [if_neg he] at hb
      exact Nat.lt_of_lt_of_le (h.top i b (by omega) hb) hs
  · by_cases he : k = n
    · rw [if_neg (by omega), if_pos he]
      intro g hg hg2
      have h1 := h.top i g (by omega) hg
      have h2 := hge g hg2
      omega
    · rw [if_neg (by omega), if_neg he]
      exact h.ap i k hik (by omega)

set_option maxHeartbeats 1000000 in
theorem toLineS_x (v : Value) (xs : List Hl) (w : World) (h : ArgHl w v xs) (hn : xs.length ≤ 1048576) (hfit : FitsHl xs) :
    Calls Tryz.prog 9 #[v] w fun e w' => ∃ v', e = .returned v' ∧ OwnHlx w' w.heap.size w'.heap.size v' xs ∧ Grew w w' := by
  obtain ⟨⟨A, c, rfl, hmax⟩, hS⟩ := h
  have hmk := fun W => run_make_rows (P := Tryz.prog) 30 51 (.agg #[.int .i64 0, .int .i64 0, .int .i64 0, .slice none 0 0]) 4 48 #[.int .i64 0, .int .i64 0, .int .i64 0, .slice none 0 0] Tryz.underlying30 infoHl rfl .i64 .i64 xs.length (by omega) (by omega) W
  have HE : Hid (∀ cur us w', w'.heap[w.heap.size]? = some (.cells cur 51 (0, 0)) → cur.size = xs.length * 4 → HlX w' (w.heap.size + 1) w'.heap.size xs xs.length cur us → OwnHlx w' w.heap.size w'.heap.size (.slice (some ⟨w.heap.size, 0, none⟩) xs.length xs.length) xs) := Lib.hid (fun cur us w' h1 h2 h3 => .inr ⟨w.heap.size, xs.length, cur, us, rfl, Nat.le_refl _, blk_lt h1, h1, Nat.le_refl _, by omega, h2, h3.down (Nat.le_succ _)⟩)
  have hsz : (madeCells #[Value.int .i64 0, .int .i64 0, .int .i64 0, .slice none 0 0] (xs.length * 4)).size = xs.length * 4 := size_madeCells _ _
  have hnew := blk_new w (.cells (madeCells #[Value.int .i64 0, .int .i64 0, .int .i64 0, .slice none 0 0] (xs.length * 4)) 51)
  have hal := (Grew.refl w).alloc (.cells (madeCells #[Value.int .i64 0, .int .i64 0, .int .i64 0, .slice none 0 0] (xs.length * 4)) 51)
  generalize madeCells #[Value.int .i64 0, .int .i64 0, .int .i64 0, .slice none 0 0] (xs.length * 4) = cur0 at *
  by_cases hp : 0 < xs.length
  · obtain ⟨b, o, c', hv, hc, hm, hb, hcell⟩ := (hS hp).open_ hp
    obtain ⟨rfl, rfl⟩ : A = some ⟨b, o, none⟩ ∧ c = c' := by simpa using hv
    clear hS hv
    have HC := Lib.hid hcell
    have HX := Lib.hid (fun j (hj : j < xs.length) => (⟨xs[j], List.getElem?_eq_getElem hj, hfit _ (List.getElem_mem hj)⟩ : ∃ x, xs[j]? = some x ∧ FitHl x))
    clear hcell hfit
    generalize hN : xs.length = n at *
    clear hN
    have HNEW := Lib.hid hnew
    clear hnew
    have HAL := Lib.hid hal
    clear hal
    go_enter Tryz.func9, Tryz.ntmps9
    go_wp2_with fail
    go_loopw [4] (fun i wr => ∃ (j : Nat) (cur : Array Value) (us : Nat → Value), j ≤ n ∧ i = .int .i64 j ∧ wr.heap[w.heap.size]? = some (.cells cur 51 (0, 0)) ∧ cur.size = n * 4 ∧ Grew w wr ∧ Hid (HlX wr (w.heap.size + 1) wr.heap.size xs j cur us)) (fun i _ => n - (intOf i).toNat)
    case atStart => exact ⟨0, cur0, fun _ => .bool false, Nat.zero_le _, rfl, HNEW.out, hsz, HAL.out, Lib.hid (HlX.zero _ _ _ _ _ _)⟩
    case round =>
      obtain ⟨j, cur, us, hj, rfl, hh, hcs, hB, HD⟩ := hrel
      have HH := Lib.hid hh
      have hlt1 := blk_lt hh
      clear hh
      by_cases hlt : j < n
      · obtain ⟨x, hx, hfx⟩ := HX.out j hlt
        obtain ⟨up, hcl, hpi⟩ := HC.out j x hx
        obtain ⟨k1, k2, k3, k4⟩ := hcl _ hB
        have KT := Lib.hid (fun W (hW : Grew wr W) => toLine_c x up W (hpi.grew (hB.trans hW)) hfx)
        obtain ⟨⟨A1, ca1, rfl, _⟩, _⟩ := hpi
        have hx' := Lib.hid hx
        clear hx hfx hcl
        have HNW := Lib.hid (fun vp => HlRow.new (cur := cur) (j := j) x vp (by omega))
        generalize hl1 : x.2.2.2.length = l1 at *
        replace hl1 := Lib.hid hl1
        generalize hx1 : x.1 = xr at *
        generalize hx3 : x.2.1 = xc at *
        generalize hx4 : x.2.2.1 = xn at *
        clear hx1 hx3 hx4
        go_wp2_with fail
        refine (KT.out _ (Grew.refl wr)).mono ?_
        rintro e w1 ⟨vp, rfl, hop, hg1⟩
        obtain ⟨VA, vc, rfl⟩ := nodes_slice hop.nodes
        have hh := (hg1.block hlt1).trans HH.out
        have f1 : ∀ i, w1.frozen? ⟨w.heap.size, i, none⟩ = false := fun i => blk_frozen hh i
        have hcell : ∀ k, k < n * 4 → ∃ u, w1.cell? ⟨w.heap.size, k, none⟩ = some u := fun k hk => by
          rw [blk_cell hh]
          exact ⟨_, Array.getElem?_eq_getElem (by omega)⟩
        obtain ⟨u1, hu1⟩ := hcell (j * 4) (by omega)
        obtain ⟨u2, hu2⟩ := hcell (j * 4 + 1) (by omega)
        obtain ⟨u3, hu3⟩ := hcell (j * 4 + 2) (by omega)
        obtain ⟨u4, hu4⟩ := hcell (j * 4 + 3) (by omega)
        have HH1 := Lib.hid hh
        have HGE := Lib.hid (fun g (hg : (Value.slice VA l1 vc).ownBlock = some g) => own_of_ge hop ((ownB_len _ _ _ _).trans hg))
        have HLT := Lib.hid (fun g (hg : (Value.slice VA l1 vc).ownBlock = some g) => (hop.lt g ((ownB_len _ _ _ _).trans hg)).2)
        have HOP := Lib.hid (hop.base (B' := w.heap.size + 1) (by omega))
        clear hh hcell hop
        rw [hl1.out]
        rw [hl1.out] at HOP
        go_wp2_with fail
        go_roundw
        case rel =>
          refine ⟨j + 1, _, _, by omega, by go_num, blk_set (blk_set (blk_set (blk_set HH1.out _ _) _ _) _ _) _ _, by simp [hcs], (((((hB.trans hg1).setCell (Nat.le_refl _) _).setCell (Nat.le_refl _) _).setCell (Nat.le_refl _) _).setCell (Nat.le_refl _) _), Lib.hid (HD.out.snoc hx'.out (by simpa [World.setCell] using hg1.size) (fun i y hi _ hr => hr.keep hi) (HNW.out _) (own_set (own_set (own_set (own_set HOP.out (by omega)) (by omega)) (by omega)) (by omega)) HGE.out (fun g hg => by have := HLT.out g hg; simpa [World.setCell] using this) (fun i y hi hy ho => own_set (own_set (own_set (own_set (ho.grew hg1) (by omega)) (by omega)) (by omega)) (by omega)))⟩
        case measure => simp [intOf]; omega
      · obtain rfl : j = n := by omega
        go_wp2_with fail
        go_ret
        exact ⟨_, rfl, HE.out _ _ _ HH.out hcs HD.out, hB⟩
  · have hp0 : xs.length ≤ 0 := by omega
    have HNEW := Lib.hid hnew
    clear hnew hS hp hfit
    have HAL := Lib.hid hal
    clear hal
    generalize hN : xs.length = n at *
    clear hN
    go_enter Tryz.func9, Tryz.ntmps9
    go_wp2_with fail
    refine wp_loop_rounds 1 ?_; rw [rounds_succ]
    go_wp2_with fail
    go_ret
    exact ⟨_, rfl, HE.out _ (fun _ => .bool false) _ HNEW.out hsz ⟨fun i x hi => absurd hi (by omega), fun i b hi => absurd hi (by omega), fun i k h1 h2 => absurd h2 (by omega)⟩, HAL.out⟩

set_option maxHeartbeats 1000000 in
theorem toNodeSS_x (v : Value) (xs : List (List Nd)) (w : World) (h : ArgNl w v xs) (hn : xs.length ≤ 1048576) (hfit : FitsNl xs) :
    Calls Tryz.prog 8 #[v] w fun e w' => ∃ v', e = .returned v' ∧ OwnNlx w' w.heap.size w'.heap.size v' xs ∧ Grew w w' := by
  obtain ⟨⟨A, c, rfl, hmax⟩, hS⟩ := h
  have hmk := fun W => run_make_rows (P := Tryz.prog) 28 35 (.slice none 0 0) 1 24 #[.slice none 0 0] Tryz.underlying28 infoNl rfl .i64 .i64 xs.length (by omega) (by omega) W
  have HE : Hid (∀ cur us w', w'.heap[w.heap.size]? = some (.cells cur 35 (0, 0)) → cur.size = xs.length → NlX w' (w.heap.size + 1) w'.heap.size xs xs.length cur us → OwnNlx w' w.heap.size w'.heap.size (.slice (some ⟨w.heap.size, 0, none⟩) xs.length xs.length) xs) := Lib.hid (fun cur us w' h1 h2 h3 => .inr ⟨w.heap.size, xs.length, cur, us, rfl, Nat.le_refl _, blk_lt h1, h1, Nat.le_refl _, by omega, h2, h3.down (Nat.le_succ _)⟩)
  have hsz : (madeCells #[Value.slice none 0 0] (xs.length * 1)).size = xs.length := by rw [size_madeCells]; omega
  have hnew := blk_new w (.cells (madeCells #[Value.slice none 0 0] (xs.length * 1)) 35)
  have hal := (Grew.refl w).alloc (.cells (madeCells #[Value.slice none 0 0] (xs.length * 1)) 35)
  generalize madeCells #[Value.slice none 0 0] (xs.length * 1) = cur0 at *
  by_cases hp : 0 < xs.length
  · obtain ⟨b, o, c', hv, hc, hm, hb, hcell⟩ := (hS hp).open_ hp
    obtain ⟨rfl, rfl⟩ : A = some ⟨b, o, none⟩ ∧ c = c' := by simpa using hv
    clear hS hv
    have HC := Lib.hid hcell
    have HX := Lib.hid (fun j (hj : j < xs.length) => (⟨xs[j], List.getElem?_eq_getElem hj, hfit _ (List.getElem_mem hj)⟩ : ∃ x, xs[j]? = some x ∧ FitNl x))
    clear hcell hfit
    generalize hN : xs.length = n at *
    clear hN
    have HNEW := Lib.hid hnew
    clear hnew
    have HAL := Lib.hid hal
    clear hal
    go_enter Tryz.func8, Tryz.ntmps8
    go_wp2_with fail
    go_loopw [4] (fun i wr => ∃ (j : Nat) (cur : Array Value) (us : Nat → Value), j ≤ n ∧ i = .int .i64 j ∧ wr.heap[w.heap.size]? = some (.cells cur 35 (0, 0)) ∧ cur.size = n ∧ Grew w wr ∧ Hid (NlX wr (w.heap.size + 1) wr.heap.size xs j cur us)) (fun i _ => n - (intOf i).toNat)
    case atStart => exact ⟨0, cur0, fun _ => .bool false, Nat.zero_le _, rfl, HNEW.out, hsz, HAL.out, Lib.hid (NlX.zero _ _ _ _ _ _)⟩
    case round =>
      obtain ⟨j, cur, us, hj, rfl, hh, hcs, hB, HD⟩ := hrel
      have HH := Lib.hid hh
      have hlt1 := blk_lt hh
      clear hh
      by_cases hlt : j < n
      · obtain ⟨x, hx, hfx⟩ := HX.out j hlt
        obtain ⟨up, hcl, hpi⟩ := HC.out j x hx
        have k1 := hcl _ hB
        have KT := Lib.hid (fun W (hW : Grew wr W) => toNodeS_c up x W (hpi.grew (hB.trans hW)) hfx)
        obtain ⟨⟨A1, ca1, rfl, _⟩, _⟩ := hpi
        have hx' := Lib.hid hx
        clear hx hfx hcl
        generalize hl1 : x.length = l1 at *
        replace hl1 := Lib.hid hl1
        go_wp2_with fail
        refine (KT.out _ (Grew.refl wr)).mono ?_
        rintro e w1 ⟨vp, rfl, hop, hg1⟩
        obtain ⟨VA, vc, rfl⟩ := nodes_slice hop.nodes
        have hh := (hg1.block hlt1).trans HH.out
        have f1 : ∀ i, w1.frozen? ⟨w.heap.size, i, none⟩ = false := fun i => blk_frozen hh i
        have hcell : ∀ k, k < n → ∃ u, w1.cell? ⟨w.heap.size, k, none⟩ = some u := fun k hk => by
          rw [blk_cell hh]
          exact ⟨_, Array.getElem?_eq_getElem (by omega)⟩
        obtain ⟨u1, hu1⟩ := hcell j (by omega)
        have HH1 := Lib.hid hh
        have HGE := Lib.hid (fun g (hg : (Value.slice VA l1 vc).ownBlock = some g) => own_of_ge hop ((ownB_len _ _ _ _).trans hg))
        have HLT := Lib.hid (fun g (hg : (Value.slice VA l1 vc).ownBlock = some g) => (hop.lt g ((ownB_len _ _ _ _).trans hg)).2)
        have HOP := Lib.hid (hop.base (B' := w.heap.size + 1) (by omega))
        clear hh hcell hop
        rw [hl1.out]
        rw [hl1.out] at HOP
        go_wp2_with fail
        go_roundw
        case rel =>
          refine ⟨j + 1, _, _, by omega, by go_num, blk_set HH1.out _ _, by simp [hcs], ((hB.trans hg1).setCell (Nat.le_refl _) _), Lib.hid (HD.out.snoc hx'.out (by simpa [World.setCell] using hg1.size) (fun i y hi _ hr => by rw [Array.getElem?_setIfInBounds, if_neg (by omega)]; exact hr) (by rw [Array.getElem?_setIfInBounds, if_pos rfl, if_pos (by omega)]) (own_set HOP.out (by omega)) HGE.out (fun g hg => by have := HLT.out g hg; simpa [World.setCell] using this) (fun i y hi hy ho => own_set (ho.grew hg1) (by omega)))⟩
        case measure => simp [intOf]; omega
      · obtain rfl : j = n := by omega
        go_wp2_with fail
        go_ret
        exact ⟨_, rfl, HE.out _ _ _ HH.out hcs HD.out, hB⟩
  · have hp0 : xs.length ≤ 0 := by omega
    have HNEW := Lib.hid hnew
    clear hnew hS hp hfit
    have HAL := Lib.hid hal
    clear hal
    generalize hN : xs.length = n at *
    clear hN
    go_enter Tryz.func8, Tryz.ntmps8
    go_wp2_with fail
    refine wp_loop_rounds 1 ?_; rw [rounds_succ]
    go_wp2_with fail
    go_ret
    exact ⟨_, rfl, HE.out _ (fun _ => .bool false) _ HNEW.out hsz ⟨fun i x hi => absurd hi (by omega), fun i b hi => absurd hi (by omega), fun i k h1 h2 => absurd h2 (by omega)⟩, HAL.out⟩

set_option maxHeartbeats 1000000 in
/-- markNodeSS writes in the inner rows alone. -/
theorem markNodeSS_x (v : Value) (xs : List (List Nd)) (lo hi : Nat) (k : Int) (w : World) (h : OwnNlx w lo hi v xs) (hf : FitsNl xs) (hk0 : 0 ≤ k) (hk : k ≤ 4398046511104) (hn : xs.length ≤ 1048576) :
    Calls Tryz.prog 16 #[v, .int .i64 k] w fun e w' => ∃ r : Int, e = .returned (.int .i64 r) ∧ k ≤ r ∧ r ≤ k + xs.length * 2097152 ∧ Span lo hi w w' := by
  rcases h with ⟨rfl, rfl⟩ | ⟨g, c, cur, us, rfl, hlo, hhi, hh, hnc, hcm, hcs, hX⟩
  · go_enter Tryz.func16, Tryz.ntmps16
    go_wp2_with fail
    refine wp_loop_rounds 1 ?_; rw [rounds_succ]
    go_wp2_with fail
    go_ret
    exact ⟨_, rfl, by omega, by simp, Span.refl _ _ _⟩
  · have HXR := Lib.hid (fun i (hi : i < xs.length) => hX.rows i xs[i] hi (List.getElem?_eq_getElem hi))
    have HXT := Lib.hid (fun i b (hi : i < xs.length) hb => hX.top i b hi hb)
    have HXA := Lib.hid (fun i k (h1 : i < k) (h2 : k < xs.length) => hX.ap i k h1 h2)
    have HF := Lib.hid (fun i (hi : i < xs.length) => (hf _ (List.getElem_mem hi) : xs[i].length ≤ 1048576))
    have H0 : Hid (∀ i (hi : i < xs.length), 0 ≤ i → Own w lo (us i) xs[i]) := Lib.hid (fun i hi _ => (hX.rows i xs[i] hi (List.getElem?_eq_getElem hi)).2)
    have hh0 := Lib.hid hh
    clear hX hf hh
    obtain ⟨n, hN⟩ : ∃ n, n = xs.length := ⟨_, rfl⟩
    rw [← hN]
    replace hN := Lib.hid hN
    have hnc' : n ≤ c := by rw [hN.out]; exact hnc
    have hn' : n ≤ 1048576 := by rw [hN.out]; exact hn
    clear hnc hn
    go_enter Tryz.func16, Tryz.ntmps16
    go_wp2_with fail
    go_loopw [1, 5] (fun kk i wr => ∃ (j : Nat) (q : Int), j ≤ n ∧ i = .int .i64 j ∧ kk = .int .i64 q ∧ k ≤ q ∧ q ≤ k + j * 2097152 ∧ Hid (wr.heap[g]? = some (.cells cur 35 (0, 0))) ∧ Hid (∀ i (hi : i < xs.length), j ≤ i → Own wr lo (us i) xs[i]) ∧ Hid (Span lo hi w wr)) (fun _ i _ => n - (intOf i).toNat)
    case atStart => exact ⟨0, k, Nat.zero_le _, rfl, rfl, by omega, by omega, hh0, Lib.hid (fun i hi _ => H0.out i hi (Nat.zero_le _)), Lib.hid (Span.refl _ _ _)⟩
    case round =>
      obtain ⟨j, q, hj, rfl, rfl, hq0, hq1, HH, HO, HSp⟩ := hrel
      by_cases hlt : j < n
      · have hjl : j < xs.length := by rw [← hN.out]; exact hlt
        have k1 : wr.cell? ⟨g, j, none⟩ = some (us j) := (blk_cell HH.out j).trans (HXR.out j hjl).1
        have hfj : xs[j].length ≤ 1048576 := HF.out j hjl
        have hOj := HO.out j hjl (Nat.le_refl _)
        have KM := Lib.hid (markNodeS_c (us j) xs[j] lo q wr hOj (by omega) (by omega) (by omega))
        have HT := Lib.hid (fun b hb => HXT.out j b hjl hb)
        have HGE := Lib.hid (fun b hb => own_of_ge hOj (g := b) hb)
        have HNE : Hid (∀ b, (us j).ownBlock = some b → b ≠ g) := Lib.hid (fun b hb e => by subst e; exact own_ne hOj HH.out (by decide) hb)
        have huj : ∃ A l cc, us j = .slice A l cc := by
          obtain ⟨A, cc, h⟩ := nodes_slice hOj.nodes
          exact ⟨A, _, cc, h⟩
        obtain ⟨Aj, lj, cj, huj⟩ := huj
        generalize hlen : xs[j].length = ln at *
        clear hOj hlen
        rw [huj] at k1
        have HUJ := Lib.hid huj
        go_wp2_with fail
        rw [← HUJ.out]
        refine KM.out.mono ?_
        rintro e w1 ⟨rfl, _, hOn, hGr⟩
        have hspan : Span lo hi wr w1 := by
          cases hb : (us j).ownBlock with
          | none => exact Span.of_grew (hGr hb)
          | some b => exact Span.of_only (hOn b hb) (HGE.out b hb) (HT.out b hb)
        have hh1 : w1.heap[g]? = some (.cells cur 35 (0, 0)) := by
          cases hb : (us j).ownBlock with
          | none => exact ((hGr hb).block (blk_lt HH.out)).trans HH.out
          | some b => exact ((hOn b hb).block (blk_lt HH.out) (fun e => HNE.out b hb e.symm)).trans HH.out
        have hO1 : ∀ i (hi : i < xs.length), j + 1 ≤ i → Own w1 lo (us i) xs[i] := fun i hi hij => by
          have ho := HO.out i hi (by omega)
          cases hb : (us j).ownBlock with
          | none => exact ho.grew (hGr hb)
          | some b => exact ho.only (hOn b hb) (HXA.out j i (by omega) hi b hb)
        have HR := Lib.hid (⟨hh1, hO1, HSp.out.trans hspan⟩ : w1.heap[g]? = some (.cells cur 35 (0, 0)) ∧ (∀ i (hi : i < xs.length), j + 1 ≤ i → Own w1 lo (us i) xs[i]) ∧ Span lo hi w w1)
        clear hspan hh1 hO1 hOn hGr
        go_wp2_with fail
        go_roundw
        case rel => exact ⟨j + 1, _, by omega, by go_num, rfl, by omega, by omega, Lib.hid HR.out.1, Lib.hid HR.out.2.1, Lib.hid HR.out.2.2⟩
        case measure => simp [intOf]; omega
      · obtain rfl : j = n := by omega
        go_wp2_with fail
        go_ret
        exact ⟨_, rfl, hq0, hq1, HSp.out⟩

theorem own_in {w : World} {lo g i : Nat} {v u : Value} {xs : List Nd} {cur : Array Value} (h : Own w lo v xs) (hh : w.heap[g]? = some (.cells cur 51 (0, 0))) : Own (w.setCell ⟨g, i, none⟩ u) lo v xs :=
  own_only h ((Only.refl g w).setCell u) (own_ne h hh (by decide))
set_option maxHeartbeats 1000000 in
/-- markLineS writes in the row and in the inner rows alone. -/
theorem markLineS_x (v : Value) (xs : List Hl) (lo hi : Nat) (k : Int) (w : World) (h : OwnHlx w lo hi v xs) (hf : FitsHl xs) (hk0 : 0 ≤ k) (hk : k ≤ 4398046511104) (hn : xs.length ≤ 1048576) :
    Calls Tryz.prog 17 #[v, .int .i64 k] w fun e w' => ∃ r : Int, e = .returned (.int .i64 r) ∧ k ≤ r ∧ Span lo hi w w' := by
  rcases h with ⟨rfl, rfl⟩ | ⟨g, c, cur0, us, rfl, hlo, hhi, hh, hnc, hcm, hcs0, hX⟩
  · go_enter Tryz.func17, Tryz.ntmps17
    go_wp2_with fail
    refine wp_loop_rounds 1 ?_; rw [rounds_succ]
    go_wp2_with fail
    go_ret
    exact ⟨_, rfl, by omega, Span.refl _ _ _⟩
  · have HXT := Lib.hid (fun i b (hi : i < xs.length) hb => hX.top i b hi hb)
    have HXA := Lib.hid (fun i k (h1 : i < k) (h2 : k < xs.length) => hX.ap i k h1 h2)
    have HF := Lib.hid (fun i (hi : i < xs.length) => (hf _ (List.getElem_mem hi) : xs[i].2.2.2.length ≤ 1048576))
    have H0 : Hid (∀ i (hi : i < xs.length), 0 ≤ i → cur0[i * 4 + 3]? = some (us i) ∧ Own w lo (us i) xs[i].2.2.2) := Lib.hid (fun i hi _ => by
      obtain ⟨a, b⟩ := hX.rows i xs[i] hi (List.getElem?_eq_getElem hi)
      exact ⟨a.2.2.2, b⟩)
    have hh0 := Lib.hid hh
    clear hX hf hh
    obtain ⟨n, hN⟩ : ∃ n, n = xs.length := ⟨_, rfl⟩
    rw [← hN]
    replace hN := Lib.hid hN
    have hnc' : n ≤ c := by rw [hN.out]; exact hnc
    have hn' : n ≤ 1048576 := by rw [hN.out]; exact hn
    clear hnc hn
    go_enter Tryz.func17, Tryz.ntmps17
    go_wp2_with fail
    go_loopw [1, 5] (fun kk i wr => ∃ (j : Nat) (q : Int) (cur : Array Value), j ≤ n ∧ i = .int .i64 j ∧ kk = .int .i64 q ∧ k ≤ q ∧ q ≤ k + j * 2097155 ∧ cur.size = c * 4 ∧ Hid (wr.heap[g]? = some (.cells cur 51 (0, 0))) ∧ Hid (∀ i (hi : i < xs.length), j ≤ i → cur[i * 4 + 3]? = some (us i) ∧ Own wr lo (us i) xs[i].2.2.2) ∧ Hid (Span lo hi w wr)) (fun _ i _ => n - (intOf i).toNat)
    case atStart => exact ⟨0, k, cur0, Nat.zero_le _, rfl, rfl, by omega, by omega, hcs0, hh0, H0, Lib.hid (Span.refl _ _ _)⟩
    case round =>
      obtain ⟨j, q, cur, hj, rfl, rfl, hq0, hq1, hcs, HH, HO, HSp⟩ := hrel
      by_cases hlt : j < n
      · have hjl : j < xs.length := by rw [← hN.out]; exact hlt
        have hfj : xs[j].2.2.2.length ≤ 1048576 := HF.out j hjl
        obtain ⟨hcj, hOj⟩ := HO.out j hjl (Nat.le_refl _)
        obtain ⟨u0, hu0⟩ : ∃ u, cur[j * 4]? = some u := ⟨_, Array.getElem?_eq_getElem (by omega)⟩
        obtain ⟨u1, hu1⟩ : ∃ u, cur[j * 4 + 1]? = some u := ⟨_, Array.getElem?_eq_getElem (by omega)⟩
        obtain ⟨u2, hu2⟩ : ∃ u, cur[j * 4 + 2]? = some u := ⟨_, Array.getElem?_eq_getElem (by omega)⟩
        have c0 : wr.cell? ⟨g, j * 4, none⟩ = some u0 := (blk_cell HH.out _).trans hu0
        have c1 : wr.cell? ⟨g, j * 4 + 1, none⟩ = some u1 := (blk_cell HH.out _).trans hu1
        have c2 : wr.cell? ⟨g, j * 4 + 2, none⟩ = some u2 := (blk_cell HH.out _).trans hu2
        have c3 : wr.cell? ⟨g, j * 4 + 3, none⟩ = some (us j) := (blk_cell HH.out _).trans hcj
        have ff : ∀ i, wr.frozen? ⟨g, i, none⟩ = false := fun i => blk_frozen HH.out i
        have HB1 := Lib.hid (blk_set HH.out (j * 4) (.int .i64 q))
        have HB2 := Lib.hid (blk_set HB1.out (j * 4 + 1) (.int .i64 (q + 1)))
        have HB3 := Lib.hid (blk_set HB2.out (j * 4 + 2) (.int .i64 (q + 1 + 1)))
        have HO3 := Lib.hid (fun (v : Value) (ys : List Nd) (h : Own wr lo v ys) => (own_in (own_in (own_in h HH.out (i := j * 4) (u := .int .i64 q)) HB1.out (i := j * 4 + 1) (u := .int .i64 (q + 1))) HB2.out (i := j * 4 + 2) (u := .int .i64 (q + 1 + 1)) : Own (((wr.setCell ⟨g, j * 4, none⟩ (.int .i64 q)).setCell ⟨g, j * 4 + 1, none⟩ (.int .i64 (q + 1))).setCell ⟨g, j * 4 + 2, none⟩ (.int .i64 (q + 1 + 1))) lo v ys))
        have HS3 := Lib.hid (((HSp.out.trans (Span.of_only ((Only.refl g wr).setCell (o := j * 4) (.int .i64 q)) hlo hhi)).trans (Span.of_only ((Only.refl g _).setCell (o := j * 4 + 1) (.int .i64 (q + 1))) hlo hhi)).trans (Span.of_only ((Only.refl g _).setCell (o := j * 4 + 2) (.int .i64 (q + 1 + 1))) hlo hhi))
        have KM := Lib.hid (markNodeS_c (us j) xs[j].2.2.2 lo (q + 1 + 1 + 1) _ (HO3.out _ _ hOj) (by omega) (by omega) (by omega))
        have HT := Lib.hid (fun b hb => HXT.out j b hjl hb)
        have HGE := Lib.hid (fun b hb => own_of_ge hOj (g := b) hb)
        have HNE : Hid (∀ b, (us j).ownBlock = some b → b ≠ g) := Lib.hid (fun b hb e => by subst e; exact own_ne hOj HH.out (by decide) hb)
        have huj : ∃ A l cc, us j = .slice A l cc := by
          obtain ⟨A, cc, h⟩ := nodes_slice hOj.nodes
          exact ⟨A, _, cc, h⟩
        obtain ⟨Aj, lj, cj, huj⟩ := huj
        generalize hlen : xs[j].2.2.2.length = ln at *
        clear hOj hlen hcj hu0 hu1 hu2
        rw [huj] at c3
        have HUJ := Lib.hid huj
        have hB3 := blk_frozen HB3.out
        go_wp2_with fail
        rw [← HUJ.out]
        refine KM.out.mono ?_
        rintro e w1 ⟨rfl, _, hOn, hGr⟩
        have hspan : Span lo hi w w1 := by
          cases hb : (us j).ownBlock with
          | none => exact HS3.out.trans (Span.of_grew (hGr hb))
          | some b => exact HS3.out.trans (Span.of_only (hOn b hb) (HGE.out b hb) (HT.out b hb))
        have hh1 := HB3.out
        replace hh1 : w1.heap[g]? = some (.cells (((cur.setIfInBounds (j * 4) (.int .i64 q)).setIfInBounds (j * 4 + 1) (.int .i64 (q + 1))).setIfInBounds (j * 4 + 2) (.int .i64 (q + 1 + 1))) 51 (0, 0)) := by
          cases hb : (us j).ownBlock with
          | none => exact ((hGr hb).block (blk_lt hh1)).trans hh1
          | some b => exact ((hOn b hb).block (blk_lt hh1) (fun e => HNE.out b hb e.symm)).trans hh1
        have hO1 : ∀ i (hi : i < xs.length), j + 1 ≤ i → (((cur.setIfInBounds (j * 4) (.int .i64 q)).setIfInBounds (j * 4 + 1) (.int .i64 (q + 1))).setIfInBounds (j * 4 + 2) (.int .i64 (q + 1 + 1)))[i * 4 + 3]? = some (us i) ∧ Own w1 lo (us i) xs[i].2.2.2 := fun i hi hij => by
          obtain ⟨hc, ho⟩ := HO.out i hi (by omega)
          refine ⟨?_, ?_⟩
          · rw [Array.getElem?_setIfInBounds, if_neg (by omega), Array.getElem?_setIfInBounds, if_neg (by omega), Array.getElem?_setIfInBounds, if_neg (by omega)]
            exact hc
          · replace ho := HO3.out _ _ ho
            cases hb : (us j).ownBlock with
            | none => exact ho.grew (hGr hb)
            | some b => exact ho.only (hOn b hb) (HXA.out j i (by omega) hi b hb)
        have HR := Lib.hid (⟨hh1, hO1, hspan⟩ : _ ∧ _ ∧ _)
        clear hspan hh1 hO1 hOn hGr
        go_wp2_with fail
        go_roundw
        case rel => exact ⟨j + 1, _, _, by omega, by go_num, rfl, by omega, by omega, by simpa using hcs, Lib.hid HR.out.1, Lib.hid HR.out.2.1, Lib.hid HR.out.2.2⟩
        case measure => simp [intOf]; omega
      · obtain rfl : j = n := by omega
        go_wp2_with fail
        go_ret
        exact ⟨_, rfl, hq0, HSp.out⟩
end Go.Proofs.YtnbnhapepcegpaaGreatDoor

/- The law FnExactHilbertConclusion, walked. -/
namespace Go.Proofs.YtnbnhapepcegpaaGreatDoor
open Go.RowKit

theorem Span.nodes {lo hi B : Nat} {a b : World} {v : Value} {xs : List Fm.Nd} (h : Span lo hi a b) (ho : Own a B v xs) (hv : ∀ g, v.ownBlock = some g → g < lo ∨ hi ≤ g) : Own b B v xs := h.own ho hv
theorem own_blk {w : World} {B : Nat} {v : Value} {xs : List Fm.Nd} (h : Own w B v xs) : ∀ g, v.ownBlock = some g → B ≤ g ∧ g < w.heap.size := fun g hg => h.lt g hg
theorem OwnHlx.outside {w w' : World} {lo hi a b : Nat} {v : Value} {xs : List Hl} (h : OwnHlx w lo hi v xs) (hs : Span a b w w') (hab : b ≤ lo) : OwnHlx w' lo hi v xs := by
  rcases h with h | ⟨g, c, cur, us, h1, h2, h3, h4, h5, h6, h7, h8⟩
  · exact .inl h
  · refine .inr ⟨g, c, cur, us, h1, h2, h3, (hs.block g (blk_lt h4) (.inr (by omega))).trans h4, h5, h6, h7, fun i x hi hx => ?_, h8.top, h8.ap⟩
    obtain ⟨p, q⟩ := h8.rows i x hi hx
    exact ⟨p, hs.own q (fun g hg => .inr (by have := own_of_ge q hg; omega))⟩

set_option maxHeartbeats 2000000 in
theorem lawHc_c (s0 : ByteArray) (v1 : Value) (L1 : List (List Fm.Nd)) (v2 : Value) (L2 : List Hl) (w : World) (hX : TabAt w 0 schTexts) (h1 : ArgNl w v1 L1) (h2 : ArgHl w v2 L2) :
    Calls Tryz.prog 4 #[.string s0, v1, v2] w fun e w' => e = .returned (.bool true) ∧ Grew w w' := by
  by_cases hbig0 : 1048576 < s0.size
  · clear h1 h2 hX
    go_enter Tryz.func4, Tryz.ntmps4
    go_wp2_with fail
    go_ret
    exact ⟨rfl, Grew.refl _⟩
  have Z1 := Lib.hid (fun W l (hW : Grew w W) (a0 : 0 ≤ l) (a1 : l ≤ 1048576) => szNodeSS_c v1 L1 l W (h1.grew hW) a0 a1)
  have T1 := Lib.hid (fun W (hW : Grew w W) => toNodeSS_x v1 L1 W (h1.grew hW))
  have Z2 := Lib.hid (fun W l (hW : Grew w W) (a0 : 0 ≤ l) (a1 : l ≤ 1048576) => szLineS_c v2 L2 l W (h2.grew hW) a0 a1)
  have T2 := Lib.hid (fun W (hW : Grew w W) => toLineS_x v2 L2 W (h2.grew hW))
  clear h1 h2
  go_enter Tryz.func4, Tryz.ntmps4
  go_wp2_with fail
  refine (Z1.out _ _ (Grew.refl w) (by omega) (by omega)).mono ?_
  rintro e w1 ⟨r1, rfl, ⟨hm1, hs1⟩, g1⟩
  have z1 := Lib.hid g1.size
  by_cases hr1 : r1 < 0
  · clear hs1
    go_wp2_with fail
    go_ret
    exact ⟨rfl, g1⟩
  obtain ⟨hn1, hf1⟩ := hs1 (by omega)
  have F1 : Hid (FitsNl L1) := Lib.hid hf1
  clear hs1 hf1
  go_wp2_with fail
  refine (Z2.out _ _ g1 (by omega) (by omega)).mono ?_
  rintro e w2 ⟨r2, rfl, ⟨hm2, hs2⟩, hg2⟩
  have z2 := Lib.hid hg2.size
  have g2 : Grew w w2 := g1.trans hg2
  clear hg2
  by_cases hr2 : r2 < 0
  · clear hs2
    go_wp2_with fail
    go_ret
    exact ⟨rfl, g2⟩
  obtain ⟨hn2, hf2⟩ := hs2 (by omega)
  have F2 : Hid (FitsHl L2) := Lib.hid hf2
  clear hs2 hf2
  have KS := Lib.hid (fun u1 u2 W x1 x2 => specHc_c s0 u1 L1 u2 L2 W x1 x2 F1.out hn1 F2.out hn2)
  have KI := Lib.hid (fun u1 u2 W (hW : Grew w W) x1 x2 => implHc_c s0 u1 L1 u2 L2 W (hX.grew hW) x1 x2 F1.out hn1 F2.out)
  have hlen := hcF_len (s := s0) (H := L1) F2.out
  generalize hcF s0 L1 L2 = rr at *
  obtain ⟨xs, c⟩ := rr
  simp only at hlen
  unfold GivesHc at KS KI
  simp only at KS KI
  have hcc : (c != c) = false := by simp
  clear hX
  go_wp2_with fail
  refine (T1.out _ g2 hn1 F1.out).mono ?_
  rintro e w3 ⟨a1, rfl, oa1, hg3⟩
  have z3 := Lib.hid hg3.size
  have g3 : Grew w w3 := g2.trans hg3
  clear hg3
  go_wp2_with fail
  refine (T2.out _ g3 hn2 F2.out).mono ?_
  rintro e w4 ⟨a2, rfl, oa2, hg4⟩
  have z4 := Lib.hid hg4.size
  have g4 : Grew w w4 := g3.trans hg4
  replace oa1 := oa1.grew hg4
  clear hg4
  go_wp2_with fail
  refine (KS.out _ _ _ oa1.rd oa2.rd).mono ?_
  rintro e w5 ⟨q0, rfl, hq, hg5⟩
  have z5 := Lib.hid hg5.size
  have g5 : Grew w w5 := g4.trans hg5
  have HQB := Lib.hid (own_blk hq)
  clear oa1 oa2
  clear hg5
  go_wp2_with fail
  refine (T1.out _ g5 hn1 F1.out).mono ?_
  rintro e w6 ⟨x1, rfl, ox1, hg6⟩
  have z6 := Lib.hid hg6.size
  have g6 : Grew w w6 := g5.trans hg6
  replace hq := hq.grew hg6
  clear hg6
  go_wp2_with fail
  refine (T2.out _ g6 hn2 F2.out).mono ?_
  rintro e w7 ⟨x2, rfl, ox2, hg7⟩
  have z7 := Lib.hid hg7.size
  have g7 : Grew w w7 := g6.trans hg7
  replace hq := hq.grew hg7
  replace ox1 := ox1.grew hg7
  clear hg7
  go_wp2_with fail
  refine (KI.out _ _ _ g7 ox1.rd ox2.rd).mono ?_
  rintro e w8 ⟨g0, rfl, hog, hg8⟩
  have z8 := Lib.hid hg8.size
  have g8 : Grew w w8 := g7.trans hg8
  replace hq := hq.grew hg8
  replace ox1 := ox1.grew hg8
  replace ox2 := ox2.grew hg8
  have RGB := Lib.hid (own_blk hog)
  clear hg8
  go_wp2_with fail
  refine (eqNodeS_yes _ _ xs _ hog.nodes hq.nodes (by omega)).mono ?_
  rintro e w9 ⟨rfl, hg9⟩
  have z9 := Lib.hid hg9.size
  have g9 : Grew w w9 := g8.trans hg9
  replace hq := hq.grew hg9
  replace ox1 := ox1.grew hg9
  replace ox2 := ox2.grew hg9
  replace hog := hog.grew hg9
  clear hg9
  go_wp2_with fail
  refine (T1.out _ g9 hn1 F1.out).mono ?_
  rintro e w10 ⟨y1, rfl, oy1, hg10⟩
  have z10 := Lib.hid hg10.size
  have g10 : Grew w w10 := g9.trans hg10
  replace hq := hq.grew hg10
  replace ox1 := ox1.grew hg10
  replace ox2 := ox2.grew hg10
  replace hog := hog.grew hg10
  clear hg10
  go_wp2_with fail
  refine (eqNodeSS_yes _ _ L1 _ ox1.rd oy1.rd (by omega) F1.out).mono ?_
  rintro e w11 ⟨rfl, hg11⟩
  have z11 := Lib.hid hg11.size
  have g11 : Grew w w11 := g10.trans hg11
  replace hq := hq.grew hg11
  replace ox1 := ox1.grew hg11
  replace ox2 := ox2.grew hg11
  replace hog := hog.grew hg11
  replace oy1 := oy1.grew hg11
  clear hg11
  clear oy1
  go_wp2_with fail
  refine (T2.out _ g11 hn2 F2.out).mono ?_
  rintro e w12 ⟨y2, rfl, oy2, hg12⟩
  have z12 := Lib.hid hg12.size
  have g12 : Grew w w12 := g11.trans hg12
  replace hq := hq.grew hg12
  replace ox1 := ox1.grew hg12
  replace ox2 := ox2.grew hg12
  replace hog := hog.grew hg12
  clear hg12
  go_wp2_with fail
  refine (eqLineS_yes _ _ L2 _ ox2.rd oy2.rd (by omega) F2.out).mono ?_
  rintro e w13 ⟨rfl, hg13⟩
  have z13 := Lib.hid hg13.size
  have g13 : Grew w w13 := g12.trans hg13
  replace hq := hq.grew hg13
  replace ox1 := ox1.grew hg13
  replace ox2 := ox2.grew hg13
  replace hog := hog.grew hg13
  replace oy2 := oy2.grew hg13
  clear hg13
  clear oy2
  go_wp2_with fail
  refine (markNodeSS_x _ L1 _ _ 1 _ ox1 F1.out (by omega) (by omega) (by omega)).mono ?_
  rintro e w14 ⟨k1, rfl, hk1, hk2, hsp⟩
  have hsz14 := hsp.size
  have z14 := Lib.hid hsz14
  replace hq := hsp.nodes hq (fun g hg => .inl (by have b1 := HQB.out g hg; have y1 := z1.out; have y2 := z2.out; have y3 := z3.out; have y4 := z4.out; have y5 := z5.out; have y6 := z6.out; have y7 := z7.out; have y8 := z8.out; have y9 := z9.out; have y10 := z10.out; have y11 := z11.out; have y12 := z12.out; have y13 := z13.out; have y14 := z14.out; omega))
  replace hog := hsp.nodes hog (fun g hg => .inr (by have b1 := RGB.out g hg; have y1 := z1.out; have y2 := z2.out; have y3 := z3.out; have y4 := z4.out; have y5 := z5.out; have y6 := z6.out; have y7 := z7.out; have y8 := z8.out; have y9 := z9.out; have y10 := z10.out; have y11 := z11.out; have y12 := z12.out; have y13 := z13.out; have y14 := z14.out; omega))
  replace ox2 := ox2.outside hsp (Nat.le_refl _)
  have g14 : Grew w w14 := hsp.old g13 (by have y1 := z1.out; have y2 := z2.out; have y3 := z3.out; have y4 := z4.out; have y5 := z5.out; have y6 := z6.out; have y7 := z7.out; have y8 := z8.out; have y9 := z9.out; have y10 := z10.out; have y11 := z11.out; have y12 := z12.out; have y13 := z13.out; have y14 := z14.out; omega)
  clear hsp ox1 hsz14
  go_wp2_with fail
  refine (markLineS_x _ L2 _ _ k1 _ ox2 F2.out (by omega) (by omega) (by omega)).mono ?_
  rintro e w15 ⟨k2, rfl, hk3, hsp⟩
  have hsz15 := hsp.size
  have z15 := Lib.hid hsz15
  replace hq := hsp.nodes hq (fun g hg => .inl (by have b1 := HQB.out g hg; have y1 := z1.out; have y2 := z2.out; have y3 := z3.out; have y4 := z4.out; have y5 := z5.out; have y6 := z6.out; have y7 := z7.out; have y8 := z8.out; have y9 := z9.out; have y10 := z10.out; have y11 := z11.out; have y12 := z12.out; have y13 := z13.out; have y14 := z14.out; have y15 := z15.out; omega))
  replace hog := hsp.nodes hog (fun g hg => .inr (by have b1 := RGB.out g hg; have y1 := z1.out; have y2 := z2.out; have y3 := z3.out; have y4 := z4.out; have y5 := z5.out; have y6 := z6.out; have y7 := z7.out; have y8 := z8.out; have y9 := z9.out; have y10 := z10.out; have y11 := z11.out; have y12 := z12.out; have y13 := z13.out; have y14 := z14.out; have y15 := z15.out; omega))
  have g15 : Grew w w15 := hsp.old g14 (by have y1 := z1.out; have y2 := z2.out; have y3 := z3.out; have y4 := z4.out; have y5 := z5.out; have y6 := z6.out; have y7 := z7.out; have y8 := z8.out; have y9 := z9.out; have y10 := z10.out; have y11 := z11.out; have y12 := z12.out; have y13 := z13.out; have y14 := z14.out; have y15 := z15.out; omega)
  clear hsp ox2 hsz15
  have hk4 : ¬ k2 < 0 := by omega
  go_wp2_with fail
  refine (eqNodeS_yes _ _ xs _ hog.nodes hq.nodes (by omega)).mono ?_
  rintro e w16 ⟨rfl, hg16⟩
  have z16 := Lib.hid hg16.size
  have g16 : Grew w w16 := g15.trans hg16
  replace hq := hq.grew hg16
  replace hog := hog.grew hg16
  clear hg16
  go_wp2_with fail
  refine (markNodeS_c _ xs _ 1 _ hog (by omega) (by omega) (by omega)).mono ?_
  rintro e w17 ⟨rfl, hog2, hOn, hGr⟩
  have hsp : Span w7.heap.size w8.heap.size w16 w17 := by
    cases hb : g0.ownBlock with
    | none => exact Span.of_grew (hGr hb)
    | some b => exact Span.of_only (hOn b hb) (RGB.out b hb).1 (RGB.out b hb).2
  have hsz17 := hsp.size
  have z17 := Lib.hid hsz17
  replace hq := hsp.nodes hq (fun g hg => .inl (by have b1 := HQB.out g hg; have y1 := z1.out; have y2 := z2.out; have y3 := z3.out; have y4 := z4.out; have y5 := z5.out; have y6 := z6.out; have y7 := z7.out; have y8 := z8.out; have y9 := z9.out; have y10 := z10.out; have y11 := z11.out; have y12 := z12.out; have y13 := z13.out; have y14 := z14.out; have y15 := z15.out; have y16 := z16.out; have y17 := z17.out; omega))
  have g17 : Grew w w17 := hsp.old g16 (by have y1 := z1.out; have y2 := z2.out; have y3 := z3.out; have y4 := z4.out; have y5 := z5.out; have y6 := z6.out; have y7 := z7.out; have y8 := z8.out; have y9 := z9.out; have y10 := z10.out; have y11 := z11.out; have y12 := z12.out; have y13 := z13.out; have y14 := z14.out; have y15 := z15.out; have y16 := z16.out; have y17 := z17.out; omega)
  clear hsp hog hOn hGr hsz17
  have hmm : ((1 + (xs.length : Int) * 2) != (1 + (xs.length : Int) * 2)) = false := by simp
  go_wp2_with fail
  refine (heldNodeS_c _ xs.length 1 _ (by have h9 := hog2.nodes; exact h9) (by omega) (by omega) (by omega)).mono ?_
  rintro e w18 ⟨rfl, hg18⟩
  have z18 := Lib.hid hg18.size
  have g18 : Grew w w18 := g17.trans hg18
  replace hq := hq.grew hg18
  replace hog2 := hog2.grew hg18
  clear hg18
  go_wp2_with fail
  refine (T1.out _ g18 hn1 F1.out).mono ?_
  rintro e w19 ⟨b1, rfl, ob1, hg19⟩
  have z19 := Lib.hid hg19.size
  have g19 : Grew w w19 := g18.trans hg19
  replace hq := hq.grew hg19
  replace hog2 := hog2.grew hg19
  clear hg19
  go_wp2_with fail
  refine (T2.out _ g19 hn2 F2.out).mono ?_
  rintro e w20 ⟨b2, rfl, ob2, hg20⟩
  have z20 := Lib.hid hg20.size
  have g20 : Grew w w20 := g19.trans hg20
  replace hq := hq.grew hg20
  replace hog2 := hog2.grew hg20
  replace ob1 := ob1.grew hg20
  clear hg20
  go_wp2_with fail
  refine (KI.out _ _ _ g20 ob1.rd ob2.rd).mono ?_
  rintro e w21 ⟨h0, rfl, hoh, hg21⟩
  have z21 := Lib.hid hg21.size
  have g21 : Grew w w21 := g20.trans hg21
  replace hq := hq.grew hg21
  replace hog2 := hog2.grew hg21
  replace ob1 := ob1.grew hg21
  replace ob2 := ob2.grew hg21
  clear hg21
  go_wp2_with fail
  refine (eqNodeS_yes _ _ xs _ hoh.nodes hq.nodes (by omega)).mono ?_
  rintro e w22 ⟨rfl, hg22⟩
  have z22 := Lib.hid hg22.size
  have g22 : Grew w w22 := g21.trans hg22
  replace hq := hq.grew hg22
  replace hog2 := hog2.grew hg22
  replace ob1 := ob1.grew hg22
  replace ob2 := ob2.grew hg22
  replace hoh := hoh.grew hg22
  clear hg22
  go_wp2_with fail
  refine (heldNodeS_c _ xs.length 1 _ (by have h9 := hog2.nodes; exact h9) (by omega) (by omega) (by omega)).mono ?_
  rintro e w23 ⟨rfl, hg23⟩
  have z23 := Lib.hid hg23.size
  have g23 : Grew w w23 := g22.trans hg23
  replace hq := hq.grew hg23
  replace hog2 := hog2.grew hg23
  replace ob1 := ob1.grew hg23
  replace ob2 := ob2.grew hg23
  replace hoh := hoh.grew hg23
  clear hg23
  go_wp2_with fail
  go_ret
  exact ⟨rfl, g23⟩
end Go.Proofs.YtnbnhapepcegpaaGreatDoor

/- Texts in one file: MnB Vm RfI LsN LsY LsS LsK LsL LsX PsO PsS RfQ RfS RpP DecT NisT NisL NisP RpI PsR. -/
import Derived.Lib.JoinLaws
import Derived.Shelf.SlSortCmp.Kit1
import Derived.Shelf.SlLaysF
import Derived.Shelf.SlSortCmp.Whole1
import Derived.Lib.SliceRun
import Derived.Test.YtmcbjekianclpaaGreatPa1
import Derived.Test.YtmcbjekianclpaaGreatPa2
import Derived.Test.YtmcbjekianclpaaGreatPa3
set_option linter.all false

/- FnMonotone: the upsets of a poset (upsets, UpsetsOf, UpsetOf, posetCode, maskCode, MembersOf, hasInt). -/
namespace Go.Proofs.YtmcbjekianclpaaGreat
open Go.RowKit
open Fm (Nd Tree)

/-- The upsets below k. -/
def upK (A : List Nat) (k : Nat) : List Nat := (List.range k).filter fun m => upB A (m : Int)
theorem upK_yes {A : List Nat} {k : Nat} (h : upB A (k : Int) = true) : upK A (k + 1) = upK A k ++ [k] := by
  unfold upK; rw [List.range_succ, List.filter_append]; simp [h]
theorem upK_no {A : List Nat} {k : Nat} (h : upB A (k : Int) = false) : upK A (k + 1) = upK A k := by
  unfold upK; rw [List.range_succ, List.filter_append]; simp [h]
theorem upK_len (A : List Nat) (k : Nat) : (upK A k).length ≤ k := by
  have := List.length_filter_le (fun m => upB A ((m : Nat) : Int)) (List.range k)
  rw [List.length_range] at this
  exact this
theorem upK_mem {A : List Nat} {k m : Nat} (h : m ∈ upK A k) : m < k ∧ upB A (m : Int) = true := by
  unfold upK at h
  rw [List.mem_filter, List.mem_range] at h
  exact h
theorem mk_yes {n m : Nat} (h : m < 2 ^ n) : mk n (m : Int) = true := by
  unfold mk
  rw [decide_eq_true_eq]
  omega
theorem zs_snoc (L : List Nat) (k : Nat) : zs (L ++ [k]) = zs L ++ [(k : Int)] := by simp [zs]

theorem upsets_c (v : Value) (A : List Nat) (w : World) (h : Ints w v (zs A)) (hA : Rl A) (h8 : A.length ≤ 8) :
    Calls Tryz.prog 94 #[.agg #[.int .i64 (A.length : Int), v]] w (GivesI w (zs (upK A (2 ^ A.length)))) := by
  have hal := (Grew.refl w).alloc (.cells #[.int .i64 (A.length : Int), v] 26)
  have y0 : ∀ W, Grew (w.alloc (.cells #[.int .i64 (A.length : Int), v] 26)) W → W.cell? ⟨w.heap.size, 0, none⟩ = some (.int .i64 (A.length : Int)) := fun W hW => (hW.cell (p := ⟨w.heap.size, 0, none⟩) (by simp)).trans (by simp)
  have y1 : ∀ W, Grew (w.alloc (.cells #[.int .i64 (A.length : Int), v] 26)) W → W.cell? ⟨w.heap.size, 1, none⟩ = some v := fun W hW => (hW.cell (p := ⟨w.heap.size, 1, none⟩) (by simp)).trans (by simp)
  have HG := Lib.hid hal
  have KA := Lib.hid (fun W => posAll_c A.length v W (by obtain ⟨A', c, h⟩ := ints_sliceN h; exact ⟨_, _, _, h⟩) hA.1)
  have KU := Lib.hid (fun k W (hW : Grew w W) => isUpset_c v A (k : Int) W (h.grew hW) hA)
  have hp : 0 < 2 ^ A.length := Nat.pow_pos (by omega)
  have hp2 : 2 ^ A.length ≤ 256 := Nat.le_trans (Nat.pow_le_pow_right (by omega) h8) (by decide)
  have hfull : full A.length = 2 ^ A.length - 1 := rfl
  have HY := Lib.hid (fun (k : Nat) (hk : upB A (k : Int) = true) => (congrArg zs (upK_yes (A := A) (k := k) hk)).trans (zs_snoc _ _))
  have HN := Lib.hid (fun (k : Nat) (hk : upB A (k : Int) = false) => congrArg zs (upK_no (A := A) (k := k) hk))
  have HL := Lib.hid (fun k => Nat.le_trans (Nat.le_of_eq (zs_len (upK A k))) (upK_len A k))
  obtain ⟨A', c, rfl⟩ := ints_sliceN h
  have r1 := Grew.refl (w.alloc (.cells #[.int .i64 (A.length : Int), .slice A' A.length c] 26))
  rw [hfull] at KA
  clear h hA hal hfull
  generalize A.length = n at *
  have hpz : ((2 ^ n - 1 : Nat) : Int) + 1 = ((2 ^ n : Nat) : Int) := by omega
  generalize hP : 2 ^ n = P at *
  generalize hQ : P - 1 = Q at *
  have hq1 : Q ≤ 255 := by omega
  clear hP
  go_enter Tryz.func94, Tryz.ntmps94
  go_wp2_with fail
  refine (KA.out _).mono ?_
  rintro e w1 ⟨rfl, hg1⟩
  go_wp2_with fail
  go_loopw [3, 8] (fun s i wr => ∃ j : Nat, j ≤ P ∧ i = .int .i64 j ∧ Grew (w.alloc (.cells #[.int .i64 (n : Int), .slice A' n c] 26)) wr ∧ OwnI wr (w.alloc (.cells #[.int .i64 (n : Int), .slice A' n c] 26)).heap.size s (zs (upK A j))) (fun _ i _ => P - (intOf i).toNat)
  case atStart => exact ⟨0, by omega, rfl, hg1, OwnI.nil_ _ _⟩
  case round =>
    obtain ⟨j, hj, rfl, hB, hO⟩ := hrel
    have hBw := HG.out.trans hB
    by_cases hlt : j < P
    · have hl := HL.out j
      have hC := Lib.hid (KU.out j)
      have hY := Lib.hid (HY.out j)
      have hN := Lib.hid (HN.out j)
      generalize upB A (j : Int) = b at *
      go_wp2_with fail
      refine (hC.out _ hBw).mono ?_
      rintro e w2 ⟨rfl, hg2⟩
      have hB2 := hB.trans hg2
      have hO2 := hO.grew hg2
      have hBw2 := hBw.trans hg2
      cases b with
      | true =>
        have hy := hY.out rfl
        go_wp2_with (first | (at_builtin; refine wpList_appI (w0 := (w.alloc (.cells #[.int .i64 (n : Int), .slice A' n c] 26))) _ _ rfl rfl _ (zs (upK A j)) rfl (hO2.grew (Grew.alloc (Grew.refl _) _)) (hB2.alloc _) _ (j : Int) rfl (rd_litI _ _ _) (by omega) ?_; intro v3 w3 hO3 hg3 _))
        go_roundw
        case rel => exact ⟨j + 1, by omega, by go_num, hg3, by rw [hy]; exact hO3⟩
        case measure => simp [intOf]; omega
      | false =>
        have hn := hN.out rfl
        go_wp2_with fail
        go_roundw
        case rel => exact ⟨j + 1, by omega, by go_num, hB2, by rw [hn]; exact hO2⟩
        case measure => simp [intOf]; omega
    · obtain rfl : j = P := by omega
      go_wp2_with fail
      go_ret
      exact ⟨_, rfl, hO.base HG.out.size, hBw⟩

end Go.Proofs.YtmcbjekianclpaaGreat

/- The variables of a formula: variableMask of the program, l02Variables of the reference. -/
namespace Go.Proofs.YtmcbjekianclpaaGreat
open Go.RowKit
open Fm (Nd Tree)

/-- The mask of the variables among the first k nodes. -/
def vmK (xs : List Nd) : Nat → Nat
  | 0 => 0
  | k + 1 => if kd xs k = 0 then vmK xs k ||| 2 ^ (sy xs k).toNat else vmK xs k
theorem vmK_yes {xs : List Nd} {k : Nat} (h : kd xs k = 0) : vmK xs (k + 1) = vmK xs k ||| 2 ^ (sy xs k).toNat := by
  show (if _ then _ else _) = _
  rw [if_pos h]
theorem vmK_no {xs : List Nd} {k : Nat} (h : ¬ kd xs k = 0) : vmK xs (k + 1) = vmK xs k := by
  show (if _ then _ else _) = _
  rw [if_neg h]
def vm (xs : List Nd) : Nat := vmK xs xs.length
/-- The variables' numbers are less than 6. -/
def Vs (xs : List Nd) : Prop := ∀ i, i < xs.length → kd xs i = 0 → 0 ≤ sy xs i ∧ sy xs i < 6
theorem vmK_lt {xs : List Nd} (h : Vs xs) : ∀ k, k ≤ xs.length → vmK xs k < 2 ^ 6 := by
  intro k
  induction k with
  | zero => intro _; show 0 < 2 ^ 6; decide
  | succ k ih =>
    intro hk
    by_cases h0 : kd xs k = 0
    · rw [vmK_yes h0]
      have h1 := h k (by omega) h0
      refine or_n (ih (by omega)) ?_
      exact Nat.pow_lt_pow_right (by omega) (by omega)
    · rw [vmK_no h0]; exact ih (by omega)
theorem vmK_bit (xs : List Nd) (v : Nat) : ∀ k, (vmK xs k).testBit v = true ↔ ∃ i, i < k ∧ kd xs i = 0 ∧ (sy xs i).toNat = v := by
  intro k
  induction k with
  | zero =>
    show (0 : Nat).testBit v = true ↔ _
    simp
  | succ k ih =>
    by_cases h0 : kd xs k = 0
    · rw [vmK_yes h0, Nat.testBit_or, Bool.or_eq_true, ih, Nat.testBit_two_pow, decide_eq_true_eq]
      constructor
      · rintro (⟨i, hi, h1, h2⟩ | h1)
        · exact ⟨i, by omega, h1, h2⟩
        · exact ⟨k, by omega, h0, h1⟩
      · rintro ⟨i, hi, h1, h2⟩
        by_cases he : i = k
        · subst he; exact .inr h2
        · exact .inl ⟨i, by omega, h1, h2⟩
    · rw [vmK_no h0, ih]
      constructor
      · rintro ⟨i, hi, h1, h2⟩; exact ⟨i, by omega, h1, h2⟩
      · rintro ⟨i, hi, h1, h2⟩
        by_cases he : i = k
        · subst he; exact absurd h1 h0
        · exact ⟨i, by omega, h1, h2⟩
theorem wrap_sh {k : Nat} (h : k ≤ 30) : IntKind.i64.wrap (1 * 2 ^ k) = ((2 ^ k : Nat) : Int) := pow63 h

set_option maxHeartbeats 1000000 in
theorem variableMask_c (v : Value) (xs : List Nd) (w : World) (h : Nodes w v xs) (hv : Vs xs) (hn : xs.length ≤ 1048576) :
    Calls Tryz.prog 45 #[v] w fun e w' => e = .returned (.int .i64 ((vm xs : Nat) : Int)) ∧ Grew w w' := by
  have HY := Lib.hid (fun k => @vmK_yes xs k)
  have HN := Lib.hid (fun k => @vmK_no xs k)
  have HL := Lib.hid (fun k (hk : k ≤ xs.length) => vmK_lt hv k hk)
  have HV := Lib.hid hv
  have HZ : Hid (vmK xs 0 = 0) := Lib.hid rfl
  have HE : Hid (vm xs = vmK xs xs.length) := Lib.hid rfl
  have HO := Lib.hid (fun a b (ha : a < 2 ^ 6) (hb : b < 2 ^ 6) => or_i64 a b (by omega) (by omega))
  rcases h.open_ with ⟨rfl, rfl⟩ | ⟨b, o, c, rfl, hc, hm, hb, hcell⟩
  · clear h
    go_enter Tryz.func45, Tryz.ntmps45
    go_wp2_with fail
    refine wp_loop_rounds 1 ?_; rw [rounds_succ]
    go_wp2_with fail
    go_ret
    exact ⟨rfl, Grew.refl _⟩
  have HC := Lib.hid hcell
  clear hcell h hv
  generalize vm xs = R at *
  generalize hN : xs.length = n at *
  have HXN := Lib.hid hN
  clear hN
  go_enter Tryz.func45, Tryz.ntmps45
  go_wp2_with fail
  go_loopw [3, 5, 8] (fun q _ i wr => ∃ k : Nat, k ≤ n ∧ i = .int .i64 (k : Int) ∧ q = .int .i64 ((vmK xs k : Nat) : Int) ∧ Grew w wr) (fun _ _ i _ => n - (intOf i).toNat)
  case atStart => exact ⟨0, Nat.zero_le _, rfl, by rw [HZ.out]; rfl, Grew.refl _⟩
  case round =>
    obtain ⟨k, hk, rfl, rfl, hB⟩ := hrel
    by_cases hlt : k < n
    · obtain ⟨c0, c1⟩ := HC.out k hlt _ hB
      have hy := Lib.hid (HY.out k)
      have hno := Lib.hid (HN.out k)
      have hq := HL.out k hk
      by_cases h0 : kd xs k = 0
      · have hvs := HV.out k (by rw [HXN.out]; exact hlt) h0
        have hyk := hy.out h0
        rw [h0] at c0
        clear h0
        obtain ⟨s, hs⟩ : ∃ s : Nat, sy xs k = (s : Int) := ⟨(sy xs k).toNat, by omega⟩
        rw [hs] at c1 hyk hvs
        rw [Int.toNat_natCast] at hyk
        have hp := wrap_pow (k := s) (by omega)
        have hp64 : 2 ^ s < 2 ^ 6 := Nat.pow_lt_pow_right (by omega) (by omega)
        have ho := HO.out (vmK xs k) (2 ^ s) hq hp64
        have HYK := Lib.hid hyk
        have hs6 : (s : Int) < 6 := hvs.2
        clear hyk hs hy hno hvs
        generalize vmK xs k = q at *
        generalize (2 ^ s : Nat) = p at *
        go_wp2_with fail
        go_roundw
        case rel => exact ⟨k + 1, by omega, by go_num, by rw [HYK.out], hB.trans ((Grew.refl _).alloc _)⟩
        case measure => simp [intOf]; omega
      · have hyk := hno.out h0
        have HYK := Lib.hid hyk
        clear hyk hy hno
        generalize kd xs k = kk at *
        generalize vmK xs k = q at *
        go_wp2_with fail
        go_roundw
        case rel => exact ⟨k + 1, by omega, by go_num, by rw [HYK.out], hB.trans ((Grew.refl _).alloc _)⟩
        case measure => simp [intOf]; omega
    · obtain rfl : k = n := by omega
      have he := HE.out
      go_wp2_with fail
      go_ret
      exact ⟨by rw [he]; rfl, hB⟩
set_option maxHeartbeats 1000000 in
theorem l02Variables_c (v : Value) (xs : List Nd) (w : World) (h : Nodes w v xs) (hv : Vs xs) (hn : xs.length ≤ 1048576) :
    Calls Tryz.prog 15 #[v] w (GivesI w (zs (mbs (vm xs)))) := by
  have HY := Lib.hid (fun k => @vmK_yes xs k)
  have HN := Lib.hid (fun k => @vmK_no xs k)
  have HL := Lib.hid (fun k (hk : k ≤ xs.length) => vmK_lt hv k hk)
  have HV := Lib.hid hv
  have HZ : Hid (vmK xs 0 = 0) := Lib.hid rfl
  have HE : Hid (vm xs = vmK xs xs.length) := Lib.hid rfl
  have HO := Lib.hid (fun a b (ha : a < 2 ^ 6) (hb : b < 2 ^ 6) => or_i64 a b (by omega) (by omega))
  have HR := Lib.hid (fun W => l01List_c (vm xs) (by have := vmK_lt hv xs.length (Nat.le_refl _); unfold vm; omega) W)
  rcases h.open_ with ⟨rfl, rfl⟩ | ⟨b, o, c, rfl, hc, hm, hb, hcell⟩
  · clear h
    have hz : vm [] = 0 := rfl
    rw [hz] at HR ⊢
    generalize zs (mbs 0) = L at *
    go_enter Tryz.func15, Tryz.ntmps15
    go_wp2_with fail
    refine wp_loop_rounds 1 ?_; rw [rounds_succ]
    go_wp2_with fail
    refine (HR.out _).mono ?_
    rintro e w1 ⟨v1, rfl, hO1, hg1⟩
    go_wp2_with fail
    go_ret
    exact ⟨_, rfl, hO1, hg1⟩
  have HC := Lib.hid hcell
  clear hcell h hv
  generalize zs (mbs (vm xs)) = L at *
  generalize vm xs = R at *
  generalize hN : xs.length = n at *
  have HXN := Lib.hid hN
  clear hN
  go_enter Tryz.func15, Tryz.ntmps15
  go_wp2_with fail
  go_loopw [3, 4] (fun q i wr => ∃ k : Nat, k ≤ n ∧ i = .int .i64 (k : Int) ∧ q = .int .i64 ((vmK xs k : Nat) : Int) ∧ Grew w wr) (fun _ i _ => n - (intOf i).toNat)
  case atStart => exact ⟨0, Nat.zero_le _, rfl, by rw [HZ.out]; rfl, Grew.refl _⟩
  case round =>
    obtain ⟨k, hk, rfl, rfl, hB⟩ := hrel
    by_cases hlt : k < n
    · obtain ⟨c0, c1⟩ := HC.out k hlt _ hB
      have hy := Lib.hid (HY.out k)
      have hno := Lib.hid (HN.out k)
      have hq := HL.out k hk
      by_cases h0 : kd xs k = 0
      · have hvs := HV.out k (by rw [HXN.out]; exact hlt) h0
        have hyk := hy.out h0
        rw [h0] at c0
        clear h0
        obtain ⟨s, hs⟩ : ∃ s : Nat, sy xs k = (s : Int) := ⟨(sy xs k).toNat, by omega⟩
        rw [hs] at c1 hyk hvs
        rw [Int.toNat_natCast] at hyk
        have KO := Lib.hid (fun W => l01One_q s (by omega) W)
        have hp64 : 2 ^ s < 2 ^ 6 := Nat.pow_lt_pow_right (by omega) (by omega)
        have ho := HO.out (vmK xs k) (2 ^ s) hq hp64
        have HYK := Lib.hid hyk
        have hs6 : (s : Int) < 6 := hvs.2
        clear hyk hs hy hno hvs
        generalize vmK xs k = q at *
        generalize (2 ^ s : Nat) = p at *
        have hr1 := Grew.refl wr
        have hd1 := (Grew.refl wr).drew
        go_wp2_with fail
        refine (KO.out _).mono ?_
        rintro e w1 ⟨rfl, rfl⟩
        go_wp2_with fail
        go_roundw
        case rel => exact ⟨k + 1, by omega, by go_num, by rw [HYK.out], hB⟩
        case measure => simp [intOf]; omega
      · have hyk := hno.out h0
        have HYK := Lib.hid hyk
        clear hyk hy hno
        generalize kd xs k = kk at *
        generalize vmK xs k = q at *
        go_wp2_with fail
        go_roundw
        case rel => exact ⟨k + 1, by omega, by go_num, by rw [HYK.out], hB⟩
        case measure => simp [intOf]; omega
    · obtain rfl : k = n := by omega
      rw [← HE.out]
      go_wp2_with fail
      refine (HR.out _).mono ?_
      rintro e w1 ⟨v1, rfl, hO1, hg1⟩
      go_wp2_with fail
      go_ret
      exact ⟨_, rfl, own_base hO1 hB.size, hB.trans hg1⟩
end Go.Proofs.YtmcbjekianclpaaGreat

/- The program's search for a valuation that refutes a formula on a poset: variablesIn of one formula, valuations, unforced, isValid. -/
namespace Go.Proofs.YtmcbjekianclpaaGreat
open Go.RowKit
open Fm (Nd Tree)
attribute [local go_sem] Oper.semAt_some

theorem variablesIn_one_c (b : Nat) (va : Value) (xs : List Nd) (w : World) (hc : w.cell? ⟨b, 0, none⟩ = some va) (hb : b < w.heap.size) (h : Nodes w va xs) (hv : Vs xs) (hn : xs.length ≤ 1048576) :
    Calls Tryz.prog 21 #[.slice (some ⟨b, 0, none⟩) 1 1] w (GivesI w (zs (mbs (vm xs)))) := by
  have HM := Lib.hid (fun W (hW : Grew w W) => variableMask_c va xs W (h.grew hW) hv hn)
  have hlt := vmK_lt hv xs.length (Nat.le_refl _)
  have hsm : vm xs < 1073741824 := by
    have : (2 : Nat) ^ 6 = 64 := rfl
    unfold vm
    omega
  have HB := Lib.hid (membersOf_c (vm xs) hsm)
  have hor : bits .or .i64 0 ((vm xs : Nat) : Int) = ((vm xs : Nat) : Int) := by
    have h0 := or_i64 0 (vm xs) (by omega) (by omega)
    rw [Nat.zero_or] at h0
    exact h0
  obtain ⟨A, c, rfl⟩ := nodes_slice h
  clear h hv hn hlt
  generalize vm xs = m at *
  generalize xs.length = n at *
  go_enter Tryz.func21, Tryz.ntmps21
  go_wp2_with fail
  go_loopw [3, 8] (fun q i wr => ∃ j : Nat, j ≤ 1 ∧ i = .int .i64 j ∧ q = .int .i64 ((if j = 0 then 0 else m : Nat) : Int) ∧ Grew w wr) (fun _ i _ => 1 - (intOf i).toNat)
  case atStart => exact ⟨0, by omega, rfl, rfl, Grew.refl _⟩
  case round =>
    obtain ⟨j, hj, rfl, rfl, hB⟩ := hrel
    by_cases hlt : j = 0
    · subst hlt
      have hc1 := (hB.cell (p := ⟨b, 0, none⟩) hb).trans hc
      have hM := Lib.hid (HM.out _ hB)
      rw [if_pos rfl]
      go_wp2_with fail
      refine hM.out.mono ?_
      rintro e w1 ⟨rfl, hg1⟩
      go_wp2_with fail
      go_roundw
      case rel => exact ⟨1, by omega, rfl, rfl, hB.trans hg1⟩
      case measure => simp [intOf]
    · obtain rfl : j = 1 := by omega
      rw [if_neg (by omega)]
      go_wp2_with fail
      refine (HB.out _).mono ?_
      rintro e w2 ⟨v2, rfl, hO2, hg2⟩
      go_wp2_with fail
      go_ret
      exact ⟨_, rfl, hO2.base hB.size, hB.trans hg2⟩

theorem valuations_c (v vV : Value) (A : List Nat) (w : World) (h : Ints w v (zs A)) (hA : Rl A) (h8 : A.length ≤ 8) (hV : ∃ X m c, vV = .slice X m c) :
    Calls Tryz.prog 69 #[.agg #[.int .i64 (A.length : Int), v], vV] w fun e w' => ∃ bV bU vU, e = .returned (.func (.func 95) #[] #[.pointer (some ⟨bV, 0, none⟩), .pointer (some ⟨bU, 0, none⟩)]) ∧ Grew w w' ∧ bV < w'.heap.size ∧ bU < w'.heap.size ∧ w'.cell? ⟨bV, 0, none⟩ = some vV ∧ w'.cell? ⟨bU, 0, none⟩ = some vU ∧ Ints w' vU (zs (upK A (2 ^ A.length))) := by
  have HU := Lib.hid (fun W (hW : Grew w W) => upsets_c v A W (h.grew hW) hA h8)
  obtain ⟨A1, c1, rfl⟩ := ints_sliceN h
  obtain ⟨X, m, c, rfl⟩ := hV
  have g0 := ((Grew.refl w).alloc (.cells #[.int .i64 (A.length : Int), .slice A1 A.length c1] 26)).alloc (.cells #[.slice X m c] 24)
  have hs : (w.alloc (.cells #[.int .i64 (A.length : Int), .slice A1 A.length c1] 26)).heap.size = w.heap.size + 1 := by simp
  have b1 := blk_new (w.alloc (.cells #[.int .i64 (A.length : Int), .slice A1 A.length c1] 26)) (.cells #[.slice X m c] 24)
  rw [hs] at b1
  have HG := Lib.hid (And.intro g0 b1)
  clear h hA g0 b1 hs
  generalize zs (upK A (2 ^ A.length)) = K at *
  generalize A.length = n at *
  go_enter Tryz.func69, Tryz.ntmps69
  go_wp2_with fail
  refine (HU.out _ HG.out.1).mono ?_
  rintro e w1 ⟨v1, rfl, hO1, hg1⟩
  obtain ⟨A2, c2, rfl⟩ := ints_slice hO1.ints
  have HI := Lib.hid hO1.ints
  have hb1 := (hg1.block (blk_lt HG.out.2)).trans HG.out.2
  have HB := Lib.hid hb1
  clear hO1 hb1
  go_wp2_with fail
  go_ret
  have hga := (Grew.refl w1).alloc (.cells #[.slice A2 K.length c2] 24)
  refine ⟨_, _, _, rfl, (HG.out.1.trans hg1).trans hga, ?_, ?_, ?_, ?_, HI.out.grew hga⟩
  · have := blk_lt HB.out
    have := hga.size
    omega
  · simp
  · rw [blk_cell ((hga.block (blk_lt HB.out)).trans HB.out)]
    rfl
  · simp

theorem alloc5 (w wa : World) (o1 o2 o3 o4 o5 : Obj) (h : wa = ((((w.alloc o1).alloc o2).alloc o3).alloc o4).alloc o5) : Grew w wa ∧ wa.heap.size = w.heap.size + 5 ∧ wa.heap[w.heap.size]? = some o1 ∧ wa.heap[w.heap.size + 1]? = some o2 ∧ wa.heap[w.heap.size + 1 + 1]? = some o3 ∧ wa.heap[w.heap.size + 1 + 1 + 1]? = some o4 ∧ wa.heap[w.heap.size + 1 + 1 + 1 + 1]? = some o5 := by
  obtain ⟨wb, hwb⟩ : ∃ wb, wb = (((w.alloc o1).alloc o2).alloc o3).alloc o4 := ⟨_, rfl⟩
  obtain ⟨hg, hs, b1, b2, b3, b4⟩ := alloc4 _ _ _ _ _ _ hwb
  rw [← hwb] at h
  subst h
  have g5 := (Grew.refl wb).alloc o5
  have b5 := blk_new wb o5
  rw [hs] at b5
  exact ⟨hg.trans g5, by simp [hs], (g5.block (by omega)).trans b1, (g5.block (by omega)).trans b2, (g5.block (by omega)).trans b3, (g5.block (by omega)).trans b4, b5⟩

theorem blk_ltO {w : World} {k : Nat} {o : Obj} (h : w.heap[k]? = some o) : k < w.heap.size := (Array.getElem?_eq_some_iff.1 h).1
theorem loadVar_one {P : Program} (w : World) (g : Nat) (t ty : TypeId) (v : Value) (d : TypeDesc) (hg : w.heap[g]? = some (.cells #[v] t (0, 0))) (hu : P.underlying ty = some d) (hd : (match d with | .struct _ | .array _ _ => true | _ => false) = false) :
    (loadVar ty ⟨g, 0, none⟩).run P w = .ok v w := by
  have hagg : (isAgg ty).run P w = .ok false w := by
    unfold isAgg
    rw [Sem.run_bind, run_underlying hu w]
    cases d <;> simp_all
  have hc : w.cell? ⟨g, 0, none⟩ = some v := by rw [blk_cell hg]; rfl
  simp [loadVar, Sem.run_bind, hagg, hc]
theorem results_cell3 {P : Program} {fn : Func} {p q r : Tmp} {t1 t2 t3 : TypeId} (h : fn.results = #[.cell p t1, .cell q t2, .cell r t3]) (tmps : Array Value) (w : World) (a b c : Addr) (v1 v2 v3 : Value)
    (hp : tmps.getD p undef = .pointer (some a)) (hq : tmps.getD q undef = .pointer (some b)) (hr : tmps.getD r undef = .pointer (some c))
    (l1 : (loadVar t1 a).run P w = .ok v1 w) (l2 : (loadVar t2 b).run P w = .ok v2 w) (l3 : (loadVar t3 c).run P w = .ok v3 w) : (results fn tmps).run P w = .ok (.tuple #[v1, v2, v3]) w := by
  have hp' : tmps[p]?.getD undef = .pointer (some a) := by simpa using hp
  have hq' : tmps[q]?.getD undef = .pointer (some b) := by simpa using hq
  have hr' : tmps[r]?.getD undef = .pointer (some c) := by simpa using hr
  simp [results, h, hp', hq', hr', asAddr, l1, l2, l3]
theorem mbs_length6 {m n : Nat} (hm : m < 2 ^ n) (hn : n ≤ 30) : (mbs m).length ≤ n := by
  have e : mbs m = mb m n := mb_top hm 30 hn
  rw [e]
  exact mb_len m n

/-- Some valuation of the variables does not force the formula everywhere. -/
def badV (A U vars : List Nat) (t : Tree) : Bool := (fs U vars (lf fun _ => 0)).any fun x => !(fv A x t == full A.length)

set_option maxHeartbeats 2000000 in
theorem unforced_c (v va : Value) (A : List Nat) (t : Tree) (w : World) (h : Ints w v (zs A)) (ha : Nodes w va (Fm.enc t)) (hA : Rl A) (h8 : A.length ≤ 8) (ht : FmOk t) (hvs : Vs (Fm.enc t)) (hn : (Fm.enc t).length ≤ 1048576) :
    Calls Tryz.prog 48 #[.agg #[.int .i64 (A.length : Int), v], va] w fun e w' => ∃ u m, e = .returned (.tuple #[u, m, .bool (badV A (upK A (2 ^ A.length)) (mbs (vm (Fm.enc t))) t)]) ∧ Grew w w' := by
  obtain ⟨A1, c1, rfl⟩ := ints_sliceN h
  obtain ⟨A2, c2, rfl⟩ := nodes_slice ha
  obtain ⟨w0, hw0⟩ : ∃ w0, w0 = (((((w.alloc (.cells #[.int .i64 (A.length : Int), .slice A1 A.length c1] 26)).alloc (.cells #[.slice A2 (Fm.enc t).length c2] 29)).alloc (.cells #[.slice none 0 0] 24)).alloc (.cells #[.int .i64 0] 2)).alloc (.cells #[.bool false] 4)) := ⟨_, rfl⟩
  obtain ⟨hg0, hs0, b1, b2, b3, b4, b5⟩ := alloc5 _ _ _ _ _ _ _ hw0
  have HVI := Lib.hid (fun b W (hW : Grew w0 W) (hc : W.cell? ⟨b, 0, none⟩ = some (.slice A2 (Fm.enc t).length c2)) (hb : b < W.heap.size) => variablesIn_one_c b _ (Fm.enc t) W hc hb (ha.grew (hg0.trans hW)) hvs hn)
  have HVA := Lib.hid (fun vV W (hW : Grew w0 W) (hv : ∃ X m c, vV = .slice X m c) => valuations_c (.slice A1 A.length c1) vV A W (h.grew (hg0.trans hW)) hA h8 hv)
  have y0 : ∀ W, Grew w0 W → W.cell? ⟨w.heap.size, 0, none⟩ = some (.int .i64 (A.length : Int)) := fun W hW => by rw [blk_cell ((hW.block (by omega)).trans b1)]; rfl
  have y1 : ∀ W, Grew w0 W → W.cell? ⟨w.heap.size, 1, none⟩ = some (.slice A1 A.length c1) := fun W hW => by rw [blk_cell ((hW.block (by omega)).trans b1)]; rfl
  have y2 : ∀ W, Grew w0 W → W.cell? ⟨w.heap.size + 1, 0, none⟩ = some (.slice A2 (Fm.enc t).length c2) := fun W hW => by rw [blk_cell ((hW.block (by omega)).trans b2)]; rfl
  have HB := Lib.hid (And.intro b3 (And.intro b4 b5))
  have HG0 := Lib.hid (And.intro hg0 hs0)
  have HA := Lib.hid hA
  have r0 := Grew.refl w0
  have r1 := (Grew.refl w0).drew
  clear hg0 hs0 b1 b2 b3 b4 b5
  refine (callsIn_wide (n := 9)).1 ?_
  refine callsIn_of_wp_marks Tryz.func48 rfl trivial ?_
  simp only [Tryz.ntmps48, List.size_toArray, List.length_cons, List.length_nil, Nat.reduceAdd, Nat.reduceSub, Array.replicate_succ, Array.replicate_zero, List.push_toArray, List.append_toArray, List.nil_append, List.cons_append]
  refine wpIn_wide.2 ?_
  go_wp2_with fail
  rw [← hw0]
  clear hw0
  first | (go_region_held3 (fun w' => Grew w0 w') (first | assumption | exact Grew.drew ‹_› | exact Grew.trans ‹_› ‹_› | exact Grew.alloc (by assumption) _) (first
    | (go_at_call 21; refine Calls.mono (HVI.out _ _ (by first | assumption | exact Grew.alloc (by assumption) _) (by simp) (by simp)) ?_; rintro e w5 ⟨v5, rfl, hO5, hg5⟩; have hg55 : Grew w0 w5 := Grew.trans (by first | assumption | exact Grew.alloc (by assumption) _) hg5; obtain ⟨A5, c5, rfl⟩ := ints_sliceN hO5.ints)
    | (go_at_call 69; refine Calls.mono (HVA.out _ _ (by assumption) ⟨_, _, _, rfl⟩) ?_; rintro e w6 ⟨bV, bU, vU, rfl, hg6, hbV, hbU, hcV, hcU, hIU⟩; have hg66 : Grew w0 w6 := Grew.trans (by assumption) hg6))) | fail
  have hIV := hO5.ints.grew hg6
  have hg6w : Grew w0 w6 := hg55.trans hg6
  have HVL := Lib.hid (And.intro hIV (And.intro hIU (And.intro hcV (And.intro hcU (And.intro hbV hbU)))))
  clear hO5 hg5 hg55 hIV hIU hcV hcU hbV hbU hg6 HVI HVA
  generalize hvars : mbs (vm (Fm.enc t)) = vars at *
  generalize hUU : upK A (2 ^ A.length) = U at *
  go_wp2_with fail
  refine (wpIn_wide (n := 9)).1 ?_
  refine wpIn_rangeV (P := Tryz.prog) (gf := 95) (lb := #[.pointer (some ⟨bV, 0, none⟩), .pointer (some ⟨bU, 0, none⟩)]) rfl (enters_of Tryz.func95 (by kernel_rfl) rfl)
    (Rv := fun W v x => Ints W v (zs x) ∧ (x.length = 6 ∧ ∀ m ∈ x, m < 2 ^ A.length)) (fun W v x l o o' h1 h2 h3 => ⟨rd_putObj o' h1.1 h2 h3, h1.2⟩)
    (valSeq_c _ U vars bV bU w6 _ _ HVL.out.2.2.1 HVL.out.2.2.2.1 HVL.out.2.2.2.2.1 HVL.out.2.2.2.2.2 HVL.out.1 HVL.out.2.1 ?v6 ?vl ?ul ?good) (Grew.refl w6) rfl
    (fun pre W => (∀ x ∈ pre, fv A x t = full A.length) ∧ Grew w6 W)
    (fun pre W => (∃ x ∈ pre, fv A x t ≠ full A.length) ∧ Below w.heap.size w6 W ∧ ∃ u m, W.heap[w.heap.size + 1 + 1]? = some (.cells #[u] 24) ∧ W.heap[w.heap.size + 1 + 1 + 1]? = some (.cells #[m] 2) ∧ W.heap[w.heap.size + 1 + 1 + 1 + 1]? = some (.cells #[.bool true] 4))
    (fun s X Y hs hb => ⟨hs.1, (show Below w6.heap.size w6 Y from Below.trans hs.2 hb)⟩) ?hIx ⟨by simp, Grew.refl w6⟩ (fun x => { tmps := #[.agg #[.int .i64 (A.length : Int), .slice A1 A.length c1], .slice A2 (Fm.enc t).length c2, .pointer (some ⟨w.heap.size, 0, none⟩), .pointer (some ⟨w.heap.size + 1, 0, none⟩), .pointer (some ⟨w.heap.size + 1 + 1, 0, none⟩), .pointer (some ⟨w.heap.size + 1 + 1 + 1, 0, none⟩), .pointer (some ⟨w.heap.size + 1 + 1 + 1 + 1, 0, none⟩), x, undef, .agg #[.int .i64 (A.length : Int), .slice A1 A.length c1], .slice A2 (Fm.enc t).length c2, .slice (some ⟨w0.heap.size, 0, none⟩) 1 1, .slice A5 vars.length c5, .func (.func 95) #[] #[.pointer (some ⟨bV, 0, none⟩), .pointer (some ⟨bU, 0, none⟩)], x, undef, undef, undef, undef, undef, undef, undef, undef, undef, undef, undef], defers := [] }) ?assign ?body ?done ?stop
  case assign =>
    intro l m x W K hK
    gi_wp2
    exact hK
  case body =>
    rintro l m pre x v W ⟨hall, hg⟩ ⟨hv, hx6, hxm⟩ hsz
    have hW0 : Grew w0 W := hg6w.trans hg
    obtain ⟨Av, cv, rfl⟩ := ints_sliceN hv
    rw [hx6] at hv ⊢
    have HFO := Lib.hid (forced_c (.slice A1 A.length c1) (.slice Av 6 cv) (.slice A2 (Fm.enc t).length c2) A x t W (h.grew (HG0.out.1.trans hW0)) hv (ha.grew (HG0.out.1.trans hW0)) HA.out hxm hx6 ht)
    have HAL := Lib.hid (fun X => posAll_c A.length (.slice A1 A.length c1) X ⟨_, _, _, rfl⟩ (by omega))
    have HX := Lib.hid (And.intro hall (And.intro hg hv))
    have hWr := Grew.refl W
    clear hall hv hxm
    gi_wp2
    refine ⟨trivial, fun h => by simp [Fence.wide] at h, (CallsIn.inRound l (callsIn_wide.2 HFO.out)).mono ?_⟩
    rintro e w1 ⟨rfl, hg1⟩
    have hW1 : Grew w0 w1 := hW0.trans hg1
    have hWg1 := hg1
    gi_wp2
    refine ⟨trivial, fun h => by simp [Fence.wide] at h, (CallsIn.inRound l (callsIn_wide.2 (HAL.out w1))).mono ?_⟩
    rintro e w2 ⟨rfl, hg2⟩
    have hWg2 := hg1.trans hg2
    have hq : Hid (fv A x t = fv A x t) := Lib.hid rfl
    by_cases he : fv A x t = full A.length
    · have hb : (((fv A x t : Nat) : Int) != ((full A.length : Nat) : Int)) = false := by simp [he]
      have HE := Lib.hid he
      clear he hq
      gi_wp2
      refine ⟨hWg2, fun y hy => ?_, HX.out.2.1.trans hWg2⟩
      rw [List.mem_append, List.mem_singleton] at hy
      rcases hy with hy | rfl
      · exact HX.out.1 y hy
      · exact HE.out
    · have hb : (((fv A x t : Nat) : Int) != ((full A.length : Nat) : Int)) = true := by simp; omega
      have HE := Lib.hid he
      have HC := Lib.hid (cloneR_c (.slice Av 6 cv) (zs x) w2 (HX.out.2.2.grew hWg2) (by rw [zs_len, hx6]; omega))
      clear he hq
      generalize hqq : fv A x t = q at *
      have HQ := Lib.hid hqq
      clear hqq
      gi_wp2
      refine ⟨trivial, fun h => by simp [Fence.wide] at h, (CallsIn.inRound l (callsIn_wide.2 HC.out)).mono ?_⟩
      rintro e w3 ⟨v3, rfl, hO3, hg3⟩
      obtain ⟨A3, c3, rfl⟩ := ints_slice hO3.ints
      have hW3 : Grew w0 w3 := hW1.trans (hg2.trans hg3)
      have B3 := Lib.hid ((hW3.block (by have := HG0.out.2; omega)).trans HB.out.1)
      have B4 := Lib.hid ((hW3.block (by have := HG0.out.2; omega)).trans HB.out.2.1)
      have B5 := Lib.hid ((hW3.block (by have := HG0.out.2; omega)).trans HB.out.2.2)
      have d3 : w3.cell? ⟨w.heap.size + 1 + 1, 0, none⟩ = some (.slice none 0 0) := by rw [blk_cell B3.out]; rfl
      have d4 : w3.cell? ⟨w.heap.size + 1 + 1 + 1, 0, none⟩ = some (.int .i64 0) := by rw [blk_cell B4.out]; rfl
      have d5 : w3.cell? ⟨w.heap.size + 1 + 1 + 1 + 1, 0, none⟩ = some (.bool false) := by rw [blk_cell B5.out]; rfl
      have f3 := blk_frozen B3.out 0
      have f4 := blk_frozen B4.out 0
      have f5 := blk_frozen B5.out 0
      clear hO3
      gi_wp2
      have hk : KeepsOthers w3 (((w3.setCell ⟨w.heap.size + 1 + 1, 0, none⟩ (.slice A3 (zs x).length c3)).setCell ⟨w.heap.size + 1 + 1 + 1, 0, none⟩ (.int .i64 (q : Int))).setCell ⟨w.heap.size + 1 + 1 + 1 + 1, 0, none⟩ (.bool true)) := ((KeepsOthers.setCell _ _ _).trans (KeepsOthers.setCell _ _ _)).trans (KeepsOthers.setCell _ _ _)
      have hgr := hWg2.trans hg3
      have hk0 : KeepsOthers W w3 := ⟨hgr.size, fun i o hi _ => (hgr.block (blk_ltO hi)).trans hi⟩
      have hbl : Below w.heap.size w6 w3 := (Below.trans HX.out.2.1 ((hgr.below.mono HX.out.2.1.size))).mono (by have := HG0.out.2; have := hg6w.size; omega)
      refine ⟨hk0.trans hk, ⟨x, by simp, by rw [HQ.out]; exact HE.out⟩, ((hbl.setCell (p := ⟨w.heap.size + 1 + 1, 0, none⟩) (by show w.heap.size ≤ w.heap.size + 1 + 1; omega) _).setCell (p := ⟨w.heap.size + 1 + 1 + 1, 0, none⟩) (by show w.heap.size ≤ w.heap.size + 1 + 1 + 1; omega) _).setCell (p := ⟨w.heap.size + 1 + 1 + 1 + 1, 0, none⟩) (by show w.heap.size ≤ w.heap.size + 1 + 1 + 1 + 1; omega) _, .slice A3 (zs x).length c3, .int .i64 (q : Int), ?_, ?_, ?_⟩
      · exact (Below.heap_setCell _ _ _ _ (by show w.heap.size + 1 + 1 ≠ w.heap.size + 1 + 1 + 1 + 1; omega)).trans ((Below.heap_setCell _ _ _ _ (by show w.heap.size + 1 + 1 ≠ w.heap.size + 1 + 1 + 1; omega)).trans (blk_set B3.out 0 _))
      · exact (Below.heap_setCell _ _ _ _ (by show w.heap.size + 1 + 1 + 1 ≠ w.heap.size + 1 + 1 + 1 + 1; omega)).trans (blk_set ((Below.heap_setCell _ _ _ _ (by show w.heap.size + 1 + 1 + 1 ≠ w.heap.size + 1 + 1; omega)).trans B4.out) 0 _)
      · exact blk_set ((Below.heap_setCell _ _ _ _ (by show w.heap.size + 1 + 1 + 1 + 1 ≠ w.heap.size + 1 + 1 + 1; omega)).trans ((Below.heap_setCell _ _ _ _ (by show w.heap.size + 1 + 1 + 1 + 1 ≠ w.heap.size + 1 + 1; omega)).trans B5.out)) 0 _
  case hIx =>
    rintro s X Y ⟨h1, h2, u, m, h3, h4, h5⟩ hb
    have hs := HG0.out.2
    have hs6 := hg6w.size
    exact ⟨h1, h2.trans (hb.mono (by omega)), u, m, (hb.block _ (by omega)).trans h3, (hb.block _ (by omega)).trans h4, (hb.block _ (by omega)).trans h5⟩
  case v6 =>
    rw [← hvars]
    intro v hv
    exact mbs_lt (n := 6) (by have := vmK_lt hvs (Fm.enc t).length (Nat.le_refl _); unfold vm; exact this) hv
  case vl =>
    rw [← hvars]
    exact mbs_length6 (n := 6) (by have := vmK_lt hvs (Fm.enc t).length (Nat.le_refl _); unfold vm; exact this) (by omega)
  case ul =>
    rw [← hUU]
    exact Nat.le_trans (upK_len _ _) (Nat.le_trans (Nat.pow_le_pow_right (by omega) h8) (by decide))
  case good =>
    rw [← hUU]
    refine fs_good (P := fun m => m < 2 ^ A.length) (fun u hu => (upK_mem hu).1) vars _ (lf_len _) (fun m hm => ?_)
    unfold lf at hm
    obtain ⟨i, _, rfl⟩ := List.mem_map.1 hm
    exact Nat.pow_pos (by omega)
  case done =>
    rintro D xs W hD rfl ⟨hall, hg⟩ hK
    have hW3 : Grew w0 W := hg6w.trans hg
    have B3 := Lib.hid ((hW3.block (by have := HG0.out.2; omega)).trans HB.out.1)
    have B4 := Lib.hid ((hW3.block (by have := HG0.out.2; omega)).trans HB.out.2.1)
    have B5 := Lib.hid ((hW3.block (by have := HG0.out.2; omega)).trans HB.out.2.2)
    have d3 : W.cell? ⟨w.heap.size + 1 + 1, 0, none⟩ = some (.slice none 0 0) := by rw [blk_cell B3.out]; rfl
    have d4 : W.cell? ⟨w.heap.size + 1 + 1 + 1, 0, none⟩ = some (.int .i64 0) := by rw [blk_cell B4.out]; rfl
    have d5 : W.cell? ⟨w.heap.size + 1 + 1 + 1 + 1, 0, none⟩ = some (.bool false) := by rw [blk_cell B5.out]; rfl
    have f3 := blk_frozen B3.out 0
    have f4 := blk_frozen B4.out 0
    have f5 := blk_frozen B5.out 0
    go_wp2_with fail
    have hkk : KeepsOthers W (((W.setCell ⟨w.heap.size + 1 + 1, 0, none⟩ (.slice none 0 0)).setCell ⟨w.heap.size + 1 + 1 + 1, 0, none⟩ (.int .i64 0)).setCell ⟨w.heap.size + 1 + 1 + 1 + 1, 0, none⟩ (.bool false)) := ((KeepsOthers.setCell _ _ _).trans (KeepsOthers.setCell _ _ _)).trans (KeepsOthers.setCell _ _ _)
    have hK2 := hkk.same _ _ hK rfl
    have b3 : (((W.setCell ⟨w.heap.size + 1 + 1, 0, none⟩ (.slice none 0 0)).setCell ⟨w.heap.size + 1 + 1 + 1, 0, none⟩ (.int .i64 0)).setCell ⟨w.heap.size + 1 + 1 + 1 + 1, 0, none⟩ (.bool false)).heap[w.heap.size + 1 + 1]? = some (.cells #[.slice none 0 0] 24 (0, 0)) := (Below.heap_setCell _ _ _ _ (by show w.heap.size + 1 + 1 ≠ w.heap.size + 1 + 1 + 1 + 1; omega)).trans ((Below.heap_setCell _ _ _ _ (by show w.heap.size + 1 + 1 ≠ w.heap.size + 1 + 1 + 1; omega)).trans (blk_set B3.out 0 _))
    have b4 : (((W.setCell ⟨w.heap.size + 1 + 1, 0, none⟩ (.slice none 0 0)).setCell ⟨w.heap.size + 1 + 1 + 1, 0, none⟩ (.int .i64 0)).setCell ⟨w.heap.size + 1 + 1 + 1 + 1, 0, none⟩ (.bool false)).heap[w.heap.size + 1 + 1 + 1]? = some (.cells #[.int .i64 0] 2 (0, 0)) := (Below.heap_setCell _ _ _ _ (by show w.heap.size + 1 + 1 + 1 ≠ w.heap.size + 1 + 1 + 1 + 1; omega)).trans (blk_set ((Below.heap_setCell _ _ _ _ (by show w.heap.size + 1 + 1 + 1 ≠ w.heap.size + 1 + 1; omega)).trans B4.out) 0 _)
    have b5 : (((W.setCell ⟨w.heap.size + 1 + 1, 0, none⟩ (.slice none 0 0)).setCell ⟨w.heap.size + 1 + 1 + 1, 0, none⟩ (.int .i64 0)).setCell ⟨w.heap.size + 1 + 1 + 1 + 1, 0, none⟩ (.bool false)).heap[w.heap.size + 1 + 1 + 1 + 1]? = some (.cells #[.bool false] 4 (0, 0)) := blk_set ((Below.heap_setCell _ _ _ _ (by show w.heap.size + 1 + 1 + 1 + 1 ≠ w.heap.size + 1 + 1 + 1; omega)).trans ((Below.heap_setCell _ _ _ _ (by show w.heap.size + 1 + 1 + 1 + 1 ≠ w.heap.size + 1 + 1; omega)).trans B5.out)) 0 _
    have hbl : Below w.heap.size w (((W.setCell ⟨w.heap.size + 1 + 1, 0, none⟩ (.slice none 0 0)).setCell ⟨w.heap.size + 1 + 1 + 1, 0, none⟩ (.int .i64 0)).setCell ⟨w.heap.size + 1 + 1 + 1 + 1, 0, none⟩ (.bool false)) :=
      (((HG0.out.1.trans hW3).below.setCell (p := ⟨w.heap.size + 1 + 1, 0, none⟩) (by show w.heap.size ≤ w.heap.size + 1 + 1; omega) _).setCell (p := ⟨w.heap.size + 1 + 1 + 1, 0, none⟩) (by show w.heap.size ≤ w.heap.size + 1 + 1 + 1; omega) _).setCell (p := ⟨w.heap.size + 1 + 1 + 1 + 1, 0, none⟩) (by show w.heap.size ≤ w.heap.size + 1 + 1 + 1 + 1; omega) _
    generalize (((W.setCell ⟨w.heap.size + 1 + 1, 0, none⟩ (.slice none 0 0)).setCell ⟨w.heap.size + 1 + 1 + 1, 0, none⟩ (.int .i64 0)).setCell ⟨w.heap.size + 1 + 1 + 1 + 1, 0, none⟩ (.bool false)) = wz at *
    have hbad : badV A U vars t = false := by
      unfold badV
      rw [List.any_eq_false]
      intro x hx
      simp [hall x hx]
    rw [hUU, hvars, hbad]
    have hD2 : ∀ k, k < w.heap.size + 5 → k ≠ D := fun k hk => by have := HG0.out.2; have := hg6w.size; omega
    refine ⟨by simp, .inl ⟨_, _, rfl, run_takeDeferred hK2, ?_⟩⟩
    refine ⟨_, results_cell3 rfl _ _ ⟨w.heap.size + 1 + 1, 0, none⟩ ⟨w.heap.size + 1 + 1 + 1, 0, none⟩ ⟨w.heap.size + 1 + 1 + 1 + 1, 0, none⟩ _ _ _ rfl rfl rfl
      (loadVar_one _ _ _ _ _ _ ((World.putObj_heap_other (hD2 _ (by omega))).trans b3) Tryz.underlying24 rfl)
      (loadVar_one _ _ _ _ _ _ ((World.putObj_heap_other (hD2 _ (by omega))).trans b4) Tryz.underlying2 rfl)
      (loadVar_one _ _ _ _ _ _ ((World.putObj_heap_other (hD2 _ (by omega))).trans b5) Tryz.underlying4 rfl), _, _, rfl, ?_⟩
    exact Below.trans hbl (below_putObj _ (by have := HG0.out.2; have := hg6w.size; omega) hK2)
  case stop =>
    rintro D pre W hD hpre ⟨⟨x, hx, hne⟩, hb, u, m, b3, b4, b5⟩ hK
    refine wpIn_wide.2 ?_
    go_wp2_with fail
    have hbad : badV A U vars t = true := by
      unfold badV
      rw [List.any_eq_true]
      exact ⟨x, hpre.subset hx, by simp [hne]⟩
    rw [hUU, hvars, hbad]
    have hD2 : ∀ k, k < w.heap.size + 5 → k ≠ D := fun k hk => by have := HG0.out.2; have := hg6w.size; omega
    refine ⟨by simp, .inl ⟨_, _, rfl, run_takeDeferred hK, ?_⟩⟩
    refine ⟨_, results_cell3 rfl _ _ ⟨w.heap.size + 1 + 1, 0, none⟩ ⟨w.heap.size + 1 + 1 + 1, 0, none⟩ ⟨w.heap.size + 1 + 1 + 1 + 1, 0, none⟩ _ _ _ rfl rfl rfl
      (loadVar_one _ _ _ _ _ _ ((World.putObj_heap_other (hD2 _ (by omega))).trans b3) Tryz.underlying24 rfl)
      (loadVar_one _ _ _ _ _ _ ((World.putObj_heap_other (hD2 _ (by omega))).trans b4) Tryz.underlying2 rfl)
      (loadVar_one _ _ _ _ _ _ ((World.putObj_heap_other (hD2 _ (by omega))).trans b5) Tryz.underlying4 rfl), _, _, rfl, ?_⟩
    have h06 : Below w.heap.size w w6 := (HG0.out.1.trans hg6w)
    exact Below.trans (Below.trans h06 hb) (below_putObj _ (by have := HG0.out.2; have := hg6w.size; omega) hK)

theorem isValid_c (v va : Value) (A : List Nat) (t : Tree) (w : World) (h : Ints w v (zs A)) (ha : Nodes w va (Fm.enc t)) (hA : Rl A) (h8 : A.length ≤ 8) (ht : FmOk t) (hvs : Vs (Fm.enc t)) (hn : (Fm.enc t).length ≤ 1048576) :
    Calls Tryz.prog 23 #[.agg #[.int .i64 (A.length : Int), v], va] w fun e w' => e = .returned (.bool (!badV A (upK A (2 ^ A.length)) (mbs (vm (Fm.enc t))) t)) ∧ Grew w w' := by
  have HU := Lib.hid (fun W (hW : Grew w W) => unforced_c v va A t W (h.grew hW) (ha.grew hW) hA h8 ht hvs hn)
  obtain ⟨A1, c1, rfl⟩ := ints_sliceN h
  obtain ⟨A2, c2, rfl⟩ := nodes_slice ha
  have HG := Lib.hid ((Grew.refl w).alloc (.cells #[.int .i64 (A.length : Int), .slice A1 A.length c1] 26))
  clear h ha hA ht hvs
  generalize badV A (upK A (2 ^ A.length)) (mbs (vm (Fm.enc t))) t = q at *
  generalize A.length = n at *
  generalize (Fm.enc t).length = m at *
  go_enter Tryz.func23, Tryz.ntmps23
  go_wp2_with fail
  refine (HU.out _ HG.out).mono ?_
  rintro e w1 ⟨u, k, rfl, hg1⟩
  go_wp2_with fail
  go_ret
  exact ⟨rfl, HG.out.trans hg1⟩
end Go.Proofs.YtmcbjekianclpaaGreat

/- permutations, leastRelation. -/
namespace Go.Proofs.YtmcbjekianclpaaGreat
open Go.RowKit

set_option maxHeartbeats 1000000 in
theorem permutations_c {w0 : World} {A b : List Nat} {bA bB : Nat} {va vb : Value} (hva : Ints w0 va (zs A)) (hA : Rl A) (hn : A.length ≤ 6) (ha0 : w0.heap.size ≤ bA) (hb0 : w0.heap.size ≤ bB) (hab : bA ≠ bB) {W : World} (hg : Grew w0 W)
    (hAc : W.heap[bA]? = some (.cells #[va] 24 (0, 0))) (hBc : W.heap[bB]? = some (.cells #[vb] 24 (0, 0))) (hbest : OwnI W w0.heap.size vb (zs b)) (hl : b.length = A.length) :
    Calls Tryz.prog 87 #[.int .i64 (A.length : Int), .func (.func 88) #[] #[.pointer (some ⟨bA, 0, none⟩), .pointer (some ⟨bB, 0, none⟩)]] W fun e W' =>
      (∃ v, e = .returned v) ∧ ∃ vb', Grew w0 W' ∧ W'.heap[bB]? = some (.cells #[vb'] 24 (0, 0)) ∧ OwnI W' w0.heap.size vb' (zs ((dfs A.length A.length []).foldl (lstep A) b)) := by
  have hmk := fun W => run_make_room (P := Tryz.prog) 24 2 (.int .i64 0) 8 Tryz.underlying24 Tryz.infoI rfl .i64 .i64 A.length (by omega) (by omega) W
  have HMZ := Lib.hid (size_madeCells #[Value.int .i64 0] A.length)
  have HG := Lib.hid (fun X bN bF bO bG Bo vO (hX : GS w0 A bA bB bN bF bO bG Bo va _ _ X [] vO b vb) hx => search_c hva hA hn hx rfl rfl A.length [] b vO vb 0 X hX (by simp) List.nodup_nil (by simp) (by simp) (by omega))
  have hsz := hg.size
  have hl1 := blk_ltM hAc
  have hl2 := blk_ltM hBc
  have HAA := Lib.hid (And.intro hAc (And.intro hBc (And.intro hbest (And.intro hg (And.intro hl (And.intro ha0 (And.intro hb0 hab)))))))
  clear hAc hBc hbest hg hl ha0 hb0 hab hva hA
  generalize hnn : A.length = n at *
  have HN := Lib.hid hnn
  clear hnn
  generalize madeCells #[Value.int .i64 0] n = cur0 at *
  generalize A = A0 at *
  go_enter Tryz.func87, Tryz.ntmps87
  go_wp2_with fail
  obtain ⟨hAc, hBc, hbest, hg, hl, ha0, hb0, hab⟩ := HAA.out
  refine Calls.mono (HG.out _ _ _ _ _ (W.heap.size + 1 + 1) (.slice (some ⟨W.heap.size + 1 + 1, 0, none⟩) 0 n) ?_ ?_) ?_
  · obtain ⟨g5, s5, b1, b2, b3, b4, b5⟩ := alloc5 W _ _ _ _ _ _ rfl
    have hown := OwnI.mk_ (L := []) (Nat.le_refl (W.heap.size + 1 + 1)) b3 (by simp) (by omega) HMZ.out (fun i hi => absurd hi (by simp))
    refine ⟨hg.trans g5, (g5.block hl1).trans hAc, (g5.block hl2).trans hBc, by rw [HN.out]; exact b1, b2, b4, b5, hown, hbest.grew g5, fun g hgg he => ?_, by rw [HN.out]; exact hl⟩
    have h1 := own_of_ge hown hgg
    have h2 := (hbest.lt g he).2
    omega
  · constructor <;> first | omega | exact hab
  rintro e w9 ⟨⟨v9, rfl⟩, vO9, vb9, h9⟩
  have H9 := Lib.hid h9
  clear h9
  go_wp2_with fail
  go_end0
  exact ⟨⟨_, rfl⟩, _, H9.out.grew, H9.out.hB, H9.out.best⟩

set_option maxHeartbeats 1000000 in
theorem leastRelation_c (v : Value) (A : List Nat) (w : World) (h : Ints w v (zs A)) (hA : Rl A) (hn : A.length ≤ 6) :
    Calls Tryz.prog 67 #[v] w (GivesI w (zs (lst A))) := by
  have HC := Lib.hid (fun W (hW : Grew w W) => cloneR_c v (zs A) W (h.grew hW) (by rw [zs_len]; omega))
  have HP := Lib.hid (fun (W : World) (bA bB : Nat) (vb : Value) ha0 hb0 hab (hg : Grew w W) h1 h2 h3 => permutations_c (W := W) (bA := bA) (bB := bB) (vb := vb) (b := A) h hA hn ha0 hb0 hab hg h1 h2 h3 rfl)
  have HL : Hid ((dfs A.length A.length []).foldl (lstep A) A = lst A) := Lib.hid (by rw [dfs_all]; rfl)
  obtain ⟨A1, c1, rfl⟩ := ints_sliceN h
  have KS := Lib.hid (fun (X : World) => sizeI_q A1 A.length c1 (by omega) X)
  clear h hA hn
  generalize A.length = n at *
  go_enter Tryz.func67, Tryz.ntmps67
  go_wp2_with fail
  refine (HC.out _ ((Grew.refl w).alloc _)).mono ?_
  rintro e w2 ⟨v2, rfl, hO2, hg2⟩
  obtain ⟨A2, n2, rfl⟩ := ints_sliceN hO2.ints
  have HB2 := Lib.hid ((hg2.block (k := w.heap.size) (by simp)).trans (blk_new w (.cells #[.slice A1 n c1] 24)))
  have k1 : ∀ X, Grew w2 X → X.cell? ⟨w.heap.size, 0, none⟩ = some (.slice A1 n c1) := fun X hX => by rw [blk_cell ((hX.block (blk_ltM HB2.out)).trans HB2.out)]; rfl
  have hsz : w.heap.size + 1 ≤ w2.heap.size := by have := hg2.size; simpa using this
  have HG2 := Lib.hid (((Grew.refl w).alloc (.cells #[.slice A1 n c1] 24)).trans hg2)
  generalize hvs : A.length = n2' at *
  have HO2 := Lib.hid (hO2.base (B' := w.heap.size) (by simp))
  clear hO2
  have r3 := (Grew.refl w2).alloc (.cells #[.slice A2 n2' n2] 24)
  have r4 := Grew.refl w2
  go_wp2_with fail
  refine (KS.out _).mono ?_
  rintro e w3 ⟨rfl, rfl⟩
  go_wp2_with fail
  refine Calls.mono (HP.out _ w.heap.size w2.heap.size (.slice A2 n2' n2) (Nat.le_refl _) (by omega) (by omega) (HG2.out.alloc _) ?_ ?_ ?_) ?_
  · exact (((Grew.refl w2).alloc _).block (blk_ltM HB2.out)).trans HB2.out
  · exact blk_new w2 _
  · exact HO2.out.grew ((Grew.refl w2).alloc _)
  rintro e w4 ⟨⟨v4, rfl⟩, vb, hg4, hb4, hO4⟩
  have k4 : w4.cell? ⟨w2.heap.size, 0, none⟩ = some vb := by rw [blk_cell hb4]; rfl
  have HO4 := Lib.hid hO4
  clear hO4
  go_wp2_with fail
  go_ret
  exact ⟨_, rfl, by rw [← HL.out]; exact HO4.out, hg4⟩
end Go.Proofs.YtmcbjekianclpaaGreat

/- The library's sort, laid at this program's instantiation (rows of rows); names of functions filled in by marks. -/
namespace Go.Proofs.YtmcbjekianclpaaGreat
open Go.RowKit

def laySortR : Go.Shelf.Ren := ⟨fun | 6 => 91 | 15 => 123 | 14 => 122 | 28 => 137 | 29 => 138 | 20 => 129 | 21 => 130 | 22 => 131 | 23 => 132 | 24 => 133 | 25 => 134 | 26 => 135 | 27 => 136 | 46 => 140 | 47 => 141 | 48 => 142 | 49 => 143 | 50 => 144 | 57 => 145 | n => n, fun | 22 => 52 | 24 => 24 | 25 => 93 | 3 => 3 | 39 => 107 | 0 => 0 | 53 => 119 | 55 => 66 | 4 => 4 | 46 => 112 | 45 => 111 | 50 => 116 | 5 => 5 | 9 => 9 | 66 => 120 | 70 => 124 | 76 => 126 | 77 => 127 | n => n, fun | n => n⟩
theorem laySort : Go.Proofs.SlLaysF.n6 Tryz.prog laySortR where
  mixed := by kernel_rfl
  f6 := ⟨ "slices.SortFunc[[][]int64,[]int64]", by decide, Tryz.func91.trans (congrArg some (by kernel_rfl))⟩
  f14 := ⟨ "slices.pdqsortCmpFunc[[]int64]", by decide, Tryz.func122.trans (congrArg some (by kernel_rfl))⟩
  f15 := Tryz.func123.trans (congrArg some (by kernel_rfl))
  f20 := ⟨ "slices.insertionSortCmpFunc[[]int64]", by decide, Tryz.func129.trans (congrArg some (by kernel_rfl))⟩
  f21 := ⟨ "slices.heapSortCmpFunc[[]int64]", by decide, Tryz.func130.trans (congrArg some (by kernel_rfl))⟩
  f22 := ⟨ "slices.breakPatternsCmpFunc[[]int64]", by decide, Tryz.func131.trans (congrArg some (by kernel_rfl))⟩
  f23 := ⟨ "slices.choosePivotCmpFunc[[]int64]", by decide, Tryz.func132.trans (congrArg some (by kernel_rfl))⟩
  f24 := ⟨ "slices.reverseRangeCmpFunc[[]int64]", by decide, Tryz.func133.trans (congrArg some (by kernel_rfl))⟩
  f25 := ⟨ "slices.partialInsertionSortCmpFunc[[]int64]", by decide, Tryz.func134.trans (congrArg some (by kernel_rfl))⟩
  f26 := ⟨ "slices.partitionEqualCmpFunc[[]int64]", by decide, Tryz.func135.trans (congrArg some (by kernel_rfl))⟩
  f27 := ⟨ "slices.partitionCmpFunc[[]int64]", by decide, Tryz.func136.trans (congrArg some (by kernel_rfl))⟩
  f28 := Tryz.func137.trans (congrArg some (by kernel_rfl))
  f29 := Tryz.func138.trans (congrArg some (by kernel_rfl))
  f46 := ⟨ "slices.siftDownCmpFunc[[]int64]", by decide, Tryz.func140.trans (congrArg some (by kernel_rfl))⟩
  f47 := Tryz.func141.trans (congrArg some (by kernel_rfl))
  f48 := Tryz.func142.trans (congrArg some (by kernel_rfl))
  f49 := ⟨ "slices.medianAdjacentCmpFunc[[]int64]", by decide, Tryz.func143.trans (congrArg some (by kernel_rfl))⟩
  f50 := ⟨ "slices.medianCmpFunc[[]int64]", by decide, Tryz.func144.trans (congrArg some (by kernel_rfl))⟩
  f57 := ⟨ "slices.order2CmpFunc[[]int64]", by decide, Tryz.func145.trans (congrArg some (by kernel_rfl))⟩
  t0 := Tryz.underlying0
  a0 := Tryz.isAgg0
  z0 := Tryz.sizeOf0
  v0 := Tryz.zeroValue0
  t3 := Tryz.underlying3
  a3 := Tryz.isAgg3
  z3 := Tryz.sizeOf3
  v3 := Tryz.zeroValue3
  t4 := Tryz.underlying4
  a4 := Tryz.isAgg4
  z4 := Tryz.sizeOf4
  v4 := Tryz.zeroValue4
  t5 := Tryz.underlying5
  a5 := Tryz.isAgg5
  z5 := Tryz.sizeOf5
  v5 := Tryz.zeroValue5
  t9 := Tryz.underlying9
  a9 := Tryz.isAgg9
  z9 := Tryz.sizeOf9
  v9 := Tryz.zeroValue9
  t22 := Tryz.underlying52
  a22 := Tryz.isAgg52
  z22 := Tryz.sizeOf52
  v22 := Tryz.zeroValue52
  a24 := Tryz.isAgg24
  z24 := Tryz.sizeOf24
  t25 := Tryz.underlying93
  a25 := Tryz.isAgg93
  z25 := Tryz.sizeOf93
  v25 := Tryz.zeroValue93
  t39 := Tryz.underlying107
  a39 := Tryz.isAgg107
  z39 := Tryz.sizeOf107
  v39 := Tryz.zeroValue107
  t45 := Tryz.underlying111
  a45 := Tryz.isAgg111
  z45 := Tryz.sizeOf111
  v45 := Tryz.zeroValue111
  t46 := Tryz.underlying112
  a46 := Tryz.isAgg112
  z46 := Tryz.sizeOf112
  v46 := Tryz.zeroValue112
  t50 := Tryz.underlying116
  a50 := Tryz.isAgg116
  z50 := Tryz.sizeOf116
  v50 := Tryz.zeroValue116
  t53 := Tryz.underlying119
  a53 := Tryz.isAgg119
  z53 := Tryz.sizeOf119
  v53 := Tryz.zeroValue119
  t55 := Tryz.underlying66
  a55 := Tryz.isAgg66
  z55 := Tryz.sizeOf66
  v55 := Tryz.zeroValue66
  t66 := Tryz.underlying120
  a66 := Tryz.isAgg120
  z66 := Tryz.sizeOf120
  v66 := Tryz.zeroValue120
  t70 := Tryz.underlying124
  a70 := Tryz.isAgg124
  z70 := Tryz.sizeOf124
  v70 := Tryz.zeroValue124
  t76 := Tryz.underlying126
  a76 := Tryz.isAgg126
  z76 := Tryz.sizeOf126
  v76 := Tryz.zeroValue126
  t77 := Tryz.underlying127
  a77 := Tryz.isAgg127
  z77 := Tryz.sizeOf127
  v77 := Tryz.zeroValue127
end Go.Proofs.YtmcbjekianclpaaGreat

/- The library's sort at rows of rows. -/
namespace Go.Proofs.YtmcbjekianclpaaGreat
open Go.Shelf Go.RowKit Go.Lib Go.Sort

theorem heap_sortedE {α : Type} [Inhabited α] (enc : α → Value) {w : World} {g n : Nat} {os : Array Obj} {cur : Array Value} {e : TypeId} {fr : Nat × Nat} (d : Array α) (hb : w.heap[g]? = some (.cells cur e fr)) :
    (sortWorld enc w g 0 n d os).heap[g]? = some (.cells (putCells enc 0 d cur) e fr) := by
  have hg : g < w.heap.size := (Array.getElem?_eq_some_iff.1 hb).1
  unfold sortWorld
  rw [heap_grow_old _ _ (by simpa [putRow, mapBlock, Sort.ahead] using hg)]
  simp [putRow, mapBlock, Sort.ahead, Array.getElem?_modify, hb, onCells]
theorem grown_sortedE {α : Type} [Inhabited α] (enc : α → Value) {w : World} {g n : Nat} {os : Array Obj} (d : Array α) : Only g w (sortWorld enc w g 0 n d os) := by
  refine ⟨rfl, rfl, rfl, by simp [sortWorld, grow, putRow, mapBlock, Sort.ahead], fun k hk hne => ?_⟩
  unfold sortWorld
  rw [heap_grow_old _ _ (by simpa [putRow, mapBlock, Sort.ahead] using hk)]
  have : g ≠ k := fun e => hne (by rw [e])
  simp [putRow, mapBlock, Sort.ahead, Array.getElem?_modify, this]
theorem take_putE {α : Type} [Inhabited α] (enc : α → Value) (cur : Array Value) (ts : List α) (h : ts.length ≤ cur.size) : (putCells enc 0 ts.toArray cur).toList.take ts.length = ts.map enc := by
  apply List.ext_getElem?
  intro j
  by_cases hj : j < ts.length
  · rw [List.getElem?_take_of_lt hj, Array.getElem?_toList]
    simp [putCells, hj, show j < cur.size by omega]
  · rw [List.getElem?_take_eq_none (by omega), List.getElem?_eq_none (by simp; omega)]

theorem sort_c (w : World) (B n : Nat) (v : Value) (Ls : List (List Nat)) (hO : OwnU w B v (zss Ls)) (hL : ∀ L ∈ Ls, L.length = n) (h0 : 0 < Ls.length) (hsz : Ls.length ≤ 1048576) :
    Calls Tryz.prog 91 #[v, .func (.func 90) #[] #[]] w fun e w' => e = .returned (.tuple #[]) ∧ ∃ g Ks, v.ownBlock = some g ∧ B ≤ g ∧ Only g w w' ∧ OwnU w' B v (zss Ks) ∧ Ks.Perm Ls ∧ AscD Ks := by
  obtain ⟨us, h1, h2, h3⟩ := hO
  rw [zss_len] at h1 h2 h3
  rcases h2.2 with ⟨_, h5⟩ | ⟨g, cap, cur, rfl, hb, hg, hnc, hcm, hcs, ht⟩
  · omega
  rw [Nat.mul_one] at ht hcs
  have hP : ∀ j, j < Ls.length → (OwnI w B (us.getD j (.bool false)) (zs (Ls.getD j [])) ∧ (Ls.getD j []).length = n) := fun j hj => ⟨by have := h3 j hj; rwa [zss_get hj] at this, hL _ (by simp [List.getD, hj])⟩
  obtain ⟨ds, e1, e2⟩ := rows_exist (p := fun u L => OwnI w B u (zs L) ∧ L.length = n) us Ls h1 hP
  have hdl : ds.length = Ls.length := by rw [← e2]; simp
  haveI : Inhabited {q : Value × List Nat // OwnI w B q.1 (zs q.2) ∧ q.2.length = n} := ⟨ds[0]'(by omega)⟩
  have hne : ∀ x : {q : Value × List Nat // OwnI w B q.1 (zs q.2) ∧ q.2.length = n}, x.1.1.ownBlock ≠ some g := fun x => own_ne x.2.1 hg (by decide : (2 : TypeId) ≠ 24)
  have hoc : OneCell (fun x : {q : Value × List Nat // OwnI w B q.1 (zs q.2) ∧ q.2.length = n} => x.1.1) := fun x => by
    obtain ⟨A, c, hx⟩ := ints_sliceN x.2.1.ints
    show (x.1.1).oneCell' = true
    rw [hx]
    rfl
  have hswo : SWO (ltOf (fun x y : {q : Value × List Nat // OwnI w B q.1 (zs q.2) ∧ q.2.length = n} => cmpL x.1.2 y.1.2)) :=
    ⟨fun x => lessL_irr x.1.2, fun x y z h k => lessL_trans h k, fun x y z h k => lessL_ntrans h k⟩
  have eg : ∀ args w, (callFunc 90 args).run Tryz.prog w = .ok (.enter 90 args) w := enters_of Tryz.func90 (by kernel_rfl) rfl
  have hcmp : CmpReads Tryz.prog 90 #[] (fun x : {q : Value × List Nat // OwnI w B q.1 (zs q.2) ∧ q.2.length = n} => x.1.1) (fun x y => cmpL x.1.2 y.1.2) g 0 ds.toArray.size w := fun m os dk _ x y =>
    (slicesCompare_c x.1.1 y.1.1 x.1.2 y.1.2 _ (OwnI.ints (own_only x.2.1 (grown_sortedE _ dk) (hne x))) (OwnI.ints (own_only y.2.1 (grown_sortedE _ dk) (hne y)))).mono fun e w' h => ⟨h.1, 0, h.2⟩
  have hH : Holds (fun x : {q : Value × List Nat // OwnI w B q.1 (zs q.2) ∧ q.2.length = n} => x.1.1) w g 0 ds.toArray := fun j hj => by
    have hj' : j < ds.length := by simpa using hj
    refine ⟨?_, blk_frozen hg _⟩
    rw [blk_cell hg, Nat.zero_add]
    have h4 : (cur.toList.take Ls.length)[j]? = us[j]? := by rw [ht]
    rw [List.getElem?_take_of_lt (by omega), Array.getElem?_toList] at h4
    rw [h4, ← e1]
    simp [hj']
  have hcon := Any.slices_SortFunc laySort (fun x : {q : Value × List Nat // OwnI w B q.1 (zs q.2) ∧ q.2.length = n} => x.1.1) hoc (fun x y => cmpL x.1.2 y.1.2) hswo 90 #[] g 0 cap ds.toArray w eg hcmp.lays hH (blk_lt hg) (by simp; omega)
  rw [show ds.toArray.size = Ls.length by simp [hdl]] at hcon
  refine Calls.mono hcon ?_
  rintro e w' ⟨rfl, d', nn, os, hp, hs, rfl⟩
  rw [show Ls.length = ds.toArray.size by simp [hdl]] at hp hs
  have hpm := perm_of_in hp
  have hl' : d'.toList.length = Ls.length := by rw [hpm.length_eq]; simp [hdl]
  refine ⟨rfl, g, d'.toList.map (fun q => q.1.2), rfl, hb, grown_sortedE _ d', ?_, ?_, ?_⟩
  · have hz : (zss (d'.toList.map (fun q => q.1.2))).length = Ls.length := by rw [zss_len, List.length_map, hl']
    refine ⟨d'.toList.map (fun q => q.1.1), by rw [hz, List.length_map, hl'], ?_, fun j hj => ?_⟩
    · rw [hz]
      refine ⟨by rw [List.length_map, hl', Nat.mul_one], .inr ⟨g, cap, _, rfl, hb, heap_sortedE _ d' hg, hnc, hcm, by simp [putCells, hcs], ?_⟩⟩
      have := take_putE (fun x : {q : Value × List Nat // OwnI w B q.1 (zs q.2) ∧ q.2.length = n} => x.1.1) cur d'.toList (by omega)
      rw [hl'] at this
      rw [Nat.mul_one]
      simpa using this
    · rw [hz] at hj
      have hj' : j < d'.toList.length := by omega
      have hx := (d'.toList[j]).2.1
      rw [zss_get (by rw [List.length_map]; exact hj')]
      have hk := own_only hx (grown_sortedE (n := nn) (os := os) (fun x : {q : Value × List Nat // OwnI w B q.1 (zs q.2) ∧ q.2.length = n} => x.1.1) d') (hne _)
      have q1 : (d'.toList.map (fun q => q.1.1)).getD j (.bool false) = (d'.toList[j]).1.1 := by simp only [List.getD, List.getElem?_map, List.getElem?_eq_getElem hj']; rfl
      have q2 : (d'.toList.map (fun q => q.1.2)).getD j [] = (d'.toList[j]).1.2 := by simp only [List.getD, List.getElem?_map, List.getElem?_eq_getElem hj']; rfl
      rw [q1, q2]
      exact hk
  · have := hpm.map (fun q => q.1.2)
    rw [← e2]
    simpa using this
  · have h5 := pairs_of_in (by rw [hp.1]) hs
    unfold AscD
    rw [List.pairwise_map]
    exact h5
end Go.Proofs.YtmcbjekianclpaaGreat

/- slices.CompactFunc at rows of rows, with slices.Equal: a sorted row loses its doubles. -/
namespace Go.Proofs.YtmcbjekianclpaaGreat
open Go.RowKit

theorem blk_setCellsK {g : Nat} {t : TypeId} : ∀ (vs : List Value) (o : Nat) (w : World) (cur : Array Value), w.heap[g]? = some (.cells cur t (0, 0)) →
    ∃ cur', (w.setCells g o vs).heap[g]? = some (.cells cur' t (0, 0)) ∧ cur'.size = cur.size ∧ ∀ i, i < o → cur'[i]? = cur[i]?
  | [], _, _, cur, h => ⟨cur, h, rfl, fun _ _ => rfl⟩
  | v :: r, o, w, cur, h => by
    obtain ⟨c', h1, h2, h3⟩ := blk_setCellsK r (o + 1) (w.setCell ⟨g, o, none⟩ v) _ (blk_set h o v)
    refine ⟨c', h1, by rw [h2]; simp, fun i hi => ?_⟩
    rw [h3 i (by omega), Array.getElem?_setIfInBounds, if_neg (by omega)]
theorem only_setCellsK {g : Nat} {a : World} : ∀ (vs : List Value) (o : Nat) (w : World), Only g a w → Only g a (w.setCells g o vs)
  | [], _, _, h => h
  | v :: r, o, w, h => only_setCellsK r (o + 1) _ (h.setCell v)

/-- A row of rows in block g: what its first N cells hold. -/
structure CRow (w wr : World) (g cap N : Nat) (f : Nat → Value × List Nat) : Prop where
  heap : ∃ cur, wr.heap[g]? = some (.cells cur 24 (0, 0)) ∧ cur.size = cap ∧ ∀ i, i < N → cur[i]? = some (f i).1
  only : Only g w wr
theorem CRow.cell {w wr : World} {g cap N i : Nat} {f : Nat → Value × List Nat} (h : CRow w wr g cap N f) (hi : i < N) : wr.cell? ⟨g, i, none⟩ = some (f i).1 := by
  obtain ⟨cur, h1, h2, h3⟩ := h.heap
  rw [blk_cell h1, h3 i hi]
theorem CRow.free {w wr : World} {g cap N : Nat} {f : Nat → Value × List Nat} (h : CRow w wr g cap N f) (i : Nat) : wr.frozen? ⟨g, i, none⟩ = false := by
  obtain ⟨cur, h1, _⟩ := h.heap
  exact blk_frozen h1 i
theorem CRow.lt {w wr : World} {g cap N : Nat} {f : Nat → Value × List Nat} (h : CRow w wr g cap N f) : g < wr.heap.size := by
  obtain ⟨cur, h1, _⟩ := h.heap
  exact blk_lt h1
theorem CRow.grew {w wr wr' : World} {g cap N : Nat} {f : Nat → Value × List Nat} (h : CRow w wr g cap N f) (hg : Grew wr wr') : CRow w wr' g cap N f := by
  have hl := h.lt
  obtain ⟨cur, h1, h2, h3⟩ := h.heap
  exact ⟨⟨cur, (hg.block hl).trans h1, h2, h3⟩, h.only.grew hg⟩
theorem CRow.set {w wr : World} {g cap N i : Nat} {f : Nat → Value × List Nat} (h : CRow w wr g cap N f) (hi : i < N) (x : Value × List Nat) : CRow w (wr.setCell ⟨g, i, none⟩ x.1) g cap N (fun q => if q = i then x else f q) := by
  obtain ⟨cur, h1, h2, h3⟩ := h.heap
  refine ⟨⟨_, blk_set h1 i x.1, by simp [h2], fun j hj => ?_⟩, h.only.setCell _⟩
  have hlt : i < cur.size := (Array.getElem?_eq_some_iff.1 (h3 i hi)).1
  by_cases hij : j = i
  · subst hij
    simp [hlt]
  · rw [Array.getElem?_setIfInBounds, if_neg (Ne.symm hij), h3 j hj]
    simp [hij]
/-- Each row of the first N lies in a block of its own. -/
def Rws (w : World) (B n N : Nat) (f : Nat → Value × List Nat) : Prop := ∀ i, i < N → OwnI w B (f i).1 (zs (f i).2) ∧ (f i).2.length = n
theorem CRow.ownU {w wr : World} {B g cap n N K : Nat} {f : Nat → Value × List Nat} (h : CRow w wr g cap N f) (hB : B ≤ g) (hf : Rws w B n N f) (hg : ∃ cur, w.heap[g]? = some (.cells cur 24 (0, 0))) (hK : K ≤ N) (hN : N ≤ cap) (hc : cap ≤ maxLen) :
    OwnU wr B (.slice (some ⟨g, 0, none⟩) K cap) (zss (rws f K)) := by
  obtain ⟨cur, h1, h2, h3⟩ := h.heap
  obtain ⟨cur0, h0⟩ := hg
  have hz : (zss (rws f K)).length = K := by rw [zss_len, rws_len]
  refine ⟨(List.range K).map fun i => (f i).1, by rw [hz]; simp, ?_, fun j hj => ?_⟩
  · rw [hz]
    refine ⟨by simp, .inr ⟨g, cap, cur, rfl, hB, h1, by omega, hc, by omega, ?_⟩⟩
    apply List.ext_getElem?
    intro j
    rw [Nat.mul_one]
    by_cases hj : j < K
    · rw [List.getElem?_take_of_lt hj, Array.getElem?_toList, h3 j (by omega)]
      simp [hj]
    · rw [List.getElem?_take_eq_none (by omega), List.getElem?_eq_none (by simp; omega)]
  · rw [hz] at hj
    rw [zss_get (by rw [rws_len]; exact hj), rws_get hj]
    have e : ((List.range K).map fun i => (f i).1).getD j (.bool false) = (f j).1 := by simp [List.getD, hj]
    rw [e]
    have ho := (hf j (by omega)).1
    exact own_only ho h.only (own_ne ho h0 (by decide : (2 : TypeId) ≠ 24))
/-- A row of rows, opened. -/
theorem OwnU.open_ {w : World} {B n : Nat} {v : Value} {Ls : List (List Nat)} (hO : OwnU w B v (zss Ls)) (hL : ∀ L ∈ Ls, L.length = n) (h0 : 0 < Ls.length) :
    ∃ g cap f, v = .slice (some ⟨g, 0, none⟩) Ls.length cap ∧ B ≤ g ∧ CRow w w g cap Ls.length f ∧ Rws w B n Ls.length f ∧ Ls.length ≤ cap ∧ cap ≤ maxLen ∧ rws f Ls.length = Ls := by
  obtain ⟨us, h1, h2, h3⟩ := hO
  rw [zss_len] at h1 h2 h3
  rcases h2.2 with ⟨_, h5⟩ | ⟨g, cap, cur, rfl, hb, hg, hnc, hcm, hcs, ht⟩
  · omega
  rw [Nat.mul_one] at ht hcs
  refine ⟨g, cap, fun i => (us.getD i (.bool false), Ls.getD i []), rfl, hb, ⟨⟨cur, hg, hcs, fun i hi => ?_⟩, Only.refl _ _⟩, fun j hj => ⟨by have := h3 j hj; rwa [zss_get hj] at this, hL _ (by simp [List.getD, hj])⟩, hnc, hcm, ?_⟩
  · have h4 : (cur.toList.take Ls.length)[i]? = us[i]? := by rw [ht]
    rw [List.getElem?_take_of_lt hi, Array.getElem?_toList] at h4
    rw [h4, List.getElem?_eq_getElem (by omega)]
    simp [List.getD, h1, hi]
  · apply List.ext_getElem
    · rw [rws_len]
    · intro i h5 h6
      simp [rws, List.getD, h6]
/-- The state of the pass that moves rows down: kk rows kept of the first m. -/
structure CIn (w wr : World) (g cap N : Nat) (f0 f : Nat → Value × List Nat) (kk m : Nat) : Prop where
  row : CRow w wr g cap N f
  low : kk < m
  high : ∀ j, m - 1 ≤ j → j < N → f j = f0 j
  rows : ∀ j, j < N → ∃ i, i < N ∧ f j = f0 i
  comp : Comp (rws f kk) (rws f0 m)
set_option maxHeartbeats 2000000 in
theorem compact_c (w : World) (B n : Nat) (v : Value) (Ls : List (List Nat)) (hO : OwnU w B v (zss Ls)) (hL : ∀ L ∈ Ls, L.length = n) (hA : AscD Ls) (hsz : Ls.length ≤ 1048576) :
    Calls Tryz.prog 92 #[v, .func (.func 93) #[] #[]] w fun e w' => ∃ u Ks, e = .returned u ∧ OwnU w' B u (zss Ks) ∧ Asc Ks ∧ (∀ x, x ∈ Ks ↔ x ∈ Ls) ∧ Ks.length ≤ Ls.length ∧ (Grew w w' ∨ ∃ g, B ≤ g ∧ Only g w w') := by
  by_cases h2 : Ls.length < 2
  · have hAs : Asc Ls := by
      unfold Asc
      match Ls, h2 with
      | [], _ => exact List.Pairwise.nil
      | [a], _ => exact List.pairwise_singleton _ _
    have HH := Lib.hid (And.intro hO hAs)
    obtain ⟨A1, c1, rfl⟩ := hO.slice
    rw [zss_len] at HH ⊢
    clear hO hL hA hAs
    generalize hNN : Ls.length = N at *
    have h3 : (N : Int) < 2 := by omega
    go_enter Tryz.func92, Tryz.ntmps92
    go_wp2_with fail
    go_ret
    exact ⟨_, Ls, rfl, HH.out.1, HH.out.2, fun _ => Iff.rfl, Nat.le_of_eq hNN, .inl (Grew.refl _)⟩
  obtain ⟨g, cap, f0, rfl, hBg, hC, hR, hnc, hcm, hrw⟩ := hO.open_ hL (by omega)
  obtain ⟨cur0, hh0, _⟩ := hC.heap
  have HNE := Lib.hid (fun i (hi : i < Ls.length) => own_ne (hR i hi).1 hh0 (by decide : (2 : TypeId) ≠ 24))
  have HE := Lib.hid (fun i j (hi : i < Ls.length) (hj : j < Ls.length) W (hW : Only g w W) => equalR_c (f0 i).1 (f0 j).1 (zs (f0 i).2) (zs (f0 j).2) W (OwnI.ints (own_only (hR i hi).1 hW (HNE.out i hi))) (OwnI.ints (own_only (hR j hj).1 hW (HNE.out j hj))) (by rw [zs_len, zs_len, (hR i hi).2, (hR j hj).2]))
  have HZ : Hid (∀ i j, decide (zs (f0 i).2 = zs (f0 j).2) = decide ((f0 i).2 = (f0 j).2)) := Lib.hid (fun i j => by rw [decide_eq_decide]; exact ⟨fun h => zs_inj h, fun h => by rw [h]⟩)
  have HAD : Hid (∀ i, i + 1 < Ls.length → lessL (f0 (i + 1)).2 (f0 i).2 = false) := Lib.hid (fun i hi => by
    have h5 := List.pairwise_iff_getElem.1 hA i (i + 1) (by omega) hi (by omega)
    have q1 : (f0 i).2 = Ls[i] := by have := rws_get (f := f0) (n := Ls.length) (i := i) (by omega); rw [hrw] at this; rw [← this]; simp [List.getD, show i < Ls.length by omega]
    have q2 : (f0 (i + 1)).2 = Ls[i + 1] := by have := rws_get (f := f0) (n := Ls.length) (i := i + 1) (by omega); rw [hrw] at this; rw [← this]; simp [List.getD, hi]
    rw [q1, q2]
    exact h5)
  have HRR := Lib.hid (And.intro hR (And.intro hBg (And.intro hnc (And.intro hcm (And.intro hrw (Exists.intro cur0 hh0 : ∃ cur, w.heap[g]? = some (.cells cur 24 (0, 0))))))))
  have HC := Lib.hid hC
  clear hO hL hA hR hC hh0 hrw
  generalize hN : Ls.length = N at *
  have hN2 : ¬ (N : Int) < 2 := by omega
  go_enter Tryz.func92, Tryz.ntmps92
  go_wp2_with fail
  go_loopw [5] (fun v wr => ∃ m k : Nat, k = m + 1 ∧ k ≤ N ∧ v = .int .i64 (k : Int) ∧ Grew w wr ∧ Hid (Asc (rws f0 k))) (fun k _ => N - (intOf k).toNat)
  case atStart => exact ⟨0, 1, rfl, by omega, rfl, Grew.refl _, Lib.hid (by unfold Asc rws; exact List.pairwise_singleton _ _)⟩
  case round =>
    obtain ⟨m, k, hkm, hm, rfl, hB, hAs⟩ := hrel
    by_cases hlt : k < N
    · have e1 := Lib.hid (HC.out.grew hB)
      have k1 : ∀ W, Grew wr W → W.cell? ⟨g, k, none⟩ = some (f0 k).1 := fun W hW => (HC.out.grew (hB.trans hW)).cell hlt
      have k2 : ∀ W, Grew wr W → W.cell? ⟨g, m, none⟩ = some (f0 m).1 := fun W hW => (HC.out.grew (hB.trans hW)).cell (by omega)
      have he := Lib.hid (fun W (hW : Grew wr W) => HE.out k m hlt (by omega) W (hB.trans hW).only)
      rw [HZ.out] at he
      have hw1 : IntKind.i64.wrap ((k : Int) - 1) = (m : Int) := by rw [IntKind.wrap_i64]; omega
      have hw2 : wrap64 ((k : Int) - 1) = (m : Int) := by rw [wrap64]; omega
      have i1 : (k : Int) < (N : Int) := by omega
      have i2 : (m : Int) < (N : Int) := by omega
      have i3 : (0 : Int) ≤ (k : Int) := by omega
      have i4 : (0 : Int) ≤ (m : Int) := by omega
      have HKM := Lib.hid hkm
      clear hkm
      have r1 := Grew.refl wr
      have r2 := (Grew.refl wr).drew
      by_cases hx : (f0 k).2 = (f0 m).2
      · rw [decide_eq_true hx] at he
        go_wp2_with fail
        go_region_held3 (fun (w' : World) => Grew wr w') (first | assumption | exact Grew.drew ‹_›) (first
          | (go_at_call 93; refine Calls.mono (he.out _ (by assumption)) ?_; rintro e w4 ⟨rfl, hg4⟩; have hg5 : Grew wr w4 := Grew.trans (by assumption) hg4))
        have HX := Lib.hid hx
        have HB4 := Lib.hid (hB.trans hg5)
        have HAs := Lib.hid hAs.out
        clear k1 k2 he r1 r2 hx hB hg5 hg4 hAs e1
        generalize (f0 k).1 = y1 at *
        generalize (f0 m).1 = y0 at *
        have hc1 : k ≤ cap := by have := HRR.out.2.2.1; omega
        have HST : Hid (CIn w w4 g cap N f0 f0 k (k + 1)) := Lib.hid ⟨HC.out.grew HB4.out, by omega, fun _ _ _ => rfl, fun j hj => ⟨j, hj, rfl⟩, by
          rw [rws_succ f0 k]
          refine Comp.skip (Comp.refl HAs.out) ?_
          have h6 := rws_last f0 k (by have := HKM.out; omega)
          rw [show k - 1 = m by have := HKM.out; omega] at h6
          rw [h6, HX.out]⟩
        obtain ⟨L2, hL2⟩ : ∃ L2, L2 = N - k := ⟨_, rfl⟩
        obtain ⟨C2, hC2⟩ : ∃ C2, C2 = cap - k := ⟨_, rfl⟩
        have hk0 : 0 < k := by have := HKM.out; omega
        go_wp2_with fail
        rw [← hL2, ← hC2]
        have HL2 : Hid (k + L2 = N ∧ k + C2 = cap) := Lib.hid ⟨by omega, by have := HRR.out.2.2.1; omega⟩
        clear hL2 hC2
        go_loopw [5, 7] (fun a b wr => ∃ kk q p : Nat, p = q + 1 ∧ p ≤ L2 ∧ a = .int .i64 (kk : Int) ∧ b = .int .i64 (p : Int) ∧ ∃ f, Hid (CIn w wr g cap N f0 f kk (k + p)) ∧ 0 < kk) (fun _ b _ => L2 - (intOf b).toNat)
        case atStart => exact ⟨k, 0, 1, rfl, by have := HL2.out; omega, rfl, rfl, f0, HST, hk0⟩
        case round =>
          obtain ⟨kk, q, p, hpq, hp, rfl, rfl, f, hI, hkk0⟩ := hrel
          by_cases hlp : p < L2
          · have hkp : k + p < N := by have := HL2.out; omega
            have hkq : k + q < N := by have := HL2.out; omega
            have k1 : ∀ W, Grew wr W → W.cell? ⟨g, k + p, none⟩ = some (f0 (k + p)).1 := fun W hW => by rw [← hI.out.high (k + p) (by omega) (by omega)]; exact (hI.out.row.grew hW).cell (by omega)
            have k2 : ∀ W, Grew wr W → W.cell? ⟨g, k + q, none⟩ = some (f0 (k + q)).1 := fun W hW => by rw [← hI.out.high (k + q) (by omega) (by omega)]; exact (hI.out.row.grew hW).cell (by omega)
            have he := Lib.hid (fun W (hW : Grew wr W) => HE.out (k + p) (k + q) (by omega) (by omega) W (hI.out.row.only.grew hW))
            rw [HZ.out] at he
            have hw1 : IntKind.i64.wrap ((p : Int) - 1) = (q : Int) := by rw [IntKind.wrap_i64]; omega
            have hw2 : wrap64 ((p : Int) - 1) = (q : Int) := by rw [wrap64]; omega
            have j1 : (p : Int) < (L2 : Int) := by omega
            have j2 : (q : Int) < (L2 : Int) := by omega
            have j3 : (0 : Int) ≤ (p : Int) := by omega
            have j4 : (0 : Int) ≤ (q : Int) := by omega
            have r1 := Grew.refl wr
            have r2 := (Grew.refl wr).drew
            have HPQ := Lib.hid hpq
            clear hpq
            by_cases hx : (f0 (k + p)).2 = (f0 (k + q)).2
            · rw [decide_eq_true hx] at he
              have hN2 : Hid (∀ W, Grew wr W → CIn w W g cap N f0 f kk (k + (p + 1))) := Lib.hid (fun W hW => ⟨hI.out.row.grew hW, by have := hI.out.low; omega, fun j h1 h2 => hI.out.high j (by omega) h2, hI.out.rows, by
                rw [show k + (p + 1) = k + p + 1 by omega, rws_succ f0 (k + p)]
                refine Comp.skip hI.out.comp ?_
                have h6 := rws_last f0 (k + p) (by omega)
                rw [show k + p - 1 = k + q by have := HPQ.out; omega] at h6
                rw [h6, hx]⟩)
              go_wp2_with fail
              go_region_held3 (fun (w' : World) => Grew wr w') (first | assumption | exact Grew.drew ‹_›) (first
                | (go_at_call 93; refine Calls.mono (he.out _ (by assumption)) ?_; rintro e w5 ⟨rfl, hg6⟩; have hg7 : Grew wr w5 := Grew.trans (by assumption) hg6))
              have HN2 := Lib.hid (hN2.out _ hg7)
              clear k1 k2 he r1 r2 hx hg7 hg6 hN2 hI
              go_wp2_with fail
              go_roundw
              case rel => exact ⟨kk, p, p + 1, rfl, by omega, rfl, by go_num, f, HN2, hkk0⟩
              case measure => simp [intOf]; omega
            · rw [decide_eq_false hx] at he
              have hless : Hid (lessL (f0 (k + q)).2 (f0 (k + p)).2 = true) := Lib.hid (by
                have h5 := HAD.out (k + q) (by have := HPQ.out; omega)
                rw [show k + q + 1 = k + p by have := HPQ.out; omega] at h5
                exact less_of h5 (Ne.symm hx))
              have hlow := hI.out.low
              have hN2 : Hid (∀ W, Grew wr W → CIn w (W.setCell ⟨g, kk, none⟩ (f0 (k + p)).1) g cap N f0 (fun z => if z = kk then f0 (k + p) else f z) (kk + 1) (k + (p + 1))) := Lib.hid (fun W hW => ⟨(hI.out.row.grew hW).set (by omega) _, by omega, fun j h1 h2 => by
                show (if j = kk then f0 (k + p) else f j) = f0 j
                rw [if_neg (by omega)]
                exact hI.out.high j (by omega) h2, fun j hj => by
                show ∃ i, i < N ∧ (if j = kk then f0 (k + p) else f j) = f0 i
                by_cases hjk : j = kk
                · exact ⟨k + p, by omega, if_pos hjk⟩
                · rw [if_neg hjk]; exact hI.out.rows j hj, by
                rw [show k + (p + 1) = k + p + 1 by omega, rws_succ f0 (k + p), rws_succ _ kk]
                have e1 : rws (fun z => if z = kk then f0 (k + p) else f z) kk = rws f kk := rws_congr fun z hz => if_neg (by omega)
                have e2 : (if kk = kk then f0 (k + p) else f kk).2 = (f0 (k + p)).2 := by rw [if_pos rfl]
                show Comp (rws (fun z => if z = kk then f0 (k + p) else f z) kk ++ [(if kk = kk then f0 (k + p) else f kk).2]) _
                rw [e1, e2]
                have h6 := rws_last f0 (k + p) (by omega)
                rw [show k + p - 1 = k + q by have := HPQ.out; omega] at h6
                exact Comp.keep hI.out.comp h6 hless.out⟩)
              have hkkN : kk < N := by omega
              have cK : Hid (∀ W, Grew wr W → W.cell? ⟨g, kk, none⟩ = some (f kk).1) := Lib.hid (fun W hW => (hI.out.row.grew hW).cell hkkN)
              have fK : Hid (∀ W, Grew wr W → W.frozen? ⟨g, kk, none⟩ = false) := Lib.hid (fun W hW => (hI.out.row.grew hW).free kk)
              have hoc : Hid (∃ A c, (f0 (k + p)).1 = .slice A n c) := Lib.hid (by
                have h7 := HRR.out.1 (k + p) (by omega)
                obtain ⟨A, c, hA⟩ := ints_sliceN h7.1.ints
                exact ⟨A, c, by rw [hA, h7.2]⟩)
              go_wp2_with fail
              go_region_held3 (fun (w' : World) => Grew wr w') (first | assumption | exact Grew.drew ‹_›) (first
                | (go_at_call 93; refine Calls.mono (he.out _ (by assumption)) ?_; rintro e w5 ⟨rfl, hg6⟩; have hg7 : Grew wr w5 := Grew.trans (by assumption) hg6))
              have HN2 := Lib.hid (hN2.out _ hg7)
              have z1 := k1 _ hg7
              have z2 := cK.out _ hg7
              have z3 := fK.out _ hg7
              obtain ⟨A8, c8, hs8⟩ := hoc.out
              rw [hs8] at HN2 z1
              have m1 : (kk : Int) < (N : Int) := by omega
              have m2 : (0 : Int) ≤ (kk : Int) := by omega
              clear k1 k2 he r1 r2 hx hg7 hg6 hN2 hI hless cK fK hs8 hoc
              go_wp2_with fail
              go_roundw
              case rel => exact ⟨kk + 1, p, p + 1, rfl, by omega, by go_num, by go_num, _, HN2, by omega⟩
              case measure => simp [intOf]; omega
          · have hkN : k + p = N := by have := HL2.out; omega
            have hI2 := hI.out
            rw [hkN] at hI2
            have hlow := hI2.low
            have hNc := HRR.out.2.2.1
            have hcl : ∀ ty, (Builtin.clear_ #[52] ty #[.slice (some ⟨g, kk, none⟩) (N - kk) (cap - kk)]).run Tryz.prog wr = .ok (.tuple #[]) (wr.setCells g kk (List.replicate (N - kk) (.slice none 0 0))) :=
              fun ty => Lib.run_clear_slice wr _ _ ty _ Tryz.underlying52 Tryz.zeroValue24 rfl rfl g kk _ _ (by omega) (fun t ht => by rw [hI2.row.cell (by omega)]; rfl) (fun t ht => hI2.row.free _)
            have hci : ¬ cap = kk := by omega
            have m1 : (kk : Int) ≤ (N : Int) := by omega
            have m2 : (0 : Int) ≤ (kk : Int) := by omega
            have m3 : kk ≤ cap := by omega
            have m4 : kk ≤ N := by omega
            have HI2 := Lib.hid hI2
            have HLW := Lib.hid hlow
            have hlp2 : (p : Int) = (L2 : Int) := by have := HL2.out; omega
            have HP2 := Lib.hid hlp
            have HKN := Lib.hid hkN
            clear hI hI2 hkN
            go_wp2_with fail
            go_ret
            obtain ⟨cur1, q1, q2, q3⟩ := HI2.out.row.heap
            obtain ⟨cur2, q4, q5, q6⟩ := blk_setCellsK (List.replicate (N - kk) (.slice none 0 0)) kk wr cur1 q1
            have hrow : CRow w (wr.setCells g kk (List.replicate (N - kk) (.slice none 0 0))) g cap kk f := ⟨⟨cur2, q4, by rw [q5, q2], fun i hi => by rw [q6 i hi, q3 i (by omega)]⟩, only_setCellsK _ _ _ HI2.out.row.only⟩
            have hRf : Rws w B n kk f := fun i hi => by
              obtain ⟨i2, h7, h8⟩ := HI2.out.rows i (by omega)
              rw [h8]
              exact HRR.out.1 i2 h7
            have hmem := HI2.out.comp.mem
            rw [HRR.out.2.2.2.2.1] at hmem
            exact ⟨_, rws f kk, rfl, hrow.ownU HRR.out.2.1 hRf HRR.out.2.2.2.2.2 (Nat.le_refl kk) (by omega) HRR.out.2.2.2.1, HI2.out.comp.asc, hmem, by rw [rws_len]; omega, .inr ⟨g, HRR.out.2.1, hrow.only⟩⟩
      · rw [decide_eq_false hx] at he
        have hAs2 : Hid (Asc (rws f0 (k + 1))) := Lib.hid (by
          rw [rws_succ f0 k]
          have h5 := HAD.out m (by have := HKM.out; omega)
          rw [← HKM.out] at h5
          have h6 := rws_last f0 k (by have := HKM.out; omega)
          rw [show k - 1 = m by have := HKM.out; omega] at h6
          exact asc_keep hAs.out h6 (less_of h5 (Ne.symm hx)))
        go_wp2_with fail
        go_region_held3 (fun (w' : World) => Grew wr w') (first | assumption | exact Grew.drew ‹_›) (first
          | (go_at_call 93; refine Calls.mono (he.out _ (by assumption)) ?_; rintro e w4 ⟨rfl, hg4⟩; have hg5 : Grew wr w4 := Grew.trans (by assumption) hg4))
        have hB4 := hB.trans hg5
        clear k1 k2 he r1 r2 hx hB hg5 hg4 hAs e1
        go_wp2_with fail
        go_roundw
        case rel => exact ⟨k, k + 1, rfl, by omega, by go_num, hB4, hAs2⟩
        case measure => simp [intOf]; omega
    · have hmN : k = N := by omega
      rw [hmN]
      have hAs2 := hAs
      rw [hmN] at hAs2
      clear hAs
      go_wp2_with fail
      go_ret
      refine ⟨_, Ls, rfl, ?_, ?_, fun _ => Iff.rfl, by omega, .inl hB⟩
      · have h5 := (HC.out.grew hB).ownU HRR.out.2.1 HRR.out.1 HRR.out.2.2.2.2.2 (Nat.le_refl N) HRR.out.2.2.1 HRR.out.2.2.2.1
        rwa [HRR.out.2.2.2.2.1] at h5
      · have h5 := hAs2.out
        rwa [HRR.out.2.2.2.2.1] at h5
end Go.Proofs.YtmcbjekianclpaaGreat

/- sortedLists: the library's sort, then its pass that strikes doubles. -/
namespace Go.Proofs.YtmcbjekianclpaaGreat
open Go.RowKit

theorem sortedLists_c (w w0 : World) (B n : Nat) (v : Value) (Ls : List (List Nat)) (hO : OwnU w B v (zss Ls)) (hL : ∀ L ∈ Ls, L.length = n) (h0 : 0 < Ls.length) (hsz : Ls.length ≤ 1048576) (hg : Grew w0 w) (hB : w0.heap.size ≤ B) :
    Calls Tryz.prog 68 #[v] w fun e w' => ∃ u Ks, e = .returned u ∧ OwnU w' B u (zss Ks) ∧ Asc Ks ∧ (∀ x, x ∈ Ks ↔ x ∈ Ls) ∧ Ks.length ≤ Ls.length ∧ Grew w0 w' := by
  have HS := Lib.hid (sort_c w B n v Ls hO hL h0 hsz)
  have HC := Lib.hid (fun W Ks (h1 : OwnU W B v (zss Ks)) h2 h3 h4 => compact_c W B n v Ks h1 h2 h3 h4)
  have HG := Lib.hid hg
  have HL := Lib.hid hL
  obtain ⟨A, c, rfl⟩ := hO.slice
  rw [zss_len] at HS HC
  rw [zss_len]
  clear hO hL hg
  generalize hN : Ls.length = N at *
  go_enter Tryz.func68, Tryz.ntmps68
  go_wp2_with fail
  refine (HS.out).mono ?_
  rintro e w1 ⟨rfl, g, Ks, hv, hBg, ho1, hO1, hp, hd⟩
  have HM := Lib.hid (HC.out w1 Ks hO1 (fun L hL => HL.out L (hp.mem_iff.1 hL)) hd (by rw [hp.length_eq, hN]; exact hsz))
  have HP := Lib.hid hp
  have HG1 := Lib.hid (ho1.grew_of HG.out (by omega))
  clear hO1 hp hd ho1 hv
  go_wp2_with fail
  refine (HM.out).mono ?_
  rintro e w2 ⟨u, Js, rfl, hO2, ha, hm, hl, hgg⟩
  have HR := Lib.hid (And.intro hO2 (And.intro ha (And.intro hm hl)))
  have HG2 : Hid (Grew w0 w2) := Lib.hid (by
    rcases hgg with hgg | ⟨g2, hb2, ho2⟩
    · exact HG1.out.trans hgg
    · exact ho2.grew_of HG1.out (by omega))
  obtain ⟨A2, c2, rfl⟩ := hO2.slice
  clear hO2 ha hm hgg hl
  go_wp2_with fail
  go_ret
  exact ⟨_, Js, rfl, HR.out.1, HR.out.2.1, fun x => (HR.out.2.2.1 x).trans HP.out.mem_iff, by rw [← hN, ← HP.out.length_eq]; exact HR.out.2.2.2, HG2.out⟩
end Go.Proofs.YtmcbjekianclpaaGreat

/- The small posets, plain: all reflexive relations in order of which those are kept that are posets and their own least form, and what comes of sorting the least forms of all posets. -/
namespace Go.Proofs.YtmcbjekianclpaaGreat
open Go.RowKit

theorem nats_zsX (X : List Nat) : nats (zs X) = X := by
  unfold nats zs
  rw [List.map_map]
  have : (Int.toNat ∘ fun i : Nat => (i : Int)) = id := by funext i; simp
  rw [this, List.map_id]
theorem refl_iffX {A : List Nat} : reflB A = true ↔ ∀ x, x < A.length → (nt A x).testBit x = true := by
  unfold reflB
  rw [allB_iff]
theorem anti_iffX {A : List Nat} : antiB A = true ↔ ∀ x y, x < A.length → y < A.length → (nt A x).testBit y = true → (nt A y).testBit x = true → x = y := by
  unfold antiB
  rw [allB_iff]
  constructor
  · intro h x y hx hy h1 h2
    have h3 := allB_iff.1 (h x hx) y hy
    unfold antiX at h3
    rw [h1, h2] at h3
    simpa using h3
  · intro h x hx
    refine allB_iff.2 fun y hy => ?_
    unfold antiX
    cases h1 : (nt A x).testBit y with
    | false => rfl
    | true =>
      cases h2 : (nt A y).testBit x with
      | false => simp
      | true =>
        have := h x y hx hy h1 h2
        simp [this]
theorem mks_ofX {n : Nat} {X : List Nat} (h : ∀ x ∈ X, x < 2 ^ n) : mks n (zs X) = true := by
  unfold mks
  rw [List.all_eq_true]
  intro z hz
  unfold zs at hz
  obtain ⟨x, hx, rfl⟩ := List.mem_map.1 hz
  unfold mk
  have := h x hx
  exact decide_eq_true ⟨by omega, by omega⟩
/-- A is the order of a poset. -/
def pB (A : List Nat) : Bool := posB (A.length : Int) (zs A)
theorem pB_ok {A : List Nat} (h : pB A = true) : A.length ≤ 8 ∧ Rl A ∧ reflB A = true ∧ Trn A ∧ antiB A = true := by
  obtain ⟨_, h8, hR, _, _, h1, h2, h3⟩ := posB_ok h
  rw [nats_zsX] at hR h1 h2 h3
  rw [zs_len] at h8
  exact ⟨h8, hR, h1, (transB_iff hR).1 h2, h3⟩
theorem pB_of {A : List Nat} (h8 : A.length ≤ 8) (hR : Rl A) (h1 : reflB A = true) (h2 : Trn A) (h3 : antiB A = true) : pB A = true := by
  unfold pB posB
  rw [zs_len, nats_zsX, mks_ofX hR.2, decide_eq_true (show (0 : Int) ≤ (A.length : Int) ∧ (A.length : Int) ≤ 8 by omega), decide_eq_true rfl, h1, (transB_iff hR).2 h2, h3]
  rfl
theorem pB_reo {A o : List Nat} (h : pB A = true) (ho : IsPm A.length o) : pB (reo A o) = true := by
  obtain ⟨h8, hR, h1, h2, h3⟩ := pB_ok h
  have hl : (reo A o).length = A.length := by rw [reo_len, ho.1]
  have hRo : Rl (reo A o) := reo_rl (by rw [ho.1]; omega)
  have hin : ∀ i, i < A.length → nt o i < A.length := fun i hi => ho.2.2 _ (nt_mem (by rw [ho.1]; exact hi))
  have hbt : ∀ i j, i < A.length → j < A.length → (nt (reo A o) i).testBit j = (nt A (nt o i)).testBit (nt o j) := fun i j hi hj => reo_bit (by rw [ho.1]; exact hi) (by rw [ho.1]; exact hj)
  have hlt : ∀ i j, i < A.length → (nt (reo A o) i).testBit j = true → j < A.length := fun i j hi hj => by have := hRo.bit (by rw [hl]; exact hi) hj; rwa [hl] at this
  refine pB_of (by omega) hRo (refl_iffX.2 fun x hx => ?_) (fun x y z hx hy hz => ?_) (anti_iffX.2 fun x y hx hy hxy hyx => ?_)
  · rw [hl] at hx
    rw [hbt x x hx hx]
    exact refl_iffX.1 h1 _ (hin x hx)
  · rw [hl] at hx
    have hy2 := hlt x y hx hy
    have hz2 := hlt y z hy2 hz
    rw [hbt x y hx hy2] at hy
    rw [hbt y z hy2 hz2] at hz
    rw [hbt x z hx hz2]
    exact h2 _ _ _ (hin x hx) hy hz
  · rw [hl] at hx hy
    rw [hbt x y hx hy] at hxy
    rw [hbt y x hy hx] at hyx
    exact nodup_inj ho.2.1 (by rw [ho.1]; exact hx) (by rw [ho.1]; exact hy) (anti_iffX.1 h3 _ _ (hin x hx) (hin y hy) hxy hyx)
theorem pB_lst {A : List Nat} (h : pB A = true) : pB (lst A) = true := by
  obtain ⟨o, ho, he⟩ := lst_reo (pB_ok h).2.1
  rw [he]
  exact pB_reo h ho

/-- All rows of k masks of n elements, the one at place i with i in it, in order. -/
def allR (n : Nat) : Nat → List (List Nat)
  | 0 => [[]]
  | k + 1 => (allR n k).flatMap fun l => ((List.range (2 ^ n)).filter fun m => m.testBit k).map fun m => l ++ [m]
theorem nt_snoc_lt {l : List Nat} {m i : Nat} (h : i < l.length) : nt (l ++ [m]) i = nt l i := by
  unfold nt
  rw [List.getD_eq_getElem?_getD, List.getD_eq_getElem?_getD, List.getElem?_append_left h]
theorem nt_snoc_eq {l : List Nat} {m : Nat} : nt (l ++ [m]) l.length = m := by simp [nt, List.getD]
theorem allR_mem {n : Nat} : ∀ {k : Nat} {A : List Nat}, A ∈ allR n k ↔ A.length = k ∧ ∀ i, i < k → nt A i < 2 ^ n ∧ (nt A i).testBit i = true
  | 0, A => by
    show A ∈ [[]] ↔ _
    rw [List.mem_singleton]
    exact ⟨fun h => ⟨by rw [h]; rfl, fun i hi => absurd hi (by omega)⟩, fun h => List.length_eq_zero_iff.1 h.1⟩
  | k + 1, A => by
    show A ∈ (allR n k).flatMap _ ↔ _
    rw [List.mem_flatMap]
    constructor
    · rintro ⟨l, hl, hA⟩
      obtain ⟨m, hm, rfl⟩ := List.mem_map.1 hA
      rw [List.mem_filter, List.mem_range] at hm
      obtain ⟨h1, h2⟩ := allR_mem.1 hl
      refine ⟨by simp [h1], fun i hi => ?_⟩
      by_cases hik : i < k
      · rw [nt_snoc_lt (by omega)]
        exact h2 i hik
      · obtain rfl : i = k := by omega
        have : nt (l ++ [m]) i = m := by rw [← h1]; exact nt_snoc_eq
        rw [this]
        exact hm
    · rintro ⟨h1, h2⟩
      have hd : A = A.take k ++ [nt A k] := by
        have := take_next (L := A) (i := k) 0 (by omega)
        rw [List.take_of_length_le (by omega)] at this
        exact this
      have hlt : (A.take k).length = k := by rw [List.length_take]; omega
      refine ⟨A.take k, allR_mem.2 ⟨hlt, fun i hi => ?_⟩, List.mem_map.2 ⟨nt A k, ?_, hd.symm⟩⟩
      · have h3 := h2 i (by omega)
        have : nt A i = nt (A.take k) i := by simp [nt, List.getD, hi]
        rwa [this] at h3
      · rw [List.mem_filter, List.mem_range]
        exact h2 k (by omega)
theorem lessL_snoc : ∀ {l k : List Nat} {a b : Nat}, l.length = k.length → lessL l k = true → lessL (l ++ [a]) (k ++ [b]) = true
  | [], [], a, b, _, h => by simp [lessL, cmpL] at h
  | [], _ :: _, _, _, hl, _ => by simp at hl
  | _ :: _, [], _, _, hl, _ => by simp at hl
  | x :: l, y :: k, a, b, hl, h => by
    unfold lessL at h ⊢
    rw [decide_eq_true_eq] at h ⊢
    show (if x < y then (-1 : Int) else if y < x then 1 else cmpL (l ++ [a]) (k ++ [b])) < 0
    have h' : (if x < y then (-1 : Int) else if y < x then 1 else cmpL l k) < 0 := h
    by_cases h1 : x < y
    · rw [if_pos h1]; decide
    · rw [if_neg h1] at h' ⊢
      by_cases h2 : y < x
      · rw [if_pos h2] at h'; exact absurd h' (by decide)
      · rw [if_neg h2] at h' ⊢
        have := lessL_snoc (l := l) (k := k) (a := a) (b := b) (by simpa using hl) (decide_eq_true h')
        exact of_decide_eq_true this
theorem lessL_last : ∀ (l : List Nat) {a b : Nat}, a < b → lessL (l ++ [a]) (l ++ [b]) = true
  | [], a, b, h => by
    show decide ((if a < b then (-1 : Int) else if b < a then 1 else cmpL [] []) < 0) = true
    rw [if_pos h]
    rfl
  | x :: l, a, b, h => by
    have := of_decide_eq_true (lessL_last l h)
    show decide ((if x < x then (-1 : Int) else if x < x then 1 else cmpL (l ++ [a]) (l ++ [b])) < 0) = true
    rw [if_neg (Nat.lt_irrefl x), if_neg (Nat.lt_irrefl x)]
    exact decide_eq_true this
theorem allR_asc (n : Nat) : ∀ k, Asc (allR n k)
  | 0 => List.pairwise_singleton _ _
  | k + 1 => by
    unfold Asc
    show ((allR n k).flatMap _).Pairwise _
    rw [List.pairwise_flatMap]
    refine ⟨fun l _ => ?_, ?_⟩
    · rw [List.pairwise_map]
      exact (List.pairwise_lt_range.filter _).imp fun h => lessL_last l h
    · refine List.Pairwise.imp_of_mem ?_ (allR_asc n k)
      intro l l' hl hl' h x hx y hy
      obtain ⟨a, _, rfl⟩ := List.mem_map.1 hx
      obtain ⟨b, _, rfl⟩ := List.mem_map.1 hy
      exact lessL_snoc (by rw [(allR_mem.1 hl).1, (allR_mem.1 hl').1]) h
theorem allR_len (n : Nat) : ∀ k, (allR n k).length ≤ (2 ^ n) ^ k
  | 0 => by simp [allR]
  | k + 1 => by
    have ih := allR_len n k
    show ((allR n k).flatMap _).length ≤ _
    rw [Nat.pow_succ]
    refine Nat.le_trans ?_ (Nat.mul_le_mul_right _ ih)
    generalize allR n k = P
    induction P with
    | nil => simp
    | cons p P ih2 =>
      rw [List.flatMap_cons, List.length_append, List.length_cons, Nat.add_mul, Nat.one_mul, List.length_map]
      have := List.length_filter_le (fun m => m.testBit k) (List.range (2 ^ n))
      rw [List.length_range] at this
      omega
/-- The small posets: those that are their own least form. -/
def psts (n : Nat) : List (List Nat) := (allR n n).filter fun A => pB A && decide (lst A = A)
theorem psts_asc (n : Nat) : Asc (psts n) := List.Pairwise.filter _ (allR_asc n n)
theorem psts_mem {n : Nat} {A : List Nat} : A ∈ psts n ↔ A.length = n ∧ pB A = true ∧ lst A = A := by
  unfold psts
  rw [List.mem_filter, Bool.and_eq_true, decide_eq_true_eq, allR_mem]
  constructor
  · rintro ⟨⟨h1, _⟩, h2, h3⟩
    exact ⟨h1, h2, h3⟩
  · rintro ⟨h1, h2, h3⟩
    obtain ⟨_, hR, hr, _, _⟩ := pB_ok h2
    refine ⟨⟨h1, fun i hi => ⟨?_, refl_iffX.1 hr i (by omega)⟩⟩, h2, h3⟩
    have := hR.2 (nt A i) (nt_mem (by omega))
    rwa [h1] at this

/-- The relation with a number. -/
def relK (n k N : Nat) : List Nat := (List.range k).map fun x => N / 2 ^ (x * n) % 2 ^ n
theorem relK_succ (n k N : Nat) : relK n (k + 1) N = (N % 2 ^ n) :: relK n k (N / 2 ^ n) := by
  unfold relK
  rw [List.range_succ_eq_map, List.map_cons, List.map_map]
  congr 1
  · simp
  · refine List.map_congr_left fun x _ => ?_
    show N / 2 ^ ((x + 1) * n) % 2 ^ n = N / 2 ^ n / 2 ^ (x * n) % 2 ^ n
    rw [Nat.div_div_eq_div_mul, ← Nat.pow_add, Nat.add_mul, Nat.one_mul, Nat.add_comm]
theorem relK_onto {n : Nat} : ∀ {A : List Nat}, (∀ m ∈ A, m < 2 ^ n) → ∃ N, N < 2 ^ (A.length * n) ∧ relK n A.length N = A
  | [], _ => ⟨0, by simp, rfl⟩
  | a :: r, h => by
    obtain ⟨N, h1, h2⟩ := relK_onto (A := r) fun m hm => h m (List.mem_cons_of_mem _ hm)
    have ha := h a (List.mem_cons_self ..)
    refine ⟨a + 2 ^ n * N, ?_, ?_⟩
    · rw [List.length_cons, Nat.add_mul, Nat.one_mul, Nat.pow_add, Nat.mul_comm (2 ^ (r.length * n))]
      have : 2 ^ n * (N + 1) ≤ 2 ^ n * 2 ^ (r.length * n) := Nat.mul_le_mul_left _ h1
      rw [Nat.mul_add] at this
      omega
    · rw [List.length_cons, relK_succ, Nat.add_mul_mod_self_left, Nat.mod_eq_of_lt ha, Nat.add_mul_div_left _ _ (Nat.two_pow_pos n), Nat.div_eq_of_lt ha, Nat.zero_add, h2]
theorem relK_len (n k N : Nat) : (relK n k N).length = k := by simp [relK]
theorem psts_eq {n : Nat} {Ks : List (List Nat)} (ha : Asc Ks) (hm : ∀ x, x ∈ Ks ↔ ∃ N, N < 2 ^ (n * n) ∧ pB (relK n n N) = true ∧ x = lst (relK n n N)) : Ks = psts n := by
  refine asc_ext ha (psts_asc n) fun x => ?_
  rw [hm, psts_mem]
  constructor
  · rintro ⟨N, _, h1, rfl⟩
    have hR := (pB_ok h1).2.1
    exact ⟨by rw [lst_len hR, relK_len], pB_lst h1, lst_lst hR⟩
  · rintro ⟨h1, h2, h3⟩
    have hR := (pB_ok h2).2.1
    obtain ⟨N, h4, h5⟩ := relK_onto (n := n) (A := x) fun m hm => by have := hR.2 m hm; rwa [h1] at this
    rw [h1] at h4 h5
    exact ⟨N, h4, by rw [h5]; exact h2, by rw [h5]; exact h3.symm⟩
end Go.Proofs.YtmcbjekianclpaaGreat

/- The program's posets of one size: posetsOf. -/
namespace Go.Proofs.YtmcbjekianclpaaGreat
open Go.RowKit

/-- The least forms of the posets among the first k relations. -/
def cds (n k : Nat) : List (List Nat) := (((List.range k).map (relK n n)).filter pB).map lst
theorem cds_yes {n k : Nat} (h : pB (relK n n k) = true) : cds n (k + 1) = cds n k ++ [lst (relK n n k)] := by
  unfold cds
  rw [List.range_succ, List.map_append, List.filter_append, List.map_append]
  simp [h]
theorem cds_no {n k : Nat} (h : pB (relK n n k) = false) : cds n (k + 1) = cds n k := by
  unfold cds
  rw [List.range_succ, List.map_append, List.filter_append, List.map_append]
  simp [h]
theorem cds_len (n k : Nat) : (cds n k).length ≤ k := by
  unfold cds
  rw [List.length_map]
  refine Nat.le_trans (List.length_filter_le _ _) ?_
  simp
theorem cds_rows {n k : Nat} : ∀ L ∈ cds n k, L.length = n := by
  intro L hL
  unfold cds at hL
  obtain ⟨A, hA, rfl⟩ := List.mem_map.1 hL
  rw [List.mem_filter] at hA
  obtain ⟨N, _, hN⟩ := List.mem_map.1 hA.1
  rw [lst_len (pB_ok hA.2).2.1, ← hN, relK_len]
theorem cds_mem {n k : Nat} {x : List Nat} : x ∈ cds n k ↔ ∃ N, N < k ∧ pB (relK n n N) = true ∧ x = lst (relK n n N) := by
  unfold cds
  rw [List.mem_map]
  constructor
  · rintro ⟨A, hA, rfl⟩
    rw [List.mem_filter] at hA
    obtain ⟨N, h1, rfl⟩ := List.mem_map.1 hA.1
    exact ⟨N, List.mem_range.1 h1, hA.2, rfl⟩
  · rintro ⟨N, h1, h2, rfl⟩
    exact ⟨_, List.mem_filter.2 ⟨List.mem_map.2 ⟨N, List.mem_range.2 h1, rfl⟩, h2⟩, rfl⟩
theorem relK_snoc (n k N : Nat) : relK n (k + 1) N = relK n k N ++ [N / 2 ^ (k * n) % 2 ^ n] := by simp [relK, List.range_succ]
/-- There is a poset of each size. -/
theorem chain_pB (n : Nat) (hn : n ≤ 8) : ∃ N, N < 2 ^ (n * n) ∧ pB (relK n n N) = true := by
  have hl : ((List.range n).map fun i => 2 ^ i).length = n := by simp
  have hnt : ∀ i, i < n → nt ((List.range n).map fun i => 2 ^ i) i = 2 ^ i := fun i hi => by simp [nt, List.getD, hi]
  have hsm : ∀ m ∈ (List.range n).map fun i => 2 ^ i, m < 2 ^ n := fun m hm => by
    obtain ⟨i, hi, rfl⟩ := List.mem_map.1 hm
    exact Nat.pow_lt_pow_right (by omega) (List.mem_range.1 hi)
  have hR : Rl ((List.range n).map fun i => 2 ^ i) := ⟨by rw [hl]; omega, by rw [hl]; exact hsm⟩
  obtain ⟨N, h1, h2⟩ := relK_onto hsm
  rw [hl] at h1 h2
  refine ⟨N, h1, ?_⟩
  rw [h2]
  have hb : ∀ x y, x < n → ((nt ((List.range n).map fun i => 2 ^ i) x).testBit y = true ↔ x = y) := fun x y hx => by
    rw [hnt x hx, Nat.testBit_two_pow, decide_eq_true_eq]
  refine pB_of (by rw [hl]; exact hn) hR (refl_iffX.2 fun x hx => ?_) (fun x y z hx hy hz => ?_) (anti_iffX.2 fun x y hx hy hxy _ => ?_)
  · rw [hl] at hx
    exact (hb x x hx).2 rfl
  · rw [hl] at hx
    have h3 := (hb x y hx).1 hy
    subst h3
    exact hz
  · rw [hl] at hx
    exact (hb x y hx).1 hxy

theorem mul_facts (j n : Nat) (h : j * n ≤ 16) : wrap64 ((j : Int) * (n : Int)) = ((j * n : Nat) : Int) ∧ IntKind.i64.wrap ((j : Int) * (n : Int)) = ((j * n : Nat) : Int) := by
  rw [← Int.natCast_mul]
  generalize j * n = p at *
  rw [wrap64, IntKind.wrap_i64]
  omega
theorem shr_facts (k p n : Nat) (hk : k ≤ 65536) (hn : n ≤ 4) : wrap64 (2 ^ n) = ((2 ^ n : Nat) : Int) ∧ IntKind.i64.wrap (2 ^ n) = ((2 ^ n : Nat) : Int) ∧ (k : Int) / 2 ^ p = ((k / 2 ^ p : Nat) : Int) ∧
    bits .and .i64 ((k / 2 ^ p : Nat) : Int) ((2 ^ n - 1 : Nat) : Int) = ((k / 2 ^ p % 2 ^ n : Nat) : Int) ∧ wrap64 (((2 ^ n : Nat) : Int) - 1) = ((2 ^ n - 1 : Nat) : Int) ∧ IntKind.i64.wrap (((2 ^ n : Nat) : Int) - 1) = ((2 ^ n - 1 : Nat) : Int) := by
  have hF1 := wrap_pow (k := n) (by omega)
  have hF2 := wrapI_pow (k := n) (by omega)
  have hFb : 2 ^ n ≤ 16 := Nat.le_trans (Nat.pow_le_pow_right (by omega) hn) (by decide)
  have hFp : 0 < 2 ^ n := Nat.two_pow_pos n
  have hkb : k / 2 ^ p < 9223372036854775808 := Nat.lt_of_le_of_lt (Nat.div_le_self _ _) (by omega)
  have hD : (k : Int) / 2 ^ p = ((k / 2 ^ p : Nat) : Int) := by rw [Int.natCast_ediv, Int.natCast_pow]; rfl
  have hAN := and_i64 (k / 2 ^ p) (2 ^ n - 1) hkb (Nat.lt_of_le_of_lt (Nat.sub_le _ _) (Nat.lt_of_le_of_lt hFb (by decide)))
  rw [Nat.and_two_pow_sub_one_eq_mod] at hAN
  refine ⟨hF1, hF2, hD, hAN, ?_, ?_⟩
  · generalize 2 ^ n = F at *
    rw [wrap64]
    omega
  · generalize 2 ^ n = F at *
    rw [IntKind.wrap_i64]
    omega
set_option maxHeartbeats 2000000 in
theorem posetsOf_c (n : Nat) (h1 : 1 ≤ n) (h4 : n ≤ 4) (w : World) :
    Calls Tryz.prog 47 #[.int .i64 (n : Int)] w fun e w' => ∃ v, e = .returned v ∧ OwnPs w' w.heap.size v (psts n) ∧ Grew w w' := by
  have hM : 2 ^ (n * n) ≤ 65536 := Nat.le_trans (Nat.pow_le_pow_right (by omega) (Nat.mul_le_mul h4 h4)) (by decide)
  have hnn : n * n ≤ 16 := Nat.mul_le_mul h4 h4
  have hp := wrap_pow (k := n * n) (by omega)
  have hp2 := wrapI_pow (k := n * n) (by omega)
  have hmul : wrap64 ((n : Int) * (n : Int)) = ((n * n : Nat) : Int) := by rw [← Int.natCast_mul, wrap64]; omega
  have hmul2 : IntKind.i64.wrap ((n : Int) * (n : Int)) = ((n * n : Nat) : Int) := by rw [← Int.natCast_mul, IntKind.wrap_i64]; omega
  have HIP := Lib.hid (fun v A W (h : Ints W v (zs A)) => isPoset_c (A.length : Int) v (zs A) W h)
  have HPO := Lib.hid (fun v A W (h : Ints W v (zs A)) => posetOf_c v (zs A) W h)
  have HLR := Lib.hid (fun v A W (h : Ints W v (zs A)) (hp : pB A = true) (hl : A.length ≤ 6) => leastRelation_c v A W h (pB_ok hp).2.1 hl)
  have HSL := Lib.hid (fun W v Ls (hO : OwnU W w.heap.size v (zss Ls)) hL h0 hsz (hg : Grew w W) => sortedLists_c W w w.heap.size n v Ls hO hL h0 hsz hg (Nat.le_refl _))
  obtain ⟨q, hq⟩ : ∃ q, q = n * n := ⟨_, rfl⟩
  have HQ := Lib.hid hq
  rw [← hq] at hp hp2 hM hmul hmul2 hnn
  clear hq
  obtain ⟨M, hMM⟩ : ∃ M, M = 2 ^ q := ⟨_, rfl⟩
  have HM := Lib.hid hMM
  rw [← hMM] at hp hp2 hM
  clear hMM
  have q1 : (0 : Int) ≤ (q : Int) := by omega
  have q2 : (q : Int) < 64 := by omega
  have q3 : q < 64 := by omega
  go_enter Tryz.func47, Tryz.ntmps47
  go_wp2_with fail
  clear hp hp2 hmul hmul2
  go_loopw [3, 14] (fun s i wr => ∃ k : Nat, k ≤ M ∧ i = .int .i64 (k : Int) ∧ Grew w wr ∧ Hid (OwnU wr w.heap.size s (zss (cds n k)))) (fun _ i _ => M - (intOf i).toNat)
  case atStart => exact ⟨0, by omega, rfl, Grew.refl _, Lib.hid (OwnU.nil_ _ _)⟩
  case round =>
    obtain ⟨k, hk, rfl, hB, hO⟩ := hrel
    obtain ⟨A3, c3, rfl⟩ := hO.out.slice
    rw [zss_len]
    by_cases hlt : k < M
    · generalize wr = wk at *
      go_wp2_with fail
      go_loopw [5, 18] (fun s x wr => ∃ (j : Nat), j ≤ n ∧ x = .int .i64 (j : Int) ∧ Grew wk wr ∧ Hid (OwnI wr wk.heap.size s (zs (relK n j k)))) (fun _ x _ => n - (intOf x).toNat)
      case atStart => exact ⟨0, by omega, rfl, Grew.refl _, Lib.hid (World.ownsRow_nil wk _ _ 1)⟩
      case round =>
        obtain ⟨j, hj, rfl, hB2, hO2⟩ := hrel
        by_cases hlj : j < n
        · have hjn : j * n ≤ 16 := Nat.mul_le_mul (Nat.le_trans hj h4) h4
          have HF := Lib.hid (shr_facts k (j * n) n (Nat.le_trans hk hM) h4)
          have HMU := Lib.hid (mul_facts j n hjn)
          have HSN := Lib.hid (relK_snoc n j k)
          generalize k / 2 ^ (j * n) % 2 ^ n = z at HF HSN
          generalize k / 2 ^ (j * n) = y at HF
          generalize 2 ^ n - 1 = f at HF
          generalize (2 : Nat) ^ n = F at HF
          generalize j * n = p at HF HMU hjn
          have p1 : (0 : Int) ≤ (p : Int) := Int.natCast_nonneg p
          have p3 : p < 64 := Nat.lt_of_le_of_lt hjn (by decide)
          have p2 : (p : Int) < 64 := Int.ofNat_lt.2 p3
          have n1 : (0 : Int) ≤ (n : Int) := Int.natCast_nonneg n
          have n3 : n < 64 := Nat.lt_of_le_of_lt h4 (by decide)
          have n2 : (n : Int) < 64 := Int.ofNat_lt.2 n3
          have hl : (zs (relK n j k)).length ≤ 1048576 := by rw [zs_len, relK_len]; exact Nat.le_trans hj (Nat.le_trans h4 (by decide))
          have hr0 := Grew.refl wr
          have hk5 := (hr0.alloc (.cells #[.int .i64 (z : Int)] 2)).drew
          have hs5 : wk.heap.size ≤ ((wr.alloc (.cells #[.int .i64 (z : Int)] 2)).drew).heap.size := Nat.le_trans hB2.size hk5.size
          have hO5 := hO2.out.grew hk5
          have hrd5 := (rd_litI wr (z : Int) 2).grew (Grew.refl _).drew
          obtain ⟨hF1, hF2, hD, hAN, hS1, hS2⟩ := HF.out
          obtain ⟨hM1, hM2⟩ := HMU.out
          clear hF1 hS1 hM1
          go_wp2_with fail
          go_region_law (refine step_appI wk.heap.size rfl (.tmp 21) (.tmp 31) rfl u5 (zs (relK n j k)) rfl hO5 hs5 _ _ rfl hrd5 hl ?_; intro v6 w6 hown6 hg6)
          all_goals
            have hB6 : Grew wk w6 := (hB2.trans hk5).grown hg6 (fun g hg => own_of_ge hO5 hg)
            rw [show zs (relK n j k) ++ [(z : Int)] = zs (relK n (j + 1) k) by rw [HSN.out, zs_append]; rfl] at hown6
            have HO6 := Lib.hid hown6
            clear hown6 hO5 hg6 hk5 hrd5 hF2 hS2 hM2 hD hAN
            go_wp2_with fail
            go_roundw
            case rel => exact ⟨j + 1, by omega, by go_num, hB6, HO6⟩
            case measure => simp [intOf]; omega
        · obtain rfl : j = n := by omega
          have hO9 := hO2.out
          obtain ⟨A5, c5, rfl⟩ := ints_sliceN hO9.ints
          have HO9 := Lib.hid hO9
          have hll : (relK j j k).length = j := relK_len j j k
          rw [hll] at hO9 HO9 ⊢
          have hR1 : Hid (Calls Tryz.prog 66 #[.slice A5 j c5] wr fun e w' => e = .returned (.agg #[.int .i64 (j : Int), .slice A5 j c5]) ∧ Grew wr w') := Lib.hid (by
            have h := HPO.out _ _ _ hO9.ints
            rw [zs_len, hll] at h
            exact h)
          have hR2 : Hid (∀ W, Grew wr W → Calls Tryz.prog 65 #[.agg #[.int .i64 (j : Int), .slice A5 j c5]] W fun e w' => e = .returned (.bool (pB (relK j j k))) ∧ Grew W w') := Lib.hid (fun W hW => by
            have h := HIP.out _ _ W (hO9.ints.grew hW)
            unfold pB
            rw [hll] at h ⊢
            exact h)
          have hR3 : Hid (∀ W, Grew wr W → pB (relK j j k) = true → Calls Tryz.prog 67 #[.slice A5 j c5] W (GivesI W (zs (lst (relK j j k))))) := Lib.hid (fun W hW hpb => HLR.out _ _ W (hO9.ints.grew hW) hpb (by rw [hll]; omega))
          have HO3 := hO
          have hLl : (zss (cds j k)).length ≤ 1048576 := by rw [zss_len]; exact Nat.le_trans (cds_len j k) (by omega)
          clear hO9 hO2 hO
          cases hpb : pB (relK j j k) with
          | true =>
            rw [hpb] at hR2
            have hcy : Hid (zss (cds j (k + 1)) = zss (cds j k) ++ [zs (lst (relK j j k))]) := Lib.hid (by rw [cds_yes hpb, zss_append]; rfl)
            have hR3' := Lib.hid (fun W hW => hR3.out W hW hpb)
            clear hR3 hpb
            have hlz : (cds j k).length = (zss (cds j k)).length := (zss_len _).symm
            have HU := HO3.out
            rw [hlz] at *
            clear hlz
            generalize zss (cds j k) = K at *
            go_wp2_with fail
            refine (hR1.out).mono ?_
            rintro e w2 ⟨rfl, hg2⟩
            go_wp2_with fail
            refine (hR2.out _ hg2).mono ?_
            rintro e w3 ⟨rfl, hg3⟩
            go_wp2_with fail
            refine (hR3'.out _ (hg2.trans hg3)).mono ?_
            rintro e w4 ⟨v4, rfl, hO4, hg4⟩
            have hK4 := ((hB2.trans hg2).trans hg3).trans hg4
            have hl4 := (Grew.refl w4).alloc (.cells #[v4] 24)
            have hO4b := OwnI.base (B' := w.heap.size) hO4 (Nat.le_trans hB.size ((hB2.trans hg2).trans hg3).size)
            obtain ⟨A4, c4, rfl⟩ := ints_sliceN hO4.ints
            clear hO4
            generalize lst (relK j j k) = R at *
            go_wp2_with (at_builtin
                         refine wpList_appU w.heap.size _ _ rfl rfl _ K rfl (HU.grew (hK4.trans hl4)) ((hB.trans hK4).alloc _).size _ (.slice A4 R.length c4) _ rfl (rd_litU _ _ _) (hO4b.grew hl4) hLl ?_
                         intro v9 w9 hO9 hgr9
                         have hB9 := Grew.grown ((hB.trans hK4).alloc (.cells #[.slice A4 R.length c4] 24)) hgr9 (fun q hq => own_of_geU (HU.grew (hK4.trans hl4)) hq))
            go_roundw
            case rel => exact ⟨k + 1, by omega, by go_num, hB9, Lib.hid (by rw [hcy.out]; exact hO9)⟩
            case measure => simp [intOf]; omega
          | false =>
            rw [hpb] at hR2
            have hcy : Hid (zss (cds j (k + 1)) = zss (cds j k)) := Lib.hid (by rw [cds_no hpb])
            clear hR3 hpb
            go_wp2_with fail
            refine (hR1.out).mono ?_
            rintro e w2 ⟨rfl, hg2⟩
            go_wp2_with fail
            refine (hR2.out _ hg2).mono ?_
            rintro e w3 ⟨rfl, hg3⟩
            have hK3 := (hB2.trans hg2).trans hg3
            go_wp2_with fail
            go_roundw
            case rel => exact ⟨k + 1, by omega, by go_num, hB.trans hK3, Lib.hid (by rw [hcy.out]; have := HO3.out.grew hK3; rwa [zss_len] at this)⟩
            case measure => simp [intOf]; omega
    · obtain rfl : k = M := by omega
      have hne : 0 < (cds n k).length := by
        obtain ⟨N, c1, c2⟩ := chain_pB n (by omega)
        have := (cds_mem (n := n) (k := k)).2 ⟨N, by have h7 := HM.out; have h8 := HQ.out; rw [h7, h8]; exact c1, c2, rfl⟩
        exact List.length_pos_of_mem this
      have hS := Lib.hid (HSL.out wr _ _ hO.out cds_rows hne (Nat.le_trans (cds_len n k) (by omega)) hB)
      rw [zss_len] at hS
      have hEQ : Hid (∀ Ks, Asc Ks → (∀ x, x ∈ Ks ↔ x ∈ cds n k) → Ks = psts n) := Lib.hid (fun Ks ha hm => psts_eq ha (fun x => by rw [hm x, cds_mem, HM.out, HQ.out]))
      have hCL := cds_len n k
      clear hO
      generalize (cds n k).length = cl at *
      go_wp2_with fail
      refine (hS.out).mono ?_
      rintro e w1 ⟨u, Ks, rfl, hU, ha, hm, hlen, hg1⟩
      have he := hEQ.out Ks ha hm
      subst he
      clear ha hm
      have HAT := Lib.hid (fun i (hi : i < (psts n).length) => hU.at_ (i := i) (by rw [zss_len]; exact hi))
      have HGT := Lib.hid (fun i (hi : i < (psts n).length) => zss_get (Us := psts n) (i := i) hi)
      have HTK := Lib.hid (fun i (hi : i < (psts n).length) => take_next (L := psts n) [] hi)
      have HEND : Hid ((psts n).take (psts n).length = psts n) := Lib.hid List.take_length
      obtain ⟨A7, c7, rfl⟩ := hU.slice
      rw [zss_len] at HAT ⊢
      clear hU
      generalize hpl : (psts n).length = pl at *
      go_wp2_with fail
      go_loopw [7, 46] (fun s i wr => ∃ j : Nat, j ≤ pl ∧ i = .int .i64 (j : Int) ∧ Grew w1 wr ∧ Hid (OwnPs wr w.heap.size s ((psts n).take j)) ∧ Hid (∀ g, s.ownBlock = some g → w1.heap.size ≤ g)) (fun _ i _ => pl - (intOf i).toNat)
      case atStart => exact ⟨0, by omega, rfl, Grew.refl _, Lib.hid (OwnPs.nil_ _ _), Lib.hid (fun g hg => by cases hg)⟩
      case round =>
        obtain ⟨j, hj, rfl, hB2, hO2, hNB⟩ := hrel
        by_cases hlj : j < pl
        · obtain ⟨go, co, uo, he, hco, huo⟩ := HAT.out j hlj
          injection he with he1 _ he3
          subst he1 he3
          rw [HGT.out j hlj] at huo
          have hTK := Lib.hid (HTK.out j hlj)
          have hcell := hco wr hB2
          have hIo := huo.grew hB2
          have hR1 := Lib.hid (HPO.out uo _ wr hIo.ints)
          rw [zs_len] at hR1
          have hTL : ((psts n).take j).length ≤ 1048576 := by rw [List.length_take]; omega
          have HIo := Lib.hid hIo
          clear huo hIo hco
          generalize (psts n).getD j [] = L at *
          go_wp2_with fail
          refine (hR1.out).mono ?_
          rintro e w2 ⟨rfl, hg2⟩
          have hB3 := hB2.trans hg2
          have hl2 := (Grew.refl w2).alloc (.cells #[.int .i64 (L.length : Int), uo] 26)
          have hsz : w.heap.size ≤ (w2.alloc (.cells #[.int .i64 (L.length : Int), uo] 26)).heap.size := ((hg1.trans hB3).trans hl2).size
          have hO3 := hO2.out.grew (hg2.trans hl2)
          have hq : ∀ p ∈ [(uo, L)], OwnI (w2.alloc (.cells #[.int .i64 (L.length : Int), uo] 26)) w.heap.size p.1 (zs p.2) := fun p hp => by
            rw [List.mem_singleton] at hp
            subst hp
            exact HIo.out.grew (hg2.trans hl2)
          go_wp2_with (at_builtin
                       refine wpList_appPs w.heap.size _ _ rfl rfl _ ((psts n).take j) rfl hO3 hsz _ [(uo, L)] rfl (rd_litPs _ _ _ _) hq (by simp only [List.length_cons, List.length_nil]; omega) ?_
                       intro v9 w9 hO9 hgr9 hnb9
                       have hB9 := Grew.grown (hB3.trans hl2) hgr9 (fun q hq => hNB.out q hq)
                       have hNB9 : Hid (∀ g, v9.ownBlock = some g → w1.heap.size ≤ g) := Lib.hid (fun g hgg => by
                         rcases hnb9 with h0 | h0
                         · rw [h0] at hgg; exact hNB.out g hgg
                         · rw [h0] at hgg
                           injection hgg with hgg
                           rw [← hgg]
                           exact (hB3.trans hl2).size))
          go_roundw
          case rel => exact ⟨j + 1, by omega, by go_num, hB9, Lib.hid (by rw [hTK.out]; exact hO9), hNB9⟩
          case measure => simp [intOf]; omega
        · obtain rfl : j = pl := by omega
          have HO := Lib.hid hO2.out
          go_wp2_with fail
          go_ret
          exact ⟨_, rfl, by have := HO.out; rwa [HEND.out] at this, hg1.trans hB2⟩
end Go.Proofs.YtmcbjekianclpaaGreat

/- The program's small posets: smallPosets. -/
namespace Go.Proofs.YtmcbjekianclpaaGreat
open Go.RowKit

theorem psts_len {n : Nat} (h : n ≤ 4) : (psts n).length ≤ 65536 := by
  refine Nat.le_trans (List.length_filter_le _ _) (Nat.le_trans (allR_len n n) ?_)
  rw [← Nat.pow_mul]
  exact Nat.le_trans (Nat.pow_le_pow_right (by omega) (Nat.mul_le_mul h h)) (by decide)
/-- The posets with 1 to k elements. -/
def spsts (k : Nat) : List (List Nat) := (List.range k).flatMap fun i => psts (i + 1)
theorem spsts_succ (k : Nat) : spsts (k + 1) = spsts k ++ psts (k + 1) := by simp [spsts, List.range_succ]
theorem spsts_len : ∀ {k : Nat}, k ≤ 4 → (spsts k).length ≤ k * 65536
  | 0, _ => by simp [spsts]
  | k + 1, h => by
    rw [spsts_succ, List.length_append]
    have h1 := spsts_len (k := k) (by omega)
    have h2 := psts_len h
    omega

set_option maxHeartbeats 1000000 in
theorem smallPosets_c (w : World) :
    Calls Tryz.prog 22 #[] w fun e w' => ∃ v, e = .returned v ∧ OwnPs w' w.heap.size v (spsts 4) ∧ Grew w w' := by
  have HP := Lib.hid posetsOf_c
  have HSU := Lib.hid spsts_succ
  have HSL := Lib.hid (fun k (h : k ≤ 4) => spsts_len h)
  have HPL := Lib.hid (fun n (h : n ≤ 4) => psts_len h)
  go_enter Tryz.func22, Tryz.ntmps22
  go_wp2_with fail
  go_loopw [1, 2] (fun s i wr => ∃ k n : Nat, k ≤ 4 ∧ n = k + 1 ∧ i = .int .i64 (n : Int) ∧ Grew w wr ∧ Hid (OwnPs wr w.heap.size s (spsts k))) (fun _ i _ => 5 - (intOf i).toNat)
  case atStart => exact ⟨0, 1, by omega, rfl, rfl, Grew.refl _, Lib.hid (OwnPs.nil_ _ _)⟩
  case round =>
    obtain ⟨k, n, hk, hn, rfl, hB, hO⟩ := hrel
    by_cases hlt : n ≤ 4
    · have hP := Lib.hid (HP.out n (by omega) hlt wr)
      have hsu := HSU.out k
      rw [← hn] at hsu
      have HS := Lib.hid hsu
      have hpl := HPL.out n hlt
      have hsl := HSL.out k hk
      have hlt' : (n : Int) ≤ 4 := by omega
      have HN := Lib.hid hn
      clear hsu hn
      go_wp2_with fail
      refine (hP.out).mono ?_
      rintro e w2 ⟨v2, rfl, hO2, hg2⟩
      have hB2 := hB.trans hg2
      have hO3 := hO.out.grew hg2
      obtain ⟨qs, q1, q2, q3, q4⟩ := (hO2.base hB.size).rd
      obtain ⟨A2, c2, rfl⟩ := hO2.slice
      rw [← q1] at HS
      clear hO2 q1
      go_wp2_with (at_builtin
                   refine wpList_appPs w.heap.size _ _ rfl rfl _ (spsts k) rfl hO3 hB2.size _ qs rfl q3 q4 (by omega) ?_
                   intro v9 w9 hO9 hgr9 hnb9
                   have hB9 := Grew.grown hB2 hgr9 (fun q hq => hO3.ge hq))
      go_roundw
      case rel => exact ⟨n, n + 1, by omega, rfl, by go_num, hB9, Lib.hid (by rw [HS.out]; exact hO9)⟩
      case measure => simp [intOf]; have := HN.out; omega
    · obtain rfl : k = 4 := by omega
      have hlt' : ¬ (n : Int) ≤ 4 := by omega
      have HO := Lib.hid hO.out
      clear hO
      go_wp2_with fail
      go_ret
      exact ⟨_, rfl, HO.out, hB⟩
end Go.Proofs.YtmcbjekianclpaaGreat

/- Valuations by their numbers, plain: the lists with the numbers below |U|^m are those of fs. No program is in sight. -/
namespace Go.Proofs.YtmcbjekianclpaaGreat

/-- The row of the valuation with a number, the last c variables done. -/
def sK (U vars : List Nat) (k : Nat) (f0 : Nat → Nat) : Nat → Nat → Nat
  | 0 => f0
  | c + 1 => fun v => if v = nt vars (vars.length - 1 - c) then nt U (k / U.length ^ c % U.length) else sK U vars k f0 c v
theorem sK_tail (U : List Nat) (v : Nat) (vs : List Nat) (k : Nat) (f0 : Nat → Nat) : ∀ c, c ≤ vs.length → sK U (v :: vs) k f0 c = sK U vs k f0 c
  | 0, _ => rfl
  | c + 1, h => by
    show (fun x => if x = nt (v :: vs) ((v :: vs).length - 1 - c) then _ else sK U (v :: vs) k f0 c x) = fun x => if x = nt vs (vs.length - 1 - c) then _ else sK U vs k f0 c x
    have e : nt (v :: vs) ((v :: vs).length - 1 - c) = nt vs (vs.length - 1 - c) := by
      have : (v :: vs).length - 1 - c = (vs.length - 1 - c) + 1 := by simp; omega
      rw [this]
      simp [nt]
    rw [e, sK_tail U v vs k f0 c (by omega)]
theorem sK_set (U vs : List Nat) (k : Nat) (f0 : Nat → Nat) {v u : Nat} (hv : v ∉ vs) : ∀ c, c ≤ vs.length → sK U vs k (fun i => if i = v then u else f0 i) c = fun i => if i = v then u else sK U vs k f0 c i
  | 0, _ => rfl
  | c + 1, h => by
    funext i
    show (if i = nt vs (vs.length - 1 - c) then _ else sK U vs k (fun i => if i = v then u else f0 i) c i) = if i = v then u else (if i = nt vs (vs.length - 1 - c) then _ else sK U vs k f0 c i)
    rw [sK_set U vs k f0 hv c (by omega)]
    show (if i = nt vs (vs.length - 1 - c) then _ else (if i = v then u else sK U vs k f0 c i)) = _
    by_cases hi : i = v
    · subst hi
      have hne : i ≠ nt vs (vs.length - 1 - c) := fun he => hv (by rw [he]; exact nt_mem (by omega))
      rw [if_neg hne, if_pos rfl, if_pos rfl]
    · rw [if_neg hi, if_neg hi]
theorem sK_cons (U : List Nat) {v : Nat} {vs : List Nat} (hv : v ∉ vs) (k : Nat) (f0 : Nat → Nat) :
    sK U (v :: vs) k f0 (vs.length + 1) = sK U vs k (fun i => if i = v then nt U (k / U.length ^ vs.length % U.length) else f0 i) vs.length := by
  rw [sK_set U vs k f0 hv vs.length (Nat.le_refl _)]
  funext i
  show (if i = nt (v :: vs) ((v :: vs).length - 1 - vs.length) then _ else sK U (v :: vs) k f0 vs.length i) = _
  have e : nt (v :: vs) ((v :: vs).length - 1 - vs.length) = v := by
    have : (v :: vs).length - 1 - vs.length = 0 := by simp
    rw [this]
    simp [nt]
  rw [e, sK_tail U v vs k f0 vs.length (Nat.le_refl _)]
theorem sK_mem {U : List Nat} (hU : 0 < U.length) : ∀ (vs : List Nat), vs.Nodup → ∀ (k : Nat) (f0 : Nat → Nat), lf (sK U vs k f0 vs.length) ∈ fs U vs (lf f0)
  | [], _, k, f0 => List.mem_singleton.2 rfl
  | v :: vs, hn, k, f0 => by
    rw [List.nodup_cons] at hn
    rw [List.length_cons, sK_cons U hn.1]
    refine List.mem_flatMap.2 ⟨nt U (k / U.length ^ vs.length % U.length), nt_mem (Nat.mod_lt _ hU), ?_⟩
    rw [lf_set]
    exact sK_mem hU vs hn.2 k _
theorem digit_low {b k d m c : Nat} (h : c < m) : (k + d * b ^ m) / b ^ c % b = k / b ^ c % b := by
  rcases Nat.eq_zero_or_pos b with rfl | hb
  · have hm : 0 < m := by omega
    rw [Nat.zero_pow hm, Nat.mul_zero, Nat.add_zero]
  · have e : d * b ^ m = b ^ c * (d * b ^ (m - c - 1) * b) := by
      have h1 : b ^ m = b ^ c * (b ^ (m - c - 1) * b) := by
        rw [← Nat.pow_succ, ← Nat.pow_add]
        congr 1
        omega
      rw [h1, Nat.mul_left_comm, Nat.mul_assoc d]
    rw [e, Nat.add_mul_div_left _ _ (Nat.pow_pos hb), Nat.add_mul_mod_self_right]
theorem sK_low (U vs : List Nat) (k d m : Nat) (f0 : Nat → Nat) : ∀ c, c ≤ m → sK U vs (k + d * U.length ^ m) f0 c = sK U vs k f0 c
  | 0, _ => rfl
  | c + 1, h => by
    show (fun x => if x = _ then nt U ((k + d * U.length ^ m) / U.length ^ c % U.length) else sK U vs (k + d * U.length ^ m) f0 c x) = _
    rw [digit_low (by omega), sK_low U vs k d m f0 c (by omega)]
    rfl
theorem sK_onto {U : List Nat} : ∀ (vs : List Nat), vs.Nodup → ∀ (f0 : Nat → Nat) (x : List Nat), x ∈ fs U vs (lf f0) → ∃ k, k < U.length ^ vs.length ∧ x = lf (sK U vs k f0 vs.length)
  | [], _, f0, x, hx => ⟨0, by simp, List.mem_singleton.1 hx⟩
  | v :: vs, hn, f0, x, hx => by
    rw [List.nodup_cons] at hn
    obtain ⟨u, hu, hx⟩ := List.mem_flatMap.1 hx
    obtain ⟨d, hd, rfl⟩ := mem_nt hu
    rw [lf_set] at hx
    obtain ⟨k, hk, rfl⟩ := sK_onto vs hn.2 _ x hx
    refine ⟨k + d * U.length ^ vs.length, ?_, ?_⟩
    · rw [List.length_cons, Nat.pow_succ]
      have h1 : (d + 1) * U.length ^ vs.length ≤ U.length * U.length ^ vs.length := Nat.mul_le_mul_right _ hd
      rw [Nat.add_mul, Nat.one_mul] at h1
      rw [Nat.mul_comm (U.length ^ vs.length)]
      omega
    · rw [List.length_cons, sK_cons U hn.1]
      have e : (k + d * U.length ^ vs.length) / U.length ^ vs.length % U.length = d := by
        rw [Nat.add_mul_div_right _ _ (by omega), Nat.div_eq_of_lt hk, Nat.zero_add, Nat.mod_eq_of_lt hd]
      rw [e, sK_low U vs k d vs.length _ vs.length (Nat.le_refl _)]
/-- The members of a mask are distinct. -/
theorem mbs_nodup (m : Nat) : (mbs m).Nodup := List.Nodup.sublist (List.filter_sublist) List.nodup_range
theorem any_val {U vars : List Nat} (hU : 0 < U.length) (hn : vars.Nodup) (p : List Nat → Bool) (f0 : Nat → Nat) :
    (fs U vars (lf f0)).any p = (List.range (U.length ^ vars.length)).any fun k => p (lf (sK U vars k f0 vars.length)) := by
  rw [Bool.eq_iff_iff, List.any_eq_true, List.any_eq_true]
  constructor
  · rintro ⟨x, hx, hp⟩
    obtain ⟨k, hk, rfl⟩ := sK_onto vars hn f0 x hx
    exact ⟨k, List.mem_range.2 hk, hp⟩
  · rintro ⟨k, _, hp⟩
    exact ⟨_, sK_mem hU vars hn k f0, hp⟩
end Go.Proofs.YtmcbjekianclpaaGreat

/- The reference's search for a valuation that refutes a formula on a poset: l16Upsets, l17Power, l17Values, l17First, l17Valid. -/
namespace Go.Proofs.YtmcbjekianclpaaGreat
open Go.RowKit
open Fm (Nd Tree)

theorem l16UpsetsX_c (v : Value) (A : List Nat) (w : World) (h : Ints w v (zs A)) (hA : Rl A) (h8 : A.length ≤ 8) :
    Calls Tryz.prog 56 #[.agg #[.int .i64 (A.length : Int), v]] w (GivesI w (zs (upK A (2 ^ A.length)))) := by
  have hal := (Grew.refl w).alloc (.cells #[.int .i64 (A.length : Int), v] 26)
  have y0 : ∀ W, Grew (w.alloc (.cells #[.int .i64 (A.length : Int), v] 26)) W → W.cell? ⟨w.heap.size, 0, none⟩ = some (.int .i64 (A.length : Int)) := fun W hW => (hW.cell (p := ⟨w.heap.size, 0, none⟩) (by simp)).trans (by simp)
  have y1 : ∀ W, Grew (w.alloc (.cells #[.int .i64 (A.length : Int), v] 26)) W → W.cell? ⟨w.heap.size, 1, none⟩ = some v := fun W hW => (hW.cell (p := ⟨w.heap.size, 1, none⟩) (by simp)).trans (by simp)
  have HG := Lib.hid hal
  have KF := Lib.hid (fun W => l01Full_q A.length (by omega) W)
  have KI := Lib.hid (fun m (hm : m < 2 ^ A.length) W (hW : Grew w W) => l01Image_c v A m W (h.grew hW) hA.sm hA.1 hm)
  have hp : 0 < 2 ^ A.length := Nat.pow_pos (by omega)
  have hp2 : 2 ^ A.length ≤ 256 := Nat.le_trans (Nat.pow_le_pow_right (by omega) h8) (by decide)
  have HE := Lib.hid (fun (j : Nat) (hj : j < 2 ^ A.length) => (show upB A (j : Int) = decide (img A j = j) by unfold upB; rw [mk_yes hj, Bool.true_and, Int.toNat_natCast]))
  have HY := Lib.hid (fun (k : Nat) (hk : upB A (k : Int) = true) => (congrArg zs (upK_yes (A := A) (k := k) hk)).trans (zs_snoc _ _))
  have HN := Lib.hid (fun (k : Nat) (hk : upB A (k : Int) = false) => congrArg zs (upK_no (A := A) (k := k) hk))
  have HL := Lib.hid (fun k => Nat.le_trans (Nat.le_of_eq (zs_len (upK A k))) (upK_len A k))
  obtain ⟨A', c, rfl⟩ := ints_sliceN h
  have r1 := Grew.refl (w.alloc (.cells #[.int .i64 (A.length : Int), .slice A' A.length c] 26))
  clear h hA hal
  generalize A.length = n at *
  generalize (2 ^ n : Nat) = P at *
  obtain ⟨w0, hw0⟩ : ∃ w0, w0 = w.alloc (.cells #[.int .i64 (n : Int), .slice A' n c] 26) := ⟨_, rfl⟩
  rw [← hw0] at y0 y1 HG r1
  go_enter Tryz.func56, Tryz.ntmps56
  go_wp2_with fail
  have hs0 : w0.heap.size = w.heap.size + 1 := by rw [hw0]; simp
  have HS0 := Lib.hid hs0
  clear hs0
  simp only [← hw0]
  clear hw0
  go_loopw [3, 4] (fun s i wr => ∃ j : Nat, j ≤ P ∧ i = .int .i64 j ∧ Grew w0 wr ∧ Hid (OwnI wr w0.heap.size s (zs (upK A j)))) (fun _ i _ => P - (intOf i).toNat)
  case atStart => exact ⟨0, by omega, rfl, (Grew.refl _).alloc _, Lib.hid (by rw [show w.heap.size + 1 = w0.heap.size by have := HS0.out; omega]; exact own_emptyI w0)⟩
  case round =>
    obtain ⟨j, hj, rfl, hB, hO⟩ := hrel
    have hBw := HG.out.trans hB
    have z0 := fun W (hW : Grew wr W) => y0 W (hB.trans hW)
    have z1 := fun W (hW : Grew wr W) => y1 W (hB.trans hW)
    have hr0 := Grew.refl wr
    by_cases hlt : j < P
    · have hle : (j : Int) ≤ (P : Int) - 1 := by omega
      go_wp2_with fail
      refine (KF.out _).mono ?_
      rintro e w2 ⟨rfl, rfl⟩
      have hI := Lib.hid (KI.out j hlt)
      have hE := HE.out j hlt
      have hY := Lib.hid (HY.out j)
      have hN := Lib.hid (HN.out j)
      have hl : (zs (upK A j)).length ≤ 1048576 := by have := HL.out j; omega
      rw [hE] at hY hN
      clear hE
      generalize img A j = q at *
      go_wp2_with fail
      refine (hI.out _ hBw).mono ?_
      rintro e w3 ⟨rfl, hg3⟩
      have hB3 := hB.trans hg3
      have hO3 := hO.out.grew hg3
      by_cases hq : q = j
      · have hqb : ((q : Int) == (j : Int)) = true := by simp [hq]
        have hy := Lib.hid (hY.out (decide_eq_true hq))
        generalize zs (upK A j) = K at *
        clear hq
        go_wp2_with (first | (at_builtin; refine wpList_appI (w0 := w0) _ _ rfl rfl _ K rfl (hO3.grew (Grew.alloc (Grew.refl _) _)) (hB3.alloc _) _ (j : Int) rfl (rd_litI _ _ _) hl ?_; intro v4 w4 hO4 hg4 _))
        go_roundw
        case rel => exact ⟨j + 1, by omega, by go_num, hg4, Lib.hid (by rw [hy.out]; exact hO4)⟩
        case measure => simp [intOf]; omega
      · have hqb : ((q : Int) == (j : Int)) = false := by simp; omega
        have hn := Lib.hid (hN.out (decide_eq_false hq))
        clear hq
        go_wp2_with fail
        go_roundw
        case rel => exact ⟨j + 1, by omega, by go_num, hB3, Lib.hid (by rw [hn.out]; exact hO3)⟩
        case measure => simp [intOf]; omega
    · obtain rfl : j = P := by omega
      have hle : ¬ (j : Int) ≤ (j : Int) - 1 := by omega
      go_wp2_with fail
      refine (KF.out _).mono ?_
      rintro e w2 ⟨rfl, rfl⟩
      go_wp2_with fail
      go_ret
      exact ⟨_, rfl, hO.out.base HG.out.size, hBw⟩

theorem l17Power_c (a m : Nat) (h1 : 1 ≤ a) (ha : a ≤ 256) (hm : m ≤ 6) (hp : a ^ m ≤ 4096) (w : World) :
    Calls Tryz.prog 57 #[.int .i64 (a : Int), .int .i64 (m : Int)] w fun e w' => e = .returned (.int .i64 ((a ^ m : Nat) : Int)) ∧ w' = w := by
  have HP := Lib.hid (fun j (hj : j ≤ m) => Nat.le_trans (Nat.pow_le_pow_right h1 hj) hp)
  have HS := Lib.hid (fun j => Nat.pow_succ (n := a) (m := j))
  go_enter Tryz.func57, Tryz.ntmps57
  go_wp2_with fail
  go_loopw [1, 5] (fun k q wr => ∃ j : Nat, j ≤ m ∧ k = .int .i64 ((m - j : Nat) : Int) ∧ q = .int .i64 ((a ^ j : Nat) : Int) ∧ wr = w) (fun k _ _ => (intOf k).toNat)
  case atStart => exact ⟨0, by omega, rfl, by simp, rfl⟩
  case round =>
    obtain ⟨j, hj, rfl, rfl, rfl⟩ := hrel
    have hle := HP.out j hj
    have hs := HS.out j
    by_cases hlt : j < m
    · have hle2 := HP.out (j + 1) hlt
      rw [hs] at hle2
      have hm1 : ((m - j : Nat) : Int) - 1 = ((m - (j + 1) : Nat) : Int) := by omega
      have hgt : (0 : Int) < ((m - j : Nat) : Int) := by omega
      have hb : ((a ^ j : Nat) : Int) ≤ 4096 := by omega
      have hmul : ((a ^ j : Nat) : Int) * (a : Int) = ((a ^ j * a : Nat) : Int) := by rw [Int.natCast_mul]
      have hHs := Lib.hid hs
      clear hs
      generalize a ^ j * a = r at *
      generalize a ^ j = q at *
      have hw : IntKind.i64.wrap ((q : Int) * (a : Int)) = (r : Int) := by rw [hmul, IntKind.wrap_i64]; omega
      have hw2 : wrap64 ((m - (j + 1) : Nat) : Int) = ((m - (j + 1) : Nat) : Int) := by unfold wrap64; omega
      clear hmul
      go_wp2_with fail
      go_roundw
      case rel => exact ⟨j + 1, by omega, rfl, by rw [← hHs.out], trivial⟩
      case measure => simp [intOf]; omega
    · obtain rfl : j = m := by omega
      have hgt : ¬ (0 : Int) < ((j - j : Nat) : Int) := by omega
      clear hs
      go_wp2_with fail
      go_ret
      exact ⟨rfl, rfl⟩

/-- One more variable of the row is done. -/
def SKs (U vars : List Nat) (k c : Nat) (x y : Nat) : Prop := (fun v => if v = x then y else sK U vars k (fun _ => 0) c v) = sK U vars k (fun _ => 0) (c + 1)
theorem made_nrow (w : World) : NRow (w.alloc (.cells (madeCells #[Value.int .i64 0] 6) 2)) w.heap.size 6 6 (fun _ => 0) := ⟨_, blk_new w _, size_madeCells _ _, Nat.le_refl _, by omega, fun i hi => made_z hi⟩
set_option maxHeartbeats 1000000 in
theorem l17Values_c (vU vV : Value) (U vars : List Nat) (k : Nat) (w : World) (hU : Ints w vU (zs U)) (hV : Ints w vV (zs vars)) (h1 : 1 ≤ U.length) (hu : U.length ≤ 256) (h6 : ∀ v ∈ vars, v < 6) (hv6 : vars.length ≤ 6) (hk : k < 1000000) :
    Calls Tryz.prog 58 #[vU, vV, .int .i64 (k : Int)] w (GivesI w (zs (lf (sK U vars k (fun _ => 0) vars.length)))) := by
  have hmk : ∀ W : World, (Instr.makeSlice 24 (.int .i64 6) (.int .i64 6)).run Tryz.prog W = .ok (.slice (some ⟨W.heap.size, 0, none⟩) 6 6) (W.alloc (.cells (madeCells #[Value.int .i64 0] 6) 2)) := fun W => run_make_rows (P := Tryz.prog) 24 2 (.int .i64 0) 1 8 #[.int .i64 0] Tryz.underlying24 Tryz.infoI rfl .i64 .i64 6 (by omega) (by omega) W
  have HR0 := Lib.hid (made_nrow w)
  have HAL := Lib.hid ((Grew.refl w).alloc (.cells (madeCells #[Value.int .i64 0] 6) 2))
  have HS := Lib.hid (fun c => (show SKs U vars k c (nt vars (vars.length - 1 - c)) (nt U (k / U.length ^ c % U.length)) from rfl))
  have HD := Lib.hid (fun c => (show k / U.length ^ (c + 1) = k / U.length ^ c / U.length by rw [Nat.pow_succ, Nat.div_div_eq_div_mul]))
  have HV6 := Lib.hid (fun i (hi : i < vars.length) => h6 _ (nt_mem hi))
  have HN := Lib.hid (fun c => Nat.div_le_self k (U.length ^ c))
  have HRES : Hid (∀ c, c = vars.length → zs (lf (sK U vars k (fun _ => 0) c)) = zs (lf (sK U vars k (fun _ => 0) vars.length))) := Lib.hid (fun c hc => by rw [hc])
  generalize hRR : zs (lf (sK U vars k (fun _ => 0) vars.length)) = RR at *
  clear hRR
  obtain ⟨A1, c1, rfl⟩ := ints_sliceN hU
  obtain ⟨A2, c2, rfl⟩ := ints_sliceN hV
  have HC := Lib.hid (fun h0 => cellsN hU h0)
  have HE := Lib.hid (fun h0 => cellsN hV h0)
  clear hU hV h6
  generalize hm : vars.length = m at *
  generalize ha : U.length = a at *
  clear hm ha
  go_enter Tryz.func58, Tryz.ntmps58
  go_wp2_with fail
  go_loopw [2, 8] (fun n i wr => ∃ c : Nat, c ≤ m ∧ i = .int .i64 ((m : Int) - 1 - c) ∧ n = .int .i64 ((k / a ^ c : Nat) : Int) ∧ Grew w wr ∧ Hid (NRow wr w.heap.size 6 6 (sK U vars k (fun _ => 0) c))) (fun _ i _ => (intOf i + 1).toNat)
  case atStart => exact ⟨0, by omega, by simp, by simp, HAL.out, HR0⟩
  case round =>
    obtain ⟨c, hc, rfl, rfl, hB, hR⟩ := hrel
    by_cases hlt : c < m
    · obtain ⟨i, hi⟩ : ∃ i : Nat, i = m - 1 - c := ⟨_, rfl⟩
      have hii : (m : Int) - 1 - c = (i : Int) := by omega
      rw [hii]
      obtain ⟨b1, o1, rfl, hc1⟩ := HC.out (by omega)
      obtain ⟨b2, o2, rfl, hc2⟩ := HE.out (by omega)
      have hn := HN.out c
      have hd := HD.out c
      have hs := HS.out c
      rw [← hi] at hs
      have hx6 := HV6.out i (by omega)
      have hma : k / a ^ c % a < a := Nat.mod_lt _ (by omega)
      have k1 : ∀ W, Grew wr W → W.cell? ⟨b2, o2 + i, none⟩ = some (.int .i64 ((nt vars i : Nat) : Int)) := fun W hW => hc2 i (by omega) W (hB.trans hW)
      have k2 : ∀ W, Grew wr W → W.cell? ⟨b1, o1 + k / a ^ c % a, none⟩ = some (.int .i64 ((nt U (k / a ^ c % a) : Nat) : Int)) := fun W hW => hc1 _ hma W (hB.trans hW)
      have HSS := Lib.hid hs
      clear hc1 hc2 hi
      obtain ⟨q, hq⟩ : ∃ q, q = k / a ^ c := ⟨_, rfl⟩
      rw [← hq] at hd hn hma k2 HSS
      rw [← hq]
      have HDD := Lib.hid hd
      have hqk : q / a ≤ q := Nat.div_le_self q a
      clear hs hd hq
      have k3 : ∀ W, Grew wr W → W.cell? ⟨w.heap.size, nt vars i, none⟩ = some (.int .i64 ((sK U vars k (fun _ => 0) c (nt vars i) : Nat) : Int)) := fun W hW => (hR.out.grew hW).cell hx6
      have k4 : ∀ W, Grew wr W → W.frozen? ⟨w.heap.size, nt vars i, none⟩ = false := fun W hW => (hR.out.grew hW).free _
      have hmod : ((q : Int)).tmod (a : Int) = ((q % a : Nat) : Int) := by rw [Int.tmod_eq_emod_of_nonneg (by omega)]; exact (Int.natCast_emod q a).symm
      have hdv : wrap64 ((q : Int) / (a : Int)) = ((q / a : Nat) : Int) := by rw [← Int.natCast_ediv]; have h9 : q / a < 1000000 := Nat.lt_of_le_of_lt hqk (by omega); generalize q / a = z at h9 ⊢; unfold wrap64; omega
      have HDV := Lib.hid hdv
      have e1 : (fun v => if v = nt vars i then nt U (q % a) else sK U vars k (fun _ => 0) c v) (nt vars i) = nt U (q % a) := if_pos rfl
      have e2 : ∀ v, v < 6 → v ≠ nt vars i → (fun v => if v = nt vars i then nt U (q % a) else sK U vars k (fun _ => 0) c v) v = sK U vars k (fun _ => 0) c v := fun v _ hv => if_neg hv
      have hR3 := (hR.out.set hx6 e1 e2).grew (Grew.refl _).drew
      rw [show (fun v => if v = nt vars i then nt U (q % a) else sK U vars k (fun _ => 0) c v) = sK U vars k (fun _ => 0) (c + 1) from HSS.out] at hR3
      have HR3 := Lib.hid hR3
      clear e1 e2 hR3 hdv
      generalize nt U (q % a) = y at *
      generalize nt vars i = x at *
      generalize q % a = r at *
      have r1 := Grew.refl wr
      have r2 := (Grew.refl wr).drew
      have g1 : (0 : Int) ≤ (i : Int) := by omega
      have g2 : (i : Int) < (m : Int) := by omega
      have g3 : (0 : Int) ≤ (r : Int) := by omega
      have g4 : (r : Int) < (a : Int) := by omega
      have g5 : (0 : Int) ≤ (x : Int) := by omega
      have g6 : (x : Int) < 6 := by omega
      have g7 : ¬ (a : Int) = 0 := by omega
      go_wp2_with fail
      go_region
      go_wp2_with fail
      go_roundw
      case rel => exact ⟨c + 1, by omega, congrArg (Value.int .i64) (by omega), by rw [HDV.out, HDD.out], (hB.setCell (Nat.le_refl _) _).drew, HR3⟩
      case measure => simp [intOf]
    · obtain rfl : c = m := by omega
      have hneg : ¬ (0 : Int) ≤ (c : Int) - 1 - c := by omega
      have HRS := Lib.hid (HRES.out c rfl)
      go_wp2_with fail
      go_ret
      refine ⟨_, rfl, ?_, hB⟩
      rw [← HRS.out]
      exact hR.out.own (Nat.le_refl _)

/-- Some valuation below a number does not force the formula everywhere. -/
def badK (A U vars : List Nat) (t : Tree) (k : Nat) : Bool := (List.range k).any fun j => !(fv A (lf (sK U vars j (fun _ => 0) vars.length)) t == full A.length)
theorem badK_succ (A U vars : List Nat) (t : Tree) (k : Nat) : badK A U vars t (k + 1) = (badK A U vars t k || !(fv A (lf (sK U vars k (fun _ => 0) vars.length)) t == full A.length)) := by
  unfold badK
  rw [List.range_succ, List.any_append]
  simp
theorem badK_mono {A U vars : List Nat} {t : Tree} {k n : Nat} (h : badK A U vars t k = true) (hk : k ≤ n) : badK A U vars t n = true := by
  unfold badK at *
  rw [List.any_eq_true] at *
  obtain ⟨j, hj, hb⟩ := h
  exact ⟨j, List.mem_range.2 (Nat.lt_of_lt_of_le (List.mem_range.1 hj) hk), hb⟩
theorem badV_K (A : List Nat) {U vars : List Nat} (hU : 0 < U.length) (hn : vars.Nodup) (t : Tree) : badV A U vars t = badK A U vars t (U.length ^ vars.length) := any_val hU hn _ _

set_option maxHeartbeats 1000000 in
theorem l17First_c (v va : Value) (A : List Nat) (t : Tree) (w : World) (h : Ints w v (zs A)) (ha : Nodes w va (Fm.enc t)) (hA : Rl A) (h8 : A.length ≤ 8) (ht : FmOk t) (hvs : Vs (Fm.enc t)) (hn : (Fm.enc t).length ≤ 1048576)
    (hu1 : 1 ≤ (upK A (2 ^ A.length)).length) (hp : (upK A (2 ^ A.length)).length ^ (mbs (vm (Fm.enc t))).length ≤ 4096) :
    Calls Tryz.prog 38 #[.agg #[.int .i64 (A.length : Int), v], va] w fun e w' => ∃ u m, e = .returned (.tuple #[u, m, .bool (badK A (upK A (2 ^ A.length)) (mbs (vm (Fm.enc t))) t ((upK A (2 ^ A.length)).length ^ (mbs (vm (Fm.enc t))).length))]) ∧ Grew w w' := by
  have hm6 : (mbs (vm (Fm.enc t))).length ≤ 6 := mbs_length6 (n := 6) (by have := vmK_lt hvs (Fm.enc t).length (Nat.le_refl _); unfold vm; exact this) (by omega)
  have hv6 : ∀ x ∈ mbs (vm (Fm.enc t)), x < 6 := fun x hx => mbs_lt (n := 6) (by have := vmK_lt hvs (Fm.enc t).length (Nat.le_refl _); unfold vm; exact this) hx
  have hu : (upK A (2 ^ A.length)).length ≤ 256 := Nat.le_trans (upK_len _ _) (Nat.le_trans (Nat.pow_le_pow_right (by omega) h8) (by decide))
  have hgood : ∀ k, (lf (sK (upK A (2 ^ A.length)) (mbs (vm (Fm.enc t))) k (fun _ => 0) (mbs (vm (Fm.enc t))).length)).length = 6 ∧ ∀ m ∈ lf (sK (upK A (2 ^ A.length)) (mbs (vm (Fm.enc t))) k (fun _ => 0) (mbs (vm (Fm.enc t))).length), m < 2 ^ A.length := fun k =>
    fs_good (P := fun m => m < 2 ^ A.length) (fun u hu => (upK_mem hu).1) _ _ (lf_len (fun _ => 0)) (fun m hm => by
      unfold lf at hm
      obtain ⟨i, _, rfl⟩ := List.mem_map.1 hm
      exact Nat.pow_pos (by omega)) _ (sK_mem (by omega) _ (mbs_nodup _) k _)
  have HUP := Lib.hid (fun W (hW : Grew w W) => l16UpsetsX_c v A W (h.grew hW) hA h8)
  have HVR := Lib.hid (fun W (hW : Grew w W) => l02Variables_c va (Fm.enc t) W (ha.grew hW) hvs hn)
  have HFO := Lib.hid (fun k u W (hW : Grew w W) (hu : Ints W u (zs (lf (sK (upK A (2 ^ A.length)) (mbs (vm (Fm.enc t))) k (fun _ => 0) (mbs (vm (Fm.enc t))).length)))) => force_ok A _ hA (hgood k).2 (hgood k).1 t v u va W (h.grew hW) hu (ha.grew hW) ht)
  have HFL := Lib.hid (fun W => l01Full_q A.length (by omega) W)
  rw [← full_cast] at HFL
  have HPW := Lib.hid (l17Power_c (upK A (2 ^ A.length)).length (mbs (vm (Fm.enc t))).length hu1 hu hm6 hp)
  have HVL := Lib.hid (fun vU vV k W (hU : Ints W vU (zs (upK A (2 ^ A.length)))) (hV : Ints W vV (zs (mbs (vm (Fm.enc t))))) (hk : k < 1000000) => l17Values_c vU vV (upK A (2 ^ A.length)) (mbs (vm (Fm.enc t))) k W hU hV hu1 hu hv6 hm6 hk)
  have HBS := Lib.hid (fun k => badK_succ A (upK A (2 ^ A.length)) (mbs (vm (Fm.enc t))) t k)
  have HBM := Lib.hid (fun k n h hk => @badK_mono A (upK A (2 ^ A.length)) (mbs (vm (Fm.enc t))) t k n h hk)
  have HB0 : Hid (badK A (upK A (2 ^ A.length)) (mbs (vm (Fm.enc t))) t 0 = false) := Lib.hid rfl
  have HL6 := Lib.hid (fun k => (hgood k).1)
  obtain ⟨A1, c1, rfl⟩ := ints_sliceN h
  obtain ⟨A2, c2, rfl⟩ := nodes_slice ha
  have hga := (Grew.refl w).alloc (.cells #[.int .i64 (A.length : Int), .slice A1 A.length c1] 26)
  have y0 : ∀ W, Grew (w.alloc (.cells #[.int .i64 (A.length : Int), .slice A1 A.length c1] 26)) W → W.cell? ⟨w.heap.size, 0, none⟩ = some (.int .i64 (A.length : Int)) := fun W hW => (hW.cell (p := ⟨w.heap.size, 0, none⟩) (by simp)).trans (by simp)
  have y1 : ∀ W, Grew (w.alloc (.cells #[.int .i64 (A.length : Int), .slice A1 A.length c1] 26)) W → W.cell? ⟨w.heap.size, 1, none⟩ = some (.slice A1 A.length c1) := fun W hW => (hW.cell (p := ⟨w.heap.size, 1, none⟩) (by simp)).trans (by simp)
  obtain ⟨w0, hw0⟩ : ∃ w0, w0 = w.alloc (.cells #[.int .i64 (A.length : Int), .slice A1 A.length c1] 26) := ⟨_, rfl⟩
  rw [← hw0] at hga y0 y1
  have HG := Lib.hid hga
  clear h ha hA ht hvs hga hu1 hv6 hgood hu
  have HK := Lib.hid (rfl : 1000000 = 1000000)
  have hpb : (upK A (2 ^ A.length)).length ^ (mbs (vm (Fm.enc t))).length < 1000000 := by omega
  generalize (upK A (2 ^ A.length)).length ^ (mbs (vm (Fm.enc t))).length = T at *
  generalize upK A (2 ^ A.length) = U at *
  generalize mbs (vm (Fm.enc t)) = vars at *
  have r1 := Grew.refl w0
  go_enter Tryz.func38, Tryz.ntmps38
  go_wp2_with fail
  simp only [← hw0]
  clear hw0
  refine (HUP.out _ HG.out).mono ?_
  rintro e w1 ⟨v1, rfl, hO1, hg1⟩
  obtain ⟨A3, c3, rfl⟩ := ints_sliceN hO1.ints
  have HI1 := Lib.hid hO1.ints
  clear hO1
  go_wp2_with fail
  refine (HVR.out _ (HG.out.trans hg1)).mono ?_
  rintro e w2 ⟨v2, rfl, hO2, hg2⟩
  obtain ⟨A4, c4, rfl⟩ := ints_sliceN hO2.ints
  have HI2 := Lib.hid hO2.ints
  clear hO2
  go_wp2_with fail
  refine (HPW.out _).mono ?_
  rintro e w3 ⟨rfl, rfl⟩
  have hg12 := hg1.trans hg2
  have HI1b := Lib.hid (HI1.out.grew hg2)
  clear HI1 hg1 hg2
  go_wp2_with fail
  go_loopw [10, 11, 12] (fun i _ _ wr => ∃ k : Nat, k ≤ T ∧ i = .int .i64 k ∧ Hid (badK A U vars t k = false) ∧ Grew w3 wr) (fun i _ _ _ => T - (intOf i).toNat)
  case atStart => exact ⟨0, by omega, rfl, HB0, Grew.refl _⟩
  case round =>
    obtain ⟨k, hk, rfl, hbk, hB⟩ := hrel
    have hW0 : Grew w0 wr := hg12.trans hB
    by_cases hlt : k < T
    · go_wp2_with fail
      refine (HVL.out _ _ k wr (HI1b.out.grew hB) (HI2.out.grew hB) (by omega)).mono ?_
      rintro e w4 ⟨v4, rfl, hO4, hg4⟩
      obtain ⟨A5, c5, rfl⟩ := ints_sliceN hO4.ints
      have hF := Lib.hid (HFO.out k _ w4 ((HG.out.trans hW0).trans hg4) hO4.ints)
      have hL := HL6.out k
      have hB4 := hB.trans hg4
      have hW4 := hW0.trans hg4
      have hbs := HBS.out k
      rw [hbk.out, Bool.false_or] at hbs
      have HBS1 := Lib.hid hbs
      rw [hL] at hF ⊢
      clear hO4 hL hbs
      generalize fv A (lf (sK U vars k (fun _ => 0) vars.length)) t = q at *
      go_wp2_with fail
      refine hF.out.mono ?_
      rintro e w5 ⟨rfl, hg5⟩
      have hB5 := hB4.trans hg5
      have hW5 := hW4.trans hg5
      go_wp2_with fail
      refine (HFL.out _).mono ?_
      rintro e w6 ⟨rfl, rfl⟩
      by_cases he : q = full A.length
      · have hb : ((q : Int) != ((full A.length : Nat) : Int)) = false := by simp [he]
        have HBF : Hid (badK A U vars t (k + 1) = false) := Lib.hid (by rw [HBS1.out]; simp [he])
        clear he
        go_wp2_with fail
        go_roundw
        case rel => exact ⟨k + 1, by omega, by go_num, HBF, hB5⟩
        case measure => simp [intOf]; omega
      · have hb : ((q : Int) != ((full A.length : Nat) : Int)) = true := by simp; omega
        have HBT : Hid (badK A U vars t T = true) := Lib.hid (HBM.out (k + 1) T (by rw [HBS1.out]; simp [he]) (by omega))
        clear he
        go_wp2_with fail
        go_ret3
        exact ⟨_, _, by rw [HBT.out]; rfl, HG.out.trans hW5⟩
    · obtain rfl : k = T := by omega
      go_wp2_with fail
      go_ret3
      exact ⟨_, _, by rw [hbk.out]; rfl, HG.out.trans hW0⟩

theorem l17Valid_c (v va : Value) (A : List Nat) (t : Tree) (w : World) (h : Ints w v (zs A)) (ha : Nodes w va (Fm.enc t)) (hA : Rl A) (h8 : A.length ≤ 8) (ht : FmOk t) (hvs : Vs (Fm.enc t)) (hn : (Fm.enc t).length ≤ 1048576)
    (hu1 : 1 ≤ (upK A (2 ^ A.length)).length) (hp : (upK A (2 ^ A.length)).length ^ (mbs (vm (Fm.enc t))).length ≤ 4096) :
    Calls Tryz.prog 17 #[.agg #[.int .i64 (A.length : Int), v], va] w fun e w' => e = .returned (.bool (!badV A (upK A (2 ^ A.length)) (mbs (vm (Fm.enc t))) t)) ∧ Grew w w' := by
  have HU := Lib.hid (fun W (hW : Grew w W) => l17First_c v va A t W (h.grew hW) (ha.grew hW) hA h8 ht hvs hn hu1 hp)
  rw [badV_K A (by omega) (mbs_nodup _) t]
  obtain ⟨A1, c1, rfl⟩ := ints_sliceN h
  obtain ⟨A2, c2, rfl⟩ := nodes_slice ha
  have HG := Lib.hid ((Grew.refl w).alloc (.cells #[.int .i64 (A.length : Int), .slice A1 A.length c1] 26))
  clear h ha hA ht hvs hu1 hp
  generalize badK A (upK A (2 ^ A.length)) (mbs (vm (Fm.enc t))) t ((upK A (2 ^ A.length)).length ^ (mbs (vm (Fm.enc t))).length) = q at *
  generalize A.length = n at *
  generalize (Fm.enc t).length = m at *
  go_enter Tryz.func17, Tryz.ntmps17
  go_wp2_with fail
  refine (HU.out _ HG.out).mono ?_
  rintro e w1 ⟨u, k, rfl, hg1⟩
  go_wp2_with fail
  go_ret
  exact ⟨rfl, HG.out.trans hg1⟩
end Go.Proofs.YtmcbjekianclpaaGreat

/- What RefutingPoset answers (plain): the first small poset on which a formula is not valid. -/
namespace Go.Proofs.YtmcbjekianclpaaGreat
open Go.RowKit
open Fm (Nd Tree)

theorem upK_one {A : List Nat} : 1 ≤ (upK A (2 ^ A.length)).length := by
  have h0 : 0 ∈ upK A (2 ^ A.length) := by
    unfold upK
    rw [List.mem_filter, List.mem_range]
    refine ⟨Nat.two_pow_pos _, ?_⟩
    unfold upB mk
    have hz : img A ((0 : Nat) : Int).toNat = ((0 : Nat) : Int).toNat := by
      refine Nat.eq_of_testBit_eq fun x => ?_
      rw [Bool.eq_iff_iff, img_bit (by simp)]
      simp
    have hp : (0 : Nat) < 2 ^ A.length := Nat.two_pow_pos _
    rw [decide_eq_true hz, decide_eq_true (show (0 : Int) ≤ ((0 : Nat) : Int) ∧ ((0 : Nat) : Int) ≤ ((2 ^ A.length : Nat) : Int) - 1 by omega)]
    rfl
  exact List.length_pos_of_mem h0
theorem upK_pow {A : List Nat} {k : Nat} (hA : A.length ≤ 4) (hk : k ≤ 3) : (upK A (2 ^ A.length)).length ^ k ≤ 4096 := by
  have h1 : (upK A (2 ^ A.length)).length ≤ 16 := Nat.le_trans (upK_len _ _) (Nat.le_trans (Nat.pow_le_pow_right (by omega) hA) (by decide))
  exact Nat.le_trans (Nat.pow_le_pow_left h1 k) (Nat.le_trans (Nat.pow_le_pow_right (by omega) hk) (by decide))
theorem spsts_mem : ∀ {k : Nat} {A : List Nat}, A ∈ spsts k → 1 ≤ A.length ∧ A.length ≤ k ∧ pB A = true
  | 0, A, h => by simp [spsts] at h
  | k + 1, A, h => by
    rw [spsts_succ, List.mem_append] at h
    rcases h with h | h
    · have := spsts_mem h
      exact ⟨this.1, by omega, this.2.2⟩
    · obtain ⟨h1, h2, _⟩ := psts_mem.1 h
      exact ⟨by omega, by omega, h2⟩
/-- Is the formula refuted on the poset? -/
noncomputable def refB (t : Tree) (A : List Nat) : Bool := badV A (upK A (2 ^ A.length)) (mbs (vm (Fm.enc t))) t
/-- The first poset of a list that refutes the formula: the code and the poset's order. -/
noncomputable def firstB (t : Tree) : List (List Nat) → Int × List Nat
  | [] => (4, [])
  | A :: r => if refB t A = true then (0, A) else firstB t r
theorem firstB_skip {t : Tree} : ∀ {P : List (List Nat)} {Q : List (List Nat)}, (∀ A ∈ P, refB t A = false) → firstB t (P ++ Q) = firstB t Q
  | [], _, _ => rfl
  | A :: P, Q, h => by
    show (if refB t A = true then ((0 : Int), A) else firstB t (P ++ Q)) = _
    rw [if_neg (by rw [h A (List.mem_cons_self ..)]; decide)]
    exact firstB_skip fun B hB => h B (List.mem_cons_of_mem _ hB)
theorem firstB_hit {t : Tree} {A : List Nat} {P Q : List (List Nat)} (h : ∀ B ∈ P, refB t B = false) (hA : refB t A = true) : firstB t (P ++ A :: Q) = (0, A) := by
  rw [firstB_skip h]
  show (if refB t A = true then ((0 : Int), A) else firstB t Q) = _
  rw [if_pos hA]
theorem firstB_none {t : Tree} {P : List (List Nat)} (h : ∀ B ∈ P, refB t B = false) : firstB t P = (4, []) := by
  have := firstB_skip (Q := []) h
  rw [List.append_nil] at this
  exact this
open Classical in
/-- What RefutingPoset answers. -/
noncomputable def rfR (xs : List Nd) : Int × List Nat :=
  if fmB xs = false then (1, []) else if anyP isBD xs = true then (5, []) else if 3 < (mbs (vm xs)).length then (3, []) else if h : ∃ t, xs = Fm.enc t then firstB (Classical.choose h) (spsts 4) else (4, [])
theorem rfR_bad {xs : List Nd} (h : fmB xs = false) : rfR xs = (1, []) := by unfold rfR; rw [if_pos h]
theorem rfR_box {xs : List Nd} (h : fmB xs = true) (h2 : anyP isBD xs = true) : rfR xs = (5, []) := by unfold rfR; rw [if_neg (by rw [h]; decide), if_pos h2]
theorem rfR_many {xs : List Nd} (h : fmB xs = true) (h2 : anyP isBD xs = false) (h3 : 3 < (mbs (vm xs)).length) : rfR xs = (3, []) := by unfold rfR; rw [if_neg (by rw [h]; decide), if_neg (by rw [h2]; decide), if_pos h3]
theorem rfR_go {t : Tree} (h : fmB (Fm.enc t) = true) (h2 : anyP isBD (Fm.enc t) = false) (h3 : ¬ 3 < (mbs (vm (Fm.enc t))).length) : rfR (Fm.enc t) = firstB t (spsts 4) := by
  unfold rfR
  rw [if_neg (by rw [h]; decide), if_neg (by rw [h2]; decide), if_neg h3, dif_pos ⟨t, rfl⟩]
  have hx : ∃ s, Fm.enc t = Fm.enc s := ⟨t, rfl⟩
  have e : Classical.choose hx = t := enc_inj (Classical.choose_spec hx).symm
  show firstB (Classical.choose hx) (spsts 4) = _
  rw [e]
end Go.Proofs.YtmcbjekianclpaaGreat

/- Intuitionistic consequence by Kripke models; the rules of a terminating search, each an equivalence; a measure. No program is in sight. -/
namespace Go.Proofs.YtmcbjekianclpaaGreat
namespace Fm

structure Kr where
  W : Type
  le : W → W → Prop
  val : W → Fin 6 → Prop
  refl : ∀ w, le w w
  trans : ∀ {a b c}, le a b → le b c → le a c
  mono : ∀ {a b v}, le a b → val a v → val b v

namespace Kr
def force (K : Kr) : K.W → Tree → Prop
  | w, .var v => K.val w v
  | _, .fls => False
  | w, .and a b => K.force w a ∧ K.force w b
  | w, .or a b => K.force w a ∨ K.force w b
  | w, .imp a b => ∀ u, K.le w u → K.force u a → K.force u b
  | _, .box _ => False
  | _, .dia _ => False
theorem force_mono (K : Kr) {w u : K.W} (h : K.le w u) : ∀ {a : Tree}, K.force w a → K.force u a := by
  intro a
  induction a with
  | var v => exact K.mono h
  | fls => exact id
  | and a b ha hb => exact fun ⟨h1, h2⟩ => ⟨ha h1, hb h2⟩
  | or a b ha hb => exact fun h1 => h1.elim (fun h => .inl (ha h)) (fun h => .inr (hb h))
  | imp a b _ _ => exact fun h1 v hv => h1 v (K.trans h hv)
  | box a _ => exact id
  | dia a _ => exact id

/-- A new root below the roots of some models. -/
def glue (ι : Type) (M : ι → Kr) (r : ∀ i, (M i).W) (p : Fin 6 → Prop) (hp : ∀ v, p v → ∀ i, (M i).val (r i) v) : Kr where
  W := Option (Σ i, (M i).W)
  le x y := match x, y with
    | none, none => True
    | none, some ⟨i, u⟩ => (M i).le (r i) u
    | some _, none => False
    | some ⟨i, u⟩, some ⟨j, v⟩ => ∃ h : i = j, (M j).le (h ▸ u) v
  val x v := match x with
    | none => p v
    | some ⟨i, u⟩ => (M i).val u v
  refl := by
    intro x
    cases x with
    | none => trivial
    | some x => exact ⟨rfl, (M x.1).refl _⟩
  trans := by
    intro a b c h1 h2
    match a, b, c, h1, h2 with
    | none, none, none, _, _ => trivial
    | none, none, some _, _, h2 => exact h2
    | none, some ⟨i, u⟩, some ⟨j, v⟩, h1, h2 =>
      obtain ⟨rfl, h2⟩ := h2
      exact (M i).trans h1 h2
    | some ⟨i, u⟩, some ⟨j, v⟩, some ⟨k, x⟩, h1, h2 =>
      obtain ⟨rfl, h1⟩ := h1
      obtain ⟨rfl, h2⟩ := h2
      exact ⟨rfl, (M i).trans h1 h2⟩
  mono := by
    intro a b v h1 h2
    match a, b, h1, h2 with
    | none, none, _, h2 => exact h2
    | none, some ⟨i, u⟩, h1, h2 => exact (M i).mono h1 (hp v h2 i)
    | some ⟨i, u⟩, some ⟨j, x⟩, h1, h2 =>
      obtain ⟨rfl, h1⟩ := h1
      exact (M i).mono h1 h2

theorem glue_force {ι : Type} {M : ι → Kr} {r : ∀ i, (M i).W} {p : Fin 6 → Prop} {hp : ∀ v, p v → ∀ i, (M i).val (r i) v} (i : ι) : ∀ (a : Tree) (u : (M i).W), (glue ι M r p hp).force (some ⟨i, u⟩) a ↔ (M i).force u a := by
  intro a
  induction a with
  | var v => intro u; exact Iff.rfl
  | fls => intro u; exact Iff.rfl
  | and a b ha hb => intro u; exact and_congr (ha u) (hb u)
  | or a b ha hb => intro u; exact or_congr (ha u) (hb u)
  | imp a b ha hb =>
    intro u
    constructor
    · intro h v hv h1
      exact (hb v).1 (h (some ⟨i, v⟩) ⟨rfl, hv⟩ ((ha v).2 h1))
    · intro h x hx h1
      match x, hx, h1 with
      | some ⟨j, v⟩, hx, h1 =>
        obtain ⟨rfl, hx⟩ := hx
        exact (hb v).2 (h v hx ((ha v).1 h1))
  | box a _ => intro u; exact Iff.rfl
  | dia a _ => intro u; exact Iff.rfl
end Kr

/-- c follows from the formulas of G. -/
def Ent (G : Tree → Prop) (c : Tree) : Prop := ∀ (K : Kr) (w : K.W), (∀ a, G a → K.force w a) → K.force w c
theorem Ent.congr {G H : Tree → Prop} {c : Tree} (h : ∀ a, G a ↔ H a) : Ent G c ↔ Ent H c := by
  have : G = H := funext fun a => propext (h a)
  rw [this]
theorem Ent.more {G H : Tree → Prop} {c : Tree} (h : ∀ a, G a → H a) (hG : Ent G c) : Ent H c := fun K w hw => hG K w fun a ha => hw a (h a ha)
/-- G with one formula more. -/
def plus (G : Tree → Prop) (x : Tree) : Tree → Prop := fun a => G a ∨ a = x

theorem ent_mem {G : Tree → Prop} {c : Tree} (h : G c) : Ent G c := fun _ _ hw => hw c h
theorem ent_fls {G : Tree → Prop} {c : Tree} (h : G .fls) : Ent G c := fun _ _ hw => (hw .fls h).elim
/-- Formulas x that are forced exactly where those of the list are. -/
theorem ent_swap {R : Tree → Prop} {x c : Tree} {H : Tree → Prop} (h : ∀ (K : Kr) (w : K.W), (∀ a, R a → K.force w a) → (K.force w x ↔ ∀ a, H a → K.force w a)) : Ent (plus R x) c ↔ Ent (fun a => R a ∨ H a) c := by
  constructor
  · intro h1 K w hw
    refine h1 K w fun a ha => ?_
    rcases ha with ha | rfl
    · exact hw a (.inl ha)
    · exact (h K w fun a ha => hw a (.inl ha)).2 fun a ha => hw a (.inr ha)
  · intro h1 K w hw
    refine h1 K w fun a ha => ?_
    rcases ha with ha | ha
    · exact hw a (.inl ha)
    · exact (h K w fun a ha => hw a (.inl ha)).1 (hw x (.inr rfl)) a ha
theorem ent_drop {R : Tree → Prop} {x c : Tree} (h : ∀ (K : Kr) (w : K.W), (∀ a, R a → K.force w a) → K.force w x) : Ent (plus R x) c ↔ Ent R c := by
  constructor
  · intro h1 K w hw
    refine h1 K w fun a ha => ?_
    rcases ha with ha | rfl
    · exact hw a ha
    · exact h K w hw
  · exact Ent.more fun a ha => .inl ha
theorem ent_or_useless {R : Tree → Prop} {x y c : Tree} (h : R x ∨ R y) : Ent (plus R (.or x y)) c ↔ Ent R c :=
  ent_drop fun _ _ hw => h.elim (fun h => .inl (hw _ h)) (fun h => .inr (hw _ h))
theorem ent_imp_useless {R : Tree → Prop} {x y c : Tree} (h : R y) : Ent (plus R (.imp x y)) c ↔ Ent R c :=
  ent_drop fun K _ hw _ hu _ => K.force_mono hu (hw _ h)
theorem ent_fls_imp {R : Tree → Prop} {y c : Tree} : Ent (plus R (.imp .fls y)) c ↔ Ent R c :=
  ent_drop fun _ _ _ _ _ h => h.elim
theorem ent_and {R : Tree → Prop} {x y c : Tree} : Ent (plus R (.and x y)) c ↔ Ent (plus (plus R x) y) c := by
  refine (ent_swap (x := .and x y) (H := fun a => a = x ∨ a = y) fun K w _ => ⟨fun h a ha => ?_, fun h => ⟨h x (.inl rfl), h y (.inr rfl)⟩⟩).trans (Ent.congr fun a => ?_)
  · rcases ha with rfl | rfl
    · exact h.1
    · exact h.2
  · exact or_assoc.symm
theorem ent_or {R : Tree → Prop} {x y c : Tree} : Ent (plus R (.or x y)) c ↔ Ent (plus R x) c ∧ Ent (plus R y) c := by
  constructor
  · intro h
    refine ⟨fun K w hw => h K w fun a ha => ?_, fun K w hw => h K w fun a ha => ?_⟩
    · rcases ha with ha | rfl
      · exact hw a (.inl ha)
      · exact .inl (hw x (.inr rfl))
    · rcases ha with ha | rfl
      · exact hw a (.inl ha)
      · exact .inr (hw y (.inr rfl))
  · intro ⟨h1, h2⟩ K w hw
    rcases hw _ (.inr rfl) with h | h
    · refine h1 K w fun a ha => ?_
      rcases ha with ha | rfl
      · exact hw a (.inl ha)
      · exact h
    · refine h2 K w fun a ha => ?_
      rcases ha with ha | rfl
      · exact hw a (.inl ha)
      · exact h
theorem ent_one {R : Tree → Prop} {x y c : Tree} (h : ∀ (K : Kr) (w : K.W), (∀ a, R a → K.force w a) → (K.force w x ↔ K.force w y)) : Ent (plus R x) c ↔ Ent (plus R y) c :=
  (ent_swap (H := fun a => a = y) fun K w hw => ⟨fun hx a ha => by rw [ha]; exact (h K w hw).1 hx, fun ha => (h K w hw).2 (ha y rfl)⟩)
theorem ent_mp {R : Tree → Prop} {x y c : Tree} (h : R x) : Ent (plus R (.imp x y)) c ↔ Ent (plus R y) c :=
  ent_one fun K w hw => ⟨fun hi => hi w (K.refl w) (hw x h), fun hy _ hu _ => K.force_mono hu hy⟩
theorem ent_and_imp {R : Tree → Prop} {x y z c : Tree} : Ent (plus R (.imp (.and x y) z)) c ↔ Ent (plus R (.imp x (.imp y z))) c :=
  ent_one fun K _ _ => ⟨fun h u hu hx v hv hy => h v (K.trans hu hv) ⟨K.force_mono hv hx, hy⟩, fun h u hu ⟨hx, hy⟩ => h u hu hx u (K.refl u) hy⟩
theorem ent_or_imp {R : Tree → Prop} {x y z c : Tree} : Ent (plus R (.imp (.or x y) z)) c ↔ Ent (plus (plus R (.imp x z)) (.imp y z)) c := by
  refine (ent_swap (x := .imp (.or x y) z) (H := fun a => a = .imp x z ∨ a = .imp y z) fun K w _ => ⟨fun h a ha => ?_, fun h u hu hxy => ?_⟩).trans (Ent.congr fun a => ?_)
  · rcases ha with rfl | rfl
    · exact fun u hu hx => h u hu (.inl hx)
    · exact fun u hu hy => h u hu (.inr hy)
  · rcases hxy with hx | hy
    · exact h _ (.inl rfl) u hu hx
    · exact h _ (.inr rfl) u hu hy
  · exact or_assoc.symm
theorem ent_r_and {G : Tree → Prop} {x y : Tree} : Ent G (.and x y) ↔ Ent G x ∧ Ent G y :=
  ⟨fun h => ⟨fun K w hw => (h K w hw).1, fun K w hw => (h K w hw).2⟩, fun h K w hw => ⟨h.1 K w hw, h.2 K w hw⟩⟩
theorem ent_r_imp {G : Tree → Prop} {x y : Tree} : Ent G (.imp x y) ↔ Ent (plus G x) y := by
  constructor
  · intro h K w hw
    exact h K w (fun a ha => hw a (.inl ha)) w (K.refl w) (hw x (.inr rfl))
  · intro h K w hw u hu hx
    refine h K u fun a ha => ?_
    rcases ha with ha | rfl
    · exact K.force_mono hu (hw a ha)
    · exact hx
theorem ent_r_or1 {G : Tree → Prop} {x y : Tree} (h : Ent G x) : Ent G (.or x y) := fun K w hw => .inl (h K w hw)
theorem ent_r_or2 {G : Tree → Prop} {x y : Tree} (h : Ent G y) : Ent G (.or x y) := fun K w hw => .inr (h K w hw)
/-- The rule for (x>y)>z is sound. -/
theorem ent_imp_imp {R : Tree → Prop} {x y z c : Tree} (h1 : Ent (plus (plus R (.imp y z)) x) y) (h2 : Ent (plus R z) c) : Ent (plus R (.imp (.imp x y) z)) c := by
  intro K w hw
  have hz : K.force w z := by
    refine hw _ (.inr rfl) w (K.refl w) fun u hu hx => ?_
    refine h1 K u fun a ha => ?_
    rcases ha with (ha | rfl) | rfl
    · exact K.force_mono hu (hw a (.inl ha))
    · intro v hv hy
      exact hw _ (.inr rfl) v (K.trans hu hv) fun s hs _ => K.force_mono hs hy
    · exact hx
  refine h2 K w fun a ha => ?_
  rcases ha with ha | rfl
  · exact hw a (.inl ha)
  · exact hz

theorem not_ent {G : Tree → Prop} {c : Tree} (h : ¬ Ent G c) : ∃ (K : Kr) (w : K.W), (∀ a, G a → K.force w a) ∧ ¬ K.force w c := by
  by_cases hx : ∃ (K : Kr) (w : K.W), (∀ a, G a → K.force w a) ∧ ¬ K.force w c
  · exact hx
  · refine absurd (fun K w hw => ?_) h
    by_cases hc : K.force w c
    · exact hc
    · exact absurd ⟨K, w, hw, hc⟩ hx

/-- A formula to which no rule of the left side applies that loses nothing. -/
def Stuck (G : Tree → Prop) (a : Tree) : Prop := (∃ v, a = .var v) ∨ (∃ v y, a = .imp (.var v) y ∧ ¬ G (.var v)) ∨ (∃ x y z, a = .imp (.imp x y) z)

/-- Where every formula is stuck, a consequence comes by one of the ways. -/
theorem ent_ways {G : Tree → Prop} {c : Tree} (hs : ∀ a, G a → Stuck G a) (hc : ¬ G c) (hk : (∃ v, c = .var v) ∨ c = .fls ∨ ∃ x y, c = .or x y) (h : Ent G c) :
    (∃ x y, c = .or x y ∧ (Ent G x ∨ Ent G y)) ∨ ∃ x y z, G (.imp (.imp x y) z) ∧ Ent (fun a => (G a ∧ a ≠ .imp (.imp x y) z) ∨ a = .imp y z ∨ a = x) y ∧ Ent (fun a => (G a ∧ a ≠ .imp (.imp x y) z) ∨ a = z) c := by
  by_cases hno : (∃ x y, c = .or x y ∧ (Ent G x ∨ Ent G y)) ∨ ∃ x y z, G (.imp (.imp x y) z) ∧ Ent (fun a => (G a ∧ a ≠ .imp (.imp x y) z) ∨ a = .imp y z ∨ a = x) y ∧ Ent (fun a => (G a ∧ a ≠ .imp (.imp x y) z) ∨ a = z) c
  · exact hno
  exfalso
  -- the right premise of every such implication follows, since its conclusion does
  have hr : ∀ x y z, G (.imp (.imp x y) z) → Ent (fun a => (G a ∧ a ≠ .imp (.imp x y) z) ∨ a = z) c := by
    intro x y z hG K w hw
    refine h K w fun a ha => ?_
    by_cases e : a = .imp (.imp x y) z
    · subst e
      exact fun u hu _ => K.force_mono hu (hw z (.inr rfl))
    · exact hw a (.inl ⟨ha, e⟩)
  have hl : ∀ x y z, G (.imp (.imp x y) z) → ¬ Ent (fun a => (G a ∧ a ≠ .imp (.imp x y) z) ∨ a = .imp y z ∨ a = x) y := fun x y z hG hE => hno (.inr ⟨x, y, z, hG, hE, hr x y z hG⟩)
  -- the models: one for each implication of an implication, two for a disjunction
  let I := { q : Tree × Tree × Tree // G (.imp (.imp q.1 q.2.1) q.2.2) }
  have hm1 : ∀ i : I, ∃ (K : Kr) (w : K.W), (∀ a, ((G a ∧ a ≠ .imp (.imp i.1.1 i.1.2.1) i.1.2.2) ∨ a = .imp i.1.2.1 i.1.2.2 ∨ a = i.1.1) → K.force w a) ∧ ¬ K.force w i.1.2.1 := fun i => not_ent (hl _ _ _ i.2)
  let J := { q : Tree × Tree // c = .or q.1 q.2 } × Bool
  have hm2 : ∀ j : J, ∃ (K : Kr) (w : K.W), (∀ a, G a → K.force w a) ∧ ¬ K.force w (if j.2 then j.1.1.1 else j.1.1.2) := by
    rintro ⟨⟨⟨x, y⟩, hq⟩, b⟩
    cases b with
    | true => exact not_ent fun hE => hno (.inl ⟨x, y, hq, .inl hE⟩)
    | false => exact not_ent fun hE => hno (.inl ⟨x, y, hq, .inr hE⟩)
  let M : I ⊕ J → Kr := fun s => match s with
    | .inl i => Classical.choose (hm1 i)
    | .inr j => Classical.choose (hm2 j)
  let r : ∀ s : I ⊕ J, (M s).W := fun s => match s with
    | .inl i => Classical.choose (Classical.choose_spec (hm1 i))
    | .inr j => Classical.choose (Classical.choose_spec (hm2 j))
  have s1 : ∀ i : I, (∀ a, ((G a ∧ a ≠ .imp (.imp i.1.1 i.1.2.1) i.1.2.2) ∨ a = .imp i.1.2.1 i.1.2.2 ∨ a = i.1.1) → (M (.inl i)).force (r (.inl i)) a) ∧ ¬ (M (.inl i)).force (r (.inl i)) i.1.2.1 := fun i => Classical.choose_spec (Classical.choose_spec (hm1 i))
  have s2 : ∀ j : J, (∀ a, G a → (M (.inr j)).force (r (.inr j)) a) ∧ ¬ (M (.inr j)).force (r (.inr j)) (if j.2 then j.1.1.1 else j.1.1.2) := fun j => Classical.choose_spec (Classical.choose_spec (hm2 j))
  -- every model's root forces all of G
  have hall : ∀ (s : I ⊕ J) a, G a → (M s).force (r s) a := by
    intro s a ha
    match s with
    | .inr j => exact (s2 j).1 a ha
    | .inl i =>
      by_cases e : a = .imp (.imp i.1.1 i.1.2.1) i.1.2.2
      · rw [e]
        intro u hu hxy
        have hx := (s1 i).1 i.1.1 (.inr (.inr rfl))
        have hyz := (s1 i).1 (.imp i.1.2.1 i.1.2.2) (.inr (.inl rfl))
        exact hyz u hu (hxy u ((M (.inl i)).refl u) ((M (.inl i)).force_mono hu hx))
      · exact (s1 i).1 a (.inl ⟨ha, e⟩)
  let N := Kr.glue (I ⊕ J) M r (fun v => G (.var v)) (fun v hv s => hall s (.var v) hv)
  have hsome : ∀ (s : I ⊕ J) a, N.force (some ⟨s, r s⟩) a ↔ (M s).force (r s) a := fun s a => Kr.glue_force s a (r s)
  have hup : ∀ s : I ⊕ J, N.le none (some ⟨s, r s⟩) := fun s => (M s).refl (r s)
  -- the root forces all of G
  have hroot : ∀ a, G a → N.force none a := by
    intro a ha
    -- above the root, all of G is forced
    have habove : ∀ s u, (M s).le (r s) u → (M s).force u a := fun s u hu => (M s).force_mono hu (hall s a ha)
    rcases hs a ha with ⟨v, rfl⟩ | ⟨v, y, rfl, hv⟩ | ⟨x, y, z, rfl⟩
    · exact ha
    · intro w hw hp
      match w, hw, hp with
      | none, _, hp => exact absurd hp hv
      | some ⟨s, u⟩, hw, hp =>
        have h1 := habove s u hw
        exact (Kr.glue_force s y u).2 (h1 u ((M s).refl u) ((Kr.glue_force s (.var v) u).1 hp))
    · intro w hw hp
      match w, hw, hp with
      | none, _, hp =>
        have i : I := ⟨(x, y, z), ha⟩
        exfalso
        have hy := hp (some ⟨.inl ⟨(x, y, z), ha⟩, r (.inl ⟨(x, y, z), ha⟩)⟩) (hup (.inl ⟨(x, y, z), ha⟩)) ((hsome _ x).2 ((s1 ⟨(x, y, z), ha⟩).1 x (.inr (.inr rfl))))
        exact (s1 ⟨(x, y, z), ha⟩).2 ((hsome _ y).1 hy)
      | some ⟨s, u⟩, hw, hp =>
        have h1 := habove s u hw
        exact (Kr.glue_force s z u).2 (h1 u ((M s).refl u) ((Kr.glue_force s (.imp x y) u).1 hp))
  have hcf := h N none hroot
  rcases hk with ⟨v, rfl⟩ | rfl | ⟨x, y, rfl⟩
  · exact hc hcf
  · exact hcf
  · rcases hcf with hx | hy
    · have h1 := N.force_mono (hup (.inr (⟨(x, y), rfl⟩, true))) hx
      exact (s2 (⟨(x, y), rfl⟩, true)).2 ((hsome _ _).1 h1)
    · have h1 := N.force_mono (hup (.inr (⟨(x, y), rfl⟩, false))) hy
      exact (s2 (⟨(x, y), rfl⟩, false)).2 ((hsome _ _).1 h1)
end Fm
end Go.Proofs.YtmcbjekianclpaaGreat

/- Formulas with one variable, plain: each is equivalent to falsity, truth or a formula of the Nishimura sequence; how far it lies in the sequence. No program is in sight. -/
namespace Go.Proofs.YtmcbjekianclpaaGreat
namespace Fm

/-- x k = N(2k-1) (x 0 = falsity), y k = N(2k) (y 0 = the variable, as x 1). -/
def Nis (K : Kr) : Nat → (K.W → Prop) × (K.W → Prop)
  | 0 => (fun _ => False, fun w => K.val w 0)
  | k + 1 => (fun w => (Nis K k).2 w ∨ (Nis K k).1 w, fun w => ∀ u, K.le w u → (Nis K k).2 u → (Nis K k).1 u)
def NX (K : Kr) (k : Nat) : K.W → Prop := (Nis K k).1
def NY (K : Kr) (k : Nat) : K.W → Prop := (Nis K k).2
section
variable {K : Kr}
theorem nx_zero {w : K.W} : NX K 0 w ↔ False := Iff.rfl
theorem nx_succ {k : Nat} {w : K.W} : NX K (k + 1) w ↔ NY K k w ∨ NX K k w := Iff.rfl
theorem ny_succ {k : Nat} {w : K.W} : NY K (k + 1) w ↔ ∀ u, K.le w u → NY K k u → NX K k u := Iff.rfl
theorem nis_mono : ∀ {k : Nat} {w u : K.W}, K.le w u → (NX K k w → NX K k u) ∧ (NY K k w → NY K k u)
  | 0, _, _, h => ⟨id, fun hv => K.mono h hv⟩
  | _ + 1, _, _, h => ⟨fun hx => hx.elim (fun a => .inl ((nis_mono h).2 a)) (fun a => .inr ((nis_mono h).1 a)), fun hy v hv => hy v (K.trans h hv)⟩
theorem nx_mono {k : Nat} {w u : K.W} (h : K.le w u) (hx : NX K k w) : NX K k u := (nis_mono h).1 hx
theorem ny_mono {k : Nat} {w u : K.W} (h : K.le w u) (hy : NY K k w) : NY K k u := (nis_mono h).2 hy
/-- x j stands below x k. -/
theorem nx_up {w : K.W} : ∀ {j k : Nat}, j ≤ k → NX K j w → NX K k w := by
  intro j k h
  induction k with
  | zero =>
    intro hx
    obtain rfl : j = 0 := by omega
    exact hx
  | succ k ih =>
    intro hx
    by_cases he : j = k + 1
    · exact he ▸ hx
    · exact .inr (ih (by omega) hx)
/-- x j stands below y k. -/
theorem nx_ny {w : K.W} {j k : Nat} (h : j < k) (hx : NX K j w) : NY K k w := by
  cases k with
  | zero => omega
  | succ k => exact fun u hu _ => nx_up (by omega : j ≤ k) (nx_mono hu hx)
theorem ny_nx {w : K.W} {j k : Nat} (h : j < k) (hy : NY K j w) : NX K k w := nx_up (by omega : j + 1 ≤ k) (.inl hy)
theorem ny_up {w : K.W} {j k : Nat} (h : j + 1 < k) (hy : NY K j w) : NY K k w := nx_ny h (ny_nx (Nat.lt_succ_self j) hy)
/-- The meet of x and y at one place. -/
theorem nx_meet {w : K.W} {k : Nat} (hx : NX K (k + 1) w) (hy : NY K (k + 1) w) : NX K k w := hx.elim (fun a => hy w (K.refl w) a) id
/-- The meet of two neighbours y. -/
theorem ny_meet {w : K.W} {k : Nat} (h1 : NY K k w) (h2 : NY K (k + 1) w) : NX K k w := h2 w (K.refl w) h1
theorem ny_meet' {w : K.W} {k : Nat} (h1 : NY K (k + 1) w) (h2 : NY K (k + 2) w) : NX K k w := nx_meet (ny_meet h1 h2) h1
end

/-- The codes. -/
inductive NC where
  | top
  | x (k : Nat)
  | y (k : Nat)
def NC.den (K : Kr) : NC → K.W → Prop
  | .top, _ => True
  | .x k, w => NX K k w
  | .y k, w => NY K (k + 1) w
/-- How far it lies. -/
def NC.far : NC → Nat
  | .top => 0
  | .x k => 2 * k
  | .y k => 2 * k + 3
theorem NC.mono {K : Kr} {c : NC} {w u : K.W} (h : K.le w u) : c.den K w → c.den K u := by
  cases c with
  | top => exact id
  | x k => exact nx_mono h
  | y k => exact ny_mono h
def NC.and : NC → NC → NC
  | .top, c => c
  | c, .top => c
  | .x j, .x k => if j ≤ k then .x j else .x k
  | .x j, .y k => if j ≤ k then .x j else if j = k + 1 then .x k else .y k
  | .y k, .x j => if j ≤ k then .x j else if j = k + 1 then .x k else .y k
  | .y j, .y k => if j = k then .y j else if k = j + 1 then .x j else if j = k + 1 then .x k else if j < k then .y j else .y k
def NC.or : NC → NC → NC
  | .top, _ => .top
  | _, .top => .top
  | .x j, .x k => if j ≤ k then .x k else .x j
  | .x j, .y k => if j ≤ k then .y k else if j = k + 1 then .x (k + 2) else .x j
  | .y k, .x j => if j ≤ k then .y k else if j = k + 1 then .x (k + 2) else .x j
  | .y j, .y k => if j = k then .y j else if k = j + 1 then .x (j + 3) else if j = k + 1 then .x (k + 3) else if j < k then .y k else .y j
def NC.imp : NC → NC → NC
  | .top, c => c
  | _, .top => .top
  | .x j, .x k => if j ≤ k then .top else if j = k + 1 then .y k else .x k
  | .x j, .y k => if j ≤ k then .top else .y k
  | .y j, .x k => if j + 1 < k then .top else if k = j + 1 then .y (j + 1) else if k = j then .y (j + 1) else if k + 1 = j then .y k else .x k
  | .y j, .y k => if j = k then .top else if k = j + 1 then .y (j + 1) else if j < k then .top else .y k

theorem NC.and_den (K : Kr) (a b : NC) (w : K.W) : (a.and b).den K w ↔ a.den K w ∧ b.den K w := by
  have xy : ∀ j k, (if j ≤ k then NC.x j else if j = k + 1 then NC.x k else NC.y k).den K w ↔ NX K j w ∧ NY K (k + 1) w := by
    intro j k
    by_cases h1 : j ≤ k
    · rw [if_pos h1]
      exact ⟨fun h => ⟨h, nx_ny (by omega) h⟩, fun h => h.1⟩
    · rw [if_neg h1]
      by_cases h2 : j = k + 1
      · rw [if_pos h2]; subst h2
        exact ⟨fun h => ⟨nx_up (by omega) (show NX K k w from h), nx_ny (by omega) (show NX K k w from h)⟩, fun h => nx_meet h.1 h.2⟩
      · rw [if_neg h2]
        exact ⟨fun h => ⟨ny_nx (by omega) (show NY K (k + 1) w from h), h⟩, fun h => h.2⟩
  cases a with
  | top => cases b <;> exact ⟨fun h => ⟨trivial, h⟩, fun h => h.2⟩
  | x j =>
    cases b with
    | top => exact ⟨fun h => ⟨h, trivial⟩, fun h => h.1⟩
    | x k =>
      show (if j ≤ k then NC.x j else NC.x k).den K w ↔ NX K j w ∧ NX K k w
      by_cases h1 : j ≤ k
      · rw [if_pos h1]; exact ⟨fun h => ⟨h, nx_up h1 h⟩, fun h => h.1⟩
      · rw [if_neg h1]; exact ⟨fun h => ⟨nx_up (by omega) (show NX K k w from h), h⟩, fun h => h.2⟩
    | y k => exact xy j k
  | y j =>
    cases b with
    | top => exact ⟨fun h => ⟨h, trivial⟩, fun h => h.1⟩
    | x k => exact (xy k j).trans ⟨fun h => ⟨h.2, h.1⟩, fun h => ⟨h.2, h.1⟩⟩
    | y k =>
      show (if j = k then NC.y j else if k = j + 1 then NC.x j else if j = k + 1 then NC.x k else if j < k then NC.y j else NC.y k).den K w ↔ NY K (j + 1) w ∧ NY K (k + 1) w
      by_cases h1 : j = k
      · rw [if_pos h1]; subst h1; exact ⟨fun h => ⟨h, h⟩, fun h => h.1⟩
      · rw [if_neg h1]
        by_cases h2 : k = j + 1
        · rw [if_pos h2]; subst h2
          exact ⟨fun h => ⟨nx_ny (by omega) (show NX K j w from h), nx_ny (by omega) (show NX K j w from h)⟩, fun h => ny_meet' h.1 h.2⟩
        · rw [if_neg h2]
          by_cases h3 : j = k + 1
          · rw [if_pos h3]; subst h3
            exact ⟨fun h => ⟨nx_ny (by omega) (show NX K k w from h), nx_ny (by omega) (show NX K k w from h)⟩, fun h => ny_meet' h.2 h.1⟩
          · rw [if_neg h3]
            by_cases h4 : j < k
            · rw [if_pos h4]; exact ⟨fun h => ⟨h, ny_up (by omega) (show NY K (j + 1) w from h)⟩, fun h => h.1⟩
            · rw [if_neg h4]; exact ⟨fun h => ⟨ny_up (by omega) (show NY K (k + 1) w from h), h⟩, fun h => h.2⟩
theorem NC.or_den (K : Kr) (a b : NC) (w : K.W) : (a.or b).den K w ↔ a.den K w ∨ b.den K w := by
  have xy : ∀ j k, (if j ≤ k then NC.y k else if j = k + 1 then NC.x (k + 2) else NC.x j).den K w ↔ NX K j w ∨ NY K (k + 1) w := by
    intro j k
    by_cases h1 : j ≤ k
    · rw [if_pos h1]
      exact ⟨fun h => .inr h, fun h => h.elim (fun h => nx_ny (by omega) h) id⟩
    · rw [if_neg h1]
      by_cases h2 : j = k + 1
      · rw [if_pos h2]; subst h2
        exact ⟨fun h => (nx_succ.1 (show NX K (k + 1 + 1) w from h)).elim .inr .inl, fun h => h.elim .inr .inl⟩
      · rw [if_neg h2]
        exact ⟨fun h => .inl h, fun h => h.elim id (fun h => ny_nx (by omega) h)⟩
  cases a with
  | top => cases b <;> exact ⟨fun _ => .inl trivial, fun _ => trivial⟩
  | x j =>
    cases b with
    | top => exact ⟨fun _ => .inr trivial, fun _ => trivial⟩
    | x k =>
      show (if j ≤ k then NC.x k else NC.x j).den K w ↔ NX K j w ∨ NX K k w
      by_cases h1 : j ≤ k
      · rw [if_pos h1]; exact ⟨fun h => .inr h, fun h => h.elim (nx_up h1) id⟩
      · rw [if_neg h1]; exact ⟨fun h => .inl h, fun h => h.elim id (nx_up (by omega))⟩
    | y k => exact xy j k
  | y j =>
    cases b with
    | top => exact ⟨fun _ => .inr trivial, fun _ => trivial⟩
    | x k => exact (xy k j).trans ⟨fun h => h.elim .inr .inl, fun h => h.elim .inr .inl⟩
    | y k =>
      have nb : ∀ i, NX K (i + 3) w ↔ NY K (i + 1) w ∨ NY K (i + 2) w := fun i => by
        constructor
        · intro h
          rcases h with h | h
          · exact .inr h
          · rcases h with h | h
            · exact .inl h
            · exact .inr (nx_ny (by omega) h)
        · intro h
          rcases h with h | h
          · exact ny_nx (by omega) h
          · exact .inl h
      show (if j = k then NC.y j else if k = j + 1 then NC.x (j + 3) else if j = k + 1 then NC.x (k + 3) else if j < k then NC.y k else NC.y j).den K w ↔ NY K (j + 1) w ∨ NY K (k + 1) w
      by_cases h1 : j = k
      · rw [if_pos h1]; subst h1; exact ⟨fun h => .inl h, fun h => h.elim id id⟩
      · rw [if_neg h1]
        by_cases h2 : k = j + 1
        · rw [if_pos h2]; subst h2; exact nb j
        · rw [if_neg h2]
          by_cases h3 : j = k + 1
          · rw [if_pos h3]; subst h3; exact (nb k).trans ⟨fun h => h.elim .inr .inl, fun h => h.elim .inr .inl⟩
          · rw [if_neg h3]
            by_cases h4 : j < k
            · rw [if_pos h4]; exact ⟨fun h => .inr h, fun h => h.elim (ny_up (by omega)) id⟩
            · rw [if_neg h4]; exact ⟨fun h => .inl h, fun h => h.elim id (ny_up (by omega))⟩

section
variable {K : Kr}
theorem imp_top {w : K.W} {P Q : K.W → Prop} (h : ∀ u, P u → Q u) : NC.den K .top w ↔ ∀ u, K.le w u → P u → Q u := ⟨fun _ u _ => h u, fun _ => trivial⟩
/-- x (k+1) → x k is y (k+1). -/
theorem imp_xx {w : K.W} {k : Nat} : NY K (k + 1) w ↔ ∀ u, K.le w u → NX K (k + 1) u → NX K k u := by
  constructor
  · intro h u hu hx; exact hx.elim (h u hu) id
  · intro h u hu hy; exact h u hu (.inl hy)
/-- x j → x k is x k, where j is greater by 2. -/
theorem imp_xx2 {w : K.W} {j k : Nat} (hj : k + 2 ≤ j) : NX K k w ↔ ∀ u, K.le w u → NX K j u → NX K k u := by
  constructor
  · intro h u hu _; exact nx_mono hu h
  · intro h
    have hy : NY K (k + 1) w := imp_xx.2 fun u hu hx => h u hu (nx_up (by omega) hx)
    exact h w (K.refl w) (ny_nx (by omega) hy)
theorem imp_xy {w : K.W} {j k : Nat} (hj : k + 1 ≤ j) : NY K (k + 1) w ↔ ∀ u, K.le w u → NX K j u → NY K (k + 1) u := by
  constructor
  · intro h u hu _; exact ny_mono hu h
  · intro h u hu hy
    exact h u hu (ny_nx (by omega) hy) u (K.refl u) hy
theorem imp_yy {w : K.W} {j k : Nat} (hj : k < j) : NY K (k + 1) w ↔ ∀ u, K.le w u → NY K (j + 1) u → NY K (k + 1) u := by
  constructor
  · intro h u hu _; exact ny_mono hu h
  · intro h u hu hy
    exact h u hu (ny_up (by omega) hy) u (K.refl u) hy
theorem imp_yy1 {w : K.W} {j : Nat} : NY K (j + 1) w ↔ ∀ u, K.le w u → NY K j u → NY K (j + 1) u := by
  constructor
  · intro h u hu _; exact ny_mono hu h
  · intro h u hu hy; exact h u hu hy u (K.refl u) hy
/-- y (k+1) → x k is y (k+2). -/
theorem imp_yx {w : K.W} {k : Nat} : NY K (k + 2) w ↔ ∀ u, K.le w u → NY K (k + 1) u → NX K k u := by
  constructor
  · intro h u hu hy; exact nx_meet (h u hu hy) hy
  · intro h u hu hy; exact nx_up (by omega) (h u hu hy)
/-- y (k+2) → x k is y (k+1). -/
theorem imp_yx1 {w : K.W} {k : Nat} : NY K (k + 1) w ↔ ∀ u, K.le w u → NY K (k + 2) u → NX K k u := by
  constructor
  · intro h u hu hy; exact ny_meet' (ny_mono hu h) hy
  · intro h; exact imp_xx.2 fun u hu hx => h u hu (nx_ny (by omega) hx)
theorem imp_yx2 {w : K.W} {j k : Nat} (hj : k + 3 ≤ j) : NX K k w ↔ ∀ u, K.le w u → NY K j u → NX K k u := by
  constructor
  · intro h u hu _; exact nx_mono hu h
  · intro h; exact (imp_xx2 (Nat.le_refl (k + 2))).2 fun u hu hx => h u hu (nx_ny (by omega) hx)
end
theorem NC.imp_den (K : Kr) (a b : NC) (w : K.W) : (a.imp b).den K w ↔ ∀ u, K.le w u → a.den K u → b.den K u := by
  have t1 : ∀ (c : NC), c.den K w ↔ ∀ u, K.le w u → NC.den K .top u → c.den K u := fun c => ⟨fun h u hu _ => NC.mono hu h, fun h => h w (K.refl w) trivial⟩
  cases a with
  | top => cases b <;> exact t1 _
  | x j =>
    cases b with
    | top => exact imp_top (fun _ _ => trivial)
    | x k =>
      show (if j ≤ k then NC.top else if j = k + 1 then NC.y k else NC.x k).den K w ↔ ∀ u, K.le w u → NX K j u → NX K k u
      by_cases h1 : j ≤ k
      · rw [if_pos h1]; exact imp_top (fun _ => nx_up h1)
      · rw [if_neg h1]
        by_cases h2 : j = k + 1
        · rw [if_pos h2]; subst h2; exact imp_xx
        · rw [if_neg h2]; exact imp_xx2 (by omega)
    | y k =>
      show (if j ≤ k then NC.top else NC.y k).den K w ↔ ∀ u, K.le w u → NX K j u → NY K (k + 1) u
      by_cases h1 : j ≤ k
      · rw [if_pos h1]; exact imp_top (fun _ => nx_ny (by omega))
      · rw [if_neg h1]; exact imp_xy (by omega)
  | y j =>
    cases b with
    | top => exact imp_top (fun _ _ => trivial)
    | x k =>
      show (if j + 1 < k then NC.top else if k = j + 1 then NC.y (j + 1) else if k = j then NC.y (j + 1) else if k + 1 = j then NC.y k else NC.x k).den K w ↔ ∀ u, K.le w u → NY K (j + 1) u → NX K k u
      by_cases h1 : j + 1 < k
      · rw [if_pos h1]; exact imp_top (fun _ => ny_nx h1)
      · rw [if_neg h1]
        by_cases h2 : k = j + 1
        · rw [if_pos h2]; subst h2; exact Iff.rfl
        · rw [if_neg h2]
          by_cases h3 : k = j
          · rw [if_pos h3]; subst h3; exact imp_yx
          · rw [if_neg h3]
            by_cases h4 : k + 1 = j
            · rw [if_pos h4]; subst h4; exact imp_yx1
            · rw [if_neg h4]; exact imp_yx2 (by omega)
    | y k =>
      show (if j = k then NC.top else if k = j + 1 then NC.y (j + 1) else if j < k then NC.top else NC.y k).den K w ↔ ∀ u, K.le w u → NY K (j + 1) u → NY K (k + 1) u
      by_cases h1 : j = k
      · rw [if_pos h1]; subst h1; exact imp_top (fun _ => id)
      · rw [if_neg h1]
        by_cases h2 : k = j + 1
        · rw [if_pos h2]; subst h2; exact imp_yy1
        · rw [if_neg h2]
          by_cases h3 : j < k
          · rw [if_pos h3]; exact imp_top (fun _ => ny_up (by omega))
          · rw [if_neg h3]; exact imp_yy (by omega)

/-- The code of a formula. -/
def nc : Tree → NC
  | .var _ => .x 1
  | .fls => .x 0
  | .and a b => (nc a).and (nc b)
  | .or a b => (nc a).or (nc b)
  | .imp a b => (nc a).imp (nc b)
  | .box _ => .x 0
  | .dia _ => .x 0
/-- Only the first variable. -/
def One : Tree → Prop
  | .var v => v = 0
  | .fls => True
  | .and a b => One a ∧ One b
  | .or a b => One a ∧ One b
  | .imp a b => One a ∧ One b
  | .box _ => False
  | .dia _ => False
theorem nc_den (K : Kr) : ∀ (t : Tree), One t → ∀ w, K.force w t ↔ (nc t).den K w
  | .var v, h, w => by
    have h : v = 0 := h
    subst h
    show K.val w 0 ↔ K.val w 0 ∨ False
    exact ⟨.inl, fun h => h.elim id False.elim⟩
  | .fls, _, w => Iff.rfl
  | .and a b, h, w => (and_congr (nc_den K a h.1 w) (nc_den K b h.2 w)).trans (NC.and_den K _ _ w).symm
  | .or a b, h, w => (or_congr (nc_den K a h.1 w) (nc_den K b h.2 w)).trans (NC.or_den K _ _ w).symm
  | .imp a b, h, w => by
    refine Iff.trans ?_ (NC.imp_den K _ _ w).symm
    exact forall_congr' fun u => imp_congr Iff.rfl (imp_congr (nc_den K a h.1 u) (nc_den K b h.2 u))
  | .box _, h, _ => h.elim
  | .dia _, h, _ => h.elim
theorem NC.and_far (a b : NC) : (a.and b).far ≤ max a.far b.far := by
  cases a <;> cases b <;> simp only [NC.and] <;> (repeat' split) <;> simp only [NC.far] <;> omega
theorem NC.or_far (a b : NC) : (a.or b).far ≤ max a.far b.far + 2 := by
  cases a <;> cases b <;> simp only [NC.or] <;> (repeat' split) <;> simp only [NC.far] <;> omega
theorem NC.imp_far (a b : NC) : (a.imp b).far ≤ max a.far b.far + 2 := by
  cases a <;> cases b <;> simp only [NC.imp] <;> (repeat' split) <;> simp only [NC.far] <;> omega
theorem nc_far : ∀ (t : Tree), (nc t).far ≤ (enc t).length + 1
  | .var _ => by simp [nc, NC.far, enc]
  | .fls => by simp [nc, NC.far, enc]
  | .and a b => by
    have := nc_far a; have := nc_far b; have := NC.and_far (nc a) (nc b); have := enc_pos a; have := enc_pos b
    simp only [nc, enc, List.length_cons, List.length_append]; omega
  | .or a b => by
    have := nc_far a; have := nc_far b; have := NC.or_far (nc a) (nc b); have := enc_pos a; have := enc_pos b
    simp only [nc, enc, List.length_cons, List.length_append]; omega
  | .imp a b => by
    have := nc_far a; have := nc_far b; have := NC.imp_far (nc a) (nc b); have := enc_pos a; have := enc_pos b
    simp only [nc, enc, List.length_cons, List.length_append]; omega
  | .box _ => by simp [nc, NC.far]
  | .dia _ => by simp [nc, NC.far]
end Fm
end Go.Proofs.YtmcbjekianclpaaGreat

/- The values of formulas with one variable on the first 28 elements of the ladder, plain. No program is in sight. -/
namespace Go.Proofs.YtmcbjekianclpaaGreat
open Go.RowKit
open Fm (Nd Tree Kr NC)

/-- A poset with upsets as a model. -/
def krOf (A V : List Nat) (hr : ∀ x, x < A.length → (nt A x).testBit x = true) (ht : ∀ x y z, x < A.length → (nt A x).testBit y = true → (nt A y).testBit z = true → (nt A x).testBit z = true)
    (hV : ∀ v x y, x < A.length → (nt A x).testBit y = true → (nt V v).testBit x = true → (nt V v).testBit y = true) : Kr where
  W := { x : Nat // x < A.length }
  le x y := (nt A x.1).testBit y.1 = true
  val x v := (nt V v.val).testBit x.1 = true
  refl x := hr x.1 x.2
  trans {a b c} h1 h2 := ht a.1 b.1 c.1 a.2 h1 h2
  mono {a b v} h1 h2 := hV v.val a.1 b.1 a.2 h1 h2
theorem fv_force {A V : List Nat} (hA : Rl A) {hr ht hV} : ∀ (t : Tree) (x : (krOf A V hr ht hV).W), (krOf A V hr ht hV).force x t ↔ (fv A V t).testBit x.1 = true
  | .var _, _ => Iff.rfl
  | .fls, x => by show False ↔ (0 : Nat).testBit x.1 = true; simp
  | .and a b, x => by
    show _ ∧ _ ↔ (fv A V a &&& fv A V b).testBit x.1 = true
    rw [Nat.testBit_and, Bool.and_eq_true, fv_force hA a x, fv_force hA b x]
  | .or a b, x => by
    show _ ∨ _ ↔ (fv A V a ||| fv A V b).testBit x.1 = true
    rw [Nat.testBit_or, Bool.or_eq_true, fv_force hA a x, fv_force hA b x]
  | .imp a b, x => by
    show (∀ u, _ → _ → _) ↔ (ar A (fv A V a) (fv A V b)).testBit x.1 = true
    rw [ar_bit hA]
    constructor
    · intro h
      refine ⟨x.2, fun z hz ha => ?_⟩
      have hz' := hA.bit x.2 hz
      exact (fv_force hA b ⟨z, hz'⟩).1 (h ⟨z, hz'⟩ hz ((fv_force hA a ⟨z, hz'⟩).2 ha))
    · rintro ⟨_, h⟩ u hu ha
      exact (fv_force hA b u).2 (h u.1 hu ((fv_force hA a u).1 ha))
  | .box _, x => by show False ↔ (0 : Nat).testBit x.1 = true; simp
  | .dia _, x => by show False ↔ (0 : Nat).testBit x.1 = true; simp

/-- What the x-th element of the ladder sees, given the ones below. -/
def ladX (L : List Nat) (x : Nat) : Nat := if x = 2 then 2 ^ x ||| nt L 0 else if 2 < x then 2 ^ x ||| (nt L (x - 2) ||| nt L (x - 3)) else 2 ^ x
def ladK : Nat → List Nat
  | 0 => []
  | x + 1 => ladK x ++ [ladX (ladK x) x]
def lad : List Nat := [1, 2, 5, 11, 23, 47, 95, 191, 383, 767, 1535, 3071, 6143, 12287, 24575, 49151, 98303, 196607, 393215, 786431, 1572863, 3145727, 6291455, 12582911, 25165823, 50331647, 100663295, 201326591]
theorem lad_eq : ladK 28 = lad := by decide +kernel
theorem lad_len : lad.length = 28 := rfl
theorem lad_rl : Rl lad := ⟨by decide, by decide +kernel⟩
def ladB (x y : Nat) : Bool := (nt lad x).testBit y
theorem lad_refl : ∀ x, x < lad.length → (nt lad x).testBit x = true := by decide +kernel
theorem lad_tr0 : ∀ x, x < 28 → ∀ y, y < 28 → (nt lad x).testBit y = true → ∀ z, z < 28 → (nt lad y).testBit z = true → (nt lad x).testBit z = true := by decide +kernel
theorem lad_trans : ∀ x y z, x < lad.length → (nt lad x).testBit y = true → (nt lad y).testBit z = true → (nt lad x).testBit z = true := fun x y z hx hy hz => by
  have h1 := lad_rl.bit hx hy
  have h2 := lad_rl.bit h1 hz
  rw [lad_len] at *
  exact lad_tr0 x hx y h1 hy z h2 hz
def lv : List Nat := [1, 0, 0, 0, 0, 0]
theorem lv_up : ∀ v x y, x < lad.length → (nt lad x).testBit y = true → (nt lv v).testBit x = true → (nt lv v).testBit y = true := by
  intro v x y hx hy hv
  rcases Nat.lt_or_ge v 6 with h | h
  · have k : ∀ v, v < 6 → ∀ x, x < 28 → (nt lv v).testBit x = true → ∀ y, y < 28 → (nt lad x).testBit y = true → (nt lv v).testBit y = true := by decide +kernel
    exact k v h x hx hv y (lad_rl.bit hx hy) hy
  · have : nt lv v = 0 := by unfold nt; rw [List.getD_eq_getElem?_getD, List.getElem?_eq_none (by simpa [lv] using h)]; rfl
    rw [this] at hv; simp at hv
noncomputable def KL : Kr := krOf lad lv lad_refl lad_trans lv_up
/-- The masks of x k and y k on the ladder. -/
def nxy : Nat → Nat × Nat
  | 0 => (0, 1)
  | k + 1 => ((nxy k).2 ||| (nxy k).1, ar lad (nxy k).2 (nxy k).1)
theorem nxy_den : ∀ (k : Nat) (w : KL.W), (Fm.NX KL k w ↔ (nxy k).1.testBit w.1 = true) ∧ (Fm.NY KL k w ↔ (nxy k).2.testBit w.1 = true)
  | 0, w => by
    constructor
    · show False ↔ (0 : Nat).testBit w.1 = true; simp
    · exact Iff.rfl
  | k + 1, w => by
    constructor
    · rw [Fm.nx_succ, (nxy_den k w).1, (nxy_den k w).2]
      show _ ↔ ((nxy k).2 ||| (nxy k).1).testBit w.1 = true
      rw [Nat.testBit_or, Bool.or_eq_true]
    · rw [Fm.ny_succ]
      show _ ↔ (ar lad (nxy k).2 (nxy k).1).testBit w.1 = true
      rw [ar_bit lad_rl]
      constructor
      · intro h
        refine ⟨w.2, fun z hz ha => ?_⟩
        have hz' := lad_rl.bit w.2 hz
        exact (nxy_den k ⟨z, hz'⟩).1.1 (h ⟨z, hz'⟩ hz ((nxy_den k ⟨z, hz'⟩).2.2 ha))
      · rintro ⟨_, h⟩ u hu ha
        exact (nxy_den k u).1.2 (h u.1 hu ((nxy_den k u).2.1 ha))
/-- The set of an index from 0 up: the program's indexSet, the reference's l20Set. -/
def iset (i : Nat) : Nat := if i % 2 = 1 then full ((i + 1) / 2) else if i = 0 then 0 else full (i / 2 - 1) ||| 2 ^ (i / 2)
theorem nxy_set : ∀ k, k < 27 → (nxy (k + 1)).1 = iset (2 * k + 1) ∧ (nxy (k + 1)).2 = iset (2 * k + 2) := by decide +kernel
/-- A code's index, 0 for -1, 1 for 0 and so on; its mask on the ladder. -/
def nix : NC → Int
  | .top => -1
  | .x k => if k = 0 then 0 else 2 * (k : Int) - 1
  | .y k => 2 * (k : Int) + 2
theorem nix_zero : nix (.x 0) = 0 := rfl
theorem nix_x (k : Nat) : nix (.x (k + 1)) = ((2 * k + 1 : Nat) : Int) := by
  show (if k + 1 = 0 then (0 : Int) else 2 * ((k + 1 : Nat) : Int) - 1) = _
  rw [if_neg (by omega)]; omega
theorem nix_y (k : Nat) : nix (.y k) = ((2 * k + 2 : Nat) : Int) := by
  show 2 * (k : Int) + 2 = _
  omega
def ncm : NC → Nat
  | .top => full 28
  | .x k => (nxy k).1
  | .y k => (nxy (k + 1)).2
def isetI (i : Int) : Nat := if i < 0 then full 28 else iset i.toNat
theorem isetI_nat (i : Nat) : isetI (i : Int) = iset i := by unfold isetI; rw [if_neg (by omega), Int.toNat_natCast]
theorem ncm_set (c : NC) (h : c.far ≤ 52) : ncm c = isetI (nix c) := by
  cases c with
  | top => rfl
  | x k =>
    cases k with
    | zero => rfl
    | succ k =>
      have hk : k < 27 := by simp only [NC.far] at h; omega
      show (nxy (k + 1)).1 = _
      rw [(nxy_set k hk).1, nix_x, isetI_nat]
  | y k =>
    have hk : k < 27 := by simp only [NC.far] at h; omega
    show (nxy (k + 1)).2 = _
    rw [(nxy_set k hk).2, nix_y, isetI_nat]
theorem ncm_den (c : NC) (w : KL.W) : c.den KL w ↔ (ncm c).testBit w.1 = true := by
  cases c with
  | top =>
    have h : w.1 < 28 := w.2
    show True ↔ (full 28).testBit w.1 = true
    rw [full_bit, decide_eq_true h]
    simp
  | x k => exact (nxy_den k w).1
  | y k => exact (nxy_den (k + 1) w).2
theorem iset_lt : ∀ i, i < 54 → iset i < 2 ^ 28 := by decide +kernel
theorem iset_inj : ∀ i, i < 54 → ∀ j, j < 54 → iset i = iset j → i = j := by decide +kernel
theorem iset_full : ∀ i, i < 54 → iset i ≠ full 28 := by decide +kernel
theorem lv_lt : ∀ m ∈ lv, m < 2 ^ lad.length := by decide +kernel
/-- The ladder value of a formula is the set of its code's index. -/
theorem fv_lad {t : Tree} (h1 : Fm.One t) (h2 : (Fm.enc t).length ≤ 40) : fv lad lv t = isetI (nix (Fm.nc t)) := by
  have hf := Fm.nc_far t
  rw [← ncm_set _ (by omega)]
  apply Nat.eq_of_testBit_eq
  intro x
  have hlt : fv lad lv t < 2 ^ 28 := fv_lt lv_lt t
  have hlt2 : ncm (Fm.nc t) < 2 ^ 28 := by
    rw [ncm_set _ (by omega)]
    unfold isetI
    by_cases hn : nix (Fm.nc t) < 0
    · rw [if_pos hn]; exact full_lt 28
    · rw [if_neg hn]
      refine iset_lt _ ?_
      generalize Fm.nc t = c at *
      cases c with
      | top => decide
      | x k =>
        simp only [NC.far] at hf
        show (if k = 0 then (0 : Int) else 2 * (k : Int) - 1).toNat < 54
        split <;> omega
      | y k =>
        simp only [NC.far] at hf
        show (2 * (k : Int) + 2).toNat < 54
        omega
  by_cases hx : x < 28
  · have h3 := fv_force (V := lv) lad_rl (hr := lad_refl) (ht := lad_trans) (hV := lv_up) t ⟨x, hx⟩
    have h4 := Fm.nc_den KL t h1 ⟨x, hx⟩
    have h5 := ncm_den (Fm.nc t) ⟨x, hx⟩
    rw [Bool.eq_iff_iff]
    exact h3.symm.trans (h4.trans h5)
  · have z1 : (fv lad lv t).testBit x = false := by
      cases hb : (fv lad lv t).testBit x with
      | false => rfl
      | true => exact absurd (bit_lt hlt hb) hx
    have z2 : (ncm (Fm.nc t)).testBit x = false := by
      cases hb : (ncm (Fm.nc t)).testBit x with
      | false => rfl
      | true => exact absurd (bit_lt hlt2 hb) hx
    rw [z1, z2]
theorem nix_range {t : Tree} (h2 : (Fm.enc t).length ≤ 40) : -1 ≤ nix (Fm.nc t) ∧ nix (Fm.nc t) < 54 := by
  have hf := Fm.nc_far t
  generalize Fm.nc t = c at *
  cases c with
  | top => decide
  | x k =>
    simp only [NC.far] at hf
    show -1 ≤ (if k = 0 then (0 : Int) else 2 * (k : Int) - 1) ∧ (if k = 0 then (0 : Int) else 2 * (k : Int) - 1) < 54
    split <;> omega
  | y k =>
    simp only [NC.far] at hf
    show -1 ≤ (2 * (k : Int) + 2) ∧ (2 * (k : Int) + 2) < 54
    omega

/-- N(n). -/
def nis : Nat → Tree
  | 0 => .fls
  | 1 => .var 0
  | 2 => .imp (.var 0) .fls
  | n + 3 => if n % 2 = 0 then .or (nis (n + 2)) (nis (n + 1)) else .imp (nis (n + 1)) (nis n)
theorem nis_odd (k : Nat) : nis (2 * k + 3) = .or (nis (2 * k + 2)) (nis (2 * k + 1)) := by rw [nis]; rw [if_pos (by omega)]
theorem nis_even (k : Nat) : nis (2 * k + 4) = .imp (nis (2 * k + 2)) (nis (2 * k + 1)) := by
  show nis ((2 * k + 1) + 3) = _
  rw [nis, if_neg (by omega)]
theorem nis_den (K : Kr) : ∀ (k : Nat) (w : K.W), (K.force w (nis (2 * k + 1)) ↔ Fm.NX K (k + 1) w) ∧ (K.force w (nis (2 * k + 2)) ↔ Fm.NY K (k + 1) w)
  | 0, w => by
    constructor
    · show K.val w 0 ↔ K.val w 0 ∨ False
      exact ⟨.inl, fun h => h.elim id False.elim⟩
    · exact Iff.rfl
  | k + 1, w => by
    have ih := nis_den K k
    constructor
    · rw [show 2 * (k + 1) + 1 = 2 * k + 3 by omega, nis_odd, Fm.nx_succ]
      show _ ∨ _ ↔ _
      rw [(ih w).1, (ih w).2]
    · rw [show 2 * (k + 1) + 2 = 2 * k + 4 by omega, nis_even, Fm.ny_succ]
      exact forall_congr' fun u => imp_congr Iff.rfl (imp_congr (ih u).2 (ih u).1)
/-- Truth for -1. -/
def nisI (i : Int) : Tree := if i < 0 then .imp .fls .fls else nis i.toNat
theorem nisI_nat (i : Nat) : nisI (i : Int) = nis i := by unfold nisI; rw [if_neg (by omega), Int.toNat_natCast]
theorem nisI_den (K : Kr) (c : NC) (w : K.W) : K.force w (nisI (nix c)) ↔ c.den K w := by
  cases c with
  | top => exact ⟨fun _ => trivial, fun _ _ _ h => h⟩
  | x k =>
    cases k with
    | zero => exact Iff.rfl
    | succ k =>
      rw [nix_x, nisI_nat]
      exact (nis_den K k w).1
  | y k =>
    rw [nix_y, nisI_nat]
    exact (nis_den K k w).2
/-- A formula is equivalent to the one of its index. -/
theorem nisI_eqv {t : Tree} (h1 : Fm.One t) (K : Kr) (w : K.W) : K.force w t ↔ K.force w (nisI (nix (Fm.nc t))) := (Fm.nc_den K t h1 w).trans (nisI_den K _ w).symm
/-- The theorems are those of index -1. -/
theorem nix_theorem {t : Tree} (h1 : Fm.One t) (h2 : (Fm.enc t).length ≤ 40) : (∀ (K : Kr) (w : K.W), K.force w t) ↔ nix (Fm.nc t) = -1 := by
  constructor
  · intro h
    apply Classical.byContradiction
    intro hn
    obtain ⟨r1, r2⟩ := nix_range h2
    have e := fv_lad h1 h2
    unfold isetI at e
    rw [if_neg (by omega)] at e
    refine iset_full (nix (Fm.nc t)).toNat (by omega) ?_
    rw [← e]
    have hlt : fv lad lv t < 2 ^ 28 := fv_lt lv_lt t
    apply Nat.eq_of_testBit_eq
    intro x
    rw [full_bit]
    by_cases hx : x < 28
    · rw [decide_eq_true hx]
      exact (fv_force (V := lv) lad_rl (hr := lad_refl) (ht := lad_trans) (hV := lv_up) t ⟨x, hx⟩).1 (h _ _)
    · rw [decide_eq_false hx]
      cases hb : (fv lad lv t).testBit x with
      | false => rfl
      | true => exact absurd (bit_lt hlt hb) hx
  · intro h K w
    rw [nisI_eqv h1 K w, h]
    exact fun _ _ h => h
end Go.Proofs.YtmcbjekianclpaaGreat

/- Formulas with the first variable alone, plain: the code of a list of nodes. No program is in sight. -/
namespace Go.Proofs.YtmcbjekianclpaaGreat
open Go.RowKit
open Fm (Nd Tree)

noncomputable def lcode (xs : List Nd) : Int := if fmB xs = false then 1 else if anyP isBD xs = true ∨ 1 < vm xs then 5 else 0
theorem lcode_1 {xs : List Nd} (h : fmB xs = false) : lcode xs = 1 := by unfold lcode; rw [if_pos h]
theorem lcode_5 {xs : List Nd} (h : fmB xs = true) (h2 : anyP isBD xs = true ∨ 1 < vm xs) : lcode xs = 5 := by unfold lcode; rw [if_neg (by rw [h]; decide), if_pos h2]
theorem lcode_0 {xs : List Nd} (h : fmB xs = true) (h2 : anyP isBD xs = false) (h3 : ¬ 1 < vm xs) : lcode xs = 0 := by unfold lcode; rw [if_neg (by rw [h]; decide), if_neg]; rintro (h | h); rw [h2] at h; cases h; exact h3 h
theorem kd_get {xs : List Nd} {i : Nat} (hi : i < xs.length) : kd xs i = (xs[i]).1 ∧ sy xs i = (xs[i]).2 := ⟨by simp [kd, List.getD, hi], by simp [sy, List.getD, hi]⟩
theorem vs_enc (t : Tree) : Vs (Fm.enc t) := by
  intro i hi h0
  obtain ⟨e1, e2⟩ := kd_get hi
  rw [e1] at h0
  rw [e2]
  rcases enc_nd t _ (List.getElem_mem hi) with h | h | h | h | h | h | h
  · obtain ⟨_, v, h2, h3⟩ := h; omega
  all_goals (rw [h] at h0; exact absurd h0 (by decide))
theorem vs_fm {xs : List Nd} (h : fmB xs = true) : Vs xs := by
  obtain ⟨t, rfl, _⟩ := fmB_tree h
  exact vs_enc t
theorem one_of : ∀ t : Tree, (∀ x ∈ Fm.enc t, (x.1 = 0 → x.2 = 0) ∧ x.1 ≠ 5 ∧ x.1 ≠ 6) → Fm.One t := by
  intro t
  induction t with
  | var v =>
    intro h
    have h1 := (h (0, (v.val : Int)) (by simp [Fm.enc])).1 rfl
    show v = 0
    apply Fin.ext
    show v.val = 0
    have h1 : (v.val : Int) = 0 := h1
    omega
  | fls => intro _; trivial
  | and a b iha ihb => intro h; exact ⟨iha fun x hx => h x (by simp [Fm.enc, hx]), ihb fun x hx => h x (by simp [Fm.enc, hx])⟩
  | or a b iha ihb => intro h; exact ⟨iha fun x hx => h x (by simp [Fm.enc, hx]), ihb fun x hx => h x (by simp [Fm.enc, hx])⟩
  | imp a b iha ihb => intro h; exact ⟨iha fun x hx => h x (by simp [Fm.enc, hx]), ihb fun x hx => h x (by simp [Fm.enc, hx])⟩
  | box a _ => intro h; exact absurd rfl (h (5, 0) (by simp [Fm.enc])).2.1
  | dia a _ => intro h; exact absurd rfl (h (6, 0) (by simp [Fm.enc])).2.2
theorem bit_le1 : ∀ m, m < 64 → ¬ 1 < m → ∀ v, v < 6 → m.testBit v = true → v = 0 := by decide
theorem lcode_tree {xs : List Nd} (h : lcode xs = 0) : ∃ t, xs = Fm.enc t ∧ FmOk t ∧ Fm.One t := by
  unfold lcode at h
  split at h
  · cases h
  · rename_i h1
    split at h
    · cases h
    · rename_i h2
      have h1 : fmB xs = true := by simpa using h1
      obtain ⟨t, rfl, h3⟩ := fmB_tree h1
      have hb : anyP isBD (Fm.enc t) = false := by
        cases hb : anyP isBD (Fm.enc t) with
        | false => rfl
        | true => exact absurd (.inl hb) h2
      refine ⟨t, rfl, ⟨h3, hb⟩, one_of t fun x hx => ?_⟩
      have hbx := anyP_mem.1 hb x hx
      obtain ⟨i, hi, rfl⟩ := List.getElem_of_mem hx
      obtain ⟨e1, e2⟩ := kd_get hi
      refine ⟨fun h0 => ?_, fun h5 => ?_, fun h6 => ?_⟩
      · have hv := vs_enc t i hi (by rw [e1]; exact h0)
        have hm : vm (Fm.enc t) < 64 := vmK_lt (vs_enc t) _ (Nat.le_refl _)
        have hbit := (vmK_bit (Fm.enc t) (sy (Fm.enc t) i).toNat (Fm.enc t).length).2 ⟨i, hi, by rw [e1]; exact h0, rfl⟩
        have := bit_le1 _ hm (fun h => h2 (.inr h)) _ (by omega) hbit
        omega
      · rw [h5] at hbx; simp [isBD] at hbx
      · rw [h6] at hbx; simp [isBD] at hbx
theorem fv_one {A r r' : List Nat} {x : Nat} : ∀ {t : Tree}, Fm.One t → fv A (x :: r) t = fv A (x :: r') t
  | .var v, h => by
    have h : v = 0 := h
    subst h; rfl
  | .fls, _ => rfl
  | .and a b, h => by show _ &&& _ = _ &&& _; rw [fv_one h.1, fv_one h.2]
  | .or a b, h => by show _ ||| _ = _ ||| _; rw [fv_one h.1, fv_one h.2]
  | .imp a b, h => by show ar A _ _ = ar A _ _; rw [fv_one h.1, fv_one h.2]
  | .box _, h => h.elim
  | .dia _, h => h.elim
theorem one_sy : ∀ {t : Tree}, Fm.One t → ∀ x ∈ Fm.enc t, x.1 = 0 → x.2 = 0
  | .var v, h, x, hx, _ => by
    have h : v = 0 := h
    subst h
    simp [Fm.enc] at hx
    subst hx; rfl
  | .fls, _, x, hx, h0 => by simp [Fm.enc] at hx; subst hx; cases h0
  | .and a b, h, x, hx, h0 => by
    simp only [Fm.enc, List.mem_cons, List.mem_append] at hx
    rcases hx with rfl | hx | hx
    · cases h0
    · exact one_sy h.1 x hx h0
    · exact one_sy h.2 x hx h0
  | .or a b, h, x, hx, h0 => by
    simp only [Fm.enc, List.mem_cons, List.mem_append] at hx
    rcases hx with rfl | hx | hx
    · cases h0
    · exact one_sy h.1 x hx h0
    · exact one_sy h.2 x hx h0
  | .imp a b, h, x, hx, h0 => by
    simp only [Fm.enc, List.mem_cons, List.mem_append] at hx
    rcases hx with rfl | hx | hx
    · cases h0
    · exact one_sy h.1 x hx h0
    · exact one_sy h.2 x hx h0
  | .box _, h, _, _, _ => h.elim
  | .dia _, h, _, _, _ => h.elim
theorem vars_one : ∀ m, m < 64 → (decide (1 < (mbs m).length) || (decide ((mbs m).length = 1) && !decide (nt (mbs m) 0 = 0))) = decide (1 < m) := by decide +kernel
theorem isetI_inj {i j : Int} (h1 : -1 ≤ i) (h2 : i < 54) (h3 : -1 ≤ j) (h4 : j < 54) (h : isetI i = isetI j) : i = j := by
  unfold isetI at h
  by_cases hi : i < 0
  · by_cases hj : j < 0
    · omega
    · rw [if_pos hi, if_neg hj] at h
      exact absurd h.symm (iset_full _ (by omega))
  · by_cases hj : j < 0
    · rw [if_neg hi, if_pos hj] at h
      exact absurd h (iset_full _ (by omega))
    · rw [if_neg hi, if_neg hj] at h
      have := iset_inj _ (by omega) _ (by omega) h
      omega
theorem isetI_lt {i : Int} (h2 : i < 54) : isetI i < 2 ^ 28 := by
  unfold isetI
  split
  · exact full_lt 28
  · exact iset_lt _ (by omega)
theorem nis_enc1 (k : Nat) : Fm.enc (nis (2 * k + 3)) = Fm.join 3 (Fm.enc (nis (2 * k + 2))) (Fm.enc (nis (2 * k + 1))) := by rw [nis_odd]; rfl
theorem nis_enc2 (k : Nat) : Fm.enc (nis (2 * k + 4)) = Fm.join 4 (Fm.enc (nis (2 * k + 2))) (Fm.enc (nis (2 * k + 1))) := by rw [nis_even]; rfl
theorem nis_len : ∀ n, n ≤ 8 → (Fm.enc (nis n)).length ≤ 23 := by
  have : ∀ m : Fin 9, (Fm.enc (nis m.val)).length ≤ 23 := by decide
  exact fun n h => this ⟨n, by omega⟩
/-- NishimuraOf of an index: the formula and the code. -/
def noL (i : Int) : List Nd × Int := if 8 < i then ([], 3) else (Fm.enc (nisI i), 0)
end Go.Proofs.YtmcbjekianclpaaGreat

/- The program's RefutingPoset. -/
namespace Go.Proofs.YtmcbjekianclpaaGreat
open Go.RowKit
open Fm (Nd Tree)

theorem results_cell_tmp_rowX {P : Program} {fn : Func} {p u : Tmp} {ty : TypeId} (h : fn.results = #[.cell p ty, .tmp u]) (tmps : Array Value) (w : World) (g : Nat) (t : TypeId) (cs : Array Value) (fr : Nat × Nat) (d : TypeDesc)
    (hp : tmps.getD p undef = .pointer (some ⟨g, 0, none⟩)) (hg : w.heap[g]? = some (.cells cs t fr))
    (hu : P.underlying ty = some d) (hd : (match d with | .struct _ | .array _ _ => true | _ => false) = true) (hi : (P.info? ty).map (·.size) = some cs.size) :
    (results fn tmps).run P w = .ok (.tuple #[.agg cs, tmps.getD u undef]) w := by
  have hp' : tmps[p]?.getD undef = .pointer (some ⟨g, 0, none⟩) := by simpa using hp
  simp [results, h, hp', asAddr, run_loadVar_row w g t ty cs fr d hg hu hd hi]

/-- What RefutingPoset gives. -/
def GivesR (w : World) (xs : List Nd) (e : Ending) (w' : World) : Prop :=
  ∃ v, e = .returned (.tuple #[.agg #[.int .i64 ((rfR xs).2.length : Int), v], .int .i64 (rfR xs).1]) ∧ OwnI w' w.heap.size v (zs (rfR xs).2) ∧ Grew w w'
theorem gives_nil {w w' : World} {xs : List Nd} {c : Int} (h : rfR xs = (c, [])) (hg : Grew w w') : GivesR w xs (.returned (.tuple #[.agg #[.int .i64 0, .slice none 0 0], .int .i64 c])) w' :=
  ⟨.slice none 0 0, by rw [h]; rfl, by rw [h]; exact World.ownsRow_nil w' _ _ 1, hg⟩

set_option maxHeartbeats 2000000 in
theorem refutingPoset_i (va : Value) (xs : List Nd) (w : World) (ha : Nodes w va xs) (hn : xs.length ≤ 1048576) :
    Calls Tryz.prog 7 #[va] w (GivesR w xs) := by
  have hinfo := info2P
  have HF := Lib.hid (fun W (hW : Grew w W) => isFormula_g va xs W (ha.grew hW) (by omega))
  have HPl := Lib.hid (fun W (hW : Grew w W) => isPlain_c va xs W (ha.grew hW) (by omega))
  obtain ⟨w0, hw0⟩ : ∃ w0, w0 = w.alloc (.cells #[.int .i64 0, .slice none 0 0] 26) := ⟨_, rfl⟩
  have hg0 : Grew w w0 := by rw [hw0]; exact (Grew.refl w).alloc _
  have HB0 := Lib.hid (show w0.heap[w.heap.size]? = some (.cells #[.int .i64 0, .slice none 0 0] 26 (0, 0)) by rw [hw0]; exact blk_new w _)
  have HA := Lib.hid ha
  obtain ⟨A1, c1, rfl⟩ := nodes_slice ha
  clear ha
  have hnx := hn
  generalize hxl : xs.length = nx at HF HPl hn ⊢
  cases hf : fmB xs with
  | false =>
    have hR := Lib.hid (rfR_bad hf)
    rw [hf] at HF
    go_enter Tryz.func7, Tryz.ntmps7
    go_wp2_with fail
    simp only [← hw0]
    clear hw0
    refine (HF.out _ hg0).mono ?_
    rintro e w2 ⟨rfl, hg2⟩
    have hb2 := ((hg2).block (blk_lt HB0.out)).trans HB0.out
    have q0 : w2.cell? ⟨w.heap.size, 0, none⟩ = some (.int .i64 0) := by rw [blk_cell hb2]; rfl
    have q1 : w2.cell? ⟨w.heap.size, 1, none⟩ = some (.slice none 0 0) := by rw [blk_cell hb2]; rfl
    have qf0 := blk_frozen hb2 0
    have qf1 := blk_frozen hb2 1
    have HB2 := Lib.hid hb2
    clear hb2
    go_wp2_with fail
    (try simp only [Exit.inBlock, Exit.then])
    refine bodyPost_ret (results_cell_tmp_rowX rfl _ _ w.heap.size _ _ _ _ rfl (blk_set (blk_set HB2.out 0 _) 1 _) Tryz.underlying26 rfl hinfo) rfl ?_
    exact gives_nil hR.out (((hg0.trans (hg2)).setCell (Nat.le_refl _) _).setCell (Nat.le_refl _) _)
  | true =>
    rw [hf] at HF
    cases hbx : anyP isBD xs with
    | true =>
      have hR := Lib.hid (rfR_box hf hbx)
      rw [hbx] at HPl
      clear hf hbx
      go_enter Tryz.func7, Tryz.ntmps7
      go_wp2_with fail
      simp only [← hw0]
      clear hw0
      refine (HF.out _ hg0).mono ?_
      rintro e w2 ⟨rfl, hg2⟩
      go_wp2_with fail
      refine (HPl.out _ (hg0.trans hg2)).mono ?_
      rintro e w3 ⟨rfl, hg3⟩
      have hb2 := ((hg2.trans hg3).block (blk_lt HB0.out)).trans HB0.out
      have q0 : w3.cell? ⟨w.heap.size, 0, none⟩ = some (.int .i64 0) := by rw [blk_cell hb2]; rfl
      have q1 : w3.cell? ⟨w.heap.size, 1, none⟩ = some (.slice none 0 0) := by rw [blk_cell hb2]; rfl
      have qf0 := blk_frozen hb2 0
      have qf1 := blk_frozen hb2 1
      have HB2 := Lib.hid hb2
      clear hb2
      go_wp2_with fail
      (try simp only [Exit.inBlock, Exit.then])
      refine bodyPost_ret (results_cell_tmp_rowX rfl _ _ w.heap.size _ _ _ _ rfl (blk_set (blk_set HB2.out 0 _) 1 _) Tryz.underlying26 rfl hinfo) rfl ?_
      exact gives_nil hR.out (((hg0.trans (hg2.trans hg3)).setCell (Nat.le_refl _) _).setCell (Nat.le_refl _) _)
    | false =>
      rw [hbx] at HPl
      have hvs := vs_fm hf
      have HVI := Lib.hid (fun b W (hc : W.cell? ⟨b, 0, none⟩ = some (Value.slice A1 xs.length c1)) (hb : b < W.heap.size) (hW : Grew w W) => variablesIn_one_c b _ xs W hc hb (HA.out.grew hW) hvs hnx)
      have HMF := Lib.hid (And.intro hf hbx)
      have hR3 := Lib.hid (rfR_many hf hbx)
      rw [hxl] at HVI
      clear hf hbx hvs
      go_enter Tryz.func7, Tryz.ntmps7
      go_wp2_with fail
      simp only [← hw0]
      clear hw0
      refine (HF.out _ hg0).mono ?_
      rintro e w2 ⟨rfl, hg2⟩
      go_wp2_with fail
      refine (HPl.out _ (hg0.trans hg2)).mono ?_
      rintro e w3 ⟨rfl, hg3⟩
      go_wp2_with fail
      refine (HVI.out _ _ (by simp) (by simp) (((hg0.trans hg2).trans hg3).alloc _)).mono ?_
      rintro e w4 ⟨v4, rfl, hO4, hg4⟩
      have hg34 := (hg2.trans hg3).trans (((Grew.refl w3).alloc _).trans hg4)
      obtain ⟨A4, c4, rfl⟩ := ints_sliceN hO4.ints
      clear hO4
      by_cases hm : 3 < (mbs (vm xs)).length
      · have hR := Lib.hid (hR3.out hm)
        have hm' : (3 : Int) < ((mbs (vm xs)).length : Int) := by omega
        generalize (mbs (vm xs)).length = nm at *
        have hb2 := ((hg34).block (blk_lt HB0.out)).trans HB0.out
        have q0 : w4.cell? ⟨w.heap.size, 0, none⟩ = some (.int .i64 0) := by rw [blk_cell hb2]; rfl
        have q1 : w4.cell? ⟨w.heap.size, 1, none⟩ = some (.slice none 0 0) := by rw [blk_cell hb2]; rfl
        have qf0 := blk_frozen hb2 0
        have qf1 := blk_frozen hb2 1
        have HB2 := Lib.hid hb2
        clear hb2
        go_wp2_with fail
        (try simp only [Exit.inBlock, Exit.then])
        refine bodyPost_ret (results_cell_tmp_rowX rfl _ _ w.heap.size _ _ _ _ rfl (blk_set (blk_set HB2.out 0 _) 1 _) Tryz.underlying26 rfl hinfo) rfl ?_
        exact gives_nil hR.out (((hg0.trans (hg34)).setCell (Nat.le_refl _) _).setCell (Nat.le_refl _) _)
      · have hm' : ¬ (3 : Int) < ((mbs (vm xs)).length : Int) := by omega
        obtain ⟨t, rfl, h40⟩ := fmB_tree HMF.out.1
        have hok : FmOk t := ⟨h40, HMF.out.2⟩
        have hGO := Lib.hid (rfR_go HMF.out.1 HMF.out.2 hm)
        have HV := Lib.hid (fun v A W (h : Ints W v (zs A)) (hW : Grew w W) hA h8 => isValid_c v _ A t W h (HA.out.grew hW) hA h8 hok (vs_enc t) hnx)
        rw [hxl] at HV
        have HSP := Lib.hid (smallPosets_c w4)
        clear hm HF HPl HVI hok HMF hR3 HA hxl
        generalize (mbs (vm (Fm.enc t))).length = nm at *
        have hcgt : decide ((3 : Int) < (nm : Int)) = false := decide_eq_false hm'
        go_wp2_with (go_at_call 22; refine (HSP.out).mono ?_; rintro e w5 ⟨v5, rfl, hO5, hg5⟩; obtain ⟨A5, c5, rfl⟩ := hO5.slice; have HO5 := Lib.hid hO5; clear hO5; obtain ⟨pl, hpl⟩ : ∃ pl, pl = (spsts 4).length := ⟨_, rfl⟩; rw [← hpl] at HO5 ⊢; have HPL := Lib.hid hpl; clear hpl)
        have hO5 := HO5.out
        have hPL := HPL.out
        have HAT := Lib.hid (fun i (hi : i < pl) => hO5.at_ (i := i) (by rw [← hPL]; exact hi))
        rw [← hPL] at HAT
        have HMEM := Lib.hid (fun i (hi : i < pl) => spsts_mem (show (spsts 4).getD i [] ∈ spsts 4 by rw [hPL] at hi; simp [List.getD, hi]))
        have HTK := Lib.hid (fun i (hi : i < pl) => take_next (L := spsts 4) [] (by rw [← hPL]; exact hi))
        have HSPL := Lib.hid (fun i (hi : i < pl) => (show (spsts 4).take i ++ (spsts 4).getD i [] :: (spsts 4).drop (i + 1) = spsts 4 by rw [← List.singleton_append, ← List.append_assoc, ← take_next [] (by rw [← hPL]; exact hi), List.take_append_drop]))
        have HALL : Hid ((spsts 4).take pl = spsts 4) := Lib.hid (by rw [hPL]; exact List.take_length)
        have hg05 := hg34.trans hg5
        have hplb : pl ≤ 262144 := by rw [hPL]; exact spsts_len (Nat.le_refl 4)
        have hs04 := (hg0.trans hg34).size
        have hs0 : w.heap.size < w0.heap.size := blk_lt HB0.out
        have hs34 := hg34.size
        clear hO5 HO5 HPL hPL HSP
        generalize spsts 4 = P at *
        go_loopw [25] (fun i wr => ∃ j : Nat, j ≤ pl ∧ i = .int .i64 (j : Int) ∧ Grew w5 wr ∧ Hid (∀ B ∈ P.take j, refB t B = false)) (fun i _ => pl - (intOf i).toNat)
        case atStart => exact ⟨0, by omega, rfl, Grew.refl _, Lib.hid (by simp)⟩
        case round =>
          obtain ⟨j, hj, rfl, hB, hN⟩ := hrel
          by_cases hlt : j < pl
          · obtain ⟨go, co, uo, he, hgo, hco, huo⟩ := HAT.out j hlt
            injection he with he1 _ he3
            subst he1 he3
            have hmem := HMEM.out j hlt
            have htk := Lib.hid (HTK.out j hlt)
            have hsp := Lib.hid (HSPL.out j hlt)
            have k0 := (hco wr hB).1
            have k1 := (hco wr hB).2
            have hUO := Lib.hid huo
            obtain ⟨Au, cu, rfl⟩ := ints_sliceN huo.ints
            have HUW := Lib.hid huo
            have hVV := Lib.hid (fun W (hW : Grew wr W) => HV.out _ _ W (huo.ints.grew (hB.trans hW)) ((hg0.trans hg05).trans (hB.trans hW)) (pB_ok hmem.2.2).2.1 (by omega))
            clear huo hco hmem
            generalize P.getD j [] = L at *
            change Hid (∀ W, Grew wr W → Calls _ _ _ W fun e w' => e = .returned (.bool (!refB t L)) ∧ Grew W w') at hVV
            cases hr : refB t L with
            | true =>
              rw [hr] at hVV
              have hR : Hid (rfR (Fm.enc t) = (0, L)) := Lib.hid (by rw [hGO.out, ← hsp.out]; exact firstB_hit hN.out hr)
              clear hr
              have hb5 := blk_new wr (.cells #[.int .i64 (L.length : Int), .slice Au L.length cu] 26)
              go_wp2_with fail
              refine (hVV.out _ ((Grew.refl wr).alloc _)).mono ?_
              rintro e w7 ⟨rfl, hg7⟩
              have hb7 := (hg7.block (blk_lt hb5)).trans hb5
              have hB7 := hB.trans (((Grew.refl wr).alloc _).trans hg7)
              have p0 : w7.cell? ⟨wr.heap.size, 0, none⟩ = some (.int .i64 (L.length : Int)) := by rw [blk_cell hb7]; rfl
              have p1 : w7.cell? ⟨wr.heap.size, 1, none⟩ = some (.slice Au L.length cu) := by rw [blk_cell hb7]; rfl
              have hb2 := ((hg05.trans hB7).block (blk_lt HB0.out)).trans HB0.out
              have q0 : w7.cell? ⟨w.heap.size, 0, none⟩ = some (.int .i64 0) := by rw [blk_cell hb2]; rfl
              have q1 : w7.cell? ⟨w.heap.size, 1, none⟩ = some (.slice none 0 0) := by rw [blk_cell hb2]; rfl
              have qf0 := blk_frozen hb2 0
              have qf1 := blk_frozen hb2 1
              have HB2 := Lib.hid hb2
              clear hb2 hb7 hb5
              go_wp2_with fail
              (try simp only [Exit.inBlock, Exit.then])
              refine bodyPost_ret (results_cell_tmp_rowX rfl _ _ w.heap.size _ _ _ _ rfl (blk_set (blk_set HB2.out 0 _) 1 _) Tryz.underlying26 rfl hinfo) rfl ?_
              have hk : Only w.heap.size w7 ((w7.setCell ⟨w.heap.size, 0, none⟩ (.int .i64 (L.length : Int))).setCell ⟨w.heap.size, 1, none⟩ (.slice Au L.length cu)) := ((Only.refl _ _).setCell _).setCell _
              have hO9 := own_only (HUW.out.grew hB7) hk (fun hh => by have := own_of_ge HUW.out hh; omega)
              exact ⟨_, by rw [hR.out]; rfl, by rw [hR.out]; exact own_base hO9 (by omega), ((hg0.trans (hg05.trans hB7)).setCell (Nat.le_refl _) _).setCell (Nat.le_refl _) _⟩
            | false =>
              rw [hr] at hVV
              have hN2 : Hid (∀ B ∈ P.take (j + 1), refB t B = false) := Lib.hid (by
                rw [htk.out]
                intro B hB
                rcases List.mem_append.1 hB with h | h
                · exact hN.out B h
                · rw [List.mem_singleton] at h; rw [h]; exact hr)
              clear hr
              go_wp2_with fail
              refine (hVV.out _ ((Grew.refl wr).alloc _)).mono ?_
              rintro e w7 ⟨rfl, hg7⟩
              have hB7 := hB.trans (((Grew.refl wr).alloc _).trans hg7)
              go_wp2_with fail
              go_roundw
              case rel => exact ⟨j + 1, by omega, by go_num, hB7, hN2⟩
              case measure => simp [intOf]; omega
          · obtain rfl : j = pl := by omega
            have hR : Hid (rfR (Fm.enc t) = (4, [])) := Lib.hid (by rw [hGO.out]; have h := hN.out; rw [HALL.out] at h; exact firstB_none h)
            have hb2 := ((hg05.trans hB).block (blk_lt HB0.out)).trans HB0.out
            have q0 : wr.cell? ⟨w.heap.size, 0, none⟩ = some (.int .i64 0) := by rw [blk_cell hb2]; rfl
            have q1 : wr.cell? ⟨w.heap.size, 1, none⟩ = some (.slice none 0 0) := by rw [blk_cell hb2]; rfl
            have qf0 := blk_frozen hb2 0
            have qf1 := blk_frozen hb2 1
            have HB2 := Lib.hid hb2
            clear hb2
            go_wp2_with fail
            (try simp only [Exit.inBlock, Exit.then])
            refine bodyPost_ret (results_cell_tmp_rowX rfl _ _ w.heap.size _ _ _ _ rfl (blk_set (blk_set HB2.out 0 _) 1 _) Tryz.underlying26 rfl hinfo) rfl ?_
            exact gives_nil hR.out (((hg0.trans (hg05.trans hB)).setCell (Nat.le_refl _) _).setCell (Nat.le_refl _) _)
end Go.Proofs.YtmcbjekianclpaaGreat

/- The reference's posets of one size: l16All. -/
namespace Go.Proofs.YtmcbjekianclpaaGreat
open Go.RowKit

/-- What of one row is done: the masks below v with k in them. -/
def mskK (k : Nat) (l : List Nat) (v : Nat) : List (List Nat) := ((List.range v).filter fun m => m.testBit k).map fun m => l ++ [m]
theorem mskK_yes {k v : Nat} {l : List Nat} (h : v.testBit k = true) : mskK k l (v + 1) = mskK k l v ++ [l ++ [v]] := by
  unfold mskK
  rw [List.range_succ, List.filter_append, List.map_append]
  simp [h]
theorem mskK_no {k v : Nat} {l : List Nat} (h : v.testBit k = false) : mskK k l (v + 1) = mskK k l v := by
  unfold mskK
  rw [List.range_succ, List.filter_append]
  simp [h]
theorem mskK_len (k : Nat) (l : List Nat) (v : Nat) : (mskK k l v).length ≤ v := by
  unfold mskK
  rw [List.length_map]
  have := List.length_filter_le (fun m => m.testBit k) (List.range v)
  rwa [List.length_range] at this
theorem mflat_len {k v m : Nat} : ∀ (P : List (List Nat)), P.length ≤ m → (P.flatMap fun l => mskK k l v).length ≤ m * v
  | [], _ => by simp
  | p :: P, h => by
    rw [List.flatMap_cons, List.length_append]
    have h1 := mskK_len k p v
    have h2 := mflat_len (k := k) (v := v) P (Nat.le_refl _)
    rw [List.length_cons] at h
    have h4 : (P.length + 1) * v ≤ m * v := Nat.mul_le_mul_right _ h
    rw [Nat.add_mul, Nat.one_mul] at h4
    omega
theorem allR_small {n k : Nat} (hn : n ≤ 4) (hk : k ≤ n) : (allR n k).length ≤ 65536 := by
  refine Nat.le_trans (allR_len n k) ?_
  rw [← Nat.pow_mul]
  exact Nat.le_trans (Nat.pow_le_pow_right (by omega) (Nat.mul_le_mul hn (Nat.le_trans hk hn))) (by decide)
theorem allR_smaller {n k : Nat} (hn : n ≤ 4) (hk : k < n) : (allR n k).length ≤ 4096 := by
  refine Nat.le_trans (allR_len n k) ?_
  rw [← Nat.pow_mul]
  exact Nat.le_trans (Nat.pow_le_pow_right (by omega) (Nat.mul_le_mul hn (show k ≤ 3 by omega))) (by decide)
/-- Those of a list that are posets and their own least form. -/
def flt (P : List (List Nat)) : List (List Nat) := P.filter fun A => pB A && decide (lst A = A)

set_option maxHeartbeats 2000000 in
theorem l16All_c (n : Nat) (h1 : 1 ≤ n) (hn : n ≤ 4) (w : World) :
    Calls Tryz.prog 16 #[.int .i64 (n : Int)] w fun e w' => ∃ v, e = .returned v ∧ OwnPs w' w.heap.size v (psts n) ∧ Grew w w' := by
  have HLN := Lib.hid (fun k (hk : k ≤ n) => allR_small hn hk)
  have HOL := Lib.hid (fun k i (hi : i < (allR n k).length) => (allR_mem.1 (show (allR n k).getD i [] ∈ allR n k by simp [List.getD, hi])).1)
  have HFU := Lib.hid (l01Full_q n (by omega))
  have hFb : 2 ^ n ≤ 16 := Nat.le_trans (Nat.pow_le_pow_right (by omega) hn) (by decide)
  have HAS : Hid (∀ k, allR n (k + 1) = (allR n k).flatMap fun l => mskK k l (2 ^ n)) := Lib.hid (fun k => rfl)
  obtain ⟨F, hF⟩ : ∃ F, F = 2 ^ n := ⟨_, rfl⟩
  rw [← hF] at HFU hFb HAS
  clear hF
  have HBI := Lib.hid (fun m k (hm : m < 100) (hk : k < 30) W => l01Bit_q m k (by omega) (by omega) W)
  go_enter Tryz.func16, Tryz.ntmps16
  go_wp2_with fail
  go_loopw [3, 4] (fun s k wr => ∃ j : Nat, j ≤ n ∧ k = .int .i64 j ∧ Grew w wr ∧ Hid (OwnU wr w.heap.size s (zss (allR n j)))) (fun _ k _ => n - (intOf k).toNat)
  case atStart =>
    refine ⟨0, by omega, rfl, ((Grew.refl w).alloc _).alloc _, Lib.hid ?_⟩
    have h1 := ownU_one (w := w.alloc (.cells #[] 2)) (B := w.heap.size) (u := .slice (some ⟨w.heap.size, 0, none⟩) 0 0) (U := []) (own_emptyI w) (by simp)
    rw [show (w.alloc (.cells #[] 2)).heap.size = w.heap.size + 1 by simp] at h1
    exact h1
  case round =>
    obtain ⟨k, hk, rfl, hB, hO⟩ := hrel
    obtain ⟨A3, c3, rfl⟩ := hO.out.slice
    rw [zss_len]
    have hPL := HLN.out k hk
    by_cases hlt : k < n
    · have hPL4 := allR_smaller hn hlt
      have HPQ := Lib.hid (HAS.out k)
      have HAT := Lib.hid (fun i (hi : i < (allR n k).length) => hO.out.at_ (i := i) (by rw [zss_len]; exact hi))
      have HGT := Lib.hid (fun i (hi : i < (allR n k).length) => zss_get (Us := allR n k) (i := i) hi)
      have HLI := Lib.hid (fun i (hi : i < (allR n k).length) => HOL.out k i hi)
      have HFL := Lib.hid (fun i => mflat_len (k := k) (v := F) ((allR n k).take i) (m := 4096) (by rw [List.length_take]; omega))
      have HTK := Lib.hid (fun i (hi : i < (allR n k).length) => (show ((allR n k).take (i + 1)).flatMap (fun l => mskK k l F) = ((allR n k).take i).flatMap (fun l => mskK k l F) ++ mskK k ((allR n k).getD i []) F by rw [take_next [] hi, List.flatMap_append]; simp))
      have HEND : Hid (((allR n k).take (allR n k).length).flatMap (fun l => mskK k l F) = allR n (k + 1)) := Lib.hid (by rw [List.take_length, HPQ.out])
      have HZ : Hid (zss (((allR n k).take 0).flatMap (fun l => mskK k l F)) = []) := Lib.hid rfl
      clear hO
      generalize hP : allR n k = P at *
      generalize hPl : P.length = pl at *
      clear hP hPl
      generalize wr = wk at *
      go_wp2_with fail
      go_loopw [5, 6] (fun s i wi => ∃ m : Nat, m ≤ pl ∧ i = .int .i64 m ∧ Grew wk wi ∧ Hid (OwnU wi wk.heap.size s (zss ((P.take m).flatMap (fun l => mskK k l F))))) (fun _ i _ => pl - (intOf i).toNat)
      case atStart => exact ⟨0, by omega, rfl, (Grew.refl _).alloc _, Lib.hid (by rw [HZ.out]; exact OwnU.lit wk)⟩
      case round =>
        obtain ⟨m, hm, rfl, hB2, hO2⟩ := hrel
        obtain ⟨A5, c5, rfl⟩ := hO2.out.slice
        rw [zss_len]
        by_cases hlm : m < pl
        · obtain ⟨go, co, uo, he, hco, huo⟩ := HAT.out m hlm
          injection he with he1 _ he3
          subst he1 he3
          rw [HGT.out m hlm] at huo
          have hol := HLI.out m hlm
          have htk := Lib.hid (HTK.out m hlm)
          have hfl := HFL.out m
          have HUO := Lib.hid huo
          have HZ2 : Hid (zss ((P.take m).flatMap (fun l => mskK k l F) ++ mskK k (P.getD m []) 0) = zss ((P.take m).flatMap (fun l => mskK k l F))) := Lib.hid (by simp [mskK])
          have HEY := Lib.hid (fun v h => @mskK_yes k v (P.getD m []) h)
          have HEN := Lib.hid (fun v h => @mskK_no k v (P.getD m []) h)
          have HEL := Lib.hid (fun v => mskK_len k (P.getD m []) v)
          have hO3 : Hid (OwnU wr wk.heap.size (.slice A5 ((P.take m).flatMap (fun l => mskK k l F)).length c5) (zss ((P.take m).flatMap (fun l => mskK k l F) ++ mskK k (P.getD m []) 0))) := Lib.hid (by rw [HZ2.out]; have := hO2.out; rwa [zss_len] at this)
          clear huo hO2 HZ2
          generalize P.getD m [] = o at *
          generalize hM : (P.take m).flatMap (fun l => mskK k l F) = M at *
          clear hM
          generalize wr = wm at *
          have hMl : M.length ≤ 1048560 := by
            have := Nat.mul_le_mul (Nat.le_refl 4096) hFb
            omega
          clear hfl
          go_wp2_with fail
          go_loopw [5, 7] (fun s i wi => ∃ v : Nat, v ≤ F ∧ i = .int .i64 v ∧ Grew wk wi ∧ Hid (OwnU wi wk.heap.size s (zss (M ++ mskK k o v)))) (fun _ i _ => F - (intOf i).toNat)
          case atStart => exact ⟨0, by omega, rfl, hB2, hO3⟩
          case round =>
            obtain ⟨v, hv, rfl, hB3, hO3⟩ := hrel
            obtain ⟨A6, c6, rfl⟩ := hO3.out.slice
            have hfu := Lib.hid HFU.out
            by_cases hlv : v < F
            · have hcell := hco wr hB3
              have hIo := HUO.out.ints.grew hB3
              have hLl : (zss (M ++ mskK k o v)).length ≤ 1048576 := by rw [zss_len, List.length_append]; have := HEL.out v; omega
              have hle : (v : Int) ≤ (F : Int) - 1 := by omega
              have hH := Lib.hid (HBI.out v k (by omega) (by omega))
              by_cases hvo : v.testBit k = true
              · have hx : Hid (zss (M ++ mskK k o (v + 1)) = zss (M ++ mskK k o v) ++ [zs o ++ [(v : Int)]]) := Lib.hid (by rw [HEY.out v hvo, ← List.append_assoc, zss_append (M ++ mskK k o v)]; simp [zss, zs])
                rw [hvo] at hH
                clear hvo
                have hOW := Lib.hid (fun W (hW : Grew wr W) => ownR_c uo (zs o) W (hIo.grew hW) (by rw [zs_len, hol]; omega))
                have hol6 : (zs o).length ≤ 1048576 := by rw [zs_len, hol]; omega
                generalize zss (M ++ mskK k o v) = K at *
                generalize zs o = Lo at *
                go_wp2_with fail
                refine (hfu.out _).mono ?_
                rintro e w1 ⟨rfl, rfl⟩
                go_wp2_with fail
                refine (hH.out _).mono ?_
                rintro e w2 ⟨rfl, rfl⟩
                have hB4 := hB3
                go_wp2_with fail
                refine (hOW.out _ (Grew.refl _)).mono ?_
                rintro e w3 ⟨v3, rfl, hO5, hg3⟩
                have hB5 := hB4.trans hg3
                have hO6 := hO3.out.grew hg3
                have hl3 := (Grew.refl w3).alloc (.cells #[.int .i64 (v : Int)] 2)
                go_wp2_with (first
                  | (at_builtin
                     refine wpList_appI (w0 := w2) _ _ rfl rfl _ Lo rfl (hO5.grew hl3) (hg3.trans hl3) _ (v : Int) rfl (rd_litI _ _ _) hol6 ?_
                     intro v7 w7 hO7 hg7 hgr7
                     generalize Lo ++ [(v : Int)] = Lv at *
                     have hB7 := hB4.trans hg7
                     have hO8 := hO3.out.grew hg7
                     obtain ⟨A7, c7, rfl⟩ := ints_slice hO7.ints
                     have hl7 := (Grew.refl w7).alloc (.cells #[.slice A7 Lv.length c7] 24)
                     have hO7b := OwnI.base (B' := wk.heap.size) hO7 hB4.size)
                  | (at_builtin
                     refine wpList_appU wk.heap.size _ _ rfl rfl _ K rfl (hO8.grew hl7) (hB7.alloc _).size _ (.slice A7 Lv.length c7) _ rfl (rd_litU _ _ _) (hO7b.grew hl7) hLl ?_
                     intro v9 w9 hO9 hgr9
                     have hB9 := Grew.grown (hB7.alloc (.cells #[.slice A7 Lv.length c7] 24)) hgr9 (fun k hk => own_of_geU (hO8.grew hl7) hk)))
                go_roundw
                case rel => exact ⟨v + 1, by omega, by go_num, hB9, Lib.hid (by rw [hx.out]; exact hO9)⟩
                case measure => simp [intOf]; omega
              · have hx := Lib.hid (HEN.out v (by simpa using hvo))
                have hvo2 : v.testBit k = false := by simpa using hvo
                rw [hvo2] at hH
                clear hvo hvo2
                go_wp2_with fail
                refine (hfu.out _).mono ?_
                rintro e w1 ⟨rfl, rfl⟩
                go_wp2_with fail
                refine (hH.out _).mono ?_
                rintro e w2 ⟨rfl, rfl⟩
                go_wp2_with fail
                go_roundw
                case rel => exact ⟨v + 1, by omega, by go_num, hB3, by rw [hx.out]; exact hO3⟩
                case measure => simp [intOf]; omega
            · obtain rfl : v = F := by omega
              have hle : ¬ (v : Int) ≤ (v : Int) - 1 := by omega
              go_wp2_with fail
              refine (hfu.out _).mono ?_
              rintro e w1 ⟨rfl, rfl⟩
              go_wp2_with fail
              go_roundw
              case rel => exact ⟨m + 1, by omega, by go_num, hB3, Lib.hid (by rw [htk.out]; exact hO3.out)⟩
              case measure => simp [intOf]; omega
        · obtain rfl : m = pl := by omega
          go_wp2_with fail
          go_roundw
          case rel => exact ⟨k + 1, by omega, by go_num, hB.trans hB2, Lib.hid (by have := hO2.out.base hB.size; rw [zss_len] at this; rw [← HEND.out]; exact this)⟩
          case measure => simp [intOf]; omega
    · obtain rfl : k = n := by omega
      have HAT := Lib.hid (fun i (hi : i < (allR k k).length) => hO.out.at_ (i := i) (by rw [zss_len]; exact hi))
      have HGT := Lib.hid (fun i (hi : i < (allR k k).length) => zss_get (Us := allR k k) (i := i) hi)
      have HLI := Lib.hid (fun i (hi : i < (allR k k).length) => HOL.out k i hi)
      have HTK := Lib.hid (fun i (hi : i < (allR k k).length) => take_next (L := allR k k) [] hi)
      have HEND : Hid (flt ((allR k k).take (allR k k).length) = psts k) := Lib.hid (by rw [List.take_length]; rfl)
      clear hO HAS HFU HBI
      generalize hP : allR k k = P at *
      generalize hPl : P.length = pl at *
      clear hP
      have HPl := Lib.hid hPl
      clear hPl
      generalize wr = wk at *
      have hlit := OwnPs.lit wk
      go_wp2_with fail
      go_loopw [8, 9] (fun s i wi => ∃ m : Nat, m ≤ pl ∧ i = .int .i64 m ∧ Grew wk wi ∧ Hid (OwnPs wi wk.heap.size s (flt (P.take m)))) (fun _ i _ => pl - (intOf i).toNat)
      case atStart => exact ⟨0, by omega, rfl, (Grew.refl _).alloc _, Lib.hid hlit⟩
      clear hlit
      case round =>
        obtain ⟨m, hm, rfl, hB2, hO2⟩ := hrel
        obtain ⟨A5, c5, rfl⟩ := hO2.out.slice
        by_cases hlm : m < pl
        · obtain ⟨go, co, uo, he, hco, huo⟩ := HAT.out m hlm
          injection he with he1 _ he3
          subst he1 he3
          rw [HGT.out m hlm] at huo
          have hol := HLI.out m hlm
          have htk := Lib.hid (HTK.out m hlm)
          have hcell := hco wr hB2
          have hM := Lib.hid (l16Make_c uo (zs (P.getD m [])) wr (huo.grew hB2).ints (by rw [zs_len, hol]; omega))
          have hFL : (flt (P.take m)).length ≤ pl := Nat.le_trans (List.length_filter_le _ _) (by rw [List.length_take]; omega)
          clear huo hco
          generalize P.getD m [] = L at *
          go_wp2_with fail
          refine hM.out.mono ?_
          rintro e w2 ⟨v2, rfl, hV2, hg2⟩
          obtain ⟨A2, c2, rfl⟩ := ints_sliceN hV2.ints
          rw [zs_len, hol]
          go_wp2_with fail
          have hg3 := hg2.trans ((Grew.refl w2).alloc (.cells #[.int .i64 (k : Int), .slice A2 k c2] 26))
          have hV3 := hV2.grew ((Grew.refl w2).alloc (.cells #[.int .i64 (k : Int), .slice A2 k c2] 26))
          have hb3 := blk_new w2 (.cells #[.int .i64 (k : Int), .slice A2 k c2] 26)
          have hs2 := hg2.size
          generalize hw3 : w2.alloc (.cells #[.int .i64 (k : Int), .slice A2 k c2] 26) = w3 at *
          clear hw3
          have c0 : ∀ W, Grew w3 W → W.cell? ⟨w2.heap.size, 0, none⟩ = some (.int .i64 (k : Int)) := fun W hW => by rw [blk_cell ((hW.block (blk_lt hb3)).trans hb3)]; rfl
          have c1 : ∀ W, Grew w3 W → W.cell? ⟨w2.heap.size, 1, none⟩ = some (.slice A2 k c2) := fun W hW => by rw [blk_cell ((hW.block (blk_lt hb3)).trans hb3)]; rfl
          have hIs : Hid (∀ W, Grew w3 W → Calls Tryz.prog 35 #[.agg #[.int .i64 (k : Int), .slice A2 k c2]] W fun e w' => e = .returned (.bool (pB L)) ∧ Grew W w') := Lib.hid (fun W hW => by
            have h := l16Is_c (k : Int) _ _ W (hV3.grew hW).ints
            unfold pB
            rw [hol] at h ⊢
            exact h)
          have hLs : Hid (pB L = true → ∀ W, Grew w3 W → Calls Tryz.prog 37 #[.slice A2 k c2] W (GivesI W (zs (lst L)))) := Lib.hid (fun hpb W hW => by
            have h := l05Least_c _ _ W (hV3.grew hW).ints (pB_ok hpb).2.1 (by omega)
            rw [hol] at h
            exact h)
          have hSm : Hid (pB L = true → ∀ W v, Grew w3 W → Ints W v (zs (lst L)) → Calls Tryz.prog 36 #[v, .slice A2 k c2] W fun e w' => e = .returned (.bool (decide (lst L = L))) ∧ Grew W w') := Lib.hid (fun hpb W v hW hv => by
            have h := l01Same_c v _ _ _ W hv (hV3.grew hW).ints (lst_len (pB_ok hpb).2.1)
            rw [hol] at h
            exact h)
          have HV3 := Lib.hid hV3
          have r1 := Grew.refl w3
          have r2 := (Grew.refl w3).drew
          clear hV2 hV3 hb3 hM
          cases hpb : pB L with
          | true =>
            rw [hpb] at hIs
            have hLs := Lib.hid (hLs.out hpb)
            have hSm := Lib.hid (hSm.out hpb)
            cases hdl : decide (lst L = L) with
            | true =>
              have hfl2 : Hid (flt (P.take (m + 1)) = flt (P.take m) ++ [L]) := Lib.hid (by unfold flt; rw [htk.out, List.filter_append]; simp [hpb, of_decide_eq_true hdl])
              rw [hdl] at hSm
              clear hpb hdl
              go_region_held3 (fun (w' : World) => Grew w3 w') (first | assumption | exact Grew.drew ‹_›) (first
                | (go_at_call 35; refine Calls.mono (hIs.out _ (by assumption)) ?_; rintro e wa ⟨rfl, hga⟩; have hgA : Grew w3 wa := Grew.trans (by assumption) hga)
                | (go_at_call 37; refine Calls.mono (hLs.out _ (by assumption)) ?_; rintro e wb ⟨vb, rfl, hOb, hgb⟩; obtain ⟨Ab, cb, rfl⟩ := ints_sliceN hOb.ints; have hIb := hOb.ints; have hgB : Grew w3 wb := Grew.trans (by assumption) hgb)
                | (go_at_call 36; refine Calls.mono (hSm.out _ _ (by assumption) (by assumption)) ?_; rintro e wc ⟨rfl, hgc⟩; have hgC : Grew w3 wc := Grew.trans (by assumption) hgc))
              have hl6 := (Grew.refl wc).alloc (.cells #[.int .i64 (k : Int), .slice A2 k c2] 26)
              have hO6 := hO2.out.grew ((hg3.trans hgC).trans hl6)
              have hsz : wk.heap.size ≤ (wc.alloc (.cells #[.int .i64 (k : Int), .slice A2 k c2] 26)).heap.size := ((hB2.trans (hg3.trans hgC)).trans hl6).size
              have hq : ∀ p ∈ [(Value.slice A2 k c2, L)], OwnI (wc.alloc (.cells #[.int .i64 (k : Int), .slice A2 k c2] 26)) wk.heap.size p.1 (zs p.2) := fun p hp => by
                rw [List.mem_singleton] at hp
                subst hp
                have h8 := HV3.out.grew (hgC.trans hl6)
                rw [hol] at h8
                exact OwnI.base h8 hB2.size
              have hrd : Rd (wc.alloc (.cells #[.int .i64 (k : Int), .slice A2 k c2] 26)) 2 (.slice (some ⟨wc.heap.size, 0, none⟩) 1 1) 1 (pscells [(Value.slice A2 k c2, L)]) := by
                have h9 : pscells [(Value.slice A2 k c2, L)] = [.int .i64 (k : Int), .slice A2 k c2] := by
                  show [Value.int .i64 (L.length : Int), .slice A2 k c2] = _
                  rw [hol]
                rw [h9]
                exact rd_litPs _ _ _ _
              have hbnd : (flt (P.take m)).length + [(Value.slice A2 k c2, L)].length ≤ 1048577 := by
                simp only [List.length_cons, List.length_nil]
                omega
              go_wp2_with (at_builtin
                           refine wpList_appPs wk.heap.size _ _ rfl rfl _ (flt (P.take m)) rfl hO6 hsz _ [(Value.slice A2 k c2, L)] rfl hrd hq hbnd ?_
                           intro v9 w9 hO9 hgr9 hnb9
                           have hB9 := Grew.grown ((hB2.trans (hg3.trans hgC)).trans hl6) hgr9 (fun q hq => hO6.ge hq))
              go_roundw
              case rel => exact ⟨m + 1, by omega, by go_num, hB9, Lib.hid (by rw [hfl2.out]; exact hO9)⟩
              case measure => simp [intOf]; omega
            | false =>
              have hfl2 : Hid (flt (P.take (m + 1)) = flt (P.take m)) := Lib.hid (by unfold flt; rw [htk.out, List.filter_append]; simp [hpb, of_decide_eq_false hdl])
              rw [hdl] at hSm
              clear hpb hdl
              go_region_held3 (fun (w' : World) => Grew w3 w') (first | assumption | exact Grew.drew ‹_›) (first
                | (go_at_call 35; refine Calls.mono (hIs.out _ (by assumption)) ?_; rintro e wa ⟨rfl, hga⟩; have hgA : Grew w3 wa := Grew.trans (by assumption) hga)
                | (go_at_call 37; refine Calls.mono (hLs.out _ (by assumption)) ?_; rintro e wb ⟨vb, rfl, hOb, hgb⟩; obtain ⟨Ab, cb, rfl⟩ := ints_sliceN hOb.ints; have hIb := hOb.ints; have hgB : Grew w3 wb := Grew.trans (by assumption) hgb)
                | (go_at_call 36; refine Calls.mono (hSm.out _ _ (by assumption) (by assumption)) ?_; rintro e wc ⟨rfl, hgc⟩; have hgC : Grew w3 wc := Grew.trans (by assumption) hgc))
              go_wp2_with fail
              go_roundw
              case rel => exact ⟨m + 1, by omega, by go_num, (hB2.trans hg3).trans hgC, Lib.hid (by rw [hfl2.out]; exact hO2.out.grew (hg3.trans hgC))⟩
              case measure => simp [intOf]; omega
          | false =>
            rw [hpb] at hIs
            have hfl2 : Hid (flt (P.take (m + 1)) = flt (P.take m)) := Lib.hid (by unfold flt; rw [htk.out, List.filter_append]; simp [hpb])
            clear hpb hLs hSm
            -- STEPS20
            refine wp_region_held_drew (S := fun w' => Grew w3 w') (by kernel_rfl) r2 (fun hHeld => ?_)
            refine wpAnyH_take (i := 0) (oi := ?on1) (v := ?vn1) ?hin1 ?an1 ?bn1 ?cn1 ?qn1 (Or.inl ⟨?dn1, ?hyn1⟩) hHeld ?restn1
            case hin1 => (simp only [List.getElem?_toArray, List.getElem?_cons_zero]; exact rfl)
            case an1 => kernel_rfl
            case bn1 => kernel_rfl
            case cn1 => kernel_rfl
            case qn1 => exact fun _ _ _ h => h
            case dn1 => rfl
            case hyn1 => (intro z hSw; (try dsimp only at hSw); go_simp; (try with_reducible rfl))
            try simp only [Act.put, List.setIfInBounds_toArray, List.set_cons_zero, List.set_cons_succ]
            refine wpAnyH_ready (rs := [1]) (by kernel_rfl) (by simp) ?_
            refine AllReadyH.cons (o := ?on2) ?hin2 ?restn2 AllReadyH.nil
            case hin2 => (simp only [List.getElem?_toArray, List.getElem?_cons_succ, List.getElem?_cons_zero]; exact rfl)
            intro K hK
            go_simp
            go_at_call 35
            refine (hIs.out _ r2).mono ?_
            rintro e wa ⟨rfl, hga⟩
            have hgA : Grew w3 wa := r2.trans hga
            go_simp
            refine hK.out _ _ ?_ (fun hHeld => ?_)
            · (try dsimp only); first | with_reducible assumption | exact Grew.alloc ‹_› _
            clear hK K
            try simp only [Act.put, List.setIfInBounds_toArray, List.set_cons_zero, List.set_cons_succ]
            refine wpAnyH_take (i := 2) (oi := ?on3) (v := ?vn3) ?hin3 ?an3 ?bn3 ?cn3 ?qn3 (Or.inl ⟨?dn3, ?hyn3⟩) hHeld ?restn3
            case hin3 => (simp only [List.getElem?_toArray, List.getElem?_cons_succ, List.getElem?_cons_zero]; exact rfl)
            case an3 => kernel_rfl
            case bn3 => kernel_rfl
            case cn3 => kernel_rfl
            case qn3 => exact fun _ _ _ h => h
            case dn3 => rfl
            case hyn3 => (intro z hSw; (try dsimp only at hSw); go_simp; (try with_reducible rfl))
            try simp only [Act.put, List.setIfInBounds_toArray, List.set_cons_zero, List.set_cons_succ]
            refine wpAnyH_take (i := 3) (oi := ?on4) ?hin4 ?an4 ?bn4 ?cn4 ?qn4 (Or.inr ⟨?dn4, rfl⟩) hHeld ?restn4
            case hin4 => (simp only [List.getElem?_toArray, List.getElem?_cons_succ, List.getElem?_cons_zero]; exact rfl)
            case an4 => kernel_rfl
            case bn4 => kernel_rfl
            case cn4 => kernel_rfl
            case qn4 => exact fun _ _ _ h => h
            case dn4 => rfl
            try simp only [Act.put, List.setIfInBounds_toArray, List.set_cons_zero, List.set_cons_succ]
            refine wpAnyH_take (i := 4) (oi := ?on5) ?hin5 ?an5 ?bn5 ?cn5 ?qn5 (Or.inr ⟨?dn5, rfl⟩) hHeld ?restn5
            case hin5 => (simp only [List.getElem?_toArray, List.getElem?_cons_succ, List.getElem?_cons_zero]; exact rfl)
            case an5 => kernel_rfl
            case bn5 => kernel_rfl
            case cn5 => kernel_rfl
            case qn5 => exact fun _ _ _ h => h
            case dn5 => rfl
            try simp only [Act.put, List.setIfInBounds_toArray, List.set_cons_zero, List.set_cons_succ]
            refine wpAnyH_take (i := 5) (oi := ?on6) ?hin6 ?an6 ?bn6 ?cn6 ?qn6 (Or.inr ⟨?dn6, rfl⟩) hHeld ?restn6
            case hin6 => (simp only [List.getElem?_toArray, List.getElem?_cons_succ, List.getElem?_cons_zero]; exact rfl)
            case an6 => kernel_rfl
            case bn6 => kernel_rfl
            case cn6 => kernel_rfl
            case qn6 => exact fun _ _ _ h => h
            case dn6 => rfl
            try simp only [Act.put, List.setIfInBounds_toArray, List.set_cons_zero, List.set_cons_succ]
            refine wpAnyH_take (i := 6) (oi := ?on7) ?hin7 ?an7 ?bn7 ?cn7 ?qn7 (Or.inr ⟨?dn7, rfl⟩) hHeld ?restn7
            case hin7 => (simp only [List.getElem?_toArray, List.getElem?_cons_succ, List.getElem?_cons_zero]; exact rfl)
            case an7 => kernel_rfl
            case bn7 => kernel_rfl
            case cn7 => kernel_rfl
            case qn7 => exact fun _ _ _ h => h
            case dn7 => rfl
            try simp only [Act.put, List.setIfInBounds_toArray, List.set_cons_zero, List.set_cons_succ]
            refine wpAnyH_take (i := 7) (oi := ?on8) ?hin8 ?an8 ?bn8 ?cn8 ?qn8 (Or.inr ⟨?dn8, rfl⟩) hHeld ?restn8
            case hin8 => (simp only [List.getElem?_toArray, List.getElem?_cons_succ, List.getElem?_cons_zero]; exact rfl)
            case an8 => kernel_rfl
            case bn8 => kernel_rfl
            case cn8 => kernel_rfl
            case qn8 => exact fun _ _ _ h => h
            case dn8 => rfl
            try simp only [Act.put, List.setIfInBounds_toArray, List.set_cons_zero, List.set_cons_succ]
            refine wpAnyH_take (i := 8) (oi := ?on9) ?hin9 ?an9 ?bn9 ?cn9 ?qn9 (Or.inr ⟨?dn9, rfl⟩) hHeld ?restn9
            case hin9 => (simp only [List.getElem?_toArray, List.getElem?_cons_succ, List.getElem?_cons_zero]; exact rfl)
            case an9 => kernel_rfl
            case bn9 => kernel_rfl
            case cn9 => kernel_rfl
            case qn9 => exact fun _ _ _ h => h
            case dn9 => rfl
            try simp only [Act.put, List.setIfInBounds_toArray, List.set_cons_zero, List.set_cons_succ]
            refine wpAnyH_take (i := 9) (oi := ?on10) (v := ?vn10) ?hin10 ?an10 ?bn10 ?cn10 ?qn10 (Or.inl ⟨?dn10, ?hyn10⟩) hHeld ?restn10
            case hin10 => (simp only [List.getElem?_toArray, List.getElem?_cons_succ, List.getElem?_cons_zero]; exact rfl)
            case an10 => kernel_rfl
            case bn10 => kernel_rfl
            case cn10 => kernel_rfl
            case qn10 => exact fun _ _ _ h => h
            case dn10 => rfl
            case hyn10 => (intro z hSw; (try dsimp only at hSw); go_simp; (try with_reducible rfl))
            try simp only [Act.put, List.setIfInBounds_toArray, List.set_cons_zero, List.set_cons_succ]
            refine wpAnyH_done (by kernel_rfl) ?_ _
            -- END20
            go_wp2_with fail
            go_roundw
            case rel => exact ⟨m + 1, by omega, by go_num, (hB2.trans hg3).trans hgA, Lib.hid (by rw [hfl2.out]; exact hO2.out.grew (hg3.trans hgA))⟩
            case measure => simp [intOf]; omega
        · obtain rfl : m = pl := by omega
          have HO := Lib.hid hO2.out
          generalize flt (P.take m) = R at *
          go_wp2_with fail
          go_ret
          exact ⟨_, rfl, by rw [← HEND.out]; exact HO.out.base hB.size, hB.trans hB2⟩
end Go.Proofs.YtmcbjekianclpaaGreat

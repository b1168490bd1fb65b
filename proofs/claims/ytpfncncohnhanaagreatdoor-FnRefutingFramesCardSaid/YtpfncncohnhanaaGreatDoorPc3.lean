/- Texts in one file: Vm RfI LsN LsY LsS LsK LsL LsX FsX ShF FsO FdO MoT MvT FvP Corr FlT Find RgP FlE FlC FlP Tab Axiom FaP EqN Eq LawAxiom. -/
import Derived.Lib.JoinLaws
import Derived.Shelf.SlSortCmp.Kit1
import Derived.Shelf.SlLaysF
import Derived.Shelf.SlSortCmp.Whole1
import Derived.Lib.SliceRun
import Derived.Laws.EntriesVeiled
import Derived.ProofKit
import Derived.LaidMore
import Derived.OpenShut
import Derived.Lib.LaidTab
import Derived.Deep.RegionHeld3
import Derived.Test.YtpfncncohnhanaaGreatDoorPc1
import Derived.Test.YtpfncncohnhanaaGreatDoorPc2
set_option linter.all false

/- The variables of a formula: variableMask of the program, l02Variables of the reference. -/
namespace Go.Proofs.YtpfncncohnhanaaGreatDoor
open Go.RowKit
open Fm (Nd Tree)

def vmK (xs : List Nd) : Nat → Nat
  | 0 => 0
  | k + 1 => if kd xs k = 0 then vmK xs k ||| 2 ^ (sy xs k).toNat else vmK xs k
theorem vmK_yes {xs : List Nd} {k : Nat} (h : kd xs k = 0) : vmK xs (k + 1) = vmK xs k ||| 2 ^ (sy xs k).toNat := by
  show (if _ then _ else _) = _
  rw [if_pos h]
theorem vmK_no {xs : List Nd} {k : Nat} (h : ¬ kd xs k = 0) : vmK xs (k + 1) = vmK xs k := by
  show (if _ then _ else _) = _
  rw [if_neg h]
def vm (xs : List Nd) : Nat := vmK xs xs.length
def Vs (xs : List Nd) : Prop := ∀ i, i < xs.length → kd xs i = 0 → 0 ≤ sy xs i ∧ sy xs i < 6
theorem vmK_lt {xs : List Nd} (h : Vs xs) : ∀ k, k ≤ xs.length → vmK xs k < 2 ^ 6 := by
  intro k
  induction k with
  | zero => intro _; show 0 < 2 ^ 6; decide
  | succ k ih =>
    intro hk
    by_cases h0 : kd xs k = 0
    · rw [vmK_yes h0]
      have h1 := h k (by omega) h0
      refine or_n (ih (by omega)) ?_
      exact Nat.pow_lt_pow_right (by omega) (by omega)
    · rw [vmK_no h0]; exact ih (by omega)
set_option maxHeartbeats 1000000 in
theorem variableMask_c (v : Value) (xs : List Nd) (w : World) (h : Nodes w v xs) (hv : Vs xs) (hn : xs.length ≤ 1048576) :
    Calls Tryz.prog 76 #[v] w fun e w' => e = .returned (.int .i64 ((vm xs : Nat) : Int)) ∧ Grew w w' := by
  have HY := Lib.hid (fun k => @vmK_yes xs k)
  have HN := Lib.hid (fun k => @vmK_no xs k)
  have HL := Lib.hid (fun k (hk : k ≤ xs.length) => vmK_lt hv k hk)
  have HV := Lib.hid hv
  have HZ : Hid (vmK xs 0 = 0) := Lib.hid rfl
  have HE : Hid (vm xs = vmK xs xs.length) := Lib.hid rfl
  have HO := Lib.hid (fun a b (ha : a < 2 ^ 6) (hb : b < 2 ^ 6) => or_i64 a b (by omega) (by omega))
  rcases h.open_ with ⟨rfl, rfl⟩ | ⟨b, o, c, rfl, hc, hm, hb, hcell⟩
  · clear h
    go_enter Tryz.func76, Tryz.ntmps76
    go_wp2_with fail
    refine wp_loop_rounds 1 ?_; rw [rounds_succ]
    go_wp2_with fail
    go_ret
    exact ⟨rfl, Grew.refl _⟩
  have HC := Lib.hid hcell
  clear hcell h hv
  generalize vm xs = R at *
  generalize hN : xs.length = n at *
  have HXN := Lib.hid hN
  clear hN
  go_enter Tryz.func76, Tryz.ntmps76
  go_wp2_with fail
  go_loopw [3, 5, 8] (fun q _ i wr => ∃ k : Nat, k ≤ n ∧ i = .int .i64 (k : Int) ∧ q = .int .i64 ((vmK xs k : Nat) : Int) ∧ Grew w wr) (fun _ _ i _ => n - (intOf i).toNat)
  case atStart => exact ⟨0, Nat.zero_le _, rfl, by rw [HZ.out]; rfl, Grew.refl _⟩
  case round =>
    obtain ⟨k, hk, rfl, rfl, hB⟩ := hrel
    by_cases hlt : k < n
    · obtain ⟨c0, c1⟩ := HC.out k hlt _ hB
      have hy := Lib.hid (HY.out k)
      have hno := Lib.hid (HN.out k)
      have hq := HL.out k hk
      by_cases h0 : kd xs k = 0
      · have hvs := HV.out k (by rw [HXN.out]; exact hlt) h0
        have hyk := hy.out h0
        rw [h0] at c0
        clear h0
        obtain ⟨s, hs⟩ : ∃ s : Nat, sy xs k = (s : Int) := ⟨(sy xs k).toNat, by omega⟩
        rw [hs] at c1 hyk hvs
        rw [Int.toNat_natCast] at hyk
        have hp := wrap_pow (k := s) (by omega)
        have hp64 : 2 ^ s < 2 ^ 6 := Nat.pow_lt_pow_right (by omega) (by omega)
        have ho := HO.out (vmK xs k) (2 ^ s) hq hp64
        have HYK := Lib.hid hyk
        have hs6 : (s : Int) < 6 := hvs.2
        clear hyk hs hy hno hvs
        generalize vmK xs k = q at *
        generalize (2 ^ s : Nat) = p at *
        go_wp2_with fail
        go_roundw
        case rel => exact ⟨k + 1, by omega, by go_num, by rw [HYK.out], hB.trans ((Grew.refl _).alloc _)⟩
        case measure => simp [intOf]; omega
      · have hyk := hno.out h0
        have HYK := Lib.hid hyk
        clear hyk hy hno
        generalize kd xs k = kk at *
        generalize vmK xs k = q at *
        go_wp2_with fail
        go_roundw
        case rel => exact ⟨k + 1, by omega, by go_num, by rw [HYK.out], hB.trans ((Grew.refl _).alloc _)⟩
        case measure => simp [intOf]; omega
    · obtain rfl : k = n := by omega
      have he := HE.out
      go_wp2_with fail
      go_ret
      exact ⟨by rw [he]; rfl, hB⟩
set_option maxHeartbeats 1000000 in
theorem l02Variables_c (v : Value) (xs : List Nd) (w : World) (h : Nodes w v xs) (hv : Vs xs) (hn : xs.length ≤ 1048576) :
    Calls Tryz.prog 29 #[v] w (GivesI w (zs (mbs (vm xs)))) := by
  have HY := Lib.hid (fun k => @vmK_yes xs k)
  have HN := Lib.hid (fun k => @vmK_no xs k)
  have HL := Lib.hid (fun k (hk : k ≤ xs.length) => vmK_lt hv k hk)
  have HV := Lib.hid hv
  have HZ : Hid (vmK xs 0 = 0) := Lib.hid rfl
  have HE : Hid (vm xs = vmK xs xs.length) := Lib.hid rfl
  have HO := Lib.hid (fun a b (ha : a < 2 ^ 6) (hb : b < 2 ^ 6) => or_i64 a b (by omega) (by omega))
  have HR := Lib.hid (fun W => l01List_c (vm xs) (by have := vmK_lt hv xs.length (Nat.le_refl _); unfold vm; omega) W)
  rcases h.open_ with ⟨rfl, rfl⟩ | ⟨b, o, c, rfl, hc, hm, hb, hcell⟩
  · clear h
    have hz : vm [] = 0 := rfl
    rw [hz] at HR ⊢
    generalize zs (mbs 0) = L at *
    go_enter Tryz.func29, Tryz.ntmps29
    go_wp2_with fail
    refine wp_loop_rounds 1 ?_; rw [rounds_succ]
    go_wp2_with fail
    refine (HR.out _).mono ?_
    rintro e w1 ⟨v1, rfl, hO1, hg1⟩
    go_wp2_with fail
    go_ret
    exact ⟨_, rfl, hO1, hg1⟩
  have HC := Lib.hid hcell
  clear hcell h hv
  generalize zs (mbs (vm xs)) = L at *
  generalize vm xs = R at *
  generalize hN : xs.length = n at *
  have HXN := Lib.hid hN
  clear hN
  go_enter Tryz.func29, Tryz.ntmps29
  go_wp2_with fail
  go_loopw [3, 4] (fun q i wr => ∃ k : Nat, k ≤ n ∧ i = .int .i64 (k : Int) ∧ q = .int .i64 ((vmK xs k : Nat) : Int) ∧ Grew w wr) (fun _ i _ => n - (intOf i).toNat)
  case atStart => exact ⟨0, Nat.zero_le _, rfl, by rw [HZ.out]; rfl, Grew.refl _⟩
  case round =>
    obtain ⟨k, hk, rfl, rfl, hB⟩ := hrel
    by_cases hlt : k < n
    · obtain ⟨c0, c1⟩ := HC.out k hlt _ hB
      have hy := Lib.hid (HY.out k)
      have hno := Lib.hid (HN.out k)
      have hq := HL.out k hk
      by_cases h0 : kd xs k = 0
      · have hvs := HV.out k (by rw [HXN.out]; exact hlt) h0
        have hyk := hy.out h0
        rw [h0] at c0
        clear h0
        obtain ⟨s, hs⟩ : ∃ s : Nat, sy xs k = (s : Int) := ⟨(sy xs k).toNat, by omega⟩
        rw [hs] at c1 hyk hvs
        rw [Int.toNat_natCast] at hyk
        have KO := Lib.hid (fun W => l01One_q s (by omega) W)
        have hp64 : 2 ^ s < 2 ^ 6 := Nat.pow_lt_pow_right (by omega) (by omega)
        have ho := HO.out (vmK xs k) (2 ^ s) hq hp64
        have HYK := Lib.hid hyk
        have hs6 : (s : Int) < 6 := hvs.2
        clear hyk hs hy hno hvs
        generalize vmK xs k = q at *
        generalize (2 ^ s : Nat) = p at *
        have hr1 := Grew.refl wr
        have hd1 := (Grew.refl wr).drew
        go_wp2_with fail
        refine (KO.out _).mono ?_
        rintro e w1 ⟨rfl, rfl⟩
        go_wp2_with fail
        go_roundw
        case rel => exact ⟨k + 1, by omega, by go_num, by rw [HYK.out], hB⟩
        case measure => simp [intOf]; omega
      · have hyk := hno.out h0
        have HYK := Lib.hid hyk
        clear hyk hy hno
        generalize kd xs k = kk at *
        generalize vmK xs k = q at *
        go_wp2_with fail
        go_roundw
        case rel => exact ⟨k + 1, by omega, by go_num, by rw [HYK.out], hB⟩
        case measure => simp [intOf]; omega
    · obtain rfl : k = n := by omega
      rw [← HE.out]
      go_wp2_with fail
      refine (HR.out _).mono ?_
      rintro e w1 ⟨v1, rfl, hO1, hg1⟩
      go_wp2_with fail
      go_ret
      exact ⟨_, rfl, own_base hO1 hB.size, hB.trans hg1⟩
end Go.Proofs.YtpfncncohnhanaaGreatDoor


/- The program's search for a valuation that refutes a formula on a poset: variablesIn of one formula, valuations, unforced, isValid. -/
namespace Go.Proofs.YtpfncncohnhanaaGreatDoor
open Go.RowKit
open Fm (Nd Tree)
attribute [local go_sem] Oper.semAt_some

theorem variablesIn_one_c (b : Nat) (va : Value) (xs : List Nd) (w : World) (hc : w.cell? ⟨b, 0, none⟩ = some va) (hb : b < w.heap.size) (h : Nodes w va xs) (hv : Vs xs) (hn : xs.length ≤ 1048576) :
    Calls Tryz.prog 35 #[.slice (some ⟨b, 0, none⟩) 1 1] w (GivesI w (zs (mbs (vm xs)))) := by
  have HM := Lib.hid (fun W (hW : Grew w W) => variableMask_c va xs W (h.grew hW) hv hn)
  have hlt := vmK_lt hv xs.length (Nat.le_refl _)
  have hsm : vm xs < 1073741824 := by
    have : (2 : Nat) ^ 6 = 64 := rfl
    unfold vm
    omega
  have HB := Lib.hid (membersOf_c (vm xs) hsm)
  have hor : bits .or .i64 0 ((vm xs : Nat) : Int) = ((vm xs : Nat) : Int) := by
    have h0 := or_i64 0 (vm xs) (by omega) (by omega)
    rw [Nat.zero_or] at h0
    exact h0
  obtain ⟨A, c, rfl⟩ := nodes_slice h
  clear h hv hn hlt
  generalize vm xs = m at *
  generalize xs.length = n at *
  go_enter Tryz.func35, Tryz.ntmps35
  go_wp2_with fail
  go_loopw [3, 8] (fun q i wr => ∃ j : Nat, j ≤ 1 ∧ i = .int .i64 j ∧ q = .int .i64 ((if j = 0 then 0 else m : Nat) : Int) ∧ Grew w wr) (fun _ i _ => 1 - (intOf i).toNat)
  case atStart => exact ⟨0, by omega, rfl, rfl, Grew.refl _⟩
  case round =>
    obtain ⟨j, hj, rfl, rfl, hB⟩ := hrel
    by_cases hlt : j = 0
    · subst hlt
      have hc1 := (hB.cell (p := ⟨b, 0, none⟩) hb).trans hc
      have hM := Lib.hid (HM.out _ hB)
      rw [if_pos rfl]
      go_wp2_with fail
      refine hM.out.mono ?_
      rintro e w1 ⟨rfl, hg1⟩
      go_wp2_with fail
      go_roundw
      case rel => exact ⟨1, by omega, rfl, rfl, hB.trans hg1⟩
      case measure => simp [intOf]
    · obtain rfl : j = 1 := by omega
      rw [if_neg (by omega)]
      go_wp2_with fail
      refine (HB.out _).mono ?_
      rintro e w2 ⟨v2, rfl, hO2, hg2⟩
      go_wp2_with fail
      go_ret
      exact ⟨_, rfl, hO2.base hB.size, hB.trans hg2⟩

theorem alloc5 (w wa : World) (o1 o2 o3 o4 o5 : Obj) (h : wa = ((((w.alloc o1).alloc o2).alloc o3).alloc o4).alloc o5) : Grew w wa ∧ wa.heap.size = w.heap.size + 5 ∧ wa.heap[w.heap.size]? = some o1 ∧ wa.heap[w.heap.size + 1]? = some o2 ∧ wa.heap[w.heap.size + 1 + 1]? = some o3 ∧ wa.heap[w.heap.size + 1 + 1 + 1]? = some o4 ∧ wa.heap[w.heap.size + 1 + 1 + 1 + 1]? = some o5 := by
  obtain ⟨wb, hwb⟩ : ∃ wb, wb = (((w.alloc o1).alloc o2).alloc o3).alloc o4 := ⟨_, rfl⟩
  obtain ⟨hg, hs, b1, b2, b3, b4⟩ := alloc4 _ _ _ _ _ _ hwb
  rw [← hwb] at h
  subst h
  have g5 := (Grew.refl wb).alloc o5
  have b5 := blk_new wb o5
  rw [hs] at b5
  exact ⟨hg.trans g5, by simp [hs], (g5.block (by omega)).trans b1, (g5.block (by omega)).trans b2, (g5.block (by omega)).trans b3, (g5.block (by omega)).trans b4, b5⟩

theorem blk_ltO {w : World} {k : Nat} {o : Obj} (h : w.heap[k]? = some o) : k < w.heap.size := (Array.getElem?_eq_some_iff.1 h).1
theorem loadVar_one {P : Program} (w : World) (g : Nat) (t ty : TypeId) (v : Value) (d : TypeDesc) (hg : w.heap[g]? = some (.cells #[v] t (0, 0))) (hu : P.underlying ty = some d) (hd : (match d with | .struct _ | .array _ _ => true | _ => false) = false) :
    (loadVar ty ⟨g, 0, none⟩).run P w = .ok v w := by
  have hagg : (isAgg ty).run P w = .ok false w := by
    unfold isAgg
    rw [Sem.run_bind, run_underlying hu w]
    cases d <;> simp_all
  have hc : w.cell? ⟨g, 0, none⟩ = some v := by rw [blk_cell hg]; rfl
  simp [loadVar, Sem.run_bind, hagg, hc]
theorem mbs_length6 {m n : Nat} (hm : m < 2 ^ n) (hn : n ≤ 30) : (mbs m).length ≤ n := by
  have e : mbs m = mb m n := mb_top hm 30 hn
  rw [e]
  exact mb_len m n

end Go.Proofs.YtpfncncohnhanaaGreatDoor


/- permutations, leastRelation. -/
namespace Go.Proofs.YtpfncncohnhanaaGreatDoor
open Go.RowKit

set_option maxHeartbeats 1000000 in
theorem permutations_c {w0 : World} {A b : List Nat} {bA bB : Nat} {va vb : Value} (hva : Ints w0 va (zs A)) (hA : Rl A) (hn : A.length ≤ 6) (ha0 : w0.heap.size ≤ bA) (hb0 : w0.heap.size ≤ bB) (hab : bA ≠ bB) {W : World} (hg : Grew w0 W)
    (hAc : W.heap[bA]? = some (.cells #[va] 24 (0, 0))) (hBc : W.heap[bB]? = some (.cells #[vb] 24 (0, 0))) (hbest : OwnI W w0.heap.size vb (zs b)) (hl : b.length = A.length) :
    Calls Tryz.prog 103 #[.int .i64 (A.length : Int), .func (.func 104) #[] #[.pointer (some ⟨bA, 0, none⟩), .pointer (some ⟨bB, 0, none⟩)]] W fun e W' =>
      (∃ v, e = .returned v) ∧ ∃ vb', Grew w0 W' ∧ W'.heap[bB]? = some (.cells #[vb'] 24 (0, 0)) ∧ OwnI W' w0.heap.size vb' (zs ((dfs A.length A.length []).foldl (lstep A) b)) := by
  have hmk := fun W => run_make_room (P := Tryz.prog) 24 2 (.int .i64 0) 8 Tryz.underlying24 Tryz.infoI rfl .i64 .i64 A.length (by omega) (by omega) W
  have HMZ := Lib.hid (size_madeCells #[Value.int .i64 0] A.length)
  have HG := Lib.hid (fun X bN bF bO bG Bo vO (hX : GS w0 A bA bB bN bF bO bG Bo va _ _ X [] vO b vb) hx => search_c hva hA hn hx rfl rfl A.length [] b vO vb 0 X hX (by simp) List.nodup_nil (by simp) (by simp) (by omega))
  have hsz := hg.size
  have hl1 := blk_ltM hAc
  have hl2 := blk_ltM hBc
  have HAA := Lib.hid (And.intro hAc (And.intro hBc (And.intro hbest (And.intro hg (And.intro hl (And.intro ha0 (And.intro hb0 hab)))))))
  clear hAc hBc hbest hg hl ha0 hb0 hab hva hA
  generalize hnn : A.length = n at *
  have HN := Lib.hid hnn
  clear hnn
  generalize madeCells #[Value.int .i64 0] n = cur0 at *
  generalize A = A0 at *
  go_enter Tryz.func103, Tryz.ntmps103
  go_wp2_with fail
  obtain ⟨hAc, hBc, hbest, hg, hl, ha0, hb0, hab⟩ := HAA.out
  refine Calls.mono (HG.out _ _ _ _ _ (W.heap.size + 1 + 1) (.slice (some ⟨W.heap.size + 1 + 1, 0, none⟩) 0 n) ?_ ?_) ?_
  · obtain ⟨g5, s5, b1, b2, b3, b4, b5⟩ := alloc5 W _ _ _ _ _ _ rfl
    have hown := OwnI.mk_ (L := []) (Nat.le_refl (W.heap.size + 1 + 1)) b3 (by simp) (by omega) HMZ.out (fun i hi => absurd hi (by simp))
    refine ⟨hg.trans g5, (g5.block hl1).trans hAc, (g5.block hl2).trans hBc, by rw [HN.out]; exact b1, b2, b4, b5, hown, hbest.grew g5, fun g hgg he => ?_, by rw [HN.out]; exact hl⟩
    have h1 := own_of_ge hown hgg
    have h2 := (hbest.lt g he).2
    omega
  · constructor <;> first | omega | exact hab
  rintro e w9 ⟨⟨v9, rfl⟩, vO9, vb9, h9⟩
  have H9 := Lib.hid h9
  clear h9
  go_wp2_with fail
  go_end0
  exact ⟨⟨_, rfl⟩, _, H9.out.grew, H9.out.hB, H9.out.best⟩

set_option maxHeartbeats 1000000 in
theorem leastRelation_c (v : Value) (A : List Nat) (w : World) (h : Ints w v (zs A)) (hA : Rl A) (hn : A.length ≤ 6) :
    Calls Tryz.prog 60 #[v] w (GivesI w (zs (lst A))) := by
  have HC := Lib.hid (fun W (hW : Grew w W) => cloneR_c v (zs A) W (h.grew hW) (by rw [zs_len]; omega))
  have HP := Lib.hid (fun (W : World) (bA bB : Nat) (vb : Value) ha0 hb0 hab (hg : Grew w W) h1 h2 h3 => permutations_c (W := W) (bA := bA) (bB := bB) (vb := vb) (b := A) h hA hn ha0 hb0 hab hg h1 h2 h3 rfl)
  have HL : Hid ((dfs A.length A.length []).foldl (lstep A) A = lst A) := Lib.hid (by rw [dfs_all]; rfl)
  obtain ⟨A1, c1, rfl⟩ := ints_sliceN h
  have KS := Lib.hid (fun (X : World) => sizeI_q A1 A.length c1 (by omega) X)
  clear h hA hn
  generalize A.length = n at *
  go_enter Tryz.func60, Tryz.ntmps60
  go_wp2_with fail
  refine (HC.out _ ((Grew.refl w).alloc _)).mono ?_
  rintro e w2 ⟨v2, rfl, hO2, hg2⟩
  obtain ⟨A2, n2, rfl⟩ := ints_sliceN hO2.ints
  have HB2 := Lib.hid ((hg2.block (k := w.heap.size) (by simp)).trans (blk_new w (.cells #[.slice A1 n c1] 24)))
  have k1 : ∀ X, Grew w2 X → X.cell? ⟨w.heap.size, 0, none⟩ = some (.slice A1 n c1) := fun X hX => by rw [blk_cell ((hX.block (blk_ltM HB2.out)).trans HB2.out)]; rfl
  have hsz : w.heap.size + 1 ≤ w2.heap.size := by have := hg2.size; simpa using this
  have HG2 := Lib.hid (((Grew.refl w).alloc (.cells #[.slice A1 n c1] 24)).trans hg2)
  generalize hvs : A.length = n2' at *
  have HO2 := Lib.hid (hO2.base (B' := w.heap.size) (by simp))
  clear hO2
  have r3 := (Grew.refl w2).alloc (.cells #[.slice A2 n2' n2] 24)
  have r4 := Grew.refl w2
  go_wp2_with fail
  refine (KS.out _).mono ?_
  rintro e w3 ⟨rfl, rfl⟩
  go_wp2_with fail
  refine Calls.mono (HP.out _ w.heap.size w2.heap.size (.slice A2 n2' n2) (Nat.le_refl _) (by omega) (by omega) (HG2.out.alloc _) ?_ ?_ ?_) ?_
  · exact (((Grew.refl w2).alloc _).block (blk_ltM HB2.out)).trans HB2.out
  · exact blk_new w2 _
  · exact HO2.out.grew ((Grew.refl w2).alloc _)
  rintro e w4 ⟨⟨v4, rfl⟩, vb, hg4, hb4, hO4⟩
  have k4 : w4.cell? ⟨w2.heap.size, 0, none⟩ = some vb := by rw [blk_cell hb4]; rfl
  have HO4 := Lib.hid hO4
  clear hO4
  go_wp2_with fail
  go_ret
  exact ⟨_, rfl, by rw [← HL.out]; exact HO4.out, hg4⟩
end Go.Proofs.YtpfncncohnhanaaGreatDoor


/- The library's sort, laid at this program's instantiation (rows of rows); names of functions filled in by marks. -/
namespace Go.Proofs.YtpfncncohnhanaaGreatDoor
open Go.RowKit

def laySortR : Go.Shelf.Ren := ⟨fun | 6 => 154 | 15 => 177 | 14 => 176 | 28 => 206 | 29 => 207 | 20 => 198 | 21 => 199 | 22 => 200 | 23 => 201 | 24 => 202 | 25 => 203 | 26 => 204 | 27 => 205 | 46 => 215 | 47 => 216 | 48 => 217 | 49 => 218 | 50 => 219 | 57 => 230 | n => n, fun | 22 => 123 | 24 => 24 | 25 => 121 | 3 => 3 | 39 => 116 | 0 => 0 | 53 => 181 | 55 => 101 | 4 => 4 | 46 => 174 | 45 => 173 | 50 => 178 | 5 => 5 | 9 => 9 | 66 => 186 | 70 => 190 | 76 => 197 | 77 => 198 | n => n, fun | n => n⟩
theorem laySort : Go.Proofs.SlLaysF.n6 Tryz.prog laySortR where
  mixed := by kernel_rfl
  f6 := ⟨ "slices.SortFunc[[][]int64,[]int64]", by decide, Tryz.func154.trans (congrArg some (by kernel_rfl))⟩
  f14 := ⟨ "slices.pdqsortCmpFunc[[]int64]", by decide, Tryz.func176.trans (congrArg some (by kernel_rfl))⟩
  f15 := Tryz.func177.trans (congrArg some (by kernel_rfl))
  f20 := ⟨ "slices.insertionSortCmpFunc[[]int64]", by decide, Tryz.func198.trans (congrArg some (by kernel_rfl))⟩
  f21 := ⟨ "slices.heapSortCmpFunc[[]int64]", by decide, Tryz.func199.trans (congrArg some (by kernel_rfl))⟩
  f22 := ⟨ "slices.breakPatternsCmpFunc[[]int64]", by decide, Tryz.func200.trans (congrArg some (by kernel_rfl))⟩
  f23 := ⟨ "slices.choosePivotCmpFunc[[]int64]", by decide, Tryz.func201.trans (congrArg some (by kernel_rfl))⟩
  f24 := ⟨ "slices.reverseRangeCmpFunc[[]int64]", by decide, Tryz.func202.trans (congrArg some (by kernel_rfl))⟩
  f25 := ⟨ "slices.partialInsertionSortCmpFunc[[]int64]", by decide, Tryz.func203.trans (congrArg some (by kernel_rfl))⟩
  f26 := ⟨ "slices.partitionEqualCmpFunc[[]int64]", by decide, Tryz.func204.trans (congrArg some (by kernel_rfl))⟩
  f27 := ⟨ "slices.partitionCmpFunc[[]int64]", by decide, Tryz.func205.trans (congrArg some (by kernel_rfl))⟩
  f28 := Tryz.func206.trans (congrArg some (by kernel_rfl))
  f29 := Tryz.func207.trans (congrArg some (by kernel_rfl))
  f46 := ⟨ "slices.siftDownCmpFunc[[]int64]", by decide, Tryz.func215.trans (congrArg some (by kernel_rfl))⟩
  f47 := Tryz.func216.trans (congrArg some (by kernel_rfl))
  f48 := Tryz.func217.trans (congrArg some (by kernel_rfl))
  f49 := ⟨ "slices.medianAdjacentCmpFunc[[]int64]", by decide, Tryz.func218.trans (congrArg some (by kernel_rfl))⟩
  f50 := ⟨ "slices.medianCmpFunc[[]int64]", by decide, Tryz.func219.trans (congrArg some (by kernel_rfl))⟩
  f57 := ⟨ "slices.order2CmpFunc[[]int64]", by decide, Tryz.func230.trans (congrArg some (by kernel_rfl))⟩
  t0 := Tryz.underlying0
  a0 := Tryz.isAgg0
  z0 := Tryz.sizeOf0
  v0 := Tryz.zeroValue0
  t3 := Tryz.underlying3
  a3 := Tryz.isAgg3
  z3 := Tryz.sizeOf3
  v3 := Tryz.zeroValue3
  t4 := Tryz.underlying4
  a4 := Tryz.isAgg4
  z4 := Tryz.sizeOf4
  v4 := Tryz.zeroValue4
  t5 := Tryz.underlying5
  a5 := Tryz.isAgg5
  z5 := Tryz.sizeOf5
  v5 := Tryz.zeroValue5
  t9 := Tryz.underlying9
  a9 := Tryz.isAgg9
  z9 := Tryz.sizeOf9
  v9 := Tryz.zeroValue9
  t22 := Tryz.underlying123
  a22 := Tryz.isAgg123
  z22 := Tryz.sizeOf123
  v22 := Tryz.zeroValue123
  a24 := Tryz.isAgg24
  z24 := Tryz.sizeOf24
  t25 := Tryz.underlying121
  a25 := Tryz.isAgg121
  z25 := Tryz.sizeOf121
  v25 := Tryz.zeroValue121
  t39 := Tryz.underlying116
  a39 := Tryz.isAgg116
  z39 := Tryz.sizeOf116
  v39 := Tryz.zeroValue116
  t45 := Tryz.underlying173
  a45 := Tryz.isAgg173
  z45 := Tryz.sizeOf173
  v45 := Tryz.zeroValue173
  t46 := Tryz.underlying174
  a46 := Tryz.isAgg174
  z46 := Tryz.sizeOf174
  v46 := Tryz.zeroValue174
  t50 := Tryz.underlying178
  a50 := Tryz.isAgg178
  z50 := Tryz.sizeOf178
  v50 := Tryz.zeroValue178
  t53 := Tryz.underlying181
  a53 := Tryz.isAgg181
  z53 := Tryz.sizeOf181
  v53 := Tryz.zeroValue181
  t55 := Tryz.underlying101
  a55 := Tryz.isAgg101
  z55 := Tryz.sizeOf101
  v55 := Tryz.zeroValue101
  t66 := Tryz.underlying186
  a66 := Tryz.isAgg186
  z66 := Tryz.sizeOf186
  v66 := Tryz.zeroValue186
  t70 := Tryz.underlying190
  a70 := Tryz.isAgg190
  z70 := Tryz.sizeOf190
  v70 := Tryz.zeroValue190
  t76 := Tryz.underlying197
  a76 := Tryz.isAgg197
  z76 := Tryz.sizeOf197
  v76 := Tryz.zeroValue197
  t77 := Tryz.underlying198
  a77 := Tryz.isAgg198
  z77 := Tryz.sizeOf198
  v77 := Tryz.zeroValue198
end Go.Proofs.YtpfncncohnhanaaGreatDoor


/- The library's sort at rows of rows. -/
namespace Go.Proofs.YtpfncncohnhanaaGreatDoor
open Go.Shelf Go.RowKit Go.Lib Go.Sort

theorem heap_sortedE {α : Type} [Inhabited α] (enc : α → Value) {w : World} {g n : Nat} {os : Array Obj} {cur : Array Value} {e : TypeId} {fr : Nat × Nat} (d : Array α) (hb : w.heap[g]? = some (.cells cur e fr)) :
    (sortWorld enc w g 0 n d os).heap[g]? = some (.cells (putCells enc 0 d cur) e fr) := by
  have hg : g < w.heap.size := (Array.getElem?_eq_some_iff.1 hb).1
  unfold sortWorld
  rw [heap_grow_old _ _ (by simpa [putRow, mapBlock, Sort.ahead] using hg)]
  simp [putRow, mapBlock, Sort.ahead, Array.getElem?_modify, hb, onCells]
theorem grown_sortedE {α : Type} [Inhabited α] (enc : α → Value) {w : World} {g n : Nat} {os : Array Obj} (d : Array α) : Only g w (sortWorld enc w g 0 n d os) := by
  refine ⟨rfl, rfl, rfl, by simp [sortWorld, grow, putRow, mapBlock, Sort.ahead], fun k hk hne => ?_⟩
  unfold sortWorld
  rw [heap_grow_old _ _ (by simpa [putRow, mapBlock, Sort.ahead] using hk)]
  have : g ≠ k := fun e => hne (by rw [e])
  simp [putRow, mapBlock, Sort.ahead, Array.getElem?_modify, this]
theorem take_putE {α : Type} [Inhabited α] (enc : α → Value) (cur : Array Value) (ts : List α) (h : ts.length ≤ cur.size) : (putCells enc 0 ts.toArray cur).toList.take ts.length = ts.map enc := by
  apply List.ext_getElem?
  intro j
  by_cases hj : j < ts.length
  · rw [List.getElem?_take_of_lt hj, Array.getElem?_toList]
    simp [putCells, hj, show j < cur.size by omega]
  · rw [List.getElem?_take_eq_none (by omega), List.getElem?_eq_none (by simp; omega)]

theorem sort_c (w : World) (B n : Nat) (v : Value) (Ls : List (List Nat)) (hO : OwnU w B v (zss Ls)) (hL : ∀ L ∈ Ls, L.length = n) (h0 : 0 < Ls.length) (hsz : Ls.length ≤ 1048576) :
    Calls Tryz.prog 154 #[v, .func (.func 106) #[] #[]] w fun e w' => e = .returned (.tuple #[]) ∧ ∃ g Ks, v.ownBlock = some g ∧ B ≤ g ∧ Only g w w' ∧ OwnU w' B v (zss Ks) ∧ Ks.Perm Ls ∧ AscD Ks := by
  obtain ⟨us, h1, h2, h3⟩ := hO
  rw [zss_len] at h1 h2 h3
  rcases h2.2 with ⟨_, h5⟩ | ⟨g, cap, cur, rfl, hb, hg, hnc, hcm, hcs, ht⟩
  · omega
  rw [Nat.mul_one] at ht hcs
  have hP : ∀ j, j < Ls.length → (OwnI w B (us.getD j (.bool false)) (zs (Ls.getD j [])) ∧ (Ls.getD j []).length = n) := fun j hj => ⟨by have := h3 j hj; rwa [zss_get hj] at this, hL _ (by simp [List.getD, hj])⟩
  obtain ⟨ds, e1, e2⟩ := rows_exist (p := fun u L => OwnI w B u (zs L) ∧ L.length = n) us Ls h1 hP
  have hdl : ds.length = Ls.length := by rw [← e2]; simp
  haveI : Inhabited {q : Value × List Nat // OwnI w B q.1 (zs q.2) ∧ q.2.length = n} := ⟨ds[0]'(by omega)⟩
  have hne : ∀ x : {q : Value × List Nat // OwnI w B q.1 (zs q.2) ∧ q.2.length = n}, x.1.1.ownBlock ≠ some g := fun x => own_ne x.2.1 hg (by decide : (2 : TypeId) ≠ 24)
  have hoc : OneCell (fun x : {q : Value × List Nat // OwnI w B q.1 (zs q.2) ∧ q.2.length = n} => x.1.1) := fun x => by
    obtain ⟨A, c, hx⟩ := ints_sliceN x.2.1.ints
    show (x.1.1).oneCell' = true
    rw [hx]
    rfl
  have hswo : SWO (ltOf (fun x y : {q : Value × List Nat // OwnI w B q.1 (zs q.2) ∧ q.2.length = n} => cmpL x.1.2 y.1.2)) :=
    ⟨fun x => lessL_irr x.1.2, fun x y z h k => lessL_trans h k, fun x y z h k => lessL_ntrans h k⟩
  have eg : ∀ args w, (callFunc 106 args).run Tryz.prog w = .ok (.enter 106 args) w := enters_of Tryz.func106 (by kernel_rfl) rfl
  have hcmp : CmpReads Tryz.prog 106 #[] (fun x : {q : Value × List Nat // OwnI w B q.1 (zs q.2) ∧ q.2.length = n} => x.1.1) (fun x y => cmpL x.1.2 y.1.2) g 0 ds.toArray.size w := fun m os dk _ x y =>
    (slicesCompare_c x.1.1 y.1.1 x.1.2 y.1.2 _ (OwnI.ints (own_only x.2.1 (grown_sortedE _ dk) (hne x))) (OwnI.ints (own_only y.2.1 (grown_sortedE _ dk) (hne y)))).mono fun e w' h => ⟨h.1, 0, h.2⟩
  have hH : Holds (fun x : {q : Value × List Nat // OwnI w B q.1 (zs q.2) ∧ q.2.length = n} => x.1.1) w g 0 ds.toArray := fun j hj => by
    have hj' : j < ds.length := by simpa using hj
    refine ⟨?_, blk_frozen hg _⟩
    rw [blk_cell hg, Nat.zero_add]
    have h4 : (cur.toList.take Ls.length)[j]? = us[j]? := by rw [ht]
    rw [List.getElem?_take_of_lt (by omega), Array.getElem?_toList] at h4
    rw [h4, ← e1]
    simp [hj']
  have hcon := Any.slices_SortFunc laySort (fun x : {q : Value × List Nat // OwnI w B q.1 (zs q.2) ∧ q.2.length = n} => x.1.1) hoc (fun x y => cmpL x.1.2 y.1.2) hswo 106 #[] g 0 cap ds.toArray w eg hcmp.lays hH (blk_lt hg) (by simp; omega)
  rw [show ds.toArray.size = Ls.length by simp [hdl]] at hcon
  refine Calls.mono hcon ?_
  rintro e w' ⟨rfl, d', nn, os, hp, hs, rfl⟩
  rw [show Ls.length = ds.toArray.size by simp [hdl]] at hp hs
  have hpm := perm_of_in hp
  have hl' : d'.toList.length = Ls.length := by rw [hpm.length_eq]; simp [hdl]
  refine ⟨rfl, g, d'.toList.map (fun q => q.1.2), rfl, hb, grown_sortedE _ d', ?_, ?_, ?_⟩
  · have hz : (zss (d'.toList.map (fun q => q.1.2))).length = Ls.length := by rw [zss_len, List.length_map, hl']
    refine ⟨d'.toList.map (fun q => q.1.1), by rw [hz, List.length_map, hl'], ?_, fun j hj => ?_⟩
    · rw [hz]
      refine ⟨by rw [List.length_map, hl', Nat.mul_one], .inr ⟨g, cap, _, rfl, hb, heap_sortedE _ d' hg, hnc, hcm, by simp [putCells, hcs], ?_⟩⟩
      have := take_putE (fun x : {q : Value × List Nat // OwnI w B q.1 (zs q.2) ∧ q.2.length = n} => x.1.1) cur d'.toList (by omega)
      rw [hl'] at this
      rw [Nat.mul_one]
      simpa using this
    · rw [hz] at hj
      have hj' : j < d'.toList.length := by omega
      have hx := (d'.toList[j]).2.1
      rw [zss_get (by rw [List.length_map]; exact hj')]
      have hk := own_only hx (grown_sortedE (n := nn) (os := os) (fun x : {q : Value × List Nat // OwnI w B q.1 (zs q.2) ∧ q.2.length = n} => x.1.1) d') (hne _)
      have q1 : (d'.toList.map (fun q => q.1.1)).getD j (.bool false) = (d'.toList[j]).1.1 := by simp only [List.getD, List.getElem?_map, List.getElem?_eq_getElem hj']; rfl
      have q2 : (d'.toList.map (fun q => q.1.2)).getD j [] = (d'.toList[j]).1.2 := by simp only [List.getD, List.getElem?_map, List.getElem?_eq_getElem hj']; rfl
      rw [q1, q2]
      exact hk
  · have := hpm.map (fun q => q.1.2)
    rw [← e2]
    simpa using this
  · have h5 := pairs_of_in (by rw [hp.1]) hs
    unfold AscD
    rw [List.pairwise_map]
    exact h5
end Go.Proofs.YtpfncncohnhanaaGreatDoor


/- slices.CompactFunc at rows of rows, with slices.Equal: a sorted row loses its doubles. -/
namespace Go.Proofs.YtpfncncohnhanaaGreatDoor
open Go.RowKit

theorem blk_setCellsK {g : Nat} {t : TypeId} : ∀ (vs : List Value) (o : Nat) (w : World) (cur : Array Value), w.heap[g]? = some (.cells cur t (0, 0)) →
    ∃ cur', (w.setCells g o vs).heap[g]? = some (.cells cur' t (0, 0)) ∧ cur'.size = cur.size ∧ ∀ i, i < o → cur'[i]? = cur[i]?
  | [], _, _, cur, h => ⟨cur, h, rfl, fun _ _ => rfl⟩
  | v :: r, o, w, cur, h => by
    obtain ⟨c', h1, h2, h3⟩ := blk_setCellsK r (o + 1) (w.setCell ⟨g, o, none⟩ v) _ (blk_set h o v)
    refine ⟨c', h1, by rw [h2]; simp, fun i hi => ?_⟩
    rw [h3 i (by omega), Array.getElem?_setIfInBounds, if_neg (by omega)]
theorem only_setCellsK {g : Nat} {a : World} : ∀ (vs : List Value) (o : Nat) (w : World), Only g a w → Only g a (w.setCells g o vs)
  | [], _, _, h => h
  | v :: r, o, w, h => only_setCellsK r (o + 1) _ (h.setCell v)

structure CRow (w wr : World) (g cap N : Nat) (f : Nat → Value × List Nat) : Prop where
  heap : ∃ cur, wr.heap[g]? = some (.cells cur 24 (0, 0)) ∧ cur.size = cap ∧ ∀ i, i < N → cur[i]? = some (f i).1
  only : Only g w wr
theorem CRow.cell {w wr : World} {g cap N i : Nat} {f : Nat → Value × List Nat} (h : CRow w wr g cap N f) (hi : i < N) : wr.cell? ⟨g, i, none⟩ = some (f i).1 := by
  obtain ⟨cur, h1, h2, h3⟩ := h.heap
  rw [blk_cell h1, h3 i hi]
theorem CRow.free {w wr : World} {g cap N : Nat} {f : Nat → Value × List Nat} (h : CRow w wr g cap N f) (i : Nat) : wr.frozen? ⟨g, i, none⟩ = false := by
  obtain ⟨cur, h1, _⟩ := h.heap
  exact blk_frozen h1 i
theorem CRow.lt {w wr : World} {g cap N : Nat} {f : Nat → Value × List Nat} (h : CRow w wr g cap N f) : g < wr.heap.size := by
  obtain ⟨cur, h1, _⟩ := h.heap
  exact blk_lt h1
theorem CRow.grew {w wr wr' : World} {g cap N : Nat} {f : Nat → Value × List Nat} (h : CRow w wr g cap N f) (hg : Grew wr wr') : CRow w wr' g cap N f := by
  have hl := h.lt
  obtain ⟨cur, h1, h2, h3⟩ := h.heap
  exact ⟨⟨cur, (hg.block hl).trans h1, h2, h3⟩, h.only.grew hg⟩
theorem CRow.set {w wr : World} {g cap N i : Nat} {f : Nat → Value × List Nat} (h : CRow w wr g cap N f) (hi : i < N) (x : Value × List Nat) : CRow w (wr.setCell ⟨g, i, none⟩ x.1) g cap N (fun q => if q = i then x else f q) := by
  obtain ⟨cur, h1, h2, h3⟩ := h.heap
  refine ⟨⟨_, blk_set h1 i x.1, by simp [h2], fun j hj => ?_⟩, h.only.setCell _⟩
  have hlt : i < cur.size := (Array.getElem?_eq_some_iff.1 (h3 i hi)).1
  by_cases hij : j = i
  · subst hij
    simp [hlt]
  · rw [Array.getElem?_setIfInBounds, if_neg (Ne.symm hij), h3 j hj]
    simp [hij]
def Rws (w : World) (B n N : Nat) (f : Nat → Value × List Nat) : Prop := ∀ i, i < N → OwnI w B (f i).1 (zs (f i).2) ∧ (f i).2.length = n
theorem CRow.ownU {w wr : World} {B g cap n N K : Nat} {f : Nat → Value × List Nat} (h : CRow w wr g cap N f) (hB : B ≤ g) (hf : Rws w B n N f) (hg : ∃ cur, w.heap[g]? = some (.cells cur 24 (0, 0))) (hK : K ≤ N) (hN : N ≤ cap) (hc : cap ≤ maxLen) :
    OwnU wr B (.slice (some ⟨g, 0, none⟩) K cap) (zss (rws f K)) := by
  obtain ⟨cur, h1, h2, h3⟩ := h.heap
  obtain ⟨cur0, h0⟩ := hg
  have hz : (zss (rws f K)).length = K := by rw [zss_len, rws_len]
  refine ⟨(List.range K).map fun i => (f i).1, by rw [hz]; simp, ?_, fun j hj => ?_⟩
  · rw [hz]
    refine ⟨by simp, .inr ⟨g, cap, cur, rfl, hB, h1, by omega, hc, by omega, ?_⟩⟩
    apply List.ext_getElem?
    intro j
    rw [Nat.mul_one]
    by_cases hj : j < K
    · rw [List.getElem?_take_of_lt hj, Array.getElem?_toList, h3 j (by omega)]
      simp [hj]
    · rw [List.getElem?_take_eq_none (by omega), List.getElem?_eq_none (by simp; omega)]
  · rw [hz] at hj
    rw [zss_get (by rw [rws_len]; exact hj), rws_get hj]
    have e : ((List.range K).map fun i => (f i).1).getD j (.bool false) = (f j).1 := by simp [List.getD, hj]
    rw [e]
    have ho := (hf j (by omega)).1
    exact own_only ho h.only (own_ne ho h0 (by decide : (2 : TypeId) ≠ 24))
theorem OwnU.open_ {w : World} {B n : Nat} {v : Value} {Ls : List (List Nat)} (hO : OwnU w B v (zss Ls)) (hL : ∀ L ∈ Ls, L.length = n) (h0 : 0 < Ls.length) :
    ∃ g cap f, v = .slice (some ⟨g, 0, none⟩) Ls.length cap ∧ B ≤ g ∧ CRow w w g cap Ls.length f ∧ Rws w B n Ls.length f ∧ Ls.length ≤ cap ∧ cap ≤ maxLen ∧ rws f Ls.length = Ls := by
  obtain ⟨us, h1, h2, h3⟩ := hO
  rw [zss_len] at h1 h2 h3
  rcases h2.2 with ⟨_, h5⟩ | ⟨g, cap, cur, rfl, hb, hg, hnc, hcm, hcs, ht⟩
  · omega
  rw [Nat.mul_one] at ht hcs
  refine ⟨g, cap, fun i => (us.getD i (.bool false), Ls.getD i []), rfl, hb, ⟨⟨cur, hg, hcs, fun i hi => ?_⟩, Only.refl _ _⟩, fun j hj => ⟨by have := h3 j hj; rwa [zss_get hj] at this, hL _ (by simp [List.getD, hj])⟩, hnc, hcm, ?_⟩
  · have h4 : (cur.toList.take Ls.length)[i]? = us[i]? := by rw [ht]
    rw [List.getElem?_take_of_lt hi, Array.getElem?_toList] at h4
    rw [h4, List.getElem?_eq_getElem (by omega)]
    simp [List.getD, h1, hi]
  · apply List.ext_getElem
    · rw [rws_len]
    · intro i h5 h6
      simp [rws, List.getD, h6]
structure CIn (w wr : World) (g cap N : Nat) (f0 f : Nat → Value × List Nat) (kk m : Nat) : Prop where
  row : CRow w wr g cap N f
  low : kk < m
  high : ∀ j, m - 1 ≤ j → j < N → f j = f0 j
  rows : ∀ j, j < N → ∃ i, i < N ∧ f j = f0 i
  comp : Comp (rws f kk) (rws f0 m)
set_option maxHeartbeats 2000000 in
theorem compact_c (w : World) (B n : Nat) (v : Value) (Ls : List (List Nat)) (hO : OwnU w B v (zss Ls)) (hL : ∀ L ∈ Ls, L.length = n) (hA : AscD Ls) (hsz : Ls.length ≤ 1048576) :
    Calls Tryz.prog 155 #[v, .func (.func 156) #[] #[]] w fun e w' => ∃ u Ks, e = .returned u ∧ OwnU w' B u (zss Ks) ∧ Asc Ks ∧ (∀ x, x ∈ Ks ↔ x ∈ Ls) ∧ Ks.length ≤ Ls.length ∧ (Grew w w' ∨ ∃ g, B ≤ g ∧ Only g w w') := by
  by_cases h2 : Ls.length < 2
  · have hAs : Asc Ls := by
      unfold Asc
      match Ls, h2 with
      | [], _ => exact List.Pairwise.nil
      | [a], _ => exact List.pairwise_singleton _ _
    have HH := Lib.hid (And.intro hO hAs)
    obtain ⟨A1, c1, rfl⟩ := hO.slice
    rw [zss_len] at HH ⊢
    clear hO hL hA hAs
    generalize hNN : Ls.length = N at *
    have h3 : (N : Int) < 2 := by omega
    go_enter Tryz.func155, Tryz.ntmps155
    go_wp2_with fail
    go_ret
    exact ⟨_, Ls, rfl, HH.out.1, HH.out.2, fun _ => Iff.rfl, Nat.le_of_eq hNN, .inl (Grew.refl _)⟩
  obtain ⟨g, cap, f0, rfl, hBg, hC, hR, hnc, hcm, hrw⟩ := hO.open_ hL (by omega)
  obtain ⟨cur0, hh0, _⟩ := hC.heap
  have HNE := Lib.hid (fun i (hi : i < Ls.length) => own_ne (hR i hi).1 hh0 (by decide : (2 : TypeId) ≠ 24))
  have HE := Lib.hid (fun i j (hi : i < Ls.length) (hj : j < Ls.length) W (hW : Only g w W) => equalR_c (f0 i).1 (f0 j).1 (zs (f0 i).2) (zs (f0 j).2) W (OwnI.ints (own_only (hR i hi).1 hW (HNE.out i hi))) (OwnI.ints (own_only (hR j hj).1 hW (HNE.out j hj))) (by rw [zs_len, zs_len, (hR i hi).2, (hR j hj).2]))
  have HZ : Hid (∀ i j, decide (zs (f0 i).2 = zs (f0 j).2) = decide ((f0 i).2 = (f0 j).2)) := Lib.hid (fun i j => by rw [decide_eq_decide]; exact ⟨fun h => zs_inj h, fun h => by rw [h]⟩)
  have HAD : Hid (∀ i, i + 1 < Ls.length → lessL (f0 (i + 1)).2 (f0 i).2 = false) := Lib.hid (fun i hi => by
    have h5 := List.pairwise_iff_getElem.1 hA i (i + 1) (by omega) hi (by omega)
    have q1 : (f0 i).2 = Ls[i] := by have := rws_get (f := f0) (n := Ls.length) (i := i) (by omega); rw [hrw] at this; rw [← this]; simp [List.getD, show i < Ls.length by omega]
    have q2 : (f0 (i + 1)).2 = Ls[i + 1] := by have := rws_get (f := f0) (n := Ls.length) (i := i + 1) (by omega); rw [hrw] at this; rw [← this]; simp [List.getD, hi]
    rw [q1, q2]
    exact h5)
  have HRR := Lib.hid (And.intro hR (And.intro hBg (And.intro hnc (And.intro hcm (And.intro hrw (Exists.intro cur0 hh0 : ∃ cur, w.heap[g]? = some (.cells cur 24 (0, 0))))))))
  have HC := Lib.hid hC
  clear hO hL hA hR hC hh0 hrw
  generalize hN : Ls.length = N at *
  have hN2 : ¬ (N : Int) < 2 := by omega
  go_enter Tryz.func155, Tryz.ntmps155
  go_wp2_with fail
  go_loopw [5] (fun v wr => ∃ m k : Nat, k = m + 1 ∧ k ≤ N ∧ v = .int .i64 (k : Int) ∧ Grew w wr ∧ Hid (Asc (rws f0 k))) (fun k _ => N - (intOf k).toNat)
  case atStart => exact ⟨0, 1, rfl, by omega, rfl, Grew.refl _, Lib.hid (by unfold Asc rws; exact List.pairwise_singleton _ _)⟩
  case round =>
    obtain ⟨m, k, hkm, hm, rfl, hB, hAs⟩ := hrel
    by_cases hlt : k < N
    · have e1 := Lib.hid (HC.out.grew hB)
      have k1 : ∀ W, Grew wr W → W.cell? ⟨g, k, none⟩ = some (f0 k).1 := fun W hW => (HC.out.grew (hB.trans hW)).cell hlt
      have k2 : ∀ W, Grew wr W → W.cell? ⟨g, m, none⟩ = some (f0 m).1 := fun W hW => (HC.out.grew (hB.trans hW)).cell (by omega)
      have he := Lib.hid (fun W (hW : Grew wr W) => HE.out k m hlt (by omega) W (hB.trans hW).only)
      rw [HZ.out] at he
      have hw1 : IntKind.i64.wrap ((k : Int) - 1) = (m : Int) := by rw [IntKind.wrap_i64]; omega
      have hw2 : wrap64 ((k : Int) - 1) = (m : Int) := by rw [wrap64]; omega
      have i1 : (k : Int) < (N : Int) := by omega
      have i2 : (m : Int) < (N : Int) := by omega
      have i3 : (0 : Int) ≤ (k : Int) := by omega
      have i4 : (0 : Int) ≤ (m : Int) := by omega
      have HKM := Lib.hid hkm
      clear hkm
      have r1 := Grew.refl wr
      have r2 := (Grew.refl wr).drew
      by_cases hx : (f0 k).2 = (f0 m).2
      · rw [decide_eq_true hx] at he
        go_wp2_with fail
        go_region_held3 (fun (w' : World) => Grew wr w') (first | assumption | exact Grew.drew ‹_›) (first
          | (go_at_call 156; refine Calls.mono (he.out _ (by assumption)) ?_; rintro e w4 ⟨rfl, hg4⟩; have hg5 : Grew wr w4 := Grew.trans (by assumption) hg4))
        have HX := Lib.hid hx
        have HB4 := Lib.hid (hB.trans hg5)
        have HAs := Lib.hid hAs.out
        clear k1 k2 he r1 r2 hx hB hg5 hg4 hAs e1
        generalize (f0 k).1 = y1 at *
        generalize (f0 m).1 = y0 at *
        have hc1 : k ≤ cap := by have := HRR.out.2.2.1; omega
        have HST : Hid (CIn w w4 g cap N f0 f0 k (k + 1)) := Lib.hid ⟨HC.out.grew HB4.out, by omega, fun _ _ _ => rfl, fun j hj => ⟨j, hj, rfl⟩, by
          rw [rws_succ f0 k]
          refine Comp.skip (Comp.refl HAs.out) ?_
          have h6 := rws_last f0 k (by have := HKM.out; omega)
          rw [show k - 1 = m by have := HKM.out; omega] at h6
          rw [h6, HX.out]⟩
        obtain ⟨L2, hL2⟩ : ∃ L2, L2 = N - k := ⟨_, rfl⟩
        obtain ⟨C2, hC2⟩ : ∃ C2, C2 = cap - k := ⟨_, rfl⟩
        have hk0 : 0 < k := by have := HKM.out; omega
        go_wp2_with fail
        rw [← hL2, ← hC2]
        have HL2 : Hid (k + L2 = N ∧ k + C2 = cap) := Lib.hid ⟨by omega, by have := HRR.out.2.2.1; omega⟩
        clear hL2 hC2
        go_loopw [5, 7] (fun a b wr => ∃ kk q p : Nat, p = q + 1 ∧ p ≤ L2 ∧ a = .int .i64 (kk : Int) ∧ b = .int .i64 (p : Int) ∧ ∃ f, Hid (CIn w wr g cap N f0 f kk (k + p)) ∧ 0 < kk) (fun _ b _ => L2 - (intOf b).toNat)
        case atStart => exact ⟨k, 0, 1, rfl, by have := HL2.out; omega, rfl, rfl, f0, HST, hk0⟩
        case round =>
          obtain ⟨kk, q, p, hpq, hp, rfl, rfl, f, hI, hkk0⟩ := hrel
          by_cases hlp : p < L2
          · have hkp : k + p < N := by have := HL2.out; omega
            have hkq : k + q < N := by have := HL2.out; omega
            have k1 : ∀ W, Grew wr W → W.cell? ⟨g, k + p, none⟩ = some (f0 (k + p)).1 := fun W hW => by rw [← hI.out.high (k + p) (by omega) (by omega)]; exact (hI.out.row.grew hW).cell (by omega)
            have k2 : ∀ W, Grew wr W → W.cell? ⟨g, k + q, none⟩ = some (f0 (k + q)).1 := fun W hW => by rw [← hI.out.high (k + q) (by omega) (by omega)]; exact (hI.out.row.grew hW).cell (by omega)
            have he := Lib.hid (fun W (hW : Grew wr W) => HE.out (k + p) (k + q) (by omega) (by omega) W (hI.out.row.only.grew hW))
            rw [HZ.out] at he
            have hw1 : IntKind.i64.wrap ((p : Int) - 1) = (q : Int) := by rw [IntKind.wrap_i64]; omega
            have hw2 : wrap64 ((p : Int) - 1) = (q : Int) := by rw [wrap64]; omega
            have j1 : (p : Int) < (L2 : Int) := by omega
            have j2 : (q : Int) < (L2 : Int) := by omega
            have j3 : (0 : Int) ≤ (p : Int) := by omega
            have j4 : (0 : Int) ≤ (q : Int) := by omega
            have r1 := Grew.refl wr
            have r2 := (Grew.refl wr).drew
            have HPQ := Lib.hid hpq
            clear hpq
            by_cases hx : (f0 (k + p)).2 = (f0 (k + q)).2
            · rw [decide_eq_true hx] at he
              have hN2 : Hid (∀ W, Grew wr W → CIn w W g cap N f0 f kk (k + (p + 1))) := Lib.hid (fun W hW => ⟨hI.out.row.grew hW, by have := hI.out.low; omega, fun j h1 h2 => hI.out.high j (by omega) h2, hI.out.rows, by
                rw [show k + (p + 1) = k + p + 1 by omega, rws_succ f0 (k + p)]
                refine Comp.skip hI.out.comp ?_
                have h6 := rws_last f0 (k + p) (by omega)
                rw [show k + p - 1 = k + q by have := HPQ.out; omega] at h6
                rw [h6, hx]⟩)
              go_wp2_with fail
              go_region_held3 (fun (w' : World) => Grew wr w') (first | assumption | exact Grew.drew ‹_›) (first
                | (go_at_call 156; refine Calls.mono (he.out _ (by assumption)) ?_; rintro e w5 ⟨rfl, hg6⟩; have hg7 : Grew wr w5 := Grew.trans (by assumption) hg6))
              have HN2 := Lib.hid (hN2.out _ hg7)
              clear k1 k2 he r1 r2 hx hg7 hg6 hN2 hI
              go_wp2_with fail
              go_roundw
              case rel => exact ⟨kk, p, p + 1, rfl, by omega, rfl, by go_num, f, HN2, hkk0⟩
              case measure => simp [intOf]; omega
            · rw [decide_eq_false hx] at he
              have hless : Hid (lessL (f0 (k + q)).2 (f0 (k + p)).2 = true) := Lib.hid (by
                have h5 := HAD.out (k + q) (by have := HPQ.out; omega)
                rw [show k + q + 1 = k + p by have := HPQ.out; omega] at h5
                exact less_of h5 (Ne.symm hx))
              have hlow := hI.out.low
              have hN2 : Hid (∀ W, Grew wr W → CIn w (W.setCell ⟨g, kk, none⟩ (f0 (k + p)).1) g cap N f0 (fun z => if z = kk then f0 (k + p) else f z) (kk + 1) (k + (p + 1))) := Lib.hid (fun W hW => ⟨(hI.out.row.grew hW).set (by omega) _, by omega, fun j h1 h2 => by
                show (if j = kk then f0 (k + p) else f j) = f0 j
                rw [if_neg (by omega)]
                exact hI.out.high j (by omega) h2, fun j hj => by
                show ∃ i, i < N ∧ (if j = kk then f0 (k + p) else f j) = f0 i
                by_cases hjk : j = kk
                · exact ⟨k + p, by omega, if_pos hjk⟩
                · rw [if_neg hjk]; exact hI.out.rows j hj, by
                rw [show k + (p + 1) = k + p + 1 by omega, rws_succ f0 (k + p), rws_succ _ kk]
                have e1 : rws (fun z => if z = kk then f0 (k + p) else f z) kk = rws f kk := rws_congr fun z hz => if_neg (by omega)
                have e2 : (if kk = kk then f0 (k + p) else f kk).2 = (f0 (k + p)).2 := by rw [if_pos rfl]
                show Comp (rws (fun z => if z = kk then f0 (k + p) else f z) kk ++ [(if kk = kk then f0 (k + p) else f kk).2]) _
                rw [e1, e2]
                have h6 := rws_last f0 (k + p) (by omega)
                rw [show k + p - 1 = k + q by have := HPQ.out; omega] at h6
                exact Comp.keep hI.out.comp h6 hless.out⟩)
              have hkkN : kk < N := by omega
              have cK : Hid (∀ W, Grew wr W → W.cell? ⟨g, kk, none⟩ = some (f kk).1) := Lib.hid (fun W hW => (hI.out.row.grew hW).cell hkkN)
              have fK : Hid (∀ W, Grew wr W → W.frozen? ⟨g, kk, none⟩ = false) := Lib.hid (fun W hW => (hI.out.row.grew hW).free kk)
              have hoc : Hid (∃ A c, (f0 (k + p)).1 = .slice A n c) := Lib.hid (by
                have h7 := HRR.out.1 (k + p) (by omega)
                obtain ⟨A, c, hA⟩ := ints_sliceN h7.1.ints
                exact ⟨A, c, by rw [hA, h7.2]⟩)
              go_wp2_with fail
              go_region_held3 (fun (w' : World) => Grew wr w') (first | assumption | exact Grew.drew ‹_›) (first
                | (go_at_call 156; refine Calls.mono (he.out _ (by assumption)) ?_; rintro e w5 ⟨rfl, hg6⟩; have hg7 : Grew wr w5 := Grew.trans (by assumption) hg6))
              have HN2 := Lib.hid (hN2.out _ hg7)
              have z1 := k1 _ hg7
              have z2 := cK.out _ hg7
              have z3 := fK.out _ hg7
              obtain ⟨A8, c8, hs8⟩ := hoc.out
              rw [hs8] at HN2 z1
              have m1 : (kk : Int) < (N : Int) := by omega
              have m2 : (0 : Int) ≤ (kk : Int) := by omega
              clear k1 k2 he r1 r2 hx hg7 hg6 hN2 hI hless cK fK hs8 hoc
              go_wp2_with fail
              go_roundw
              case rel => exact ⟨kk + 1, p, p + 1, rfl, by omega, by go_num, by go_num, _, HN2, by omega⟩
              case measure => simp [intOf]; omega
          · have hkN : k + p = N := by have := HL2.out; omega
            have hI2 := hI.out
            rw [hkN] at hI2
            have hlow := hI2.low
            have hNc := HRR.out.2.2.1
            have hcl : ∀ ty, (Builtin.clear_ #[123] ty #[.slice (some ⟨g, kk, none⟩) (N - kk) (cap - kk)]).run Tryz.prog wr = .ok (.tuple #[]) (wr.setCells g kk (List.replicate (N - kk) (.slice none 0 0))) :=
              fun ty => Lib.run_clear_slice wr _ _ ty _ Tryz.underlying123 Tryz.zeroValue24 rfl rfl g kk _ _ (by omega) (fun t ht => by rw [hI2.row.cell (by omega)]; rfl) (fun t ht => hI2.row.free _)
            have hci : ¬ cap = kk := by omega
            have m1 : (kk : Int) ≤ (N : Int) := by omega
            have m2 : (0 : Int) ≤ (kk : Int) := by omega
            have m3 : kk ≤ cap := by omega
            have m4 : kk ≤ N := by omega
            have HI2 := Lib.hid hI2
            have HLW := Lib.hid hlow
            have hlp2 : (p : Int) = (L2 : Int) := by have := HL2.out; omega
            have HP2 := Lib.hid hlp
            have HKN := Lib.hid hkN
            clear hI hI2 hkN
            go_wp2_with fail
            go_ret
            obtain ⟨cur1, q1, q2, q3⟩ := HI2.out.row.heap
            obtain ⟨cur2, q4, q5, q6⟩ := blk_setCellsK (List.replicate (N - kk) (.slice none 0 0)) kk wr cur1 q1
            have hrow : CRow w (wr.setCells g kk (List.replicate (N - kk) (.slice none 0 0))) g cap kk f := ⟨⟨cur2, q4, by rw [q5, q2], fun i hi => by rw [q6 i hi, q3 i (by omega)]⟩, only_setCellsK _ _ _ HI2.out.row.only⟩
            have hRf : Rws w B n kk f := fun i hi => by
              obtain ⟨i2, h7, h8⟩ := HI2.out.rows i (by omega)
              rw [h8]
              exact HRR.out.1 i2 h7
            have hmem := HI2.out.comp.mem
            rw [HRR.out.2.2.2.2.1] at hmem
            exact ⟨_, rws f kk, rfl, hrow.ownU HRR.out.2.1 hRf HRR.out.2.2.2.2.2 (Nat.le_refl kk) (by omega) HRR.out.2.2.2.1, HI2.out.comp.asc, hmem, by rw [rws_len]; omega, .inr ⟨g, HRR.out.2.1, hrow.only⟩⟩
      · rw [decide_eq_false hx] at he
        have hAs2 : Hid (Asc (rws f0 (k + 1))) := Lib.hid (by
          rw [rws_succ f0 k]
          have h5 := HAD.out m (by have := HKM.out; omega)
          rw [← HKM.out] at h5
          have h6 := rws_last f0 k (by have := HKM.out; omega)
          rw [show k - 1 = m by have := HKM.out; omega] at h6
          exact asc_keep hAs.out h6 (less_of h5 (Ne.symm hx)))
        go_wp2_with fail
        go_region_held3 (fun (w' : World) => Grew wr w') (first | assumption | exact Grew.drew ‹_›) (first
          | (go_at_call 156; refine Calls.mono (he.out _ (by assumption)) ?_; rintro e w4 ⟨rfl, hg4⟩; have hg5 : Grew wr w4 := Grew.trans (by assumption) hg4))
        have hB4 := hB.trans hg5
        clear k1 k2 he r1 r2 hx hB hg5 hg4 hAs e1
        go_wp2_with fail
        go_roundw
        case rel => exact ⟨k, k + 1, rfl, by omega, by go_num, hB4, hAs2⟩
        case measure => simp [intOf]; omega
    · have hmN : k = N := by omega
      rw [hmN]
      have hAs2 := hAs
      rw [hmN] at hAs2
      clear hAs
      go_wp2_with fail
      go_ret
      refine ⟨_, Ls, rfl, ?_, ?_, fun _ => Iff.rfl, by omega, .inl hB⟩
      · have h5 := (HC.out.grew hB).ownU HRR.out.2.1 HRR.out.1 HRR.out.2.2.2.2.2 (Nat.le_refl N) HRR.out.2.2.1 HRR.out.2.2.2.1
        rwa [HRR.out.2.2.2.2.1] at h5
      · have h5 := hAs2.out
        rwa [HRR.out.2.2.2.2.1] at h5
end Go.Proofs.YtpfncncohnhanaaGreatDoor


/- sortedLists: the library's sort, then its pass that strikes doubles. -/
namespace Go.Proofs.YtpfncncohnhanaaGreatDoor
open Go.RowKit

theorem sortedLists_c (w w0 : World) (B n : Nat) (v : Value) (Ls : List (List Nat)) (hO : OwnU w B v (zss Ls)) (hL : ∀ L ∈ Ls, L.length = n) (h0 : 0 < Ls.length) (hsz : Ls.length ≤ 1048576) (hg : Grew w0 w) (hB : w0.heap.size ≤ B) :
    Calls Tryz.prog 107 #[v] w fun e w' => ∃ u Ks, e = .returned u ∧ OwnU w' B u (zss Ks) ∧ Asc Ks ∧ (∀ x, x ∈ Ks ↔ x ∈ Ls) ∧ Ks.length ≤ Ls.length ∧ Grew w0 w' := by
  have HS := Lib.hid (sort_c w B n v Ls hO hL h0 hsz)
  have HC := Lib.hid (fun W Ks (h1 : OwnU W B v (zss Ks)) h2 h3 h4 => compact_c W B n v Ks h1 h2 h3 h4)
  have HG := Lib.hid hg
  have HL := Lib.hid hL
  obtain ⟨A, c, rfl⟩ := hO.slice
  rw [zss_len] at HS HC
  rw [zss_len]
  clear hO hL hg
  generalize hN : Ls.length = N at *
  go_enter Tryz.func107, Tryz.ntmps107
  go_wp2_with fail
  refine (HS.out).mono ?_
  rintro e w1 ⟨rfl, g, Ks, hv, hBg, ho1, hO1, hp, hd⟩
  have HM := Lib.hid (HC.out w1 Ks hO1 (fun L hL => HL.out L (hp.mem_iff.1 hL)) hd (by rw [hp.length_eq, hN]; exact hsz))
  have HP := Lib.hid hp
  have HG1 := Lib.hid (ho1.grew_of HG.out (by omega))
  clear hO1 hp hd ho1 hv
  go_wp2_with fail
  refine (HM.out).mono ?_
  rintro e w2 ⟨u, Js, rfl, hO2, ha, hm, hl, hgg⟩
  have HR := Lib.hid (And.intro hO2 (And.intro ha (And.intro hm hl)))
  have HG2 : Hid (Grew w0 w2) := Lib.hid (by
    rcases hgg with hgg | ⟨g2, hb2, ho2⟩
    · exact HG1.out.trans hgg
    · exact ho2.grew_of HG1.out (by omega))
  obtain ⟨A2, c2, rfl⟩ := hO2.slice
  clear hO2 ha hm hgg hl
  go_wp2_with fail
  go_ret
  exact ⟨_, Js, rfl, HR.out.1, HR.out.2.1, fun x => (HR.out.2.2.1 x).trans HP.out.mem_iff, by rw [← hN, ← HP.out.length_eq]; exact HR.out.2.2.2, HG2.out⟩
end Go.Proofs.YtpfncncohnhanaaGreatDoor


/- The small posets, plain: all reflexive relations in order of which those are kept that are posets and their own least form, and what comes of sorting the least forms of all posets. -/
namespace Go.Proofs.YtpfncncohnhanaaGreatDoor
open Go.RowKit

theorem nats_zsX (X : List Nat) : nats (zs X) = X := by
  unfold nats zs
  rw [List.map_map]
  have : (Int.toNat ∘ fun i : Nat => (i : Int)) = id := by funext i; simp
  rw [this, List.map_id]
theorem mks_ofX {n : Nat} {X : List Nat} (h : ∀ x ∈ X, x < 2 ^ n) : mks n (zs X) = true := by
  unfold mks
  rw [List.all_eq_true]
  intro z hz
  unfold zs at hz
  obtain ⟨x, hx, rfl⟩ := List.mem_map.1 hz
  unfold mk
  have := h x hx
  exact decide_eq_true ⟨by omega, by omega⟩
theorem lessL_snoc : ∀ {l k : List Nat} {a b : Nat}, l.length = k.length → lessL l k = true → lessL (l ++ [a]) (k ++ [b]) = true
  | [], [], a, b, _, h => by simp [lessL, cmpL] at h
  | [], _ :: _, _, _, hl, _ => by simp at hl
  | _ :: _, [], _, _, hl, _ => by simp at hl
  | x :: l, y :: k, a, b, hl, h => by
    unfold lessL at h ⊢
    rw [decide_eq_true_eq] at h ⊢
    show (if x < y then (-1 : Int) else if y < x then 1 else cmpL (l ++ [a]) (k ++ [b])) < 0
    have h' : (if x < y then (-1 : Int) else if y < x then 1 else cmpL l k) < 0 := h
    by_cases h1 : x < y
    · rw [if_pos h1]; decide
    · rw [if_neg h1] at h' ⊢
      by_cases h2 : y < x
      · rw [if_pos h2] at h'; exact absurd h' (by decide)
      · rw [if_neg h2] at h' ⊢
        have := lessL_snoc (l := l) (k := k) (a := a) (b := b) (by simpa using hl) (decide_eq_true h')
        exact of_decide_eq_true this
theorem lessL_last : ∀ (l : List Nat) {a b : Nat}, a < b → lessL (l ++ [a]) (l ++ [b]) = true
  | [], a, b, h => by
    show decide ((if a < b then (-1 : Int) else if b < a then 1 else cmpL [] []) < 0) = true
    rw [if_pos h]
    rfl
  | x :: l, a, b, h => by
    have := of_decide_eq_true (lessL_last l h)
    show decide ((if x < x then (-1 : Int) else if x < x then 1 else cmpL (l ++ [a]) (l ++ [b])) < 0) = true
    rw [if_neg (Nat.lt_irrefl x), if_neg (Nat.lt_irrefl x)]
    exact decide_eq_true this
def relK (n k N : Nat) : List Nat := (List.range k).map fun x => N / 2 ^ (x * n) % 2 ^ n
theorem relK_succ (n k N : Nat) : relK n (k + 1) N = (N % 2 ^ n) :: relK n k (N / 2 ^ n) := by
  unfold relK
  rw [List.range_succ_eq_map, List.map_cons, List.map_map]
  congr 1
  · simp
  · refine List.map_congr_left fun x _ => ?_
    show N / 2 ^ ((x + 1) * n) % 2 ^ n = N / 2 ^ n / 2 ^ (x * n) % 2 ^ n
    rw [Nat.div_div_eq_div_mul, ← Nat.pow_add, Nat.add_mul, Nat.one_mul, Nat.add_comm]
theorem relK_onto {n : Nat} : ∀ {A : List Nat}, (∀ m ∈ A, m < 2 ^ n) → ∃ N, N < 2 ^ (A.length * n) ∧ relK n A.length N = A
  | [], _ => ⟨0, by simp, rfl⟩
  | a :: r, h => by
    obtain ⟨N, h1, h2⟩ := relK_onto (A := r) fun m hm => h m (List.mem_cons_of_mem _ hm)
    have ha := h a (List.mem_cons_self ..)
    refine ⟨a + 2 ^ n * N, ?_, ?_⟩
    · rw [List.length_cons, Nat.add_mul, Nat.one_mul, Nat.pow_add, Nat.mul_comm (2 ^ (r.length * n))]
      have : 2 ^ n * (N + 1) ≤ 2 ^ n * 2 ^ (r.length * n) := Nat.mul_le_mul_left _ h1
      rw [Nat.mul_add] at this
      omega
    · rw [List.length_cons, relK_succ, Nat.add_mul_mod_self_left, Nat.mod_eq_of_lt ha, Nat.add_mul_div_left _ _ (Nat.two_pow_pos n), Nat.div_eq_of_lt ha, Nat.zero_add, h2]
theorem relK_len (n k N : Nat) : (relK n k N).length = k := by simp [relK]
end Go.Proofs.YtpfncncohnhanaaGreatDoor


/- The small frames, plain: all relations in order of which those are kept that are their own least form, and what comes of sorting the least forms of all relations. -/
namespace Go.Proofs.YtpfncncohnhanaaGreatDoor
open Go.RowKit

def relD (n : Nat) : Nat → Nat → List Nat
  | 0, _ => []
  | k + 1, N => relD n k (N / 2 ^ n) ++ [N % 2 ^ n]
theorem relD_len (n : Nat) : ∀ k N, (relD n k N).length = k
  | 0, _ => rfl
  | k + 1, N => by
    show (relD n k (N / 2 ^ n) ++ [N % 2 ^ n]).length = k + 1
    rw [List.length_append, relD_len n k]
    rfl
theorem relD_lt (n : Nat) : ∀ k N, ∀ m ∈ relD n k N, m < 2 ^ n
  | 0, _, m, h => by cases h
  | k + 1, N, m, h => by
    rcases List.mem_append.1 h with h | h
    · exact relD_lt n k _ m h
    · rw [List.mem_singleton] at h
      rw [h]
      exact Nat.mod_lt _ (Nat.two_pow_pos n)
theorem relD_less (n : Nat) : ∀ {k M N : Nat}, M < N → N < 2 ^ (k * n) → lessL (relD n k M) (relD n k N) = true
  | 0, M, N, h1, h2 => by
    rw [Nat.zero_mul, Nat.pow_zero] at h2
    omega
  | k + 1, M, N, h1, h2 => by
    have hp := Nat.two_pow_pos n
    have h3 : N / 2 ^ n < 2 ^ (k * n) := by
      rw [Nat.div_lt_iff_lt_mul hp, ← Nat.pow_add]
      rwa [Nat.add_mul, Nat.one_mul] at h2
    show lessL (relD n k (M / 2 ^ n) ++ [M % 2 ^ n]) (relD n k (N / 2 ^ n) ++ [N % 2 ^ n]) = true
    by_cases h : M / 2 ^ n < N / 2 ^ n
    · exact lessL_snoc (by rw [relD_len, relD_len]) (relD_less n h h3)
    · have he : M / 2 ^ n = N / 2 ^ n := Nat.le_antisymm (Nat.div_le_div_right (Nat.le_of_lt h1)) (by omega)
      have e1 := Nat.div_add_mod M (2 ^ n)
      have e2 := Nat.div_add_mod N (2 ^ n)
      rw [he] at e1 ⊢
      refine lessL_last _ ?_
      omega
theorem relD_onto {n : Nat} : ∀ {k : Nat} {A : List Nat}, A.length = k → (∀ m ∈ A, m < 2 ^ n) → ∃ N, N < 2 ^ (k * n) ∧ relD n k N = A
  | 0, A, hl, _ => ⟨0, by simp, by rw [List.length_eq_zero_iff.1 hl]; rfl⟩
  | k + 1, A, hl, h => by
    have hp := Nat.two_pow_pos n
    have hd : A = A.take k ++ [nt A k] := by
      have := take_next (L := A) (i := k) 0 (by omega)
      rw [List.take_of_length_le (by omega)] at this
      exact this
    obtain ⟨N, h1, h2⟩ := relD_onto (n := n) (k := k) (A := A.take k) (by rw [List.length_take]; omega) (fun m hm => h m (List.mem_of_mem_take hm))
    have ha := h (nt A k) (nt_mem (by omega))
    refine ⟨N * 2 ^ n + nt A k, ?_, ?_⟩
    · rw [Nat.add_mul, Nat.one_mul, Nat.pow_add]
      have : (N + 1) * 2 ^ n ≤ 2 ^ (k * n) * 2 ^ n := Nat.mul_le_mul_right _ h1
      rw [Nat.add_mul] at this
      omega
    · show relD n k ((N * 2 ^ n + nt A k) / 2 ^ n) ++ [(N * 2 ^ n + nt A k) % 2 ^ n] = A
      rw [Nat.mul_comm N, Nat.mul_add_mod, Nat.mod_eq_of_lt ha, Nat.mul_add_div hp, Nat.div_eq_of_lt ha, Nat.add_zero, h2]
      exact hd.symm
theorem relD_step {n j N : Nat} (h : j < n) : relD n (j + 1) (N / 2 ^ ((n - (j + 1)) * n)) = relD n j (N / 2 ^ ((n - j) * n)) ++ [N / 2 ^ ((n - (j + 1)) * n) % 2 ^ n] := by
  show relD n j (N / 2 ^ ((n - (j + 1)) * n) / 2 ^ n) ++ _ = _
  rw [Nat.div_div_eq_div_mul, ← Nat.pow_add]
  have : (n - (j + 1)) * n + n = (n - j) * n := by
    rw [show n - j = n - (j + 1) + 1 by omega, Nat.add_mul, Nat.one_mul]
  rw [this]
def frs (n : Nat) : List (List Nat) := ((List.range (2 ^ (n * n))).map (relD n n)).filter fun A => decide (lst A = A)
theorem frs_asc (n : Nat) : Asc (frs n) := by
  refine List.Pairwise.filter _ ?_
  rw [List.pairwise_map]
  exact List.pairwise_lt_range.imp_of_mem fun _ hb h => relD_less n h (List.mem_range.1 hb)
theorem frs_mem {n : Nat} {A : List Nat} : A ∈ frs n ↔ A.length = n ∧ (∀ m ∈ A, m < 2 ^ n) ∧ lst A = A := by
  unfold frs
  rw [List.mem_filter, List.mem_map, decide_eq_true_eq]
  constructor
  · rintro ⟨⟨N, _, rfl⟩, h⟩
    exact ⟨relD_len n n N, relD_lt n n N, h⟩
  · rintro ⟨h1, h2, h3⟩
    obtain ⟨N, h4, h5⟩ := relD_onto h1 h2
    exact ⟨⟨N, List.mem_range.2 h4, h5⟩, h3⟩
theorem rl_of {n : Nat} {A : List Nat} (hn : n ≤ 8) (h1 : A.length = n) (h2 : ∀ m ∈ A, m < 2 ^ n) : Rl A := ⟨by omega, by rw [h1]; exact h2⟩
theorem frs_ok {n : Nat} (hn : n ≤ 8) {A : List Nat} (h : A ∈ frs n) : A.length = n ∧ Rl A ∧ lst A = A := by
  obtain ⟨h1, h2, h3⟩ := frs_mem.1 h
  exact ⟨h1, rl_of hn h1 h2, h3⟩
theorem relK_lt {n k N : Nat} : ∀ m ∈ relK n k N, m < 2 ^ n := by
  intro m hm
  unfold relK at hm
  obtain ⟨x, _, rfl⟩ := List.mem_map.1 hm
  exact Nat.mod_lt _ (Nat.two_pow_pos n)
theorem relK_rl {n N : Nat} (hn : n ≤ 8) : Rl (relK n n N) := rl_of hn (relK_len n n N) relK_lt
theorem relD_rl {n N : Nat} (hn : n ≤ 8) : Rl (relD n n N) := rl_of hn (relD_len n n N) (relD_lt n n N)
theorem frs_eq {n : Nat} (hn : n ≤ 8) {Ks : List (List Nat)} (ha : Asc Ks) (hm : ∀ x, x ∈ Ks ↔ ∃ N, N < 2 ^ (n * n) ∧ x = lst (relK n n N)) : Ks = frs n := by
  refine asc_ext ha (frs_asc n) fun x => ?_
  rw [hm, frs_mem]
  constructor
  · rintro ⟨N, _, rfl⟩
    have hR := relK_rl (N := N) hn
    have hl : (lst (relK n n N)).length = n := by rw [lst_len hR, relK_len]
    obtain ⟨o, ho, he⟩ := lst_reo hR
    refine ⟨hl, fun m hm => ?_, lst_lst hR⟩
    have h8 : (reo (relK n n N) o).length = n := by rw [← he]; exact hl
    have := (reo_rl (A := relK n n N) (o := o) (by rw [ho.1, relK_len]; omega)).2 m (by rw [← he]; exact hm)
    rwa [h8] at this
  · rintro ⟨h1, h2, h3⟩
    obtain ⟨N, h4, h5⟩ := relK_onto (n := n) (A := x) h2
    rw [h1] at h4 h5
    exact ⟨N, h4, by rw [h5]; exact h3.symm⟩
def cdf (n k : Nat) : List (List Nat) := ((List.range k).map (relK n n)).map lst
theorem cdf_succ (n k : Nat) : cdf n (k + 1) = cdf n k ++ [lst (relK n n k)] := by simp [cdf, List.range_succ]
theorem cdf_len (n k : Nat) : (cdf n k).length = k := by simp [cdf]
theorem cdf_rows {n k : Nat} (hn : n ≤ 8) : ∀ L ∈ cdf n k, L.length = n := by
  intro L hL
  unfold cdf at hL
  obtain ⟨A, hA, rfl⟩ := List.mem_map.1 hL
  obtain ⟨N, _, rfl⟩ := List.mem_map.1 hA
  rw [lst_len (relK_rl hn), relK_len]
theorem cdf_mem {n k : Nat} {x : List Nat} : x ∈ cdf n k ↔ ∃ N, N < k ∧ x = lst (relK n n N) := by
  unfold cdf
  rw [List.mem_map]
  constructor
  · rintro ⟨A, hA, rfl⟩
    obtain ⟨N, h1, rfl⟩ := List.mem_map.1 hA
    exact ⟨N, List.mem_range.1 h1, rfl⟩
  · rintro ⟨N, h1, rfl⟩
    exact ⟨_, List.mem_map.2 ⟨N, List.mem_range.2 h1, rfl⟩, rfl⟩
def frk (n k : Nat) : List (List Nat) := ((List.range k).map (relD n n)).filter fun A => decide (lst A = A)
theorem frk_yes {n k : Nat} (h : lst (relD n n k) = relD n n k) : frk n (k + 1) = frk n k ++ [relD n n k] := by
  unfold frk
  rw [List.range_succ, List.map_append, List.filter_append]
  simp [h]
theorem frk_no {n k : Nat} (h : ¬ lst (relD n n k) = relD n n k) : frk n (k + 1) = frk n k := by
  unfold frk
  rw [List.range_succ, List.map_append, List.filter_append]
  simp [h]
theorem frk_len (n k : Nat) : (frk n k).length ≤ k := by
  refine Nat.le_trans (List.length_filter_le _ _) ?_
  simp
theorem frs_len {n : Nat} (h : n ≤ 3) : (frs n).length ≤ 512 := by
  refine Nat.le_trans (frk_len n (2 ^ (n * n))) ?_
  exact Nat.le_trans (Nat.pow_le_pow_right (by omega) (Nat.mul_le_mul h h)) (by decide)
def sfrs (k : Nat) : List (List Nat) := (List.range k).flatMap frs
theorem sfrs_succ (k : Nat) : sfrs (k + 1) = sfrs k ++ frs k := by simp [sfrs, List.range_succ]
theorem sfrs_len : ∀ {k : Nat}, k ≤ 4 → (sfrs k).length ≤ k * 512
  | 0, _ => by simp [sfrs]
  | k + 1, h => by
    rw [sfrs_succ, List.length_append]
    have h1 := sfrs_len (k := k) (by omega)
    have h2 := frs_len (n := k) (by omega)
    omega
theorem sfrs_ok {k : Nat} (hk : k ≤ 8) {A : List Nat} (h : A ∈ sfrs k) : A.length < k ∧ Rl A ∧ lst A = A := by
  unfold sfrs at h
  obtain ⟨n, hn, hA⟩ := List.mem_flatMap.1 h
  rw [List.mem_range] at hn
  obtain ⟨h1, h2, h3⟩ := frs_ok (by omega) hA
  exact ⟨by omega, h2, h3⟩
end Go.Proofs.YtpfncncohnhanaaGreatDoor


/- Facts on shifts and products of small numbers, and on the relation with a number (cut out of PsO). -/
namespace Go.Proofs.YtpfncncohnhanaaGreatDoor
open Go.RowKit

theorem relK_snoc (n k N : Nat) : relK n (k + 1) N = relK n k N ++ [N / 2 ^ (k * n) % 2 ^ n] := by simp [relK, List.range_succ]
theorem mul_facts (j n : Nat) (h : j * n ≤ 16) : wrap64 ((j : Int) * (n : Int)) = ((j * n : Nat) : Int) ∧ IntKind.i64.wrap ((j : Int) * (n : Int)) = ((j * n : Nat) : Int) := by
  rw [← Int.natCast_mul]
  generalize j * n = p at *
  rw [wrap64, IntKind.wrap_i64]
  omega
theorem shr_facts (k p n : Nat) (hk : k ≤ 65536) (hn : n ≤ 4) : wrap64 (2 ^ n) = ((2 ^ n : Nat) : Int) ∧ IntKind.i64.wrap (2 ^ n) = ((2 ^ n : Nat) : Int) ∧ (k : Int) / 2 ^ p = ((k / 2 ^ p : Nat) : Int) ∧
    bits .and .i64 ((k / 2 ^ p : Nat) : Int) ((2 ^ n - 1 : Nat) : Int) = ((k / 2 ^ p % 2 ^ n : Nat) : Int) ∧ wrap64 (((2 ^ n : Nat) : Int) - 1) = ((2 ^ n - 1 : Nat) : Int) ∧ IntKind.i64.wrap (((2 ^ n : Nat) : Int) - 1) = ((2 ^ n - 1 : Nat) : Int) := by
  have hF1 := wrap_pow (k := n) (by omega)
  have hF2 := wrapI_pow (k := n) (by omega)
  have hFb : 2 ^ n ≤ 16 := Nat.le_trans (Nat.pow_le_pow_right (by omega) hn) (by decide)
  have hFp : 0 < 2 ^ n := Nat.two_pow_pos n
  have hkb : k / 2 ^ p < 9223372036854775808 := Nat.lt_of_le_of_lt (Nat.div_le_self _ _) (by omega)
  have hD : (k : Int) / 2 ^ p = ((k / 2 ^ p : Nat) : Int) := by rw [Int.natCast_ediv, Int.natCast_pow]; rfl
  have hAN := and_i64 (k / 2 ^ p) (2 ^ n - 1) hkb (Nat.lt_of_le_of_lt (Nat.sub_le _ _) (Nat.lt_of_le_of_lt hFb (by decide)))
  rw [Nat.and_two_pow_sub_one_eq_mod] at hAN
  refine ⟨hF1, hF2, hD, hAN, ?_, ?_⟩
  · generalize 2 ^ n = F at *
    rw [wrap64]
    omega
  · generalize 2 ^ n = F at *
    rw [IntKind.wrap_i64]
    omega
end Go.Proofs.YtpfncncohnhanaaGreatDoor


/- The program's frames of one size: AllFrames, and smallFrames. -/
namespace Go.Proofs.YtpfncncohnhanaaGreatDoor
open Go.RowKit

def GivesFsC (w : World) (Ls : List (List Nat)) (e : Ending) (w' : World) : Prop := ∃ v, e = .returned (.tuple #[v, .int .i64 0]) ∧ OwnFs w' w.heap.size v Ls ∧ Grew w w'
set_option maxHeartbeats 2000000 in
theorem allFrames_c (n : Nat) (h3 : n ≤ 3) (w : World) :
    Calls Tryz.prog 61 #[.int .i64 (n : Int)] w (GivesFsC w (frs n)) := by
  unfold GivesFsC
  have h4 : n ≤ 4 := by omega
  have hM : 2 ^ (n * n) ≤ 65536 := Nat.le_trans (Nat.pow_le_pow_right (by omega) (Nat.mul_le_mul h4 h4)) (by decide)
  have hnn : n * n ≤ 16 := Nat.mul_le_mul h4 h4
  have hp := wrap_pow (k := n * n) (by omega)
  have hp2 := wrapI_pow (k := n * n) (by omega)
  have hmul : wrap64 ((n : Int) * (n : Int)) = ((n * n : Nat) : Int) := by rw [← Int.natCast_mul, wrap64]; omega
  have hmul2 : IntKind.i64.wrap ((n : Int) * (n : Int)) = ((n * n : Nat) : Int) := by rw [← Int.natCast_mul, IntKind.wrap_i64]; omega
  have HIR := Lib.hid (inRange_c (n : Int) 0 3)
  have hir : decide ((0 : Int) ≤ (n : Int) ∧ (n : Int) ≤ 3) = true := decide_eq_true ⟨by omega, by omega⟩
  rw [hir] at HIR
  clear hir
  have HPO := Lib.hid (fun v A W (h : Ints W v (zs A)) => frameOf_c v (zs A) W h)
  have HLR := Lib.hid (fun v A W (h : Ints W v (zs A)) (hp : Rl A) (hl : A.length ≤ 6) => leastRelation_c v A W h hp hl)
  have HRL := Lib.hid (fun N => relK_rl (n := n) (N := N) (by omega))
  have HSL := Lib.hid (fun W v Ls (hO : OwnU W w.heap.size v (zss Ls)) hL h0 hsz (hg : Grew w W) => sortedLists_c W w w.heap.size n v Ls hO hL h0 hsz hg (Nat.le_refl _))
  have HFE := Lib.hid (fun Ks => @frs_eq n (by omega) Ks)
  have HRW := Lib.hid (fun k => @cdf_rows n k (by omega))
  obtain ⟨q, hq⟩ : ∃ q, q = n * n := ⟨_, rfl⟩
  have HQ := Lib.hid hq
  rw [← hq] at hp hp2 hM hmul hmul2 hnn
  clear hq
  obtain ⟨M, hMM⟩ : ∃ M, M = 2 ^ q := ⟨_, rfl⟩
  have HM := Lib.hid hMM
  have hM0 : 0 < M := by rw [hMM]; exact Nat.two_pow_pos q
  have HM0 := Lib.hid hM0
  clear hM0
  rw [← hMM] at hp hp2 hM
  clear hMM
  have q1 : (0 : Int) ≤ (q : Int) := by omega
  have q2 : (q : Int) < 64 := by omega
  have q3 : q < 64 := by omega
  go_enter Tryz.func61, Tryz.ntmps61
  go_wp2_with fail
  refine (HIR.out _).mono ?_
  rintro e wz ⟨rfl, hgz⟩
  go_wp2_with fail
  clear hp hp2 hmul hmul2
  go_loopw [4, 18] (fun s i wr => ∃ k : Nat, k ≤ M ∧ i = .int .i64 (k : Int) ∧ Grew w wr ∧ Hid (OwnU wr w.heap.size s (zss (cdf n k)))) (fun _ i _ => M - (intOf i).toNat)
  case atStart => exact ⟨0, by omega, rfl, hgz, Lib.hid (OwnU.nil_ _ _)⟩
  case round =>
    obtain ⟨k, hk, rfl, hB, hO⟩ := hrel
    obtain ⟨A3, c3, rfl⟩ := hO.out.slice
    rw [zss_len]
    by_cases hlt : k < M
    · generalize wr = wk at *
      go_wp2_with fail
      go_loopw [6, 22] (fun s x wr => ∃ (j : Nat), j ≤ n ∧ x = .int .i64 (j : Int) ∧ Grew wk wr ∧ Hid (OwnI wr wk.heap.size s (zs (relK n j k)))) (fun _ x _ => n - (intOf x).toNat)
      case atStart => exact ⟨0, by omega, rfl, Grew.refl _, Lib.hid (World.ownsRow_nil wk _ _ 1)⟩
      case round =>
        obtain ⟨j, hj, rfl, hB2, hO2⟩ := hrel
        by_cases hlj : j < n
        · have hjn : j * n ≤ 16 := Nat.mul_le_mul (Nat.le_trans hj h4) h4
          have HF := Lib.hid (shr_facts k (j * n) n (Nat.le_trans hk hM) h4)
          have HMU := Lib.hid (mul_facts j n hjn)
          have HSN := Lib.hid (relK_snoc n j k)
          generalize k / 2 ^ (j * n) % 2 ^ n = z at HF HSN
          generalize k / 2 ^ (j * n) = y at HF
          generalize 2 ^ n - 1 = f at HF
          generalize (2 : Nat) ^ n = F at HF
          generalize j * n = p at HF HMU hjn
          have p1 : (0 : Int) ≤ (p : Int) := Int.natCast_nonneg p
          have p3 : p < 64 := Nat.lt_of_le_of_lt hjn (by decide)
          have p2 : (p : Int) < 64 := Int.ofNat_lt.2 p3
          have n1 : (0 : Int) ≤ (n : Int) := Int.natCast_nonneg n
          have n3 : n < 64 := Nat.lt_of_le_of_lt h4 (by decide)
          have n2 : (n : Int) < 64 := Int.ofNat_lt.2 n3
          have hl : (zs (relK n j k)).length ≤ 1048576 := by rw [zs_len, relK_len]; exact Nat.le_trans hj (Nat.le_trans h4 (by decide))
          have hr0 := Grew.refl wr
          have hk5 := (hr0.alloc (.cells #[.int .i64 (z : Int)] 2)).drew
          have hs5 : wk.heap.size ≤ ((wr.alloc (.cells #[.int .i64 (z : Int)] 2)).drew).heap.size := Nat.le_trans hB2.size hk5.size
          have hO5 := hO2.out.grew hk5
          have hrd5 := (rd_litI wr (z : Int) 2).grew (Grew.refl _).drew
          obtain ⟨hF1, hF2, hD, hAN, hS1, hS2⟩ := HF.out
          obtain ⟨hM1, hM2⟩ := HMU.out
          clear hF1 hS1 hM1
          go_wp2_with fail
          go_region_law (refine step_appI wk.heap.size rfl (.tmp 25) (.tmp 35) rfl u6 (zs (relK n j k)) rfl hO5 hs5 _ _ rfl hrd5 hl ?_; intro v6 w6 hown6 hg6)
          all_goals
            have hB6 : Grew wk w6 := (hB2.trans hk5).grown hg6 (fun g hg => own_of_ge hO5 hg)
            rw [show zs (relK n j k) ++ [(z : Int)] = zs (relK n (j + 1) k) by rw [HSN.out, zs_append]; rfl] at hown6
            have HO6 := Lib.hid hown6
            clear hown6 hO5 hg6 hk5 hrd5 hF2 hS2 hM2 hD hAN
            go_wp2_with fail
            go_roundw
            case rel => exact ⟨j + 1, by omega, by go_num, hB6, HO6⟩
            case measure => simp [intOf]; omega
        · obtain rfl : j = n := by omega
          have hO9 := hO2.out
          obtain ⟨A5, c5, rfl⟩ := ints_sliceN hO9.ints
          have HO9 := Lib.hid hO9
          have hll : (relK j j k).length = j := relK_len j j k
          rw [hll] at hO9 HO9 ⊢
          have hR3 : Hid (Calls Tryz.prog 60 #[.slice A5 j c5] wr (GivesI wr (zs (lst (relK j j k))))) := Lib.hid (by
            exact HLR.out _ _ wr hO9.ints (HRL.out k) (by rw [hll]; omega))
          have HO3 := hO
          have hLl : (zss (cdf j k)).length ≤ 1048576 := by rw [zss_len, cdf_len]; omega
          clear hO9 hO2 hO
          have hcy : Hid (zss (cdf j (k + 1)) = zss (cdf j k) ++ [zs (lst (relK j j k))]) := Lib.hid (by rw [cdf_succ, zss_append]; rfl)
          have hlz : (cdf j k).length = (zss (cdf j k)).length := (zss_len _).symm
          have HU := HO3.out
          rw [hlz] at *
          clear hlz
          generalize zss (cdf j k) = K at *
          go_wp2_with fail
          refine (hR3.out).mono ?_
          rintro e w4 ⟨v4, rfl, hO4, hg4⟩
          have hK4 := hB2.trans hg4
          have hl4 := (Grew.refl w4).alloc (.cells #[v4] 24)
          have hO4b := OwnI.base (B' := w.heap.size) hO4 (Nat.le_trans hB.size hB2.size)
          obtain ⟨A4, c4, rfl⟩ := ints_sliceN hO4.ints
          clear hO4
          generalize lst (relK j j k) = R at *
          go_wp2_with (at_builtin
                       refine wpList_appU w.heap.size _ _ rfl rfl _ K rfl (HU.grew (hK4.trans hl4)) ((hB.trans hK4).alloc _).size _ (.slice A4 R.length c4) _ rfl (rd_litU _ _ _) (hO4b.grew hl4) hLl ?_
                       intro v9 w9 hO9 hgr9
                       have hB9 := Grew.grown ((hB.trans hK4).alloc (.cells #[.slice A4 R.length c4] 24)) hgr9 (fun q hq => own_of_geU (HU.grew (hK4.trans hl4)) hq))
          go_roundw
          case rel => exact ⟨k + 1, by omega, by go_num, hB9, Lib.hid (by rw [hcy.out]; exact hO9)⟩
          case measure => simp [intOf]; omega
    · obtain rfl : k = M := by omega
      have hne : 0 < (cdf n k).length := by rw [cdf_len]; exact HM0.out
      have hS := Lib.hid (HSL.out wr _ _ hO.out (HRW.out k) hne (by rw [cdf_len]; omega) hB)
      rw [zss_len] at hS
      have hEQ : Hid (∀ Ks, Asc Ks → (∀ x, x ∈ Ks ↔ x ∈ cdf n k) → Ks = frs n) := Lib.hid (fun Ks ha hm => HFE.out Ks ha (fun x => by rw [hm x, cdf_mem, HM.out, HQ.out]))
      have hCL : (cdf n k).length ≤ k := Nat.le_of_eq (cdf_len n k)
      clear hO
      generalize (cdf n k).length = cl at *
      go_wp2_with fail
      refine (hS.out).mono ?_
      rintro e w1 ⟨u, Ks, rfl, hU, ha, hm, hlen, hg1⟩
      have he := hEQ.out Ks ha hm
      subst he
      clear ha hm
      have HAT := Lib.hid (fun i (hi : i < (frs n).length) => hU.at_ (i := i) (by rw [zss_len]; exact hi))
      have HGT := Lib.hid (fun i (hi : i < (frs n).length) => zss_get (Us := frs n) (i := i) hi)
      have HTK := Lib.hid (fun i (hi : i < (frs n).length) => take_next (L := frs n) [] hi)
      have HEND : Hid ((frs n).take (frs n).length = frs n) := Lib.hid List.take_length
      obtain ⟨A7, c7, rfl⟩ := hU.slice
      rw [zss_len] at HAT ⊢
      clear hU
      generalize hpl : (frs n).length = pl at *
      go_wp2_with fail
      go_loopw [8, 47] (fun s i wr => ∃ j : Nat, j ≤ pl ∧ i = .int .i64 (j : Int) ∧ Grew w1 wr ∧ Hid (OwnFs wr w.heap.size s ((frs n).take j)) ∧ Hid (∀ g, s.ownBlock = some g → w1.heap.size ≤ g)) (fun _ i _ => pl - (intOf i).toNat)
      case atStart => exact ⟨0, by omega, rfl, Grew.refl _, Lib.hid (OwnFs.nil_ _ _), Lib.hid (fun g hg => by cases hg)⟩
      case round =>
        obtain ⟨j, hj, rfl, hB2, hO2, hNB⟩ := hrel
        by_cases hlj : j < pl
        · obtain ⟨go, co, uo, he, hco, huo⟩ := HAT.out j hlj
          injection he with he1 _ he3
          subst he1 he3
          rw [HGT.out j hlj] at huo
          have hTK := Lib.hid (HTK.out j hlj)
          have hcell := hco wr hB2
          have hIo := huo.grew hB2
          have hR1 := Lib.hid (HPO.out uo _ wr hIo.ints)
          rw [zs_len] at hR1
          have hTL : ((frs n).take j).length ≤ 1048576 := by rw [List.length_take]; omega
          have HIo := Lib.hid hIo
          clear huo hIo hco
          generalize (frs n).getD j [] = L at *
          go_wp2_with fail
          refine (hR1.out).mono ?_
          rintro e w2 ⟨rfl, hg2⟩
          have hB3 := hB2.trans hg2
          have hl2 := (Grew.refl w2).alloc (.cells #[.int .i64 (L.length : Int), uo] 26)
          have hsz : w.heap.size ≤ (w2.alloc (.cells #[.int .i64 (L.length : Int), uo] 26)).heap.size := ((hg1.trans hB3).trans hl2).size
          have hO3 := hO2.out.grew (hg2.trans hl2)
          have hq : ∀ p ∈ [(uo, L)], OwnI (w2.alloc (.cells #[.int .i64 (L.length : Int), uo] 26)) w.heap.size p.1 (zs p.2) := fun p hp => by
            rw [List.mem_singleton] at hp
            subst hp
            exact HIo.out.grew (hg2.trans hl2)
          go_wp2_with (at_builtin
                       refine wpList_appFs w.heap.size _ _ rfl rfl _ ((frs n).take j) rfl hO3 hsz _ [(uo, L)] rfl (rd_litFs _ _ _ _) hq (by simp only [List.length_cons, List.length_nil]; omega) ?_
                       intro v9 w9 hO9 hgr9 hnb9
                       have hB9 := Grew.grown (hB3.trans hl2) hgr9 (fun q hq => hNB.out q hq)
                       have hNB9 : Hid (∀ g, v9.ownBlock = some g → w1.heap.size ≤ g) := Lib.hid (fun g hgg => by
                         rcases hnb9 with h0 | h0
                         · rw [h0] at hgg; exact hNB.out g hgg
                         · rw [h0] at hgg
                           injection hgg with hgg
                           rw [← hgg]
                           exact (hB3.trans hl2).size))
          go_roundw
          case rel => exact ⟨j + 1, by omega, by go_num, hB9, Lib.hid (by rw [hTK.out]; exact hO9), hNB9⟩
          case measure => simp [intOf]; omega
        · obtain rfl : j = pl := by omega
          have HO := Lib.hid hO2.out
          go_wp2_with fail
          go_ret2
          exact ⟨_, rfl, by have := HO.out; rwa [HEND.out] at this, hg1.trans hB2⟩
set_option maxHeartbeats 1000000 in
theorem smallFrames_c (w : World) :
    Calls Tryz.prog 36 #[] w fun e w' => ∃ v, e = .returned v ∧ OwnFs w' w.heap.size v (sfrs 4) ∧ Grew w w' := by
  have HP := Lib.hid allFrames_c
  have HSU := Lib.hid sfrs_succ
  have HSL := Lib.hid (fun k (h : k ≤ 4) => sfrs_len h)
  have HPL := Lib.hid (fun n (h : n ≤ 3) => frs_len h)
  go_enter Tryz.func36, Tryz.ntmps36
  go_wp2_with fail
  go_loopw [1, 5] (fun s i wr => ∃ k : Nat, k ≤ 4 ∧ i = .int .i64 (k : Int) ∧ Grew w wr ∧ Hid (OwnFs wr w.heap.size s (sfrs k))) (fun _ i _ => 4 - (intOf i).toNat)
  case atStart => exact ⟨0, by omega, rfl, Grew.refl _, Lib.hid (OwnFs.nil_ _ _)⟩
  case round =>
    obtain ⟨k, hk, rfl, hB, hO⟩ := hrel
    by_cases hlt : k < 4
    · have hP := Lib.hid (HP.out k (by omega) wr)
      have HS := Lib.hid (HSU.out k)
      have hpl := HPL.out k (by omega)
      have hsl := HSL.out k hk
      go_wp2_with fail
      refine (hP.out).mono ?_
      rintro e w2 ⟨v2, rfl, hO2, hg2⟩
      have hB2 := hB.trans hg2
      have hO3 := hO.out.grew hg2
      obtain ⟨qs, q1, q2, q3, q4⟩ := (hO2.base hB.size).rd
      obtain ⟨A2, c2, rfl⟩ := hO2.slice
      rw [← q1] at HS
      have hql : (sfrs k).length + qs.length ≤ 1048577 := by omega
      clear hO2 q1
      go_wp2_with (at_builtin
                   refine wpList_appFs w.heap.size _ _ rfl rfl _ (sfrs k) rfl hO3 hB2.size _ qs rfl q3 q4 hql ?_
                   intro v9 w9 hO9 hgr9 hnb9
                   have hB9 := Grew.grown hB2 hgr9 (fun q hq => hO3.ge hq))
      go_roundw
      case rel => exact ⟨k + 1, by omega, by go_num, hB9, Lib.hid (by rw [HS.out]; exact hO9)⟩
      case measure => simp [intOf]; omega
    · obtain rfl : k = 4 := by omega
      have HO := Lib.hid hO.out
      clear hO
      go_wp2_with fail
      go_ret
      exact ⟨_, rfl, HO.out, hB⟩
end Go.Proofs.YtpfncncohnhanaaGreatDoor


/- slices.DeleteFunc over a row of frames of the call's own. -/
namespace Go.Proofs.YtpfncncohnhanaaGreatDoor
open Go.RowKit

abbrev Fv := Value × List Nat
def FAt (cur : Array Value) (k : Nat) (q : Fv) : Prop := cur[k * 2]? = some (.int .i64 (q.2.length : Int)) ∧ cur[k * 2 + 1]? = some q.1
theorem FAt.keep {cur : Array Value} {k i : Nat} {q : Fv} (h : FAt cur k q) (hk : k ≠ i) (a b : Value) : FAt ((cur.setIfInBounds (i * 2) a).setIfInBounds (i * 2 + 1) b) k q := by
  obtain ⟨h1, h2⟩ := h
  constructor
  · rw [Array.getElem?_setIfInBounds, if_neg (by omega), Array.getElem?_setIfInBounds, if_neg (by omega)]; exact h1
  · rw [Array.getElem?_setIfInBounds, if_neg (by omega), Array.getElem?_setIfInBounds, if_neg (by omega)]; exact h2
theorem FAt.new {cur : Array Value} {i : Nat} {q : Fv} (h : i * 2 + 1 < cur.size) : FAt ((cur.setIfInBounds (i * 2) (.int .i64 (q.2.length : Int))).setIfInBounds (i * 2 + 1) q.1) i q := by
  constructor
  · rw [Array.getElem?_setIfInBounds, if_neg (by omega), Array.getElem?_setIfInBounds, if_pos rfl, if_pos (by omega)]
  · rw [Array.getElem?_setIfInBounds, if_pos rfl, if_pos (by simpa using h)]
structure FdI (ps : List Fv) (p : Fv → Bool) (cur : Array Value) (i j : Nat) : Prop where
  low : ∀ k q, ((ps.take j).filter fun s => !p s)[k]? = some q → FAt cur k q
  len : ((ps.take j).filter fun s => !p s).length = i
  high : ∀ k q, j ≤ k → ps[k]? = some q → FAt cur k q
theorem FdI.skip {ps : List Fv} {p : Fv → Bool} {cur : Array Value} {i j : Nat} {x : Fv} (h : FdI ps p cur i j) (hx : ps[j]? = some x) (hp : p x = true) : FdI ps p cur i (j + 1) := by
  have e : (ps.take (j + 1)).filter (fun s => !p s) = (ps.take j).filter fun s => !p s := by rw [List.take_add_one, hx, List.filter_append]; simp [hp]
  exact ⟨by rw [e]; exact h.low, by rw [e]; exact h.len, fun k q hk => h.high k q (by omega)⟩
theorem FdI.keep {ps : List Fv} {p : Fv → Bool} {cur : Array Value} {i j : Nat} {x : Fv} (h : FdI ps p cur i j) (hx : ps[j]? = some x) (hij : i < j + 1) (hc : i * 2 + 1 < cur.size) (hp : p x = false) :
    FdI ps p ((cur.setIfInBounds (i * 2) (.int .i64 (x.2.length : Int))).setIfInBounds (i * 2 + 1) x.1) (i + 1) (j + 1) := by
  have e : (ps.take (j + 1)).filter (fun s => !p s) = ((ps.take j).filter fun s => !p s) ++ [x] := by rw [List.take_add_one, hx, List.filter_append]; simp [hp]
  refine ⟨fun k q hk => ?_, by rw [e, List.length_append, h.len]; rfl, fun k q hk hq => ?_⟩
  · rw [e] at hk
    rcases Nat.lt_or_ge k i with h1 | h1
    · rw [List.getElem?_append_left (by rw [h.len]; exact h1)] at hk
      exact (h.low k q hk).keep (by omega) _ _
    · rw [List.getElem?_append_right (by rw [h.len]; exact h1), h.len] at hk
      obtain rfl : k = i := by
        have := (List.getElem?_eq_some_iff.1 hk).1
        simp at this
        omega
      rw [Nat.sub_self] at hk
      obtain rfl : x = q := by simpa using hk
      exact FAt.new hc
  · exact (h.high k q (by omega) hq).keep (by omega) _ _
def NoF (p : Fv → Bool) (ps : List Fv) (k : Nat) : Prop := ∀ q ∈ ps.take k, p q = false
theorem NoF.zero (p : Fv → Bool) (ps : List Fv) : NoF p ps 0 := fun q hq => by simp at hq
theorem NoF.succ {p : Fv → Bool} {ps : List Fv} {k : Nat} {x : Fv} (h : NoF p ps k) (hx : ps[k]? = some x) (hp : p x = false) : NoF p ps (k + 1) := by
  intro q hq
  rw [List.take_add_one, hx] at hq
  rcases List.mem_append.1 hq with hq | hq
  · exact h q hq
  · obtain rfl : q = x := by simpa using hq
    exact hp
theorem noF_filter {p : Fv → Bool} {ps : List Fv} {k : Nat} (h : NoF p ps k) : (ps.take k).filter (fun s => !p s) = ps.take k := by
  rw [List.filter_eq_self]
  intro q hq
  rw [h q hq]
  rfl
theorem FdI.start {ps : List Fv} {p : Fv → Bool} {cur : Array Value} {k : Nat} {x : Fv} (hcur : ∀ k q, ps[k]? = some q → FAt cur k q) (hx : ps[k]? = some x) (hn : NoF p ps k) (hp : p x = true) : FdI ps p cur k (k + 1) := by
  have hk : k < ps.length := (List.getElem?_eq_some_iff.1 hx).1
  have e1 : (ps.take (k + 1)).filter (fun s => !p s) = ps.take k := by rw [List.take_add_one, hx, List.filter_append, noF_filter hn]; simp [hp]
  refine ⟨fun i q hi => ?_, by rw [e1, List.length_take]; omega, fun i q _ hq => hcur i q hq⟩
  rw [e1] at hi
  have hik : i < k := by
    have := (List.getElem?_eq_some_iff.1 hi).1
    rw [List.length_take] at this
    omega
  rw [List.getElem?_take, if_pos hik] at hi
  exact hcur i q hi
def PredF (w : World) (g f : Nat) (caps : Array Value) (ps : List Fv) (p : Fv → Bool) : Prop := ∀ q W, q ∈ ps → Only g w W → Calls Tryz.prog f (#[.agg #[.int .i64 (q.2.length : Int), q.1]] ++ caps) W fun e W' => e = .returned (.bool (p q)) ∧ Grew W W'
def FirstF (ps : List Fv) (p : Fv → Bool) (r : Int) : Prop := (r = -1 ∧ NoF p ps ps.length) ∨ ∃ (k : Nat) (x : Fv), r = (k : Int) ∧ ps[k]? = some x ∧ p x = true ∧ NoF p ps k
set_option maxHeartbeats 1000000 in
theorem indexFuncF_c (g cap : Nat) (cur : Array Value) (ps : List Fv) (f : Nat) (caps : Array Value) (p : Fv → Bool) (w : World) (hh : w.heap[g]? = some (.cells cur 26 (0, 0))) (hcur : ∀ k q, ps[k]? = some q → FAt cur k q) (hc : ps.length ≤ cap) (hm : cap ≤ 9223372036854775807)
    (hsl : ∀ q ∈ ps, ∃ A n c, q.1 = .slice A n c) (hf : PredF w g f caps ps p) (eg : ∀ args w, (callFunc f args).run Tryz.prog w = .ok (.enter f args) w) :
    Calls Tryz.prog 108 #[.slice (some ⟨g, 0, none⟩) ps.length cap, .func (.func f) #[] caps] w fun e w' => ∃ r : Int, e = .returned (.int .i64 r) ∧ Grew w w' ∧ Hid (FirstF ps p r) := by
  have HC : Hid (∀ k q, ps[k]? = some q → ∀ W, Grew w W → W.cell? ⟨g, k * 2, none⟩ = some (.int .i64 (q.2.length : Int)) ∧ W.cell? ⟨g, k * 2 + 1, none⟩ = some q.1) := Lib.hid (fun k q hk W hW => by
    have hb := (hW.block (blk_lt hh)).trans hh
    rw [blk_cell hb, blk_cell hb]
    exact hcur k q hk)
  have HF := Lib.hid (fun q (hq : q ∈ ps) W (hW : Grew w W) => hf q W hq hW.only)
  have HE1 : Hid (NoF p ps ps.length → FirstF ps p (-1)) := Lib.hid (fun h => .inl ⟨rfl, h⟩)
  have HE2 : Hid (∀ (k : Nat) x, ps[k]? = some x → p x = true → NoF p ps k → FirstF ps p (k : Int)) := Lib.hid (fun k x h1 h2 h3 => .inr ⟨k, x, rfl, h1, h2, h3⟩)
  have HG := Lib.hid (fun k (hk : k < ps.length) => (⟨ps[k], List.getElem?_eq_getElem hk, List.getElem_mem hk⟩ : ∃ x, ps[k]? = some x ∧ x ∈ ps))
  have HSL := Lib.hid hsl
  clear hf hh hcur hsl
  generalize hN : ps.length = n at *
  clear hN
  go_enter Tryz.func108, Tryz.ntmps108
  go_wp2_with fail
  go_loopw [5, 8] (fun _ i wr => ∃ j : Nat, j ≤ n ∧ i = .int .i64 j ∧ Grew w wr ∧ Hid (NoF p ps j)) (fun _ i _ => n - (intOf i).toNat)
  case atStart => exact ⟨0, Nat.zero_le _, rfl, Grew.refl _, NoF.zero _ _⟩
  case round =>
    obtain ⟨j, hj, rfl, hB, HJ⟩ := hrel
    by_cases hlt : j < n
    · obtain ⟨x, hx, hxm⟩ := HG.out j hlt
      obtain ⟨k1, k2⟩ := HC.out j x hx _ hB
      have hF := Lib.hid (HF.out x hxm _ hB)
      have hA := Lib.hid (fun h => HE2.out j x hx h HJ.out)
      have hS := Lib.hid (fun h => HJ.out.succ (k := j) hx h)
      obtain ⟨A, n2, c2, hv⟩ := HSL.out x hxm
      obtain ⟨u, L⟩ := x
      simp only at hv k1 k2
      subst hv
      clear hx hxm
      generalize L.length = ll at *
      go_wp2_with fail
      go_at_fn f
      refine (hF.out).mono ?_
      rintro e w1 ⟨rfl, hg1⟩
      have hB1 := hB.trans hg1
      cases hp : p (.slice A n2 c2, L) with
      | true =>
        have hv := Lib.hid (hA.out hp)
        go_wp2_with fail
        go_ret
        exact ⟨_, rfl, hB1, hv⟩
      | false =>
        have hs := Lib.hid (hS.out hp)
        go_wp2_with fail
        go_roundw
        case rel => exact ⟨j + 1, by omega, by go_num, hB1, hs⟩
        case measure => simp [intOf]; omega
    · obtain rfl : j = n := by omega
      have hv := Lib.hid (HE1.out HJ.out)
      go_wp2_with fail
      go_ret
      exact ⟨_, rfl, hB, hv⟩
def GivesFd (w : World) (g cap : Nat) (K : List Fv) (e : Ending) (w' : World) : Prop := e = .returned (.slice (some ⟨g, 0, none⟩) K.length cap) ∧ (∃ cur, w'.heap[g]? = some (.cells cur 26 (0, 0)) ∧ cur.size = cap * 2 ∧ ∀ k q, K[k]? = some q → FAt cur k q) ∧ Only g w w'
theorem zero_cells (n : Nat) : (Builtin.zeroCells #[.int .i64 0, .slice none 0 0] n).toList.length = n * 2 ∧ ∀ v ∈ (Builtin.zeroCells #[.int .i64 0, .slice none 0 0] n).toList, v.oneCell' = true := by
  constructor
  · simp [Builtin.zeroCells]
  · intro v hv
    simp only [Builtin.zeroCells, Array.toList_map, List.mem_map] at hv
    obtain ⟨i, _, rfl⟩ := hv
    have h2 : i % 2 = 0 ∨ i % 2 = 1 := by omega
    rcases h2 with h2 | h2
    · simp [h2, Value.oneCell']
    · simp [h2, Value.oneCell']
theorem run_clearF (w : World) (ty : TypeId) (g i n c : Nat) (hn : 0 < n) (hc : ∀ j, j < n * 2 → (w.cell? ⟨g, i * 2 + j, none⟩).isSome = true) (hf : ∀ j, j < n * 2 → w.frozen? ⟨g, i * 2 + j, none⟩ = false) :
    (Builtin.clear_ #[48] ty #[.slice (some ⟨g, i * 2, none⟩) n c]).run Tryz.prog w = .ok (.tuple #[]) (w.setCells g (i * 2) (Builtin.zeroCells #[.int .i64 0, .slice none 0 0] n).toList) := by
  obtain ⟨h1, h2⟩ := zero_cells n
  have hst := run_storeCells_cells (P := Tryz.prog) g (i * 2) (Builtin.zeroCells #[.int .i64 0, .slice none 0 0] n).toList 0 w (by rw [h1]; simpa using hc) (by rw [h1]; simpa using hf) h2
  simp only [Nat.add_zero] at hst
  have hz := Tryz.zeroValue26
  obtain ⟨m, rfl⟩ : ∃ m, n = m + 1 := ⟨n - 1, by omega⟩
  have hzc : (Value.agg #[.int .i64 0, .slice none 0 0]).cells = #[.int .i64 0, .slice none 0 0] := rfl
  simp [Builtin.clear_, run_underlying Tryz.underlying48, hz, hzc, hst]
theorem fblk_setCells {g : Nat} {t : TypeId} : ∀ (vs : List Value) (o : Nat) (w : World) (cur : Array Value), w.heap[g]? = some (.cells cur t (0, 0)) →
    ∃ cur', (w.setCells g o vs).heap[g]? = some (.cells cur' t (0, 0)) ∧ cur'.size = cur.size ∧ ∀ i, i < o → cur'[i]? = cur[i]?
  | [], _, _, cur, h => ⟨cur, h, rfl, fun _ _ => rfl⟩
  | v :: r, o, w, cur, h => by
    obtain ⟨c', h1, h2, h3⟩ := fblk_setCells r (o + 1) (w.setCell ⟨g, o, none⟩ v) _ (blk_set h o v)
    refine ⟨c', h1, by rw [h2]; simp, fun i hi => ?_⟩
    rw [h3 i (by omega), Array.getElem?_setIfInBounds, if_neg (by omega)]
theorem fonly_setCells {g : Nat} {a : World} : ∀ (vs : List Value) (o : Nat) (w : World), Only g a w → Only g a (w.setCells g o vs)
  | [], _, _, h => h
  | v :: r, o, w, h => fonly_setCells r (o + 1) _ (h.setCell v)
set_option maxHeartbeats 4000000 in
theorem deleteFuncF_c (g cap : Nat) (cur : Array Value) (ps : List Fv) (f : Nat) (caps : Array Value) (p : Fv → Bool) (w : World) (hh : w.heap[g]? = some (.cells cur 26 (0, 0))) (hcs : cur.size = cap * 2) (hcur : ∀ k q, ps[k]? = some q → FAt cur k q) (hc : ps.length ≤ cap) (hm : cap ≤ 9223372036854775807)
    (hsl : ∀ q ∈ ps, ∃ A n c, q.1 = .slice A n c) (hf : PredF w g f caps ps p) (eg : ∀ args w, (callFunc f args).run Tryz.prog w = .ok (.enter f args) w) :
    Calls Tryz.prog 62 #[.slice (some ⟨g, 0, none⟩) ps.length cap, .func (.func f) #[] caps] w (GivesFd w g cap (ps.filter fun q => !p q)) := by
  unfold GivesFd
  have HI := Lib.hid (indexFuncF_c g cap cur ps f caps p w hh hcur hc hm hsl hf eg)
  have HF := Lib.hid hf
  have HX := Lib.hid hcur
  have HH := Lib.hid hh
  have HSK := Lib.hid (fun cur i j x (h : FdI ps p cur i j) hj hp => h.skip (x := x) hj hp)
  have HKP := Lib.hid (fun cur i j x (h : FdI ps p cur i j) hj hij hc hp => h.keep (x := x) hj hij hc hp)
  have HST := Lib.hid (fun k x hk hn hp => @FdI.start ps p cur k x hcur hk hn hp)
  have HNF := Lib.hid (fun k h => @noF_filter p ps k h)
  have HZ : Hid (ps.take ps.length = ps) := Lib.hid List.take_length
  have HCS := Lib.hid hcs
  have HG := Lib.hid (fun k (hk : k < ps.length) => (⟨ps[k], List.getElem?_eq_getElem hk, List.getElem_mem hk⟩ : ∃ x, ps[k]? = some x ∧ x ∈ ps))
  have HSL := Lib.hid hsl
  have HLT := Lib.hid (fun k x (h : ps[k]? = some x) => (List.getElem?_eq_some_iff.1 h).1)
  clear hf hh hcur hcs hsl
  generalize hN : ps.length = n at *
  have HN := Lib.hid hN
  clear hN
  go_enter Tryz.func62, Tryz.ntmps62
  go_wp2_with fail
  refine (HI.out).mono ?_
  rintro e w1 ⟨r, rfl, hg1, hr⟩
  have HG1 := Lib.hid hg1
  clear hg1
  rcases hr.out with ⟨rfl, hn⟩ | ⟨k, x, rfl, hk, hp, hno⟩
  · have hnn : Hid (ps.filter (fun q => !p q) = ps) := Lib.hid (by
      have := HNF.out ps.length hn
      rwa [HN.out, HZ.out] at this)
    clear hr hn
    go_wp2_with fail
    go_ret
    rw [hnn.out, HN.out]
    have hb1 := (HG1.out.block (blk_lt HH.out)).trans HH.out
    exact ⟨rfl, ⟨cur, hb1, HCS.out, HX.out⟩, HG1.out.only⟩
  · have hne1 : ((k : Int) == -1) = false := beq_eq_false_iff_ne.2 (by omega)
    have hkn : k < n := by have := HLT.out k x hk; omega
    have hst := Lib.hid (HST.out k x hk hno hp)
    clear hr hno hp hk
    go_wp2_with fail
    go_loopw [5, 6] (fun s5 s6 wr => ∃ (i j : Nat) (c9 : Array Value), s5 = .int .i64 i ∧ s6 = .int .i64 j ∧ j ≤ n ∧ i < j ∧ Hid (wr.heap[g]? = some (.cells c9 26 (0, 0)) ∧ c9.size = cap * 2 ∧ FdI ps p c9 i j) ∧ Hid (Only g w wr)) (fun _ s6 _ => n - (intOf s6).toNat)
    case atStart => exact ⟨k, k + 1, cur, rfl, by go_num, by omega, by omega, ⟨(HG1.out.block (blk_lt HH.out)).trans HH.out, HCS.out, hst.out⟩, HG1.out.only⟩
    case round =>
      obtain ⟨i, j, c9, rfl, rfl, hj, hij, HI9, HT9⟩ := hrel
      by_cases hlt : j < n
      · obtain ⟨x, hx, hxm⟩ := HG.out j hlt
        have hat := HI9.out.2.2.high j x (Nat.le_refl _) hx
        have k1 : wr.cell? ⟨g, j * 2, none⟩ = some (.int .i64 (x.2.length : Int)) := by rw [blk_cell HI9.out.1]; exact hat.1
        have k2 : wr.cell? ⟨g, j * 2 + 1, none⟩ = some x.1 := by rw [blk_cell HI9.out.1]; exact hat.2
        have hF := Lib.hid (fun W (hW : Only g w W) => HF.out x W hxm hW)
        have hsk := Lib.hid (fun h => HSK.out c9 i j x HI9.out.2.2 hx h)
        have hkp := Lib.hid (fun h => HKP.out c9 i j x HI9.out.2.2 hx (by omega) (by rw [HI9.out.2.1]; omega) h)
        obtain ⟨A, n2, c2, hv⟩ := HSL.out x hxm
        obtain ⟨u, L⟩ := x
        simp only at hv k1 k2
        subst hv
        clear hx hxm hat
        have hlb := blk_new wr (.cells #[.int .i64 (L.length : Int), .slice A n2 c2] 26)
        have hla := (Grew.refl wr).alloc (.cells #[.int .i64 (L.length : Int), .slice A n2 c2] 26)
        have hgw := blk_lt HI9.out.1
        cases hp : p (.slice A n2 c2, L) with
        | true =>
          have hI2 := Lib.hid (hsk.out hp)
          rw [hp] at hF
          clear hp hsk hkp
          go_wp2_with fail
          go_at_fn f
          refine (hF.out _ (HT9.out.grew hla)).mono ?_
          rintro e w2 ⟨rfl, hg2⟩
          have HG2 := Lib.hid (hla.trans hg2)
          clear hg2 hla hlb
          go_wp2_with fail
          go_roundw
          case rel => exact ⟨i, j + 1, c9, rfl, by go_num, by omega, by omega, ⟨(HG2.out.block (blk_lt HI9.out.1)).trans HI9.out.1, HI9.out.2.1, hI2.out⟩, HT9.out.grew HG2.out⟩
          case measure => simp [intOf]; omega
        | false =>
          have hI2 := Lib.hid (hkp.out hp)
          rw [hp] at hF
          clear hp hsk hkp
          go_wp2_with fail
          go_at_fn f
          refine (hF.out _ (HT9.out.grew hla)).mono ?_
          rintro e w2 ⟨rfl, hg2⟩
          have HG2 := Lib.hid (hla.trans hg2)
          have hbx := (hg2.block (blk_lt hlb)).trans hlb
          have m1 : w2.cell? ⟨wr.heap.size, 0, none⟩ = some (.int .i64 (L.length : Int)) := by rw [blk_cell hbx]; rfl
          have m2 : w2.cell? ⟨wr.heap.size, 1, none⟩ = some (.slice A n2 c2) := by rw [blk_cell hbx]; rfl
          have hh2 := (HG2.out.block (blk_lt HI9.out.1)).trans HI9.out.1
          have f1 : w2.frozen? ⟨g, i * 2, none⟩ = false := blk_frozen hh2 _
          have f2 : w2.frozen? ⟨g, i * 2 + 1, none⟩ = false := blk_frozen hh2 _
          obtain ⟨u1, hu1⟩ : ∃ u, w2.cell? ⟨g, i * 2, none⟩ = some u := by
            rw [blk_cell hh2]
            exact ⟨_, Array.getElem?_eq_getElem (by rw [HI9.out.2.1]; omega)⟩
          obtain ⟨u2, hu2⟩ : ∃ u, w2.cell? ⟨g, i * 2 + 1, none⟩ = some u := by
            rw [blk_cell hh2]
            exact ⟨_, Array.getElem?_eq_getElem (by rw [HI9.out.2.1]; omega)⟩
          have HH2 := Lib.hid hh2
          have HO2 := Lib.hid (HT9.out.grew HG2.out)
          clear hh2 hg2 hla hlb hbx
          go_wp2_with fail
          go_roundw
          case rel => exact ⟨i + 1, j + 1, _, by go_num, by go_num, by omega, by omega, ⟨blk_set (blk_set HH2.out _ _) _ _, by simp [HI9.out.2.1], hI2.out⟩, (HO2.out.setCell _).setCell _⟩
          case measure => simp [intOf]; omega
      · obtain rfl : j = n := by omega
        have hci : ¬ cap = i := by omega
        have hcl : ∀ ty, (Builtin.clear_ #[48] ty #[.slice (some ⟨g, i * 2, none⟩) (j - i) (cap - i)]).run Tryz.prog wr = .ok (.tuple #[]) (wr.setCells g (i * 2) (Builtin.zeroCells #[.int .i64 0, .slice none 0 0] (j - i)).toList) :=
          fun ty => run_clearF wr ty g i _ _ (by omega) (fun t ht => by rw [blk_cell HI9.out.1, Array.getElem?_eq_getElem (by rw [HI9.out.2.1]; omega)]; rfl) (fun t ht => blk_frozen HI9.out.1 _)
        go_wp2_with fail
        go_ret
        obtain ⟨c8, h1, h2, h3⟩ := fblk_setCells (Builtin.zeroCells #[.int .i64 0, .slice none 0 0] (j - i)).toList (i * 2) wr c9 HI9.out.1
        have hd := HI9.out.2.2
        have hlen := hd.len
        have hlow := hd.low
        rw [show ps.take j = ps from HZ.out] at hlen hlow
        refine ⟨by rw [hlen]; rfl, ⟨c8, h1, by rw [h2]; exact HI9.out.2.1, fun k q hq => ?_⟩, fonly_setCells _ _ _ HT9.out⟩
        have hkl := (List.getElem?_eq_some_iff.1 hq).1
        rw [hlen] at hkl
        have h5 := hlow k q hq
        exact ⟨by rw [h3 _ (by omega)]; exact h5.1, by rw [h3 _ (by omega)]; exact h5.2⟩
end Go.Proofs.YtpfncncohnhanaaGreatDoor


/- Modal truth on finite frames, plain: the sets of worlds at which formulas are true; truth at a world by a relation. No program is in sight. -/
namespace Go.Proofs.YtpfncncohnhanaaGreatDoor
open Go.RowKit
open Fm (Nd Tree)

def mv (A V : List Nat) : Tree → Nat
  | .var v => nt V v.val
  | .fls => 0
  | .and a b => mv A V a &&& mv A V b
  | .or a b => mv A V a ||| mv A V b
  | .imp a b => dif (full A.length) (mv A V a) ||| mv A V b
  | .box a => bx A (mv A V a)
  | .dia a => dif (full A.length) (bx A (dif (full A.length) (mv A V a)))

def rl (A : List Nat) (x y : Nat) : Prop := (nt A x).testBit y = true
theorem dif_lt {n a b : Nat} (h : a < 2 ^ n) : dif a b < 2 ^ n := Nat.lt_of_le_of_lt dif_le h
theorem nt_lt {V : List Nat} {n v : Nat} (hV : ∀ m ∈ V, m < 2 ^ n) : nt V v < 2 ^ n := by
  by_cases h : v < V.length
  · exact hV _ (nt_mem h)
  · unfold nt; rw [List.getD_eq_getElem?_getD, List.getElem?_eq_none (by omega)]; exact Nat.pow_pos (by omega)
theorem mv_lt {A V : List Nat} (hV : ∀ m ∈ V, m < 2 ^ A.length) : ∀ t : Tree, mv A V t < 2 ^ A.length
  | .var v => nt_lt hV
  | .fls => Nat.pow_pos (by omega)
  | .and a b => Nat.and_lt_two_pow _ (mv_lt hV b)
  | .or a b => Nat.or_lt_two_pow (mv_lt hV a) (mv_lt hV b)
  | .imp a b => Nat.or_lt_two_pow (dif_lt (full_lt _)) (mv_lt hV b)
  | .box a => bx_lt _ _
  | .dia a => dif_lt (full_lt _)

end Go.Proofs.YtpfncncohnhanaaGreatDoor


/- Modal truth, plain: the sets of worlds reckoned over a list of nodes from its end. No program is in sight. -/
namespace Go.Proofs.YtpfncncohnhanaaGreatDoor
open Go.RowKit
open Fm (Nd Tree)

def mvs (A V : List Nat) (k s : Int) (st : List Nat) : List Nat :=
  if k = 0 then nt V s.toNat :: st
  else if k = 2 then (st.getD 0 0 &&& st.getD 1 0) :: st.drop 2
  else if k = 3 then (st.getD 0 0 ||| st.getD 1 0) :: st.drop 2
  else if k = 4 then (dif (full A.length) (st.getD 0 0) ||| st.getD 1 0) :: st.drop 2
  else if k = 5 then bx A (st.getD 0 0) :: st.drop 1
  else if k = 6 then dif (full A.length) (bx A (dif (full A.length) (st.getD 0 0))) :: st.drop 1
  else 0 :: st
def mve (A V : List Nat) : List Nd → List Nat
  | [] => []
  | x :: xs => mvs A V x.1 x.2 (mve A V xs)
theorem mvs_var {A V : List Nat} {k s : Int} {v : Nat} {st : List Nat} (h : k = 0) (hs : s = (v : Int)) : mvs A V k s st = nt V v :: st := by unfold mvs; rw [if_pos h, hs]; rfl
theorem mvs_fls {A V : List Nat} {k s : Int} {st : List Nat} (h : k = 1) : mvs A V k s st = 0 :: st := by subst h; rfl
theorem mvs_and {A V : List Nat} {k s : Int} {x y : Nat} {st : List Nat} (h : k = 2) : mvs A V k s (x :: y :: st) = (x &&& y) :: st := by subst h; rfl
theorem mvs_or {A V : List Nat} {k s : Int} {x y : Nat} {st : List Nat} (h : k = 3) : mvs A V k s (x :: y :: st) = (x ||| y) :: st := by subst h; rfl
theorem mvs_imp {A V : List Nat} {k s : Int} {x y : Nat} {st : List Nat} (h : k = 4) : mvs A V k s (x :: y :: st) = (dif (full A.length) x ||| y) :: st := by subst h; rfl
theorem mvs_box {A V : List Nat} {k s : Int} {x : Nat} {st : List Nat} (h : k = 5) : mvs A V k s (x :: st) = bx A x :: st := by subst h; rfl
theorem mvs_dia {A V : List Nat} {k s : Int} {x : Nat} {st : List Nat} (h : k = 6) : mvs A V k s (x :: st) = dif (full A.length) (bx A (dif (full A.length) x)) :: st := by subst h; rfl
theorem mve_enc (A V : List Nat) : ∀ (t : Tree) (r : List Nd), mve A V (Fm.enc t ++ r) = mv A V t :: mve A V r := by
  intro t
  have bin : ∀ {k : Int} {a b : Tree} {r : List Nd} {f : Nat → Nat → Nat}, (∀ r : List Nd, mve A V (Fm.enc a ++ r) = mv A V a :: mve A V r) → (∀ r : List Nd, mve A V (Fm.enc b ++ r) = mv A V b :: mve A V r) →
      (∀ x y st, mvs A V k 0 (x :: y :: st) = f x y :: st) → mve A V ((k, 0) :: (Fm.enc a ++ Fm.enc b) ++ r) = f (mv A V a) (mv A V b) :: mve A V r := by
    intro k a b r f ha hb hf
    show mvs A V k 0 (mve A V (Fm.enc a ++ Fm.enc b ++ r)) = _
    rw [List.append_assoc, ha, hb, hf]
  have one : ∀ {k : Int} {a : Tree} {r : List Nd} {f : Nat → Nat}, (∀ r : List Nd, mve A V (Fm.enc a ++ r) = mv A V a :: mve A V r) →
      (∀ x st, mvs A V k 0 (x :: st) = f x :: st) → mve A V ((k, 0) :: Fm.enc a ++ r) = f (mv A V a) :: mve A V r := by
    intro k a r f ha hf
    show mvs A V k 0 (mve A V (Fm.enc a ++ r)) = _
    rw [ha, hf]
  induction t with
  | var v => intro r; exact mvs_var rfl rfl
  | fls => intro r; rfl
  | and a b iha ihb => intro r; exact bin (f := fun x y => x &&& y) iha ihb (fun _ _ _ => rfl)
  | or a b iha ihb => intro r; exact bin (f := fun x y => x ||| y) iha ihb (fun _ _ _ => rfl)
  | imp a b iha ihb => intro r; exact bin (f := fun x y => dif (full A.length) x ||| y) iha ihb (fun _ _ _ => rfl)
  | box a iha => intro r; exact one (f := fun x => bx A x) iha (fun _ _ => rfl)
  | dia a iha => intro r; exact one (f := fun x => dif (full A.length) (bx A (dif (full A.length) x))) iha (fun _ _ => rfl)
def Mfed (A V : List Nat) (xs : List Nd) : Prop := ∀ i, i < xs.length → ((kd xs i = 2 ∨ kd xs i = 3 ∨ kd xs i = 4) → 2 ≤ (mve A V (xs.drop (i + 1))).length) ∧ ((kd xs i = 5 ∨ kd xs i = 6) → 1 ≤ (mve A V (xs.drop (i + 1))).length)
theorem Mfed.nil_ (A V : List Nat) : Mfed A V [] := fun i hi => absurd hi (by simp)
theorem Mfed.cons {A V : List Nat} {x : Nd} {xs : List Nd} (h : Mfed A V xs) (h1 : (x.1 = 2 ∨ x.1 = 3 ∨ x.1 = 4) → 2 ≤ (mve A V xs).length) (h2 : (x.1 = 5 ∨ x.1 = 6) → 1 ≤ (mve A V xs).length) : Mfed A V (x :: xs) := by
  intro i hi
  cases i with
  | zero => exact ⟨h1, h2⟩
  | succ i => exact h i (by simpa using hi)
theorem mfed_enc (A V : List Nat) : ∀ (t : Tree) (r : List Nd), Mfed A V r → Mfed A V (Fm.enc t ++ r) := by
  intro t
  have bin : ∀ {k : Int} {a b : Tree} {r : List Nd}, (∀ r : List Nd, Mfed A V r → Mfed A V (Fm.enc a ++ r)) → (∀ r : List Nd, Mfed A V r → Mfed A V (Fm.enc b ++ r)) → Mfed A V r → Mfed A V ((k, 0) :: (Fm.enc a ++ Fm.enc b) ++ r) := by
    intro k a b r ha hb hr
    rw [List.cons_append, List.append_assoc]
    refine (ha _ (hb _ hr)).cons (fun _ => ?_) (fun _ => ?_) <;> rw [mve_enc A V a, mve_enc A V b] <;> simp
  have one : ∀ {k : Int} {a : Tree} {r : List Nd}, ¬ (k = 2 ∨ k = 3 ∨ k = 4) → (∀ r : List Nd, Mfed A V r → Mfed A V (Fm.enc a ++ r)) → Mfed A V r → Mfed A V ((k, 0) :: Fm.enc a ++ r) := by
    intro k a r hk ha hr
    rw [List.cons_append]
    refine (ha _ hr).cons (fun h => absurd h hk) (fun _ => ?_)
    rw [mve_enc A V a]; simp
  have zero : ∀ {x : Nd} {r : List Nd}, ¬ (x.1 = 2 ∨ x.1 = 3 ∨ x.1 = 4) → ¬ (x.1 = 5 ∨ x.1 = 6) → Mfed A V r → Mfed A V ([x] ++ r) := fun hx hy hr => hr.cons (fun h => absurd h hx) (fun h => absurd h hy)
  induction t with
  | var v => intro r hr; exact zero (by show ¬ ((0 : Int) = 2 ∨ (0 : Int) = 3 ∨ (0 : Int) = 4); decide) (by show ¬ ((0 : Int) = 5 ∨ (0 : Int) = 6); decide) hr
  | fls => intro r hr; exact zero (by decide) (by decide) hr
  | and a b iha ihb => intro r hr; exact bin iha ihb hr
  | or a b iha ihb => intro r hr; exact bin iha ihb hr
  | imp a b iha ihb => intro r hr; exact bin iha ihb hr
  | box a iha => intro r hr; exact one (by decide) iha hr
  | dia a iha => intro r hr; exact one (by decide) iha hr
theorem mfed_of {A V : List Nat} {t : Tree} : Mfed A V (Fm.enc t) := by
  have := mfed_enc A V t [] (Mfed.nil_ A V)
  rwa [List.append_nil] at this
theorem mve_of {A V : List Nat} {t : Tree} : mve A V (Fm.enc t) = [mv A V t] := by
  have := mve_enc A V t []
  rwa [List.append_nil] at this
theorem mve_drop {A V : List Nat} {xs : List Nd} {i : Nat} (h : i < xs.length) : mve A V (xs.drop i) = mvs A V (kd xs i) (sy xs i) (mve A V (xs.drop (i + 1))) := by
  rw [List.drop_eq_getElem_cons h]
  show mvs A V (xs[i]).1 (xs[i]).2 _ = _
  simp [kd, sy, List.getD, h]
theorem mve_sm {A V : List Nat} (hV : ∀ m ∈ V, m < 2 ^ A.length) : ∀ xs : List Nd, ∀ m ∈ mve A V xs, m < 2 ^ A.length
  | [] => fun m h => absurd h (by simp [mve])
  | x :: xs => by
    have ih := mve_sm hV xs
    have hp : 0 < 2 ^ A.length := Nat.pow_pos (by omega)
    have hg : ∀ i, (mve A V xs).getD i 0 < 2 ^ A.length := by
      intro i
      by_cases h : i < (mve A V xs).length
      · simp only [List.getD_eq_getElem?_getD, List.getElem?_eq_getElem h, Option.getD_some]; exact ih _ (List.getElem_mem h)
      · rw [List.getD_eq_getElem?_getD, List.getElem?_eq_none (by omega)]; exact hp
    intro m hm
    have hm : m ∈ mvs A V x.1 x.2 (mve A V xs) := hm
    unfold mvs at hm
    repeat' split at hm
    all_goals rcases List.mem_cons.1 hm with rfl | hm
    · exact nt_lt hV
    · exact ih _ hm
    · exact Nat.and_lt_two_pow _ (hg 1)
    · exact ih _ (List.mem_of_mem_drop hm)
    · exact Nat.or_lt_two_pow (hg 0) (hg 1)
    · exact ih _ (List.mem_of_mem_drop hm)
    · exact Nat.or_lt_two_pow (dif_lt (full_lt _)) (hg 1)
    · exact ih _ (List.mem_of_mem_drop hm)
    · exact bx_lt _ _
    · exact ih _ (List.mem_of_mem_drop hm)
    · exact dif_lt (full_lt _)
    · exact ih _ (List.mem_of_mem_drop hm)
    · exact hp
    · exact ih _ hm
theorem enc_kinds_m (t : Tree) {i : Nat} (hi : i < (Fm.enc t).length) :
    (kd (Fm.enc t) i = 0 ∧ ∃ v : Nat, sy (Fm.enc t) i = (v : Int) ∧ v < 6) ∨ kd (Fm.enc t) i = 1 ∨ kd (Fm.enc t) i = 2 ∨ kd (Fm.enc t) i = 3 ∨ kd (Fm.enc t) i = 4 ∨ kd (Fm.enc t) i = 5 ∨ kd (Fm.enc t) i = 6 := by
  have h1 : kd (Fm.enc t) i = ((Fm.enc t)[i]).1 := by simp [kd, List.getD, hi]
  have h2 : sy (Fm.enc t) i = ((Fm.enc t)[i]).2 := by simp [sy, List.getD, hi]
  rw [h1, h2]
  exact enc_nd t _ (List.getElem_mem hi)
end Go.Proofs.YtpfncncohnhanaaGreatDoor


/- The values of all models on a frame, plain: a number's values for some variables; validity on a frame is truth for all numbers. No program is in sight. -/
namespace Go.Proofs.YtpfncncohnhanaaGreatDoor
open Go.RowKit
open Fm (Nd Tree)

def dg (n c num p : Nat) : Nat := num / 2 ^ (n * (c - 1 - p)) % 2 ^ n
theorem dg_lt (n c num p : Nat) : dg n c num p < 2 ^ n := Nat.mod_lt _ (Nat.pow_pos (by omega))
theorem dg_and (n c num p : Nat) : num / 2 ^ (n * (c - 1 - p)) &&& full n = dg n c num p := by
  unfold full dg
  exact Nat.and_two_pow_sub_one_eq_mod _ _
def vals (n : Nat) (vars : List Nat) (num : Nat) : List Nat := lf fun i => if i ∈ vars then dg n vars.length num (vars.idxOf i) else 0
theorem vals_len (n : Nat) (vars : List Nat) (num : Nat) : (vals n vars num).length = 6 := lf_len _
theorem vals_lt (n : Nat) (vars : List Nat) (num : Nat) : ∀ m ∈ vals n vars num, m < 2 ^ n := by
  intro m hm
  unfold vals lf at hm
  obtain ⟨i, _, rfl⟩ := List.mem_map.1 hm
  by_cases h : i ∈ vars
  · simp only [if_pos h]; exact dg_lt _ _ _ _
  · simp only [if_neg h]; exact Nat.pow_pos (by omega)
def allV (n : Nat) (vars : List Nat) : List (List Nat) := (List.range (2 ^ (n * vars.length))).map (vals n vars)
theorem allV_len (n : Nat) (vars : List Nat) : (allV n vars).length = 2 ^ (n * vars.length) := by simp [allV]
theorem allV_take {n : Nat} {vars : List Nat} {k : Nat} (h : k < 2 ^ (n * vars.length)) : (allV n vars).take (k + 1) = (allV n vars).take k ++ [vals n vars k] := by
  unfold allV
  rw [← List.map_take, ← List.map_take, List.take_range, List.take_range, Nat.min_eq_left (by omega), Nat.min_eq_left (by omega), List.range_succ, List.map_append]
  rfl
def PG (n : Nat) (vars : List Nat) (num j : Nat) (f : Nat → Nat) : Prop := (∀ p, p < j → f (nt vars p) = dg n vars.length num p) ∧ ∀ i, i < 6 → i ∉ vars → f i = 0
def QG (n : Nat) (vars : List Nat) (num k : Nat) (f : Nat → Nat) : Prop := (∀ p, k ≤ p → p < vars.length → f (nt vars p) = dg n vars.length num p) ∧ ∀ i, i < 6 → i ∉ vars → f i = 0
theorem nt_inj {vars : List Nat} (hn : vars.Nodup) {i j : Nat} (hi : i < vars.length) (hj : j < vars.length) (h : nt vars i = nt vars j) : i = j := by
  unfold nt at h
  simp only [List.getD_eq_getElem?_getD, List.getElem?_eq_getElem hi, List.getElem?_eq_getElem hj, Option.getD_some] at h
  exact (List.getElem_inj hn).1 h
theorem nt_idxOf {vars : List Nat} {i : Nat} (h : i ∈ vars) : vars.idxOf i < vars.length ∧ nt vars (vars.idxOf i) = i := by
  have h1 := List.idxOf_lt_length_of_mem h
  refine ⟨h1, ?_⟩
  unfold nt
  rw [List.getD_eq_getElem?_getD, List.getElem?_eq_getElem h1, Option.getD_some]
  exact List.getElem_idxOf h1
theorem PG.zero {n : Nat} {vars : List Nat} {num : Nat} {f : Nat → Nat} (h : ∀ i, i < 6 → i ∉ vars → f i = 0) : PG n vars num 0 f := ⟨fun p hp => absurd hp (by omega), h⟩
theorem PG.set {n : Nat} {vars : List Nat} (hn : vars.Nodup) {num j : Nat} {f f' : Nat → Nat} (h : PG n vars num j f) (hj : j < vars.length) (h1 : f' (nt vars j) = dg n vars.length num j) (h2 : ∀ i, i ≠ nt vars j → f' i = f i) : PG n vars num (j + 1) f' := by
  refine ⟨fun p hp => ?_, fun i hi hv => ?_⟩
  · by_cases hpj : p = j
    · subst hpj; exact h1
    · rw [h2 _ (fun e => hpj (nt_inj hn (by omega) hj e))]
      exact h.1 p (by omega)
  · rw [h2 i (fun e => hv (by rw [e]; exact nt_mem hj))]
    exact h.2 i hi hv
theorem QG.set {n : Nat} {vars : List Nat} (hn : vars.Nodup) {num k : Nat} {f f' : Nat → Nat} (h : QG n vars num (k + 1) f) (hj : k < vars.length) (h1 : f' (nt vars k) = dg n vars.length num k) (h2 : ∀ i, i ≠ nt vars k → f' i = f i) : QG n vars num k f' := by
  refine ⟨fun p hp hpl => ?_, fun i hi hv => ?_⟩
  · by_cases hpj : p = k
    · subst hpj; exact h1
    · rw [h2 _ (fun e => hpj (nt_inj hn hpl hj e))]
      exact h.1 p (by omega) hpl
  · rw [h2 i (fun e => hv (by rw [e]; exact nt_mem hj))]
    exact h.2 i hi hv
theorem QG.pg {n : Nat} {vars : List Nat} {num : Nat} {f : Nat → Nat} (h : QG n vars num 0 f) : PG n vars num vars.length f := ⟨fun p hp => h.1 p (by omega) hp, h.2⟩
theorem PG.vals {n : Nat} {vars : List Nat} {num : Nat} {f : Nat → Nat} (h : PG n vars num vars.length f) : (List.range 6).map f = vals n vars num := by
  unfold Go.Proofs.YtpfncncohnhanaaGreatDoor.vals lf
  refine List.map_congr_left fun i hi => ?_
  rw [List.mem_range] at hi
  by_cases hv : i ∈ vars
  · rw [if_pos hv]
    obtain ⟨h1, h2⟩ := nt_idxOf hv
    have := h.1 _ h1
    rwa [h2] at this
  · rw [if_neg hv]
    exact h.2 i hi hv
def vldB (A vars : List Nat) (t : Tree) : Bool := (allV A.length vars).all fun x => mv A x t == full A.length
theorem vldB_yes {A vars : List Nat} {t : Tree} (h : ∀ x ∈ allV A.length vars, mv A x t = full A.length) : vldB A vars t = true := by
  unfold vldB
  rw [List.all_eq_true]
  intro x hx
  simp [h x hx]
theorem vldB_no {A vars : List Nat} {t : Tree} {x : List Nat} (hx : x ∈ allV A.length vars) (h : mv A x t ≠ full A.length) : vldB A vars t = false := by
  unfold vldB
  rw [List.all_eq_false]
  exact ⟨x, hx, by simp [h]⟩
end Go.Proofs.YtpfncncohnhanaaGreatDoor


/- The thirteen axioms and what they ask of a finite frame, plain: correspondence. No program is in sight. -/
namespace Go.Proofs.YtpfncncohnhanaaGreatDoor
open Fm (Tree)

section
variable {R : Nat → Nat → Prop} {n : Nat}
end
end Go.Proofs.YtpfncncohnhanaaGreatDoor


/- The properties of frames and the conditions of the axioms, plain. No program is in sight. -/
namespace Go.Proofs.YtpfncncohnhanaaGreatDoor
open Go.RowKit
open Fm (Tree)

def pairB (A : List Nat) (p : Nat → Nat → Nat → Bool) : Bool := allB A.length fun x => allB (mbs (nt A x)).length fun i => allB (mbs (nt A x)).length fun j => p x (nt (mbs (nt A x)) i) (nt (mbs (nt A x)) j)
theorem pairB_iff {A : List Nat} (hA : Rl A) {p : Nat → Nat → Nat → Bool} : pairB A p = true ↔ ∀ x y z, x < A.length → rl A x y → rl A x z → p x y z = true := by
  unfold pairB
  rw [allB_iff]
  constructor
  · intro h x y z hx hy hz
    have h1 := h x hx
    rw [allB_iff] at h1
    obtain ⟨i, hi, rfl⟩ := mem_nt ((mbs_mem (hA.sm.at_ hx)).2 hy)
    obtain ⟨j, hj, rfl⟩ := mem_nt ((mbs_mem (hA.sm.at_ hx)).2 hz)
    have h2 := h1 i hi
    rw [allB_iff] at h2
    exact h2 j hj
  · intro h x hx
    rw [allB_iff]
    intro i hi
    rw [allB_iff]
    intro j hj
    exact h x _ _ hx ((mbs_mem (hA.sm.at_ hx)).1 (nt_mem hi)) ((mbs_mem (hA.sm.at_ hx)).1 (nt_mem hj))
def serB (A : List Nat) : Bool := allB A.length fun x => !decide (nt A x = 0)
def symB (A : List Nat) : Bool := allB A.length fun x => allB A.length fun y => !(nt A x).testBit y || (nt A y).testBit x
def eucB (A : List Nat) : Bool := pairB A fun _ y z => (nt A y).testBit z
def dirB (A : List Nat) : Bool := pairB A fun _ y z => !decide (nt A y &&& nt A z = 0)
def conB (A : List Nat) : Bool := pairB A fun _ y z => (nt A y).testBit z || (nt A z).testBit y
def invN (A : List Nat) : Nat → Nat → Nat
  | 0, _ => 0
  | k + 1, y => if (nt A k).testBit y = true then invN A k y ||| 2 ^ k else invN A k y
def denB (A : List Nat) : Bool := pairB A fun x y _ => !decide (nt A x &&& invN A A.length y = 0)
def irrB (A : List Nat) : Bool := allB A.length fun x => !(nt A x).testBit x
def funB (A : List Nat) : Bool := allB A.length fun x => decide ((mbs (nt A x)).length ≤ 1)
def verB (A : List Nat) : Bool := allB A.length fun x => decide (nt A x = 0)
def triB (A : List Nat) : Bool := allB A.length fun x => decide (dif (nt A x) (2 ^ x) = 0)

theorem invN_bit (A : List Nat) (y x : Nat) : ∀ k, (invN A k y).testBit x = true ↔ x < k ∧ (nt A x).testBit y = true
  | 0 => by show (0 : Nat).testBit x = true ↔ _; simp
  | k + 1 => by
    have ih := invN_bit A y x k
    show (if (nt A k).testBit y = true then invN A k y ||| 2 ^ k else invN A k y).testBit x = true ↔ _
    split
    · rename_i h
      rw [Nat.testBit_or, Bool.or_eq_true, ih, Nat.testBit_two_pow, decide_eq_true_eq]
      constructor
      · rintro (⟨h1, h2⟩ | rfl)
        · exact ⟨by omega, h2⟩
        · exact ⟨by omega, h⟩
      · rintro ⟨h1, h2⟩
        by_cases hx : k = x
        · exact .inr hx
        · exact .inl ⟨by omega, h2⟩
    · rename_i h
      rw [ih]
      constructor
      · rintro ⟨h1, h2⟩; exact ⟨by omega, h2⟩
      · rintro ⟨h1, h2⟩
        by_cases hx : x = k
        · subst hx; exact absurd h2 h
        · exact ⟨by omega, h2⟩
theorem invN_lt (A : List Nat) (y : Nat) : ∀ k, invN A k y < 2 ^ k
  | 0 => by show 0 < _; omega
  | k + 1 => by
    have ih := invN_lt A y k
    have h2 : 2 ^ (k + 1) = 2 * 2 ^ k := by rw [Nat.pow_succ]; omega
    unfold invN
    split
    · exact or_n (by omega) (by omega)
    · omega
theorem zero_iff {m : Nat} : m = 0 ↔ ∀ z, m.testBit z = false := by
  constructor
  · rintro rfl z; simp
  · intro h
    apply Nat.eq_of_testBit_eq
    intro z
    rw [h z]; simp
theorem not_zero {m : Nat} : (!decide (m = 0)) = true ↔ ∃ z, m.testBit z = true := by
  rw [Bool.not_eq_true', decide_eq_false_iff_not, zero_iff]
  constructor
  · intro h
    apply Classical.byContradiction
    intro hn
    exact h fun z => by
      cases hb : m.testBit z with
      | false => rfl
      | true => exact absurd ⟨z, hb⟩ hn
  · rintro ⟨z, hz⟩ h
    rw [h z] at hz
    cases hz
theorem symB_iff {A : List Nat} (hA : Rl A) : symB A = true ↔ ∀ x y, x < A.length → rl A x y → rl A y x := by
  unfold symB rl
  rw [allB_iff]
  constructor
  · intro h x y hx hy
    have h1 := h x hx
    rw [allB_iff] at h1
    have h2 := h1 y (hA.bit hx hy)
    rw [hy] at h2
    simpa using h2
  · intro h x hx
    rw [allB_iff]
    intro y _
    cases hb : (nt A x).testBit y with
    | false => rfl
    | true => rw [h x y hx hb]; rfl
theorem eucB_iff {A : List Nat} (hA : Rl A) : eucB A = true ↔ ∀ x y z, x < A.length → rl A x y → rl A x z → rl A y z := pairB_iff hA
theorem denX {A : List Nat} (hA : Rl A) {x y : Nat} (hx : x < A.length) : (!decide (nt A x &&& invN A A.length y = 0)) = true ↔ ∃ z, rl A x z ∧ rl A z y := by
  rw [not_zero]
  constructor
  · rintro ⟨z, hz⟩
    rw [Nat.testBit_and, Bool.and_eq_true, invN_bit] at hz
    exact ⟨z, hz.1, hz.2.2⟩
  · rintro ⟨z, h1, h2⟩
    refine ⟨z, ?_⟩
    rw [Nat.testBit_and, Bool.and_eq_true, invN_bit]
    exact ⟨h1, hA.bit hx h1, h2⟩
theorem denB_iff {A : List Nat} (hA : Rl A) : denB A = true ↔ ∀ x y, x < A.length → rl A x y → ∃ z, rl A x z ∧ rl A z y := by
  unfold denB
  rw [pairB_iff hA]
  exact ⟨fun h x y hx hy => (denX hA hx).1 (h x y y hx hy hy), fun h x y z hx hy _ => (denX hA hx).2 (h x y hx hy)⟩
def axB (A : List Nat) : Nat → Bool
  | 0 => transB A
  | 1 => eucB A
  | 2 => symB A
  | 3 => denB A
  | 4 => serB A
  | 5 => funB A
  | 6 => dirB A
  | 7 => conB A
  | 8 => transB A && irrB A
  | 9 => reflB A
  | 10 => verB A
  | 11 => triB A
  | _ => reflB A && (transB A && antiB A)
end Go.Proofs.YtpfncncohnhanaaGreatDoor


/- The first place of a text in a list. -/
namespace Go.Proofs.YtpfncncohnhanaaGreatDoor
open Go.RowKit

def findS (L : List ByteArray) (s : ByteArray) : Int := match L.findIdx? (fun x => x.toList == s.toList) with
  | some i => i
  | none => -1
def NotIn (L : List ByteArray) (s : ByteArray) (k : Nat) : Prop := ∀ i, i < k → ((st L i).toList == s.toList) = false
theorem NotIn.zero (L : List ByteArray) (s : ByteArray) : NotIn L s 0 := fun i hi => absurd hi (by omega)
theorem NotIn.succ {L : List ByteArray} {s : ByteArray} {k : Nat} (h : NotIn L s k) (h1 : ((st L k).toList == s.toList) = false) : NotIn L s (k + 1) := by
  intro i hi
  rcases Nat.lt_or_ge i k with hk | hk
  · exact h i hk
  · obtain rfl : i = k := by omega
    exact h1
theorem findS_at {L : List ByteArray} {s : ByteArray} {k : Nat} (hk : k < L.length) (h : NotIn L s k) (h1 : ((st L k).toList == s.toList) = true) : findS L s = (k : Int) := by
  have : L.findIdx? (fun x => x.toList == s.toList) = some k := by
    rw [List.findIdx?_eq_some_iff_getElem]
    refine ⟨hk, by rw [st_get hk]; exact h1, fun j hj => ?_⟩
    rw [st_get (by omega)]
    simpa using h j hj
  rw [findS, this]
theorem findS_none {L : List ByteArray} {s : ByteArray} (h : NotIn L s L.length) : findS L s = -1 := by
  have : L.findIdx? (fun x => x.toList == s.toList) = none := by
    rw [List.findIdx?_eq_none_iff]
    intro x hx
    obtain ⟨i, hi, rfl⟩ := List.getElem_of_mem hx
    rw [st_get hi]
    exact h i hi
  rw [findS, this]
theorem findS_range (L : List ByteArray) (s : ByteArray) : findS L s = -1 ∨ ∃ k, k < L.length ∧ findS L s = (k : Int) := by
  unfold findS
  cases h : L.findIdx? (fun x => x.toList == s.toList) with
  | none => exact .inl rfl
  | some i =>
    rw [List.findIdx?_eq_some_iff_getElem] at h
    exact .inr ⟨i, h.1, rfl⟩

theorem l09Find_c (v : Value) (L : List ByteArray) (s : ByteArray) (w : World) (h : Strs w v L) (hn : L.length ≤ 1099511627776) :
    Calls Tryz.prog 27 #[v, .string s] w fun e w' => e = .returned (.int .i64 (findS L s)) ∧ Grew w w' := by
  rcases h.open_ with ⟨rfl, rfl⟩ | ⟨b, o, c, rfl, hc, hm, hb, hf⟩
  · have hE : findS [] s = -1 := rfl
    rw [hE]
    go_enter Tryz.func27, Tryz.ntmps27
    go_wp2_with fail
    refine wp_loop_rounds 1 ?_; rw [rounds_succ]
    go_wp2_with fail
    go_ret
    exact ⟨rfl, Grew.refl _⟩
  · clear h
    obtain ⟨R, hR⟩ : ∃ R, R = findS L s := ⟨_, rfl⟩
    rw [← hR]
    have HA := Lib.hid (fun k hk h1 h2 => hR.trans (@findS_at L s k hk h1 h2))
    have HZ := Lib.hid (fun h => hR.trans (@findS_none L s h))
    have HF := Lib.hid hf
    clear hR hf
    generalize hN : L.length = n at *
    clear hN
    go_enter Tryz.func27, Tryz.ntmps27
    go_wp2_with fail
    go_loopg [5] n (fun k i wr => ∃ j : Nat, j ≤ n ∧ k = n - j ∧ i = .int .i64 j ∧ Grew w wr ∧ Hid (NotIn L s j))
    case atStart => exact ⟨0, Nat.zero_le _, by omega, rfl, Grew.refl _, NotIn.zero _ _⟩
    case round =>
      obtain ⟨j, hj, rfl, rfl, hB, HJ⟩ := hrel
      by_cases hlt : j < n
      · have k1 : ∀ W, Grew w W → W.cell? ⟨b, o + j, none⟩ = some (.string (st L j)) := fun W hW => HF.out j hlt W hW
        cases he : ((st L j).toList == s.toList) with
        | true =>
          have hv := Lib.hid (HA.out j hlt HJ.out he)
          generalize st L j = x at *
          go_wp2_with fail
          go_ret
          rw [hv.out]
          exact ⟨rfl, hB⟩
        | false =>
          have HS := Lib.hid (HJ.out.succ he)
          generalize st L j = x at *
          go_wp2_with fail
          go_roundg (n - (j + 1))
          case measure => omega
          case rel => exact ⟨j + 1, by omega, rfl, by go_num, hB, HS⟩
      · have hjn : j = n := by omega
        subst hjn
        have hv := Lib.hid (HZ.out HJ.out)
        go_wp2_with fail
        go_ret
        rw [hv.out]
        exact ⟨rfl, hB⟩
end Go.Proofs.YtpfncncohnhanaaGreatDoor


/- What RefutingFrame answers (plain): the first small frame of a logic on which a formula is not valid. -/
namespace Go.Proofs.YtpfncncohnhanaaGreatDoor
open Go.RowKit
open Fm (Nd Tree)

def lgNames : List ByteArray := [⟨#[68]⟩, ⟨#[68, 52]⟩, ⟨#[71, 76]⟩, ⟨#[71, 114, 122]⟩, ⟨#[75]⟩, ⟨#[75, 52]⟩, ⟨#[75, 52, 53]⟩, ⟨#[75, 66]⟩, ⟨#[75, 68, 52, 53]⟩, ⟨#[83, 52]⟩, ⟨#[83, 52, 50]⟩, ⟨#[83, 52, 51]⟩, ⟨#[83, 53]⟩, ⟨#[84]⟩, ⟨#[84, 114, 105, 118]⟩, ⟨#[86, 101, 114]⟩]
theorem lgNames_len : lgNames.length = 16 := rfl
def lgAx (k : Nat) : List Nat := [[4], [0, 4], [8], [12], [], [0], [0, 1], [2], [0, 1, 4], [0, 9], [0, 6, 9], [0, 7, 9], [1, 9], [9], [9, 11], [10]].getD k []
theorem lgAx_lt {k : Nat} : ∀ i ∈ lgAx k, i < 13 := by
  by_cases hk : k < 16
  · have h : ((List.range 16).all fun k => (lgAx k).all fun i => decide (i < 13)) = true := by kernel_rfl
    intro i hi
    exact of_decide_eq_true (List.all_eq_true.1 (List.all_eq_true.1 h k (List.mem_range.2 hk)) i hi)
  · intro i hi
    unfold lgAx at hi
    rw [List.getD_eq_getElem?_getD, List.getElem?_eq_none (by simp; omega)] at hi
    cases hi
def lgB (k : Nat) (A : List Nat) : Bool := (lgAx k).all (axB A)
def rfgB (k : Nat) (t : Tree) (A : List Nat) : Bool := decide (0 < A.length) && (lgB k A && !vldB A (mbs (vm (Fm.enc t))) t)
theorem rfgB_no {k : Nat} {t : Tree} {A : List Nat} (h : lgB k A = false) : rfgB k t A = false := by unfold rfgB; rw [h]; simp
theorem rfgB_yes {k : Nat} {t : Tree} {A : List Nat} (h0 : 0 < A.length) (h : lgB k A = true) : rfgB k t A = !vldB A (mbs (vm (Fm.enc t))) t := by unfold rfgB; rw [h, decide_eq_true h0]; simp
theorem rfgB_nil {k : Nat} {t : Tree} {A : List Nat} (h0 : ¬ 0 < A.length) : rfgB k t A = false := by unfold rfgB; rw [decide_eq_false h0]; rfl
def firstG (k : Nat) (t : Tree) : List (List Nat) → Int × List Nat
  | [] => (4, [])
  | A :: r => if rfgB k t A = true then (0, A) else firstG k t r
theorem firstG_skip {k : Nat} {t : Tree} : ∀ {P : List (List Nat)} {Q : List (List Nat)}, (∀ A ∈ P, rfgB k t A = false) → firstG k t (P ++ Q) = firstG k t Q
  | [], _, _ => rfl
  | A :: P, Q, h => by
    show (if rfgB k t A = true then ((0 : Int), A) else firstG k t (P ++ Q)) = _
    rw [if_neg (by rw [h A (List.mem_cons_self ..)]; decide)]
    exact firstG_skip fun B hB => h B (List.mem_cons_of_mem _ hB)
theorem firstG_hit {k : Nat} {t : Tree} {A : List Nat} {P Q : List (List Nat)} (h : ∀ B ∈ P, rfgB k t B = false) (hA : rfgB k t A = true) : firstG k t (P ++ A :: Q) = (0, A) := by
  rw [firstG_skip h]
  show (if rfgB k t A = true then ((0 : Int), A) else firstG k t Q) = _
  rw [if_pos hA]
theorem firstG_none {k : Nat} {t : Tree} {P : List (List Nat)} (h : ∀ B ∈ P, rfgB k t B = false) : firstG k t P = (4, []) := by
  have := firstG_skip (Q := []) h
  rw [List.append_nil] at this
  exact this
open Classical in
noncomputable def rgF (s : ByteArray) (xs : List Nd) : Int × List Nat :=
  if fmB xs = false then (1, []) else if findS lgNames s < 0 then (4, []) else if 3 < (mbs (vm xs)).length then (3, []) else if h : ∃ t, xs = Fm.enc t then firstG (findS lgNames s).toNat (Classical.choose h) (sfrs 4) else (4, [])
theorem rgF_bad {s : ByteArray} {xs : List Nd} (h : fmB xs = false) : rgF s xs = (1, []) := by unfold rgF; rw [if_pos h]
theorem rgF_name {s : ByteArray} {xs : List Nd} (h : fmB xs = true) (h2 : findS lgNames s = -1) : rgF s xs = (4, []) := by unfold rgF; rw [if_neg (by rw [h]; decide), if_pos (by rw [h2]; decide)]
theorem rgF_many {s : ByteArray} {xs : List Nd} {k : Nat} (h : fmB xs = true) (h2 : findS lgNames s = (k : Int)) (h3 : 3 < (mbs (vm xs)).length) : rgF s xs = (3, []) := by unfold rgF; rw [if_neg (by rw [h]; decide), if_neg (by rw [h2]; omega), if_pos h3]
theorem rgF_go {s : ByteArray} {t : Tree} {k : Nat} (h : fmB (Fm.enc t) = true) (h2 : findS lgNames s = (k : Int)) (h3 : ¬ 3 < (mbs (vm (Fm.enc t))).length) : rgF s (Fm.enc t) = firstG k t (sfrs 4) := by
  unfold rgF
  rw [if_neg (by rw [h]; decide), if_neg (by rw [h2]; omega), if_neg h3, dif_pos ⟨t, rfl⟩]
  have hx : ∃ s, Fm.enc t = Fm.enc s := ⟨t, rfl⟩
  have e : Classical.choose hx = t := enc_inj (Classical.choose_spec hx).symm
  have hk : (findS lgNames s).toNat = k := by rw [h2]; rfl
  show firstG (findS lgNames s).toNat (Classical.choose hx) (sfrs 4) = _
  rw [e, hk]
end Go.Proofs.YtpfncncohnhanaaGreatDoor


/- everyPair of the program. -/
namespace Go.Proofs.YtpfncncohnhanaaGreatDoor
open Go.RowKit

def PredP (w : World) (f : Nat) (caps : Array Value) (n : Nat) (p : Nat → Nat → Nat → Bool) : Prop := ∀ x y z W, x < n → y < n → z < n → Grew w W → Calls Tryz.prog f (#[.int .i64 (x : Int), .int .i64 (y : Int), .int .i64 (z : Int)] ++ caps) W fun e W' => e = .returned (.bool (p x y z)) ∧ Grew W W'
set_option maxHeartbeats 1000000 in
theorem everyPair_c (v : Value) (A : List Nat) (f : Nat) (caps : Array Value) (p : Nat → Nat → Nat → Bool) (w : World) (h : Ints w v (zs A)) (hA : Rl A) (hf : PredP (w.alloc (.cells #[.int .i64 (A.length : Int), v] 26)) f caps A.length p) (eg : ∀ args w, (callFunc f args).run Tryz.prog w = .ok (.enter f args) w) :
    Calls Tryz.prog 186 #[.agg #[.int .i64 (A.length : Int), v], .func (.func f) #[] caps] w fun e w' => e = .returned (.bool (pairB A p)) ∧ Grew w w' := by
  have hn30 := hA.1
  obtain ⟨A1, c1, rfl⟩ := ints_sliceN h
  obtain ⟨R, hR⟩ : ∃ R, R = pairB A p := ⟨_, rfl⟩
  rw [← hR]
  unfold pairB at hR
  have HA := Lib.hid (fun k hk h => hR.trans (@allB_no A.length (fun x => allB (mbs (nt A x)).length fun i => allB (mbs (nt A x)).length fun j => p x (nt (mbs (nt A x)) i) (nt (mbs (nt A x)) j)) k hk h))
  have HZ := Lib.hid (fun h => hR.trans (@allB_of A.length (fun x => allB (mbs (nt A x)).length fun i => allB (mbs (nt A x)).length fun j => p x (nt (mbs (nt A x)) i) (nt (mbs (nt A x)) j)) h))
  have HF := Lib.hid hf
  have hal := (Grew.refl w).alloc (.cells #[.int .i64 (A.length : Int), .slice A1 A.length c1] 26)
  have HC := Lib.hid (fun h0 => cellsN (h.grew hal) h0)
  have HM := Lib.hid (fun i (hi : i < A.length) => membersOf_c (nt A i) (hA.sm.at_ hi))
  have HLT := Lib.hid (fun i (hi : i < A.length) k (hk : k < (mbs (nt A i)).length) => mbs_lt (hA.lt hi) (nt_mem hk))
  have HL30 := Lib.hid mbs_len
  obtain ⟨w0, hw0⟩ : ∃ w0, w0 = w.alloc (.cells #[.int .i64 (A.length : Int), .slice A1 A.length c1] 26) := ⟨_, rfl⟩
  rw [← hw0] at HF HC hal
  have HG := Lib.hid hal
  clear h hA hf hR hal
  generalize A.length = n at *
  go_enter Tryz.func186, Tryz.ntmps186
  go_wp2_with fail
  simp only [← hw0]
  clear hw0
  go_loopw [5, 6, 8, 10, 14, 22, 29] (fun _ _ _ _ i _ _ wr => ∃ j : Nat, j ≤ n ∧ i = .int .i64 j ∧ Grew w0 wr ∧ Hid (AllK (fun x => allB (mbs (nt A x)).length fun i => allB (mbs (nt A x)).length fun j => p x (nt (mbs (nt A x)) i) (nt (mbs (nt A x)) j)) j)) (fun _ _ _ _ i _ _ _ => n - (intOf i).toNat)
  case atStart => exact ⟨0, Nat.zero_le _, rfl, Grew.refl _, AllK.zero _⟩
  case round =>
    obtain ⟨x, hx, rfl, hB, HJ⟩ := hrel
    by_cases hlt : x < n
    · obtain ⟨b, o, rfl, hcell⟩ := HC.out (by omega)
      have k1 := hcell x hlt _ hB
      have hA1 := Lib.hid (HA.out x hlt)
      have hS1 := Lib.hid (fun h => HJ.out.succ (k := x) h)
      have hM := Lib.hid (HM.out x hlt)
      have hLT := Lib.hid (HLT.out x hlt)
      have hl30 := HL30.out (nt A x)
      have hF := Lib.hid (fun y z W hy hz hW => HF.out x y z W hlt hy hz hW)
      clear hcell
      generalize nt A x = m at *
      generalize hL : mbs m = L at *
      clear hL
      go_wp2_with fail
      refine (hM.out _).mono ?_
      rintro e w1 ⟨v1, rfl, hO1, hg1⟩
      obtain ⟨A2, c2, rfl⟩ := ints_sliceN hO1.ints
      have HD := Lib.hid (fun h0 => cellsN hO1.ints h0)
      have hB1 := hB.trans hg1
      clear hO1 k1
      go_wp2_with fail
      go_loopw [8, 10, 22, 29] (fun _ _ i _ wy => ∃ j : Nat, j ≤ L.length ∧ i = .int .i64 j ∧ Grew w1 wy ∧ Hid (AllK (fun i => allB L.length fun j => p x (nt L i) (nt L j)) j)) (fun _ _ i _ _ => L.length - (intOf i).toNat)
      case atStart => exact ⟨0, Nat.zero_le _, rfl, Grew.refl _, AllK.zero _⟩
      case round =>
        obtain ⟨y, hy, rfl, hY, HY⟩ := hrel
        by_cases hly : y < L.length
        · obtain ⟨b2, o2, rfl, hcell2⟩ := HD.out (by omega)
          have k2 := hcell2 y hly _ hY
          have hA2 := Lib.hid (fun h => hA1.out (@allB_no L.length (fun i => allB L.length fun j => p x (nt L i) (nt L j)) y hly h))
          have hS2 := Lib.hid (fun h => HY.out.succ (k := y) h)
          have hyn := hLT.out y hly
          have hF2 := Lib.hid (fun z W hz hW => hF.out (nt L y) z W hyn hz hW)
          clear hcell2
          generalize nt L y = ly at *
          go_wp2_with fail
          refine (hM.out _).mono ?_
          rintro e w2 ⟨v2, rfl, hO2, hg2⟩
          obtain ⟨A3, c3, rfl⟩ := ints_sliceN hO2.ints
          have HE := Lib.hid (fun h0 => cellsN hO2.ints h0)
          have hY2 := hY.trans hg2
          clear hO2 k2
          go_wp2_with fail
          go_loopw [10, 29] (fun _ i wz => ∃ j : Nat, j ≤ L.length ∧ i = .int .i64 j ∧ Grew w2 wz ∧ Hid (AllK (fun j => p x ly (nt L j)) j)) (fun _ i _ => L.length - (intOf i).toNat)
          case atStart => exact ⟨0, Nat.zero_le _, rfl, Grew.refl _, AllK.zero _⟩
          case round =>
            obtain ⟨z, hz, rfl, hZ, HZ3⟩ := hrel
            by_cases hlz : z < L.length
            · obtain ⟨b3, o3, rfl, hcell3⟩ := HE.out (by omega)
              have k3 := hcell3 z hlz _ hZ
              have hA3 := Lib.hid (fun h => hA2.out (@allB_no L.length (fun j => p x ly (nt L j)) z hlz h))
              have hS3 := Lib.hid (fun h => HZ3.out.succ (k := z) h)
              have hzn := hLT.out z hlz
              have hB3 := (hB1.trans hY2).trans hZ
              have hF3 := Lib.hid (hF2.out (nt L z) _ hzn hB3)
              clear hcell3
              generalize nt L z = lz at *
              go_wp2_with fail
              refine (hF3.out).mono ?_
              rintro e w3 ⟨rfl, hg3⟩
              have hZ3 := hZ.trans hg3
              have hB4 := hB3.trans hg3
              cases hp : p x ly lz with
              | true =>
                have hs := Lib.hid (hS3.out hp)
                go_wp2_with fail
                go_roundw
                case rel => exact ⟨z + 1, by omega, by go_num, hZ3, hs⟩
                case measure => simp [intOf]; omega
              | false =>
                have hv := Lib.hid (hA3.out hp)
                go_wp2_with fail
                go_ret
                exact ⟨by rw [hv.out]; rfl, HG.out.trans hB4⟩
            · obtain rfl : z = L.length := by omega
              have hs := Lib.hid (hS2.out (allB_of HZ3.out))
              have hYZ := hY2.trans hZ
              go_wp2_with fail
              go_roundw
              case rel => exact ⟨y + 1, by omega, by go_num, hYZ, hs⟩
              case measure => simp [intOf]; omega
        · obtain rfl : y = L.length := by omega
          have hs := Lib.hid (hS1.out (allB_of HY.out))
          have hBY := hB1.trans hY
          go_wp2_with fail
          go_roundw
          case rel => exact ⟨x + 1, by omega, by go_num, hBY, hs⟩
          case measure => simp [intOf]; omega
    · obtain rfl : x = n := by omega
      have hv := Lib.hid (HZ.out HJ.out)
      go_wp2_with fail
      go_ret
      exact ⟨by rw [hv.out]; rfl, HG.out.trans hB⟩
end Go.Proofs.YtpfncncohnhanaaGreatDoor


/- Counting members: OnesCount64, countMembers of the program, l01Bits of the reference. -/
namespace Go.Proofs.YtpfncncohnhanaaGreatDoor
open Go.RowKit

def oc1 (m : Int) : Int := IntKind.u64.wrap (bits .and .u64 (m / 2) 6148914691236517205 + bits .and .u64 m 6148914691236517205)
def oc2 (m : Int) : Int := IntKind.u64.wrap (bits .and .u64 (m / 4) 3689348814741910323 + bits .and .u64 m 3689348814741910323)
def oc3 (m : Int) : Int := bits .and .u64 (IntKind.u64.wrap (m / 16 + m)) 1085102592571150095
def oc4 (m : Int) : Int := IntKind.u64.wrap (m + m / 256)
def oc5 (m : Int) : Int := IntKind.u64.wrap (m + m / 65536)
def oc6 (m : Int) : Int := IntKind.u64.wrap (m + m / 4294967296)
def ocA (m : Nat) : Int := oc6 (oc5 (oc4 (oc3 (oc2 (oc1 (m : Int))))))
theorem oc_all : (List.range 256).all (fun m => decide (bits .and .i64 (wrap64 (ocA m)) 127 = ((mbs m).length : Int)) && decide (bits .and .i64 (ocA m) 127 = ((mbs m).length : Int))) = true := by kernel_rfl
theorem oc_at {m : Nat} (hm : m < 256) : bits .and .i64 (wrap64 (ocA m)) 127 = ((mbs m).length : Int) ∧ bits .and .i64 (ocA m) 127 = ((mbs m).length : Int) := by
  have := List.all_eq_true.1 oc_all m (List.mem_range.2 hm)
  simpa using this
theorem ones_c (m : Nat) (hm : m < 256) (w : World) :
    Calls Tryz.prog 211 #[.int .u64 (m : Int)] w fun e w' => e = .returned (.int .i64 ((mbs m).length : Int)) ∧ w' = w := by
  obtain ⟨h1, h2⟩ := oc_at hm
  have H := Lib.hid (And.intro h1 h2)
  clear h1 h2
  go_enter Tryz.func211, Tryz.ntmps211
  go_wp2_with fail
  go_ret
  refine ⟨?_, rfl⟩
  first
    | exact congrArg (fun x => Ending.returned (.int .i64 x)) H.out.1
    | exact congrArg (fun x => Ending.returned (.int .i64 x)) H.out.2
theorem countMembers_c (m : Nat) (hm : m < 256) (w : World) :
    Calls Tryz.prog 194 #[.int .i64 (m : Int)] w fun e w' => e = .returned (.int .i64 ((mbs m).length : Int)) ∧ w' = w := by
  have H := Lib.hid (ones_c m hm)
  go_enter Tryz.func194, Tryz.ntmps194
  go_wp2_with fail
  refine (H.out _).mono ?_
  rintro e w1 ⟨rfl, rfl⟩
  go_wp2_with fail
  go_ret
  exact ⟨rfl, rfl⟩
theorem mb_succ_len (m k : Nat) : (mb m (k + 1)).length = (mb m k).length + m / 2 ^ k % 2 := by
  have hb : m.testBit k = decide (m / 2 ^ k % 2 = 1) := by rw [Nat.testBit_eq_decide_div_mod_eq]
  cases h : m.testBit k with
  | true =>
    rw [mb_yes h, List.length_append, List.length_singleton]
    rw [h] at hb
    have := of_decide_eq_true hb.symm
    omega
  | false =>
    rw [mb_no h]
    rw [h] at hb
    have := of_decide_eq_false hb.symm
    have h2 := Nat.mod_two_eq_zero_or_one (m / 2 ^ k)
    omega
theorem l01Bits_c (m : Nat) (hm : m < 1073741824) (w : World) :
    Calls Tryz.prog 141 #[.int .i64 (m : Int)] w fun e w' => e = .returned (.int .i64 ((mbs m).length : Int)) ∧ w' = w := by
  have HS := Lib.hid (mb_succ_len m)
  have HT := Lib.hid (fun k (hk : k ≤ 30) h => @mbs_of m k hm h hk)
  have HD := Lib.hid (fun k => show m / 2 ^ (k + 1) = m / 2 ^ k / 2 from by rw [Nat.pow_succ, Nat.div_div_eq_div_mul])
  have HLE := Lib.hid (fun k (hk : 30 ≤ k) => show m / 2 ^ k = 0 from Nat.div_eq_of_lt (Nat.lt_of_lt_of_le (show m < 2 ^ 30 by omega) (Nat.pow_le_pow_right (by omega) hk)))
  have HB := Lib.hid (fun k => mb_len m k)
  have H0 : Hid (m / 2 ^ 0 = m) := Lib.hid (by rw [Nat.pow_zero, Nat.div_one])
  have HDL := Lib.hid (fun k => Nat.div_le_self m (2 ^ k))
  go_enter Tryz.func141, Tryz.ntmps141
  go_wp2_with fail
  go_loopw [0, 3] (fun x q wr => ∃ k : Nat, k ≤ 30 ∧ x = .int .i64 ((m / 2 ^ k : Nat) : Int) ∧ q = .int .i64 ((mb m k).length : Int) ∧ wr = w) (fun x _ _ => (intOf x).toNat)
  case atStart => exact ⟨0, by omega, by rw [H0.out], rfl, rfl⟩
  case round =>
    obtain ⟨k, hk, rfl, rfl, rfl⟩ := hrel
    have hs := HS.out k
    have hd := HD.out k
    have hdl := HDL.out k
    have hb := HB.out k
    have hle := HLE.out k
    have ht := Lib.hid (HT.out k hk)
    generalize hY : m / 2 ^ k = Y at *
    by_cases h0 : Y = 0
    · have hr := Lib.hid (ht.out h0)
      have hn : ¬ (0 : Int) < (Y : Int) := by omega
      clear hs hd hle hdl hY
      go_wp2_with fail
      go_ret
      exact ⟨by rw [← hr.out]; rfl, rfl⟩
    · have hp : (0 : Int) < (Y : Int) := by omega
      have hk30 : k < 30 := by
        apply Classical.byContradiction
        intro hc
        exact h0 (hle (by omega))
      have e1 : (Y : Int).tmod 2 = ((Y % 2 : Nat) : Int) := by rw [Int.tmod_eq_emod_of_nonneg (by omega)]; omega
      have hm2 : Y % 2 < 2 := Nat.mod_lt _ (by omega)
      have hy2 : Y / 2 < Y := by omega
      generalize Y % 2 = r2 at *
      have e3 : (Y : Int) / 2 = ((Y / 2 : Nat) : Int) := by omega
      have HSD := Lib.hid (And.intro hs hd)
      clear hs hd hY
      generalize Y / 2 = y2 at *
      have hlen : (mb m k).length ≤ 30 := by omega
      clear hle
      go_wp2_with fail
      go_roundw
      case rel => exact ⟨k + 1, by omega, by rw [HSD.out.2], by rw [HSD.out.1]; rfl, trivial⟩
      case measure => simp only [intOf]; omega
end Go.Proofs.YtpfncncohnhanaaGreatDoor


/- hasFlag of the program: serial, symmetric, Euclidean, directed, connected, acyclic (transitive frames), dense, functional. -/
namespace Go.Proofs.YtpfncncohnhanaaGreatDoor
open Go.RowKit

theorem inv_eq {A : List Nat} {f : Nat → Nat} (h : Bk (nt A) A.length A.length 0 f) {y : Nat} (hy : y < A.length) : f y = invN A A.length y := by
  apply Nat.eq_of_testBit_eq
  intro x
  rw [Bool.eq_iff_iff, h.bit hy x, invN_bit]
theorem sym_eq {A : List Nat} (hA : Rl A) {f : Nat → Nat} (h : Bk (nt A) A.length A.length 0 f) : decide (zs ((List.range A.length).map f) = zs A) = symB A := by
  rw [Bool.eq_iff_iff, decide_eq_true_eq, symB_iff hA]
  have hL : (List.range A.length).map f = A ↔ ∀ x, x < A.length → f x = nt A x := by
    constructor
    · intro he x hx
      have := congrArg (fun L => nt L x) he
      simpa [nt, List.getD, hx] using this
    · intro he
      apply List.ext_getElem (by simp)
      intro x h1 h2
      rw [nt_get h2]
      simpa using he x h2
  constructor
  · intro he x y hx hy
    have hf := hL.1 (zs_inj he)
    have hyn := hA.bit hx hy
    unfold rl
    rw [← hf y hyn, h.bit hyn x]
    exact ⟨hx, hy⟩
  · intro hs
    refine congrArg zs (hL.2 fun y hy => ?_)
    apply Nat.eq_of_testBit_eq
    intro x
    rw [Bool.eq_iff_iff, h.bit hy x]
    exact ⟨fun ⟨hx, hb⟩ => hs x y hx hb, fun hb => ⟨hA.bit hy hb, hs y x hy hb⟩⟩
theorem ne_zero_b (m : Nat) : (((m : Nat) : Int) != 0) = !decide (m = 0) := by
  rw [Bool.eq_iff_iff]
  simp
theorem le_one_b (k : Nat) : decide (((k : Nat) : Int) ≤ 1) = decide (k ≤ 1) := by
  rw [Bool.eq_iff_iff, decide_eq_true_eq, decide_eq_true_eq]
  omega
theorem ser_k (v : Value) (A : List Nat) (bf : Nat) (w : World) (h : Ints w v (zs A)) (hA : Rl A) (k0 : ∀ W, Grew w W → W.cell? ⟨bf, 0, none⟩ = some (.int .i64 (A.length : Int))) (k1 : ∀ W, Grew w W → W.cell? ⟨bf, 1, none⟩ = some v) :
    PredW w 184 #[.pointer (some ⟨bf, 0, none⟩)] A.length (fun x => !decide (nt A x = 0)) := by
  intro x W hx hW
  have y1 := k1 W hW
  have hb := ne_zero_b (nt A x)
  show Calls Tryz.prog 184 #[.int .i64 (x : Int), .pointer (some ⟨bf, 0, none⟩)] W fun e W' => e = .returned (.bool (!decide (nt A x = 0))) ∧ Grew W W'
  obtain ⟨A', c, rfl⟩ := ints_sliceN h
  obtain ⟨b, o, rfl, hc1⟩ := cellsN h (by omega)
  have z1 := hc1 x hx W hW
  clear h k0 k1 hA hc1
  generalize (!decide (nt A x = 0)) = t at *
  generalize nt A x = m at *
  generalize A.length = n at *
  go_enter Tryz.func184, Tryz.ntmps184
  go_wp2_with fail
  go_ret
  exact ⟨by first | rfl | rw [hb], Grew.refl _⟩
theorem fun_k (v : Value) (A : List Nat) (bf : Nat) (w : World) (h : Ints w v (zs A)) (hA : Rl A) (h8 : A.length ≤ 8) (k0 : ∀ W, Grew w W → W.cell? ⟨bf, 0, none⟩ = some (.int .i64 (A.length : Int))) (k1 : ∀ W, Grew w W → W.cell? ⟨bf, 1, none⟩ = some v) :
    PredW w 193 #[.pointer (some ⟨bf, 0, none⟩)] A.length (fun x => decide ((mbs (nt A x)).length ≤ 1)) := by
  intro x W hx hW
  have y1 := k1 W hW
  have hlt : nt A x < 256 := Nat.lt_of_lt_of_le (hA.lt hx) (Nat.le_trans (Nat.pow_le_pow_right (by omega) h8) (by decide))
  have KC := Lib.hid (countMembers_c (nt A x) hlt)
  have hb := le_one_b (mbs (nt A x)).length
  show Calls Tryz.prog 193 #[.int .i64 (x : Int), .pointer (some ⟨bf, 0, none⟩)] W fun e W' => e = .returned (.bool (decide ((mbs (nt A x)).length ≤ 1))) ∧ Grew W W'
  obtain ⟨A', c, rfl⟩ := ints_sliceN h
  obtain ⟨b, o, rfl, hc1⟩ := cellsN h (by omega)
  have z1 := hc1 x hx W hW
  clear h k0 k1 hA hc1 hlt
  generalize (mbs (nt A x)).length = k at *
  generalize nt A x = m at *
  generalize A.length = n at *
  go_enter Tryz.func193, Tryz.ntmps193
  go_wp2_with fail
  refine (KC.out _).mono ?_
  rintro e w1 ⟨rfl, hw1⟩
  rw [hw1]
  clear hw1
  go_wp2_with fail
  go_ret
  exact ⟨by first | rfl | rw [← hb], Grew.refl _⟩
theorem irr_k (u : Value) (A : List Nat) (f : Nat → Nat) (br : Nat) (w : World) (hA : Rl A) (hu : Ints w u (zs ((List.range A.length).map f))) (hf : ∀ x, x < A.length → f x = nt A x)
    (k0 : ∀ W, Grew w W → W.cell? ⟨br, 0, none⟩ = some u) :
    PredW w 190 #[.pointer (some ⟨br, 0, none⟩)] A.length (fun x => !(nt A x).testBit x) := by
  intro x W hx hW
  have y0 := k0 W hW
  have hn := hA.1
  have KH := Lib.hid (has_q (nt A x) x (by have := hA.sm.at_ hx; omega) (by omega))
  have hlm : ((List.range A.length).map f).length = A.length := by simp
  have hfx : nt ((List.range A.length).map f) x = nt A x := by rw [← hf x hx]; simp [nt, List.getD, hx]
  show Calls Tryz.prog 190 #[.int .i64 (x : Int), .pointer (some ⟨br, 0, none⟩)] W fun e W' => e = .returned (.bool (!(nt A x).testBit x)) ∧ Grew W W'
  obtain ⟨A', c, rfl⟩ := ints_sliceN hu
  obtain ⟨b, o, rfl, hc1⟩ := cellsN hu (by omega)
  have z1 := hc1 x (by omega) W hW
  rw [hfx] at z1
  rw [hlm] at y0
  clear hu k0 hA hc1 hf hfx hlm
  generalize (nt A x).testBit x = t at *
  generalize nt A x = m at *
  generalize A.length = n at *
  go_enter Tryz.func190, Tryz.ntmps190
  go_wp2_with fail
  refine (KH.out _).mono ?_
  rintro e w1 ⟨rfl, hw1⟩
  rw [hw1]
  clear hw1
  go_wp2_with fail
  go_ret
  exact ⟨rfl, Grew.refl _⟩
theorem euc_k (v : Value) (A : List Nat) (bf : Nat) (w : World) (h : Ints w v (zs A)) (hA : Rl A) (k0 : ∀ W, Grew w W → W.cell? ⟨bf, 0, none⟩ = some (.int .i64 (A.length : Int))) (k1 : ∀ W, Grew w W → W.cell? ⟨bf, 1, none⟩ = some v) :
    PredP w 187 #[.pointer (some ⟨bf, 0, none⟩)] A.length (fun _ y z => (nt A y).testBit z) := by
  intro x y z W hx hy hz hW
  have y0 := k0 W hW
  have y1 := k1 W hW
  have hn := hA.1
  have KS := Lib.hid (sees_c A.length v A y z W (h.grew hW) hA.sm hy hn (by omega))
  show Calls Tryz.prog 187 #[.int .i64 (x : Int), .int .i64 (y : Int), .int .i64 (z : Int), .pointer (some ⟨bf, 0, none⟩)] W fun e W' => e = .returned (.bool ((nt A y).testBit z)) ∧ Grew W W'
  obtain ⟨A', c, rfl⟩ := ints_sliceN h
  clear h k0 k1 hA
  generalize (nt A y).testBit z = t at *
  generalize A.length = n at *
  go_enter Tryz.func187, Tryz.ntmps187
  go_wp2_with fail
  refine (KS.out).mono ?_
  rintro e w1 ⟨rfl, hg1⟩
  go_wp2_with fail
  go_ret
  exact ⟨rfl, hg1⟩
theorem con_k (v : Value) (A : List Nat) (bf : Nat) (w : World) (h : Ints w v (zs A)) (hA : Rl A) (k0 : ∀ W, Grew w W → W.cell? ⟨bf, 0, none⟩ = some (.int .i64 (A.length : Int))) (k1 : ∀ W, Grew w W → W.cell? ⟨bf, 1, none⟩ = some v) :
    PredP w 189 #[.pointer (some ⟨bf, 0, none⟩)] A.length (fun _ y z => (nt A y).testBit z || (nt A z).testBit y) := by
  intro x y z W hx hy hz hW
  have y0 := k0 W hW
  have y1 := k1 W hW
  have x0 := fun V (hV : Grew W V) => k0 V (hW.trans hV)
  have x1 := fun V (hV : Grew W V) => k1 V (hW.trans hV)
  have hn := hA.1
  have KS := Lib.hid (sees_c A.length v A y z W (h.grew hW) hA.sm hy hn (by omega))
  have KT := Lib.hid (fun V (hV : Grew W V) => sees_c A.length v A z y V (h.grew (hW.trans hV)) hA.sm hz hn (by omega))
  show Calls Tryz.prog 189 #[.int .i64 (x : Int), .int .i64 (y : Int), .int .i64 (z : Int), .pointer (some ⟨bf, 0, none⟩)] W fun e W' => e = .returned (.bool ((nt A y).testBit z || (nt A z).testBit y)) ∧ Grew W W'
  obtain ⟨A', c, rfl⟩ := ints_sliceN h
  clear h k0 k1 hA
  generalize (nt A z).testBit y = s at *
  generalize (nt A y).testBit z = t at *
  generalize A.length = n at *
  cases t with
  | true =>
    go_enter Tryz.func189, Tryz.ntmps189
    go_wp2_with fail
    refine (KS.out).mono ?_
    rintro e w1 ⟨rfl, hg1⟩
    go_wp2_with fail
    go_ret
    exact ⟨rfl, hg1⟩
  | false =>
    go_enter Tryz.func189, Tryz.ntmps189
    go_wp2_with fail
    refine (KS.out).mono ?_
    rintro e w1 ⟨rfl, hg1⟩
    have d0 := x0 w1 hg1
    have d1 := x1 w1 hg1
    go_wp2_with fail
    refine (KT.out _ hg1).mono ?_
    rintro e w2 ⟨rfl, hg2⟩
    go_wp2_with fail
    go_ret
    exact ⟨rfl, hg1.trans hg2⟩
theorem dir_k (v : Value) (A : List Nat) (bf : Nat) (w : World) (h : Ints w v (zs A)) (hA : Rl A) (k0 : ∀ W, Grew w W → W.cell? ⟨bf, 0, none⟩ = some (.int .i64 (A.length : Int))) (k1 : ∀ W, Grew w W → W.cell? ⟨bf, 1, none⟩ = some v) :
    PredP w 188 #[.pointer (some ⟨bf, 0, none⟩)] A.length (fun _ y z => !decide (nt A y &&& nt A z = 0)) := by
  intro x y z W hx hy hz hW
  have y0 := fun V (hV : Grew W V) => k0 V (hW.trans hV)
  have y1 := fun V (hV : Grew W V) => k1 V (hW.trans hV)
  have hb := ne_zero_b (nt A y &&& nt A z)
  have ha := and_i64 (nt A y) (nt A z) (by have := hA.sm.at_ hy; omega) (by have := hA.sm.at_ hz; omega)
  show Calls Tryz.prog 188 #[.int .i64 (x : Int), .int .i64 (y : Int), .int .i64 (z : Int), .pointer (some ⟨bf, 0, none⟩)] W fun e W' => e = .returned (.bool (!decide (nt A y &&& nt A z = 0))) ∧ Grew W W'
  rw [← hb]
  obtain ⟨A', c, rfl⟩ := ints_sliceN h
  obtain ⟨b, o, rfl, hc1⟩ := cellsN h (by omega)
  have z1 := fun V (hV : Grew W V) => hc1 y hy V (hW.trans hV)
  have z2 := fun V (hV : Grew W V) => hc1 z hz V (hW.trans hV)
  clear h k0 k1 hA hc1 hb
  generalize nt A y &&& nt A z = m at *
  generalize nt A y = p1 at *
  generalize nt A z = p2 at *
  generalize A.length = n at *
  have hi0 : (0 : Int) ≤ (y : Int) := by omega
  have hi6 : (y : Int) < (n : Int) := by omega
  have hj0 : (0 : Int) ≤ (z : Int) := by omega
  have hj6 : (z : Int) < (n : Int) := by omega
  have hr1 := Grew.refl W
  have hd1 := (Grew.refl W).drew
  go_enter Tryz.func188, Tryz.ntmps188
  go_wp2_with fail
  go_quiet (fail)
  go_wp2_with fail
  go_ret
  exact ⟨rfl, (Grew.refl _).drewN _⟩
theorem den_k (v u : Value) (A : List Nat) (f : Nat → Nat) (bf bb : Nat) (w : World) (h : Ints w v (zs A)) (hA : Rl A) (hu : Ints w u (zs ((List.range A.length).map f))) (hf : ∀ y, y < A.length → f y = invN A A.length y)
    (k0 : ∀ W, Grew w W → W.cell? ⟨bf, 0, none⟩ = some (.int .i64 (A.length : Int))) (k1 : ∀ W, Grew w W → W.cell? ⟨bf, 1, none⟩ = some v) (k2 : ∀ W, Grew w W → W.cell? ⟨bb, 0, none⟩ = some u) :
    PredP w 192 #[.pointer (some ⟨bf, 0, none⟩), .pointer (some ⟨bb, 0, none⟩)] A.length (fun x y _ => !decide (nt A x &&& invN A A.length y = 0)) := by
  intro x y z W hx hy hz hW
  have y0 := fun V (hV : Grew W V) => k0 V (hW.trans hV)
  have y1 := fun V (hV : Grew W V) => k1 V (hW.trans hV)
  have y2 := fun V (hV : Grew W V) => k2 V (hW.trans hV)
  have hil := Nat.lt_of_lt_of_le (invN_lt A y A.length) (pow30' hA.1)
  have hb := ne_zero_b (nt A x &&& invN A A.length y)
  have ha := and_i64 (nt A x) (invN A A.length y) (by have := hA.sm.at_ hx; omega) (by omega)
  have hlm : ((List.range A.length).map f).length = A.length := by simp
  have hfx : nt ((List.range A.length).map f) y = invN A A.length y := by rw [← hf y hy]; simp [nt, List.getD, hy]
  show Calls Tryz.prog 192 #[.int .i64 (x : Int), .int .i64 (y : Int), .int .i64 (z : Int), .pointer (some ⟨bf, 0, none⟩), .pointer (some ⟨bb, 0, none⟩)] W fun e W' => e = .returned (.bool (!decide (nt A x &&& invN A A.length y = 0))) ∧ Grew W W'
  rw [← hb]
  obtain ⟨A', c, rfl⟩ := ints_sliceN h
  obtain ⟨A2, c2, rfl⟩ := ints_sliceN hu
  obtain ⟨b, o, rfl, hc1⟩ := cellsN h (by omega)
  obtain ⟨b2, o2, rfl, hc2⟩ := cellsN hu (by omega)
  have z1 := fun V (hV : Grew W V) => hc1 x hx V (hW.trans hV)
  have z2 := fun V (hV : Grew W V) => hc2 y (by omega) V (hW.trans hV)
  rw [hfx] at z2
  rw [hlm] at y2
  clear h hu k0 k1 k2 hA hc1 hc2 hb hf hfx hlm hil
  generalize nt A x &&& invN A A.length y = m at *
  generalize invN A A.length y = p2 at *
  generalize nt A x = p1 at *
  generalize A.length = n at *
  have hi0 : (0 : Int) ≤ (x : Int) := by omega
  have hi6 : (x : Int) < (n : Int) := by omega
  have hj0 : (0 : Int) ≤ (y : Int) := by omega
  have hj6 : (y : Int) < (n : Int) := by omega
  have hr1 := Grew.refl W
  have hd1 := (Grew.refl W).drew
  go_enter Tryz.func192, Tryz.ntmps192
  go_wp2_with fail
  go_quiet (fail)
  go_wp2_with fail
  go_ret
  exact ⟨rfl, (Grew.refl _).drewN _⟩
theorem hasFlag1_c (v : Value) (A : List Nat) (w : World) (h : Ints w v (zs A)) (hA : Rl A) :
    Calls Tryz.prog 168 #[.agg #[.int .i64 (A.length : Int), v], .int .i64 1] w fun e w' => e = .returned (.bool (serB A)) ∧ Grew w w' := by
  have hal := (Grew.refl w).alloc (.cells #[.int .i64 (A.length : Int), v] 26)
  have HI := Lib.hid (inverse_c v A _ (h.grew hal) hA)
  have HG := Lib.hid hal
  have eg := enters_of Tryz.func184 (by kernel_rfl) rfl
  have y0 : ∀ W, Grew (w.alloc (.cells #[.int .i64 (A.length : Int), v] 26)) W → W.cell? ⟨w.heap.size, 0, none⟩ = some (.int .i64 (A.length : Int)) := fun W hW => (hW.cell (p := ⟨w.heap.size, 0, none⟩) (by simp)).trans (by simp)
  have y1 : ∀ W, Grew (w.alloc (.cells #[.int .i64 (A.length : Int), v] 26)) W → W.cell? ⟨w.heap.size, 1, none⟩ = some v := fun W hW => (hW.cell (p := ⟨w.heap.size, 1, none⟩) (by simp)).trans (by simp)
  have KE := Lib.hid (fun W (hW : Grew (w.alloc (.cells #[.int .i64 (A.length : Int), v] 26)) W) => everyWorld_c v A.length 184 #[.pointer (some ⟨w.heap.size, 0, none⟩)] _ W hA.1 (by obtain ⟨A', c, e⟩ := ints_slice h; exact ⟨_, _, _, e⟩) (ser_k v A w.heap.size _ (h.grew (hal.trans (hW.alloc _))) hA (fun V hV => y0 V ((hW.alloc _).trans hV)) (fun V hV => y1 V ((hW.alloc _).trans hV))) eg)
  rw [show allB A.length (fun x => !decide (nt A x = 0)) = serB A from rfl] at KE
  obtain ⟨A', c, rfl⟩ := ints_sliceN h
  clear h hA hal eg
  generalize serB A = R at *
  generalize A.length = n at *
  go_enter Tryz.func168, Tryz.ntmps168
  go_wp2_with fail
  refine (HI.out).mono ?_
  rintro e w1 ⟨g, cc, f, rfl, hR, hK, hgg, hg1⟩
  clear hK hR
  have hg2 := hg1.alloc (.cells #[.slice (some ⟨g, 0, none⟩) n cc] 24)
  go_wp2_with fail
  refine (KE.out _ hg2).mono ?_
  rintro e w2 ⟨rfl, hg3⟩
  go_wp2_with fail
  go_ret
  exact ⟨rfl, HG.out.trans (hg2.trans hg3)⟩
theorem hasFlag10_c (v : Value) (A : List Nat) (w : World) (h : Ints w v (zs A)) (hA : Rl A) (h8 : A.length ≤ 8) :
    Calls Tryz.prog 168 #[.agg #[.int .i64 (A.length : Int), v], .int .i64 10] w fun e w' => e = .returned (.bool (funB A)) ∧ Grew w w' := by
  have hal := (Grew.refl w).alloc (.cells #[.int .i64 (A.length : Int), v] 26)
  have HI := Lib.hid (inverse_c v A _ (h.grew hal) hA)
  have HG := Lib.hid hal
  have eg := enters_of Tryz.func193 (by kernel_rfl) rfl
  have y0 : ∀ W, Grew (w.alloc (.cells #[.int .i64 (A.length : Int), v] 26)) W → W.cell? ⟨w.heap.size, 0, none⟩ = some (.int .i64 (A.length : Int)) := fun W hW => (hW.cell (p := ⟨w.heap.size, 0, none⟩) (by simp)).trans (by simp)
  have y1 : ∀ W, Grew (w.alloc (.cells #[.int .i64 (A.length : Int), v] 26)) W → W.cell? ⟨w.heap.size, 1, none⟩ = some v := fun W hW => (hW.cell (p := ⟨w.heap.size, 1, none⟩) (by simp)).trans (by simp)
  have KE := Lib.hid (fun W (hW : Grew (w.alloc (.cells #[.int .i64 (A.length : Int), v] 26)) W) => everyWorld_c v A.length 193 #[.pointer (some ⟨w.heap.size, 0, none⟩)] _ W hA.1 (by obtain ⟨A', c, e⟩ := ints_slice h; exact ⟨_, _, _, e⟩) (fun_k v A w.heap.size _ (h.grew (hal.trans (hW.alloc _))) hA h8 (fun V hV => y0 V ((hW.alloc _).trans hV)) (fun V hV => y1 V ((hW.alloc _).trans hV))) eg)
  rw [show allB A.length (fun x => decide ((mbs (nt A x)).length ≤ 1)) = funB A from rfl] at KE
  obtain ⟨A', c, rfl⟩ := ints_sliceN h
  clear h hA hal eg
  generalize funB A = R at *
  generalize A.length = n at *
  go_enter Tryz.func168, Tryz.ntmps168
  go_wp2_with fail
  refine (HI.out).mono ?_
  rintro e w1 ⟨g, cc, f, rfl, hR, hK, hgg, hg1⟩
  clear hK hR
  have hg2 := hg1.alloc (.cells #[.slice (some ⟨g, 0, none⟩) n cc] 24)
  go_wp2_with fail
  refine (KE.out _ hg2).mono ?_
  rintro e w2 ⟨rfl, hg3⟩
  go_wp2_with fail
  go_ret
  exact ⟨rfl, HG.out.trans (hg2.trans hg3)⟩
theorem hasFlag4_c (v : Value) (A : List Nat) (w : World) (h : Ints w v (zs A)) (hA : Rl A) :
    Calls Tryz.prog 168 #[.agg #[.int .i64 (A.length : Int), v], .int .i64 4] w fun e w' => e = .returned (.bool (eucB A)) ∧ Grew w w' := by
  have hal := (Grew.refl w).alloc (.cells #[.int .i64 (A.length : Int), v] 26)
  have HI := Lib.hid (inverse_c v A _ (h.grew hal) hA)
  have HG := Lib.hid hal
  have eg := enters_of Tryz.func187 (by kernel_rfl) rfl
  have y0 : ∀ W, Grew (w.alloc (.cells #[.int .i64 (A.length : Int), v] 26)) W → W.cell? ⟨w.heap.size, 0, none⟩ = some (.int .i64 (A.length : Int)) := fun W hW => (hW.cell (p := ⟨w.heap.size, 0, none⟩) (by simp)).trans (by simp)
  have y1 : ∀ W, Grew (w.alloc (.cells #[.int .i64 (A.length : Int), v] 26)) W → W.cell? ⟨w.heap.size, 1, none⟩ = some v := fun W hW => (hW.cell (p := ⟨w.heap.size, 1, none⟩) (by simp)).trans (by simp)
  have KE := Lib.hid (fun W (hW : Grew (w.alloc (.cells #[.int .i64 (A.length : Int), v] 26)) W) => everyPair_c v A 187 #[.pointer (some ⟨w.heap.size, 0, none⟩)] (fun _ y z => (nt A y).testBit z) W (h.grew (hal.trans hW)) hA (euc_k v A w.heap.size _ (h.grew (hal.trans (hW.alloc _))) hA (fun V hV => y0 V ((hW.alloc _).trans hV)) (fun V hV => y1 V ((hW.alloc _).trans hV))) eg)
  rw [show pairB A (fun _ y z => (nt A y).testBit z) = eucB A from rfl] at KE
  obtain ⟨A', c, rfl⟩ := ints_sliceN h
  clear h hA hal eg
  generalize eucB A = R at *
  generalize A.length = n at *
  go_enter Tryz.func168, Tryz.ntmps168
  go_wp2_with fail
  refine (HI.out).mono ?_
  rintro e w1 ⟨g, cc, f, rfl, hR, hK, hgg, hg1⟩
  clear hK hR
  have hg2 := hg1.alloc (.cells #[.slice (some ⟨g, 0, none⟩) n cc] 24)
  go_wp2_with fail
  refine (KE.out _ hg2).mono ?_
  rintro e w2 ⟨rfl, hg3⟩
  go_wp2_with fail
  go_ret
  exact ⟨rfl, HG.out.trans (hg2.trans hg3)⟩
theorem hasFlag5_c (v : Value) (A : List Nat) (w : World) (h : Ints w v (zs A)) (hA : Rl A) :
    Calls Tryz.prog 168 #[.agg #[.int .i64 (A.length : Int), v], .int .i64 5] w fun e w' => e = .returned (.bool (dirB A)) ∧ Grew w w' := by
  have hal := (Grew.refl w).alloc (.cells #[.int .i64 (A.length : Int), v] 26)
  have HI := Lib.hid (inverse_c v A _ (h.grew hal) hA)
  have HG := Lib.hid hal
  have eg := enters_of Tryz.func188 (by kernel_rfl) rfl
  have y0 : ∀ W, Grew (w.alloc (.cells #[.int .i64 (A.length : Int), v] 26)) W → W.cell? ⟨w.heap.size, 0, none⟩ = some (.int .i64 (A.length : Int)) := fun W hW => (hW.cell (p := ⟨w.heap.size, 0, none⟩) (by simp)).trans (by simp)
  have y1 : ∀ W, Grew (w.alloc (.cells #[.int .i64 (A.length : Int), v] 26)) W → W.cell? ⟨w.heap.size, 1, none⟩ = some v := fun W hW => (hW.cell (p := ⟨w.heap.size, 1, none⟩) (by simp)).trans (by simp)
  have KE := Lib.hid (fun W (hW : Grew (w.alloc (.cells #[.int .i64 (A.length : Int), v] 26)) W) => everyPair_c v A 188 #[.pointer (some ⟨w.heap.size, 0, none⟩)] (fun _ y z => !decide (nt A y &&& nt A z = 0)) W (h.grew (hal.trans hW)) hA (dir_k v A w.heap.size _ (h.grew (hal.trans (hW.alloc _))) hA (fun V hV => y0 V ((hW.alloc _).trans hV)) (fun V hV => y1 V ((hW.alloc _).trans hV))) eg)
  rw [show pairB A (fun _ y z => !decide (nt A y &&& nt A z = 0)) = dirB A from rfl] at KE
  obtain ⟨A', c, rfl⟩ := ints_sliceN h
  clear h hA hal eg
  generalize dirB A = R at *
  generalize A.length = n at *
  go_enter Tryz.func168, Tryz.ntmps168
  go_wp2_with fail
  refine (HI.out).mono ?_
  rintro e w1 ⟨g, cc, f, rfl, hR, hK, hgg, hg1⟩
  clear hK hR
  have hg2 := hg1.alloc (.cells #[.slice (some ⟨g, 0, none⟩) n cc] 24)
  go_wp2_with fail
  refine (KE.out _ hg2).mono ?_
  rintro e w2 ⟨rfl, hg3⟩
  go_wp2_with fail
  go_ret
  exact ⟨rfl, HG.out.trans (hg2.trans hg3)⟩
theorem hasFlag6_c (v : Value) (A : List Nat) (w : World) (h : Ints w v (zs A)) (hA : Rl A) :
    Calls Tryz.prog 168 #[.agg #[.int .i64 (A.length : Int), v], .int .i64 6] w fun e w' => e = .returned (.bool (conB A)) ∧ Grew w w' := by
  have hal := (Grew.refl w).alloc (.cells #[.int .i64 (A.length : Int), v] 26)
  have HI := Lib.hid (inverse_c v A _ (h.grew hal) hA)
  have HG := Lib.hid hal
  have eg := enters_of Tryz.func189 (by kernel_rfl) rfl
  have y0 : ∀ W, Grew (w.alloc (.cells #[.int .i64 (A.length : Int), v] 26)) W → W.cell? ⟨w.heap.size, 0, none⟩ = some (.int .i64 (A.length : Int)) := fun W hW => (hW.cell (p := ⟨w.heap.size, 0, none⟩) (by simp)).trans (by simp)
  have y1 : ∀ W, Grew (w.alloc (.cells #[.int .i64 (A.length : Int), v] 26)) W → W.cell? ⟨w.heap.size, 1, none⟩ = some v := fun W hW => (hW.cell (p := ⟨w.heap.size, 1, none⟩) (by simp)).trans (by simp)
  have KE := Lib.hid (fun W (hW : Grew (w.alloc (.cells #[.int .i64 (A.length : Int), v] 26)) W) => everyPair_c v A 189 #[.pointer (some ⟨w.heap.size, 0, none⟩)] (fun _ y z => (nt A y).testBit z || (nt A z).testBit y) W (h.grew (hal.trans hW)) hA (con_k v A w.heap.size _ (h.grew (hal.trans (hW.alloc _))) hA (fun V hV => y0 V ((hW.alloc _).trans hV)) (fun V hV => y1 V ((hW.alloc _).trans hV))) eg)
  rw [show pairB A (fun _ y z => (nt A y).testBit z || (nt A z).testBit y) = conB A from rfl] at KE
  obtain ⟨A', c, rfl⟩ := ints_sliceN h
  clear h hA hal eg
  generalize conB A = R at *
  generalize A.length = n at *
  go_enter Tryz.func168, Tryz.ntmps168
  go_wp2_with fail
  refine (HI.out).mono ?_
  rintro e w1 ⟨g, cc, f, rfl, hR, hK, hgg, hg1⟩
  clear hK hR
  have hg2 := hg1.alloc (.cells #[.slice (some ⟨g, 0, none⟩) n cc] 24)
  go_wp2_with fail
  refine (KE.out _ hg2).mono ?_
  rintro e w2 ⟨rfl, hg3⟩
  go_wp2_with fail
  go_ret
  exact ⟨rfl, HG.out.trans (hg2.trans hg3)⟩
theorem hasFlag9_c (v : Value) (A : List Nat) (w : World) (h : Ints w v (zs A)) (hA : Rl A) :
    Calls Tryz.prog 168 #[.agg #[.int .i64 (A.length : Int), v], .int .i64 9] w fun e w' => e = .returned (.bool (denB A)) ∧ Grew w w' := by
  have hal := (Grew.refl w).alloc (.cells #[.int .i64 (A.length : Int), v] 26)
  have HI := Lib.hid (inverse_c v A _ (h.grew hal) hA)
  have HG := Lib.hid hal
  have eg := enters_of Tryz.func192 (by kernel_rfl) rfl
  have y0 : ∀ W, Grew (w.alloc (.cells #[.int .i64 (A.length : Int), v] 26)) W → W.cell? ⟨w.heap.size, 0, none⟩ = some (.int .i64 (A.length : Int)) := fun W hW => (hW.cell (p := ⟨w.heap.size, 0, none⟩) (by simp)).trans (by simp)
  have y1 : ∀ W, Grew (w.alloc (.cells #[.int .i64 (A.length : Int), v] 26)) W → W.cell? ⟨w.heap.size, 1, none⟩ = some v := fun W hW => (hW.cell (p := ⟨w.heap.size, 1, none⟩) (by simp)).trans (by simp)
  have KE := Lib.hid (fun w1 (hg1 : Grew (w.alloc (.cells #[.int .i64 (A.length : Int), v] 26)) w1) g cc f (hR : NRow w1 g A.length cc f) (hK : Bk (nt A) A.length A.length 0 f) W (hW : Grew (w1.alloc (.cells #[.slice (some ⟨g, 0, none⟩) A.length cc] 24)) W) => by
    have hga := hg1.alloc (.cells #[.slice (some ⟨g, 0, none⟩) A.length cc] 24)
    have y2 : ∀ V, Grew W V → V.cell? ⟨w1.heap.size, 0, none⟩ = some (.slice (some ⟨g, 0, none⟩) A.length cc) := fun V hV => ((hW.trans hV).cell (p := ⟨w1.heap.size, 0, none⟩) (by simp)).trans (by simp)
    have K := everyPair_c v A 192 #[.pointer (some ⟨w.heap.size, 0, none⟩), .pointer (some ⟨w1.heap.size, 0, none⟩)] (fun x y _ => !decide (nt A x &&& invN A A.length y = 0)) W (h.grew (hal.trans (hga.trans hW))) hA
      (den_k v _ A f w.heap.size w1.heap.size _ (h.grew (hal.trans ((hga.trans hW).alloc _))) hA ((hR.ints.grew (((Grew.refl w1).alloc _).trans hW)).grew ((Grew.refl W).alloc _)) (fun y hy => inv_eq hK hy) (fun V hV => y0 V (((hga.trans hW).alloc _).trans hV)) (fun V hV => y1 V (((hga.trans hW).alloc _).trans hV)) (fun V hV => y2 V (((Grew.refl W).alloc _).trans hV))) eg
    rw [show pairB A (fun x y _ => !decide (nt A x &&& invN A A.length y = 0)) = denB A from rfl] at K
    exact K)
  obtain ⟨A', c, rfl⟩ := ints_sliceN h
  clear h hA hal eg
  generalize denB A = R at *
  generalize A.length = n at *
  go_enter Tryz.func168, Tryz.ntmps168
  go_wp2_with fail
  refine (HI.out).mono ?_
  rintro e w1 ⟨g, cc, f, rfl, hR, hK, hgg, hg1⟩
  have KF := Lib.hid (KE.out w1 hg1 g cc f hR hK)
  clear hK hR KE
  have hg2 := hg1.alloc (.cells #[.slice (some ⟨g, 0, none⟩) n cc] 24)
  go_wp2_with fail
  refine (KF.out _ (Grew.refl _)).mono ?_
  rintro e w2 ⟨rfl, hg3⟩
  go_wp2_with fail
  go_ret
  exact ⟨rfl, HG.out.trans (hg2.trans hg3)⟩
theorem hasFlag3_c (v : Value) (A : List Nat) (w : World) (h : Ints w v (zs A)) (hA : Rl A) :
    Calls Tryz.prog 168 #[.agg #[.int .i64 (A.length : Int), v], .int .i64 3] w fun e w' => e = .returned (.bool (symB A)) ∧ Grew w w' := by
  have hal := (Grew.refl w).alloc (.cells #[.int .i64 (A.length : Int), v] 26)
  have HI := Lib.hid (inverse_c v A _ (h.grew hal) hA)
  have HG := Lib.hid hal
  have y1 : ∀ W, Grew (w.alloc (.cells #[.int .i64 (A.length : Int), v] 26)) W → W.cell? ⟨w.heap.size, 1, none⟩ = some v := fun W hW => (hW.cell (p := ⟨w.heap.size, 1, none⟩) (by simp)).trans (by simp)
  have KQ := Lib.hid (fun W (hW : Grew w W) u L (hu : Ints W u L) (hl : L.length = (zs A).length) => equalR_c u v L (zs A) W hu (h.grew hW) hl)
  have HSE := Lib.hid (fun f h => @sym_eq A hA f h)
  obtain ⟨A', c, rfl⟩ := ints_sliceN h
  clear h hA hal
  rw [zs_len] at KQ
  generalize symB A = R at *
  generalize A.length = n at *
  go_enter Tryz.func168, Tryz.ntmps168
  go_wp2_with fail
  refine (HI.out).mono ?_
  rintro e w1 ⟨g, cc, f, rfl, hR, hK, hgg, hg1⟩
  have hg2 := hg1.alloc (.cells #[.slice (some ⟨g, 0, none⟩) n cc] 24)
  have hi2 := hR.ints.grew ((Grew.refl w1).alloc (.cells #[.slice (some ⟨g, 0, none⟩) n cc] 24))
  have KE := Lib.hid (KQ.out _ (HG.out.trans hg2) _ _ hi2 (by rw [zs_len]; simp))
  rw [HSE.out f hK] at KE
  have z1 := y1 _ hg2
  clear hK hR hi2
  go_wp2_with fail
  refine (KE.out).mono ?_
  rintro e w2 ⟨rfl, hg3⟩
  go_wp2_with fail
  go_ret
  exact ⟨rfl, HG.out.trans (hg2.trans hg3)⟩
theorem hasFlag7_c (v : Value) (A : List Nat) (w : World) (h : Ints w v (zs A)) (hA : Rl A) (hT : Trn A) :
    Calls Tryz.prog 168 #[.agg #[.int .i64 (A.length : Int), v], .int .i64 7] w fun e w' => e = .returned (.bool (irrB A)) ∧ Grew w w' := by
  have hal := (Grew.refl w).alloc (.cells #[.int .i64 (A.length : Int), v] 26)
  have HI := Lib.hid (inverse_c v A _ (h.grew hal) hA)
  have HG := Lib.hid hal
  have eg := enters_of Tryz.func190 (by kernel_rfl) rfl
  have y0 : ∀ W, Grew (w.alloc (.cells #[.int .i64 (A.length : Int), v] 26)) W → W.cell? ⟨w.heap.size, 0, none⟩ = some (.int .i64 (A.length : Int)) := fun W hW => (hW.cell (p := ⟨w.heap.size, 0, none⟩) (by simp)).trans (by simp)
  have y1 : ∀ W, Grew (w.alloc (.cells #[.int .i64 (A.length : Int), v] 26)) W → W.cell? ⟨w.heap.size, 1, none⟩ = some v := fun W hW => (hW.cell (p := ⟨w.heap.size, 1, none⟩) (by simp)).trans (by simp)
  have hvs : ∃ X m c, v = .slice X m c := by obtain ⟨A', c, e⟩ := ints_slice h; exact ⟨_, _, _, e⟩
  have KT : Hid (∀ W, Grew w W → Calls Tryz.prog 185 #[v] W fun e w' => ∃ u f, e = .returned u ∧ (∃ X m c, u = .slice X m c) ∧ Ints w' u (zs ((List.range A.length).map f)) ∧ (∀ x, x < A.length → f x = nt A x) ∧ Grew W w') := Lib.hid (fun W hW => by
    rcases Nat.eq_zero_or_pos A.length with h0 | h0
    · refine (transitive_t v A W (h.grew hW) hA).mono ?_
      rintro e w' ⟨u, L, rfl, hu, hl, _, hg⟩
      obtain ⟨X, c, e2⟩ := ints_slice hu
      have hL : L = [] := List.eq_nil_of_length_eq_zero (by rw [hl, zs_len, h0])
      exact ⟨u, fun _ => 0, rfl, ⟨_, _, _, e2⟩, by rw [show zs ((List.range A.length).map fun _ => 0) = L from by rw [hL, h0]; rfl]; exact hu, fun x hx => absurd hx (by omega), hg⟩
    · refine (transitive_c v A W (h.grew hW) hA h0).mono ?_
      rintro e w' ⟨g, c, f, rfl, hR, hK, _, hg⟩
      exact ⟨_, f, rfl, ⟨_, _, _, rfl⟩, hR.ints, hK.2.2 hT, hg⟩)
  have KE := Lib.hid (fun w1 (u : Value) (f : Nat → Nat) (hu : Ints w1 u (zs ((List.range A.length).map f))) (hf : ∀ x, x < A.length → f x = nt A x) W (hW : Grew (w1.alloc (.cells #[u] 24)) W) => by
    have y2 : ∀ V, Grew W V → V.cell? ⟨w1.heap.size, 0, none⟩ = some u := fun V hV => ((hW.trans hV).cell (p := ⟨w1.heap.size, 0, none⟩) (by simp)).trans (by simp)
    have K := everyWorld_c v A.length 190 #[.pointer (some ⟨w1.heap.size, 0, none⟩)] _ W hA.1 hvs
      (irr_k u A f w1.heap.size _ hA ((hu.grew (((Grew.refl w1).alloc _).trans hW)).grew ((Grew.refl W).alloc _)) hf (fun V hV => y2 V (((Grew.refl W).alloc _).trans hV))) eg
    rw [show allB A.length (fun x => !(nt A x).testBit x) = irrB A from rfl] at K
    exact K)
  obtain ⟨A', c, rfl⟩ := ints_sliceN h
  clear h hA hal eg hvs
  generalize irrB A = R at *
  generalize A.length = n at *
  go_enter Tryz.func168, Tryz.ntmps168
  go_wp2_with fail
  refine (HI.out).mono ?_
  rintro e w1 ⟨g, cc, f, rfl, hR, hK, hgg, hg1⟩
  clear hK hR
  have hg2 := hg1.alloc (.cells #[.slice (some ⟨g, 0, none⟩) n cc] 24)
  have z1 := y1 _ hg2
  generalize hw2 : w1.alloc (.cells #[.slice (some ⟨g, 0, none⟩) n cc] 24) = w2 at *
  go_wp2_with fail
  (try simp only [hw2])
  clear hw2
  refine (KT.out _ (HG.out.trans hg2)).mono ?_
  rintro e w3 ⟨u, f3, rfl, ⟨X, m, c3, rfl⟩, hu, hf, hg3⟩
  have hga := (hg2.trans hg3).alloc (.cells #[.slice X m c3] 24)
  have KF := Lib.hid (KE.out w3 _ f3 hu hf)
  have q0 := y0 _ hga
  have q1 := y1 _ hga
  clear hu hf KE
  go_wp2_with fail
  refine (KF.out _ (Grew.refl _)).mono ?_
  rintro e w4 ⟨rfl, hg4⟩
  go_wp2_with fail
  go_ret
  exact ⟨rfl, HG.out.trans (hga.trans hg4)⟩
end Go.Proofs.YtpfncncohnhanaaGreatDoor


/- A table of strings that is a package-level variable: what the row's condition gives. -/
namespace Go.Proofs.YtpfncncohnhanaaGreatDoor
open Go.RowKit

def tabS {H : Type} (L : List ByteArray) : DataW H := .agg (L.map fun s => .lit (.string s.data.toList))

theorem cells_of_strs {H : Type} {enc : TypeId × Value → H} {P : Program} {w : World} {base : Nat} {sp : Nat → Bool} {held : Bool} {fuel : Nat} {t e : TypeId} {n : Nat} {cs : List Value} {L : List ByteArray} {p : List MemPlace}
    (ht : P.underlying t = some (.array n e)) (he : P.underlying e = some .string) (hce : P.cellsOf e = 1) (hct : P.cellsOf t = n)
    (h : DataW.trod enc P w base sp held fuel t cs = some (tabS L, p)) : cs = scells L := by
  obtain ⟨xs, m, _, hx, hl, hxl, hi⟩ := DataW.trod_array ht h
  rw [hct] at hl
  simp only [tabS, Prod.mk.injEq, DataW.agg.injEq] at hx
  have hLn : L.length = n := by
    have := congrArg List.length hx.1
    simp only [List.length_map] at this
    omega
  apply List.ext_getElem?
  intro i
  by_cases h1 : i < n
  · have hk := hi i h1
    rw [hce, Nat.mul_one] at hk
    have hxi : xs[i]? = some xs[i] := List.getElem?_eq_getElem (by omega)
    rw [hxi] at hk
    obtain ⟨s, hc, hs, _⟩ := DataW.trod_string he hk
    have h2 : cs[i]? = some (.string s) := by
      have := congrArg (·[0]?) hc
      simpa [List.getElem?_take, List.getElem?_drop] using this
    have h3 := congrArg (·[i]?) hx.1
    simp only [List.getElem?_map, hxi, Option.map_some, hs] at h3
    have h4 : L[i]? = some L[i] := List.getElem?_eq_getElem (by omega)
    rw [h4] at h3
    simp only [Option.map_some, Option.some.injEq, DataW.lit.injEq, Lit.string.injEq] at h3
    have h5 : L[i] = s := by
      apply ByteArray.ext
      apply Array.ext'
      exact h3
    rw [h2, scells, List.getElem?_map, h4, Option.map_some, h5]
  · rw [List.getElem?_eq_none (by omega), List.getElem?_eq_none (by rw [scells_length]; omega)]

def TabAt (w : World) (g : Nat) (L : List ByteArray) : Prop := ∃ t, w.heap[g]? = some (.cells (scells L).toArray t (0, 0))
theorem TabAt.grew {w w' : World} {g : Nat} {L : List ByteArray} (h : TabAt w g L) (hg : Grew w w') : TabAt w' g L := by
  obtain ⟨t, h⟩ := h
  exact ⟨t, (hg.block (blk_lt h)).trans h⟩
theorem TabAt.lt {w : World} {g : Nat} {L : List ByteArray} (h : TabAt w g L) : g < w.heap.size := by
  obtain ⟨t, h⟩ := h
  exact blk_lt h
theorem TabAt.cell {w : World} {g : Nat} {L : List ByteArray} (h : TabAt w g L) {i : Nat} (hi : i < L.length) : w.cell? ⟨g, i, none⟩ = some (.string (st L i)) := by
  obtain ⟨t, h⟩ := h
  rw [blk_cell h]
  have := scells_at hi
  simpa using this
theorem laid_tab {P : Program} {W : World} {name : String} {L : List ByteArray} {rest : List (String × DataW Unit)} {g : Nat} {t e : TypeId} {n : Nat} {ps : List MemPlace}
    (hg : P.globalNamed name = some g) (hty : (P.globals[g]?).map (·.type) = some t) (ht : P.underlying t = some (.array n e)) (he : P.underlying e = some .string) (hce : P.cellsOf e = 1) (hct : P.cellsOf t = n) (hn : 0 < L.length)
    (h : DataW.LaidVars P W ((name, tabS L) :: rest) ps) (hcell : ∀ b off, MemPlace.cell b off ∈ ps → (∃ c t, W.heap[b]? = some (.cells c t (0, 0))) ∧ ∀ u v, W.cell? ⟨b, off, none⟩ = some (.iface u v) → Value.okWide P W .any 0 u v) :
    W.var? P name = some (scells L).toArray ∧ TabAt W g L ∧ ∃ q, DataW.LaidVars P W rest q ∧ ∀ x ∈ q, x ∈ ps := by
  obtain ⟨g', t', cs, f, p, q, hg', ht', hv, hd, hr, hps⟩ := h
  obtain rfl := Option.some.inj (hg.symm.trans hg')
  obtain rfl := Option.some.inj (hty.symm.trans ht')
  have hc := cells_of_strs ht he hce hct hd
  have hcs : cs = (scells L).toArray := by apply Array.ext'; simpa using hc
  subst hcs
  refine ⟨hv, ?_, q, hr, fun x hx => by rw [hps]; simp [hx]⟩
  have hm : MemPlace.cell g 0 ∈ ps := by
    rw [hps]
    apply List.mem_append_left
    apply List.mem_append_left
    rw [MemPlace.mem_row]
    exact ⟨0, by simp [scells, hn], rfl⟩
  obtain ⟨⟨c, t2, hb⟩, _⟩ := hcell g 0 hm
  simp only [World.var?, hg, Option.bind_some, hb, Option.some.injEq] at hv
  exact ⟨t2, by rw [hb, hv]⟩
end Go.Proofs.YtpfncncohnhanaaGreatDoor


/- AxiomFormula, of the program and of the reference. -/
namespace Go.Proofs.YtpfncncohnhanaaGreatDoor
open Go.RowKit

def axNames : List ByteArray := [⟨#[52]⟩, ⟨#[53]⟩, ⟨#[66]⟩, ⟨#[67]⟩, ⟨#[68]⟩, ⟨#[70]⟩, ⟨#[71]⟩, ⟨#[72]⟩, ⟨#[76]⟩, ⟨#[84]⟩, ⟨#[86]⟩, ⟨#[88]⟩, ⟨#[90]⟩]
def axTexts : List ByteArray := [⟨#[91, 93, 112, 62, 91, 93, 91, 93, 112]⟩, ⟨#[60, 62, 112, 62, 91, 93, 60, 62, 112]⟩, ⟨#[112, 62, 91, 93, 60, 62, 112]⟩, ⟨#[91, 93, 91, 93, 112, 62, 91, 93, 112]⟩, ⟨#[91, 93, 112, 62, 60, 62, 112]⟩, ⟨#[60, 62, 112, 62, 91, 93, 112]⟩, ⟨#[60, 62, 91, 93, 112, 62, 91, 93, 60, 62, 112]⟩, ⟨#[91, 93, 40, 91, 93, 112, 62, 113, 41, 124, 91, 93, 40, 91, 93, 113, 62, 112, 41]⟩, ⟨#[91, 93, 40, 91, 93, 112, 62, 112, 41, 62, 91, 93, 112]⟩, ⟨#[91, 93, 112, 62, 112]⟩, ⟨#[91, 93, 70]⟩, ⟨#[112, 62, 91, 93, 112]⟩, ⟨#[91, 93, 40, 91, 93, 40, 112, 62, 91, 93, 112, 41, 62, 112, 41, 62, 112]⟩]
theorem axNames_len : axNames.length = 13 := rfl
theorem axTexts_len : axTexts.length = 13 := rfl
theorem axTexts_small {i : Nat} (h : i < 13) : (st axTexts i).size ≤ 200 := by
  have : ∀ j : Fin 13, (st axTexts j.val).size ≤ 200 := by decide
  exact this ⟨i, h⟩

theorem l09Names_c (w : World) : Calls Tryz.prog 50 #[] w (GivesS w axNames) := by
  have h := OwnS.lit w w.heap.size axNames #[.string ⟨#[52]⟩, .string ⟨#[53]⟩, .string ⟨#[66]⟩, .string ⟨#[67]⟩, .string ⟨#[68]⟩, .string ⟨#[70]⟩, .string ⟨#[71]⟩, .string ⟨#[72]⟩, .string ⟨#[76]⟩, .string ⟨#[84]⟩, .string ⟨#[86]⟩, .string ⟨#[88]⟩, .string ⟨#[90]⟩] (Nat.le_refl _) (by rw [axNames_len]; omega) rfl
  rw [axNames_len] at h
  go_enter Tryz.func50, Tryz.ntmps50
  go_wp2_with fail
  go_ret
  exact ⟨_, rfl, h, (Grew.refl w).alloc _⟩
theorem l09Texts_c (w : World) : Calls Tryz.prog 101 #[] w (GivesS w axTexts) := by
  have h := OwnS.lit w w.heap.size axTexts #[.string ⟨#[91, 93, 112, 62, 91, 93, 91, 93, 112]⟩, .string ⟨#[60, 62, 112, 62, 91, 93, 60, 62, 112]⟩, .string ⟨#[112, 62, 91, 93, 60, 62, 112]⟩, .string ⟨#[91, 93, 91, 93, 112, 62, 91, 93, 112]⟩, .string ⟨#[91, 93, 112, 62, 60, 62, 112]⟩, .string ⟨#[60, 62, 112, 62, 91, 93, 112]⟩, .string ⟨#[60, 62, 91, 93, 112, 62, 91, 93, 60, 62, 112]⟩, .string ⟨#[91, 93, 40, 91, 93, 112, 62, 113, 41, 124, 91, 93, 40, 91, 93, 113, 62, 112, 41]⟩, .string ⟨#[91, 93, 40, 91, 93, 112, 62, 112, 41, 62, 91, 93, 112]⟩, .string ⟨#[91, 93, 112, 62, 112]⟩, .string ⟨#[91, 93, 70]⟩, .string ⟨#[112, 62, 91, 93, 112]⟩, .string ⟨#[91, 93, 40, 91, 93, 40, 112, 62, 91, 93, 112, 41, 62, 112, 41, 62, 112]⟩] (Nat.le_refl _) (by rw [axTexts_len]; omega) rfl
  rw [axTexts_len] at h
  go_enter Tryz.func101, Tryz.ntmps101
  go_wp2_with fail
  go_ret
  exact ⟨_, rfl, h, (Grew.refl w).alloc _⟩

set_option maxRecDepth 100000 in
theorem index_names (i : Nat) (hi : i < 13) (w : World) : (Instr.index 76 (.agg (scells axNames).toArray) (.int .i64 i)).run Tryz.prog w = .ok (.string (st axNames i)) w := by
  have h : ∀ j : Fin 13, (Instr.index 76 (.agg (scells axNames).toArray) (.int .i64 j.val)).run Tryz.prog w = .ok (.string (st axNames j.val)) w := by
    intro j
    match j with
    | 0 => rfl
    | 1 => rfl
    | 2 => rfl
    | 3 => rfl
    | 4 => rfl
    | 5 => rfl
    | 6 => rfl
    | 7 => rfl
    | 8 => rfl
    | 9 => rfl
    | 10 => rfl
    | 11 => rfl
    | 12 => rfl
  exact h ⟨i, hi⟩

def axTrees : List Fm.Tree := [(.imp (.box (.var 0)) (.box (.box (.var 0)))), (.imp (.dia (.var 0)) (.box (.dia (.var 0)))), (.imp (.var 0) (.box (.dia (.var 0)))), (.imp (.box (.box (.var 0))) (.box (.var 0))), (.imp (.box (.var 0)) (.dia (.var 0))), (.imp (.dia (.var 0)) (.box (.var 0))), (.imp (.dia (.box (.var 0))) (.box (.dia (.var 0)))), (.or (.box (.imp (.box (.var 0)) (.var 1))) (.box (.imp (.box (.var 1)) (.var 0)))), (.imp (.box (.imp (.box (.var 0)) (.var 0))) (.box (.var 0))), (.imp (.box (.var 0)) (.var 0)), (.box .fls), (.imp (.var 0) (.box (.var 0))), (.imp (.box (.imp (.box (.imp (.var 0) (.box (.var 0)))) (.var 0))) (.var 0))]
def axTree (i : Nat) : Fm.Tree := axTrees.getD i .fls
theorem axTree_text {i : Nat} (h : i < 13) : st axTexts i = bs (Fm.txt (axTree i) 0) := by
  have : ∀ j : Fin 13, st axTexts j.val = bs (Fm.txt (axTree j.val) 0) := by decide
  exact this ⟨i, h⟩
theorem axTree_len {i : Nat} (h : i < 13) : (Fm.enc (axTree i)).length ≤ 40 ∧ (Fm.txt (axTree i) 0).length ≤ 200 := by
  have : ∀ j : Fin 13, (Fm.enc (axTree j.val)).length ≤ 40 ∧ (Fm.txt (axTree j.val) 0).length ≤ 200 := by decide
  exact this ⟨i, h⟩
theorem ax_rd {i : Nat} (h : i < 13) : Fm.rd (st axTexts i) = (Fm.enc (axTree i), -1) := by
  rw [axTree_text h, Fm.rd_txt _ (by have := (axTree_len h).2; unfold Fm.fuel; omega)]

theorem l09Formula_c (s : ByteArray) (k : Nat) (w : World) (hk : k < 13) (hf : findS axNames s = (k : Int)) :
    Calls Tryz.prog 57 #[.string s] w (Gives w (Fm.enc (axTree k))) := by
  have hF := fun v w h => l09Find_c v axNames s w h (by rw [axNames_len]; omega)
  rw [hf] at hF
  have HF := Lib.hid hF
  have hR := fun w => l02Read_c (st axTexts k) w (by have := axTexts_small hk; omega)
  rw [ax_rd hk] at hR
  have HR := Lib.hid hR
  have hlen := axTexts_len
  clear hF hR hf
  go_enter Tryz.func57, Tryz.ntmps57
  go_wp2_with fail
  refine (l09Texts_c _).mono ?_
  rintro e w1 ⟨v1, rfl, ho1, hg1⟩
  rcases ho1.strs.open_ with ⟨rfl, h0⟩ | ⟨b, o, c, rfl, hc, hm, hb, hcell⟩
  · cases h0
  rw [hlen] at hc hcell ⊢
  have k1 := fun W hW => hcell k hk W hW
  have HO := Lib.hid ho1
  clear hcell ho1 hlen
  go_wp2_with fail
  refine (l09Names_c _).mono ?_
  rintro e w2 ⟨v2, rfl, ho2, hg2⟩
  go_wp2_with fail
  refine (HF.out _ _ ho2.strs).mono ?_
  rintro e w3 ⟨rfl, hg3⟩
  have hg13 := hg2.trans hg3
  clear ho2
  generalize st axTexts k = tx at *
  go_wp2_with fail
  refine (HR.out _).mono ?_
  rintro e w4 ⟨v4, rfl, ho4, hg4⟩
  go_wp2_with fail
  go_ret
  exact ⟨_, rfl, ho4.base (hg1.trans hg13).size, (hg1.trans hg13).trans hg4⟩
end Go.Proofs.YtpfncncohnhanaaGreatDoor


/- The conditions of the axioms in the program: flagCondition and its closures. -/
namespace Go.Proofs.YtpfncncohnhanaaGreatDoor
open Go.RowKit

theorem indexHead_c (v : Value) (x : Int) (L : List Int) (f : Nat) (caps : Array Value) (w : World) (h : Ints w v (x :: L)) (hf : ∀ W, Grew w W → Calls Tryz.prog f (#[.int .i64 x] ++ caps) W fun e W' => e = .returned (.bool true) ∧ Grew W W') (eg : ∀ args w, (callFunc f args).run Tryz.prog w = .ok (.enter f args) w) :
    Calls Tryz.prog 165 #[v, .func (.func f) #[] caps] w fun e w' => e = .returned (.int .i64 0) ∧ Grew w w' := by
  obtain ⟨A, c, rfl⟩ := ints_slice h
  have HC := Lib.hid (fun h0 => cellsI h h0)
  have HF := Lib.hid (hf w (Grew.refl w))
  obtain ⟨b, o, rfl, hcell⟩ := HC.out (by simp)
  have k1 := hcell 0 (by simp) w (Grew.refl w)
  have k1 : w.cell? ⟨b, o, none⟩ = some (.int .i64 x) := k1
  have hl : 0 < (x :: L).length := by simp
  clear h hf HC hcell
  generalize (x :: L).length = n at *
  have hn : (0 : Int) < (n : Int) := by omega
  go_enter Tryz.func165, Tryz.ntmps165
  go_wp2_with fail
  refine wp_loop_rounds 1 ?_; rw [rounds_succ]
  go_wp2_with fail
  refine (HF.out).mono ?_
  rintro e w1 ⟨rfl, hg1⟩
  go_wp2_with fail
  go_ret
  exact ⟨rfl, hg1⟩
theorem containsHead_c (v : Value) (x : Int) (L : List Int) (f : Nat) (caps : Array Value) (w : World) (h : Ints w v (x :: L)) (hf : ∀ W, Grew w W → Calls Tryz.prog f (#[.int .i64 x] ++ caps) W fun e W' => e = .returned (.bool true) ∧ Grew W W') (eg : ∀ args w, (callFunc f args).run Tryz.prog w = .ok (.enter f args) w) :
    Calls Tryz.prog 129 #[v, .func (.func f) #[] caps] w fun e w' => e = .returned (.bool true) ∧ Grew w w' := by
  have HI := Lib.hid (indexHead_c v x L f caps w h hf eg)
  obtain ⟨A, c, rfl⟩ := ints_slice h
  clear h hf eg
  generalize (x :: L).length = n at *
  go_enter Tryz.func129, Tryz.ntmps129
  go_wp2_with fail
  refine HI.out.mono ?_
  rintro e w1 ⟨rfl, hg1⟩
  go_wp2_with fail
  go_ret
  exact ⟨rfl, hg1⟩
theorem flagCondition_c (v : Value) (w : World) (hv : ∃ A m c, v = .slice A m c) :
    Calls Tryz.prog 132 #[v] w fun e w' => ∃ bl, e = .returned (.func (.func 166) #[] #[.pointer (some ⟨bl, 0, none⟩)]) ∧ w'.cell? ⟨bl, 0, none⟩ = some v ∧ w.heap.size ≤ bl ∧ bl < w'.heap.size ∧ Grew w w' := by
  obtain ⟨A, m, c, rfl⟩ := hv
  have hb := blk_new w (.cells #[.slice A m c] 24)
  have hg := (Grew.refl w).alloc (.cells #[.slice A m c] 24)
  have H := Lib.hid (And.intro hb hg)
  clear hb hg
  go_enter Tryz.func132, Tryz.ntmps132
  go_wp2_with fail
  go_ret
  exact ⟨_, rfl, by rw [blk_cell H.out.1]; rfl, Nat.le_refl _, blk_lt H.out.1, H.out.2⟩
theorem flag11_k (v : Value) (n : Int) (b : Bool) (x : Int) (bf : Nat) (w : World) (hv : ∃ A m c, v = .slice A m c) (k0 : w.cell? ⟨bf, 0, none⟩ = some (.int .i64 n)) (k1 : w.cell? ⟨bf, 1, none⟩ = some v)
    (hf : Calls Tryz.prog 168 #[.agg #[.int .i64 n, v], .int .i64 x] w fun e w' => e = .returned (.bool b) ∧ Grew w w') :
    Calls Tryz.prog 167 #[.int .i64 x, .pointer (some ⟨bf, 0, none⟩)] w fun e w' => e = .returned (.bool (!b)) ∧ Grew w w' := by
  obtain ⟨A, m, c, rfl⟩ := hv
  have HF := Lib.hid hf
  clear hf
  go_enter Tryz.func167, Tryz.ntmps167
  go_wp2_with fail
  refine HF.out.mono ?_
  rintro e w1 ⟨rfl, hg1⟩
  go_wp2_with fail
  go_ret
  exact ⟨rfl, hg1⟩
theorem any_not {L : List Int} {p : Int → Bool} : (!L.any fun x => !p x) = L.all p := not_any p L
theorem flag1_all (v u : Value) (n : Int) (L : List Int) (p : Int → Bool) (bl : Nat) (w : World) (hv : ∃ A m c, v = .slice A m c) (hl : w.cell? ⟨bl, 0, none⟩ = some u) (hbl : bl < w.heap.size) (hu : Ints w u L)
    (hp : ∀ x ∈ L, ∀ W, Grew w W → Calls Tryz.prog 168 #[.agg #[.int .i64 n, v], .int .i64 x] W fun e W' => e = .returned (.bool (p x)) ∧ Grew W W') :
    Calls Tryz.prog 166 #[.agg #[.int .i64 n, v], .pointer (some ⟨bl, 0, none⟩)] w fun e w' => e = .returned (.bool (L.all p)) ∧ Grew w w' := by
  have hvs := hv
  obtain ⟨A, m, c, rfl⟩ := hv
  obtain ⟨w1, hw1⟩ : ∃ w1, w1 = w.alloc (.cells #[.int .i64 n, .slice A m c] 26) := ⟨_, rfl⟩
  have hal : Grew w w1 := by rw [hw1]; exact (Grew.refl w).alloc _
  have hb0 : w1.heap[w.heap.size]? = some (.cells #[.int .i64 n, .slice A m c] 26 (0, 0)) := by rw [hw1]; exact blk_new w _
  have eg := enters_of Tryz.func167 (by kernel_rfl) rfl
  have HC := Lib.hid (containsFuncI_c u L 167 #[.pointer (some ⟨w.heap.size, 0, none⟩)] (fun x => !p x) w1 (hu.grew hal) (fun x W hx hW => flag11_k _ n (p x) x w.heap.size W hvs (by rw [blk_cell ((hW.block (blk_lt hb0)).trans hb0)]; rfl) (by rw [blk_cell ((hW.block (blk_lt hb0)).trans hb0)]; rfl) (hp x hx W (hal.trans hW))) eg)
  have k1 := (hal.cell (p := ⟨bl, 0, none⟩) hbl).trans hl
  have HN := Lib.hid (@any_not L p)
  have HAL := Lib.hid hal
  obtain ⟨X, cx, rfl⟩ := ints_slice hu
  clear hu hp hb0 hvs hl hal eg
  generalize L.any (fun x => !p x) = R at *
  generalize L.length = l at *
  rw [hw1] at k1
  go_enter Tryz.func166, Tryz.ntmps166
  go_wp2_with fail
  simp only [← hw1]
  clear hw1 k1
  refine HC.out.mono ?_
  rintro e w2 ⟨rfl, hg2⟩
  go_wp2_with fail
  go_ret
  exact ⟨by rw [← HN.out]; rfl, HAL.out.trans hg2⟩
theorem flag1_head (v u : Value) (n : Int) (x : Int) (L : List Int) (bl : Nat) (w : World) (hv : ∃ A m c, v = .slice A m c) (hl : w.cell? ⟨bl, 0, none⟩ = some u) (hbl : bl < w.heap.size) (hu : Ints w u (x :: L))
    (hp : ∀ W, Grew w W → Calls Tryz.prog 168 #[.agg #[.int .i64 n, v], .int .i64 x] W fun e W' => e = .returned (.bool false) ∧ Grew W W') :
    Calls Tryz.prog 166 #[.agg #[.int .i64 n, v], .pointer (some ⟨bl, 0, none⟩)] w fun e w' => e = .returned (.bool false) ∧ Grew w w' := by
  have hvs := hv
  obtain ⟨A, m, c, rfl⟩ := hv
  obtain ⟨w1, hw1⟩ : ∃ w1, w1 = w.alloc (.cells #[.int .i64 n, .slice A m c] 26) := ⟨_, rfl⟩
  have hal : Grew w w1 := by rw [hw1]; exact (Grew.refl w).alloc _
  have hb0 : w1.heap[w.heap.size]? = some (.cells #[.int .i64 n, .slice A m c] 26 (0, 0)) := by rw [hw1]; exact blk_new w _
  have eg := enters_of Tryz.func167 (by kernel_rfl) rfl
  have HC := Lib.hid (containsHead_c u x L 167 #[.pointer (some ⟨w.heap.size, 0, none⟩)] w1 (hu.grew hal) (fun W hW => flag11_k _ n false x w.heap.size W hvs (by rw [blk_cell ((hW.block (blk_lt hb0)).trans hb0)]; rfl) (by rw [blk_cell ((hW.block (blk_lt hb0)).trans hb0)]; rfl) (hp W (hal.trans hW))) eg)
  have k1 := (hal.cell (p := ⟨bl, 0, none⟩) hbl).trans hl
  have HAL := Lib.hid hal
  obtain ⟨X, cx, rfl⟩ := ints_slice hu
  clear hu hp hb0 hvs hl hal eg
  generalize (x :: L).length = l at *
  rw [hw1] at k1
  go_enter Tryz.func166, Tryz.ntmps166
  go_wp2_with fail
  simp only [← hw1]
  clear hw1 k1
  refine HC.out.mono ?_
  rintro e w2 ⟨rfl, hg2⟩
  go_wp2_with fail
  go_ret
  exact ⟨rfl, HAL.out.trans hg2⟩
theorem ints_lit1 (B : Nat) (w : World) (a : Int) (hB : B ≤ w.heap.size) : OwnI (w.alloc (.cells #[.int .i64 a] 2)) B (.slice (some ⟨w.heap.size, 0, none⟩) 1 1) [a] :=
  (OwnI.mk_ hB (blk_new w _) (by simp) (by simp) (by simp) (fun i hi => by
    have : i = 0 := by simp at hi; omega
    subst this; rfl))
theorem ints_lit2 (B : Nat) (w : World) (a b : Int) (hB : B ≤ w.heap.size) : OwnI (w.alloc (.cells #[.int .i64 a, .int .i64 b] 2)) B (.slice (some ⟨w.heap.size, 0, none⟩) 2 2) [a, b] :=
  (OwnI.mk_ hB (blk_new w _) (by simp) (by simp) (by simp) (fun i hi => by
    have : i = 0 ∨ i = 1 := by simp at hi; omega
    rcases this with rfl | rfl <;> rfl))
theorem ints_lit3 (B : Nat) (w : World) (a b c : Int) (hB : B ≤ w.heap.size) : OwnI (w.alloc (.cells #[.int .i64 a, .int .i64 b, .int .i64 c] 2)) B (.slice (some ⟨w.heap.size, 0, none⟩) 3 3) [a, b, c] :=
  (OwnI.mk_ hB (blk_new w _) (by simp) (by simp) (by simp) (fun i hi => by
    have : i = 0 ∨ i = 1 ∨ i = 2 := by simp at hi; omega
    rcases this with rfl | rfl | rfl <;> rfl))
def FlagsAt (w : World) (B bl : Nat) (L : List Int) : Prop := ∃ u, w.cell? ⟨bl, 0, none⟩ = some u ∧ B ≤ bl ∧ bl < w.heap.size ∧ OwnI w B u L
theorem FlagsAt.grew {w w' : World} {B bl : Nat} {L : List Int} (h : FlagsAt w B bl L) (hg : Grew w w') : FlagsAt w' B bl L := by
  obtain ⟨u, h1, hB, h2, h3⟩ := h
  exact ⟨u, (hg.cell (p := ⟨bl, 0, none⟩) h2).trans h1, hB, Nat.lt_of_lt_of_le h2 hg.size, h3.grew hg⟩
theorem FlagsAt.only {w w' : World} {B bl g : Nat} {L : List Int} (h : FlagsAt w B bl L) (hg : Only g w w') (hB : g < B) : FlagsAt w' B bl L := by
  obtain ⟨u, h1, hB2, h2, h3⟩ := h
  exact ⟨u, (hg.cell (p := ⟨bl, 0, none⟩) h2 (by show bl ≠ g; omega)).trans h1, hB2, Nat.lt_of_lt_of_le h2 hg.size, own_only h3 hg (fun he => by have := own_of_ge h3 he; omega)⟩
theorem FlagsAt.base {w : World} {B bl : Nat} {L : List Int} (h : FlagsAt w (B + 1) bl L) : FlagsAt w B bl L := by
  obtain ⟨u, h1, hB2, h2, h3⟩ := h
  exact ⟨u, h1, by omega, h2, OwnI.base h3 (by omega)⟩
set_option maxHeartbeats 1000000 in
set_option maxRecDepth 10000 in
theorem conditions_c (w : World) : Calls Tryz.prog 91 #[] w fun e w' => ∃ b0 b1 b2 b3 b4 b5 b6 b7 b8 b9 b10, e = .returned (.agg #[.func (.func 166) #[] #[.pointer (some ⟨b0, 0, none⟩)], .func (.func 166) #[] #[.pointer (some ⟨b1, 0, none⟩)], .func (.func 166) #[] #[.pointer (some ⟨b2, 0, none⟩)], .func (.func 166) #[] #[.pointer (some ⟨b3, 0, none⟩)], .func (.func 166) #[] #[.pointer (some ⟨b4, 0, none⟩)], .func (.func 166) #[] #[.pointer (some ⟨b5, 0, none⟩)], .func (.func 166) #[] #[.pointer (some ⟨b6, 0, none⟩)], .func (.func 166) #[] #[.pointer (some ⟨b7, 0, none⟩)], .func (.func 166) #[] #[.pointer (some ⟨b8, 0, none⟩)], .func (.func 166) #[] #[.pointer (some ⟨b9, 0, none⟩)], .func (.func 133) #[] #[], .func (.func 136) #[] #[], .func (.func 166) #[] #[.pointer (some ⟨b10, 0, none⟩)]]) ∧ FlagsAt w' w.heap.size b0 [2] ∧ FlagsAt w' w.heap.size b1 [4] ∧ FlagsAt w' w.heap.size b2 [3] ∧ FlagsAt w' w.heap.size b3 [9] ∧ FlagsAt w' w.heap.size b4 [1] ∧ FlagsAt w' w.heap.size b5 [10] ∧ FlagsAt w' w.heap.size b6 [5] ∧ FlagsAt w' w.heap.size b7 [6] ∧ FlagsAt w' w.heap.size b8 [2, 7] ∧ FlagsAt w' w.heap.size b9 [0] ∧ FlagsAt w' w.heap.size b10 [0, 2, 8] ∧ Grew w w' := by
  obtain ⟨w0, hw0⟩ : ∃ w0, w0 = w.alloc (.cells #[.nilFunc, .nilFunc, .nilFunc, .nilFunc, .nilFunc, .nilFunc, .nilFunc, .nilFunc, .nilFunc, .nilFunc, .nilFunc, .nilFunc, .nilFunc] 109) := ⟨_, rfl⟩
  have g0 : Grew w0 w0 := Grew.refl w0
  have hgw : Grew w w0 := by rw [hw0]; exact (Grew.refl w).alloc _
  have hs0 : w0.heap.size = w.heap.size + 1 := by rw [hw0]; simp
  have HB := Lib.hid (show w0.heap[w.heap.size]? = some (.cells #[.nilFunc, .nilFunc, .nilFunc, .nilFunc, .nilFunc, .nilFunc, .nilFunc, .nilFunc, .nilFunc, .nilFunc, .nilFunc, .nilFunc, .nilFunc] 109 (0, 0)) by rw [hw0]; exact blk_new w _)
  have HL0 := Lib.hid (ints_lit1 (w.heap.size + 1) w0 2 (by omega))
  rw [hs0] at HL0
  go_enter Tryz.func91, Tryz.ntmps91
  go_wp2_with fail
  simp only [← hw0]
  clear hw0
  refine (flagCondition_c _ _ ⟨_, _, _, rfl⟩).mono ?_
  rintro e w1 ⟨b0, rfl, hc, hbl, hl, hg⟩
  simp only [World.size_alloc] at hbl
  have f0 := Lib.hid (show FlagsAt w1 (w.heap.size + 1) b0 [2] from ⟨_, hc, by omega, hl, (HL0.out).grew hg⟩)
  have g1 : Grew w0 w1 := g0.trans (((Grew.refl _).alloc _).trans hg)
  clear hc hbl hl hg g0
  go_wp2_with fail
  refine (flagCondition_c _ _ ⟨_, _, _, rfl⟩).mono ?_
  rintro e w2 ⟨b1, rfl, hc, hbl, hl, hg⟩
  simp only [World.size_alloc] at hbl
  have f1 := Lib.hid (show FlagsAt w2 (w.heap.size + 1) b1 [4] from ⟨_, hc, by have := g1.size; omega, hl, (ints_lit1 (w.heap.size + 1) w1 4 (by have := g1.size; omega)).grew hg⟩)
  replace f0 := Lib.hid (f0.out.grew (((Grew.refl w1).alloc _).trans hg))
  have g2 : Grew w0 w2 := g1.trans (((Grew.refl _).alloc _).trans hg)
  clear hc hbl hl hg g1
  go_wp2_with fail
  refine (flagCondition_c _ _ ⟨_, _, _, rfl⟩).mono ?_
  rintro e w3 ⟨b2, rfl, hc, hbl, hl, hg⟩
  simp only [World.size_alloc] at hbl
  have f2 := Lib.hid (show FlagsAt w3 (w.heap.size + 1) b2 [3] from ⟨_, hc, by have := g2.size; omega, hl, (ints_lit1 (w.heap.size + 1) w2 3 (by have := g2.size; omega)).grew hg⟩)
  replace f0 := Lib.hid (f0.out.grew (((Grew.refl w2).alloc _).trans hg))
  replace f1 := Lib.hid (f1.out.grew (((Grew.refl w2).alloc _).trans hg))
  have g3 : Grew w0 w3 := g2.trans (((Grew.refl _).alloc _).trans hg)
  clear hc hbl hl hg g2
  go_wp2_with fail
  refine (flagCondition_c _ _ ⟨_, _, _, rfl⟩).mono ?_
  rintro e w4 ⟨b3, rfl, hc, hbl, hl, hg⟩
  simp only [World.size_alloc] at hbl
  have f3 := Lib.hid (show FlagsAt w4 (w.heap.size + 1) b3 [9] from ⟨_, hc, by have := g3.size; omega, hl, (ints_lit1 (w.heap.size + 1) w3 9 (by have := g3.size; omega)).grew hg⟩)
  replace f0 := Lib.hid (f0.out.grew (((Grew.refl w3).alloc _).trans hg))
  replace f1 := Lib.hid (f1.out.grew (((Grew.refl w3).alloc _).trans hg))
  replace f2 := Lib.hid (f2.out.grew (((Grew.refl w3).alloc _).trans hg))
  have g4 : Grew w0 w4 := g3.trans (((Grew.refl _).alloc _).trans hg)
  clear hc hbl hl hg g3
  go_wp2_with fail
  refine (flagCondition_c _ _ ⟨_, _, _, rfl⟩).mono ?_
  rintro e w5 ⟨b4, rfl, hc, hbl, hl, hg⟩
  simp only [World.size_alloc] at hbl
  have f4 := Lib.hid (show FlagsAt w5 (w.heap.size + 1) b4 [1] from ⟨_, hc, by have := g4.size; omega, hl, (ints_lit1 (w.heap.size + 1) w4 1 (by have := g4.size; omega)).grew hg⟩)
  replace f0 := Lib.hid (f0.out.grew (((Grew.refl w4).alloc _).trans hg))
  replace f1 := Lib.hid (f1.out.grew (((Grew.refl w4).alloc _).trans hg))
  replace f2 := Lib.hid (f2.out.grew (((Grew.refl w4).alloc _).trans hg))
  replace f3 := Lib.hid (f3.out.grew (((Grew.refl w4).alloc _).trans hg))
  have g5 : Grew w0 w5 := g4.trans (((Grew.refl _).alloc _).trans hg)
  clear hc hbl hl hg g4
  go_wp2_with fail
  refine (flagCondition_c _ _ ⟨_, _, _, rfl⟩).mono ?_
  rintro e w6 ⟨b5, rfl, hc, hbl, hl, hg⟩
  simp only [World.size_alloc] at hbl
  have f5 := Lib.hid (show FlagsAt w6 (w.heap.size + 1) b5 [10] from ⟨_, hc, by have := g5.size; omega, hl, (ints_lit1 (w.heap.size + 1) w5 10 (by have := g5.size; omega)).grew hg⟩)
  replace f0 := Lib.hid (f0.out.grew (((Grew.refl w5).alloc _).trans hg))
  replace f1 := Lib.hid (f1.out.grew (((Grew.refl w5).alloc _).trans hg))
  replace f2 := Lib.hid (f2.out.grew (((Grew.refl w5).alloc _).trans hg))
  replace f3 := Lib.hid (f3.out.grew (((Grew.refl w5).alloc _).trans hg))
  replace f4 := Lib.hid (f4.out.grew (((Grew.refl w5).alloc _).trans hg))
  have g6 : Grew w0 w6 := g5.trans (((Grew.refl _).alloc _).trans hg)
  clear hc hbl hl hg g5
  go_wp2_with fail
  refine (flagCondition_c _ _ ⟨_, _, _, rfl⟩).mono ?_
  rintro e w7 ⟨b6, rfl, hc, hbl, hl, hg⟩
  simp only [World.size_alloc] at hbl
  have f6 := Lib.hid (show FlagsAt w7 (w.heap.size + 1) b6 [5] from ⟨_, hc, by have := g6.size; omega, hl, (ints_lit1 (w.heap.size + 1) w6 5 (by have := g6.size; omega)).grew hg⟩)
  replace f0 := Lib.hid (f0.out.grew (((Grew.refl w6).alloc _).trans hg))
  replace f1 := Lib.hid (f1.out.grew (((Grew.refl w6).alloc _).trans hg))
  replace f2 := Lib.hid (f2.out.grew (((Grew.refl w6).alloc _).trans hg))
  replace f3 := Lib.hid (f3.out.grew (((Grew.refl w6).alloc _).trans hg))
  replace f4 := Lib.hid (f4.out.grew (((Grew.refl w6).alloc _).trans hg))
  replace f5 := Lib.hid (f5.out.grew (((Grew.refl w6).alloc _).trans hg))
  have g7 : Grew w0 w7 := g6.trans (((Grew.refl _).alloc _).trans hg)
  clear hc hbl hl hg g6
  go_wp2_with fail
  refine (flagCondition_c _ _ ⟨_, _, _, rfl⟩).mono ?_
  rintro e w8 ⟨b7, rfl, hc, hbl, hl, hg⟩
  simp only [World.size_alloc] at hbl
  have f7 := Lib.hid (show FlagsAt w8 (w.heap.size + 1) b7 [6] from ⟨_, hc, by have := g7.size; omega, hl, (ints_lit1 (w.heap.size + 1) w7 6 (by have := g7.size; omega)).grew hg⟩)
  replace f0 := Lib.hid (f0.out.grew (((Grew.refl w7).alloc _).trans hg))
  replace f1 := Lib.hid (f1.out.grew (((Grew.refl w7).alloc _).trans hg))
  replace f2 := Lib.hid (f2.out.grew (((Grew.refl w7).alloc _).trans hg))
  replace f3 := Lib.hid (f3.out.grew (((Grew.refl w7).alloc _).trans hg))
  replace f4 := Lib.hid (f4.out.grew (((Grew.refl w7).alloc _).trans hg))
  replace f5 := Lib.hid (f5.out.grew (((Grew.refl w7).alloc _).trans hg))
  replace f6 := Lib.hid (f6.out.grew (((Grew.refl w7).alloc _).trans hg))
  have g8 : Grew w0 w8 := g7.trans (((Grew.refl _).alloc _).trans hg)
  clear hc hbl hl hg g7
  go_wp2_with fail
  refine (flagCondition_c _ _ ⟨_, _, _, rfl⟩).mono ?_
  rintro e w9 ⟨b8, rfl, hc, hbl, hl, hg⟩
  simp only [World.size_alloc] at hbl
  have f8 := Lib.hid (show FlagsAt w9 (w.heap.size + 1) b8 [2, 7] from ⟨_, hc, by have := g8.size; omega, hl, (ints_lit2 (w.heap.size + 1) w8 2 7 (by have := g8.size; omega)).grew hg⟩)
  replace f0 := Lib.hid (f0.out.grew (((Grew.refl w8).alloc _).trans hg))
  replace f1 := Lib.hid (f1.out.grew (((Grew.refl w8).alloc _).trans hg))
  replace f2 := Lib.hid (f2.out.grew (((Grew.refl w8).alloc _).trans hg))
  replace f3 := Lib.hid (f3.out.grew (((Grew.refl w8).alloc _).trans hg))
  replace f4 := Lib.hid (f4.out.grew (((Grew.refl w8).alloc _).trans hg))
  replace f5 := Lib.hid (f5.out.grew (((Grew.refl w8).alloc _).trans hg))
  replace f6 := Lib.hid (f6.out.grew (((Grew.refl w8).alloc _).trans hg))
  replace f7 := Lib.hid (f7.out.grew (((Grew.refl w8).alloc _).trans hg))
  have g9 : Grew w0 w9 := g8.trans (((Grew.refl _).alloc _).trans hg)
  clear hc hbl hl hg g8
  go_wp2_with fail
  refine (flagCondition_c _ _ ⟨_, _, _, rfl⟩).mono ?_
  rintro e w10 ⟨b9, rfl, hc, hbl, hl, hg⟩
  simp only [World.size_alloc] at hbl
  have f9 := Lib.hid (show FlagsAt w10 (w.heap.size + 1) b9 [0] from ⟨_, hc, by have := g9.size; omega, hl, (ints_lit1 (w.heap.size + 1) w9 0 (by have := g9.size; omega)).grew hg⟩)
  replace f0 := Lib.hid (f0.out.grew (((Grew.refl w9).alloc _).trans hg))
  replace f1 := Lib.hid (f1.out.grew (((Grew.refl w9).alloc _).trans hg))
  replace f2 := Lib.hid (f2.out.grew (((Grew.refl w9).alloc _).trans hg))
  replace f3 := Lib.hid (f3.out.grew (((Grew.refl w9).alloc _).trans hg))
  replace f4 := Lib.hid (f4.out.grew (((Grew.refl w9).alloc _).trans hg))
  replace f5 := Lib.hid (f5.out.grew (((Grew.refl w9).alloc _).trans hg))
  replace f6 := Lib.hid (f6.out.grew (((Grew.refl w9).alloc _).trans hg))
  replace f7 := Lib.hid (f7.out.grew (((Grew.refl w9).alloc _).trans hg))
  replace f8 := Lib.hid (f8.out.grew (((Grew.refl w9).alloc _).trans hg))
  have g10 : Grew w0 w10 := g9.trans (((Grew.refl _).alloc _).trans hg)
  clear hc hbl hl hg g9
  go_wp2_with fail
  refine (flagCondition_c _ _ ⟨_, _, _, rfl⟩).mono ?_
  rintro e w11 ⟨b10, rfl, hc, hbl, hl, hg⟩
  simp only [World.size_alloc] at hbl
  have f10 := Lib.hid (show FlagsAt w11 (w.heap.size + 1) b10 [0, 2, 8] from ⟨_, hc, by have := g10.size; omega, hl, (ints_lit3 (w.heap.size + 1) w10 0 2 8 (by have := g10.size; omega)).grew hg⟩)
  replace f0 := Lib.hid (f0.out.grew (((Grew.refl w10).alloc _).trans hg))
  replace f1 := Lib.hid (f1.out.grew (((Grew.refl w10).alloc _).trans hg))
  replace f2 := Lib.hid (f2.out.grew (((Grew.refl w10).alloc _).trans hg))
  replace f3 := Lib.hid (f3.out.grew (((Grew.refl w10).alloc _).trans hg))
  replace f4 := Lib.hid (f4.out.grew (((Grew.refl w10).alloc _).trans hg))
  replace f5 := Lib.hid (f5.out.grew (((Grew.refl w10).alloc _).trans hg))
  replace f6 := Lib.hid (f6.out.grew (((Grew.refl w10).alloc _).trans hg))
  replace f7 := Lib.hid (f7.out.grew (((Grew.refl w10).alloc _).trans hg))
  replace f8 := Lib.hid (f8.out.grew (((Grew.refl w10).alloc _).trans hg))
  replace f9 := Lib.hid (f9.out.grew (((Grew.refl w10).alloc _).trans hg))
  have g11 : Grew w0 w11 := g10.trans (((Grew.refl _).alloc _).trans hg)
  clear hc hbl hl hg g10
  have hb := (g11.block (by omega)).trans HB.out
  have hinfo : (Tryz.prog.info? 109).map (·.size) = some 13 := by kernel_rfl
  have hO0 : Only w.heap.size w11 w11 := Only.refl _ _
  have hb0 := hb
  have k0 : w11.cell? ⟨w.heap.size, 0, none⟩ = some .nilFunc := by rw [blk_cell hb]; rfl
  have r0 := blk_frozen hb 0
  have k1 : w11.cell? ⟨w.heap.size, 1, none⟩ = some .nilFunc := by rw [blk_cell hb]; rfl
  have r1 := blk_frozen hb 1
  have k2 : w11.cell? ⟨w.heap.size, 2, none⟩ = some .nilFunc := by rw [blk_cell hb]; rfl
  have r2 := blk_frozen hb 2
  have k3 : w11.cell? ⟨w.heap.size, 3, none⟩ = some .nilFunc := by rw [blk_cell hb]; rfl
  have r3 := blk_frozen hb 3
  have k4 : w11.cell? ⟨w.heap.size, 4, none⟩ = some .nilFunc := by rw [blk_cell hb]; rfl
  have r4 := blk_frozen hb 4
  have k5 : w11.cell? ⟨w.heap.size, 5, none⟩ = some .nilFunc := by rw [blk_cell hb]; rfl
  have r5 := blk_frozen hb 5
  have k6 : w11.cell? ⟨w.heap.size, 6, none⟩ = some .nilFunc := by rw [blk_cell hb]; rfl
  have r6 := blk_frozen hb 6
  have k7 : w11.cell? ⟨w.heap.size, 7, none⟩ = some .nilFunc := by rw [blk_cell hb]; rfl
  have r7 := blk_frozen hb 7
  have k8 : w11.cell? ⟨w.heap.size, 8, none⟩ = some .nilFunc := by rw [blk_cell hb]; rfl
  have r8 := blk_frozen hb 8
  have k9 : w11.cell? ⟨w.heap.size, 9, none⟩ = some .nilFunc := by rw [blk_cell hb]; rfl
  have r9 := blk_frozen hb 9
  have k10 : w11.cell? ⟨w.heap.size, 10, none⟩ = some .nilFunc := by rw [blk_cell hb]; rfl
  have r10 := blk_frozen hb 10
  have k11 : w11.cell? ⟨w.heap.size, 11, none⟩ = some .nilFunc := by rw [blk_cell hb]; rfl
  have r11 := blk_frozen hb 11
  have k12 : w11.cell? ⟨w.heap.size, 12, none⟩ = some .nilFunc := by rw [blk_cell hb]; rfl
  have r12 := blk_frozen hb 12
  obtain ⟨X1, hX1⟩ : ∃ X, X = w11.setCell ⟨w.heap.size, 0, none⟩ (.func (.func 166) #[] #[.pointer (some ⟨b0, 0, none⟩)]) := ⟨_, rfl⟩
  have hb1 : X1.heap[w.heap.size]? = some (.cells #[.func (.func 166) #[] #[.pointer (some ⟨b0, 0, none⟩)], .nilFunc, .nilFunc, .nilFunc, .nilFunc, .nilFunc, .nilFunc, .nilFunc, .nilFunc, .nilFunc, .nilFunc, .nilFunc, .nilFunc] 109 (0, 0)) := by rw [hX1]; exact blk_set hb0 0 _
  have hO1 : Only w.heap.size w11 X1 := by rw [hX1]; exact hO0.setCell _
  clear hb0 hO0
  obtain ⟨X2, hX2⟩ : ∃ X, X = X1.setCell ⟨w.heap.size, 1, none⟩ (.func (.func 166) #[] #[.pointer (some ⟨b1, 0, none⟩)]) := ⟨_, rfl⟩
  have hb2 : X2.heap[w.heap.size]? = some (.cells #[.func (.func 166) #[] #[.pointer (some ⟨b0, 0, none⟩)], .func (.func 166) #[] #[.pointer (some ⟨b1, 0, none⟩)], .nilFunc, .nilFunc, .nilFunc, .nilFunc, .nilFunc, .nilFunc, .nilFunc, .nilFunc, .nilFunc, .nilFunc, .nilFunc] 109 (0, 0)) := by rw [hX2]; exact blk_set hb1 1 _
  have hO2 : Only w.heap.size w11 X2 := by rw [hX2]; exact hO1.setCell _
  clear hb1 hO1
  obtain ⟨X3, hX3⟩ : ∃ X, X = X2.setCell ⟨w.heap.size, 2, none⟩ (.func (.func 166) #[] #[.pointer (some ⟨b2, 0, none⟩)]) := ⟨_, rfl⟩
  have hb3 : X3.heap[w.heap.size]? = some (.cells #[.func (.func 166) #[] #[.pointer (some ⟨b0, 0, none⟩)], .func (.func 166) #[] #[.pointer (some ⟨b1, 0, none⟩)], .func (.func 166) #[] #[.pointer (some ⟨b2, 0, none⟩)], .nilFunc, .nilFunc, .nilFunc, .nilFunc, .nilFunc, .nilFunc, .nilFunc, .nilFunc, .nilFunc, .nilFunc] 109 (0, 0)) := by rw [hX3]; exact blk_set hb2 2 _
  have hO3 : Only w.heap.size w11 X3 := by rw [hX3]; exact hO2.setCell _
  clear hb2 hO2
  obtain ⟨X4, hX4⟩ : ∃ X, X = X3.setCell ⟨w.heap.size, 3, none⟩ (.func (.func 166) #[] #[.pointer (some ⟨b3, 0, none⟩)]) := ⟨_, rfl⟩
  have hb4 : X4.heap[w.heap.size]? = some (.cells #[.func (.func 166) #[] #[.pointer (some ⟨b0, 0, none⟩)], .func (.func 166) #[] #[.pointer (some ⟨b1, 0, none⟩)], .func (.func 166) #[] #[.pointer (some ⟨b2, 0, none⟩)], .func (.func 166) #[] #[.pointer (some ⟨b3, 0, none⟩)], .nilFunc, .nilFunc, .nilFunc, .nilFunc, .nilFunc, .nilFunc, .nilFunc, .nilFunc, .nilFunc] 109 (0, 0)) := by rw [hX4]; exact blk_set hb3 3 _
  have hO4 : Only w.heap.size w11 X4 := by rw [hX4]; exact hO3.setCell _
  clear hb3 hO3
  obtain ⟨X5, hX5⟩ : ∃ X, X = X4.setCell ⟨w.heap.size, 4, none⟩ (.func (.func 166) #[] #[.pointer (some ⟨b4, 0, none⟩)]) := ⟨_, rfl⟩
  have hb5 : X5.heap[w.heap.size]? = some (.cells #[.func (.func 166) #[] #[.pointer (some ⟨b0, 0, none⟩)], .func (.func 166) #[] #[.pointer (some ⟨b1, 0, none⟩)], .func (.func 166) #[] #[.pointer (some ⟨b2, 0, none⟩)], .func (.func 166) #[] #[.pointer (some ⟨b3, 0, none⟩)], .func (.func 166) #[] #[.pointer (some ⟨b4, 0, none⟩)], .nilFunc, .nilFunc, .nilFunc, .nilFunc, .nilFunc, .nilFunc, .nilFunc, .nilFunc] 109 (0, 0)) := by rw [hX5]; exact blk_set hb4 4 _
  have hO5 : Only w.heap.size w11 X5 := by rw [hX5]; exact hO4.setCell _
  clear hb4 hO4
  obtain ⟨X6, hX6⟩ : ∃ X, X = X5.setCell ⟨w.heap.size, 5, none⟩ (.func (.func 166) #[] #[.pointer (some ⟨b5, 0, none⟩)]) := ⟨_, rfl⟩
  have hb6 : X6.heap[w.heap.size]? = some (.cells #[.func (.func 166) #[] #[.pointer (some ⟨b0, 0, none⟩)], .func (.func 166) #[] #[.pointer (some ⟨b1, 0, none⟩)], .func (.func 166) #[] #[.pointer (some ⟨b2, 0, none⟩)], .func (.func 166) #[] #[.pointer (some ⟨b3, 0, none⟩)], .func (.func 166) #[] #[.pointer (some ⟨b4, 0, none⟩)], .func (.func 166) #[] #[.pointer (some ⟨b5, 0, none⟩)], .nilFunc, .nilFunc, .nilFunc, .nilFunc, .nilFunc, .nilFunc, .nilFunc] 109 (0, 0)) := by rw [hX6]; exact blk_set hb5 5 _
  have hO6 : Only w.heap.size w11 X6 := by rw [hX6]; exact hO5.setCell _
  clear hb5 hO5
  obtain ⟨X7, hX7⟩ : ∃ X, X = X6.setCell ⟨w.heap.size, 6, none⟩ (.func (.func 166) #[] #[.pointer (some ⟨b6, 0, none⟩)]) := ⟨_, rfl⟩
  have hb7 : X7.heap[w.heap.size]? = some (.cells #[.func (.func 166) #[] #[.pointer (some ⟨b0, 0, none⟩)], .func (.func 166) #[] #[.pointer (some ⟨b1, 0, none⟩)], .func (.func 166) #[] #[.pointer (some ⟨b2, 0, none⟩)], .func (.func 166) #[] #[.pointer (some ⟨b3, 0, none⟩)], .func (.func 166) #[] #[.pointer (some ⟨b4, 0, none⟩)], .func (.func 166) #[] #[.pointer (some ⟨b5, 0, none⟩)], .func (.func 166) #[] #[.pointer (some ⟨b6, 0, none⟩)], .nilFunc, .nilFunc, .nilFunc, .nilFunc, .nilFunc, .nilFunc] 109 (0, 0)) := by rw [hX7]; exact blk_set hb6 6 _
  have hO7 : Only w.heap.size w11 X7 := by rw [hX7]; exact hO6.setCell _
  clear hb6 hO6
  obtain ⟨X8, hX8⟩ : ∃ X, X = X7.setCell ⟨w.heap.size, 7, none⟩ (.func (.func 166) #[] #[.pointer (some ⟨b7, 0, none⟩)]) := ⟨_, rfl⟩
  have hb8 : X8.heap[w.heap.size]? = some (.cells #[.func (.func 166) #[] #[.pointer (some ⟨b0, 0, none⟩)], .func (.func 166) #[] #[.pointer (some ⟨b1, 0, none⟩)], .func (.func 166) #[] #[.pointer (some ⟨b2, 0, none⟩)], .func (.func 166) #[] #[.pointer (some ⟨b3, 0, none⟩)], .func (.func 166) #[] #[.pointer (some ⟨b4, 0, none⟩)], .func (.func 166) #[] #[.pointer (some ⟨b5, 0, none⟩)], .func (.func 166) #[] #[.pointer (some ⟨b6, 0, none⟩)], .func (.func 166) #[] #[.pointer (some ⟨b7, 0, none⟩)], .nilFunc, .nilFunc, .nilFunc, .nilFunc, .nilFunc] 109 (0, 0)) := by rw [hX8]; exact blk_set hb7 7 _
  have hO8 : Only w.heap.size w11 X8 := by rw [hX8]; exact hO7.setCell _
  clear hb7 hO7
  obtain ⟨X9, hX9⟩ : ∃ X, X = X8.setCell ⟨w.heap.size, 8, none⟩ (.func (.func 166) #[] #[.pointer (some ⟨b8, 0, none⟩)]) := ⟨_, rfl⟩
  have hb9 : X9.heap[w.heap.size]? = some (.cells #[.func (.func 166) #[] #[.pointer (some ⟨b0, 0, none⟩)], .func (.func 166) #[] #[.pointer (some ⟨b1, 0, none⟩)], .func (.func 166) #[] #[.pointer (some ⟨b2, 0, none⟩)], .func (.func 166) #[] #[.pointer (some ⟨b3, 0, none⟩)], .func (.func 166) #[] #[.pointer (some ⟨b4, 0, none⟩)], .func (.func 166) #[] #[.pointer (some ⟨b5, 0, none⟩)], .func (.func 166) #[] #[.pointer (some ⟨b6, 0, none⟩)], .func (.func 166) #[] #[.pointer (some ⟨b7, 0, none⟩)], .func (.func 166) #[] #[.pointer (some ⟨b8, 0, none⟩)], .nilFunc, .nilFunc, .nilFunc, .nilFunc] 109 (0, 0)) := by rw [hX9]; exact blk_set hb8 8 _
  have hO9 : Only w.heap.size w11 X9 := by rw [hX9]; exact hO8.setCell _
  clear hb8 hO8
  obtain ⟨X10, hX10⟩ : ∃ X, X = X9.setCell ⟨w.heap.size, 9, none⟩ (.func (.func 166) #[] #[.pointer (some ⟨b9, 0, none⟩)]) := ⟨_, rfl⟩
  have hb10 : X10.heap[w.heap.size]? = some (.cells #[.func (.func 166) #[] #[.pointer (some ⟨b0, 0, none⟩)], .func (.func 166) #[] #[.pointer (some ⟨b1, 0, none⟩)], .func (.func 166) #[] #[.pointer (some ⟨b2, 0, none⟩)], .func (.func 166) #[] #[.pointer (some ⟨b3, 0, none⟩)], .func (.func 166) #[] #[.pointer (some ⟨b4, 0, none⟩)], .func (.func 166) #[] #[.pointer (some ⟨b5, 0, none⟩)], .func (.func 166) #[] #[.pointer (some ⟨b6, 0, none⟩)], .func (.func 166) #[] #[.pointer (some ⟨b7, 0, none⟩)], .func (.func 166) #[] #[.pointer (some ⟨b8, 0, none⟩)], .func (.func 166) #[] #[.pointer (some ⟨b9, 0, none⟩)], .nilFunc, .nilFunc, .nilFunc] 109 (0, 0)) := by rw [hX10]; exact blk_set hb9 9 _
  have hO10 : Only w.heap.size w11 X10 := by rw [hX10]; exact hO9.setCell _
  clear hb9 hO9
  obtain ⟨X11, hX11⟩ : ∃ X, X = X10.setCell ⟨w.heap.size, 10, none⟩ (.func (.func 133) #[] #[]) := ⟨_, rfl⟩
  have hb11 : X11.heap[w.heap.size]? = some (.cells #[.func (.func 166) #[] #[.pointer (some ⟨b0, 0, none⟩)], .func (.func 166) #[] #[.pointer (some ⟨b1, 0, none⟩)], .func (.func 166) #[] #[.pointer (some ⟨b2, 0, none⟩)], .func (.func 166) #[] #[.pointer (some ⟨b3, 0, none⟩)], .func (.func 166) #[] #[.pointer (some ⟨b4, 0, none⟩)], .func (.func 166) #[] #[.pointer (some ⟨b5, 0, none⟩)], .func (.func 166) #[] #[.pointer (some ⟨b6, 0, none⟩)], .func (.func 166) #[] #[.pointer (some ⟨b7, 0, none⟩)], .func (.func 166) #[] #[.pointer (some ⟨b8, 0, none⟩)], .func (.func 166) #[] #[.pointer (some ⟨b9, 0, none⟩)], .func (.func 133) #[] #[], .nilFunc, .nilFunc] 109 (0, 0)) := by rw [hX11]; exact blk_set hb10 10 _
  have hO11 : Only w.heap.size w11 X11 := by rw [hX11]; exact hO10.setCell _
  clear hb10 hO10
  obtain ⟨X12, hX12⟩ : ∃ X, X = X11.setCell ⟨w.heap.size, 11, none⟩ (.func (.func 136) #[] #[]) := ⟨_, rfl⟩
  have hb12 : X12.heap[w.heap.size]? = some (.cells #[.func (.func 166) #[] #[.pointer (some ⟨b0, 0, none⟩)], .func (.func 166) #[] #[.pointer (some ⟨b1, 0, none⟩)], .func (.func 166) #[] #[.pointer (some ⟨b2, 0, none⟩)], .func (.func 166) #[] #[.pointer (some ⟨b3, 0, none⟩)], .func (.func 166) #[] #[.pointer (some ⟨b4, 0, none⟩)], .func (.func 166) #[] #[.pointer (some ⟨b5, 0, none⟩)], .func (.func 166) #[] #[.pointer (some ⟨b6, 0, none⟩)], .func (.func 166) #[] #[.pointer (some ⟨b7, 0, none⟩)], .func (.func 166) #[] #[.pointer (some ⟨b8, 0, none⟩)], .func (.func 166) #[] #[.pointer (some ⟨b9, 0, none⟩)], .func (.func 133) #[] #[], .func (.func 136) #[] #[], .nilFunc] 109 (0, 0)) := by rw [hX12]; exact blk_set hb11 11 _
  have hO12 : Only w.heap.size w11 X12 := by rw [hX12]; exact hO11.setCell _
  clear hb11 hO11
  obtain ⟨X13, hX13⟩ : ∃ X, X = X12.setCell ⟨w.heap.size, 12, none⟩ (.func (.func 166) #[] #[.pointer (some ⟨b10, 0, none⟩)]) := ⟨_, rfl⟩
  have hb13 : X13.heap[w.heap.size]? = some (.cells #[.func (.func 166) #[] #[.pointer (some ⟨b0, 0, none⟩)], .func (.func 166) #[] #[.pointer (some ⟨b1, 0, none⟩)], .func (.func 166) #[] #[.pointer (some ⟨b2, 0, none⟩)], .func (.func 166) #[] #[.pointer (some ⟨b3, 0, none⟩)], .func (.func 166) #[] #[.pointer (some ⟨b4, 0, none⟩)], .func (.func 166) #[] #[.pointer (some ⟨b5, 0, none⟩)], .func (.func 166) #[] #[.pointer (some ⟨b6, 0, none⟩)], .func (.func 166) #[] #[.pointer (some ⟨b7, 0, none⟩)], .func (.func 166) #[] #[.pointer (some ⟨b8, 0, none⟩)], .func (.func 166) #[] #[.pointer (some ⟨b9, 0, none⟩)], .func (.func 133) #[] #[], .func (.func 136) #[] #[], .func (.func 166) #[] #[.pointer (some ⟨b10, 0, none⟩)]] 109 (0, 0)) := by rw [hX13]; exact blk_set hb12 12 _
  have hO13 : Only w.heap.size w11 X13 := by rw [hX13]; exact hO12.setCell _
  clear hb12 hO12
  have HF := Lib.hid hb13
  have HO := Lib.hid hO13
  have HG := Lib.hid (hO13.grew_of (hgw.trans g11) (Nat.le_refl _))
  clear hb13 hO13 hb hgw g11 HB HL0 hs0
  go_wp2_with fail
  rw [← hX1, ← hX2, ← hX3, ← hX4, ← hX5, ← hX6, ← hX7, ← hX8, ← hX9, ← hX10, ← hX11, ← hX12, ← hX13]
  (try simp only [Exit.inBlock, Exit.then])
  refine bodyPost_ret (results_cell_row rfl _ _ w.heap.size _ _ _ _ rfl HF.out Tryz.underlying109 rfl hinfo) rfl ?_
  exact ⟨_, _, _, _, _, _, _, _, _, _, _, rfl, (f0.out.only HO.out (by omega)).base, (f1.out.only HO.out (by omega)).base, (f2.out.only HO.out (by omega)).base, (f3.out.only HO.out (by omega)).base, (f4.out.only HO.out (by omega)).base, (f5.out.only HO.out (by omega)).base, (f6.out.only HO.out (by omega)).base, (f7.out.only HO.out (by omega)).base, (f8.out.only HO.out (by omega)).base, (f9.out.only HO.out (by omega)).base, (f10.out.only HO.out (by omega)).base, HG.out⟩
end Go.Proofs.YtpfncncohnhanaaGreatDoor


/- The laws' own helpers on slices of nodes: eqNode, eqNodeS. -/
namespace Go.Proofs.YtpfncncohnhanaaGreatDoor
open Go.RowKit
open Fm (Nd)

end Go.Proofs.YtpfncncohnhanaaGreatDoor


/- The laws' own helpers on slices of nodes: markNodeS, heldNodeS. -/
namespace Go.Proofs.YtpfncncohnhanaaGreatDoor
open Go.RowKit
open Fm (Nd)

end Go.Proofs.YtpfncncohnhanaaGreatDoor


/- The law FnExactAxiomFormula, walked. -/
namespace Go.Proofs.YtpfncncohnhanaaGreatDoor
open Go.RowKit
open Fm (Nd)

set_option maxRecDepth 100000 in
theorem axiomAt_c (s : ByteArray) (w : World) (hT : TabAt w 1 axNames) :
    Calls Tryz.prog 47 #[.string s] w fun e w' => e = .returned (.int .i64 (findS axNames s)) ∧ Grew w w' := by
  obtain ⟨t, hT⟩ := hT
  obtain ⟨R, hR⟩ : ∃ R, R = findS axNames s := ⟨_, rfl⟩
  rw [← hR]
  have HA := Lib.hid (fun k hk h1 h2 => hR.trans (@findS_at axNames s k hk h1 h2))
  have HZ := Lib.hid (fun h => hR.trans (@findS_none axNames s h))
  have HI := Lib.hid index_names
  have hinfo : (Tryz.prog.info? 76).map (·.size) = some (scells axNames).toArray.size := by kernel_rfl
  have HF := Lib.hid hinfo
  have HT := Lib.hid hT
  rw [axNames_len] at HA HZ
  clear hR hinfo hT
  generalize hC : (scells axNames).toArray = C at *
  clear hC
  go_enter Tryz.func47, Tryz.ntmps47
  go_wp2_with (with_reducible refine wpList_load_row rfl 76 _ rfl 1 rfl t C _ _ HT.out Tryz.underlying76 rfl HF.out ?_)
  go_loopg [3, 4, 6] 13 (fun k _ _ i wr => ∃ j : Nat, j ≤ 13 ∧ k = 13 - j ∧ i = .int .i64 j ∧ Grew w wr ∧ Hid (NotIn axNames s j))
  case atStart => exact ⟨0, by omega, by omega, rfl, Grew.refl _, NotIn.zero _ _⟩
  case round =>
    obtain ⟨j, hj, rfl, rfl, hB, HJ⟩ := hrel
    by_cases hlt : j < 13
    · have hix := fun W => HI.out j hlt W
      cases he : ((st axNames j).toList == s.toList) with
      | true =>
        have hv := Lib.hid (HA.out j hlt HJ.out he)
        generalize st axNames j = x at *
        go_wp2_with fail
        go_ret
        rw [hv.out]
        exact ⟨rfl, hB⟩
      | false =>
        have HS := Lib.hid (HJ.out.succ he)
        generalize st axNames j = x at *
        go_wp2_with fail
        go_roundg (13 - (j + 1))
        case measure => omega
        case rel => exact ⟨j + 1, by omega, rfl, by go_num, hB, HS⟩
    · have hjn : j = 13 := by omega
      subst hjn
      have hv := Lib.hid (HZ.out HJ.out)
      go_wp2_with fail
      go_ret
      rw [hv.out]
      exact ⟨rfl, hB⟩

end Go.Proofs.YtpfncncohnhanaaGreatDoor


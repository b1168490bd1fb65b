/- Texts in one file: KrB KrI KrF TwoF TwoT KrS MbF MbE Make MbW MbR MbX MbH Range MbP MbQ MbY MbZ MbU MbSq MbO MbEl IsF IsS FmTree MnA MnB MnC CmpI ShelfI SrtI MnD MvT MvF AlI AlG AlH. -/
import Derived.Deep.RegionHeld3
import Derived.Deep.QuietTactic
import Derived.BigQuiet
import Derived.Deep.LoopGhost
import Derived.Lib.SliceRun
import Derived.Lib.SlicesS
import Derived.Outline
import Derived.Deep.OwnRows
import Derived.Shelf.Abstract
import Derived.Test.YtopjgcbhjhhlfaaGreatProg
import Derived.MapKept
import Derived.Maps.OwnOps
import Derived.Maps.OwnSet
import Derived.Lib.OwnBridge
import Derived.Lib.RowBridge
import Derived.Sort.OwnSortedInts
import Derived.Ground.SlgnProg
import Derived.Shelf.SlicesG.CompactI
import Derived.Ground.SlgmProg
import Derived.Shelf.SortM.Plain
import Derived.Shelf.SortM.SortNone
import Derived.Carry
import Derived.Maps.AppendAt
import Derived.Test.YtopjgcbhjhhlfaaGreatPa1
set_option linter.all false

/- Boxes: box of the program, l01Box of the reference. -/
namespace Go.Proofs.YtopjgcbhjhhlfaaGreat
open Go.RowKit

theorem box_q (v : Value) (A : List Nat) (m : Nat) (w : World) (h : Ints w v (zs A)) (hA : Sm A) (hn30 : A.length ≤ 30) (hm : m < 9223372036854775808) :
    Calls Tryz.prog 105 #[v, .int .i64 (m : Int)] w fun e w' => e = .returned (.int .i64 ((bx A m : Nat) : Int)) ∧ w' = w := by
  have HW := Lib.hid (fun a (ha : a < 1073741824) W => within_q a m (by omega) hm W)
  have HR := Lib.hid (show bxK A m A.length = bx A m from rfl)
  have HY := Lib.hid (fun k => @bxK_yes A m k)
  have HN := Lib.hid (fun k => @bxK_no A m k)
  have HS := Lib.hid (fun k (hk : k ≤ 30) => bxK_sm (A := A) (m := m) hk)
  have HT := Lib.hid (fun i (hi : i < A.length) => hA.at_ hi)
  have HO := Lib.hid (fun a b (ha : a < 1073741824) (hb : b < 1073741824) => or_i64 a b (by omega) (by omega))
  have HP := Lib.hid (fun k (hk : k ≤ 30) => wrap_pow hk)
  have HP2 := Lib.hid (fun k (hk : k < 30) => pow30 hk)
  obtain ⟨A', c, rfl⟩ := ints_sliceN h
  have HC := Lib.hid (fun h0 => cellsN h h0)
  clear hm h hA
  generalize bx A m = R at *
  generalize hNA : A.length = n at *
  clear hNA
  go_enter Tryz.func105, Tryz.ntmps105
  go_wp2_with fail
  go_loopw [5, 6, 7, 10] (fun q _ _ i wr => ∃ j : Nat, j ≤ n ∧ i = .int .i64 j ∧ q = .int .i64 ((bxK A m j : Nat) : Int) ∧ wr = w) (fun _ _ _ i _ => n - (intOf i).toNat)
  case atStart => exact ⟨0, by omega, rfl, rfl, rfl⟩
  case round =>
    obtain ⟨j, hj, rfl, rfl, rfl⟩ := hrel
    by_cases hlt : j < n
    · obtain ⟨b2, o2, rfl, hcell2⟩ := HC.out (by omega)
      have hH := Lib.hid (HW.out _ (HT.out j hlt))
      have ho := HO.out _ _ (HS.out j (by omega)) (HP2.out j (by omega))
      have hp := HP.out j (by omega)
      have hY := Lib.hid (HY.out j)
      have hN := Lib.hid (HN.out j)
      have k1 := hcell2 j hlt _ (Grew.refl _)
      clear hcell2
      generalize nt A j = y at *
      generalize decide (dif y m = 0) = t at *
      generalize hsj : bxK A m j = sj at *
      clear hsj
      generalize hpj : (2 ^ j : Nat) = pj at *
      clear hpj
      go_wp2_with fail
      refine (hH.out _).mono ?_
      rintro e w2 ⟨rfl, rfl⟩
      cases t with
      | true =>
        have hy := Lib.hid (hY.out rfl)
        go_wp2_with fail
        go_roundw
        case rel => exact ⟨j + 1, by omega, by go_num, by rw [hy.out], by trivial⟩
        case measure => simp [intOf]; omega
      | false =>
        have hn := Lib.hid (hN.out rfl)
        go_wp2_with fail
        go_roundw
        case rel => exact ⟨j + 1, by omega, by go_num, by rw [hn.out], by trivial⟩
        case measure => simp [intOf]; omega
    · obtain rfl : j = n := by omega
      have hr := Lib.hid HR.out
      go_wp2_with fail
      go_ret
      exact ⟨by rw [hr.out]; rfl, rfl⟩
theorem l01Box_q (v : Value) (A : List Nat) (m : Nat) (w : World) (h : Ints w v (zs A)) (hA : Sm A) (hn30 : A.length ≤ 30) (hm : m < 9223372036854775808) :
    Calls Tryz.prog 109 #[v, .int .i64 (m : Int)] w fun e w' => e = .returned (.int .i64 ((bx A m : Nat) : Int)) ∧ ∃ d, w' = w.drewN d := by
  have HR := Lib.hid (show bxK A m A.length = bx A m from rfl)
  have HY := Lib.hid (fun k => @bxK_yes A m k)
  have HN := Lib.hid (fun k => @bxK_no A m k)
  have HS := Lib.hid (fun k (hk : k ≤ 30) => bxK_sm (A := A) (m := m) hk)
  have HT := Lib.hid (fun i (hi : i < A.length) => hA.at_ hi)
  have HO := Lib.hid (fun a b (ha : a < 1073741824) (hb : b < 1073741824) => or_i64 a b (by omega) (by omega))
  have HA := Lib.hid (fun a (ha : a < 1073741824) => and_i64 a m (by omega) hm)
  have HE := Lib.hid (fun a : Nat => show (((a &&& m : Nat) : Int) == (a : Int)) = decide (dif a m = 0) from by
    rw [Bool.eq_iff_iff, decide_eq_true_eq, ← and_dif, beq_iff_eq]
    omega)
  have HOne := Lib.hid (fun i (hi : i ≤ 30) W => l01One_q i hi W)
  have HP2 := Lib.hid (fun k (hk : k < 30) => pow30 hk)
  obtain ⟨A', c, rfl⟩ := ints_sliceN h
  have HC := Lib.hid (fun h0 => cellsN h h0)
  clear hm h hA
  generalize bx A m = R at *
  generalize hNA : A.length = n at *
  clear hNA
  go_enter Tryz.func109, Tryz.ntmps109
  go_wp2_with fail
  go_loopw [5, 6] (fun q i wr => ∃ j d : Nat, j ≤ n ∧ i = .int .i64 j ∧ q = .int .i64 ((bxK A m j : Nat) : Int) ∧ wr = w.drewN d) (fun _ i _ => n - (intOf i).toNat)
  case atStart => exact ⟨0, 0, by omega, rfl, rfl, rfl⟩
  case round =>
    obtain ⟨j, d, hj, rfl, rfl, rfl⟩ := hrel
    by_cases hlt : j < n
    · obtain ⟨b2, o2, rfl, hcell2⟩ := HC.out (by omega)
      have hH := Lib.hid (HOne.out j (by omega))
      have ho := HO.out _ _ (HS.out j (by omega)) (HP2.out j (by omega))
      have ha := HA.out _ (HT.out j hlt)
      have he := HE.out (nt A j)
      have hY := Lib.hid (HY.out j)
      have hN := Lib.hid (HN.out j)
      have k1 := hcell2 j hlt _ (Grew.refl _)
      have hgd : Grew w (w.drewN d) := (Grew.refl w).drewN d
      clear hcell2
      generalize nt A j = y at *
      generalize y &&& m = ym at *
      generalize decide (dif y m = 0) = t at *
      generalize hsj : bxK A m j = sj at *
      clear hsj
      generalize hpj : (2 ^ j : Nat) = pj at *
      clear hpj
      go_wp2_with fail
      go_region
      cases t with
      | true =>
        have hy := Lib.hid (hY.out rfl)
        go_wp2_with fail
        refine (hH.out _).mono ?_
        rintro e w2 ⟨rfl, rfl⟩
        go_wp2_with fail
        go_roundw
        case rel => exact ⟨j + 1, _, by omega, by go_num, by rw [hy.out], by trivial⟩
        case measure => simp [intOf]; omega
      | false =>
        have hn := Lib.hid (hN.out rfl)
        go_wp2_with fail
        go_roundw
        case rel => exact ⟨j + 1, _, by omega, by go_num, by rw [hn.out], by trivial⟩
        case measure => simp [intOf]; omega
    · obtain rfl : j = n := by omega
      have hr := Lib.hid HR.out
      go_wp2_with fail
      go_ret
      exact ⟨by rw [hr.out]; rfl, d, rfl⟩
end Go.Proofs.YtopjgcbhjhhlfaaGreat


/- Implications of sets: all, imply of the program, l17Arrow of the reference. -/
namespace Go.Proofs.YtopjgcbhjhhlfaaGreat
open Go.RowKit

end Go.Proofs.YtopjgcbhjhhlfaaGreat


/- forced of the program: a stack of values. -/
namespace Go.Proofs.YtopjgcbhjhhlfaaGreat
open Go.RowKit
open Fm (Nd Tree)

def sk (st : List Nat) : List Int := zs st.reverse
theorem sk_len (st : List Nat) : (sk st).length = st.length := by unfold sk; rw [zs_len, List.length_reverse]
theorem sk_cons (x : Nat) (st : List Nat) : sk (x :: st) = sk st ++ [(x : Int)] := by unfold sk; rw [List.reverse_cons, zs_append]; rfl
theorem OwnI.pop {w : World} {B : Nat} {A : Option Addr} {n c : Nat} {L : List Int} {x : Int} (h : OwnI w B (.slice A n c) (L ++ [x])) : n = L.length + 1 ∧ ∃ g, A = some ⟨g, 0, none⟩ ∧ n ≤ c ∧ c ≤ 9223372036854775807 ∧ B ≤ g ∧ g < w.heap.size ∧ w.cell? ⟨g, L.length, none⟩ = some (.int .i64 x) ∧ OwnI w B (.slice (some ⟨g, 0, none⟩) L.length c) L := by
  obtain ⟨h1, h2⟩ := h
  rcases h2 with ⟨h3, h4⟩ | ⟨g, cap, cur, h3, h4, h5, h6, h7, h8, h9⟩
  · rw [List.length_append] at h4; simp at h4
  · rw [List.length_append, List.length_singleton] at h3 h6 h9
    simp only [Value.slice.injEq] at h3
    obtain ⟨rfl, rfl, rfl⟩ := h3
    have hsz : cur.size = c := by omega
    have hcell : ∀ j, j < L.length + 1 → cur[j]? = (icells (L ++ [x]))[j]? := fun j hj => by
      have := congrArg (fun l => l[j]?) h9
      simp only [List.getElem?_take] at this
      rw [if_pos (by omega)] at this
      simpa using this
    refine ⟨rfl, g, rfl, h6, h7, h4, (Array.getElem?_eq_some_iff.1 h5).1, ?_, ?_⟩
    · rw [cell_of_row w g _ cur _ (0, 0) h5, hcell _ (by omega)]
      have := icells_at (L := L ++ [x]) (i := L.length) (by simp)
      rw [this]
      simp [it, List.getD]
    · refine OwnI.mk_ h4 h5 (by omega) h7 hsz fun i hi => ?_
      rw [hcell i (by omega), icells_at (by simp; omega)]
      congr 1
      simp [it, List.getD, List.getElem?_append_left hi]
def Stk (w : World) (b B : Nat) (st : List Nat) : Prop := ∃ A n c, w.heap[b]? = some (.cells #[.slice A n c] 24 (0, 0)) ∧ OwnI w B (.slice A n c) (sk st)
theorem wpList_appB {ops : Array Oper} {rest : List Oper} {o : Oper} {a : Act} {Q : Exit → Act → World → Prop} {w : World} (B : Nat) (s x : Operand) (hgd : o.guard = none)
    (ho : o.op = .call { callee := .builtin .append, args := #[s, x], argTypes := #[24, 24] })
    (v : Value) (L : List Int) (hs : a.eval s = v) (hown : OwnI w B v L) (hB : B ≤ w.heap.size) (vx : Value) (k : Int) (hx : a.eval x = vx) (hr : Rd w 1 vx 1 [.int .i64 k]) (hn : L.length ≤ 1048576)
    (h : ∀ v' w', OwnI w' B v' (L ++ [k]) → w.grownBy w' v.ownBlock → wpList Tryz.prog ops Q rest (a.put o.dst v') w') : wpList Tryz.prog ops Q (o :: rest) a w := by
  obtain ⟨i0, hi0, hz0, hz1, hz2⟩ := info_parts Tryz.infoI
  refine wpList_append_rd w hgd s x _ ho B 2 i0 _ 1 8 Tryz.underlying24 hi0 hz0 hz1 hz2 rfl (by omega) v L.length (icells L) hs hown vx 1 [.int .i64 k] hx hr (by simp [Value.oneCell']) (by unfold maxLen; omega) (by omega) hB ?_
  intro v' w' h1 h2 h3
  refine h v' w' ?_ h2
  unfold OwnI
  rw [List.length_append, icells_append]
  exact h1
theorem two_at {st : List Nat} (h : 2 ≤ st.length) : ∃ x y r, st = x :: y :: r := by
  match st, h with
  | x :: y :: r, _ => exact ⟨x, y, r, rfl⟩
theorem Stk.grew {w w' : World} {b B : Nat} {st : List Nat} (h : Stk w b B st) (hg : Grew w w') : Stk w' b B st := by
  obtain ⟨A, n, c, h1, h2⟩ := h
  exact ⟨A, n, c, (hg.block (blk_lt h1)).trans h1, h2.grew hg⟩

end Go.Proofs.YtopjgcbhjhhlfaaGreat


/- Formulas of two parts. -/
namespace Go.Proofs.YtopjgcbhjhhlfaaGreat
open Go.RowKit

def TwoF (A p q : Fm.Tree) : Prop := Fm.enc A = (kindOf A, 0) :: (Fm.enc p ++ Fm.enc q)
theorem TwoF.len {A p q : Fm.Tree} (h : TwoF A p q) : (Fm.enc A).length = 1 + (Fm.enc p).length + (Fm.enc q).length := by rw [h]; simp; omega
end Go.Proofs.YtopjgcbhjhhlfaaGreat


/- The parts of a formula in the reference. -/
namespace Go.Proofs.YtopjgcbhjhhlfaaGreat
open Go.RowKit
open Fm (Nd Tree)

theorem two_and (x y : Tree) : TwoF (.and x y) x y := rfl
theorem two_or (x y : Tree) : TwoF (.or x y) x y := rfl
theorem two_imp (x y : Tree) : TwoF (.imp x y) x y := rfl
theorem head_t {w : World} {v : Value} {t : Tree} (h : Nodes w v (Fm.enc t)) : ∃ b o n c, v = .slice (some ⟨b, o, none⟩) n c ∧ 0 < n ∧ n = (Fm.enc t).length ∧ ∀ W, Grew w W → W.cell? ⟨b, o, none⟩ = some (.int .i64 (kindOf t)) := by
  obtain ⟨b, o, c, h1, _, _, h4⟩ := nodes_head h
  exact ⟨b, o, _, c, h1, Fm.enc_pos t, rfl, h4⟩

end Go.Proofs.YtopjgcbhjhhlfaaGreat


/- l17Force of the reference. -/
namespace Go.Proofs.YtopjgcbhjhhlfaaGreat
open Go.RowKit
open Fm (Nd Tree)

end Go.Proofs.YtopjgcbhjhhlfaaGreat


/- slices.ContainsFunc over numbers: predicates with captured values. -/
namespace Go.Proofs.YtopjgcbhjhhlfaaGreat
open Go.RowKit

theorem it_memI {L : List Int} {i : Nat} (h : i < L.length) : it L i ∈ L := by rw [← it_get h]; exact List.getElem_mem h
theorem mem_itI {L : List Int} {x : Int} (h : x ∈ L) : ∃ i, i < L.length ∧ it L i = x := by
  obtain ⟨i, hi, rfl⟩ := List.getElem_of_mem h
  exact ⟨i, hi, (it_get hi).symm⟩
def NoneI (p : Int → Bool) (L : List Int) (k : Nat) : Prop := ∀ i, i < k → p (it L i) = false
theorem NoneI.zero (p : Int → Bool) (L : List Int) : NoneI p L 0 := fun i hi => absurd hi (by omega)
theorem NoneI.succ {p : Int → Bool} {L : List Int} {k : Nat} (h : NoneI p L k) (h1 : p (it L k) = false) : NoneI p L (k + 1) := by
  intro i hi
  by_cases he : i = k
  · rw [he]; exact h1
  · exact h i (by omega)
theorem noneI_any {p : Int → Bool} {L : List Int} (h : NoneI p L L.length) : L.any p = false := by
  rw [List.any_eq_false]
  intro x hx
  obtain ⟨i, hi, rfl⟩ := mem_itI hx
  rw [h i hi]; simp
theorem anyI_at {p : Int → Bool} {L : List Int} (k : Nat) (hk : k < L.length) (h : p (it L k) = true) : L.any p = true := by
  rw [List.any_eq_true]
  exact ⟨_, it_memI hk, h⟩
theorem cellsI {w : World} {A : _} {c : Nat} {L : List Int} (h : Ints w (.slice A L.length c) L) (h0 : 0 < L.length) :
    ∃ b o, A = some ⟨b, o, none⟩ ∧ ∀ i, i < L.length → ∀ W, Grew w W → W.cell? ⟨b, o + i, none⟩ = some (.int .i64 (it L i)) := by
  rcases h.open_ with ⟨_, h1⟩ | ⟨b, o, c', e, _, _, _, hc⟩
  · have := congrArg List.length h1
    rw [List.length_nil] at this
    omega
  · injection e with e1 e2 e3
    subst e1
    exact ⟨b, o, rfl, hc⟩

def PredI (w : World) (f : Nat) (caps : Array Value) (L : List Int) (p : Int → Bool) : Prop := ∀ s W, s ∈ L → Grew w W → Calls Tryz.prog f (#[.int .i64 s] ++ caps) W fun e W' => e = .returned (.bool (p s)) ∧ Grew W W'

theorem indexFuncI_c (v : Value) (L : List Int) (f : Nat) (caps : Array Value) (p : Int → Bool) (w : World) (h : Ints w v L) (hf : PredI w f caps L p) (eg : ∀ args w, (callFunc f args).run Tryz.prog w = .ok (.enter f args) w) :
    Calls Tryz.prog 88 #[v, .func (.func f) #[] caps] w fun e w' => ∃ r : Int, e = .returned (.int .i64 r) ∧ Grew w w' ∧ decide (0 ≤ r) = L.any p := by
  obtain ⟨A, c, rfl⟩ := ints_slice h
  obtain ⟨R, hR⟩ : ∃ R, R = L.any p := ⟨_, rfl⟩
  rw [← hR]
  have HA := Lib.hid (fun k hk h => hR.trans (@anyI_at p L k hk h))
  have HZ := Lib.hid (fun h => hR.trans (@noneI_any p L h))
  have hmx : L.length ≤ 9223372036854775807 := h.2.1
  have HC := Lib.hid (fun h0 => cellsI h h0)
  have HF := Lib.hid hf
  have HM := Lib.hid (fun k (hk : k < L.length) => it_memI hk)
  clear h hf hR
  unfold PredI at HF
  generalize hN : L.length = n at *
  clear hN
  go_enter Tryz.func88, Tryz.ntmps88
  go_wp2_with fail
  go_loopw [5, 8] (fun _ i wr => ∃ j : Nat, j ≤ n ∧ i = .int .i64 j ∧ Grew w wr ∧ Hid (NoneI p L j)) (fun _ i _ => n - (intOf i).toNat)
  case atStart => exact ⟨0, Nat.zero_le _, rfl, Grew.refl _, NoneI.zero _ _⟩
  case round =>
    obtain ⟨j, hj, rfl, hB, HJ⟩ := hrel
    by_cases hlt : j < n
    · obtain ⟨b, o, rfl, hcell⟩ := HC.out (by omega)
      have k1 := hcell j hlt _ hB
      clear hcell
      have hA := Lib.hid (HA.out j hlt)
      have hS := Lib.hid (fun h => HJ.out.succ (k := j) h)
      have hF := Lib.hid (HF.out _ _ (HM.out j hlt) hB)
      generalize it L j = x at *
      go_wp2_with fail
      refine (hF.out).mono ?_
      rintro e w1 ⟨rfl, hg1⟩
      have hB1 := hB.trans hg1
      cases hp : p x with
      | true =>
        have hv := hA.out hp
        go_wp2_with fail
        go_ret
        exact ⟨_, rfl, hB1, by rw [hv]; simp⟩
      | false =>
        have hs := Lib.hid (hS.out hp)
        go_wp2_with fail
        go_roundw
        case rel => exact ⟨j + 1, by omega, by go_num, hB1, hs⟩
        case measure => simp [intOf]; omega
    · obtain rfl : j = n := by omega
      have hv := Lib.hid (HZ.out HJ.out)
      go_wp2_with fail
      go_ret
      exact ⟨_, rfl, hB, by rw [hv.out]; rfl⟩
theorem containsFuncI_c (v : Value) (L : List Int) (f : Nat) (caps : Array Value) (p : Int → Bool) (w : World) (h : Ints w v L) (hf : PredI w f caps L p) (eg : ∀ args w, (callFunc f args).run Tryz.prog w = .ok (.enter f args) w) :
    Calls Tryz.prog 53 #[v, .func (.func f) #[] caps] w fun e w' => e = .returned (.bool (L.any p)) ∧ Grew w w' := by
  have HI := Lib.hid (indexFuncI_c v L f caps p w h hf eg)
  obtain ⟨A, c, rfl⟩ := ints_slice h
  clear h hf eg
  generalize L.any p = R at *
  go_enter Tryz.func53, Tryz.ntmps53
  go_wp2_with fail
  refine HI.out.mono ?_
  rintro e w1 ⟨r, rfl, hg1, hr⟩
  go_wp2_with fail
  go_ret
  exact ⟨by rw [← hr]; rfl, hg1⟩
end Go.Proofs.YtopjgcbhjhhlfaaGreat


/- Rows of numbers: slices.Equal, slices.Clone; l01Own. -/
namespace Go.Proofs.YtopjgcbhjhhlfaaGreat
open Go.RowKit

theorem wpList_appR {ops : Array Oper} {rest : List Oper} {o : Oper} {a : Act} {Q : Exit → Act → World → Prop} {w w0 : World} (s x : Operand) (hgd : o.guard = none)
    (ho : o.op = .call { callee := .builtin .append, args := #[s, x], argTypes := #[24, 24] })
    (v : Value) (L : List Int) (hs : a.eval s = v) (hown : OwnI w w0.heap.size v L) (hg : Grew w0 w) (vx : Value) (K : List Int) (hx : a.eval x = vx) (hr : Ints w vx K) (hn : L.length + K.length ≤ 1099511627776)
    (h : ∀ v' w', OwnI w' w0.heap.size v' (L ++ K) → Grew w0 w' → w.grownBy w' v.ownBlock → wpList Tryz.prog ops Q rest (a.put o.dst v') w') : wpList Tryz.prog ops Q (o :: rest) a w := by
  obtain ⟨i0, hi0, hz0, hz1, hz2⟩ := info_parts Tryz.infoI
  refine wpList_append_rd w hgd s x _ ho w0.heap.size 2 i0 _ 1 8 Tryz.underlying24 hi0 hz0 hz1 hz2 rfl (by omega) v L.length (icells L) hs hown vx K.length (icells K) hx hr (icells_one K) (by unfold maxLen; omega) (by omega) hg.size ?_
  intro v' w' h1 h2 h3
  refine h v' w' ?_ (hg.grown h2 fun k hk => (hown.lt k hk).1) h2
  unfold OwnI
  rw [List.length_append, icells_append]
  exact h1
theorem ownR_c (v : Value) (L : List Int) (w : World) (h : Ints w v L) (hn : L.length ≤ 1099511627776) :
    Calls Tryz.prog 108 #[v] w (GivesI w L) := by
  have he := own_emptyI w
  obtain ⟨A, c, rfl⟩ := ints_slice h
  go_enter Tryz.func108, Tryz.ntmps108
  go_wp2_with (first
    | (at_builtin; refine wpList_appR (w0 := w) _ _ rfl rfl _ [] rfl he ((Grew.refl w).alloc _) _ L rfl (h.grew ((Grew.refl w).alloc _)) (by simp; omega) ?_; intro v1 w1 hown1 hg1 _))
  go_ret
  exact ⟨_, rfl, by simpa using hown1, hg1⟩

def AgreeR (xs ys : List Int) (k : Nat) : Prop := ∀ i, i < k → it xs i = it ys i
theorem AgreeR.zero (xs ys : List Int) : AgreeR xs ys 0 := fun i hi => absurd hi (by omega)
theorem AgreeR.succ {xs ys : List Int} {k : Nat} (h : AgreeR xs ys k) (h1 : it xs k = it ys k) : AgreeR xs ys (k + 1) := by
  intro i hi
  rcases Nat.lt_or_ge i k with hk | hk
  · exact h i hk
  · obtain rfl : i = k := by omega
    exact h1
theorem equalR_c (v1 v2 : Value) (xs ys : List Int) (w : World) (h1 : Ints w v1 xs) (h2 : Ints w v2 ys) (hl : xs.length = ys.length) :
    Calls Tryz.prog 26 #[v1, v2] w fun e w' => e = .returned (.bool (decide (xs = ys))) ∧ Grew w w' := by
  obtain ⟨A1, c1, rfl⟩ := ints_slice h1
  obtain ⟨A2, c2, rfl⟩ := ints_slice h2
  have HC1 := Lib.hid (fun h0 => cellsI h1 h0)
  have HC2 := Lib.hid (fun h0 => cellsI h2 h0)
  have HE := Lib.hid (fun h => it_ext hl h)
  rw [← hl] at HC2 ⊢
  have HX := Lib.hid (fun (h : xs = ys) (i : Nat) => (by rw [h] : it xs i = it ys i))
  obtain ⟨D, hD⟩ : ∃ D, D = decide (xs = ys) := ⟨_, rfl⟩
  rw [← hD]
  have HD := Lib.hid hD
  have hmx : xs.length ≤ 9223372036854775807 := h1.2.1
  clear hl hD h1 h2
  generalize hN : xs.length = n at *
  clear hN
  go_enter Tryz.func26, Tryz.ntmps26
  go_wp2_with fail
  go_loopg [4, 13] n (fun k _ i wr => ∃ j : Nat, j ≤ n ∧ k = n - j ∧ i = .int .i64 j ∧ Grew w wr ∧ Hid (AgreeR xs ys j))
  case atStart => exact ⟨0, Nat.zero_le _, by omega, rfl, Grew.refl _, AgreeR.zero _ _⟩
  case round =>
    obtain ⟨j, hj, hk, rfl, hB, HJ⟩ := hrel
    by_cases hlt : j < n
    · obtain ⟨b1, o1, rfl, hcell1⟩ := HC1.out (by omega)
      obtain ⟨b2, o2, rfl, hcell2⟩ := HC2.out (by omega)
      have k1 := hcell1 j hlt _ hB
      have k2 := hcell2 j hlt _ hB
      have hS := Lib.hid (fun h => HJ.out.succ (k := j) h)
      have hX := Lib.hid (fun h => HX.out h j)
      clear hcell1 hcell2 HE
      generalize it xs j = x at *
      generalize it ys j = y at *
      by_cases hxy : x = y
      · have hs := Lib.hid (hS.out hxy)
        have hq : (x == y) = true := by rw [hxy]; simp
        clear hS hX hxy
        go_wp2_with fail
        go_quiet (fail)
        go_wp2_with fail
        go_roundg (n - (j + 1))
        case rel => exact ⟨j + 1, by omega, rfl, by go_num, hB.drewN _, hs⟩
        case measure => omega
      · have hq : (x == y) = false := by simpa using hxy
        have hv : D = false := by
          rw [HD.out]
          exact decide_eq_false fun h => hxy (hX.out h)
        clear hS hX hxy
        go_wp2_with fail
        go_quiet (fail)
        go_wp2_with fail
        go_ret
        exact ⟨by rw [hv]; rfl, hB.drewN _⟩
    · obtain rfl : j = n := by omega
      have hv : D = true := by
        rw [HD.out]
        exact decide_eq_true (HE.out HJ.out)
      have hw := Lib.hid hv
      clear hv
      go_wp2_with fail
      go_ret
      exact ⟨by rw [hw.out]; rfl, hB⟩
end Go.Proofs.YtopjgcbhjhhlfaaGreat


/- make of rows of elements of several cells; the blocks of three allocations. -/
namespace Go.Proofs.YtopjgcbhjhhlfaaGreat
open Go.RowKit

theorem run_make_rows {P : Program} (t e : TypeId) (z : Value) (size bytes : Nat) (zs : Array Value) (ht : P.underlying t = some (.slice e)) (hinfo : (P.info? e).map (fun i => (i.zero, i.size, i.bytes)) = some (some z, size, bytes)) (hzs : z.cells = zs)
    (kl kc : IntKind) (n : Nat) (hbytes : bytes * n ≤ 281474976710656) (h63 : n ≤ 9223372036854775807) (w : World) :
    (Instr.makeSlice t (.int kl (n : Int)) (.int kc (n : Int))).run P w = .ok (.slice (some ⟨w.heap.size, 0, none⟩) n n) (w.alloc (.cells (madeCells zs (n * size)) e)) := by
  obtain ⟨i, hi, hz, hs, hb⟩ := info_parts hinfo
  have hb' : (i.bytes : Int) * (n : Int) ≤ 281474976710656 := by
    rw [hb]
    have h : ((bytes * n : Nat) : Int) ≤ 281474976710656 := by omega
    rwa [Int.natCast_mul] at h
  have hr := run_make (P := P) w t e i z ht hi hz kl kc n n (by omega) (Int.le_refl _) hb' (by omega)
  simp only [Int.toNat_natCast, hs, hzs] at hr
  exact hr

end Go.Proofs.YtopjgcbhjhhlfaaGreat


/- Relations: inverse, transitive of the program. -/
namespace Go.Proofs.YtopjgcbhjhhlfaaGreat
open Go.RowKit

def NRow (w : World) (g n c : Nat) (f : Nat → Nat) : Prop := ∃ cur, w.heap[g]? = some (.cells cur 2 (0, 0)) ∧ cur.size = c ∧ n ≤ c ∧ c ≤ 9223372036854775807 ∧ ∀ i, i < n → cur[i]? = some (.int .i64 ((f i : Nat) : Int))
theorem NRow.lt {w : World} {g n c : Nat} {f : Nat → Nat} (h : NRow w g n c f) : g < w.heap.size := by
  obtain ⟨cur, h1, _⟩ := h
  exact blk_lt h1
theorem NRow.grew {w w' : World} {g n c : Nat} {f : Nat → Nat} (h : NRow w g n c f) (hg : Grew w w') : NRow w' g n c f := by
  have hl := h.lt
  obtain ⟨cur, h1, h2⟩ := h
  exact ⟨cur, (hg.block hl).trans h1, h2⟩
theorem NRow.cell {w : World} {g n c : Nat} {f : Nat → Nat} (h : NRow w g n c f) {p : Nat} (hp : p < n) : w.cell? ⟨g, p, none⟩ = some (.int .i64 ((f p : Nat) : Int)) := by
  obtain ⟨cur, h1, _, _, _, h3⟩ := h
  rw [blk_cell h1]
  exact h3 p hp
theorem NRow.free {w : World} {g n c : Nat} {f : Nat → Nat} (h : NRow w g n c f) (p : Nat) : w.frozen? ⟨g, p, none⟩ = false := by
  obtain ⟨cur, h1, _⟩ := h
  exact blk_frozen h1 p
theorem NRow.set {w : World} {g n c : Nat} {f f' : Nat → Nat} (h : NRow w g n c f) {p : Nat} (hp : p < n) {z : Nat} (hz : f' p = z) (hf : ∀ i, i < n → i ≠ p → f' i = f i) : NRow (w.setCell ⟨g, p, none⟩ (.int .i64 (z : Int))) g n c f' := by
  obtain ⟨cur, h1, h2, hn, hm, h3⟩ := h
  refine ⟨_, blk_set h1 p _, by simp [h2], hn, hm, fun i hi => ?_⟩
  rw [Array.getElem?_setIfInBounds]
  by_cases hip : p = i
  · subst hip
    rw [if_pos rfl, if_pos (by omega), hz]
  · rw [if_neg hip, h3 i hi, hf i hi (fun h => hip h.symm)]
theorem NRow.ints {w : World} {g n c : Nat} {f : Nat → Nat} (h : NRow w g n c f) : Ints w (.slice (some ⟨g, 0, none⟩) n c) (zs ((List.range n).map f)) := by
  obtain ⟨cur, h1, h2, hn, hm, h3⟩ := h
  have hl : (zs ((List.range n).map f)).length = n := by simp [zs]
  unfold Ints
  rw [hl]
  refine ⟨by simp [icells, zs], by omega, .inr ⟨g, 0, c, rfl, hn, hm, blk_lt h1, fun i u hu => ?_⟩⟩
  have hi : i < n := by
    have := (List.getElem?_eq_some_iff.1 hu).1
    simpa [icells, zs] using this
  rw [Nat.zero_add, blk_cell h1, h3 i hi, ← hu]
  simp [icells, zs, hi]
theorem made_z {n i : Nat} (hi : i < n) : (madeCells #[Value.int .i64 0] n)[i]? = some (.int .i64 0) := by
  have e := toList_madeCells_one (.int .i64 0) n
  rw [← Array.getElem?_toList, e]
  simp [hi]

end Go.Proofs.YtopjgcbhjhhlfaaGreat


/- Masks of n elements: isMask, isRelation; l01Masks. -/
namespace Go.Proofs.YtopjgcbhjhhlfaaGreat
open Go.RowKit

theorem size_q (v : Value) (L : List Int) (w : World) (h : Ints w v L) :
    Calls Tryz.prog 29 #[v] w fun e w' => e = .returned (.int .i64 (L.length : Int)) ∧ w' = w := by
  obtain ⟨A, c, rfl⟩ := ints_slice h
  have hmx : L.length ≤ 9223372036854775807 := h.2.1
  clear h
  generalize L.length = n at *
  go_enter Tryz.func29, Tryz.ntmps29
  go_wp2_with fail
  go_ret
  exact ⟨rfl, rfl⟩
theorem size_c (v : Value) (L : List Int) (w : World) (h : Ints w v L) :
    Calls Tryz.prog 29 #[v] w fun e w' => e = .returned (.int .i64 (L.length : Int)) ∧ Grew w w' :=
  (size_q v L w h).mono fun _ _ h => ⟨h.1, h.2 ▸ Grew.refl _⟩
def mks (n : Nat) (L : List Int) : Bool := L.all (mk n)
theorem not_any {α : Type} (p : α → Bool) : ∀ L : List α, (!L.any fun x => !p x) = L.all p
  | [] => rfl
  | x :: L => by
    have ih := not_any p L
    rw [List.any_cons, List.all_cons, ← ih]
    cases p x <;> simp
theorem l01Masks_c (m : Nat) (v : Value) (L : List Int) (w : World) (h : Ints w v L) (hm : m ≤ 30) :
    Calls Tryz.prog 20 #[.int .i64 (m : Int), v] w fun e w' => e = .returned (.bool (mks m L)) ∧ Grew w w' := by
  obtain ⟨A, c, rfl⟩ := ints_slice h
  obtain ⟨R, hR⟩ : ∃ R, R = mks m L := ⟨_, rfl⟩
  rw [← hR]
  have hR2 : R = !L.any fun x => !mk m x := hR.trans (not_any (mk m) L).symm
  have HA := Lib.hid (fun k hk h => hR2.trans (congrArg (!·) (@anyI_at (fun x => !mk m x) L k hk h)))
  have HZ := Lib.hid (fun h => hR2.trans (congrArg (!·) (@noneI_any (fun x => !mk m x) L h)))
  have HC := Lib.hid (fun h0 => cellsI h h0)
  have HF := Lib.hid (l01Full_q m hm)
  have HI := Lib.hid (fun x => l01In_q x 0 (((2 ^ m : Nat) : Int) - 1))
  have hmx : L.length ≤ 9223372036854775807 := h.2.1
  clear h hR hR2
  generalize hN : L.length = n at *
  clear hN
  go_enter Tryz.func20, Tryz.ntmps20
  go_wp2_with fail
  go_loopw [5] (fun i wr => ∃ j : Nat, j ≤ n ∧ i = .int .i64 j ∧ Grew w wr ∧ Hid (NoneI (fun x => !mk m x) L j)) (fun i _ => n - (intOf i).toNat)
  case atStart => exact ⟨0, Nat.zero_le _, rfl, Grew.refl _, NoneI.zero _ _⟩
  case round =>
    obtain ⟨j, hj, rfl, hB, HJ⟩ := hrel
    by_cases hlt : j < n
    · obtain ⟨b, o, rfl, hcell⟩ := HC.out (by omega)
      have k1 := hcell j hlt
      clear hcell
      have hA := Lib.hid (HA.out j hlt)
      have hS := Lib.hid (fun h => HJ.out.succ (k := j) h)
      have hI := Lib.hid (HI.out (it L j))
      have hmk : mk m (it L j) = decide (0 ≤ it L j ∧ it L j ≤ ((2 ^ m : Nat) : Int) - 1) := rfl
      rw [← hmk] at hI
      clear hmk
      generalize it L j = x at *
      generalize (2 ^ m : Nat) = p at *
      have kc := k1 _ hB
      clear HI
      cases ht : mk m x with
      | true =>
        rw [ht] at hI hS
        have hs := Lib.hid (hS.out rfl)
        clear hA hS ht
        go_wp2_with fail
        go_quiet (first | (go_at_call 34; exact Calls.quiet_of_same (HF.out _)) | (go_at_call 51; exact Calls.quiet_of_same (hI.out _)))
        go_wp2_with fail
        go_roundw
        case rel => exact ⟨j + 1, by omega, by go_num, hB.drewN _, hs⟩
        case measure => simp [intOf]; omega
      | false =>
        rw [ht] at hI hA
        have hv := hA.out rfl
        clear hA hS ht
        go_wp2_with fail
        go_quiet (first | (go_at_call 34; exact Calls.quiet_of_same (HF.out _)) | (go_at_call 51; exact Calls.quiet_of_same (hI.out _)))
        go_wp2_with fail
        go_ret
        exact ⟨by rw [hv]; rfl, hB.drewN _⟩
    · obtain rfl : j = n := by omega
      have hv := Lib.hid (HZ.out HJ.out)
      go_wp2_with fail
      go_ret
      exact ⟨by rw [hv.out]; rfl, hB⟩
end Go.Proofs.YtopjgcbhjhhlfaaGreat


/- Relations: transitive of the program for all relations; everyWorld, sees. -/
namespace Go.Proofs.YtopjgcbhjhhlfaaGreat
open Go.RowKit

end Go.Proofs.YtopjgcbhjhhlfaaGreat


/- Relations: hasFlag of the program. -/
namespace Go.Proofs.YtopjgcbhjhhlfaaGreat
open Go.RowKit

end Go.Proofs.YtopjgcbhjhhlfaaGreat


/- A number between two bounds. -/
namespace Go.Proofs.YtopjgcbhjhhlfaaGreat
open Go.RowKit

theorem l01In_c (k lo hi : Int) (w : World) : Calls Tryz.prog 51 #[.int .i64 k, .int .i64 lo, .int .i64 hi] w fun e w' => e = .returned (.bool (decide (lo ≤ k ∧ k ≤ hi))) ∧ Grew w w' := by
  by_cases h : lo ≤ k
  · have hd : decide (lo ≤ k ∧ k ≤ hi) = decide (k ≤ hi) := by simp [h]
    rw [hd]
    go_enter Tryz.func51, Tryz.ntmps51
    go_wp2_with fail
    go_ret
    exact ⟨rfl, Grew.refl _⟩
  · have hd : decide (lo ≤ k ∧ k ≤ hi) = false := by simp [h]
    rw [hd]
    go_enter Tryz.func51, Tryz.ntmps51
    go_wp2_with fail
    go_ret
    exact ⟨rfl, Grew.refl _⟩

theorem inRange_c (k lo hi : Int) (w : World) : Calls Tryz.prog 52 #[.int .i64 k, .int .i64 lo, .int .i64 hi] w fun e w' => e = .returned (.bool (decide (lo ≤ k ∧ k ≤ hi))) ∧ Grew w w' := by
  by_cases h : lo ≤ k
  · have hd : decide (lo ≤ k ∧ k ≤ hi) = decide (k ≤ hi) := by simp [h]
    rw [hd]
    go_enter Tryz.func52, Tryz.ntmps52
    go_wp2_with fail
    go_ret
    exact ⟨rfl, Grew.refl _⟩
  · have hd : decide (lo ≤ k ∧ k ≤ hi) = false := by simp [h]
    rw [hd]
    go_enter Tryz.func52, Tryz.ntmps52
    go_wp2_with fail
    go_ret
    exact ⟨rfl, Grew.refl _⟩
end Go.Proofs.YtopjgcbhjhhlfaaGreat


/- Posets of the program: isPoset, isValuation. -/
namespace Go.Proofs.YtopjgcbhjhhlfaaGreat
open Go.RowKit

def nats (L : List Int) : List Nat := L.map Int.toNat
theorem nats_len (L : List Int) : (nats L).length = L.length := by simp [nats]
theorem nats_ok {n : Nat} {L : List Int} (h : mks n L = true) : zs (nats L) = L ∧ ∀ m ∈ nats L, m < 2 ^ n := by
  unfold mks at h
  rw [List.all_eq_true] at h
  obtain ⟨M, h1, _, h3⟩ := nats_of h
  have : nats L = M := by
    rw [h1]
    simp [nats, zs, Function.comp_def]
  rw [this]
  exact ⟨h1.symm, h3⟩
theorem info2F : (Tryz.prog.info? 76).map (·.size) = some 2 := by kernel_rfl
theorem frameOf_c (v : Value) (L : List Int) (w : World) (h : Ints w v L) :
    Calls Tryz.prog 84 #[v] w fun e w' => e = .returned (.agg #[.int .i64 (L.length : Int), v]) ∧ Grew w w' := by
  have hinfo := info2F
  have hb : ∀ o1, (w.alloc o1).heap[w.heap.size]? = some o1 := fun o1 => blk_new w o1
  have HS := Lib.hid (fun W hW => size_q v L W (h.grew hW))
  have hmx : L.length ≤ 9223372036854775807 := h.2.1
  obtain ⟨A, c, rfl⟩ := ints_slice h
  clear h
  generalize L.length = n at *
  go_enter Tryz.func84, Tryz.ntmps84
  go_wp2_with fail
  refine (HS.out _ ((Grew.refl w).alloc _)).mono ?_
  rintro e w1 ⟨rfl, rfl⟩
  go_wp2_with fail
  (try simp only [Exit.inBlock, Exit.then])
  refine bodyPost_ret (results_cell_row rfl _ _ w.heap.size _ _ _ _ rfl (hb _) Tryz.underlying76 rfl hinfo) rfl ?_
  exact ⟨rfl, (Grew.refl w).alloc _⟩
end Go.Proofs.YtopjgcbhjhhlfaaGreat


/- Valuations of the program: isUpset, isValuation. -/
namespace Go.Proofs.YtopjgcbhjhhlfaaGreat
open Go.RowKit

end Go.Proofs.YtopjgcbhjhhlfaaGreat


/- l01Image: it only reads. -/
namespace Go.Proofs.YtopjgcbhjhhlfaaGreat
open Go.RowKit
end Go.Proofs.YtopjgcbhjhhlfaaGreat


/- l05Flag of the reference: reflexive, transitive, antisymmetric. -/
namespace Go.Proofs.YtopjgcbhjhhlfaaGreat
open Go.RowKit
end Go.Proofs.YtopjgcbhjhhlfaaGreat


/- Posets and valuations of the reference: l16Is, l17Is, IsValuation. -/
namespace Go.Proofs.YtopjgcbhjhhlfaaGreat
open Go.RowKit
end Go.Proofs.YtopjgcbhjhhlfaaGreat


/- Masks: squeezed masks (squeeze, l05Squeeze). -/
namespace Go.Proofs.YtopjgcbhjhhlfaaGreat
open Go.RowKit
end Go.Proofs.YtopjgcbhjhhlfaaGreat


/- Parts of posets and valuations: partOn, squeezeAll, CutDown of the program. -/
namespace Go.Proofs.YtopjgcbhjhhlfaaGreat
open Go.RowKit

def GivesPs (w : World) (L : List Int) (e : Ending) (w' : World) : Prop := ∃ v, e = .returned (.agg #[.int .i64 (L.length : Int), v]) ∧ OwnI w' w.heap.size v L ∧ Grew w w'
end Go.Proofs.YtopjgcbhjhhlfaaGreat


/- Elements of posets: hasElement; what holds of a poset, a valuation and an element. -/
namespace Go.Proofs.YtopjgcbhjhhlfaaGreat
open Go.RowKit

end Go.Proofs.YtopjgcbhjhhlfaaGreat


/- isFormula of the program, at any list. -/
namespace Go.Proofs.YtopjgcbhjhhlfaaGreat
open Go.RowKit
open Fm (Nd Tree)

theorem isVariable_c (k : Int) (w : World) : Calls Tryz.prog 101 #[.int .i64 k] w fun e w' => e = .returned (.bool (decide (0 ≤ k ∧ k ≤ 5))) ∧ Grew w w' := by
  have HR := Lib.hid (inRange_c k 0 5 w)
  generalize decide (0 ≤ k ∧ k ≤ 5) = R at *
  go_enter Tryz.func101, Tryz.ntmps101
  go_wp2_with fail
  refine HR.out.mono ?_
  rintro e w1 ⟨rfl, hg1⟩
  go_wp2_with fail
  go_ret
  exact ⟨rfl, hg1⟩

def nodeB (a b : Int) : Bool := if a == 0 then decide (0 ≤ b ∧ b ≤ 5) else decide (1 ≤ a ∧ a ≤ 6) && b == 0

theorem isNode_c (a b : Int) (w : World) : Calls Tryz.prog 78 #[.agg #[.int .i64 a, .int .i64 b]] w fun e w' => e = .returned (.bool (nodeB a b)) ∧ Grew w w' := by
  unfold nodeB
  cases h0 : (a == 0) with
  | true =>
    rw [if_pos rfl]
    go_enter Tryz.func78, Tryz.ntmps78
    go_wp2_with fail
    refine (isVariable_c _ _).mono ?_
    rintro e w1 ⟨rfl, hg1⟩
    go_wp2_with fail
    go_ret
    exact ⟨by simp, Grew.of_alloc hg1⟩
  | false =>
    rw [if_neg (by simp)]
    have HR := fun w => inRange_c a 1 6 w
    generalize decide (1 ≤ a ∧ a ≤ 6) = R at *
    cases R with
    | true =>
      replace HR := Lib.hid HR
      go_enter Tryz.func78, Tryz.ntmps78
      go_wp2_with fail
      refine (HR.out _).mono ?_
      rintro e w1 ⟨rfl, hg1⟩
      have k1 : w1.cell? ⟨w.heap.size, 1, none⟩ = some (.int .i64 b) := (hg1.cell (by simp)).trans (by simp)
      go_wp2_with fail
      go_ret
      exact ⟨by simp, Grew.of_alloc hg1⟩
    | false =>
      replace HR := Lib.hid HR
      go_enter Tryz.func78, Tryz.ntmps78
      go_wp2_with fail
      refine (HR.out _).mono ?_
      rintro e w1 ⟨rfl, hg1⟩
      go_wp2_with fail
      go_ret
      exact ⟨by simp, Grew.of_alloc hg1⟩

def noNode (a b : Int) : Bool := !nodeB a b
theorem isFormula1_ok : PredOk 77 noNode := by
  intro a b w
  unfold noNode
  have HR := Lib.hid (fun w => isNode_c a b w)
  generalize nodeB a b = R at *
  go_enter Tryz.func77, Tryz.ntmps77
  go_wp2_with fail
  refine (HR.out _).mono ?_
  rintro e w1 ⟨rfl, hg1⟩
  go_wp2_with fail
  go_ret
  exact ⟨rfl, Grew.of_alloc hg1⟩

noncomputable def fmB (xs : List Nd) : Bool := decide (1 ≤ xs.length ∧ xs.length ≤ 40) && !anyP noNode xs && (pend xs 0 == (xs.length : Int))

theorem isFormula_g (v : Value) (xs : List Nd) (w : World) (h : Nodes w v xs) (hn : xs.length ≤ 1099511627776) :
    Calls Tryz.prog 45 #[v] w fun e w' => e = .returned (.bool (fmB xs)) ∧ Grew w w' := by
  have HC := Lib.hid (fun w h => containsFunc_c v xs _ _ w h hn isFormula1_ok (enters_of Tryz.func77 (by kernel_rfl) rfl))
  have HP := Lib.hid (fun w h => partEnd_c v xs 0 w h hn (by omega))
  obtain ⟨A, c, rfl⟩ := nodes_slice h
  have HN := Lib.hid h
  clear h
  unfold fmB
  generalize pend xs 0 = p at *
  generalize anyP noNode xs = q at *
  generalize hL : xs.length = n at *
  clear hL
  by_cases h1 : 1 ≤ n
  · by_cases h2 : n ≤ 40
    · rw [decide_eq_true (⟨h1, h2⟩ : 1 ≤ n ∧ n ≤ 40), Bool.true_and]
      cases q with
      | true =>
        go_enter Tryz.func45, Tryz.ntmps45
        go_wp2_with fail
        refine (HC.out _ HN.out).mono ?_
        rintro e w1 ⟨rfl, hg1⟩
        go_wp2_with fail
        go_ret
        exact ⟨by simp, hg1⟩
      | false =>
        go_enter Tryz.func45, Tryz.ntmps45
        go_wp2_with fail
        refine (HC.out _ HN.out).mono ?_
        rintro e w1 ⟨rfl, hg1⟩
        go_wp2_with fail
        refine (HP.out _ (HN.out.grew hg1)).mono ?_
        rintro e w2 ⟨rfl, hg2⟩
        go_wp2_with fail
        go_ret
        exact ⟨by simp, hg1.trans hg2⟩
    · rw [decide_eq_false (fun h : 1 ≤ n ∧ n ≤ 40 => h2 h.2), Bool.false_and, Bool.false_and]
      go_enter Tryz.func45, Tryz.ntmps45
      go_wp2_with fail
      go_ret
      exact ⟨rfl, Grew.refl _⟩
  · rw [decide_eq_false (fun h : 1 ≤ n ∧ n ≤ 40 => h1 h.1), Bool.false_and, Bool.false_and]
    go_enter Tryz.func45, Tryz.ntmps45
    go_wp2_with fail
    go_ret
    exact ⟨rfl, Grew.refl _⟩
end Go.Proofs.YtopjgcbhjhhlfaaGreat


/- l02Is of the reference, at any list. -/
namespace Go.Proofs.YtopjgcbhjhhlfaaGreat
open Go.RowKit
open Fm (Nd Tree)

theorem nodeB_bad1 {a b : Int} (h : decide (0 ≤ a ∧ a ≤ 6) = false) : nodeB a b = false := by
  unfold nodeB
  have h' := of_decide_eq_false h
  rw [if_neg (by simp; omega), decide_eq_false (by omega)]
  rfl
theorem nodeB_bad2 {a b : Int} (h : decide (0 ≤ b ∧ b ≤ 5) = false) : nodeB a b = false := by
  unfold nodeB
  have h' := of_decide_eq_false h
  split
  · exact h
  · have : (b == 0) = false := by simp; omega
    rw [this, Bool.and_false]
theorem nodeB_bad3 {a b : Int} (h0 : (a != 0) = true) (h1 : (b != 0) = true) : nodeB a b = false := by
  unfold nodeB
  simp at h0 h1
  rw [if_neg (by simpa using h0)]
  simp [h1]
theorem nodeB_ok {a b : Int} (h1 : decide (0 ≤ a ∧ a ≤ 6) = true) (h2 : decide (0 ≤ b ∧ b ≤ 5) = true) (h : (a != 0) = false ∨ (b != 0) = false) : nodeB a b = true := by
  unfold nodeB
  have h1' := of_decide_eq_true h1
  split
  · exact h2
  · rename_i hne
    rcases h with h | h
    · simp at h; simp [h] at hne
    · simp at h
      subst h
      have : a ≠ 0 := by simpa using hne
      simp; omega

theorem l02Tree_c (v : Value) (xs : List Nd) (w : World) (h : Nodes w v xs) (hn : xs.length ≤ 1099511627776) :
    Calls Tryz.prog 72 #[v] w fun e w' => e = .returned (.bool (decide (1 ≤ xs.length) && !anyP noNode xs && (pend xs 0 == (xs.length : Int)))) ∧ Grew w w' := by
  rcases h.open_ with ⟨rfl, rfl⟩ | ⟨b, o, c, rfl, hc, hm, hb, hcell⟩
  · clear h
    go_enter Tryz.func72, Tryz.ntmps72
    go_wp2_with fail
    refine wp_loop_rounds 1 ?_; rw [rounds_succ]
    go_wp2_with fail
    go_ret
    exact ⟨rfl, Grew.refl _⟩
  obtain ⟨R, hR⟩ : ∃ R, R = anyP noNode xs := ⟨_, rfl⟩
  rw [← hR]
  have HA := Lib.hid (fun k hk h => hR.trans (@anyP_at noNode xs k hk h))
  have HZ := Lib.hid (fun h => hR.trans (@anyP_no noNode xs h))
  have HP := Lib.hid (fun W (hW : Grew w W) => l02Part_c _ xs 0 W (h.grew hW) hn (by omega))
  have HC := Lib.hid hcell
  clear hcell h hR
  generalize pend xs 0 = p at *
  generalize hN : xs.length = n at *
  clear hN
  go_enter Tryz.func72, Tryz.ntmps72
  go_wp2_with fail
  go_loopw [3] (fun i wr => ∃ j : Nat, j ≤ n ∧ i = .int .i64 j ∧ Grew w wr ∧ Hid (NoneP noNode xs j)) (fun i _ => n - (intOf i).toNat)
  case atStart => exact ⟨0, Nat.zero_le _, rfl, Grew.refl _, NoneP.zero _ _⟩
  case round =>
    obtain ⟨j, hj, rfl, hB, HJ⟩ := hrel
    by_cases hlt : j < n
    · have k1 : ∀ W, Grew w W → W.cell? ⟨b, o + j * 2, none⟩ = some (.int .i64 (kd xs j)) := fun W hW => (HC.out j hlt W hW).1
      have k2 : ∀ W, Grew w W → W.cell? ⟨b, o + j * 2 + 1, none⟩ = some (.int .i64 (sy xs j)) := fun W hW => (HC.out j hlt W hW).2
      have hA : Hid (nodeB (kd xs j) (sy xs j) = false → R = true) := Lib.hid (fun h => HA.out j hlt (by rw [noNode, h]; rfl))
      have hS : Hid (nodeB (kd xs j) (sy xs j) = true → NoneP noNode xs (j + 1)) := Lib.hid (fun h => HJ.out.succ (k := j) (by rw [noNode, h]; rfl))
      generalize kd xs j = x at *
      generalize sy xs j = y at *
      have I1 := fun w => l01In_c x 0 6 w
      have I2 := fun w => l01In_c y 0 5 w
      have hd : ∀ W, Grew w W → Grew w W.drew := fun W h => h.drew
      cases d1 : decide (0 ≤ x ∧ x ≤ 6) with
      | false =>
        have hv := Lib.hid (hA.out (nodeB_bad1 d1))
        rw [d1] at I1
        replace I1 := Lib.hid I1
        replace I2 := Lib.hid I2
        clear d1
        go_wp2_with fail
        refine (I1.out _).mono ?_
        rintro e w1 ⟨rfl, hg1⟩
        have hB1 := hB.trans hg1
        go_wp2_with fail
        go_ret
        rw [hv.out]
        exact ⟨by simp, hB1⟩
      | true =>
        rw [d1] at I1
        replace I1 := Lib.hid I1
        cases d2 : decide (0 ≤ y ∧ y ≤ 5) with
        | false =>
          have hv := Lib.hid (hA.out (nodeB_bad2 d2))
          rw [d2] at I2
          replace I2 := Lib.hid I2
          clear d1 d2
          go_wp2_with fail
          refine (I1.out _).mono ?_
          rintro e w1 ⟨rfl, hg1⟩
          have hB1 := hB.trans hg1
          go_wp2_with fail
          refine (I2.out _).mono ?_
          rintro e w2 ⟨rfl, hg2⟩
          have hB2 := hB1.trans hg2
          go_wp2_with fail
          go_ret
          rw [hv.out]
          exact ⟨by simp, hB2⟩
        | true =>
          rw [d2] at I2
          replace I2 := Lib.hid I2
          cases d3 : (x != 0) with
          | false =>
            have hs := Lib.hid (hS.out (nodeB_ok d1 d2 (.inl d3)))
            clear d1 d2
            go_wp2_with fail
            refine (I1.out _).mono ?_
            rintro e w1 ⟨rfl, hg1⟩
            have hB1 := hB.trans hg1
            go_wp2_with fail
            refine (I2.out _).mono ?_
            rintro e w2 ⟨rfl, hg2⟩
            have hB2 := hB1.trans hg2
            go_wp2_with fail
            go_roundw
            case rel => exact ⟨j + 1, by omega, by go_num, hB2, hs⟩
            case measure => simp [intOf]; omega
          | true =>
            cases d4 : (y != 0) with
            | true =>
              have hv := Lib.hid (hA.out (nodeB_bad3 d3 d4))
              clear d1 d2
              go_wp2_with fail
              refine (I1.out _).mono ?_
              rintro e w1 ⟨rfl, hg1⟩
              have hB1 := hB.trans hg1
              go_wp2_with fail
              refine (I2.out _).mono ?_
              rintro e w2 ⟨rfl, hg2⟩
              have hB2 := hB1.trans hg2
              go_wp2_with fail
              go_ret
              rw [hv.out]
              exact ⟨by simp, hB2⟩
            | false =>
              have hs := Lib.hid (hS.out (nodeB_ok d1 d2 (.inr d4)))
              clear d1 d2
              go_wp2_with fail
              refine (I1.out _).mono ?_
              rintro e w1 ⟨rfl, hg1⟩
              have hB1 := hB.trans hg1
              go_wp2_with fail
              refine (I2.out _).mono ?_
              rintro e w2 ⟨rfl, hg2⟩
              have hB2 := hB1.trans hg2
              go_wp2_with fail
              go_roundw
              case rel => exact ⟨j + 1, by omega, by go_num, hB2, hs⟩
              case measure => simp [intOf]; omega
    · obtain rfl : j = n := by omega
      have hv := Lib.hid (HZ.out HJ.out)
      by_cases hz : 0 < j
      · have hz1 : decide (1 ≤ j) = true := by simp; omega
        go_wp2_with fail
        refine (HP.out _ hB).mono ?_
        rintro e w1 ⟨rfl, hg1⟩
        go_wp2_with fail
        go_ret
        rw [hv.out]
        exact ⟨by rw [hz1]; simp, hB.trans hg1⟩
      · have hz1 : decide (1 ≤ j) = false := by simp; omega
        go_wp2_with fail
        go_ret
        rw [hv.out, hz1]
        exact ⟨by simp, hB⟩

theorem l02Is_c (v : Value) (xs : List Nd) (w : World) (h : Nodes w v xs) (hn : xs.length ≤ 1099511627776) :
    Calls Tryz.prog 41 #[v] w fun e w' => e = .returned (.bool (fmB xs)) ∧ Grew w w' := by
  have HT := fun W (hW : Grew w W) => l02Tree_c v xs W (h.grew hW) hn
  obtain ⟨A, c, rfl⟩ := nodes_slice h
  clear h
  unfold fmB
  generalize pend xs 0 = p at *
  generalize anyP noNode xs = q at *
  generalize hL : xs.length = n at *
  clear hL
  by_cases h2 : n ≤ 40
  · rw [show decide (1 ≤ n ∧ n ≤ 40) = decide (1 ≤ n) from by simp [h2]]
    generalize (decide (1 ≤ n) && !q && (p == (n : Int))) = r at *
    replace HT := Lib.hid HT
    go_enter Tryz.func41, Tryz.ntmps41
    go_wp2_with fail
    refine (HT.out _ (Grew.refl _)).mono ?_
    rintro e w1 ⟨rfl, hg1⟩
    go_wp2_with fail
    go_ret
    exact ⟨rfl, hg1⟩
  · rw [show decide (1 ≤ n ∧ n ≤ 40) = false from by simp [h2], Bool.false_and, Bool.false_and]
    replace HT := Lib.hid HT
    go_enter Tryz.func41, Tryz.ntmps41
    go_wp2_with fail
    go_ret
    exact ⟨rfl, Grew.refl _⟩
end Go.Proofs.YtopjgcbhjhhlfaaGreat


/- A list of good nodes that a scan reads whole is the list of a formula's tree. No program is in sight. -/
namespace Go.Proofs.YtopjgcbhjhhlfaaGreat
open Go.RowKit
open Fm (Nd Tree)

theorem nodeB_cases {x : Nd} (h : nodeB x.1 x.2 = true) : (∃ v : Fin 6, x = (0, (v.val : Int))) ∨ x = (1, 0) ∨ x = (2, 0) ∨ x = (3, 0) ∨ x = (4, 0) ∨ x = (5, 0) ∨ x = (6, 0) := by
  obtain ⟨a, b⟩ := x
  unfold nodeB at h
  simp only at h
  split at h
  · rename_i h0
    have ha : a = 0 := by simpa using h0
    have hb := of_decide_eq_true h
    left
    refine ⟨⟨b.toNat, by omega⟩, ?_⟩
    rw [ha]
    congr 1
    simp; omega
  · simp only [Bool.and_eq_true, decide_eq_true_eq, beq_iff_eq] at h
    obtain ⟨⟨h1, h2⟩, rfl⟩ := h
    right
    obtain rfl | rfl | rfl | rfl | rfl | rfl : a = 1 ∨ a = 2 ∨ a = 3 ∨ a = 4 ∨ a = 5 ∨ a = 6 := by omega
    all_goals simp

theorem fm_trees : ∀ (xs : List Nd) (o n : Nat), Fm.scan xs o = some n → (∀ x ∈ xs, nodeB x.1 x.2 = true) → ∃ (ts : List Tree) (rest : List Nd), ts.length = o ∧ xs = ts.flatMap Fm.enc ++ rest ∧ n = (ts.flatMap Fm.enc).length := by
  intro xs
  induction xs with
  | nil =>
    intro o n h _
    cases o with
    | zero => simp [Fm.scan_zero] at h; exact ⟨[], [], rfl, rfl, by simp [h]⟩
    | succ o => simp [Fm.scan_nil] at h
  | cons x xs ih =>
    intro o n h hp
    cases o with
    | zero => simp [Fm.scan_zero] at h; exact ⟨[], x :: xs, rfl, by simp, by simp [h]⟩
    | succ o =>
      rw [Fm.scan_cons] at h
      cases hs : Fm.scan xs (o + Fm.arity x.1) with
      | none => rw [hs] at h; simp at h
      | some m =>
        rw [hs] at h
        simp only [Option.map_some, Option.some.injEq] at h
        obtain ⟨ts, rest, h1, h2, h3⟩ := ih _ _ hs (fun y hy => hp y (by simp [hy]))
        have two : ∀ (f : Tree → Tree → Tree), (∀ a b, Fm.enc (f a b) = x :: (Fm.enc a ++ Fm.enc b)) → Fm.arity x.1 = 2 → ∃ (ts : List Tree) (rest : List Nd), ts.length = o + 1 ∧ x :: xs = ts.flatMap Fm.enc ++ rest ∧ n = (ts.flatMap Fm.enc).length := by
          intro f hf ha
          rw [ha] at h1
          match ts, h1, h2, h3 with
          | a :: b :: ts, h1, h2, h3 =>
            refine ⟨f a b :: ts, rest, by simp at h1; simp [h1], by simp [hf, h2], ?_⟩
            rw [← h, h3]
            simp only [List.flatMap_cons, hf, List.length_append, List.length_cons]
            omega
          | [_], h1, _, _ => simp at h1
        have one : ∀ (f : Tree → Tree), (∀ a, Fm.enc (f a) = x :: Fm.enc a) → Fm.arity x.1 = 1 → ∃ (ts : List Tree) (rest : List Nd), ts.length = o + 1 ∧ x :: xs = ts.flatMap Fm.enc ++ rest ∧ n = (ts.flatMap Fm.enc).length := by
          intro f hf ha
          rw [ha] at h1
          match ts, h1, h2, h3 with
          | a :: ts, h1, h2, h3 =>
            refine ⟨f a :: ts, rest, by simp at h1; simp [h1], by simp [hf, h2], ?_⟩
            rw [← h, h3]
            simp only [List.flatMap_cons, hf, List.length_append, List.length_cons]
            omega
        have zero : ∀ (f : Tree), Fm.enc f = [x] → Fm.arity x.1 = 0 → ∃ (ts : List Tree) (rest : List Nd), ts.length = o + 1 ∧ x :: xs = ts.flatMap Fm.enc ++ rest ∧ n = (ts.flatMap Fm.enc).length := by
          intro f hf ha
          rw [ha] at h1
          refine ⟨f :: ts, rest, by simp [h1], by simp [hf, h2], ?_⟩
          rw [← h, h3]
          simp only [List.flatMap_cons, hf, List.length_append, List.length_cons, List.length_nil]
          omega
        rcases nodeB_cases (hp x (by simp)) with ⟨v, rfl⟩ | rfl | rfl | rfl | rfl | rfl | rfl
        · exact zero (.var v) rfl rfl
        · exact zero .fls rfl rfl
        · exact two .and (fun _ _ => rfl) rfl
        · exact two .or (fun _ _ => rfl) rfl
        · exact two .imp (fun _ _ => rfl) rfl
        · exact one .box (fun _ => rfl) rfl
        · exact one .dia (fun _ => rfl) rfl

theorem fmB_tree {xs : List Nd} (h : fmB xs = true) : ∃ t, xs = Fm.enc t ∧ xs.length ≤ 40 := by
  unfold fmB at h
  simp only [Bool.and_eq_true, decide_eq_true_eq, Bool.not_eq_true', beq_iff_eq] at h
  obtain ⟨⟨⟨h1, h2⟩, h3⟩, h4⟩ := h
  have hall : ∀ x ∈ xs, nodeB x.1 x.2 = true := by
    intro x hx
    obtain ⟨i, hi, rfl⟩ := List.getElem_of_mem hx
    cases hb : nodeB (xs[i]).1 (xs[i]).2 with
    | true => rfl
    | false =>
      rw [kd_lt hi] at hb
      have := anyP_at (p := noNode) hi (by rw [noNode, hb]; rfl)
      rw [this] at h3
      cases h3
  have hs : Fm.scan xs 1 = some xs.length := by
    unfold pend at h4
    rw [List.drop_zero] at h4
    cases hz : Fm.scan xs 1 with
    | none => rw [hz] at h4; simp only [pval] at h4; omega
    | some n => rw [hz] at h4; simp only [pval] at h4; congr 1; omega
  obtain ⟨ts, rest, e1, e2, e3⟩ := fm_trees xs 1 _ hs hall
  match ts, e1 with
  | [t], _ =>
    refine ⟨t, ?_, h2⟩
    have hl := congrArg List.length e2
    rw [List.length_append] at hl
    have : rest = [] := List.eq_nil_of_length_eq_zero (by omega)
    rw [this] at e2
    simpa using e2
end Go.Proofs.YtopjgcbhjhhlfaaGreat


/- FnMonotone: ForcedSet of both sides, UpsetOf, UpsetsOf, MembersOf, PartOfValuation (printed by gen/mna.py). -/
namespace Go.Proofs.YtopjgcbhjhhlfaaGreat
open Go.RowKit
open Fm (Nd Tree)

end Go.Proofs.YtopjgcbhjhhlfaaGreat


/- FnMonotone: the upsets of a poset (upsets, UpsetsOf, UpsetOf, posetCode, maskCode, MembersOf, hasInt). -/
namespace Go.Proofs.YtopjgcbhjhhlfaaGreat
open Go.RowKit
open Fm (Nd Tree)

theorem mk_yes {n m : Nat} (h : m < 2 ^ n) : mk n (m : Int) = true := by
  unfold mk
  rw [decide_eq_true_eq]
  omega
theorem zs_snoc (L : List Nat) (k : Nat) : zs (L ++ [k]) = zs L ++ [(k : Int)] := by simp [zs]

end Go.Proofs.YtopjgcbhjhhlfaaGreat


/- FnMonotone: DefinableUpsets' closure 'add': a list without repetition and the map of its members. -/
namespace Go.Proofs.YtopjgcbhjhhlfaaGreat
open Go.RowKit
open Go.MapKept

def Kmap (w : World) (M : Nat) (L : List Nat) : Prop := ∃ es clock, w.heap[M]? = some (.map es clock) ∧ (∀ x ∈ es.toList, ∃ k : Nat, x.key = .int .i64 (k : Int) ∧ x.val = .bool true ∧ k ∈ L) ∧ ∀ k ∈ L, ∃ x ∈ es.toList, x.key = .int .i64 (k : Int)
theorem Kmap.lt {w : World} {M : Nat} {L : List Nat} (h : Kmap w M L) : M < w.heap.size := let ⟨_, _, h1, _⟩ := h; (Array.getElem?_eq_some_iff.1 h1).1
theorem Kmap.only {w w' : World} {M g : Nat} {L : List Nat} (h : Kmap w M L) (ho : Only g w w') (hne : M ≠ g) : Kmap w' M L := by
  have hl := h.lt
  obtain ⟨es, clock, h1, h2⟩ := h
  exact ⟨es, clock, (ho.block hl hne).trans h1, h2⟩
theorem Kmap.grew {w w' : World} {M : Nat} {L : List Nat} (h : Kmap w M L) (hg : Grew w w') : Kmap w' M L := by
  have hl := h.lt
  obtain ⟨es, clock, h1, h2⟩ := h
  exact ⟨es, clock, (hg.block hl).trans h1, h2⟩
theorem Kmap.new (w : World) : Kmap (w.alloc (.map #[] 0)) w.heap.size [] := ⟨#[], 0, blk_new w _, fun x hx => by simp at hx, fun k hk => by simp at hk⟩
theorem kmap_keys {es : Array MapEntry} {L : List Nat} (h : ∀ x ∈ es.toList, ∃ k : Nat, x.key = .int .i64 (k : Int) ∧ x.val = .bool true ∧ k ∈ L) : ∀ x ∈ es.toList, IsKey (.int .i64) x.key := fun x hx => by
  obtain ⟨k, h1, _⟩ := h x hx
  rw [h1]
  rfl
theorem run_kmap_look {P : Program} {w : World} {M : Nat} {L : List Nat} (h : Kmap w M L) (t kt et : TypeId) (ht : P.underlying t = some (.map kt et)) (hk : P.underlying kt = some (.int .i64)) (hz : (zeroValue et).run P w = .ok (.bool false) w) (k : Nat) :
    (Instr.lookup t (.map (some M)) (.int .i64 (k : Int)) false).run P w = .ok (.bool (decide (k ∈ L))) w := by
  obtain ⟨es, clock, h1, h2, h3⟩ := h
  have hkey : IsKey (.int .i64) (.int .i64 (k : Int)) := rfl
  rcases findNow_spec hkey es.toList 0 (kmap_keys h2) with ⟨h4, h5⟩ | ⟨j, e, h4, h5, h6⟩
  · have hn : k ∉ L := fun hm => by
      obtain ⟨x, hx, hxk⟩ := h3 k hm
      exact h5 x hx hxk
    rw [decide_eq_false hn]
    simp [Instr.lookup, run_underlying ht, MapKept.run_getObj_map h1, MapKept.run_checkKey hk hkey, MapKept.run_findKey hk h4, hz, Result.andThen]
  · obtain ⟨k', h7, h8, h9⟩ := h2 e (List.mem_of_getElem? h5)
    have hkk : k' = k := by
      rw [h7] at h6
      simp only [Value.int.injEq, true_and] at h6
      omega
    rw [decide_eq_true (hkk ▸ h9)]
    simp [Instr.lookup, run_underlying ht, MapKept.run_getObj_map h1, MapKept.run_checkKey hk hkey, MapKept.run_findKey hk h4, h8, Result.andThen]
theorem run_kmap_put {P : Program} {w : World} {M : Nat} {L : List Nat} (h : Kmap w M L) (t kt et : TypeId) (ht : P.underlying t = some (.map kt et)) (hk : P.underlying kt = some (.int .i64)) (k : Nat) (hn : k ∉ L) :
    ∃ w', (Instr.mapUpdate t (.map (some M)) (.int .i64 (k : Int)) (.bool true)).run P w = .ok () w' ∧ Only M w w' ∧ Kmap w' M (L ++ [k]) := by
  obtain ⟨es, clock, h1, h2, h3⟩ := h
  have hkey : IsKey (.int .i64) (.int .i64 (k : Int)) := rfl
  have hOnly : ∀ o, Only M w { w with heap := w.heap.setIfInBounds M o } := fun o => ⟨rfl, rfl, rfl, by simp, fun i _ hne => (heap_set h1).2 i (fun e => hne (by rw [e]))⟩
  rcases findNow_spec hkey es.toList 0 (kmap_keys h2) with ⟨h4, _⟩ | ⟨j, e, h4, h5, h6⟩
  · refine ⟨_, ?_, hOnly (.map (es.push { key := .int .i64 (k : Int), val := .bool true, born := clock }) (clock + 1)), ⟨_, _, (heap_set h1).1, fun x hx => ?_, fun q hq => ?_⟩⟩
    · simp [Instr.mapUpdate, run_underlying ht, MapKept.run_getObj_map h1, MapKept.run_checkKey hk hkey, MapKept.run_findKey hk h4, MapKept.run_setObj_map _ h1, Result.andThen]
    · simp only [Array.toList_push, List.mem_append, List.mem_singleton] at hx
      rcases hx with hx | rfl
      · obtain ⟨q, q1, q2, q3⟩ := h2 x hx
        exact ⟨q, q1, q2, by simp [q3]⟩
      · exact ⟨k, rfl, rfl, by simp⟩
    · simp only [List.mem_append, List.mem_singleton] at hq
      rcases hq with hq | rfl
      · obtain ⟨x, hx, hxk⟩ := h3 q hq
        exact ⟨x, by simp [hx], hxk⟩
      · exact ⟨{ key := .int .i64 (q : Int), val := .bool true, born := clock }, by simp, rfl⟩
  · exfalso
    obtain ⟨k', h7, h8, h9⟩ := h2 e (List.mem_of_getElem? h5)
    have hkk : k' = k := by
      rw [h7] at h6
      simp only [Value.int.injEq, true_and] at h6
      omega
    exact hn (hkk ▸ h9)
theorem wpList_kput {ops : Array Oper} {rest : List Oper} {o : Oper} {a : Act} {Q : Exit → Act → World → Prop} (w : World) (hg : o.guard = none) (m x v : Operand) (t : TypeId) (hop : o.op = Op.mapUpdate t m x v) (kt et : TypeId)
    (ht : Tryz.prog.underlying t = some (.map kt et)) (hk : Tryz.prog.underlying kt = some (.int .i64)) (M : Nat) (k : Nat) (L : List Nat) (hm : a.eval m = .map (some M)) (hx : a.eval x = .int .i64 (k : Int)) (hv : a.eval v = .bool true) (hM : Kmap w M L) (hn : k ∉ L)
    (hK : ∀ w', Only M w w' → Kmap w' M (L ++ [k]) → wpList Tryz.prog ops Q rest (a.put o.dst undef) w') : wpList Tryz.prog ops Q (o :: rest) a w := by
  refine wpList_plain hg fun K' hK' => ?_
  obtain ⟨w', hrun, r1, r2⟩ := run_kmap_put (P := Tryz.prog) hM t kt et ht hk k hn
  unfold Oper.wp
  simp [execOp, hop, hm, hx, hv, hrun, Result.andThen]
  exact hK' _ _ (hK w' r1 r2)

structure Kn (w : World) (bm bo M B : Nat) (L : List Nat) : Prop where
  cm : w.heap[bm]? = some (.cells #[.map (some M)] 85 (0, 0))
  mp : Kmap w M L
  out : ∃ A n c, w.heap[bo]? = some (.cells #[.slice A n c] 24 (0, 0)) ∧ OwnI w B (.slice A n c) (zs L)
  d1 : bm ≠ bo
  d2 : bm ≠ M
  d3 : bo ≠ M
  l1 : bm < B
  l2 : bo < B
  l3 : M < B
theorem Kn.grew {w w' : World} {bm bo M B : Nat} {L : List Nat} (h : Kn w bm bo M B L) (hg : Grew w w') : Kn w' bm bo M B L := by
  obtain ⟨A, n, c, h1, h2⟩ := h.out
  exact ⟨(hg.block (blk_lt h.cm)).trans h.cm, h.mp.grew hg, ⟨A, n, c, (hg.block (blk_lt h1)).trans h1, h2.grew hg⟩, h.d1, h.d2, h.d3, h.l1, h.l2, h.l3⟩

theorem own_shape {w : World} {B : Nat} {v : Value} {L : List Int} (h : OwnI w B v L) : ∃ A n c, v = .slice A n c := by
  obtain ⟨A, c, h⟩ := ints_slice h.ints
  exact ⟨_, _, _, h⟩
theorem ownI_of_ge {w : World} {B : Nat} {v : Value} {L : List Int} (h : OwnI w B v L) {g : Nat} (he : v.ownBlock = some g) : B ≤ g := (h.lt g he).1
end Go.Proofs.YtopjgcbhjhhlfaaGreat


/- Sorting numbers and dropping repeats: the ascending list of them. No program is in sight. -/
namespace Go.Proofs.YtopjgcbhjhhlfaaGreat
open Go.RowKit Go.Sort

def below (n : Nat) (p : Nat → Bool) : List Int := ((List.range n).filter p).map fun i : Nat => (i : Int)
end Go.Proofs.YtopjgcbhjhhlfaaGreat


/- Contracts of the library (sorting, compacting strings), laid at this program. -/
namespace Go.Proofs
open Go.Shelf
open Go.RowKit Go.Lib Go.Sort in
open Go.RowKit Go.Lib Go.Sort in
open Go.RowKit Go.Lib Go.Sort in
def Tryz.laysSortI_ren : Go.Shelf.Ren := ⟨fun | 5 => 58 | 8 => 90 | 7 => 89 | 19 => 119 | 20 => 120 | 10 => 110 | 11 => 111 | 12 => 112 | 13 => 113 | 14 => 114 | 15 => 115 | 16 => 116 | 17 => 117 | 18 => 118 | 30 => 124 | 31 => 125 | 32 => 126 | 33 => 127 | 34 => 128 | 35 => 129 | 40 => 131 | n => n, fun | 23 => 24 | 25 => 2 | 3 => 3 | 32 => 82 | 22 => 24 | 0 => 0 | 44 => 132 | 46 => 71 | 4 => 4 | 36 => 125 | 35 => 124 | 41 => 129 | 5 => 5 | 9 => 9 | 53 => 137 | 57 => 141 | 63 => 144 | 64 => 145 | n => n, fun | n => n⟩
theorem Tryz.laysSortI : Go.Proofs.SlLaysM.n5 Tryz.prog Tryz.laysSortI_ren := {
  mixed := by kernel_rfl
  f5 := ⟨Tryz.f58.name, by decide, Tryz.func58.trans (congrArg some (by kernel_rfl))⟩
  f7 := ⟨Tryz.f89.name, by decide, Tryz.func89.trans (congrArg some (by kernel_rfl))⟩
  f8 := Tryz.func90.trans (congrArg some (by kernel_rfl))
  f10 := ⟨Tryz.f110.name, by decide, Tryz.func110.trans (congrArg some (by kernel_rfl))⟩
  f11 := ⟨Tryz.f111.name, by decide, Tryz.func111.trans (congrArg some (by kernel_rfl))⟩
  f12 := ⟨Tryz.f112.name, by decide, Tryz.func112.trans (congrArg some (by kernel_rfl))⟩
  f13 := ⟨Tryz.f113.name, by decide, Tryz.func113.trans (congrArg some (by kernel_rfl))⟩
  f14 := ⟨Tryz.f114.name, by decide, Tryz.func114.trans (congrArg some (by kernel_rfl))⟩
  f15 := ⟨Tryz.f115.name, by decide, Tryz.func115.trans (congrArg some (by kernel_rfl))⟩
  f16 := ⟨Tryz.f116.name, by decide, Tryz.func116.trans (congrArg some (by kernel_rfl))⟩
  f17 := ⟨Tryz.f117.name, by decide, Tryz.func117.trans (congrArg some (by kernel_rfl))⟩
  f18 := ⟨Tryz.f118.name, by decide, Tryz.func118.trans (congrArg some (by kernel_rfl))⟩
  f19 := Tryz.func119.trans (congrArg some (by kernel_rfl))
  f20 := Tryz.func120.trans (congrArg some (by kernel_rfl))
  f30 := ⟨Tryz.f124.name, by decide, Tryz.func124.trans (congrArg some (by kernel_rfl))⟩
  f31 := Tryz.func125.trans (congrArg some (by kernel_rfl))
  f32 := Tryz.func126.trans (congrArg some (by kernel_rfl))
  f33 := ⟨Tryz.f127.name, by decide, Tryz.func127.trans (congrArg some (by kernel_rfl))⟩
  f34 := ⟨Tryz.f128.name, by decide, Tryz.func128.trans (congrArg some (by kernel_rfl))⟩
  f35 := ⟨Tryz.f129.name, by decide, Tryz.func129.trans (congrArg some (by kernel_rfl))⟩
  f40 := ⟨Tryz.f131.name, by decide, Tryz.func131.trans (congrArg some (by kernel_rfl))⟩
  t0 := Tryz.underlying0
  a0 := Tryz.isAgg0
  z0 := Tryz.sizeOf0
  v0 := Tryz.zeroValue0
  t3 := Tryz.underlying3
  a3 := Tryz.isAgg3
  z3 := Tryz.sizeOf3
  v3 := Tryz.zeroValue3
  t4 := Tryz.underlying4
  a4 := Tryz.isAgg4
  z4 := Tryz.sizeOf4
  v4 := Tryz.zeroValue4
  t5 := Tryz.underlying5
  a5 := Tryz.isAgg5
  z5 := Tryz.sizeOf5
  v5 := Tryz.zeroValue5
  t9 := Tryz.underlying9
  a9 := Tryz.isAgg9
  z9 := Tryz.sizeOf9
  v9 := Tryz.zeroValue9
  t22 := Tryz.underlying24
  a22 := Tryz.isAgg24
  z22 := Tryz.sizeOf24
  v22 := Tryz.zeroValue24
  t23 := Tryz.underlying24
  a23 := Tryz.isAgg24
  z23 := Tryz.sizeOf24
  v23 := Tryz.zeroValue24
  t25 := Tryz.underlying2
  a25 := Tryz.isAgg2
  z25 := Tryz.sizeOf2
  v25 := Tryz.zeroValue2
  t32 := Tryz.underlying82
  a32 := Tryz.isAgg82
  z32 := Tryz.sizeOf82
  v32 := Tryz.zeroValue82
  t35 := Tryz.underlying124
  a35 := Tryz.isAgg124
  z35 := Tryz.sizeOf124
  v35 := Tryz.zeroValue124
  t36 := Tryz.underlying125
  a36 := Tryz.isAgg125
  z36 := Tryz.sizeOf125
  v36 := Tryz.zeroValue125
  t41 := Tryz.underlying129
  a41 := Tryz.isAgg129
  z41 := Tryz.sizeOf129
  v41 := Tryz.zeroValue129
  t44 := Tryz.underlying132
  a44 := Tryz.isAgg132
  z44 := Tryz.sizeOf132
  v44 := Tryz.zeroValue132
  t46 := Tryz.underlying71
  a46 := Tryz.isAgg71
  z46 := Tryz.sizeOf71
  v46 := Tryz.zeroValue71
  t53 := Tryz.underlying137
  a53 := Tryz.isAgg137
  z53 := Tryz.sizeOf137
  v53 := Tryz.zeroValue137
  t57 := Tryz.underlying141
  a57 := Tryz.isAgg141
  z57 := Tryz.sizeOf141
  v57 := Tryz.zeroValue141
  t63 := Tryz.underlying144
  a63 := Tryz.isAgg144
  z63 := Tryz.sizeOf144
  v63 := Tryz.zeroValue144
  t64 := Tryz.underlying145
  a64 := Tryz.isAgg145
  z64 := Tryz.sizeOf145
  v64 := Tryz.zeroValue145 }
open Go.Sort Go.RowKit in
theorem Tryz.slices_Sort_int (blk off cap : Nat) (zs : List Int) (w : World) (hH : Holds (Value.int .i64) w blk off zs.toArray) (hblk : blk < w.heap.size) (hsz : zs.length < 4611686018427387904) :
    Calls Tryz.prog 58 #[.slice (some ⟨blk, off, none⟩) zs.length cap] w fun e w' =>
      e = .returned (.tuple #[]) ∧ ∃ n os, w' = grow (putRow (Value.int .i64) (Sort.ahead w n) blk off (zs.mergeSort fun x y => decide (x ≤ y)).toArray) os := AnyM.slices_Sort_int Tryz.laysSortI blk off cap zs w hH hblk hsz
open Go.RowKit Go.Sort in
theorem Tryz.slices_Sort_int_none (p : Option Addr) (cap : Nat) (w : World) :
    Calls Tryz.prog 58 #[.slice p 0 cap] w fun e w' => e = .returned (.tuple #[]) ∧ w' = w := AnyM.slices_Sort_int_none Tryz.laysSortI p cap w
end Go.Proofs


/- slices.Sort and slices.Compact of numbers, on a row of the call's own. -/
namespace Go.Proofs.YtopjgcbhjhhlfaaGreat
open Go.RowKit Go.Sort

end Go.Proofs.YtopjgcbhjhhlfaaGreat


/- FnMonotone: DefinableUpsets. -/
namespace Go.Proofs.YtopjgcbhjhhlfaaGreat
open Go.RowKit
open Fm (Nd Tree)

theorem sortB_c (B : Nat) (W : World) (v : Value) (L : List Int) (h : OwnI W B v L) (hn : L.length ≤ 1099511627776) :
    Calls Tryz.prog 58 #[v] W fun e W1 => e = .returned (.tuple #[]) ∧ OwnI W1 B v (L.mergeSort fun x y => decide (x ≤ y)) ∧ W.grownBy W1 v.ownBlock := by
  rcases h.2 with ⟨rfl, h0⟩ | ⟨g, cap, cur, rfl, hbase, hb, h1, h2, h3, h4⟩
  · obtain rfl := List.eq_nil_of_length_eq_zero h0
    refine (Tryz.slices_Sort_int_none none 0 W).mono fun e W1 hh => ?_
    obtain ⟨h5, h6⟩ := hh
    subst h6
    refine ⟨h5, ?_, World.grownBy.refl _ _⟩
    simpa using h
  · have hH := holds_of_blockI hb (by simpa [icells] using h4)
    refine (Tryz.slices_Sort_int g 0 cap L W hH (blk_lt hb) (by omega)).mono fun e W1 hh => ?_
    obtain ⟨h5, n, os, h6⟩ := hh
    subst h6
    have hl2 : (L.mergeSort fun x y => decide (x ≤ y)).length = L.length := List.length_mergeSort L
    refine ⟨h5, ?_, grownBy_sortedI _⟩
    have hs := ownsRow_sortedI (n := n) (os := os) (ts := L.mergeSort fun x y => decide (x ≤ y)) hl2 hbase hb h1 h2 h3
    unfold OwnI icells
    rw [hl2]
    exact hs
theorem Kn.new (w1 : World) : Kn (((w1.alloc (.map #[] 0)).alloc (.cells #[.map (some w1.heap.size)] 85)).alloc (.cells #[.slice none 0 0] 24)) (w1.heap.size + 1) (w1.heap.size + 1 + 1) w1.heap.size (w1.heap.size + 3) [] := by
  have e1 : (w1.alloc (.map #[] 0)).heap.size = w1.heap.size + 1 := by simp
  have e2 : ((w1.alloc (.map #[] 0)).alloc (.cells #[.map (some w1.heap.size)] 85)).heap.size = w1.heap.size + 1 + 1 := by simp
  have b1 := blk_new (w1.alloc (.map #[] 0)) (.cells #[.map (some w1.heap.size)] 85)
  have b2 := blk_new ((w1.alloc (.map #[] 0)).alloc (.cells #[.map (some w1.heap.size)] 85)) (.cells #[.slice none 0 0] 24)
  have g2 := Grew.alloc (Grew.refl ((w1.alloc (.map #[] 0)).alloc (.cells #[.map (some w1.heap.size)] 85))) (.cells #[.slice none 0 0] 24)
  have g1 := Grew.alloc (Grew.refl (w1.alloc (.map #[] 0))) (.cells #[.map (some w1.heap.size)] 85)
  rw [e1] at b1
  rw [e2] at b2
  exact ⟨(g2.block (by rw [e2]; omega)).trans b1, ((Kmap.new w1).grew g1).grew g2, ⟨_, _, _, b2, OwnI.nil_ _ _⟩, by omega, by omega, by omega, by omega, by omega, by omega⟩

def Ext (L K : List Nat) : Prop := ∃ r, K = L ++ r
theorem Ext.refl (L : List Nat) : Ext L L := ⟨[], by simp⟩
theorem Ext.trans {a b c : List Nat} (h : Ext a b) (k : Ext b c) : Ext a c := by
  obtain ⟨r, rfl⟩ := h
  obtain ⟨q, rfl⟩ := k
  exact ⟨r ++ q, by simp⟩
theorem Ext.mem {a b : List Nat} (h : Ext a b) {x : Nat} (hx : x ∈ a) : x ∈ b := by obtain ⟨r, rfl⟩ := h; simp [hx]
theorem Ext.nt {a b : List Nat} (h : Ext a b) {i : Nat} (hi : i < a.length) : nt b i = nt a i := by obtain ⟨r, rfl⟩ := h; simp [Go.Proofs.YtopjgcbhjhhlfaaGreat.nt, List.getD, List.getElem?_append_left hi]
theorem Ext.len {a b : List Nat} (h : Ext a b) : a.length ≤ b.length := by obtain ⟨r, rfl⟩ := h; simp

theorem nodup_lt_len : ∀ (P : Nat) (L : List Nat), L.Nodup → (∀ x ∈ L, x < P) → L.length ≤ P := by
  intro P
  induction P with
  | zero =>
    intro L _ h
    cases L with
    | nil => exact Nat.le_refl _
    | cons x r => exact absurd (h x (by simp)) (by omega)
  | succ P ih =>
    intro L hn h
    have h1 := ih (L.erase P) (hn.erase P) (fun x hx => by
      have a := h x (List.mem_of_mem_erase hx)
      have b : x ≠ P := fun e => by rw [e] at hx; exact absurd hx (by rw [hn.mem_erase_iff]; simp)
      omega)
    have h2 : L.length ≤ (L.erase P).length + 1 := by
      rw [List.length_erase]
      split <;> omega
    omega

structure DS (P M : Nat) (wp wr : World) (L : List Nat) : Prop where
  kn : Kn wr (M + 1) (M + 1 + 1) M (M + 3) L
  nd : L.Nodup
  lt : ∀ x ∈ L, x < P
  gr : Grew wp wr
  sz : M + 3 ≤ wr.heap.size
theorem DS.len {P M : Nat} {wp wr : World} {L : List Nat} (h : DS P M wp wr L) : L.length ≤ P := nodup_lt_len P L h.nd h.lt
theorem DS.grew {P M : Nat} {wp wr w' : World} {L : List Nat} (h : DS P M wp wr L) (hg : Grew wr w') : DS P M wp w' L :=
  ⟨h.kn.grew hg, h.nd, h.lt, h.gr.trans hg, Nat.le_trans h.sz hg.size⟩
theorem DS.cell {P M : Nat} {wp wr : World} {L : List Nat} (h : DS P M wp wr L) : ∃ A c, (∀ W, Grew wr W → W.cell? ⟨M + 1 + 1, 0, none⟩ = some (.slice A L.length c)) ∧ OwnI wr (M + 3) (.slice A L.length c) (zs L) := by
  obtain ⟨A, n, c, h1, h2⟩ := h.kn.out
  obtain ⟨A', c', he⟩ := ints_slice h2.ints
  simp only [Value.slice.injEq] at he
  obtain ⟨rfl, rfl, rfl⟩ := he
  rw [zs_len] at h1 h2
  exact ⟨A, c, fun W hW => by rw [blk_cell ((hW.block (blk_lt h1)).trans h1)]; rfl, h2⟩
def ClAt (A L : List Nat) (x y : Nat) : Prop := x &&& y ∈ L ∧ x ||| y ∈ L ∧ ar A x y ∈ L ∧ ar A y x ∈ L
theorem ClAt.ext {A L K : List Nat} {x y : Nat} (h : ClAt A L x y) (k : Ext L K) : ClAt A K x y := ⟨k.mem h.1, k.mem h.2.1, k.mem h.2.2.1, k.mem h.2.2.2⟩

end Go.Proofs.YtopjgcbhjhhlfaaGreat


/- Modal truth, plain: the sets of worlds reckoned over a list of nodes from its end. No program is in sight. -/
namespace Go.Proofs.YtopjgcbhjhhlfaaGreat
open Go.RowKit
open Fm (Nd Tree)

def mvs (A V : List Nat) (k s : Int) (st : List Nat) : List Nat :=
  if k = 0 then nt V s.toNat :: st
  else if k = 2 then (st.getD 0 0 &&& st.getD 1 0) :: st.drop 2
  else if k = 3 then (st.getD 0 0 ||| st.getD 1 0) :: st.drop 2
  else if k = 4 then (dif (full A.length) (st.getD 0 0) ||| st.getD 1 0) :: st.drop 2
  else if k = 5 then bx A (st.getD 0 0) :: st.drop 1
  else if k = 6 then dif (full A.length) (bx A (dif (full A.length) (st.getD 0 0))) :: st.drop 1
  else 0 :: st
def mve (A V : List Nat) : List Nd → List Nat
  | [] => []
  | x :: xs => mvs A V x.1 x.2 (mve A V xs)
theorem mvs_var {A V : List Nat} {k s : Int} {v : Nat} {st : List Nat} (h : k = 0) (hs : s = (v : Int)) : mvs A V k s st = nt V v :: st := by unfold mvs; rw [if_pos h, hs]; rfl
theorem mvs_fls {A V : List Nat} {k s : Int} {st : List Nat} (h : k = 1) : mvs A V k s st = 0 :: st := by subst h; rfl
theorem mvs_and {A V : List Nat} {k s : Int} {x y : Nat} {st : List Nat} (h : k = 2) : mvs A V k s (x :: y :: st) = (x &&& y) :: st := by subst h; rfl
theorem mvs_or {A V : List Nat} {k s : Int} {x y : Nat} {st : List Nat} (h : k = 3) : mvs A V k s (x :: y :: st) = (x ||| y) :: st := by subst h; rfl
theorem mvs_imp {A V : List Nat} {k s : Int} {x y : Nat} {st : List Nat} (h : k = 4) : mvs A V k s (x :: y :: st) = (dif (full A.length) x ||| y) :: st := by subst h; rfl
theorem mvs_box {A V : List Nat} {k s : Int} {x : Nat} {st : List Nat} (h : k = 5) : mvs A V k s (x :: st) = bx A x :: st := by subst h; rfl
theorem mvs_dia {A V : List Nat} {k s : Int} {x : Nat} {st : List Nat} (h : k = 6) : mvs A V k s (x :: st) = dif (full A.length) (bx A (dif (full A.length) x)) :: st := by subst h; rfl
theorem mve_enc (A V : List Nat) : ∀ (t : Tree) (r : List Nd), mve A V (Fm.enc t ++ r) = mv A V t :: mve A V r := by
  intro t
  have bin : ∀ {k : Int} {a b : Tree} {r : List Nd} {f : Nat → Nat → Nat}, (∀ r : List Nd, mve A V (Fm.enc a ++ r) = mv A V a :: mve A V r) → (∀ r : List Nd, mve A V (Fm.enc b ++ r) = mv A V b :: mve A V r) →
      (∀ x y st, mvs A V k 0 (x :: y :: st) = f x y :: st) → mve A V ((k, 0) :: (Fm.enc a ++ Fm.enc b) ++ r) = f (mv A V a) (mv A V b) :: mve A V r := by
    intro k a b r f ha hb hf
    show mvs A V k 0 (mve A V (Fm.enc a ++ Fm.enc b ++ r)) = _
    rw [List.append_assoc, ha, hb, hf]
  have one : ∀ {k : Int} {a : Tree} {r : List Nd} {f : Nat → Nat}, (∀ r : List Nd, mve A V (Fm.enc a ++ r) = mv A V a :: mve A V r) →
      (∀ x st, mvs A V k 0 (x :: st) = f x :: st) → mve A V ((k, 0) :: Fm.enc a ++ r) = f (mv A V a) :: mve A V r := by
    intro k a r f ha hf
    show mvs A V k 0 (mve A V (Fm.enc a ++ r)) = _
    rw [ha, hf]
  induction t with
  | var v => intro r; exact mvs_var rfl rfl
  | fls => intro r; rfl
  | and a b iha ihb => intro r; exact bin (f := fun x y => x &&& y) iha ihb (fun _ _ _ => rfl)
  | or a b iha ihb => intro r; exact bin (f := fun x y => x ||| y) iha ihb (fun _ _ _ => rfl)
  | imp a b iha ihb => intro r; exact bin (f := fun x y => dif (full A.length) x ||| y) iha ihb (fun _ _ _ => rfl)
  | box a iha => intro r; exact one (f := fun x => bx A x) iha (fun _ _ => rfl)
  | dia a iha => intro r; exact one (f := fun x => dif (full A.length) (bx A (dif (full A.length) x))) iha (fun _ _ => rfl)
def Mfed (A V : List Nat) (xs : List Nd) : Prop := ∀ i, i < xs.length → ((kd xs i = 2 ∨ kd xs i = 3 ∨ kd xs i = 4) → 2 ≤ (mve A V (xs.drop (i + 1))).length) ∧ ((kd xs i = 5 ∨ kd xs i = 6) → 1 ≤ (mve A V (xs.drop (i + 1))).length)
theorem Mfed.nil_ (A V : List Nat) : Mfed A V [] := fun i hi => absurd hi (by simp)
theorem Mfed.cons {A V : List Nat} {x : Nd} {xs : List Nd} (h : Mfed A V xs) (h1 : (x.1 = 2 ∨ x.1 = 3 ∨ x.1 = 4) → 2 ≤ (mve A V xs).length) (h2 : (x.1 = 5 ∨ x.1 = 6) → 1 ≤ (mve A V xs).length) : Mfed A V (x :: xs) := by
  intro i hi
  cases i with
  | zero => exact ⟨h1, h2⟩
  | succ i => exact h i (by simpa using hi)
theorem mfed_enc (A V : List Nat) : ∀ (t : Tree) (r : List Nd), Mfed A V r → Mfed A V (Fm.enc t ++ r) := by
  intro t
  have bin : ∀ {k : Int} {a b : Tree} {r : List Nd}, (∀ r : List Nd, Mfed A V r → Mfed A V (Fm.enc a ++ r)) → (∀ r : List Nd, Mfed A V r → Mfed A V (Fm.enc b ++ r)) → Mfed A V r → Mfed A V ((k, 0) :: (Fm.enc a ++ Fm.enc b) ++ r) := by
    intro k a b r ha hb hr
    rw [List.cons_append, List.append_assoc]
    refine (ha _ (hb _ hr)).cons (fun _ => ?_) (fun _ => ?_) <;> rw [mve_enc A V a, mve_enc A V b] <;> simp
  have one : ∀ {k : Int} {a : Tree} {r : List Nd}, ¬ (k = 2 ∨ k = 3 ∨ k = 4) → (∀ r : List Nd, Mfed A V r → Mfed A V (Fm.enc a ++ r)) → Mfed A V r → Mfed A V ((k, 0) :: Fm.enc a ++ r) := by
    intro k a r hk ha hr
    rw [List.cons_append]
    refine (ha _ hr).cons (fun h => absurd h hk) (fun _ => ?_)
    rw [mve_enc A V a]; simp
  have zero : ∀ {x : Nd} {r : List Nd}, ¬ (x.1 = 2 ∨ x.1 = 3 ∨ x.1 = 4) → ¬ (x.1 = 5 ∨ x.1 = 6) → Mfed A V r → Mfed A V ([x] ++ r) := fun hx hy hr => hr.cons (fun h => absurd h hx) (fun h => absurd h hy)
  induction t with
  | var v => intro r hr; exact zero (by show ¬ ((0 : Int) = 2 ∨ (0 : Int) = 3 ∨ (0 : Int) = 4); decide) (by show ¬ ((0 : Int) = 5 ∨ (0 : Int) = 6); decide) hr
  | fls => intro r hr; exact zero (by decide) (by decide) hr
  | and a b iha ihb => intro r hr; exact bin iha ihb hr
  | or a b iha ihb => intro r hr; exact bin iha ihb hr
  | imp a b iha ihb => intro r hr; exact bin iha ihb hr
  | box a iha => intro r hr; exact one (by decide) iha hr
  | dia a iha => intro r hr; exact one (by decide) iha hr
theorem mfed_of {A V : List Nat} {t : Tree} : Mfed A V (Fm.enc t) := by
  have := mfed_enc A V t [] (Mfed.nil_ A V)
  rwa [List.append_nil] at this
theorem mve_of {A V : List Nat} {t : Tree} : mve A V (Fm.enc t) = [mv A V t] := by
  have := mve_enc A V t []
  rwa [List.append_nil] at this
theorem mve_drop {A V : List Nat} {xs : List Nd} {i : Nat} (h : i < xs.length) : mve A V (xs.drop i) = mvs A V (kd xs i) (sy xs i) (mve A V (xs.drop (i + 1))) := by
  rw [List.drop_eq_getElem_cons h]
  show mvs A V (xs[i]).1 (xs[i]).2 _ = _
  simp [kd, sy, List.getD, h]
theorem mve_sm {A V : List Nat} (hV : ∀ m ∈ V, m < 2 ^ A.length) : ∀ xs : List Nd, ∀ m ∈ mve A V xs, m < 2 ^ A.length
  | [] => fun m h => absurd h (by simp [mve])
  | x :: xs => by
    have ih := mve_sm hV xs
    have hp : 0 < 2 ^ A.length := Nat.pow_pos (by omega)
    have hg : ∀ i, (mve A V xs).getD i 0 < 2 ^ A.length := by
      intro i
      by_cases h : i < (mve A V xs).length
      · simp only [List.getD_eq_getElem?_getD, List.getElem?_eq_getElem h, Option.getD_some]; exact ih _ (List.getElem_mem h)
      · rw [List.getD_eq_getElem?_getD, List.getElem?_eq_none (by omega)]; exact hp
    intro m hm
    have hm : m ∈ mvs A V x.1 x.2 (mve A V xs) := hm
    unfold mvs at hm
    repeat' split at hm
    all_goals rcases List.mem_cons.1 hm with rfl | hm
    · exact nt_lt hV
    · exact ih _ hm
    · exact Nat.and_lt_two_pow _ (hg 1)
    · exact ih _ (List.mem_of_mem_drop hm)
    · exact Nat.or_lt_two_pow (hg 0) (hg 1)
    · exact ih _ (List.mem_of_mem_drop hm)
    · exact Nat.or_lt_two_pow (dif_lt (full_lt _)) (hg 1)
    · exact ih _ (List.mem_of_mem_drop hm)
    · exact bx_lt _ _
    · exact ih _ (List.mem_of_mem_drop hm)
    · exact dif_lt (full_lt _)
    · exact ih _ (List.mem_of_mem_drop hm)
    · exact hp
    · exact ih _ hm
theorem enc_kinds_m (t : Tree) {i : Nat} (hi : i < (Fm.enc t).length) :
    (kd (Fm.enc t) i = 0 ∧ ∃ v : Nat, sy (Fm.enc t) i = (v : Int) ∧ v < 6) ∨ kd (Fm.enc t) i = 1 ∨ kd (Fm.enc t) i = 2 ∨ kd (Fm.enc t) i = 3 ∨ kd (Fm.enc t) i = 4 ∨ kd (Fm.enc t) i = 5 ∨ kd (Fm.enc t) i = 6 := by
  have h1 : kd (Fm.enc t) i = ((Fm.enc t)[i]).1 := by simp [kd, List.getD, hi]
  have h2 : sy (Fm.enc t) i = ((Fm.enc t)[i]).2 := by simp [sy, List.getD, hi]
  rw [h1, h2]
  exact enc_nd t _ (List.getElem_mem hi)
end Go.Proofs.YtopjgcbhjhhlfaaGreat


/- truthSet of the program: a stack of sets of worlds. -/
namespace Go.Proofs.YtopjgcbhjhhlfaaGreat
open Go.RowKit
open Fm (Nd Tree)

theorem frameAll_c (n : Nat) (v : Value) (w : World) (hv : ∃ A m c, v = .slice A m c) (hn : n ≤ 30) :
    Calls Tryz.prog 83 #[.agg #[.int .i64 (n : Int), v]] w fun e w' => e = .returned (.int .i64 ((full n : Nat) : Int)) ∧ Grew w w' := by
  have h1 := wrap_pow hn
  have h2 := pow30' hn
  have h3 : 0 < 2 ^ n := Nat.pow_pos (by omega)
  have hf := Lib.hid (full_cast n)
  have hg := (Grew.refl w).alloc (.cells #[.int .i64 (n : Int), v] 76)
  obtain ⟨A, m, c, rfl⟩ := hv
  generalize full n = F at *
  generalize (2 ^ n : Nat) = p at *
  go_enter Tryz.func83, Tryz.ntmps83
  go_wp2_with fail
  go_ret
  refine ⟨?_, hg⟩
  have hf := hf.out
  rw [hf]
  rfl
theorem popM_c (b : Nat) (x : Nat) (st : List Nat) (B : Nat) (w : World) (h : Stk w b B (x :: st)) (hb : b < B) :
    Calls Tryz.prog 104 #[.pointer (some ⟨b, 0, none⟩)] w fun e w' => e = .returned (.int .i64 (x : Int)) ∧ Stk w' b B st ∧ Only b w w' := by
  obtain ⟨A, n, c, h1, h2⟩ := h
  rw [sk_cons] at h2
  obtain ⟨rfl, g, rfl, h3, h4, h5, h6, h7, h8⟩ := h2.pop
  have HE := Lib.hid (show ∀ v, w.heap[b]? = some (.cells #[v] 24 (0, 0)) → (Only b w (w.setCell ⟨b, 0, none⟩ (.slice (some ⟨g, 0, none⟩) (sk st).length c)) ∧ Stk (w.setCell ⟨b, 0, none⟩ (.slice (some ⟨g, 0, none⟩) (sk st).length c)) b B st) from fun v hv =>
    ⟨(Only.refl b w).setCell _, _, _, _, blk_set hv 0 _, own_only h8 ((Only.refl b w).setCell _) (fun he => by have := own_of_ge h8 he; omega)⟩)
  have HE := HE.out _ h1
  have HE := Lib.hid HE
  have k0 : w.cell? ⟨b, 0, none⟩ = some (.slice (some ⟨g, 0, none⟩) ((sk st).length + 1) c) := by rw [blk_cell h1]; rfl
  have f0 := blk_frozen h1 0
  clear h1 h2 h8
  generalize (sk st).length = m at *
  go_enter Tryz.func104, Tryz.ntmps104
  go_wp2_with fail
  go_ret
  exact ⟨rfl, HE.out.2, HE.out.1⟩
theorem one_at {st : List Nat} (h : 1 ≤ st.length) : ∃ x r, st = x :: r := by
  match st, h with
  | x :: r, _ => exact ⟨x, r, rfl⟩
set_option maxHeartbeats 4000000 in
set_option maxRecDepth 4096 in
theorem truthSet_c (v u va : Value) (A V : List Nat) (t : Tree) (w : World) (h : Ints w v (zs A)) (hu : Ints w u (zs V)) (ha : Nodes w va (Fm.enc t)) (hA : Rl A) (hV : ∀ m ∈ V, m < 2 ^ A.length) (hl : V.length = 6) (ht : (Fm.enc t).length ≤ 1048576) :
    Calls Tryz.prog 82 #[.agg #[.int .i64 (A.length : Int), v], u, va] w fun e w' => e = .returned (.int .i64 ((mv A V t : Nat) : Int)) ∧ Grew w w' := by
  have hsm : ∀ m, m < 2 ^ A.length → m < 1073741824 := fun m hm => Nat.lt_of_lt_of_le hm (pow30' hA.1)
  have HSM := Lib.hid (fun i m (hm : m ∈ mve A V ((Fm.enc t).drop i)) => hsm m (mve_sm hV _ m hm))
  have HFED := Lib.hid (mfed_of (A := A) (V := V) (t := t))
  have HEND := Lib.hid (mve_of (A := A) (V := V) (t := t))
  have HDR := Lib.hid (fun i (hi : i < (Fm.enc t).length) => mve_drop (A := A) (V := V) hi)
  have HK := Lib.hid (fun i (hi : i < (Fm.enc t).length) => enc_kinds_m t hi)
  have HLEN := Lib.hid (fun i => show (mve A V ((Fm.enc t).drop i)).length ≤ 1048576 from by
    have hle : ∀ xs : List Nd, (mve A V xs).length ≤ xs.length := by
      intro xs
      induction xs with
      | nil => simp [mve]
      | cons x xs ih =>
        show (mvs A V x.1 x.2 (mve A V xs)).length ≤ _
        unfold mvs
        repeat' split
        all_goals simp only [List.length_cons, List.length_drop]; omega
    have := hle ((Fm.enc t).drop i)
    rw [List.length_drop] at this
    omega)
  have hend0 : mve A V ((Fm.enc t).drop (Fm.enc t).length) = [] := by rw [List.drop_length]; rfl
  have HFU := Lib.hid (show full A.length < 1073741824 from hsm _ (full_lt _))
  have KBX := Lib.hid (fun m W (hW : Grew w W) hm => box_q v A m W (h.grew hW) hA.sm hA.1 hm)
  have KAL := Lib.hid (fun W hv => frameAll_c A.length v W hv hA.1)
  have HBL := Lib.hid (fun m => hsm _ (bx_lt A m))
  have hpos := Fm.enc_pos t
  obtain ⟨A', c, rfl⟩ := ints_sliceN h
  obtain ⟨AU, cu, rfl⟩ := ints_sliceN hu
  have KAL := Lib.hid (fun W => KAL.out W ⟨_, _, _, rfl⟩)
  have HCU := Lib.hid (cellsN hu (by omega))
  rw [hl] at HCU
  clear h hu hA hV hsm
  rcases ha.open_ with ⟨rfl, h0⟩ | ⟨ba, oa, ca, rfl, hca, hcm, hbl, hcell⟩
  · rw [h0] at hpos; simp at hpos
  have HNC := Lib.hid hcell
  clear hcell ha
  have HEND0 := Lib.hid hend0
  clear hend0
  rw [hl]
  clear hl
  generalize mv A V t = R at *
  generalize Fm.enc t = xs at *
  have HMI := Lib.hid (fun k s x y st (h : k = 4) => @mvs_imp A V k s x y st h)
  have HMD := Lib.hid (fun k s x st (h : k = 6) => @mvs_dia A V k s x st h)
  generalize full A.length = FU at *
  generalize A.length = NA at *
  generalize hnx : xs.length = n at *
  replace hnx := Lib.hid hnx
  obtain ⟨bu, ou, rfl, hcu⟩ := HCU.out
  have HCU := Lib.hid hcu
  clear hcu
  obtain ⟨w1, hw1⟩ : ∃ w1, w1 = w.alloc (.cells #[.int .i64 (NA : Int), .slice A' NA c] 76) := ⟨_, rfl⟩
  have hg1 : Grew w w1 := by rw [hw1]; exact (Grew.refl w).alloc _
  have hs1 : w1.heap.size = w.heap.size + 1 := by rw [hw1]; simp
  have hb0 : w1.heap[w.heap.size]? = some (.cells #[.int .i64 (NA : Int), .slice A' NA c] 76 (0, 0)) := by rw [hw1]; exact blk_new w _
  have e0 : w1.cell? ⟨w.heap.size, 0, none⟩ = some (.int .i64 (NA : Int)) := by rw [blk_cell hb0]; rfl
  have e1 : w1.cell? ⟨w.heap.size, 1, none⟩ = some (.slice A' NA c) := by rw [blk_cell hb0]; rfl
  have npos : (1 : Int) ≤ n := by omega
  go_enter Tryz.func82, Tryz.ntmps82
  go_wp2_with fail
  simp only [← hw1]
  clear hw1
  refine (KAL.out _).mono ?_
  rintro e w2 ⟨rfl, hg2⟩
  have hbs : w.heap.size < w2.heap.size := by have := hg2.size; omega
  obtain ⟨w3, hw3⟩ : ∃ w3, w3 = w2.alloc (.cells #[.slice none 0 0] 24) := ⟨_, rfl⟩
  have hg3 : Grew w2 w3 := by rw [hw3]; exact (Grew.refl w2).alloc _
  have hs3 : w3.heap.size = w2.heap.size + 1 := by rw [hw3]; simp
  have hb3 : w3.heap[w2.heap.size]? = some (.cells #[.slice none 0 0] 24 (0, 0)) := by rw [hw3]; exact blk_new w2 _
  have hb4 := ((hg2.trans hg3).block (blk_lt hb0)).trans hb0
  have hstk : Stk w3 (w2.heap.size) (w2.heap.size + 1) (mve A V (xs.drop n)) := by rw [HEND0.out]; exact ⟨_, _, _, hb3, OwnI.nil_ _ _⟩
  have HST := Lib.hid hstk
  have HB0 := Lib.hid hb4
  have HG1 := Lib.hid (hg1.trans (hg2.trans hg3))
  have HS1 := Lib.hid hs3
  clear hb0 hb3 hb4 hg1 hg2 hg3 hstk hs1 hs3 e0 e1
  go_wp2_with fail
  simp only [← hw3]
  clear hw3
  go_loopw [10, 11] (fun i _ wr => ∃ k : Nat, k ≤ n ∧ i = .int .i64 ((k : Int) - 1) ∧ Hid (wr.heap[w.heap.size]? = some (.cells #[.int .i64 (NA : Int), .slice A' NA c] 76 (0, 0))) ∧ Hid (Stk wr (w2.heap.size) (w2.heap.size + 1) (mve A V (xs.drop k))) ∧ Hid (Grew w wr) ∧ Hid (w2.heap.size + 1 ≤ wr.heap.size)) (fun i _ _ => ((intOf i) + 1).toNat)
  case atStart => exact ⟨n, Nat.le_refl _, rfl, HB0, HST, HG1, Lib.hid (by rw [HS1.out]; omega)⟩
  case round =>
    obtain ⟨k, hk, rfl, HP, HK0, HG, HZ⟩ := hrel
    cases k with
    | zero =>
      obtain ⟨AS, nS, cS, hb, hO⟩ := HK0.out
      have hO2 : OwnI wr (w2.heap.size + 1) (.slice AS nS cS) ([] ++ [((R : Nat) : Int)]) := by
        have e : sk (mve A V (xs.drop 0)) = [] ++ [((R : Nat) : Int)] := by rw [List.drop_zero, HEND.out]; rfl
        rw [e] at hO; exact hO
      obtain ⟨rfl, g, rfl, q1, q2, q3, q4, q5, q6⟩ := hO2.pop
      have k0 : wr.cell? ⟨w2.heap.size, 0, none⟩ = some (.slice (some ⟨g, 0, none⟩) 1 cS) := by rw [blk_cell hb]; rfl
      have q5 : wr.cell? ⟨g, 0, none⟩ = some (.int .i64 ((R : Nat) : Int)) := q5
      clear hb hO hO2 q6 q3
      go_wp2_with fail
      go_ret
      exact ⟨rfl, HG.out⟩
    | succ k =>
      have ei : (((k + 1 : Nat) : Int) - 1) = (k : Int) := by omega
      rw [ei]
      have hkx : k < xs.length := by rw [hnx.out]; omega
      have hlt : (k : Int) < (n : Int) := by omega
      obtain ⟨c0, c1⟩ := HNC.out k (by omega) _ HG.out
      have hdr := HDR.out k (by omega)
      have hbS := HK0.out
      have hL1 := HLEN.out (k + 1)
      have hF := HFED.out k hkx
      have hSM := fun m hm => HSM.out (k + 1) m hm
      clear hkx
      generalize mve A V (xs.drop (k + 1)) = st at *
      have HDRK := Lib.hid hdr
      have HL1 := Lib.hid hL1
      have HF := Lib.hid hF
      have HSMK := Lib.hid hSM
      have HBS := Lib.hid hbS
      clear hdr hL1 hF hSM hbS
      rcases HK.out k (by omega) with ⟨hkd, s, hsy, hs6⟩ | hkd | hkd | hkd | hkd | hkd | hkd
      · have he : mve A V (xs.drop k) = nt V s :: st := HDRK.out.trans (mvs_var hkd hsy)
        have hu1 := HCU.out s (by omega) _ HG.out
        rw [hkd] at c0
        rw [hsy] at c1
        clear hkd hsy
        have HEK := Lib.hid he
        clear he
        generalize nt V s = y at *
        obtain ⟨AS, nS, cS, hb, hO⟩ := HBS.out
        have k7 : wr.cell? ⟨w2.heap.size, 0, none⟩ = some (.slice AS nS cS) := by rw [blk_cell hb]; rfl
        have k7' : ∀ o, (wr.alloc o).cell? ⟨w2.heap.size, 0, none⟩ = some (.slice AS nS cS) := fun o => by rw [blk_cell ((((Grew.refl wr).alloc o).block (blk_lt hb)).trans hb)]; rfl
        have HBT := Lib.hid hb
        have HOT := Lib.hid hO
        have HZA := Lib.hid (fun o : Obj => (Nat.le_trans HZ.out (((Grew.refl wr).alloc o).size) : w2.heap.size + 1 ≤ (wr.alloc o).heap.size))
        have HOA := Lib.hid (fun o : Obj => (hO.grew ((Grew.refl wr).alloc o) : OwnI (wr.alloc o) (w2.heap.size + 1) (.slice AS nS cS) (sk st)))
        clear hb hO
        go_wp2_with (first
          | (at_builtin
             refine wpList_appB (w2.heap.size + 1) _ _ rfl rfl (.slice AS nS cS) (sk st) rfl (HOA.out _) (HZA.out _) (.slice (some ⟨wr.heap.size, 0, none⟩) 1 1) ((y : Nat) : Int) rfl (rd_litI wr _ _) (by rw [sk_len]; exact HL1.out) ?_
             intro v8 w8 hown8 hg8
             obtain ⟨A8, c8, rfl⟩ := ints_slice hown8.ints
             rw [List.length_append, List.length_singleton] at hown8
             have hne8 : some (w2.heap.size) ≠ (Value.slice AS nS cS).ownBlock := fun he => by have := own_of_ge HOT.out he.symm; omega
             have hne9 : some w.heap.size ≠ (Value.slice AS nS cS).ownBlock := fun he => by have := own_of_ge HOT.out he.symm; omega
             have hb8 := (hg8.block _ (Nat.lt_of_lt_of_le (show w2.heap.size < w2.heap.size + 1 by omega) (HZA.out _)) hne8).trans ((((Grew.refl wr).alloc _).block (blk_lt HBT.out)).trans HBT.out)
             have hp8 := (hg8.block _ (Nat.lt_of_lt_of_le (show w.heap.size < w2.heap.size + 1 by omega) (HZA.out _)) hne9).trans ((((Grew.refl wr).alloc _).block (blk_lt HP.out)).trans HP.out)
             have k8 : w8.cell? ⟨w2.heap.size, 0, none⟩ = some (.slice AS nS cS) := by rw [blk_cell hb8]; rfl
             have f8 := blk_frozen hb8 0
             have hG8 : Grew w w8 := (HG.out.alloc _).grown hg8 (fun g hg => by have := own_of_ge HOT.out hg; omega)
             have hz8 : w2.heap.size + 1 ≤ w8.heap.size := Nat.le_trans (HZA.out _) hg8.size
             have HFIN := Lib.hid (show Hid ((w8.setCell ⟨w2.heap.size, 0, none⟩ (.slice A8 ((sk st).length + 1) c8)).heap[w.heap.size]? = some (.cells #[.int .i64 (NA : Int), .slice A' NA c] 76 (0, 0))) ∧ Hid (Stk (w8.setCell ⟨w2.heap.size, 0, none⟩ (.slice A8 ((sk st).length + 1) c8)) (w2.heap.size) (w2.heap.size + 1) (mve A V (xs.drop k))) ∧ Hid (Grew w (w8.setCell ⟨w2.heap.size, 0, none⟩ (.slice A8 ((sk st).length + 1) c8))) ∧ Hid (w2.heap.size + 1 ≤ (w8.setCell ⟨w2.heap.size, 0, none⟩ (.slice A8 ((sk st).length + 1) c8)).heap.size) from by
               have hon : Only (w2.heap.size) w8 (w8.setCell ⟨w2.heap.size, 0, none⟩ (.slice A8 ((sk st).length + 1) c8)) := (Only.refl _ _).setCell _
               refine ⟨Lib.hid ((hon.block (by omega) (by omega)).trans hp8), Lib.hid ⟨_, _, _, blk_set hb8 0 _, ?_⟩, Lib.hid (hG8.setCell (show w.heap.size ≤ w2.heap.size by omega) _), Lib.hid (Nat.le_trans hz8 hon.size)⟩
               rw [HEK.out, sk_cons]
               exact own_only hown8 hon (fun he => by have := own_of_ge hown8 he; omega))
             clear hb8 hp8 hG8 hz8 hown8 hg8 hne8 hne9 k7 k7'))
        go_roundw
        case rel => exact ⟨k, by omega, rfl, HFIN.out⟩
        case measure => simp [intOf] <;> omega
      · have he : mve A V (xs.drop k) = 0 :: st := HDRK.out.trans (mvs_fls hkd)
        rw [hkd] at c0
        clear hkd c1
        have HEK := Lib.hid he
        clear he
        obtain ⟨AS, nS, cS, hb, hO⟩ := HBS.out
        have k7 : wr.cell? ⟨w2.heap.size, 0, none⟩ = some (.slice AS nS cS) := by rw [blk_cell hb]; rfl
        have k7' : ∀ o, (wr.alloc o).cell? ⟨w2.heap.size, 0, none⟩ = some (.slice AS nS cS) := fun o => by rw [blk_cell ((((Grew.refl wr).alloc o).block (blk_lt hb)).trans hb)]; rfl
        have HBT := Lib.hid hb
        have HOT := Lib.hid hO
        have HZA := Lib.hid (fun o : Obj => (Nat.le_trans HZ.out (((Grew.refl wr).alloc o).size) : w2.heap.size + 1 ≤ (wr.alloc o).heap.size))
        have HOA := Lib.hid (fun o : Obj => (hO.grew ((Grew.refl wr).alloc o) : OwnI (wr.alloc o) (w2.heap.size + 1) (.slice AS nS cS) (sk st)))
        clear hb hO
        go_wp2_with (first
          | (at_builtin
             refine wpList_appB (w2.heap.size + 1) _ _ rfl rfl (.slice AS nS cS) (sk st) rfl (HOA.out _) (HZA.out _) (.slice (some ⟨wr.heap.size, 0, none⟩) 1 1) ((0 : Nat) : Int) rfl (rd_litI wr _ _) (by rw [sk_len]; exact HL1.out) ?_
             intro v8 w8 hown8 hg8
             obtain ⟨A8, c8, rfl⟩ := ints_slice hown8.ints
             rw [List.length_append, List.length_singleton] at hown8
             have hne8 : some (w2.heap.size) ≠ (Value.slice AS nS cS).ownBlock := fun he => by have := own_of_ge HOT.out he.symm; omega
             have hne9 : some w.heap.size ≠ (Value.slice AS nS cS).ownBlock := fun he => by have := own_of_ge HOT.out he.symm; omega
             have hb8 := (hg8.block _ (Nat.lt_of_lt_of_le (show w2.heap.size < w2.heap.size + 1 by omega) (HZA.out _)) hne8).trans ((((Grew.refl wr).alloc _).block (blk_lt HBT.out)).trans HBT.out)
             have hp8 := (hg8.block _ (Nat.lt_of_lt_of_le (show w.heap.size < w2.heap.size + 1 by omega) (HZA.out _)) hne9).trans ((((Grew.refl wr).alloc _).block (blk_lt HP.out)).trans HP.out)
             have k8 : w8.cell? ⟨w2.heap.size, 0, none⟩ = some (.slice AS nS cS) := by rw [blk_cell hb8]; rfl
             have f8 := blk_frozen hb8 0
             have hG8 : Grew w w8 := (HG.out.alloc _).grown hg8 (fun g hg => by have := own_of_ge HOT.out hg; omega)
             have hz8 : w2.heap.size + 1 ≤ w8.heap.size := Nat.le_trans (HZA.out _) hg8.size
             have HFIN := Lib.hid (show Hid ((w8.setCell ⟨w2.heap.size, 0, none⟩ (.slice A8 ((sk st).length + 1) c8)).heap[w.heap.size]? = some (.cells #[.int .i64 (NA : Int), .slice A' NA c] 76 (0, 0))) ∧ Hid (Stk (w8.setCell ⟨w2.heap.size, 0, none⟩ (.slice A8 ((sk st).length + 1) c8)) (w2.heap.size) (w2.heap.size + 1) (mve A V (xs.drop k))) ∧ Hid (Grew w (w8.setCell ⟨w2.heap.size, 0, none⟩ (.slice A8 ((sk st).length + 1) c8))) ∧ Hid (w2.heap.size + 1 ≤ (w8.setCell ⟨w2.heap.size, 0, none⟩ (.slice A8 ((sk st).length + 1) c8)).heap.size) from by
               have hon : Only (w2.heap.size) w8 (w8.setCell ⟨w2.heap.size, 0, none⟩ (.slice A8 ((sk st).length + 1) c8)) := (Only.refl _ _).setCell _
               refine ⟨Lib.hid ((hon.block (by omega) (by omega)).trans hp8), Lib.hid ⟨_, _, _, blk_set hb8 0 _, ?_⟩, Lib.hid (hG8.setCell (show w.heap.size ≤ w2.heap.size by omega) _), Lib.hid (Nat.le_trans hz8 hon.size)⟩
               rw [HEK.out, sk_cons]
               exact own_only hown8 hon (fun he => by have := own_of_ge hown8 he; omega))
             clear hb8 hp8 hG8 hz8 hown8 hg8 hne8 hne9 k7 k7'))
        go_roundw
        case rel => exact ⟨k, by omega, rfl, HFIN.out⟩
        case measure => simp [intOf] <;> omega
      · obtain ⟨x, y, r, rfl⟩ := two_at (HF.out.1 (.inl hkd))
        have he : mve A V (xs.drop k) = (x &&& y) :: r := HDRK.out.trans (mvs_and hkd)
        have hx := HSMK.out x (by simp)
        have hy := HSMK.out y (by simp)
        have hxy := and_i64 x y (by omega) (by omega)
        have hlr : r.length ≤ 1048576 := by have := HL1.out; simp only [List.length_cons] at this; omega
        rw [hkd] at c0
        clear hkd c1 hx hy
        have HEK := Lib.hid he
        clear he
        generalize (x &&& y : Nat) = z at *
        have HP1 := Lib.hid (popM_c (w2.heap.size) x (y :: r) (w2.heap.size + 1) wr HBS.out (by omega))
        have HP2 := Lib.hid (fun W hW => popM_c (w2.heap.size) y r (w2.heap.size + 1) W hW (by omega))
        go_wp2_with fail
        refine HP1.out.mono ?_
        rintro e wa ⟨rfl, hS2, hO2⟩
        have hp2 := (hO2.block (blk_lt HP.out) (by omega)).trans HP.out
        have hG2 := hO2.grew_of HG.out (by omega)
        have hz2 := hO2.size
        clear hO2
        go_wp2_with fail
        refine (HP2.out _ hS2).mono ?_
        rintro e wb ⟨rfl, hS3, hO3⟩
        have hp3 := (hO3.block (blk_lt hp2) (by omega)).trans hp2
        have hG3 := hO3.grew_of hG2 (by omega)
        have hz3 := hO3.size
        have HG3 := Lib.hid hG3
        have HP3 := Lib.hid hp3
        have HZ3 := Lib.hid (Nat.le_trans HZ.out (Nat.le_trans hz2 hz3))
        have HS3 := Lib.hid hS3
        clear hO3 hS2 hS3 hp2 hp3 hG2 hG3 hz2 hz3 HBS HP HG HZ
        obtain ⟨AS, nS, cS, hb, hO⟩ := HS3.out
        have k7 : wb.cell? ⟨w2.heap.size, 0, none⟩ = some (.slice AS nS cS) := by rw [blk_cell hb]; rfl
        have k7' : ∀ o, (wb.alloc o).cell? ⟨w2.heap.size, 0, none⟩ = some (.slice AS nS cS) := fun o => by rw [blk_cell ((((Grew.refl wb).alloc o).block (blk_lt hb)).trans hb)]; rfl
        have HBT := Lib.hid hb
        have HOT := Lib.hid hO
        have HZA := Lib.hid (fun o : Obj => (Nat.le_trans HZ3.out (((Grew.refl wb).alloc o).size) : w2.heap.size + 1 ≤ (wb.alloc o).heap.size))
        have HOA := Lib.hid (fun o : Obj => (hO.grew ((Grew.refl wb).alloc o) : OwnI (wb.alloc o) (w2.heap.size + 1) (.slice AS nS cS) (sk r)))
        clear hb hO
        go_wp2_with (first
          | (at_builtin
             refine wpList_appB (w2.heap.size + 1) _ _ rfl rfl (.slice AS nS cS) (sk r) rfl (HOA.out _) (HZA.out _) (.slice (some ⟨wb.heap.size, 0, none⟩) 1 1) ((z : Nat) : Int) rfl (rd_litI wb _ _) (by rw [sk_len]; exact hlr) ?_
             intro v8 w8 hown8 hg8
             obtain ⟨A8, c8, rfl⟩ := ints_slice hown8.ints
             rw [List.length_append, List.length_singleton] at hown8
             have hne8 : some (w2.heap.size) ≠ (Value.slice AS nS cS).ownBlock := fun he => by have := own_of_ge HOT.out he.symm; omega
             have hne9 : some w.heap.size ≠ (Value.slice AS nS cS).ownBlock := fun he => by have := own_of_ge HOT.out he.symm; omega
             have hb8 := (hg8.block _ (Nat.lt_of_lt_of_le (show w2.heap.size < w2.heap.size + 1 by omega) (HZA.out _)) hne8).trans ((((Grew.refl wb).alloc _).block (blk_lt HBT.out)).trans HBT.out)
             have hp8 := (hg8.block _ (Nat.lt_of_lt_of_le (show w.heap.size < w2.heap.size + 1 by omega) (HZA.out _)) hne9).trans ((((Grew.refl wb).alloc _).block (blk_lt HP3.out)).trans HP3.out)
             have k8 : w8.cell? ⟨w2.heap.size, 0, none⟩ = some (.slice AS nS cS) := by rw [blk_cell hb8]; rfl
             have f8 := blk_frozen hb8 0
             have hG8 : Grew w w8 := (HG3.out.alloc _).grown hg8 (fun g hg => by have := own_of_ge HOT.out hg; omega)
             have hz8 : w2.heap.size + 1 ≤ w8.heap.size := Nat.le_trans (HZA.out _) hg8.size
             have HFIN := Lib.hid (show Hid ((w8.setCell ⟨w2.heap.size, 0, none⟩ (.slice A8 ((sk r).length + 1) c8)).heap[w.heap.size]? = some (.cells #[.int .i64 (NA : Int), .slice A' NA c] 76 (0, 0))) ∧ Hid (Stk (w8.setCell ⟨w2.heap.size, 0, none⟩ (.slice A8 ((sk r).length + 1) c8)) (w2.heap.size) (w2.heap.size + 1) (mve A V (xs.drop k))) ∧ Hid (Grew w (w8.setCell ⟨w2.heap.size, 0, none⟩ (.slice A8 ((sk r).length + 1) c8))) ∧ Hid (w2.heap.size + 1 ≤ (w8.setCell ⟨w2.heap.size, 0, none⟩ (.slice A8 ((sk r).length + 1) c8)).heap.size) from by
               have hon : Only (w2.heap.size) w8 (w8.setCell ⟨w2.heap.size, 0, none⟩ (.slice A8 ((sk r).length + 1) c8)) := (Only.refl _ _).setCell _
               refine ⟨Lib.hid ((hon.block (by omega) (by omega)).trans hp8), Lib.hid ⟨_, _, _, blk_set hb8 0 _, ?_⟩, Lib.hid (hG8.setCell (show w.heap.size ≤ w2.heap.size by omega) _), Lib.hid (Nat.le_trans hz8 hon.size)⟩
               rw [HEK.out, sk_cons]
               exact own_only hown8 hon (fun he => by have := own_of_ge hown8 he; omega))
             clear hb8 hp8 hG8 hz8 hown8 hg8 hne8 hne9 k7 k7'))
        go_roundw
        case rel => exact ⟨k, by omega, rfl, HFIN.out⟩
        case measure => simp [intOf] <;> omega
      · obtain ⟨x, y, r, rfl⟩ := two_at (HF.out.1 (.inr (.inl hkd)))
        have he : mve A V (xs.drop k) = (x ||| y) :: r := HDRK.out.trans (mvs_or hkd)
        have hx := HSMK.out x (by simp)
        have hy := HSMK.out y (by simp)
        have hxy := or_i64 x y (by omega) (by omega)
        have hlr : r.length ≤ 1048576 := by have := HL1.out; simp only [List.length_cons] at this; omega
        rw [hkd] at c0
        clear hkd c1 hx hy
        have HEK := Lib.hid he
        clear he
        generalize (x ||| y : Nat) = z at *
        have HP1 := Lib.hid (popM_c (w2.heap.size) x (y :: r) (w2.heap.size + 1) wr HBS.out (by omega))
        have HP2 := Lib.hid (fun W hW => popM_c (w2.heap.size) y r (w2.heap.size + 1) W hW (by omega))
        go_wp2_with fail
        refine HP1.out.mono ?_
        rintro e wa ⟨rfl, hS2, hO2⟩
        have hp2 := (hO2.block (blk_lt HP.out) (by omega)).trans HP.out
        have hG2 := hO2.grew_of HG.out (by omega)
        have hz2 := hO2.size
        clear hO2
        go_wp2_with fail
        refine (HP2.out _ hS2).mono ?_
        rintro e wb ⟨rfl, hS3, hO3⟩
        have hp3 := (hO3.block (blk_lt hp2) (by omega)).trans hp2
        have hG3 := hO3.grew_of hG2 (by omega)
        have hz3 := hO3.size
        have HG3 := Lib.hid hG3
        have HP3 := Lib.hid hp3
        have HZ3 := Lib.hid (Nat.le_trans HZ.out (Nat.le_trans hz2 hz3))
        have HS3 := Lib.hid hS3
        clear hO3 hS2 hS3 hp2 hp3 hG2 hG3 hz2 hz3 HBS HP HG HZ
        obtain ⟨AS, nS, cS, hb, hO⟩ := HS3.out
        have k7 : wb.cell? ⟨w2.heap.size, 0, none⟩ = some (.slice AS nS cS) := by rw [blk_cell hb]; rfl
        have k7' : ∀ o, (wb.alloc o).cell? ⟨w2.heap.size, 0, none⟩ = some (.slice AS nS cS) := fun o => by rw [blk_cell ((((Grew.refl wb).alloc o).block (blk_lt hb)).trans hb)]; rfl
        have HBT := Lib.hid hb
        have HOT := Lib.hid hO
        have HZA := Lib.hid (fun o : Obj => (Nat.le_trans HZ3.out (((Grew.refl wb).alloc o).size) : w2.heap.size + 1 ≤ (wb.alloc o).heap.size))
        have HOA := Lib.hid (fun o : Obj => (hO.grew ((Grew.refl wb).alloc o) : OwnI (wb.alloc o) (w2.heap.size + 1) (.slice AS nS cS) (sk r)))
        clear hb hO
        go_wp2_with (first
          | (at_builtin
             refine wpList_appB (w2.heap.size + 1) _ _ rfl rfl (.slice AS nS cS) (sk r) rfl (HOA.out _) (HZA.out _) (.slice (some ⟨wb.heap.size, 0, none⟩) 1 1) ((z : Nat) : Int) rfl (rd_litI wb _ _) (by rw [sk_len]; exact hlr) ?_
             intro v8 w8 hown8 hg8
             obtain ⟨A8, c8, rfl⟩ := ints_slice hown8.ints
             rw [List.length_append, List.length_singleton] at hown8
             have hne8 : some (w2.heap.size) ≠ (Value.slice AS nS cS).ownBlock := fun he => by have := own_of_ge HOT.out he.symm; omega
             have hne9 : some w.heap.size ≠ (Value.slice AS nS cS).ownBlock := fun he => by have := own_of_ge HOT.out he.symm; omega
             have hb8 := (hg8.block _ (Nat.lt_of_lt_of_le (show w2.heap.size < w2.heap.size + 1 by omega) (HZA.out _)) hne8).trans ((((Grew.refl wb).alloc _).block (blk_lt HBT.out)).trans HBT.out)
             have hp8 := (hg8.block _ (Nat.lt_of_lt_of_le (show w.heap.size < w2.heap.size + 1 by omega) (HZA.out _)) hne9).trans ((((Grew.refl wb).alloc _).block (blk_lt HP3.out)).trans HP3.out)
             have k8 : w8.cell? ⟨w2.heap.size, 0, none⟩ = some (.slice AS nS cS) := by rw [blk_cell hb8]; rfl
             have f8 := blk_frozen hb8 0
             have hG8 : Grew w w8 := (HG3.out.alloc _).grown hg8 (fun g hg => by have := own_of_ge HOT.out hg; omega)
             have hz8 : w2.heap.size + 1 ≤ w8.heap.size := Nat.le_trans (HZA.out _) hg8.size
             have HFIN := Lib.hid (show Hid ((w8.setCell ⟨w2.heap.size, 0, none⟩ (.slice A8 ((sk r).length + 1) c8)).heap[w.heap.size]? = some (.cells #[.int .i64 (NA : Int), .slice A' NA c] 76 (0, 0))) ∧ Hid (Stk (w8.setCell ⟨w2.heap.size, 0, none⟩ (.slice A8 ((sk r).length + 1) c8)) (w2.heap.size) (w2.heap.size + 1) (mve A V (xs.drop k))) ∧ Hid (Grew w (w8.setCell ⟨w2.heap.size, 0, none⟩ (.slice A8 ((sk r).length + 1) c8))) ∧ Hid (w2.heap.size + 1 ≤ (w8.setCell ⟨w2.heap.size, 0, none⟩ (.slice A8 ((sk r).length + 1) c8)).heap.size) from by
               have hon : Only (w2.heap.size) w8 (w8.setCell ⟨w2.heap.size, 0, none⟩ (.slice A8 ((sk r).length + 1) c8)) := (Only.refl _ _).setCell _
               refine ⟨Lib.hid ((hon.block (by omega) (by omega)).trans hp8), Lib.hid ⟨_, _, _, blk_set hb8 0 _, ?_⟩, Lib.hid (hG8.setCell (show w.heap.size ≤ w2.heap.size by omega) _), Lib.hid (Nat.le_trans hz8 hon.size)⟩
               rw [HEK.out, sk_cons]
               exact own_only hown8 hon (fun he => by have := own_of_ge hown8 he; omega))
             clear hb8 hp8 hG8 hz8 hown8 hg8 hne8 hne9 k7 k7'))
        go_roundw
        case rel => exact ⟨k, by omega, rfl, HFIN.out⟩
        case measure => simp [intOf] <;> omega
      · obtain ⟨x, y, r, rfl⟩ := two_at (HF.out.1 (.inr (.inr hkd)))
        have he : mve A V (xs.drop k) = (dif FU x ||| y) :: r := HDRK.out.trans (HMI.out _ _ _ _ _ hkd)
        have hx := HSMK.out x (by simp)
        have hy := HSMK.out y (by simp)
        have hfu := HFU.out
        have hdl := dif_le (a := FU) (b := x)
        have hxz := andNot_i64 FU x (by omega) (by omega)
        have hxy := or_i64 (dif FU x) y (by omega) (by omega)
        have hlr : r.length ≤ 1048576 := by have := HL1.out; simp only [List.length_cons] at this; omega
        rw [hkd] at c0
        clear hkd c1 hx hy hfu hdl
        have HEK := Lib.hid he
        clear he
        generalize (dif FU x ||| y : Nat) = z at *
        generalize dif FU x = d at *
        have HP1 := Lib.hid (popM_c (w2.heap.size) x (y :: r) (w2.heap.size + 1) wr HBS.out (by omega))
        have HP2 := Lib.hid (fun W hW => popM_c (w2.heap.size) y r (w2.heap.size + 1) W hW (by omega))
        go_wp2_with fail
        refine HP1.out.mono ?_
        rintro e wa ⟨rfl, hS2, hO2⟩
        have hp2 := (hO2.block (blk_lt HP.out) (by omega)).trans HP.out
        have hG2 := hO2.grew_of HG.out (by omega)
        have hz2 := hO2.size
        clear hO2
        go_wp2_with fail
        refine (HP2.out _ hS2).mono ?_
        rintro e wb ⟨rfl, hS3, hO3⟩
        have hp3 := (hO3.block (blk_lt hp2) (by omega)).trans hp2
        have hG3 := hO3.grew_of hG2 (by omega)
        have hz3 := hO3.size
        have HG3 := Lib.hid hG3
        have HP3 := Lib.hid hp3
        have HZ3 := Lib.hid (Nat.le_trans HZ.out (Nat.le_trans hz2 hz3))
        have HS3 := Lib.hid hS3
        clear hO3 hS2 hS3 hp2 hp3 hG2 hG3 hz2 hz3 HBS HP HG HZ
        obtain ⟨AS, nS, cS, hb, hO⟩ := HS3.out
        have k7 : wb.cell? ⟨w2.heap.size, 0, none⟩ = some (.slice AS nS cS) := by rw [blk_cell hb]; rfl
        have k7' : ∀ o, (wb.alloc o).cell? ⟨w2.heap.size, 0, none⟩ = some (.slice AS nS cS) := fun o => by rw [blk_cell ((((Grew.refl wb).alloc o).block (blk_lt hb)).trans hb)]; rfl
        have HBT := Lib.hid hb
        have HOT := Lib.hid hO
        have HZA := Lib.hid (fun o : Obj => (Nat.le_trans HZ3.out (((Grew.refl wb).alloc o).size) : w2.heap.size + 1 ≤ (wb.alloc o).heap.size))
        have HOA := Lib.hid (fun o : Obj => (hO.grew ((Grew.refl wb).alloc o) : OwnI (wb.alloc o) (w2.heap.size + 1) (.slice AS nS cS) (sk r)))
        clear hb hO
        go_wp2_with (first
          | (at_builtin
             refine wpList_appB (w2.heap.size + 1) _ _ rfl rfl (.slice AS nS cS) (sk r) rfl (HOA.out _) (HZA.out _) (.slice (some ⟨wb.heap.size, 0, none⟩) 1 1) ((z : Nat) : Int) rfl (rd_litI wb _ _) (by rw [sk_len]; exact hlr) ?_
             intro v8 w8 hown8 hg8
             obtain ⟨A8, c8, rfl⟩ := ints_slice hown8.ints
             rw [List.length_append, List.length_singleton] at hown8
             have hne8 : some (w2.heap.size) ≠ (Value.slice AS nS cS).ownBlock := fun he => by have := own_of_ge HOT.out he.symm; omega
             have hne9 : some w.heap.size ≠ (Value.slice AS nS cS).ownBlock := fun he => by have := own_of_ge HOT.out he.symm; omega
             have hb8 := (hg8.block _ (Nat.lt_of_lt_of_le (show w2.heap.size < w2.heap.size + 1 by omega) (HZA.out _)) hne8).trans ((((Grew.refl wb).alloc _).block (blk_lt HBT.out)).trans HBT.out)
             have hp8 := (hg8.block _ (Nat.lt_of_lt_of_le (show w.heap.size < w2.heap.size + 1 by omega) (HZA.out _)) hne9).trans ((((Grew.refl wb).alloc _).block (blk_lt HP3.out)).trans HP3.out)
             have k8 : w8.cell? ⟨w2.heap.size, 0, none⟩ = some (.slice AS nS cS) := by rw [blk_cell hb8]; rfl
             have f8 := blk_frozen hb8 0
             have hG8 : Grew w w8 := (HG3.out.alloc _).grown hg8 (fun g hg => by have := own_of_ge HOT.out hg; omega)
             have hz8 : w2.heap.size + 1 ≤ w8.heap.size := Nat.le_trans (HZA.out _) hg8.size
             have HFIN := Lib.hid (show Hid ((w8.setCell ⟨w2.heap.size, 0, none⟩ (.slice A8 ((sk r).length + 1) c8)).heap[w.heap.size]? = some (.cells #[.int .i64 (NA : Int), .slice A' NA c] 76 (0, 0))) ∧ Hid (Stk (w8.setCell ⟨w2.heap.size, 0, none⟩ (.slice A8 ((sk r).length + 1) c8)) (w2.heap.size) (w2.heap.size + 1) (mve A V (xs.drop k))) ∧ Hid (Grew w (w8.setCell ⟨w2.heap.size, 0, none⟩ (.slice A8 ((sk r).length + 1) c8))) ∧ Hid (w2.heap.size + 1 ≤ (w8.setCell ⟨w2.heap.size, 0, none⟩ (.slice A8 ((sk r).length + 1) c8)).heap.size) from by
               have hon : Only (w2.heap.size) w8 (w8.setCell ⟨w2.heap.size, 0, none⟩ (.slice A8 ((sk r).length + 1) c8)) := (Only.refl _ _).setCell _
               refine ⟨Lib.hid ((hon.block (by omega) (by omega)).trans hp8), Lib.hid ⟨_, _, _, blk_set hb8 0 _, ?_⟩, Lib.hid (hG8.setCell (show w.heap.size ≤ w2.heap.size by omega) _), Lib.hid (Nat.le_trans hz8 hon.size)⟩
               rw [HEK.out, sk_cons]
               exact own_only hown8 hon (fun he => by have := own_of_ge hown8 he; omega))
             clear hb8 hp8 hG8 hz8 hown8 hg8 hne8 hne9 k7 k7'))
        go_roundw
        case rel => exact ⟨k, by omega, rfl, HFIN.out⟩
        case measure => simp [intOf] <;> omega
      · obtain ⟨x, r, rfl⟩ := one_at (HF.out.2 (.inl hkd))
        have he : mve A V (xs.drop k) = (bx A x) :: r := HDRK.out.trans (mvs_box hkd)
        have hx := HSMK.out x (by simp)
        have KBm := Lib.hid (fun W hW => KBX.out x W hW (by omega))
        have hlr : r.length ≤ 1048576 := by have := HL1.out; simp only [List.length_cons] at this; omega
        rw [hkd] at c0
        clear hkd c1 hx
        have HEK := Lib.hid he
        clear he
        generalize (bx A x : Nat) = z at *
        have HP1 := Lib.hid (fun W hW => popM_c (w2.heap.size) x r (w2.heap.size + 1) W hW (by omega))
        have HPw := Lib.hid HP.out
        have d0 : ∀ W, Only (w2.heap.size) wr W → W.cell? ⟨w.heap.size, 0, none⟩ = some (.int .i64 (NA : Int)) := fun W hW => by rw [blk_cell ((hW.block (blk_lt HPw.out) (by omega)).trans HPw.out)]; rfl
        have d1 : ∀ W, Only (w2.heap.size) wr W → W.cell? ⟨w.heap.size, 1, none⟩ = some (.slice A' NA c) := fun W hW => by rw [blk_cell ((hW.block (blk_lt HPw.out) (by omega)).trans HPw.out)]; rfl
        have ho2 : Only (w2.heap.size) wr wr := Only.refl _ _
        have ho2d : Only (w2.heap.size) wr wr.drew := ho2.drew
        have HSD : Hid (Stk wr.drew (w2.heap.size) (w2.heap.size + 1) (x :: r)) := Lib.hid (HBS.out.grew (Grew.refl _).drew)
        go_wp2_with fail
        refine wp_region_held_drew (S := fun w' => Only (w2.heap.size) wr w') (by kernel_rfl) ho2d (fun hHeld => ?_)
        refine wpAnyH_take (i := 0) (oi := ?on1) (v := ?vn1) ?hin1 ?an1 ?bn1 ?cn1 ?qn1 (Or.inl ⟨?dn1, ?hyn1⟩) hHeld ?restn1
        case hin1 => (simp only [List.getElem?_toArray, List.getElem?_cons_zero]; exact rfl)
        case an1 => kernel_rfl
        case bn1 => kernel_rfl
        case cn1 => kernel_rfl
        case qn1 => exact fun _ _ _ h => h
        case dn1 => rfl
        case hyn1 => (intro z hSw; (try dsimp only at hSw); go_simp; (try with_reducible rfl))
        try simp only [Act.put, List.setIfInBounds_toArray, List.set_cons_zero, List.set_cons_succ]
        refine wpAnyH_take (i := 1) (oi := ?on2) (v := ?vn2) ?hin2 ?an2 ?bn2 ?cn2 ?qn2 (Or.inl ⟨?dn2, ?hyn2⟩) hHeld ?restn2
        case hin2 => (simp only [List.getElem?_toArray, List.getElem?_cons_succ, List.getElem?_cons_zero]; exact rfl)
        case an2 => kernel_rfl
        case bn2 => kernel_rfl
        case cn2 => kernel_rfl
        case qn2 => exact fun _ _ _ h => h
        case dn2 => rfl
        case hyn2 => (intro z hSw; (try dsimp only at hSw); go_simp; (try with_reducible rfl))
        try simp only [Act.put, List.setIfInBounds_toArray, List.set_cons_zero, List.set_cons_succ]
        refine wpAnyH_take (i := 2) (oi := ?on3) (v := ?vn3) ?hin3 ?an3 ?bn3 ?cn3 ?qn3 (Or.inl ⟨?dn3, ?hyn3⟩) hHeld ?restn3
        case hin3 => (simp only [List.getElem?_toArray, List.getElem?_cons_succ, List.getElem?_cons_zero]; exact rfl)
        case an3 => kernel_rfl
        case bn3 => kernel_rfl
        case cn3 => kernel_rfl
        case qn3 => exact fun _ _ _ h => h
        case dn3 => rfl
        case hyn3 => (intro z hSw; (try dsimp only at hSw); go_simp; (try with_reducible rfl))
        try simp only [Act.put, List.setIfInBounds_toArray, List.set_cons_zero, List.set_cons_succ]
        refine wpAnyH_ready (rs := [3]) (by kernel_rfl) (by simp) ?_
        refine AllReadyH.cons (o := ?on4) ?hin4 ?restn4 AllReadyH.nil
        case hin4 => (simp only [List.getElem?_toArray, List.getElem?_cons_succ, List.getElem?_cons_zero]; exact rfl)
        intro K hK
        go_simp
        go_at_call 104
        refine (HP1.out _ HSD.out).mono ?_
        rintro e wb ⟨rfl, hS3, hO3⟩
        have ho3 : Only (w2.heap.size) wr wb := ho2d.trans hO3
        refine hK.out _ _ ?_ (fun hHeld => ?_)
        · (try dsimp only); first | with_reducible assumption | exact Grew.alloc ‹_› _
        clear hK K
        try simp only [Act.put, List.setIfInBounds_toArray, List.set_cons_zero, List.set_cons_succ]
        refine wpAnyH_ready (rs := [4]) (by kernel_rfl) (by simp) ?_
        refine AllReadyH.cons (o := ?on5) ?hin5 ?restn5 AllReadyH.nil
        case hin5 => (simp only [List.getElem?_toArray, List.getElem?_cons_succ, List.getElem?_cons_zero]; exact rfl)
        intro K hK
        go_simp
        go_at_call 105
        refine (KBm.out _ (ho3.grew_of HG.out (by omega))).mono ?_
        rintro e wc ⟨rfl, hwc⟩
        subst hwc
        refine hK.out _ _ ?_ (fun hHeld => ?_)
        · (try dsimp only); first | with_reducible assumption | exact Grew.alloc ‹_› _
        clear hK K
        try simp only [Act.put, List.setIfInBounds_toArray, List.set_cons_zero, List.set_cons_succ]
        refine wpAnyH_take (i := 5) (oi := ?on6) (v := ?vn6) ?hin6 ?an6 ?bn6 ?cn6 ?qn6 (Or.inl ⟨?dn6, ?hyn6⟩) hHeld ?restn6
        case hin6 => (simp only [List.getElem?_toArray, List.getElem?_cons_succ, List.getElem?_cons_zero]; exact rfl)
        case an6 => kernel_rfl
        case bn6 => kernel_rfl
        case cn6 => kernel_rfl
        case qn6 => exact fun _ _ _ h => h
        case dn6 => rfl
        case hyn6 => (intro z hSw; (try dsimp only at hSw); go_simp; (try with_reducible rfl))
        try simp only [Act.put, List.setIfInBounds_toArray, List.set_cons_zero, List.set_cons_succ]
        refine wpAnyH_done (by kernel_rfl) ?_ _
        have hp3 := (ho3.block (blk_lt HPw.out) (by omega)).trans HPw.out
        have HG3 := Lib.hid (ho3.grew_of HG.out (by omega))
        have HP3 := Lib.hid hp3
        have HZ3 := Lib.hid (Nat.le_trans HZ.out ho3.size)
        have HS3 := Lib.hid hS3
        clear hO3 hS3 hp3 HBS HP HG HZ HSD ho3 ho2 ho2d d0 d1 HPw
        obtain ⟨AS, nS, cS, hb, hO⟩ := HS3.out
        have k7 : wc.cell? ⟨w2.heap.size, 0, none⟩ = some (.slice AS nS cS) := by rw [blk_cell hb]; rfl
        have k7' : ∀ o, (wc.alloc o).cell? ⟨w2.heap.size, 0, none⟩ = some (.slice AS nS cS) := fun o => by rw [blk_cell ((((Grew.refl wc).alloc o).block (blk_lt hb)).trans hb)]; rfl
        have HBT := Lib.hid hb
        have HOT := Lib.hid hO
        have HZA := Lib.hid (fun o : Obj => (Nat.le_trans HZ3.out (((Grew.refl wc).alloc o).size) : w2.heap.size + 1 ≤ (wc.alloc o).heap.size))
        have HOA := Lib.hid (fun o : Obj => (hO.grew ((Grew.refl wc).alloc o) : OwnI (wc.alloc o) (w2.heap.size + 1) (.slice AS nS cS) (sk r)))
        clear hb hO
        go_wp2_with (first
          | (at_builtin
             refine wpList_appB (w2.heap.size + 1) _ _ rfl rfl (.slice AS nS cS) (sk r) rfl (HOA.out _) (HZA.out _) (.slice (some ⟨wc.heap.size, 0, none⟩) 1 1) ((z : Nat) : Int) rfl (rd_litI wc _ _) (by rw [sk_len]; exact hlr) ?_
             intro v8 w8 hown8 hg8
             obtain ⟨A8, c8, rfl⟩ := ints_slice hown8.ints
             rw [List.length_append, List.length_singleton] at hown8
             have hne8 : some (w2.heap.size) ≠ (Value.slice AS nS cS).ownBlock := fun he => by have := own_of_ge HOT.out he.symm; omega
             have hne9 : some w.heap.size ≠ (Value.slice AS nS cS).ownBlock := fun he => by have := own_of_ge HOT.out he.symm; omega
             have hb8 := (hg8.block _ (Nat.lt_of_lt_of_le (show w2.heap.size < w2.heap.size + 1 by omega) (HZA.out _)) hne8).trans ((((Grew.refl wc).alloc _).block (blk_lt HBT.out)).trans HBT.out)
             have hp8 := (hg8.block _ (Nat.lt_of_lt_of_le (show w.heap.size < w2.heap.size + 1 by omega) (HZA.out _)) hne9).trans ((((Grew.refl wc).alloc _).block (blk_lt HP3.out)).trans HP3.out)
             have k8 : w8.cell? ⟨w2.heap.size, 0, none⟩ = some (.slice AS nS cS) := by rw [blk_cell hb8]; rfl
             have f8 := blk_frozen hb8 0
             have hG8 : Grew w w8 := (HG3.out.alloc _).grown hg8 (fun g hg => by have := own_of_ge HOT.out hg; omega)
             have hz8 : w2.heap.size + 1 ≤ w8.heap.size := Nat.le_trans (HZA.out _) hg8.size
             have HFIN := Lib.hid (show Hid ((w8.setCell ⟨w2.heap.size, 0, none⟩ (.slice A8 ((sk r).length + 1) c8)).heap[w.heap.size]? = some (.cells #[.int .i64 (NA : Int), .slice A' NA c] 76 (0, 0))) ∧ Hid (Stk (w8.setCell ⟨w2.heap.size, 0, none⟩ (.slice A8 ((sk r).length + 1) c8)) (w2.heap.size) (w2.heap.size + 1) (mve A V (xs.drop k))) ∧ Hid (Grew w (w8.setCell ⟨w2.heap.size, 0, none⟩ (.slice A8 ((sk r).length + 1) c8))) ∧ Hid (w2.heap.size + 1 ≤ (w8.setCell ⟨w2.heap.size, 0, none⟩ (.slice A8 ((sk r).length + 1) c8)).heap.size) from by
               have hon : Only (w2.heap.size) w8 (w8.setCell ⟨w2.heap.size, 0, none⟩ (.slice A8 ((sk r).length + 1) c8)) := (Only.refl _ _).setCell _
               refine ⟨Lib.hid ((hon.block (by omega) (by omega)).trans hp8), Lib.hid ⟨_, _, _, blk_set hb8 0 _, ?_⟩, Lib.hid (hG8.setCell (show w.heap.size ≤ w2.heap.size by omega) _), Lib.hid (Nat.le_trans hz8 hon.size)⟩
               rw [HEK.out, sk_cons]
               exact own_only hown8 hon (fun he => by have := own_of_ge hown8 he; omega))
             clear hb8 hp8 hG8 hz8 hown8 hg8 hne8 hne9 k7 k7'))
        go_roundw
        case rel => exact ⟨k, by omega, rfl, HFIN.out⟩
        case measure => simp [intOf] <;> omega
      · obtain ⟨x, r, rfl⟩ := one_at (HF.out.2 (.inr hkd))
        have he : mve A V (xs.drop k) = (dif FU (bx A (dif FU x))) :: r := HDRK.out.trans (HMD.out _ _ _ _ hkd)
        have hx := HSMK.out x (by simp)
        have hfu := HFU.out
        have hdl := dif_le (a := FU) (b := x)
        have hdb := HBL.out (dif FU x)
        have hxz := andNot_i64 FU x (by omega) (by omega)
        have hxy := andNot_i64 FU (bx A (dif FU x)) (by omega) (by omega)
        have KBm := Lib.hid (fun W hW => KBX.out (dif FU x) W hW (by omega))
        have hlr : r.length ≤ 1048576 := by have := HL1.out; simp only [List.length_cons] at this; omega
        rw [hkd] at c0
        clear hkd c1 hx hfu hdl hdb
        have HEK := Lib.hid he
        clear he
        generalize (dif FU (bx A (dif FU x)) : Nat) = z at *
        generalize bx A (dif FU x) = b1 at *
        generalize dif FU x = d at *
        have HP1 := Lib.hid (fun W hW => popM_c (w2.heap.size) x r (w2.heap.size + 1) W hW (by omega))
        have HPw := Lib.hid HP.out
        have d0 : ∀ W, Only (w2.heap.size) wr W → W.cell? ⟨w.heap.size, 0, none⟩ = some (.int .i64 (NA : Int)) := fun W hW => by rw [blk_cell ((hW.block (blk_lt HPw.out) (by omega)).trans HPw.out)]; rfl
        have d1 : ∀ W, Only (w2.heap.size) wr W → W.cell? ⟨w.heap.size, 1, none⟩ = some (.slice A' NA c) := fun W hW => by rw [blk_cell ((hW.block (blk_lt HPw.out) (by omega)).trans HPw.out)]; rfl
        have ho2 : Only (w2.heap.size) wr wr := Only.refl _ _
        have ho2d : Only (w2.heap.size) wr wr.drew := ho2.drew
        have HSD : Hid (Stk wr.drew (w2.heap.size) (w2.heap.size + 1) (x :: r)) := Lib.hid (HBS.out.grew (Grew.refl _).drew)
        go_wp2_with fail
        refine wp_region_held_drew (S := fun w' => Only (w2.heap.size) wr w') (by kernel_rfl) ho2d (fun hHeld => ?_)
        refine wpAnyH_take (i := 0) (oi := ?on7) (v := ?vn7) ?hin7 ?an7 ?bn7 ?cn7 ?qn7 (Or.inl ⟨?dn7, ?hyn7⟩) hHeld ?restn7
        case hin7 => (simp only [List.getElem?_toArray, List.getElem?_cons_zero]; exact rfl)
        case an7 => kernel_rfl
        case bn7 => kernel_rfl
        case cn7 => kernel_rfl
        case qn7 => exact fun _ _ _ h => h
        case dn7 => rfl
        case hyn7 => (intro z hSw; (try dsimp only at hSw); go_simp; (try with_reducible rfl))
        try simp only [Act.put, List.setIfInBounds_toArray, List.set_cons_zero, List.set_cons_succ]
        refine wpAnyH_take (i := 1) (oi := ?on8) (v := ?vn8) ?hin8 ?an8 ?bn8 ?cn8 ?qn8 (Or.inl ⟨?dn8, ?hyn8⟩) hHeld ?restn8
        case hin8 => (simp only [List.getElem?_toArray, List.getElem?_cons_succ, List.getElem?_cons_zero]; exact rfl)
        case an8 => kernel_rfl
        case bn8 => kernel_rfl
        case cn8 => kernel_rfl
        case qn8 => exact fun _ _ _ h => h
        case dn8 => rfl
        case hyn8 => (intro z hSw; (try dsimp only at hSw); go_simp; (try with_reducible rfl))
        try simp only [Act.put, List.setIfInBounds_toArray, List.set_cons_zero, List.set_cons_succ]
        refine wpAnyH_take (i := 2) (oi := ?on9) (v := ?vn9) ?hin9 ?an9 ?bn9 ?cn9 ?qn9 (Or.inl ⟨?dn9, ?hyn9⟩) hHeld ?restn9
        case hin9 => (simp only [List.getElem?_toArray, List.getElem?_cons_succ, List.getElem?_cons_zero]; exact rfl)
        case an9 => kernel_rfl
        case bn9 => kernel_rfl
        case cn9 => kernel_rfl
        case qn9 => exact fun _ _ _ h => h
        case dn9 => rfl
        case hyn9 => (intro z hSw; (try dsimp only at hSw); go_simp; (try with_reducible rfl))
        try simp only [Act.put, List.setIfInBounds_toArray, List.set_cons_zero, List.set_cons_succ]
        refine wpAnyH_take (i := 3) (oi := ?on10) (v := ?vn10) ?hin10 ?an10 ?bn10 ?cn10 ?qn10 (Or.inl ⟨?dn10, ?hyn10⟩) hHeld ?restn10
        case hin10 => (simp only [List.getElem?_toArray, List.getElem?_cons_succ, List.getElem?_cons_zero]; exact rfl)
        case an10 => kernel_rfl
        case bn10 => kernel_rfl
        case cn10 => kernel_rfl
        case qn10 => exact fun _ _ _ h => h
        case dn10 => rfl
        case hyn10 => (intro z hSw; (try dsimp only at hSw); go_simp; (try with_reducible rfl))
        try simp only [Act.put, List.setIfInBounds_toArray, List.set_cons_zero, List.set_cons_succ]
        refine wpAnyH_take (i := 4) (oi := ?on11) (v := ?vn11) ?hin11 ?an11 ?bn11 ?cn11 ?qn11 (Or.inl ⟨?dn11, ?hyn11⟩) hHeld ?restn11
        case hin11 => (simp only [List.getElem?_toArray, List.getElem?_cons_succ, List.getElem?_cons_zero]; exact rfl)
        case an11 => kernel_rfl
        case bn11 => kernel_rfl
        case cn11 => kernel_rfl
        case qn11 => exact fun _ _ _ h => h
        case dn11 => rfl
        case hyn11 => (intro z hSw; (try dsimp only at hSw); go_simp; (try with_reducible rfl))
        try simp only [Act.put, List.setIfInBounds_toArray, List.set_cons_zero, List.set_cons_succ]
        refine wpAnyH_ready (rs := [5]) (by kernel_rfl) (by simp) ?_
        refine AllReadyH.cons (o := ?on12) ?hin12 ?restn12 AllReadyH.nil
        case hin12 => (simp only [List.getElem?_toArray, List.getElem?_cons_succ, List.getElem?_cons_zero]; exact rfl)
        intro K hK
        go_simp
        go_at_call 104
        refine (HP1.out _ HSD.out).mono ?_
        rintro e wb ⟨rfl, hS3, hO3⟩
        have ho3 : Only (w2.heap.size) wr wb := ho2d.trans hO3
        refine hK.out _ _ ?_ (fun hHeld => ?_)
        · (try dsimp only); first | with_reducible assumption | exact Grew.alloc ‹_› _
        clear hK K
        try simp only [Act.put, List.setIfInBounds_toArray, List.set_cons_zero, List.set_cons_succ]
        refine wpAnyH_take (i := 6) (oi := ?on13) (v := ?vn13) ?hin13 ?an13 ?bn13 ?cn13 ?qn13 (Or.inl ⟨?dn13, ?hyn13⟩) hHeld ?restn13
        case hin13 => (simp only [List.getElem?_toArray, List.getElem?_cons_succ, List.getElem?_cons_zero]; exact rfl)
        case an13 => kernel_rfl
        case bn13 => kernel_rfl
        case cn13 => kernel_rfl
        case qn13 => exact fun _ _ _ h => h
        case dn13 => rfl
        case hyn13 => (intro z hSw; (try dsimp only at hSw); go_simp; (try with_reducible rfl))
        try simp only [Act.put, List.setIfInBounds_toArray, List.set_cons_zero, List.set_cons_succ]
        refine wpAnyH_ready (rs := [7]) (by kernel_rfl) (by simp) ?_
        refine AllReadyH.cons (o := ?on14) ?hin14 ?restn14 AllReadyH.nil
        case hin14 => (simp only [List.getElem?_toArray, List.getElem?_cons_succ, List.getElem?_cons_zero]; exact rfl)
        intro K hK
        go_simp
        go_at_call 105
        refine (KBm.out _ (ho3.grew_of HG.out (by omega))).mono ?_
        rintro e wc ⟨rfl, hwc⟩
        subst hwc
        refine hK.out _ _ ?_ (fun hHeld => ?_)
        · (try dsimp only); first | with_reducible assumption | exact Grew.alloc ‹_› _
        clear hK K
        try simp only [Act.put, List.setIfInBounds_toArray, List.set_cons_zero, List.set_cons_succ]
        refine wpAnyH_take (i := 8) (oi := ?on15) (v := ?vn15) ?hin15 ?an15 ?bn15 ?cn15 ?qn15 (Or.inl ⟨?dn15, ?hyn15⟩) hHeld ?restn15
        case hin15 => (simp only [List.getElem?_toArray, List.getElem?_cons_succ, List.getElem?_cons_zero]; exact rfl)
        case an15 => kernel_rfl
        case bn15 => kernel_rfl
        case cn15 => kernel_rfl
        case qn15 => exact fun _ _ _ h => h
        case dn15 => rfl
        case hyn15 => (intro z hSw; (try dsimp only at hSw); go_simp; (try with_reducible rfl))
        try simp only [Act.put, List.setIfInBounds_toArray, List.set_cons_zero, List.set_cons_succ]
        refine wpAnyH_take (i := 9) (oi := ?on16) (v := ?vn16) ?hin16 ?an16 ?bn16 ?cn16 ?qn16 (Or.inl ⟨?dn16, ?hyn16⟩) hHeld ?restn16
        case hin16 => (simp only [List.getElem?_toArray, List.getElem?_cons_succ, List.getElem?_cons_zero]; exact rfl)
        case an16 => kernel_rfl
        case bn16 => kernel_rfl
        case cn16 => kernel_rfl
        case qn16 => exact fun _ _ _ h => h
        case dn16 => rfl
        case hyn16 => (intro z hSw; (try dsimp only at hSw); go_simp; (try with_reducible rfl))
        try simp only [Act.put, List.setIfInBounds_toArray, List.set_cons_zero, List.set_cons_succ]
        refine wpAnyH_done (by kernel_rfl) ?_ _
        have hp3 := (ho3.block (blk_lt HPw.out) (by omega)).trans HPw.out
        have HG3 := Lib.hid (ho3.grew_of HG.out (by omega))
        have HP3 := Lib.hid hp3
        have HZ3 := Lib.hid (Nat.le_trans HZ.out ho3.size)
        have HS3 := Lib.hid hS3
        clear hO3 hS3 hp3 HBS HP HG HZ HSD ho3 ho2 ho2d d0 d1 HPw
        obtain ⟨AS, nS, cS, hb, hO⟩ := HS3.out
        have k7 : wc.cell? ⟨w2.heap.size, 0, none⟩ = some (.slice AS nS cS) := by rw [blk_cell hb]; rfl
        have k7' : ∀ o, (wc.alloc o).cell? ⟨w2.heap.size, 0, none⟩ = some (.slice AS nS cS) := fun o => by rw [blk_cell ((((Grew.refl wc).alloc o).block (blk_lt hb)).trans hb)]; rfl
        have HBT := Lib.hid hb
        have HOT := Lib.hid hO
        have HZA := Lib.hid (fun o : Obj => (Nat.le_trans HZ3.out (((Grew.refl wc).alloc o).size) : w2.heap.size + 1 ≤ (wc.alloc o).heap.size))
        have HOA := Lib.hid (fun o : Obj => (hO.grew ((Grew.refl wc).alloc o) : OwnI (wc.alloc o) (w2.heap.size + 1) (.slice AS nS cS) (sk r)))
        clear hb hO
        go_wp2_with (first
          | (at_builtin
             refine wpList_appB (w2.heap.size + 1) _ _ rfl rfl (.slice AS nS cS) (sk r) rfl (HOA.out _) (HZA.out _) (.slice (some ⟨wc.heap.size, 0, none⟩) 1 1) ((z : Nat) : Int) rfl (rd_litI wc _ _) (by rw [sk_len]; exact hlr) ?_
             intro v8 w8 hown8 hg8
             obtain ⟨A8, c8, rfl⟩ := ints_slice hown8.ints
             rw [List.length_append, List.length_singleton] at hown8
             have hne8 : some (w2.heap.size) ≠ (Value.slice AS nS cS).ownBlock := fun he => by have := own_of_ge HOT.out he.symm; omega
             have hne9 : some w.heap.size ≠ (Value.slice AS nS cS).ownBlock := fun he => by have := own_of_ge HOT.out he.symm; omega
             have hb8 := (hg8.block _ (Nat.lt_of_lt_of_le (show w2.heap.size < w2.heap.size + 1 by omega) (HZA.out _)) hne8).trans ((((Grew.refl wc).alloc _).block (blk_lt HBT.out)).trans HBT.out)
             have hp8 := (hg8.block _ (Nat.lt_of_lt_of_le (show w.heap.size < w2.heap.size + 1 by omega) (HZA.out _)) hne9).trans ((((Grew.refl wc).alloc _).block (blk_lt HP3.out)).trans HP3.out)
             have k8 : w8.cell? ⟨w2.heap.size, 0, none⟩ = some (.slice AS nS cS) := by rw [blk_cell hb8]; rfl
             have f8 := blk_frozen hb8 0
             have hG8 : Grew w w8 := (HG3.out.alloc _).grown hg8 (fun g hg => by have := own_of_ge HOT.out hg; omega)
             have hz8 : w2.heap.size + 1 ≤ w8.heap.size := Nat.le_trans (HZA.out _) hg8.size
             have HFIN := Lib.hid (show Hid ((w8.setCell ⟨w2.heap.size, 0, none⟩ (.slice A8 ((sk r).length + 1) c8)).heap[w.heap.size]? = some (.cells #[.int .i64 (NA : Int), .slice A' NA c] 76 (0, 0))) ∧ Hid (Stk (w8.setCell ⟨w2.heap.size, 0, none⟩ (.slice A8 ((sk r).length + 1) c8)) (w2.heap.size) (w2.heap.size + 1) (mve A V (xs.drop k))) ∧ Hid (Grew w (w8.setCell ⟨w2.heap.size, 0, none⟩ (.slice A8 ((sk r).length + 1) c8))) ∧ Hid (w2.heap.size + 1 ≤ (w8.setCell ⟨w2.heap.size, 0, none⟩ (.slice A8 ((sk r).length + 1) c8)).heap.size) from by
               have hon : Only (w2.heap.size) w8 (w8.setCell ⟨w2.heap.size, 0, none⟩ (.slice A8 ((sk r).length + 1) c8)) := (Only.refl _ _).setCell _
               refine ⟨Lib.hid ((hon.block (by omega) (by omega)).trans hp8), Lib.hid ⟨_, _, _, blk_set hb8 0 _, ?_⟩, Lib.hid (hG8.setCell (show w.heap.size ≤ w2.heap.size by omega) _), Lib.hid (Nat.le_trans hz8 hon.size)⟩
               rw [HEK.out, sk_cons]
               exact own_only hown8 hon (fun he => by have := own_of_ge hown8 he; omega))
             clear hb8 hp8 hG8 hz8 hown8 hg8 hne8 hne9 k7 k7'))
        go_roundw
        case rel => exact ⟨k, by omega, rfl, HFIN.out⟩
        case measure => simp [intOf] <;> omega
end Go.Proofs.YtopjgcbhjhhlfaaGreat


/- The program's predicates on modal algebras: full, isElement, areElements, isModalAlgebra. -/
namespace Go.Proofs.YtopjgcbhjhhlfaaGreat
open Go.RowKit

def meetB (A : List Nat) : Bool := allB A.length fun x => allB x fun y => decide (nt A (x &&& y) = nt A x &&& nt A y)
def algB (n : Int) (L : List Int) : Bool := decide (0 ≤ n ∧ n ≤ 5) && (decide ((L.length : Int) = ((2 ^ n.toNat : Nat) : Int)) && (mks n.toNat L && (meetB (nats L) && decide (nt (nats L) (full n.toNat) = full n.toNat))))
theorem nats_zs9 (X : List Nat) : nats (zs X) = X := by
  unfold nats zs
  rw [List.map_map]
  have : (Int.toNat ∘ fun i : Nat => (i : Int)) = id := by funext i; simp
  rw [this, List.map_id]
theorem it_zs9 (X : List Nat) (i : Nat) : it (zs X) i = ((nt X i : Nat) : Int) := by
  unfold it nt zs
  rw [List.getD_eq_getElem?_getD, List.getD_eq_getElem?_getD, List.getElem?_map]
  cases X[i]? <;> simp
theorem meet_all {A : List Nat} {n : Nat} (hl : A.length = 2 ^ n) (h : meetB A = true) : ∀ x y, x < 2 ^ n → y < 2 ^ n → nt A (x &&& y) = nt A x &&& nt A y := by
  intro x y hx hy
  have key : ∀ {x y}, x < 2 ^ n → y < x → nt A (x &&& y) = nt A x &&& nt A y := fun {x y} hx hy => of_decide_eq_true (allB_iff.1 (allB_iff.1 h x (by rw [hl]; exact hx)) y hy)
  rcases Nat.lt_trichotomy x y with h1 | h1 | h1
  · rw [Nat.and_comm x y, Nat.and_comm (nt A x)]
    exact key hy h1
  · subst h1; rw [Nat.and_self, Nat.and_self]
  · exact key hx h1
theorem algB_ok {n : Int} {L : List Int} (h : algB n L = true) : ∃ N : Nat, n = (N : Int) ∧ Alg N (nats L) ∧ zs (nats L) = L := by
  unfold algB at h
  rw [Bool.and_eq_true, Bool.and_eq_true, Bool.and_eq_true, Bool.and_eq_true, decide_eq_true_eq, decide_eq_true_eq, decide_eq_true_eq] at h
  obtain ⟨h1, h2, h3, h4, h5⟩ := h
  refine ⟨n.toNat, by omega, ⟨by omega, ?_, (nats_ok h3).2, meet_all ?_ h4, h5⟩, (nats_ok h3).1⟩
  · rw [nats_len]; omega
  · rw [nats_len]; omega
theorem algB_of {n : Nat} {B : List Nat} (h : Alg n B) : algB (n : Int) (zs B) = true := by
  have hz : nats (zs B) = B := by
    unfold nats zs
    rw [List.map_map]
    have : (Int.toNat ∘ fun i : Nat => (i : Int)) = id := by funext i; simp
    rw [this, List.map_id]
  have hm : mks n (zs B) = true := by
    unfold mks
    rw [List.all_eq_true]
    intro z hz
    unfold zs at hz
    obtain ⟨x, hx, rfl⟩ := List.mem_map.1 hz
    exact mk_yes (h.lt x hx)
  have hl := h.le
  unfold algB
  rw [zs_len, hz, h.len, Int.toNat_natCast, hm, decide_eq_true (show (0 : Int) ≤ (n : Int) ∧ (n : Int) ≤ 5 by omega), decide_eq_true rfl, h.top, decide_eq_true rfl]
  have : meetB B = true := allB_iff.2 fun x hx => allB_iff.2 fun y hy => decide_eq_true (h.meet x y (by rw [← h.len]; exact hx) (by rw [← h.len]; omega))
  rw [this]
  rfl
theorem alFull_c (n : Nat) (v : Value) (w : World) (hv : ∃ A m c, v = .slice A m c) (hn : n ≤ 30) :
    Calls Tryz.prog 30 #[.agg #[.int .i64 (n : Int), v]] w fun e w' => e = .returned (.int .i64 ((full n : Nat) : Int)) ∧ Grew w w' := by
  have h1 := wrap_pow hn
  have h2 := pow30' hn
  have h3 : 0 < 2 ^ n := Nat.pow_pos (by omega)
  have hf := Lib.hid (full_cast n)
  have hg := (Grew.refl w).alloc (.cells #[.int .i64 (n : Int), v] 26)
  obtain ⟨A, m, c, rfl⟩ := hv
  generalize full n = F at *
  generalize (2 ^ n : Nat) = p at *
  go_enter Tryz.func30, Tryz.ntmps30
  go_wp2_with fail
  go_ret
  refine ⟨?_, hg⟩
  have hf := hf.out
  rw [hf]
  rfl
theorem isElement_c (n : Nat) (x : Int) (v : Value) (w : World) (hv : ∃ A m c, v = .slice A m c) (hn : n ≤ 30) :
    Calls Tryz.prog 55 #[.agg #[.int .i64 (n : Int), v], .int .i64 x] w fun e w' => e = .returned (.bool (mk n x)) ∧ Grew w w' := by
  have HF := Lib.hid (fun W => alFull_c n v W hv hn)
  have HI := Lib.hid (inRange_c x 0 (full n : Nat))
  have hmk : mk n x = decide (0 ≤ x ∧ x ≤ ((full n : Nat) : Int)) := by
    unfold mk
    rw [full_cast]
  rw [hmk]
  have hg := Lib.hid ((Grew.refl w).alloc (.cells #[.int .i64 (n : Int), v] 26))
  obtain ⟨A, m, c, rfl⟩ := hv
  clear hmk
  generalize decide (0 ≤ x ∧ x ≤ ((full n : Nat) : Int)) = R at *
  generalize full n = F at *
  go_enter Tryz.func55, Tryz.ntmps55
  go_wp2_with fail
  refine (HF.out _).mono ?_
  rintro e w2 ⟨rfl, hg2⟩
  go_wp2_with fail
  refine (HI.out _).mono ?_
  rintro e w3 ⟨rfl, hg3⟩
  go_wp2_with fail
  go_ret
  exact ⟨rfl, (hg.out.trans hg2).trans hg3⟩
theorem algEl_ok (n b : Nat) (v : Value) (L : List Int) (w : World) (hv : ∃ A m c, v = .slice A m c) (hn : n ≤ 30) (k0 : ∀ W, Grew w W → W.cell? ⟨b, 0, none⟩ = some (.int .i64 (n : Int))) (k1 : ∀ W, Grew w W → W.cell? ⟨b, 1, none⟩ = some v) :
    PredI w 54 #[.pointer (some ⟨b, 0, none⟩)] L (fun x => !mk n x) := by
  intro x W _ hW
  have HE := Lib.hid (isElement_c n x v W hv hn)
  have q0 := k0 W hW
  have q1 := k1 W hW
  obtain ⟨A, m, c, rfl⟩ := hv
  show Calls Tryz.prog 54 #[.int .i64 x, .pointer (some ⟨b, 0, none⟩)] W fun e W' => e = .returned (.bool (!mk n x)) ∧ Grew W W'
  clear k0 k1
  generalize mk n x = R at *
  go_enter Tryz.func54, Tryz.ntmps54
  go_wp2_with fail
  refine (HE.out).mono ?_
  rintro e w1 ⟨rfl, hg1⟩
  go_wp2_with fail
  go_ret
  exact ⟨rfl, hg1⟩
theorem areEl_ok (n b : Nat) (v : Value) (L : List Int) (w : World) (hv : ∃ A m c, v = .slice A m c) (hn : n ≤ 30) (k0 : ∀ W, Grew w W → W.cell? ⟨b, 0, none⟩ = some (.int .i64 (n : Int))) (k1 : ∀ W, Grew w W → W.cell? ⟨b, 1, none⟩ = some v) :
    PredI w 56 #[.pointer (some ⟨b, 0, none⟩)] L (fun x => !mk n x) := by
  intro x W _ hW
  have HE := Lib.hid (isElement_c n x v W hv hn)
  have q0 := k0 W hW
  have q1 := k1 W hW
  obtain ⟨A, m, c, rfl⟩ := hv
  show Calls Tryz.prog 56 #[.int .i64 x, .pointer (some ⟨b, 0, none⟩)] W fun e W' => e = .returned (.bool (!mk n x)) ∧ Grew W W'
  clear k0 k1
  generalize mk n x = R at *
  go_enter Tryz.func56, Tryz.ntmps56
  go_wp2_with fail
  refine (HE.out).mono ?_
  rintro e w1 ⟨rfl, hg1⟩
  go_wp2_with fail
  go_ret
  exact ⟨rfl, hg1⟩
theorem not_any_mks (n : Nat) (L : List Int) : (L.any fun x => !mk n x) = !mks n L := by
  unfold mks
  rw [← not_any]
  simp
theorem areElements_c (n : Nat) (v u : Value) (L : List Int) (w : World) (hv : ∃ A m c, v = .slice A m c) (hn : n ≤ 30) (hu : Ints w u L) :
    Calls Tryz.prog 25 #[.agg #[.int .i64 (n : Int), v], u] w fun e w' => e = .returned (.bool (mks n L)) ∧ Grew w w' := by
  have eg := enters_of Tryz.func56 (by kernel_rfl) rfl
  have hal := (Grew.refl w).alloc (.cells #[.int .i64 (n : Int), v] 26)
  have y0 : ∀ W, Grew (w.alloc (.cells #[.int .i64 (n : Int), v] 26)) W → W.cell? ⟨w.heap.size, 0, none⟩ = some (.int .i64 (n : Int)) := fun W hW => (hW.cell (p := ⟨w.heap.size, 0, none⟩) (by simp)).trans (by simp)
  have y1 : ∀ W, Grew (w.alloc (.cells #[.int .i64 (n : Int), v] 26)) W → W.cell? ⟨w.heap.size, 1, none⟩ = some v := fun W hW => (hW.cell (p := ⟨w.heap.size, 1, none⟩) (by simp)).trans (by simp)
  have HC := Lib.hid (containsFuncI_c u L _ _ _ _ (hu.grew hal) (areEl_ok n w.heap.size v L _ hv hn y0 y1) eg)
  rw [not_any_mks] at HC
  have HG := Lib.hid hal
  obtain ⟨A, m, c, rfl⟩ := hv
  obtain ⟨A2, c2, rfl⟩ := ints_slice hu
  clear hu y0 y1 hal
  generalize mks n L = R at *
  generalize L.length = l at *
  go_enter Tryz.func25, Tryz.ntmps25
  go_wp2_with fail
  refine (HC.out).mono ?_
  rintro e w1 ⟨rfl, hg1⟩
  go_wp2_with fail
  go_ret
  exact ⟨by simp, HG.out.trans hg1⟩
set_option maxHeartbeats 4000000 in
theorem isModalAlgebra_c (n : Int) (v : Value) (L : List Int) (w : World) (h : Ints w v L) :
    Calls Tryz.prog 24 #[.agg #[.int .i64 n, v]] w fun e w' => e = .returned (.bool (algB n L)) ∧ Grew w w' := by
  have HI := Lib.hid (inRange_c n 0 5)
  have hal := (Grew.refl w).alloc (.cells #[.int .i64 n, v] 26)
  have HG := Lib.hid hal
  have HS := Lib.hid (fun W hW => size_c v L W (h.grew hW))
  have hmx : L.length ≤ 9223372036854775807 := h.2.1
  have y0 : ∀ W, Grew (w.alloc (.cells #[.int .i64 n, v] 26)) W → W.cell? ⟨w.heap.size, 0, none⟩ = some (.int .i64 n) := fun W hW => (hW.cell (p := ⟨w.heap.size, 0, none⟩) (by simp)).trans (by simp)
  have y1 : ∀ W, Grew (w.alloc (.cells #[.int .i64 n, v] 26)) W → W.cell? ⟨w.heap.size, 1, none⟩ = some v := fun W hW => (hW.cell (p := ⟨w.heap.size, 1, none⟩) (by simp)).trans (by simp)
  obtain ⟨w1, hw1⟩ : ∃ w1, w1 = w.alloc (.cells #[.int .i64 n, v] 26) := ⟨_, rfl⟩
  rw [← hw1] at y0 y1 HG
  clear hal
  have r1 := Grew.refl w1
  have r1d := r1.drew
  by_cases h1 : 0 ≤ n ∧ n ≤ 5
  · obtain ⟨N, rfl⟩ : ∃ N : Nat, n = (N : Int) := ⟨n.toNat, by omega⟩
    have hN : N ≤ 5 := by omega
    rw [decide_eq_true h1] at HI
    have eA : algB (N : Int) L = (decide ((L.length : Int) = ((2 ^ N : Nat) : Int)) && (mks N L && (meetB (nats L) && decide (nt (nats L) (full N) = full N)))) := by unfold algB; rw [decide_eq_true h1, Int.toNat_natCast, Bool.true_and]
    rw [eA]
    clear h1 eA
    have hvs : ∃ A m c, v = .slice A m c := by obtain ⟨A', c, e⟩ := ints_slice h; exact ⟨_, _, _, e⟩
    have HFU := Lib.hid (fun W => alFull_c N v W hvs (by omega))
    have hp32 : 2 ^ N ≤ 32 := Nat.le_trans (Nat.pow_le_pow_right (by omega) hN) (by decide)
    have hp0 : 0 < 2 ^ N := Nat.two_pow_pos N
    have hfe : full N = 2 ^ N - 1 := rfl
    have HW9 : Hid (IntKind.i64.wrap (((full N : Nat) : Int) + 1) = ((2 ^ N : Nat) : Int)) := Lib.hid (by rw [IntKind.wrap_i64]; omega)
    have hw9 : IntKind.i64.wrap (((full N : Nat) : Int) + 1) = ((2 ^ N : Nat) : Int) := by rw [IntKind.wrap_i64]; omega
    by_cases h2 : (L.length : Int) = ((2 ^ N : Nat) : Int)
    · rw [decide_eq_true h2, Bool.true_and]
      have eg := enters_of Tryz.func54 (by kernel_rfl) rfl
      have HCF := Lib.hid (fun W (hW : Grew w1 W) => containsFuncI_c v L _ _ _ _ (h.grew (HG.out.trans hW)) (algEl_ok N w.heap.size v L _ hvs (by omega) (fun V hV => y0 V (hW.trans hV)) (fun V hV => y1 V (hW.trans hV))) eg)
      rw [not_any_mks] at HCF
      have hq : ((L.length : Int) != ((2 ^ N : Nat) : Int)) = false := by simpa using h2
      cases h3 : mks N L with
      | false =>
        rw [h3] at HCF
        obtain ⟨A, c, rfl⟩ := ints_slice h
        clear h h3 h2 hvs hfe hp32 hp0
        generalize L.length = l at *
        generalize full N = F at *
        generalize (2 : Nat) ^ N = P at *
        go_enter Tryz.func24, Tryz.ntmps24
        go_wp2_with fail
        simp only [← hw1]
        clear hw1
        refine wp_region_held_drew (S := fun w' => Grew w1 w') (by kernel_rfl) r1d (fun hHeld => ?_)
        refine wpAnyH_take (i := 0) (oi := ?on1) (v := ?vn1) ?hin1 ?an1 ?bn1 ?cn1 ?qn1 (Or.inl ⟨?dn1, ?hyn1⟩) hHeld ?restn1
        case hin1 => (simp only [List.getElem?_toArray, List.getElem?_cons_zero]; exact rfl)
        case an1 => kernel_rfl
        case bn1 => kernel_rfl
        case cn1 => kernel_rfl
        case qn1 => exact fun _ _ _ h => h
        case dn1 => rfl
        case hyn1 => (intro z hSw; (try dsimp only at hSw); go_simp; (try with_reducible rfl))
        try simp only [Act.put, List.setIfInBounds_toArray, List.set_cons_zero, List.set_cons_succ]
        refine wpAnyH_take (i := 1) (oi := ?on2) (v := ?vn2) ?hin2 ?an2 ?bn2 ?cn2 ?qn2 (Or.inl ⟨?dn2, ?hyn2⟩) hHeld ?restn2
        case hin2 => (simp only [List.getElem?_toArray, List.getElem?_cons_succ, List.getElem?_cons_zero]; exact rfl)
        case an2 => kernel_rfl
        case bn2 => kernel_rfl
        case cn2 => kernel_rfl
        case qn2 => exact fun _ _ _ h => h
        case dn2 => rfl
        case hyn2 => (intro z hSw; (try dsimp only at hSw); go_simp; (try with_reducible rfl))
        try simp only [Act.put, List.setIfInBounds_toArray, List.set_cons_zero, List.set_cons_succ]
        refine wpAnyH_ready (rs := [2]) (by kernel_rfl) (by simp) ?_
        refine AllReadyH.cons (o := ?on3) ?hin3 ?restn3 AllReadyH.nil
        case hin3 => (simp only [List.getElem?_toArray, List.getElem?_cons_succ, List.getElem?_cons_zero]; exact rfl)
        intro K hK
        go_simp
        go_at_call 52
        refine (HI.out _).mono ?_
        rintro e w2 ⟨rfl, hgw2⟩
        have h2 : Grew w1 w2 := Grew.trans (by repeat (first | with_reducible assumption | with_reducible refine Grew.alloc ?_ _ | with_reducible refine Grew.drew ?_ | with_reducible refine Grew.drewN ?_ _)) hgw2
        refine hK.out _ _ ?_ (fun hHeld => ?_)
        · (try dsimp only); first | with_reducible assumption | exact Grew.alloc ‹_› _
        clear hK K
        try simp only [Act.put, List.setIfInBounds_toArray, List.set_cons_zero, List.set_cons_succ]
        refine wpAnyH_take (i := 3) (oi := ?on4) (v := ?vn4) ?hin4 ?an4 ?bn4 ?cn4 ?qn4 (Or.inl ⟨?dn4, ?hyn4⟩) hHeld ?restn4
        case hin4 => (simp only [List.getElem?_toArray, List.getElem?_cons_succ, List.getElem?_cons_zero]; exact rfl)
        case an4 => kernel_rfl
        case bn4 => kernel_rfl
        case cn4 => kernel_rfl
        case qn4 => exact fun _ _ _ h => h
        case dn4 => rfl
        case hyn4 => (intro z hSw; (try dsimp only at hSw); go_simp; (try with_reducible rfl))
        try simp only [Act.put, List.setIfInBounds_toArray, List.set_cons_zero, List.set_cons_succ]
        refine wpAnyH_take (i := 4) (oi := ?on5) (v := ?vn5) ?hin5 ?an5 ?bn5 ?cn5 ?qn5 (Or.inl ⟨?dn5, ?hyn5⟩) hHeld ?restn5
        case hin5 => (simp only [List.getElem?_toArray, List.getElem?_cons_succ, List.getElem?_cons_zero]; exact rfl)
        case an5 => kernel_rfl
        case bn5 => kernel_rfl
        case cn5 => kernel_rfl
        case qn5 => exact fun _ _ _ h => h
        case dn5 => rfl
        case hyn5 => (intro z hSw; (try dsimp only at hSw); go_simp; (try with_reducible rfl))
        try simp only [Act.put, List.setIfInBounds_toArray, List.set_cons_zero, List.set_cons_succ]
        refine wpAnyH_take (i := 5) (oi := ?on6) (v := ?vn6) ?hin6 ?an6 ?bn6 ?cn6 ?qn6 (Or.inl ⟨?dn6, ?hyn6⟩) hHeld ?restn6
        case hin6 => (simp only [List.getElem?_toArray, List.getElem?_cons_succ, List.getElem?_cons_zero]; exact rfl)
        case an6 => kernel_rfl
        case bn6 => kernel_rfl
        case cn6 => kernel_rfl
        case qn6 => exact fun _ _ _ h => h
        case dn6 => rfl
        case hyn6 => (intro z hSw; (try dsimp only at hSw); go_simp; (try with_reducible rfl))
        try simp only [Act.put, List.setIfInBounds_toArray, List.set_cons_zero, List.set_cons_succ]
        refine wpAnyH_take (i := 6) (oi := ?on7) (v := ?vn7) ?hin7 ?an7 ?bn7 ?cn7 ?qn7 (Or.inl ⟨?dn7, ?hyn7⟩) hHeld ?restn7
        case hin7 => (simp only [List.getElem?_toArray, List.getElem?_cons_succ, List.getElem?_cons_zero]; exact rfl)
        case an7 => kernel_rfl
        case bn7 => kernel_rfl
        case cn7 => kernel_rfl
        case qn7 => exact fun _ _ _ h => h
        case dn7 => rfl
        case hyn7 => (intro z hSw; (try dsimp only at hSw); go_simp; (try with_reducible rfl))
        try simp only [Act.put, List.setIfInBounds_toArray, List.set_cons_zero, List.set_cons_succ]
        refine wpAnyH_take (i := 8) (oi := ?on8) (v := ?vn8) ?hin8 ?an8 ?bn8 ?cn8 ?qn8 (Or.inl ⟨?dn8, ?hyn8⟩) hHeld ?restn8
        case hin8 => (simp only [List.getElem?_toArray, List.getElem?_cons_succ, List.getElem?_cons_zero]; exact rfl)
        case an8 => kernel_rfl
        case bn8 => kernel_rfl
        case cn8 => kernel_rfl
        case qn8 => exact fun _ _ _ h => h
        case dn8 => rfl
        case hyn8 => (intro z hSw; (try dsimp only at hSw); go_simp; (try with_reducible rfl))
        try simp only [Act.put, List.setIfInBounds_toArray, List.set_cons_zero, List.set_cons_succ]
        refine wpAnyH_ready (rs := [7]) (by kernel_rfl) (by simp) ?_
        refine AllReadyH.cons (o := ?on9) ?hin9 ?restn9 AllReadyH.nil
        case hin9 => (simp only [List.getElem?_toArray, List.getElem?_cons_succ, List.getElem?_cons_zero]; exact rfl)
        intro K hK
        go_simp
        go_at_call 29
        refine (HS.out _ (HG.out.trans h2)).mono ?_
        rintro e w3 ⟨rfl, hgw3⟩
        have h3 : Grew w1 w3 := h2.trans hgw3
        refine hK.out _ _ ?_ (fun hHeld => ?_)
        · (try dsimp only); first | with_reducible assumption | exact Grew.alloc ‹_› _
        clear hK K
        try simp only [Act.put, List.setIfInBounds_toArray, List.set_cons_zero, List.set_cons_succ]
        refine wpAnyH_ready (rs := [9]) (by kernel_rfl) (by simp) ?_
        refine AllReadyH.cons (o := ?on10) ?hin10 ?restn10 AllReadyH.nil
        case hin10 => (simp only [List.getElem?_toArray, List.getElem?_cons_succ, List.getElem?_cons_zero]; exact rfl)
        intro K hK
        go_simp
        go_at_call 30
        refine (HFU.out _).mono ?_
        rintro e w4 ⟨rfl, hgw4⟩
        have h4 : Grew w1 w4 := h3.trans hgw4
        refine hK.out _ _ ?_ (fun hHeld => ?_)
        · (try dsimp only); first | with_reducible assumption | exact Grew.alloc ‹_› _
        clear hK K
        try simp only [Act.put, List.setIfInBounds_toArray, List.set_cons_zero, List.set_cons_succ]
        refine wpAnyH_take (i := 10) (oi := ?on11) (v := ?vn11) ?hin11 ?an11 ?bn11 ?cn11 ?qn11 (Or.inl ⟨?dn11, ?hyn11⟩) hHeld ?restn11
        case hin11 => (simp only [List.getElem?_toArray, List.getElem?_cons_succ, List.getElem?_cons_zero]; exact rfl)
        case an11 => kernel_rfl
        case bn11 => kernel_rfl
        case cn11 => kernel_rfl
        case qn11 => exact fun _ _ _ h => h
        case dn11 => rfl
        case hyn11 => (intro z hSw; (try dsimp only at hSw); go_simp; (try with_reducible rfl))
        try simp only [Act.put, List.setIfInBounds_toArray, List.set_cons_zero, List.set_cons_succ]
        refine wpAnyH_take (i := 11) (oi := ?on12) (v := ?vn12) ?hin12 ?an12 ?bn12 ?cn12 ?qn12 (Or.inl ⟨?dn12, ?hyn12⟩) hHeld ?restn12
        case hin12 => (simp only [List.getElem?_toArray, List.getElem?_cons_succ, List.getElem?_cons_zero]; exact rfl)
        case an12 => kernel_rfl
        case bn12 => kernel_rfl
        case cn12 => kernel_rfl
        case qn12 => exact fun _ _ _ h => h
        case dn12 => rfl
        case hyn12 => (intro z hSw; (try dsimp only at hSw); go_simp; (try with_reducible rfl))
        try simp only [Act.put, List.setIfInBounds_toArray, List.set_cons_zero, List.set_cons_succ]
        refine wpAnyH_take (i := 12) (oi := ?on13) (v := ?vn13) ?hin13 ?an13 ?bn13 ?cn13 ?qn13 (Or.inl ⟨?dn13, ?hyn13⟩) hHeld ?restn13
        case hin13 => (simp only [List.getElem?_toArray, List.getElem?_cons_succ, List.getElem?_cons_zero]; exact rfl)
        case an13 => kernel_rfl
        case bn13 => kernel_rfl
        case cn13 => kernel_rfl
        case qn13 => exact fun _ _ _ h => h
        case dn13 => rfl
        case hyn13 => (intro z hSw; (try dsimp only at hSw); go_simp; (try with_reducible rfl))
        try simp only [Act.put, List.setIfInBounds_toArray, List.set_cons_zero, List.set_cons_succ]
        refine wpAnyH_take (i := 13) (oi := ?on14) (v := ?vn14) ?hin14 ?an14 ?bn14 ?cn14 ?qn14 (Or.inl ⟨?dn14, ?hyn14⟩) hHeld ?restn14
        case hin14 => (simp only [List.getElem?_toArray, List.getElem?_cons_succ, List.getElem?_cons_zero]; exact rfl)
        case an14 => kernel_rfl
        case bn14 => kernel_rfl
        case cn14 => kernel_rfl
        case qn14 => exact fun _ _ _ h => h
        case dn14 => rfl
        case hyn14 => (intro z hSw; (try dsimp only at hSw); go_simp; (try with_reducible rfl))
        try simp only [Act.put, List.setIfInBounds_toArray, List.set_cons_zero, List.set_cons_succ]
        refine wpAnyH_take (i := 14) (oi := ?on15) (v := ?vn15) ?hin15 ?an15 ?bn15 ?cn15 ?qn15 (Or.inl ⟨?dn15, ?hyn15⟩) hHeld ?restn15
        case hin15 => (simp only [List.getElem?_toArray, List.getElem?_cons_succ, List.getElem?_cons_zero]; exact rfl)
        case an15 => kernel_rfl
        case bn15 => kernel_rfl
        case cn15 => kernel_rfl
        case qn15 => exact fun _ _ _ h => h
        case dn15 => rfl
        case hyn15 => (intro z hSw; (try dsimp only at hSw); go_simp; (try with_reducible rfl))
        try simp only [Act.put, List.setIfInBounds_toArray, List.set_cons_zero, List.set_cons_succ]
        refine wpAnyH_take (i := 15) (oi := ?on16) (v := ?vn16) ?hin16 ?an16 ?bn16 ?cn16 ?qn16 (Or.inl ⟨?dn16, ?hyn16⟩) hHeld ?restn16
        case hin16 => (simp only [List.getElem?_toArray, List.getElem?_cons_succ, List.getElem?_cons_zero]; exact rfl)
        case an16 => kernel_rfl
        case bn16 => kernel_rfl
        case cn16 => kernel_rfl
        case qn16 => exact fun _ _ _ h => h
        case dn16 => rfl
        case hyn16 => (intro z hSw; (try dsimp only at hSw); go_simp; (try with_reducible rfl))
        try simp only [Act.put, List.setIfInBounds_toArray, List.set_cons_zero, List.set_cons_succ]
        refine wpAnyH_take (i := 16) (oi := ?on17) (v := ?vn17) ?hin17 ?an17 ?bn17 ?cn17 ?qn17 (Or.inl ⟨?dn17, ?hyn17⟩) hHeld ?restn17
        case hin17 => (simp only [List.getElem?_toArray, List.getElem?_cons_succ, List.getElem?_cons_zero]; exact rfl)
        case an17 => kernel_rfl
        case bn17 => kernel_rfl
        case cn17 => kernel_rfl
        case qn17 => exact fun _ _ _ h => h
        case dn17 => rfl
        case hyn17 => (intro z hSw; (try dsimp only at hSw); go_simp; (try with_reducible rfl))
        try simp only [Act.put, List.setIfInBounds_toArray, List.set_cons_zero, List.set_cons_succ]
        refine wpAnyH_ready (rs := [17]) (by kernel_rfl) (by simp) ?_
        refine AllReadyH.cons (o := ?on18) ?hin18 ?restn18 AllReadyH.nil
        case hin18 => (simp only [List.getElem?_toArray, List.getElem?_cons_succ, List.getElem?_cons_zero]; exact rfl)
        intro K hK
        go_simp
        go_at_call 53
        refine (HCF.out _ h4).mono ?_
        rintro e w5 ⟨rfl, hgw5⟩
        have h5 : Grew w1 w5 := h4.trans hgw5
        refine hK.out _ _ ?_ (fun hHeld => ?_)
        · (try dsimp only); first | with_reducible assumption | exact Grew.alloc ‹_› _
        clear hK K
        try simp only [Act.put, List.setIfInBounds_toArray, List.set_cons_zero, List.set_cons_succ]
        refine wpAnyH_take (i := 18) (oi := ?on19) (v := ?vn19) ?hin19 ?an19 ?bn19 ?cn19 ?qn19 (Or.inl ⟨?dn19, ?hyn19⟩) hHeld ?restn19
        case hin19 => (simp only [List.getElem?_toArray, List.getElem?_cons_succ, List.getElem?_cons_zero]; exact rfl)
        case an19 => kernel_rfl
        case bn19 => kernel_rfl
        case cn19 => kernel_rfl
        case qn19 => exact fun _ _ _ h => h
        case dn19 => rfl
        case hyn19 => (intro z hSw; (try dsimp only at hSw); go_simp; (try with_reducible rfl))
        try simp only [Act.put, List.setIfInBounds_toArray, List.set_cons_zero, List.set_cons_succ]
        refine wpAnyH_done (by kernel_rfl) ?_ _
        go_wp2_with fail
        go_ret
        exact ⟨rfl, HG.out.trans h5⟩
      | true =>
        rw [h3] at HCF
        rw [Bool.true_and]
        obtain ⟨hz, hlt⟩ := nats_ok h3
        have hln : L.length = 2 ^ N := by omega
        have hit : ∀ i, it L i = ((nt (nats L) i : Nat) : Int) := fun i => by rw [← hz, nats_zs9, it_zs9]
        have hnl : (nats L).length = L.length := nats_len L
        rcases h.open_ with ⟨_, h0⟩ | ⟨b, o, c, rfl, hc, hm, hb, hf⟩
        · rw [h0] at hln; simp at hln; omega
        have hcell : ∀ i, i < 2 ^ N → ∀ W, Grew w1 W → W.cell? ⟨b, o + i, none⟩ = some (.int .i64 ((nt (nats L) i : Nat) : Int)) := fun i hi W hW => by rw [← hit]; exact hf i (by omega) W (HG.out.trans hW)
        have hsm : ∀ i, nt (nats L) i < 32 := fun i => by
          by_cases hi : i < (nats L).length
          · exact Nat.lt_of_lt_of_le (hlt _ (nt_mem hi)) hp32
          · unfold nt
            rw [List.getD_eq_getElem?_getD, List.getElem?_eq_none (by omega)]
            decide
        have HME : Hid ((∀ x y, y < x → x < 2 ^ N → nt (nats L) (x &&& y) = nt (nats L) x &&& nt (nats L) y) → meetB (nats L) = true) := Lib.hid (fun h => allB_iff.2 fun x hx => allB_iff.2 fun y hy => decide_eq_true (h x y hy (by omega)))
        have HMF : Hid (∀ x y, y < x → x < 2 ^ N → nt (nats L) (x &&& y) ≠ nt (nats L) x &&& nt (nats L) y → meetB (nats L) = false) := Lib.hid (fun x y hy hx hne => by
          cases hmb : meetB (nats L) with
          | false => rfl
          | true => exact absurd (of_decide_eq_true (allB_iff.1 (allB_iff.1 hmb x (by omega)) y hy)) hne)
        have HAL := Lib.hid (fun x y (hx : x < 2 ^ N) => (and_lt (y := y) hx : x &&& y < 2 ^ N))
        have HC := Lib.hid hcell
        have hfl : full N < 2 ^ N := full_lt N
        rw [hln] at hc hw1 HS y1 HCF HFU ⊢
        clear h hf hit hcell hz hlt h3 hvs hln hnl h2 hfe hw9
        generalize meetB (nats L) = MB at *
        generalize nats L = B at *
        generalize full N = F at *
        generalize hP : (2 : Nat) ^ N = P at *
        have hw9 : IntKind.i64.wrap ((F : Int) + 1) = (P : Int) := HW9.out
        clear hP
        go_enter Tryz.func24, Tryz.ntmps24
        go_wp2_with fail
        simp only [← hw1]
        clear hw1
        refine wp_region_held_drew (S := fun w' => Grew w1 w') (by kernel_rfl) r1d (fun hHeld => ?_)
        refine wpAnyH_take (i := 0) (oi := ?on20) (v := ?vn20) ?hin20 ?an20 ?bn20 ?cn20 ?qn20 (Or.inl ⟨?dn20, ?hyn20⟩) hHeld ?restn20
        case hin20 => (simp only [List.getElem?_toArray, List.getElem?_cons_zero]; exact rfl)
        case an20 => kernel_rfl
        case bn20 => kernel_rfl
        case cn20 => kernel_rfl
        case qn20 => exact fun _ _ _ h => h
        case dn20 => rfl
        case hyn20 => (intro z hSw; (try dsimp only at hSw); go_simp; (try with_reducible rfl))
        try simp only [Act.put, List.setIfInBounds_toArray, List.set_cons_zero, List.set_cons_succ]
        refine wpAnyH_take (i := 1) (oi := ?on21) (v := ?vn21) ?hin21 ?an21 ?bn21 ?cn21 ?qn21 (Or.inl ⟨?dn21, ?hyn21⟩) hHeld ?restn21
        case hin21 => (simp only [List.getElem?_toArray, List.getElem?_cons_succ, List.getElem?_cons_zero]; exact rfl)
        case an21 => kernel_rfl
        case bn21 => kernel_rfl
        case cn21 => kernel_rfl
        case qn21 => exact fun _ _ _ h => h
        case dn21 => rfl
        case hyn21 => (intro z hSw; (try dsimp only at hSw); go_simp; (try with_reducible rfl))
        try simp only [Act.put, List.setIfInBounds_toArray, List.set_cons_zero, List.set_cons_succ]
        refine wpAnyH_ready (rs := [2]) (by kernel_rfl) (by simp) ?_
        refine AllReadyH.cons (o := ?on22) ?hin22 ?restn22 AllReadyH.nil
        case hin22 => (simp only [List.getElem?_toArray, List.getElem?_cons_succ, List.getElem?_cons_zero]; exact rfl)
        intro K hK
        go_simp
        go_at_call 52
        refine (HI.out _).mono ?_
        rintro e w2 ⟨rfl, hgw2⟩
        have h2 : Grew w1 w2 := Grew.trans (by repeat (first | with_reducible assumption | with_reducible refine Grew.alloc ?_ _ | with_reducible refine Grew.drew ?_ | with_reducible refine Grew.drewN ?_ _)) hgw2
        refine hK.out _ _ ?_ (fun hHeld => ?_)
        · (try dsimp only); first | with_reducible assumption | exact Grew.alloc ‹_› _
        clear hK K
        try simp only [Act.put, List.setIfInBounds_toArray, List.set_cons_zero, List.set_cons_succ]
        refine wpAnyH_take (i := 3) (oi := ?on23) (v := ?vn23) ?hin23 ?an23 ?bn23 ?cn23 ?qn23 (Or.inl ⟨?dn23, ?hyn23⟩) hHeld ?restn23
        case hin23 => (simp only [List.getElem?_toArray, List.getElem?_cons_succ, List.getElem?_cons_zero]; exact rfl)
        case an23 => kernel_rfl
        case bn23 => kernel_rfl
        case cn23 => kernel_rfl
        case qn23 => exact fun _ _ _ h => h
        case dn23 => rfl
        case hyn23 => (intro z hSw; (try dsimp only at hSw); go_simp; (try with_reducible rfl))
        try simp only [Act.put, List.setIfInBounds_toArray, List.set_cons_zero, List.set_cons_succ]
        refine wpAnyH_take (i := 4) (oi := ?on24) (v := ?vn24) ?hin24 ?an24 ?bn24 ?cn24 ?qn24 (Or.inl ⟨?dn24, ?hyn24⟩) hHeld ?restn24
        case hin24 => (simp only [List.getElem?_toArray, List.getElem?_cons_succ, List.getElem?_cons_zero]; exact rfl)
        case an24 => kernel_rfl
        case bn24 => kernel_rfl
        case cn24 => kernel_rfl
        case qn24 => exact fun _ _ _ h => h
        case dn24 => rfl
        case hyn24 => (intro z hSw; (try dsimp only at hSw); go_simp; (try with_reducible rfl))
        try simp only [Act.put, List.setIfInBounds_toArray, List.set_cons_zero, List.set_cons_succ]
        refine wpAnyH_take (i := 5) (oi := ?on25) (v := ?vn25) ?hin25 ?an25 ?bn25 ?cn25 ?qn25 (Or.inl ⟨?dn25, ?hyn25⟩) hHeld ?restn25
        case hin25 => (simp only [List.getElem?_toArray, List.getElem?_cons_succ, List.getElem?_cons_zero]; exact rfl)
        case an25 => kernel_rfl
        case bn25 => kernel_rfl
        case cn25 => kernel_rfl
        case qn25 => exact fun _ _ _ h => h
        case dn25 => rfl
        case hyn25 => (intro z hSw; (try dsimp only at hSw); go_simp; (try with_reducible rfl))
        try simp only [Act.put, List.setIfInBounds_toArray, List.set_cons_zero, List.set_cons_succ]
        refine wpAnyH_take (i := 6) (oi := ?on26) (v := ?vn26) ?hin26 ?an26 ?bn26 ?cn26 ?qn26 (Or.inl ⟨?dn26, ?hyn26⟩) hHeld ?restn26
        case hin26 => (simp only [List.getElem?_toArray, List.getElem?_cons_succ, List.getElem?_cons_zero]; exact rfl)
        case an26 => kernel_rfl
        case bn26 => kernel_rfl
        case cn26 => kernel_rfl
        case qn26 => exact fun _ _ _ h => h
        case dn26 => rfl
        case hyn26 => (intro z hSw; (try dsimp only at hSw); go_simp; (try with_reducible rfl))
        try simp only [Act.put, List.setIfInBounds_toArray, List.set_cons_zero, List.set_cons_succ]
        refine wpAnyH_take (i := 8) (oi := ?on27) (v := ?vn27) ?hin27 ?an27 ?bn27 ?cn27 ?qn27 (Or.inl ⟨?dn27, ?hyn27⟩) hHeld ?restn27
        case hin27 => (simp only [List.getElem?_toArray, List.getElem?_cons_succ, List.getElem?_cons_zero]; exact rfl)
        case an27 => kernel_rfl
        case bn27 => kernel_rfl
        case cn27 => kernel_rfl
        case qn27 => exact fun _ _ _ h => h
        case dn27 => rfl
        case hyn27 => (intro z hSw; (try dsimp only at hSw); go_simp; (try with_reducible rfl))
        try simp only [Act.put, List.setIfInBounds_toArray, List.set_cons_zero, List.set_cons_succ]
        refine wpAnyH_ready (rs := [7]) (by kernel_rfl) (by simp) ?_
        refine AllReadyH.cons (o := ?on28) ?hin28 ?restn28 AllReadyH.nil
        case hin28 => (simp only [List.getElem?_toArray, List.getElem?_cons_succ, List.getElem?_cons_zero]; exact rfl)
        intro K hK
        go_simp
        go_at_call 29
        refine (HS.out _ (HG.out.trans h2)).mono ?_
        rintro e w3 ⟨rfl, hgw3⟩
        have h3 : Grew w1 w3 := h2.trans hgw3
        refine hK.out _ _ ?_ (fun hHeld => ?_)
        · (try dsimp only); first | with_reducible assumption | exact Grew.alloc ‹_› _
        clear hK K
        try simp only [Act.put, List.setIfInBounds_toArray, List.set_cons_zero, List.set_cons_succ]
        refine wpAnyH_ready (rs := [9]) (by kernel_rfl) (by simp) ?_
        refine AllReadyH.cons (o := ?on29) ?hin29 ?restn29 AllReadyH.nil
        case hin29 => (simp only [List.getElem?_toArray, List.getElem?_cons_succ, List.getElem?_cons_zero]; exact rfl)
        intro K hK
        go_simp
        go_at_call 30
        refine (HFU.out _).mono ?_
        rintro e w4 ⟨rfl, hgw4⟩
        have h4 : Grew w1 w4 := h3.trans hgw4
        refine hK.out _ _ ?_ (fun hHeld => ?_)
        · (try dsimp only); first | with_reducible assumption | exact Grew.alloc ‹_› _
        clear hK K
        try simp only [Act.put, List.setIfInBounds_toArray, List.set_cons_zero, List.set_cons_succ]
        refine wpAnyH_take (i := 10) (oi := ?on30) (v := ?vn30) ?hin30 ?an30 ?bn30 ?cn30 ?qn30 (Or.inl ⟨?dn30, ?hyn30⟩) hHeld ?restn30
        case hin30 => (simp only [List.getElem?_toArray, List.getElem?_cons_succ, List.getElem?_cons_zero]; exact rfl)
        case an30 => kernel_rfl
        case bn30 => kernel_rfl
        case cn30 => kernel_rfl
        case qn30 => exact fun _ _ _ h => h
        case dn30 => rfl
        case hyn30 => (intro z hSw; (try dsimp only at hSw); go_simp; (try with_reducible rfl))
        try simp only [Act.put, List.setIfInBounds_toArray, List.set_cons_zero, List.set_cons_succ]
        refine wpAnyH_take (i := 11) (oi := ?on31) (v := ?vn31) ?hin31 ?an31 ?bn31 ?cn31 ?qn31 (Or.inl ⟨?dn31, ?hyn31⟩) hHeld ?restn31
        case hin31 => (simp only [List.getElem?_toArray, List.getElem?_cons_succ, List.getElem?_cons_zero]; exact rfl)
        case an31 => kernel_rfl
        case bn31 => kernel_rfl
        case cn31 => kernel_rfl
        case qn31 => exact fun _ _ _ h => h
        case dn31 => rfl
        case hyn31 => (intro z hSw; (try dsimp only at hSw); go_simp; (try with_reducible rfl))
        try simp only [Act.put, List.setIfInBounds_toArray, List.set_cons_zero, List.set_cons_succ]
        refine wpAnyH_take (i := 12) (oi := ?on32) (v := ?vn32) ?hin32 ?an32 ?bn32 ?cn32 ?qn32 (Or.inl ⟨?dn32, ?hyn32⟩) hHeld ?restn32
        case hin32 => (simp only [List.getElem?_toArray, List.getElem?_cons_succ, List.getElem?_cons_zero]; exact rfl)
        case an32 => kernel_rfl
        case bn32 => kernel_rfl
        case cn32 => kernel_rfl
        case qn32 => exact fun _ _ _ h => h
        case dn32 => rfl
        case hyn32 => (intro z hSw; (try dsimp only at hSw); go_simp; (try with_reducible rfl))
        try simp only [Act.put, List.setIfInBounds_toArray, List.set_cons_zero, List.set_cons_succ]
        refine wpAnyH_take (i := 13) (oi := ?on33) (v := ?vn33) ?hin33 ?an33 ?bn33 ?cn33 ?qn33 (Or.inl ⟨?dn33, ?hyn33⟩) hHeld ?restn33
        case hin33 => (simp only [List.getElem?_toArray, List.getElem?_cons_succ, List.getElem?_cons_zero]; exact rfl)
        case an33 => kernel_rfl
        case bn33 => kernel_rfl
        case cn33 => kernel_rfl
        case qn33 => exact fun _ _ _ h => h
        case dn33 => rfl
        case hyn33 => (intro z hSw; (try dsimp only at hSw); go_simp; (try with_reducible rfl))
        try simp only [Act.put, List.setIfInBounds_toArray, List.set_cons_zero, List.set_cons_succ]
        refine wpAnyH_take (i := 14) (oi := ?on34) (v := ?vn34) ?hin34 ?an34 ?bn34 ?cn34 ?qn34 (Or.inl ⟨?dn34, ?hyn34⟩) hHeld ?restn34
        case hin34 => (simp only [List.getElem?_toArray, List.getElem?_cons_succ, List.getElem?_cons_zero]; exact rfl)
        case an34 => kernel_rfl
        case bn34 => kernel_rfl
        case cn34 => kernel_rfl
        case qn34 => exact fun _ _ _ h => h
        case dn34 => rfl
        case hyn34 => (intro z hSw; (try dsimp only at hSw); go_simp; (try with_reducible rfl))
        try simp only [Act.put, List.setIfInBounds_toArray, List.set_cons_zero, List.set_cons_succ]
        refine wpAnyH_take (i := 15) (oi := ?on35) (v := ?vn35) ?hin35 ?an35 ?bn35 ?cn35 ?qn35 (Or.inl ⟨?dn35, ?hyn35⟩) hHeld ?restn35
        case hin35 => (simp only [List.getElem?_toArray, List.getElem?_cons_succ, List.getElem?_cons_zero]; exact rfl)
        case an35 => kernel_rfl
        case bn35 => kernel_rfl
        case cn35 => kernel_rfl
        case qn35 => exact fun _ _ _ h => h
        case dn35 => rfl
        case hyn35 => (intro z hSw; (try dsimp only at hSw); go_simp; (try with_reducible rfl))
        try simp only [Act.put, List.setIfInBounds_toArray, List.set_cons_zero, List.set_cons_succ]
        refine wpAnyH_take (i := 16) (oi := ?on36) (v := ?vn36) ?hin36 ?an36 ?bn36 ?cn36 ?qn36 (Or.inl ⟨?dn36, ?hyn36⟩) hHeld ?restn36
        case hin36 => (simp only [List.getElem?_toArray, List.getElem?_cons_succ, List.getElem?_cons_zero]; exact rfl)
        case an36 => kernel_rfl
        case bn36 => kernel_rfl
        case cn36 => kernel_rfl
        case qn36 => exact fun _ _ _ h => h
        case dn36 => rfl
        case hyn36 => (intro z hSw; (try dsimp only at hSw); go_simp; (try with_reducible rfl))
        try simp only [Act.put, List.setIfInBounds_toArray, List.set_cons_zero, List.set_cons_succ]
        refine wpAnyH_ready (rs := [17]) (by kernel_rfl) (by simp) ?_
        refine AllReadyH.cons (o := ?on37) ?hin37 ?restn37 AllReadyH.nil
        case hin37 => (simp only [List.getElem?_toArray, List.getElem?_cons_succ, List.getElem?_cons_zero]; exact rfl)
        intro K hK
        go_simp
        go_at_call 53
        refine (HCF.out _ h4).mono ?_
        rintro e w5 ⟨rfl, hgw5⟩
        have h5 : Grew w1 w5 := h4.trans hgw5
        refine hK.out _ _ ?_ (fun hHeld => ?_)
        · (try dsimp only); first | with_reducible assumption | exact Grew.alloc ‹_› _
        clear hK K
        try simp only [Act.put, List.setIfInBounds_toArray, List.set_cons_zero, List.set_cons_succ]
        refine wpAnyH_take (i := 18) (oi := ?on38) (v := ?vn38) ?hin38 ?an38 ?bn38 ?cn38 ?qn38 (Or.inl ⟨?dn38, ?hyn38⟩) hHeld ?restn38
        case hin38 => (simp only [List.getElem?_toArray, List.getElem?_cons_succ, List.getElem?_cons_zero]; exact rfl)
        case an38 => kernel_rfl
        case bn38 => kernel_rfl
        case cn38 => kernel_rfl
        case qn38 => exact fun _ _ _ h => h
        case dn38 => rfl
        case hyn38 => (intro z hSw; (try dsimp only at hSw); go_simp; (try with_reducible rfl))
        try simp only [Act.put, List.setIfInBounds_toArray, List.set_cons_zero, List.set_cons_succ]
        refine wpAnyH_done (by kernel_rfl) ?_ _
        go_wp2_with fail
        go_loopw [27] (fun i wr => ∃ x : Nat, x ≤ P ∧ i = .int .i64 (x : Int) ∧ Grew w1 wr ∧ Hid (∀ a b, b < a → a < x → nt B (a &&& b) = nt B a &&& nt B b)) (fun i _ => P - (intOf i).toNat)
        case atStart => exact ⟨0, by omega, rfl, h5, Lib.hid (fun a b _ ha => absurd ha (by omega))⟩
        case round =>
          obtain ⟨x, hx, rfl, hB, HI2⟩ := hrel
          by_cases hxl : x < P
          · generalize wr = wk at *
            go_wp2_with fail
            go_loopw [31] (fun i wr => ∃ y : Nat, y ≤ x ∧ i = .int .i64 (y : Int) ∧ Grew w1 wr ∧ Hid (∀ b, b < y → nt B (x &&& b) = nt B x &&& nt B b)) (fun i _ => x - (intOf i).toNat)
            case atStart => exact ⟨0, by omega, rfl, hB, Lib.hid (fun b hb => absurd hb (by omega))⟩
            case round =>
              obtain ⟨y, hy, rfl, hB2, HI3⟩ := hrel
              by_cases hyl : y < x
              · have ha := and_i64 x y (by omega) (by omega)
                have hal := HAL.out x y hxl
                have c1 := HC.out (x &&& y) hal
                have c2 := HC.out x hxl
                have c3 := HC.out y (by omega)
                have hb := and_i64 (nt B x) (nt B y) (by have := hsm x; omega) (by have := hsm y; omega)
                have z1 : (0 : Int) ≤ ((x &&& y : Nat) : Int) := Int.natCast_nonneg _
                have z2 : ((x &&& y : Nat) : Int) < (P : Int) := Int.ofNat_lt.2 hal
                have HNX := Lib.hid (HI3.out)
                have HMX := Lib.hid (HMF.out x y hyl hxl)
                by_cases he : nt B (x &&& y) = nt B x &&& nt B y
                · have HI4 : Hid (∀ b, b < y + 1 → nt B (x &&& b) = nt B x &&& nt B b) := Lib.hid (fun b hb => by
                    by_cases hby : b = y
                    · subst hby; exact he
                    · exact HI3.out b (by omega))
                  rw [he] at c1
                  clear he HMX
                  generalize nt B x &&& nt B y = m at *
                  generalize nt B x = bx1 at *
                  generalize nt B y = by1 at *
                  generalize x &&& y = z at *
                  have hq3 : ((m : Int) != (m : Int)) = false := by simp
                  go_wp2_with fail
                  go_quiet (fail)
                  go_wp2_with fail
                  go_roundw
                  case rel => exact ⟨y + 1, by omega, by go_num, hB2.drewN _, HI4⟩
                  case measure => simp [intOf]; omega
                · have hmf := Lib.hid (HMX.out he)
                  have hq3 : (((nt B (x &&& y) : Nat) : Int) != ((nt B x &&& nt B y : Nat) : Int)) = true := by rw [bne_iff_ne]; omega
                  clear he HMX
                  generalize nt B x &&& nt B y = m at *
                  generalize nt B (x &&& y) = m2 at *
                  generalize nt B x = bx1 at *
                  generalize nt B y = by1 at *
                  generalize x &&& y = z at *
                  go_wp2_with fail
                  go_quiet (fail)
                  go_wp2_with fail
                  go_ret
                  rw [hmf.out]
                  exact ⟨rfl, HG.out.trans (hB2.drewN _)⟩
              · obtain rfl : y = x := by omega
                have HI4 : Hid (∀ a b, b < a → a < y + 1 → nt B (a &&& b) = nt B a &&& nt B b) := Lib.hid (fun a b hb ha => by
                  by_cases hay : a = y
                  · subst hay; exact HI3.out b hb
                  · exact HI2.out a b hb (by omega))
                go_wp2_with fail
                go_roundw
                case rel => exact ⟨y + 1, by omega, by go_num, hB2, HI4⟩
                case measure => simp [intOf]; omega
          · obtain rfl : x = P := by omega
            have hmt := Lib.hid (HME.out (fun a b hb ha => HI2.out a b hb ha))
            have c1 := HC.out F hfl
            have z1 : (0 : Int) ≤ (F : Int) := Int.natCast_nonneg _
            have z2 : (F : Int) < (x : Int) := Int.ofNat_lt.2 hfl
            have hBd := hB.drew
            cases he : decide (nt B F = F) with
            | true =>
              have he2 := of_decide_eq_true he
              rw [he2] at c1
              have hq3 : ((F : Int) == (F : Int)) = true := by simp
              have HE9 := Lib.hid he
              clear he he2
              go_wp2_with fail
              refine wp_region_held_drew (S := fun w' => Grew w1 w') (by kernel_rfl) hBd (fun hHeld => ?_)
              refine wpAnyH_take (i := 0) (oi := ?on39) (v := ?vn39) ?hin39 ?an39 ?bn39 ?cn39 ?qn39 (Or.inl ⟨?dn39, ?hyn39⟩) hHeld ?restn39
              case hin39 => (simp only [List.getElem?_toArray, List.getElem?_cons_zero]; exact rfl)
              case an39 => kernel_rfl
              case bn39 => kernel_rfl
              case cn39 => kernel_rfl
              case qn39 => exact fun _ _ _ h => h
              case dn39 => rfl
              case hyn39 => (intro z hSw; (try dsimp only at hSw); go_simp; (try with_reducible rfl))
              try simp only [Act.put, List.setIfInBounds_toArray, List.set_cons_zero, List.set_cons_succ]
              refine wpAnyH_take (i := 1) (oi := ?on40) (v := ?vn40) ?hin40 ?an40 ?bn40 ?cn40 ?qn40 (Or.inl ⟨?dn40, ?hyn40⟩) hHeld ?restn40
              case hin40 => (simp only [List.getElem?_toArray, List.getElem?_cons_succ, List.getElem?_cons_zero]; exact rfl)
              case an40 => kernel_rfl
              case bn40 => kernel_rfl
              case cn40 => kernel_rfl
              case qn40 => exact fun _ _ _ h => h
              case dn40 => rfl
              case hyn40 => (intro z hSw; (try dsimp only at hSw); go_simp; (try with_reducible rfl))
              try simp only [Act.put, List.setIfInBounds_toArray, List.set_cons_zero, List.set_cons_succ]
              refine wpAnyH_take (i := 2) (oi := ?on41) (v := ?vn41) ?hin41 ?an41 ?bn41 ?cn41 ?qn41 (Or.inl ⟨?dn41, ?hyn41⟩) hHeld ?restn41
              case hin41 => (simp only [List.getElem?_toArray, List.getElem?_cons_succ, List.getElem?_cons_zero]; exact rfl)
              case an41 => kernel_rfl
              case bn41 => kernel_rfl
              case cn41 => kernel_rfl
              case qn41 => exact fun _ _ _ h => h
              case dn41 => rfl
              case hyn41 => (intro z hSw; (try dsimp only at hSw); go_simp; (try with_reducible rfl))
              try simp only [Act.put, List.setIfInBounds_toArray, List.set_cons_zero, List.set_cons_succ]
              refine wpAnyH_take (i := 6) (oi := ?on42) (v := ?vn42) ?hin42 ?an42 ?bn42 ?cn42 ?qn42 (Or.inl ⟨?dn42, ?hyn42⟩) hHeld ?restn42
              case hin42 => (simp only [List.getElem?_toArray, List.getElem?_cons_succ, List.getElem?_cons_zero]; exact rfl)
              case an42 => kernel_rfl
              case bn42 => kernel_rfl
              case cn42 => kernel_rfl
              case qn42 => exact fun _ _ _ h => h
              case dn42 => rfl
              case hyn42 => (intro z hSw; (try dsimp only at hSw); go_simp; (try with_reducible rfl))
              try simp only [Act.put, List.setIfInBounds_toArray, List.set_cons_zero, List.set_cons_succ]
              refine wpAnyH_ready (rs := [3]) (by kernel_rfl) (by simp) ?_
              refine AllReadyH.cons (o := ?on43) ?hin43 ?restn43 AllReadyH.nil
              case hin43 => (simp only [List.getElem?_toArray, List.getElem?_cons_succ, List.getElem?_cons_zero]; exact rfl)
              intro K hK
              go_simp
              go_at_call 30
              refine (HFU.out _).mono ?_
              rintro e w6 ⟨rfl, hgw6⟩
              have h6 : Grew w1 w6 := Grew.trans (by repeat (first | with_reducible assumption | with_reducible refine Grew.alloc ?_ _ | with_reducible refine Grew.drew ?_ | with_reducible refine Grew.drewN ?_ _)) hgw6
              refine hK.out _ _ ?_ (fun hHeld => ?_)
              · (try dsimp only); first | with_reducible assumption | exact Grew.alloc ‹_› _
              clear hK K
              try simp only [Act.put, List.setIfInBounds_toArray, List.set_cons_zero, List.set_cons_succ]
              refine wpAnyH_take (i := 4) (oi := ?on44) (v := ?vn44) ?hin44 ?an44 ?bn44 ?cn44 ?qn44 (Or.inl ⟨?dn44, ?hyn44⟩) hHeld ?restn44
              case hin44 => (simp only [List.getElem?_toArray, List.getElem?_cons_succ, List.getElem?_cons_zero]; exact rfl)
              case an44 => kernel_rfl
              case bn44 => kernel_rfl
              case cn44 => kernel_rfl
              case qn44 => exact fun _ _ _ h => h
              case dn44 => rfl
              case hyn44 => (intro z hSw; (try dsimp only at hSw); go_simp; (try with_reducible rfl))
              try simp only [Act.put, List.setIfInBounds_toArray, List.set_cons_zero, List.set_cons_succ]
              refine wpAnyH_take (i := 5) (oi := ?on45) (v := ?vn45) ?hin45 ?an45 ?bn45 ?cn45 ?qn45 (Or.inl ⟨?dn45, ?hyn45⟩) hHeld ?restn45
              case hin45 => (simp only [List.getElem?_toArray, List.getElem?_cons_succ, List.getElem?_cons_zero]; exact rfl)
              case an45 => kernel_rfl
              case bn45 => kernel_rfl
              case cn45 => kernel_rfl
              case qn45 => exact fun _ _ _ h => h
              case dn45 => rfl
              case hyn45 => (intro z hSw; (try dsimp only at hSw); go_simp; (try with_reducible rfl))
              try simp only [Act.put, List.setIfInBounds_toArray, List.set_cons_zero, List.set_cons_succ]
              refine wpAnyH_ready (rs := [7]) (by kernel_rfl) (by simp) ?_
              refine AllReadyH.cons (o := ?on46) ?hin46 ?restn46 AllReadyH.nil
              case hin46 => (simp only [List.getElem?_toArray, List.getElem?_cons_succ, List.getElem?_cons_zero]; exact rfl)
              intro K hK
              go_simp
              go_at_call 30
              refine (HFU.out _).mono ?_
              rintro e w7 ⟨rfl, hgw7⟩
              have h7 : Grew w1 w7 := h6.trans hgw7
              refine hK.out _ _ ?_ (fun hHeld => ?_)
              · (try dsimp only); first | with_reducible assumption | exact Grew.alloc ‹_› _
              clear hK K
              try simp only [Act.put, List.setIfInBounds_toArray, List.set_cons_zero, List.set_cons_succ]
              refine wpAnyH_take (i := 8) (oi := ?on47) (v := ?vn47) ?hin47 ?an47 ?bn47 ?cn47 ?qn47 (Or.inl ⟨?dn47, ?hyn47⟩) hHeld ?restn47
              case hin47 => (simp only [List.getElem?_toArray, List.getElem?_cons_succ, List.getElem?_cons_zero]; exact rfl)
              case an47 => kernel_rfl
              case bn47 => kernel_rfl
              case cn47 => kernel_rfl
              case qn47 => exact fun _ _ _ h => h
              case dn47 => rfl
              case hyn47 => (intro z hSw; (try dsimp only at hSw); go_simp; (try with_reducible rfl))
              try simp only [Act.put, List.setIfInBounds_toArray, List.set_cons_zero, List.set_cons_succ]
              refine wpAnyH_take (i := 9) (oi := ?on48) (v := ?vn48) ?hin48 ?an48 ?bn48 ?cn48 ?qn48 (Or.inl ⟨?dn48, ?hyn48⟩) hHeld ?restn48
              case hin48 => (simp only [List.getElem?_toArray, List.getElem?_cons_succ, List.getElem?_cons_zero]; exact rfl)
              case an48 => kernel_rfl
              case bn48 => kernel_rfl
              case cn48 => kernel_rfl
              case qn48 => exact fun _ _ _ h => h
              case dn48 => rfl
              case hyn48 => (intro z hSw; (try dsimp only at hSw); go_simp; (try with_reducible rfl))
              try simp only [Act.put, List.setIfInBounds_toArray, List.set_cons_zero, List.set_cons_succ]
              refine wpAnyH_done (by kernel_rfl) ?_ _
              go_wp2_with fail
              go_ret
              rw [hmt.out, HE9.out]
              exact ⟨rfl, HG.out.trans h7⟩
            | false =>
              have he2 := of_decide_eq_false he
              have hq3 : (((nt B F : Nat) : Int) == (F : Int)) = false := by rw [beq_eq_false_iff_ne]; omega
              have HE9 := Lib.hid he
              clear he he2
              go_wp2_with fail
              refine wp_region_held_drew (S := fun w' => Grew w1 w') (by kernel_rfl) hBd (fun hHeld => ?_)
              refine wpAnyH_take (i := 0) (oi := ?on49) (v := ?vn49) ?hin49 ?an49 ?bn49 ?cn49 ?qn49 (Or.inl ⟨?dn49, ?hyn49⟩) hHeld ?restn49
              case hin49 => (simp only [List.getElem?_toArray, List.getElem?_cons_zero]; exact rfl)
              case an49 => kernel_rfl
              case bn49 => kernel_rfl
              case cn49 => kernel_rfl
              case qn49 => exact fun _ _ _ h => h
              case dn49 => rfl
              case hyn49 => (intro z hSw; (try dsimp only at hSw); go_simp; (try with_reducible rfl))
              try simp only [Act.put, List.setIfInBounds_toArray, List.set_cons_zero, List.set_cons_succ]
              refine wpAnyH_take (i := 1) (oi := ?on50) (v := ?vn50) ?hin50 ?an50 ?bn50 ?cn50 ?qn50 (Or.inl ⟨?dn50, ?hyn50⟩) hHeld ?restn50
              case hin50 => (simp only [List.getElem?_toArray, List.getElem?_cons_succ, List.getElem?_cons_zero]; exact rfl)
              case an50 => kernel_rfl
              case bn50 => kernel_rfl
              case cn50 => kernel_rfl
              case qn50 => exact fun _ _ _ h => h
              case dn50 => rfl
              case hyn50 => (intro z hSw; (try dsimp only at hSw); go_simp; (try with_reducible rfl))
              try simp only [Act.put, List.setIfInBounds_toArray, List.set_cons_zero, List.set_cons_succ]
              refine wpAnyH_take (i := 2) (oi := ?on51) (v := ?vn51) ?hin51 ?an51 ?bn51 ?cn51 ?qn51 (Or.inl ⟨?dn51, ?hyn51⟩) hHeld ?restn51
              case hin51 => (simp only [List.getElem?_toArray, List.getElem?_cons_succ, List.getElem?_cons_zero]; exact rfl)
              case an51 => kernel_rfl
              case bn51 => kernel_rfl
              case cn51 => kernel_rfl
              case qn51 => exact fun _ _ _ h => h
              case dn51 => rfl
              case hyn51 => (intro z hSw; (try dsimp only at hSw); go_simp; (try with_reducible rfl))
              try simp only [Act.put, List.setIfInBounds_toArray, List.set_cons_zero, List.set_cons_succ]
              refine wpAnyH_take (i := 6) (oi := ?on52) (v := ?vn52) ?hin52 ?an52 ?bn52 ?cn52 ?qn52 (Or.inl ⟨?dn52, ?hyn52⟩) hHeld ?restn52
              case hin52 => (simp only [List.getElem?_toArray, List.getElem?_cons_succ, List.getElem?_cons_zero]; exact rfl)
              case an52 => kernel_rfl
              case bn52 => kernel_rfl
              case cn52 => kernel_rfl
              case qn52 => exact fun _ _ _ h => h
              case dn52 => rfl
              case hyn52 => (intro z hSw; (try dsimp only at hSw); go_simp; (try with_reducible rfl))
              try simp only [Act.put, List.setIfInBounds_toArray, List.set_cons_zero, List.set_cons_succ]
              refine wpAnyH_ready (rs := [3]) (by kernel_rfl) (by simp) ?_
              refine AllReadyH.cons (o := ?on53) ?hin53 ?restn53 AllReadyH.nil
              case hin53 => (simp only [List.getElem?_toArray, List.getElem?_cons_succ, List.getElem?_cons_zero]; exact rfl)
              intro K hK
              go_simp
              go_at_call 30
              refine (HFU.out _).mono ?_
              rintro e w6 ⟨rfl, hgw6⟩
              have h6 : Grew w1 w6 := Grew.trans (by repeat (first | with_reducible assumption | with_reducible refine Grew.alloc ?_ _ | with_reducible refine Grew.drew ?_ | with_reducible refine Grew.drewN ?_ _)) hgw6
              refine hK.out _ _ ?_ (fun hHeld => ?_)
              · (try dsimp only); first | with_reducible assumption | exact Grew.alloc ‹_› _
              clear hK K
              try simp only [Act.put, List.setIfInBounds_toArray, List.set_cons_zero, List.set_cons_succ]
              refine wpAnyH_take (i := 4) (oi := ?on54) (v := ?vn54) ?hin54 ?an54 ?bn54 ?cn54 ?qn54 (Or.inl ⟨?dn54, ?hyn54⟩) hHeld ?restn54
              case hin54 => (simp only [List.getElem?_toArray, List.getElem?_cons_succ, List.getElem?_cons_zero]; exact rfl)
              case an54 => kernel_rfl
              case bn54 => kernel_rfl
              case cn54 => kernel_rfl
              case qn54 => exact fun _ _ _ h => h
              case dn54 => rfl
              case hyn54 => (intro z hSw; (try dsimp only at hSw); go_simp; (try with_reducible rfl))
              try simp only [Act.put, List.setIfInBounds_toArray, List.set_cons_zero, List.set_cons_succ]
              refine wpAnyH_take (i := 5) (oi := ?on55) (v := ?vn55) ?hin55 ?an55 ?bn55 ?cn55 ?qn55 (Or.inl ⟨?dn55, ?hyn55⟩) hHeld ?restn55
              case hin55 => (simp only [List.getElem?_toArray, List.getElem?_cons_succ, List.getElem?_cons_zero]; exact rfl)
              case an55 => kernel_rfl
              case bn55 => kernel_rfl
              case cn55 => kernel_rfl
              case qn55 => exact fun _ _ _ h => h
              case dn55 => rfl
              case hyn55 => (intro z hSw; (try dsimp only at hSw); go_simp; (try with_reducible rfl))
              try simp only [Act.put, List.setIfInBounds_toArray, List.set_cons_zero, List.set_cons_succ]
              refine wpAnyH_ready (rs := [7]) (by kernel_rfl) (by simp) ?_
              refine AllReadyH.cons (o := ?on56) ?hin56 ?restn56 AllReadyH.nil
              case hin56 => (simp only [List.getElem?_toArray, List.getElem?_cons_succ, List.getElem?_cons_zero]; exact rfl)
              intro K hK
              go_simp
              go_at_call 30
              refine (HFU.out _).mono ?_
              rintro e w7 ⟨rfl, hgw7⟩
              have h7 : Grew w1 w7 := h6.trans hgw7
              refine hK.out _ _ ?_ (fun hHeld => ?_)
              · (try dsimp only); first | with_reducible assumption | exact Grew.alloc ‹_› _
              clear hK K
              try simp only [Act.put, List.setIfInBounds_toArray, List.set_cons_zero, List.set_cons_succ]
              refine wpAnyH_take (i := 8) (oi := ?on57) (v := ?vn57) ?hin57 ?an57 ?bn57 ?cn57 ?qn57 (Or.inl ⟨?dn57, ?hyn57⟩) hHeld ?restn57
              case hin57 => (simp only [List.getElem?_toArray, List.getElem?_cons_succ, List.getElem?_cons_zero]; exact rfl)
              case an57 => kernel_rfl
              case bn57 => kernel_rfl
              case cn57 => kernel_rfl
              case qn57 => exact fun _ _ _ h => h
              case dn57 => rfl
              case hyn57 => (intro z hSw; (try dsimp only at hSw); go_simp; (try with_reducible rfl))
              try simp only [Act.put, List.setIfInBounds_toArray, List.set_cons_zero, List.set_cons_succ]
              refine wpAnyH_take (i := 9) (oi := ?on58) (v := ?vn58) ?hin58 ?an58 ?bn58 ?cn58 ?qn58 (Or.inl ⟨?dn58, ?hyn58⟩) hHeld ?restn58
              case hin58 => (simp only [List.getElem?_toArray, List.getElem?_cons_succ, List.getElem?_cons_zero]; exact rfl)
              case an58 => kernel_rfl
              case bn58 => kernel_rfl
              case cn58 => kernel_rfl
              case qn58 => exact fun _ _ _ h => h
              case dn58 => rfl
              case hyn58 => (intro z hSw; (try dsimp only at hSw); go_simp; (try with_reducible rfl))
              try simp only [Act.put, List.setIfInBounds_toArray, List.set_cons_zero, List.set_cons_succ]
              refine wpAnyH_done (by kernel_rfl) ?_ _
              go_wp2_with fail
              go_ret
              rw [hmt.out, HE9.out]
              exact ⟨rfl, HG.out.trans h7⟩
    · rw [decide_eq_false h2, Bool.false_and]
      have hq : ((L.length : Int) != ((2 ^ N : Nat) : Int)) = true := by simpa using h2
      obtain ⟨A, c, rfl⟩ := ints_slice h
      clear h h2 hvs hfe hp32 hp0
      generalize L.length = l at *
      generalize full N = F at *
      generalize (2 : Nat) ^ N = P at *
      go_enter Tryz.func24, Tryz.ntmps24
      go_wp2_with fail
      simp only [← hw1]
      clear hw1
      refine wp_region_held_drew (S := fun w' => Grew w1 w') (by kernel_rfl) r1d (fun hHeld => ?_)
      refine wpAnyH_take (i := 0) (oi := ?on59) (v := ?vn59) ?hin59 ?an59 ?bn59 ?cn59 ?qn59 (Or.inl ⟨?dn59, ?hyn59⟩) hHeld ?restn59
      case hin59 => (simp only [List.getElem?_toArray, List.getElem?_cons_zero]; exact rfl)
      case an59 => kernel_rfl
      case bn59 => kernel_rfl
      case cn59 => kernel_rfl
      case qn59 => exact fun _ _ _ h => h
      case dn59 => rfl
      case hyn59 => (intro z hSw; (try dsimp only at hSw); go_simp; (try with_reducible rfl))
      try simp only [Act.put, List.setIfInBounds_toArray, List.set_cons_zero, List.set_cons_succ]
      refine wpAnyH_take (i := 1) (oi := ?on60) (v := ?vn60) ?hin60 ?an60 ?bn60 ?cn60 ?qn60 (Or.inl ⟨?dn60, ?hyn60⟩) hHeld ?restn60
      case hin60 => (simp only [List.getElem?_toArray, List.getElem?_cons_succ, List.getElem?_cons_zero]; exact rfl)
      case an60 => kernel_rfl
      case bn60 => kernel_rfl
      case cn60 => kernel_rfl
      case qn60 => exact fun _ _ _ h => h
      case dn60 => rfl
      case hyn60 => (intro z hSw; (try dsimp only at hSw); go_simp; (try with_reducible rfl))
      try simp only [Act.put, List.setIfInBounds_toArray, List.set_cons_zero, List.set_cons_succ]
      refine wpAnyH_ready (rs := [2]) (by kernel_rfl) (by simp) ?_
      refine AllReadyH.cons (o := ?on61) ?hin61 ?restn61 AllReadyH.nil
      case hin61 => (simp only [List.getElem?_toArray, List.getElem?_cons_succ, List.getElem?_cons_zero]; exact rfl)
      intro K hK
      go_simp
      go_at_call 52
      refine (HI.out _).mono ?_
      rintro e w2 ⟨rfl, hgw2⟩
      have h2 : Grew w1 w2 := Grew.trans (by repeat (first | with_reducible assumption | with_reducible refine Grew.alloc ?_ _ | with_reducible refine Grew.drew ?_ | with_reducible refine Grew.drewN ?_ _)) hgw2
      refine hK.out _ _ ?_ (fun hHeld => ?_)
      · (try dsimp only); first | with_reducible assumption | exact Grew.alloc ‹_› _
      clear hK K
      try simp only [Act.put, List.setIfInBounds_toArray, List.set_cons_zero, List.set_cons_succ]
      refine wpAnyH_take (i := 3) (oi := ?on62) (v := ?vn62) ?hin62 ?an62 ?bn62 ?cn62 ?qn62 (Or.inl ⟨?dn62, ?hyn62⟩) hHeld ?restn62
      case hin62 => (simp only [List.getElem?_toArray, List.getElem?_cons_succ, List.getElem?_cons_zero]; exact rfl)
      case an62 => kernel_rfl
      case bn62 => kernel_rfl
      case cn62 => kernel_rfl
      case qn62 => exact fun _ _ _ h => h
      case dn62 => rfl
      case hyn62 => (intro z hSw; (try dsimp only at hSw); go_simp; (try with_reducible rfl))
      try simp only [Act.put, List.setIfInBounds_toArray, List.set_cons_zero, List.set_cons_succ]
      refine wpAnyH_take (i := 4) (oi := ?on63) (v := ?vn63) ?hin63 ?an63 ?bn63 ?cn63 ?qn63 (Or.inl ⟨?dn63, ?hyn63⟩) hHeld ?restn63
      case hin63 => (simp only [List.getElem?_toArray, List.getElem?_cons_succ, List.getElem?_cons_zero]; exact rfl)
      case an63 => kernel_rfl
      case bn63 => kernel_rfl
      case cn63 => kernel_rfl
      case qn63 => exact fun _ _ _ h => h
      case dn63 => rfl
      case hyn63 => (intro z hSw; (try dsimp only at hSw); go_simp; (try with_reducible rfl))
      try simp only [Act.put, List.setIfInBounds_toArray, List.set_cons_zero, List.set_cons_succ]
      refine wpAnyH_take (i := 5) (oi := ?on64) (v := ?vn64) ?hin64 ?an64 ?bn64 ?cn64 ?qn64 (Or.inl ⟨?dn64, ?hyn64⟩) hHeld ?restn64
      case hin64 => (simp only [List.getElem?_toArray, List.getElem?_cons_succ, List.getElem?_cons_zero]; exact rfl)
      case an64 => kernel_rfl
      case bn64 => kernel_rfl
      case cn64 => kernel_rfl
      case qn64 => exact fun _ _ _ h => h
      case dn64 => rfl
      case hyn64 => (intro z hSw; (try dsimp only at hSw); go_simp; (try with_reducible rfl))
      try simp only [Act.put, List.setIfInBounds_toArray, List.set_cons_zero, List.set_cons_succ]
      refine wpAnyH_take (i := 6) (oi := ?on65) (v := ?vn65) ?hin65 ?an65 ?bn65 ?cn65 ?qn65 (Or.inl ⟨?dn65, ?hyn65⟩) hHeld ?restn65
      case hin65 => (simp only [List.getElem?_toArray, List.getElem?_cons_succ, List.getElem?_cons_zero]; exact rfl)
      case an65 => kernel_rfl
      case bn65 => kernel_rfl
      case cn65 => kernel_rfl
      case qn65 => exact fun _ _ _ h => h
      case dn65 => rfl
      case hyn65 => (intro z hSw; (try dsimp only at hSw); go_simp; (try with_reducible rfl))
      try simp only [Act.put, List.setIfInBounds_toArray, List.set_cons_zero, List.set_cons_succ]
      refine wpAnyH_take (i := 8) (oi := ?on66) (v := ?vn66) ?hin66 ?an66 ?bn66 ?cn66 ?qn66 (Or.inl ⟨?dn66, ?hyn66⟩) hHeld ?restn66
      case hin66 => (simp only [List.getElem?_toArray, List.getElem?_cons_succ, List.getElem?_cons_zero]; exact rfl)
      case an66 => kernel_rfl
      case bn66 => kernel_rfl
      case cn66 => kernel_rfl
      case qn66 => exact fun _ _ _ h => h
      case dn66 => rfl
      case hyn66 => (intro z hSw; (try dsimp only at hSw); go_simp; (try with_reducible rfl))
      try simp only [Act.put, List.setIfInBounds_toArray, List.set_cons_zero, List.set_cons_succ]
      refine wpAnyH_ready (rs := [7]) (by kernel_rfl) (by simp) ?_
      refine AllReadyH.cons (o := ?on67) ?hin67 ?restn67 AllReadyH.nil
      case hin67 => (simp only [List.getElem?_toArray, List.getElem?_cons_succ, List.getElem?_cons_zero]; exact rfl)
      intro K hK
      go_simp
      go_at_call 29
      refine (HS.out _ (HG.out.trans h2)).mono ?_
      rintro e w3 ⟨rfl, hgw3⟩
      have h3 : Grew w1 w3 := h2.trans hgw3
      refine hK.out _ _ ?_ (fun hHeld => ?_)
      · (try dsimp only); first | with_reducible assumption | exact Grew.alloc ‹_› _
      clear hK K
      try simp only [Act.put, List.setIfInBounds_toArray, List.set_cons_zero, List.set_cons_succ]
      refine wpAnyH_ready (rs := [9]) (by kernel_rfl) (by simp) ?_
      refine AllReadyH.cons (o := ?on68) ?hin68 ?restn68 AllReadyH.nil
      case hin68 => (simp only [List.getElem?_toArray, List.getElem?_cons_succ, List.getElem?_cons_zero]; exact rfl)
      intro K hK
      go_simp
      go_at_call 30
      refine (HFU.out _).mono ?_
      rintro e w4 ⟨rfl, hgw4⟩
      have h4 : Grew w1 w4 := h3.trans hgw4
      refine hK.out _ _ ?_ (fun hHeld => ?_)
      · (try dsimp only); first | with_reducible assumption | exact Grew.alloc ‹_› _
      clear hK K
      try simp only [Act.put, List.setIfInBounds_toArray, List.set_cons_zero, List.set_cons_succ]
      refine wpAnyH_take (i := 10) (oi := ?on69) (v := ?vn69) ?hin69 ?an69 ?bn69 ?cn69 ?qn69 (Or.inl ⟨?dn69, ?hyn69⟩) hHeld ?restn69
      case hin69 => (simp only [List.getElem?_toArray, List.getElem?_cons_succ, List.getElem?_cons_zero]; exact rfl)
      case an69 => kernel_rfl
      case bn69 => kernel_rfl
      case cn69 => kernel_rfl
      case qn69 => exact fun _ _ _ h => h
      case dn69 => rfl
      case hyn69 => (intro z hSw; (try dsimp only at hSw); go_simp; (try with_reducible rfl))
      try simp only [Act.put, List.setIfInBounds_toArray, List.set_cons_zero, List.set_cons_succ]
      refine wpAnyH_take (i := 11) (oi := ?on70) (v := ?vn70) ?hin70 ?an70 ?bn70 ?cn70 ?qn70 (Or.inl ⟨?dn70, ?hyn70⟩) hHeld ?restn70
      case hin70 => (simp only [List.getElem?_toArray, List.getElem?_cons_succ, List.getElem?_cons_zero]; exact rfl)
      case an70 => kernel_rfl
      case bn70 => kernel_rfl
      case cn70 => kernel_rfl
      case qn70 => exact fun _ _ _ h => h
      case dn70 => rfl
      case hyn70 => (intro z hSw; (try dsimp only at hSw); go_simp; (try with_reducible rfl))
      try simp only [Act.put, List.setIfInBounds_toArray, List.set_cons_zero, List.set_cons_succ]
      refine wpAnyH_take (i := 12) (oi := ?on71) (v := ?vn71) ?hin71 ?an71 ?bn71 ?cn71 ?qn71 (Or.inl ⟨?dn71, ?hyn71⟩) hHeld ?restn71
      case hin71 => (simp only [List.getElem?_toArray, List.getElem?_cons_succ, List.getElem?_cons_zero]; exact rfl)
      case an71 => kernel_rfl
      case bn71 => kernel_rfl
      case cn71 => kernel_rfl
      case qn71 => exact fun _ _ _ h => h
      case dn71 => rfl
      case hyn71 => (intro z hSw; (try dsimp only at hSw); go_simp; (try with_reducible rfl))
      try simp only [Act.put, List.setIfInBounds_toArray, List.set_cons_zero, List.set_cons_succ]
      refine wpAnyH_take (i := 13) (oi := ?on72) (v := ?vn72) ?hin72 ?an72 ?bn72 ?cn72 ?qn72 (Or.inl ⟨?dn72, ?hyn72⟩) hHeld ?restn72
      case hin72 => (simp only [List.getElem?_toArray, List.getElem?_cons_succ, List.getElem?_cons_zero]; exact rfl)
      case an72 => kernel_rfl
      case bn72 => kernel_rfl
      case cn72 => kernel_rfl
      case qn72 => exact fun _ _ _ h => h
      case dn72 => rfl
      case hyn72 => (intro z hSw; (try dsimp only at hSw); go_simp; (try with_reducible rfl))
      try simp only [Act.put, List.setIfInBounds_toArray, List.set_cons_zero, List.set_cons_succ]
      refine wpAnyH_take (i := 14) (oi := ?on73) ?hin73 ?an73 ?bn73 ?cn73 ?qn73 (Or.inr ⟨?dn73, rfl⟩) hHeld ?restn73
      case hin73 => (simp only [List.getElem?_toArray, List.getElem?_cons_succ, List.getElem?_cons_zero]; exact rfl)
      case an73 => kernel_rfl
      case bn73 => kernel_rfl
      case cn73 => kernel_rfl
      case qn73 => exact fun _ _ _ h => h
      case dn73 => rfl
      try simp only [Act.put, List.setIfInBounds_toArray, List.set_cons_zero, List.set_cons_succ]
      refine wpAnyH_take (i := 15) (oi := ?on74) ?hin74 ?an74 ?bn74 ?cn74 ?qn74 (Or.inr ⟨?dn74, rfl⟩) hHeld ?restn74
      case hin74 => (simp only [List.getElem?_toArray, List.getElem?_cons_succ, List.getElem?_cons_zero]; exact rfl)
      case an74 => kernel_rfl
      case bn74 => kernel_rfl
      case cn74 => kernel_rfl
      case qn74 => exact fun _ _ _ h => h
      case dn74 => rfl
      try simp only [Act.put, List.setIfInBounds_toArray, List.set_cons_zero, List.set_cons_succ]
      refine wpAnyH_take (i := 16) (oi := ?on75) ?hin75 ?an75 ?bn75 ?cn75 ?qn75 (Or.inr ⟨?dn75, rfl⟩) hHeld ?restn75
      case hin75 => (simp only [List.getElem?_toArray, List.getElem?_cons_succ, List.getElem?_cons_zero]; exact rfl)
      case an75 => kernel_rfl
      case bn75 => kernel_rfl
      case cn75 => kernel_rfl
      case qn75 => exact fun _ _ _ h => h
      case dn75 => rfl
      try simp only [Act.put, List.setIfInBounds_toArray, List.set_cons_zero, List.set_cons_succ]
      refine wpAnyH_take (i := 17) (oi := ?on76) ?hin76 ?an76 ?bn76 ?cn76 ?qn76 (Or.inr ⟨?dn76, rfl⟩) hHeld ?restn76
      case hin76 => (simp only [List.getElem?_toArray, List.getElem?_cons_succ, List.getElem?_cons_zero]; exact rfl)
      case an76 => kernel_rfl
      case bn76 => kernel_rfl
      case cn76 => kernel_rfl
      case qn76 => exact fun _ _ _ h => h
      case dn76 => rfl
      try simp only [Act.put, List.setIfInBounds_toArray, List.set_cons_zero, List.set_cons_succ]
      refine wpAnyH_take (i := 18) (oi := ?on77) (v := ?vn77) ?hin77 ?an77 ?bn77 ?cn77 ?qn77 (Or.inl ⟨?dn77, ?hyn77⟩) hHeld ?restn77
      case hin77 => (simp only [List.getElem?_toArray, List.getElem?_cons_succ, List.getElem?_cons_zero]; exact rfl)
      case an77 => kernel_rfl
      case bn77 => kernel_rfl
      case cn77 => kernel_rfl
      case qn77 => exact fun _ _ _ h => h
      case dn77 => rfl
      case hyn77 => (intro z hSw; (try dsimp only at hSw); go_simp; (try with_reducible rfl))
      try simp only [Act.put, List.setIfInBounds_toArray, List.set_cons_zero, List.set_cons_succ]
      refine wpAnyH_done (by kernel_rfl) ?_ _
      go_wp2_with fail
      go_ret
      exact ⟨rfl, HG.out.trans h4⟩
  · rw [decide_eq_false h1] at HI
    have eA : algB n L = false := by unfold algB; rw [decide_eq_false h1, Bool.false_and]
    rw [eA]
    obtain ⟨A, c, rfl⟩ := ints_slice h
    clear h h1 eA
    generalize L.length = l at *
    go_enter Tryz.func24, Tryz.ntmps24
    go_wp2_with fail
    simp only [← hw1]
    clear hw1
    refine wp_region_held_drew (S := fun w' => Grew w1 w') (by kernel_rfl) r1d (fun hHeld => ?_)
    refine wpAnyH_take (i := 0) (oi := ?on78) (v := ?vn78) ?hin78 ?an78 ?bn78 ?cn78 ?qn78 (Or.inl ⟨?dn78, ?hyn78⟩) hHeld ?restn78
    case hin78 => (simp only [List.getElem?_toArray, List.getElem?_cons_zero]; exact rfl)
    case an78 => kernel_rfl
    case bn78 => kernel_rfl
    case cn78 => kernel_rfl
    case qn78 => exact fun _ _ _ h => h
    case dn78 => rfl
    case hyn78 => (intro z hSw; (try dsimp only at hSw); go_simp; (try with_reducible rfl))
    try simp only [Act.put, List.setIfInBounds_toArray, List.set_cons_zero, List.set_cons_succ]
    refine wpAnyH_take (i := 1) (oi := ?on79) (v := ?vn79) ?hin79 ?an79 ?bn79 ?cn79 ?qn79 (Or.inl ⟨?dn79, ?hyn79⟩) hHeld ?restn79
    case hin79 => (simp only [List.getElem?_toArray, List.getElem?_cons_succ, List.getElem?_cons_zero]; exact rfl)
    case an79 => kernel_rfl
    case bn79 => kernel_rfl
    case cn79 => kernel_rfl
    case qn79 => exact fun _ _ _ h => h
    case dn79 => rfl
    case hyn79 => (intro z hSw; (try dsimp only at hSw); go_simp; (try with_reducible rfl))
    try simp only [Act.put, List.setIfInBounds_toArray, List.set_cons_zero, List.set_cons_succ]
    refine wpAnyH_ready (rs := [2]) (by kernel_rfl) (by simp) ?_
    refine AllReadyH.cons (o := ?on80) ?hin80 ?restn80 AllReadyH.nil
    case hin80 => (simp only [List.getElem?_toArray, List.getElem?_cons_succ, List.getElem?_cons_zero]; exact rfl)
    intro K hK
    go_simp
    go_at_call 52
    refine (HI.out _).mono ?_
    rintro e w2 ⟨rfl, hgw2⟩
    have h2 : Grew w1 w2 := Grew.trans (by repeat (first | with_reducible assumption | with_reducible refine Grew.alloc ?_ _ | with_reducible refine Grew.drew ?_ | with_reducible refine Grew.drewN ?_ _)) hgw2
    refine hK.out _ _ ?_ (fun hHeld => ?_)
    · (try dsimp only); first | with_reducible assumption | exact Grew.alloc ‹_› _
    clear hK K
    try simp only [Act.put, List.setIfInBounds_toArray, List.set_cons_zero, List.set_cons_succ]
    refine wpAnyH_take (i := 3) (oi := ?on81) (v := ?vn81) ?hin81 ?an81 ?bn81 ?cn81 ?qn81 (Or.inl ⟨?dn81, ?hyn81⟩) hHeld ?restn81
    case hin81 => (simp only [List.getElem?_toArray, List.getElem?_cons_succ, List.getElem?_cons_zero]; exact rfl)
    case an81 => kernel_rfl
    case bn81 => kernel_rfl
    case cn81 => kernel_rfl
    case qn81 => exact fun _ _ _ h => h
    case dn81 => rfl
    case hyn81 => (intro z hSw; (try dsimp only at hSw); go_simp; (try with_reducible rfl))
    try simp only [Act.put, List.setIfInBounds_toArray, List.set_cons_zero, List.set_cons_succ]
    refine wpAnyH_take (i := 4) (oi := ?on82) (v := ?vn82) ?hin82 ?an82 ?bn82 ?cn82 ?qn82 (Or.inl ⟨?dn82, ?hyn82⟩) hHeld ?restn82
    case hin82 => (simp only [List.getElem?_toArray, List.getElem?_cons_succ, List.getElem?_cons_zero]; exact rfl)
    case an82 => kernel_rfl
    case bn82 => kernel_rfl
    case cn82 => kernel_rfl
    case qn82 => exact fun _ _ _ h => h
    case dn82 => rfl
    case hyn82 => (intro z hSw; (try dsimp only at hSw); go_simp; (try with_reducible rfl))
    try simp only [Act.put, List.setIfInBounds_toArray, List.set_cons_zero, List.set_cons_succ]
    refine wpAnyH_take (i := 5) (oi := ?on83) ?hin83 ?an83 ?bn83 ?cn83 ?qn83 (Or.inr ⟨?dn83, rfl⟩) hHeld ?restn83
    case hin83 => (simp only [List.getElem?_toArray, List.getElem?_cons_succ, List.getElem?_cons_zero]; exact rfl)
    case an83 => kernel_rfl
    case bn83 => kernel_rfl
    case cn83 => kernel_rfl
    case qn83 => exact fun _ _ _ h => h
    case dn83 => rfl
    try simp only [Act.put, List.setIfInBounds_toArray, List.set_cons_zero, List.set_cons_succ]
    refine wpAnyH_take (i := 6) (oi := ?on84) ?hin84 ?an84 ?bn84 ?cn84 ?qn84 (Or.inr ⟨?dn84, rfl⟩) hHeld ?restn84
    case hin84 => (simp only [List.getElem?_toArray, List.getElem?_cons_succ, List.getElem?_cons_zero]; exact rfl)
    case an84 => kernel_rfl
    case bn84 => kernel_rfl
    case cn84 => kernel_rfl
    case qn84 => exact fun _ _ _ h => h
    case dn84 => rfl
    try simp only [Act.put, List.setIfInBounds_toArray, List.set_cons_zero, List.set_cons_succ]
    refine wpAnyH_take (i := 7) (oi := ?on85) ?hin85 ?an85 ?bn85 ?cn85 ?qn85 (Or.inr ⟨?dn85, rfl⟩) hHeld ?restn85
    case hin85 => (simp only [List.getElem?_toArray, List.getElem?_cons_succ, List.getElem?_cons_zero]; exact rfl)
    case an85 => kernel_rfl
    case bn85 => kernel_rfl
    case cn85 => kernel_rfl
    case qn85 => exact fun _ _ _ h => h
    case dn85 => rfl
    try simp only [Act.put, List.setIfInBounds_toArray, List.set_cons_zero, List.set_cons_succ]
    refine wpAnyH_take (i := 8) (oi := ?on86) ?hin86 ?an86 ?bn86 ?cn86 ?qn86 (Or.inr ⟨?dn86, rfl⟩) hHeld ?restn86
    case hin86 => (simp only [List.getElem?_toArray, List.getElem?_cons_succ, List.getElem?_cons_zero]; exact rfl)
    case an86 => kernel_rfl
    case bn86 => kernel_rfl
    case cn86 => kernel_rfl
    case qn86 => exact fun _ _ _ h => h
    case dn86 => rfl
    try simp only [Act.put, List.setIfInBounds_toArray, List.set_cons_zero, List.set_cons_succ]
    refine wpAnyH_take (i := 9) (oi := ?on87) ?hin87 ?an87 ?bn87 ?cn87 ?qn87 (Or.inr ⟨?dn87, rfl⟩) hHeld ?restn87
    case hin87 => (simp only [List.getElem?_toArray, List.getElem?_cons_succ, List.getElem?_cons_zero]; exact rfl)
    case an87 => kernel_rfl
    case bn87 => kernel_rfl
    case cn87 => kernel_rfl
    case qn87 => exact fun _ _ _ h => h
    case dn87 => rfl
    try simp only [Act.put, List.setIfInBounds_toArray, List.set_cons_zero, List.set_cons_succ]
    refine wpAnyH_take (i := 10) (oi := ?on88) ?hin88 ?an88 ?bn88 ?cn88 ?qn88 (Or.inr ⟨?dn88, rfl⟩) hHeld ?restn88
    case hin88 => (simp only [List.getElem?_toArray, List.getElem?_cons_succ, List.getElem?_cons_zero]; exact rfl)
    case an88 => kernel_rfl
    case bn88 => kernel_rfl
    case cn88 => kernel_rfl
    case qn88 => exact fun _ _ _ h => h
    case dn88 => rfl
    try simp only [Act.put, List.setIfInBounds_toArray, List.set_cons_zero, List.set_cons_succ]
    refine wpAnyH_take (i := 11) (oi := ?on89) ?hin89 ?an89 ?bn89 ?cn89 ?qn89 (Or.inr ⟨?dn89, rfl⟩) hHeld ?restn89
    case hin89 => (simp only [List.getElem?_toArray, List.getElem?_cons_succ, List.getElem?_cons_zero]; exact rfl)
    case an89 => kernel_rfl
    case bn89 => kernel_rfl
    case cn89 => kernel_rfl
    case qn89 => exact fun _ _ _ h => h
    case dn89 => rfl
    try simp only [Act.put, List.setIfInBounds_toArray, List.set_cons_zero, List.set_cons_succ]
    refine wpAnyH_take (i := 12) (oi := ?on90) (v := ?vn90) ?hin90 ?an90 ?bn90 ?cn90 ?qn90 (Or.inl ⟨?dn90, ?hyn90⟩) hHeld ?restn90
    case hin90 => (simp only [List.getElem?_toArray, List.getElem?_cons_succ, List.getElem?_cons_zero]; exact rfl)
    case an90 => kernel_rfl
    case bn90 => kernel_rfl
    case cn90 => kernel_rfl
    case qn90 => exact fun _ _ _ h => h
    case dn90 => rfl
    case hyn90 => (intro z hSw; (try dsimp only at hSw); go_simp; (try with_reducible rfl))
    try simp only [Act.put, List.setIfInBounds_toArray, List.set_cons_zero, List.set_cons_succ]
    refine wpAnyH_take (i := 13) (oi := ?on91) (v := ?vn91) ?hin91 ?an91 ?bn91 ?cn91 ?qn91 (Or.inl ⟨?dn91, ?hyn91⟩) hHeld ?restn91
    case hin91 => (simp only [List.getElem?_toArray, List.getElem?_cons_succ, List.getElem?_cons_zero]; exact rfl)
    case an91 => kernel_rfl
    case bn91 => kernel_rfl
    case cn91 => kernel_rfl
    case qn91 => exact fun _ _ _ h => h
    case dn91 => rfl
    case hyn91 => (intro z hSw; (try dsimp only at hSw); go_simp; (try with_reducible rfl))
    try simp only [Act.put, List.setIfInBounds_toArray, List.set_cons_zero, List.set_cons_succ]
    refine wpAnyH_take (i := 14) (oi := ?on92) ?hin92 ?an92 ?bn92 ?cn92 ?qn92 (Or.inr ⟨?dn92, rfl⟩) hHeld ?restn92
    case hin92 => (simp only [List.getElem?_toArray, List.getElem?_cons_succ, List.getElem?_cons_zero]; exact rfl)
    case an92 => kernel_rfl
    case bn92 => kernel_rfl
    case cn92 => kernel_rfl
    case qn92 => exact fun _ _ _ h => h
    case dn92 => rfl
    try simp only [Act.put, List.setIfInBounds_toArray, List.set_cons_zero, List.set_cons_succ]
    refine wpAnyH_take (i := 15) (oi := ?on93) ?hin93 ?an93 ?bn93 ?cn93 ?qn93 (Or.inr ⟨?dn93, rfl⟩) hHeld ?restn93
    case hin93 => (simp only [List.getElem?_toArray, List.getElem?_cons_succ, List.getElem?_cons_zero]; exact rfl)
    case an93 => kernel_rfl
    case bn93 => kernel_rfl
    case cn93 => kernel_rfl
    case qn93 => exact fun _ _ _ h => h
    case dn93 => rfl
    try simp only [Act.put, List.setIfInBounds_toArray, List.set_cons_zero, List.set_cons_succ]
    refine wpAnyH_take (i := 16) (oi := ?on94) ?hin94 ?an94 ?bn94 ?cn94 ?qn94 (Or.inr ⟨?dn94, rfl⟩) hHeld ?restn94
    case hin94 => (simp only [List.getElem?_toArray, List.getElem?_cons_succ, List.getElem?_cons_zero]; exact rfl)
    case an94 => kernel_rfl
    case bn94 => kernel_rfl
    case cn94 => kernel_rfl
    case qn94 => exact fun _ _ _ h => h
    case dn94 => rfl
    try simp only [Act.put, List.setIfInBounds_toArray, List.set_cons_zero, List.set_cons_succ]
    refine wpAnyH_take (i := 17) (oi := ?on95) ?hin95 ?an95 ?bn95 ?cn95 ?qn95 (Or.inr ⟨?dn95, rfl⟩) hHeld ?restn95
    case hin95 => (simp only [List.getElem?_toArray, List.getElem?_cons_succ, List.getElem?_cons_zero]; exact rfl)
    case an95 => kernel_rfl
    case bn95 => kernel_rfl
    case cn95 => kernel_rfl
    case qn95 => exact fun _ _ _ h => h
    case dn95 => rfl
    try simp only [Act.put, List.setIfInBounds_toArray, List.set_cons_zero, List.set_cons_succ]
    refine wpAnyH_take (i := 18) (oi := ?on96) (v := ?vn96) ?hin96 ?an96 ?bn96 ?cn96 ?qn96 (Or.inl ⟨?dn96, ?hyn96⟩) hHeld ?restn96
    case hin96 => (simp only [List.getElem?_toArray, List.getElem?_cons_succ, List.getElem?_cons_zero]; exact rfl)
    case an96 => kernel_rfl
    case bn96 => kernel_rfl
    case cn96 => kernel_rfl
    case qn96 => exact fun _ _ _ h => h
    case dn96 => rfl
    case hyn96 => (intro z hSw; (try dsimp only at hSw); go_simp; (try with_reducible rfl))
    try simp only [Act.put, List.setIfInBounds_toArray, List.set_cons_zero, List.set_cons_succ]
    refine wpAnyH_done (by kernel_rfl) ?_ _
    go_wp2_with fail
    go_ret
    exact ⟨rfl, HG.out.trans h2⟩
end Go.Proofs.YtopjgcbhjhhlfaaGreat


/- The closure 'add' of the program's generated: as DefinableUpsets$1; the cells that stand stay. -/
namespace Go.Proofs.YtopjgcbhjhhlfaaGreat
open Go.RowKit
open Go.MapKept

theorem cell_lt9 {w : World} {b j : Nat} {x : Value} (h : w.cell? ⟨b, j, none⟩ = some x) : b < w.heap.size := by
  rcases Nat.lt_or_ge b w.heap.size with h1 | h1
  · exact h1
  · unfold World.cell? at h
    simp [Array.getElem?_eq_none h1] at h
def PK (B n : Nat) (w w' : World) : Prop := ∀ b j x, B ≤ b → j < n → w.cell? ⟨b, j, none⟩ = some x → w'.cell? ⟨b, j, none⟩ = some x
theorem PK.grew {B n : Nat} {w w' w'' : World} (h : PK B n w w') (hg : Grew w' w'') : PK B n w w'' := fun b j x h1 h2 h3 => by
  have := h b j x h1 h2 h3
  exact (hg.cell (p := ⟨b, j, none⟩) (cell_lt9 this)).trans this
theorem run_append_kept {P : Program} (w : World) (base : Nat) (t ty e : TypeId) (i : TypeInfo) (z : Value) (bytes : Nat) (ht : P.underlying t = some (.slice e)) (hi : P.info? e = some i) (hz : i.zero = some z)
    (hsize : i.size = 1) (hby : i.bytes = bytes) (hzs : z.cells.size = 1) (v : Value) (n : Nat) (xs : List Value) (hown : w.ownsRow base e 1 v n xs) (a : Addr) (c : Nat) (u : Value)
    (hnews : ∀ j y, [u][j]? = some y → w.cell? (a.add j) = some y) (h1 : u.oneCell' = true) (h63 : n + 1 ≤ maxLen) (hbytes : (n + 1) * bytes ≤ 140737488355328) (hbase : base ≤ w.heap.size) :
    ∃ v' w', (Builtin.append_ #[t, t] ty #[v, .slice (some a) 1 c]).run P w = .ok v' w' ∧ w'.ownsRow base e 1 v' (n + 1) (xs ++ [u]) ∧ w.grownBy w' v.ownBlock ∧ ∀ b j x, j < n → w.cell? ⟨b, j, none⟩ = some x → w'.cell? ⟨b, j, none⟩ = some x := by
  obtain ⟨v', w', hr, h2, h3, h4, h5⟩ := run_append_own_at (P := P) w base t ty e i z 1 bytes ht hi hz hsize hby hzs (by omega) v n xs hown a 1 c [u] rfl hnews (by simp [h1]) h63 hbytes hbase
  refine ⟨v', w', hr, h2, h3, fun b j x hj hx => ?_⟩
  have hb := cell_lt9 hx
  by_cases hne : some b = v.ownBlock
  · rcases hown.2 with ⟨rfl, _⟩ | ⟨g, cap, cur, rfl, hbg, hg, hnc, hcm, hcs, htake⟩
    · cases hne
    · obtain rfl : b = g := by simpa [Value.ownBlock] using hne
      have hlen : xs.length = n := by have := hown.1; omega
      have hxj : xs[j]? = some x := by
        have hq := hown.cells (g := b) rfl j xs[j] (List.getElem?_eq_getElem (by omega))
        rw [show (⟨b, 0, none⟩ : Addr).add j = ⟨b, j, none⟩ from by simp [Addr.add]; try omega] at hq
        rw [hx] at hq
        rw [List.getElem?_eq_getElem (show j < xs.length by omega)]
        exact hq.symm
      by_cases hroom : n + 1 ≤ cap
      · have hrm := run_append_room (P := P) w t ty e i ht hi b n cap cur hg a 1 c [u] (by rw [hsize]; rfl) hnews (by simp [h1]) hroom (by rw [hsize]; simp; omega)
        rw [hr] at hrm
        simp only [Result.ok.injEq] at hrm
        obtain ⟨rfl, -⟩ := hrm
        have hq := h2.cells (g := b) rfl j x (by rw [List.getElem?_append_left (by omega)]; exact hxj)
        rwa [show (⟨b, 0, none⟩ : Addr).add j = ⟨b, j, none⟩ from by simp [Addr.add]; try omega] at hq
      · have hgw := run_append_grow (P := P) w t ty e i z ht hi hz ⟨b, 0, none⟩ n cap xs (by rw [hsize]; omega) (hown.cells (g := b) rfl) a 1 c [u] (by rw [hsize]; rfl) hnews (by omega) (by simp only [maxLen] at h63; omega) (growslice_fits (by omega) (by rw [hby]; exact hbytes))
        rw [hr] at hgw
        simp only [Result.ok.injEq] at hgw
        obtain ⟨-, rfl⟩ := hgw
        exact (World.cell?_of_block (heap_alloc_old w.drew _ hb)).trans hx
  · exact (World.cell?_of_block (h3.block b hb hne)).trans hx
theorem wpList_appK {ops : Array Oper} {rest : List Oper} {o : Oper} {a : Act} {Q : Exit → Act → World → Prop} {w : World} (B : Nat) (s x : Operand) (hgd : o.guard = none)
    (ho : o.op = .call { callee := .builtin .append, args := #[s, x], argTypes := #[24, 24] })
    (v : Value) (L : List Int) (hs : a.eval s = v) (hown : OwnI w B v L) (hB : B ≤ w.heap.size) (vx : Value) (k : Int) (hx : a.eval x = vx) (hr : Rd w 1 vx 1 [.int .i64 k]) (hn : L.length ≤ 1048576)
    (h : ∀ v' w', OwnI w' B v' (L ++ [k]) → w.grownBy w' v.ownBlock → (∀ b j x, j < L.length → w.cell? ⟨b, j, none⟩ = some x → w'.cell? ⟨b, j, none⟩ = some x) → wpList Tryz.prog ops Q rest (a.put o.dst v') w') : wpList Tryz.prog ops Q (o :: rest) a w := by
  obtain ⟨i0, hi0, hz0, hz1, hz2⟩ := info_parts Tryz.infoI
  obtain ⟨hl, _, hr⟩ := hr
  rcases hr with ⟨rfl, h0⟩ | ⟨b, of, c, rfl, _, _, _, hc⟩
  · exact absurd h0 (by simp)
  refine wpList_plain hgd fun K hK => ?_
  obtain ⟨v', w', hr, h2, h3, h4⟩ := run_append_kept (P := Tryz.prog) w B 24 o.type 2 i0 _ 8 Tryz.underlying24 hi0 hz0 hz1 hz2 rfl v L.length (icells L) hown ⟨b, of, none⟩ c (.int .i64 k) (fun j u hu => by rw [Addr.add_lit]; exact hc j u hu) (by simp [Value.oneCell']) (by unfold maxLen; omega) (by omega) hB
  unfold Oper.wp execOp
  simp only [ho, resolve, invoke, builtin, Sem.run_bind, Sem.run_pure, Result.andThen_ok, List.map_toArray, List.map_cons, List.map_nil, hs, hx, hr]
  refine hK _ _ (h v' w' ?_ h3 h4)
  unfold OwnI
  rw [List.length_append, icells_append]
  exact h2

set_option maxHeartbeats 2000000 in
set_option maxRecDepth 20000 in
theorem alAdd_c (m bm bo M B : Nat) (L : List Nat) (w0 w : World) (h : Kn w bm bo M B L) (hg0 : Grew w0 w) (_hb1 : w0.heap.size ≤ bm) (hb2 : w0.heap.size ≤ bo) (hb3 : w0.heap.size ≤ M) (hB : B ≤ w.heap.size) (hl : L.length ≤ 1000) :
    Calls Tryz.prog 57 #[.int .i64 (m : Int), .pointer (some ⟨bm, 0, none⟩), .pointer (some ⟨bo, 0, none⟩)] w fun e w' => e = .returned (.tuple #[]) ∧ Kn w' bm bo M B (if m ∈ L then L else L ++ [m]) ∧ Grew w0 w' ∧ w.heap.size ≤ w'.heap.size ∧ PK B L.length w w' := by
  obtain ⟨A, n, c, hO1, hO2⟩ := h.out
  have c0 : w.cell? ⟨bm, 0, none⟩ = some (.map (some M)) := by rw [blk_cell h.cm]; rfl
  have hlk := run_kmap_look (P := Tryz.prog) h.mp 85 2 4 Tryz.underlying85 Tryz.underlying2 (Tryz.zeroValue4 w) m
  by_cases hm : m ∈ L
  · rw [if_pos hm]
    rw [decide_eq_true hm] at hlk
    have HK := Lib.hid h
    have HNE := Lib.hid (fun w1 (ho1 : Only M w w1) => show some bo ≠ (Value.slice A n c).ownBlock from fun he => by have := ownI_of_ge hO2 he.symm; have := h.l2; omega)
    clear h hO1 hO2
    go_enter Tryz.func57, Tryz.ntmps57
    go_wp2_with fail
    first | go_end0 | refine bodyPost_ret (results_none rfl _ _ _) rfl ?_
    exact ⟨rfl, HK.out, hg0, Nat.le_refl _, fun _ _ _ _ _ h => h⟩
  · rw [if_neg hm]
    rw [decide_eq_false hm] at hlk
    have HK := Lib.hid h
    have HM := Lib.hid h.mp
    have HX := Lib.hid (fun w1 (ho1 : Only M w w1) => (ho1.block (blk_lt hO1) h.d3).trans hO1)
    have HC := Lib.hid (fun w1 (ho1 : Only M w w1) => (ho1.block (blk_lt h.cm) h.d2).trans h.cm)
    have HO := Lib.hid (fun w1 (ho1 : Only M w w1) => show OwnI w1 B (.slice A n c) (zs L) from own_only hO2 ho1 (fun he => by have := ownI_of_ge hO2 he; have := h.l3; omega))
    have HNE := Lib.hid (fun w1 (ho1 : Only M w w1) => show some bo ≠ (Value.slice A n c).ownBlock from fun he => by have := ownI_of_ge hO2 he.symm; have := h.l2; omega)
    clear h hO1 hO2
    go_enter Tryz.func57, Tryz.ntmps57
    go_wp2_with (first
      | (at_mapUpdate; refine wpList_kput _ rfl _ _ _ _ rfl _ _ Tryz.underlying85 Tryz.underlying2 M m L rfl rfl rfl HM.out hm ?_; intro w1 ho1 hk1; have c1 : w1.cell? ⟨bo, 0, none⟩ = some (.slice A n c) := by (rw [blk_cell (HX.out w1 ho1)]; rfl))
      | (at_builtin; refine wpList_appK B _ _ rfl rfl _ (zs L) rfl ((HO.out w1 ho1).grew (Grew.alloc (Grew.refl _) _)) (Nat.le_trans (Nat.le_trans hB ho1.size) (by simp)) _ (m : Int) rfl (rd_litI _ _ _) (by rw [zs_len]; omega) ?_; intro v2 w2 hO2 hg2 hkp2; obtain ⟨A3, n3, c3, rfl⟩ := own_shape hO2; (have hb3' : w2.heap[bo]? = some (.cells #[.slice A n c] 24 (0, 0)) := (World.grownBy.block hg2 bo (by have := blk_lt (HX.out w1 ho1); simp; omega) (HNE.out w1 ho1)).trans ((((Grew.refl w1).alloc _).block (blk_lt (HX.out w1 ho1))).trans (HX.out w1 ho1))); (have c2 : w2.cell? ⟨bo, 0, none⟩ = some (.slice A n c) := by (rw [blk_cell hb3']; rfl)); (have f2 := blk_frozen hb3' 0)))
    first | go_end0 | refine bodyPost_ret (results_none rfl _ _ _) rfl ?_
    have hal1 := Grew.alloc (Grew.refl w1) (.cells #[.int .i64 (m : Int)] 2)
    have hw2 : ∀ k, k < w1.heap.size → some k ≠ (Value.slice A n c).ownBlock → w2.heap[k]? = w1.heap[k]? := fun k hk hne => (World.grownBy.block hg2 k (by simp; omega) hne).trans (hal1.block hk)
    have hge : ∀ g, (Value.slice A n c).ownBlock = some g → B ≤ g := fun g he => ownI_of_ge (HO.out w1 ho1) he
    have nb : ∀ k, k < B → some k ≠ (Value.slice A n c).ownBlock := fun k hk he => by have := hge k he.symm; omega
    have kM : Kmap w2 M (L ++ [m]) := by
      have hl1 := hk1.lt
      obtain ⟨es, clock, h1, h2⟩ := hk1
      exact ⟨es, clock, (hw2 M hl1 (nb M HK.out.l3)).trans h1, h2⟩
    have kC : w2.heap[bm]? = some (.cells #[.map (some M)] 85 (0, 0)) := (hw2 bm (blk_lt (HC.out w1 ho1)) (nb bm HK.out.l1)).trans (HC.out w1 ho1)
    have hlast := (Only.refl bo w2).setCell (o := 0) (.slice A3 n3 c3)
    have g1 := (ho1.grew_of hg0 hb3).alloc (.cells #[.int .i64 (m : Int)] 2)
    have g2 : Grew w0 w2 := g1.grown hg2 (fun k hk => by have := hge k hk; have := HK.out.l2; omega)
    refine ⟨rfl, ⟨(hlast.block (blk_lt kC) HK.out.d1).trans kC, kM.only hlast (fun e => HK.out.d3 e.symm), ⟨A3, n3, c3, blk_set hb3' 0 _, ?_⟩, HK.out.d1, HK.out.d2, HK.out.d3, HK.out.l1, HK.out.l2, HK.out.l3⟩, g2.setCell hb2 _, ?_, ?_⟩
    · rw [zs_snoc]
      exact own_only hO2 hlast (fun he => by have := ownI_of_ge hO2 he; have := HK.out.l2; omega)
    · have h1 := ho1.size
      have h2 := hal1.size
      have h3 := hg2.size
      have h4 := hlast.size
      omega
    · intro b j x hb hj hx
      have q1 : w1.cell? ⟨b, j, none⟩ = some x := (World.cell?_of_block (ho1.block (cell_lt9 hx) (fun e => by have := HK.out.l3; simp only at e; omega))).trans hx
      have q2 := (hal1.cell (p := ⟨b, j, none⟩) (cell_lt9 q1)).trans q1
      have q3 := hkp2 b j x (by rw [zs_len]; exact hj) q2
      exact (World.cell?_of_block (hlast.block (cell_lt9 q3) (fun e => by have := HK.out.l2; simp only at e; omega))).trans q3
theorem alAdd_ds (m P M : Nat) (wp w : World) (L : List Nat) (h : DS P M wp w L) (hm : m < P) (hP : P ≤ 256) (hM : wp.heap.size ≤ M) :
    Calls Tryz.prog 57 #[.int .i64 (m : Int), .pointer (some ⟨M + 1, 0, none⟩), .pointer (some ⟨M + 1 + 1, 0, none⟩)] w fun e w' => e = .returned (.tuple #[]) ∧ ∃ K, DS P M wp w' K ∧ Ext L K ∧ m ∈ K ∧ (∀ x ∈ K, x ∈ L ∨ x = m) ∧ PK (M + 3) L.length w w' := by
  refine (alAdd_c m (M + 1) (M + 1 + 1) M (M + 3) L wp w h.kn h.gr (by omega) (by omega) hM h.sz (by have := h.len; omega)).mono ?_
  rintro e w' ⟨rfl, hk, hg, hs, hpk⟩
  refine ⟨rfl, _, ⟨hk, ?_, ?_, hg, Nat.le_trans h.sz hs⟩, ?_, ?_, ?_, hpk⟩
  · split
    · exact h.nd
    · rename_i hn
      rw [List.nodup_append]
      exact ⟨h.nd, by simp, fun a ha b hb => by simp at hb; rw [hb]; intro e; exact hn (e ▸ ha)⟩
  · intro x hx
    split at hx
    · exact h.lt x hx
    · simp at hx
      rcases hx with hx | rfl
      · exact h.lt x hx
      · exact hm
  · split
    · exact Ext.refl _
    · exact ⟨[m], rfl⟩
  · split
    · assumption
    · simp
  · intro x hx
    split at hx
    · exact .inl hx
    · simpa using hx
end Go.Proofs.YtopjgcbhjhhlfaaGreat


/- The program's generated: the subalgebra that the elements generate, in ascending order. -/
namespace Go.Proofs.YtopjgcbhjhhlfaaGreat
open Go.RowKit

theorem pw_le_asc : ∀ {L : List Nat}, L.Pairwise (· < ·) → (zs L).Pairwise fun x y => decide (x ≤ y) = true := by
  intro L h
  unfold zs
  rw [List.pairwise_map]
  exact h.imp fun {a b} hab => decide_eq_true (by omega)
theorem sort_gen {n : Nat} {B E K : List Nat} (h : Alg n B) (hE : ∀ e ∈ E, e < 2 ^ n) (hn : K.Nodup) (hc : Cl n B (· ∈ K)) (he : ∀ e ∈ E, e ∈ K) (hg : ∀ x ∈ K, gen n B E x) :
    (zs K).mergeSort (fun x y => decide (x ≤ y)) = zs (genL n B E) := by
  have hm : ∀ x, x ∈ K ↔ x ∈ genL n B E := fun x => by
    rw [genL_mem h hE]
    exact ⟨hg x, fun hx => hx _ hc he⟩
  have hasc := genL_asc n B E
  have hp : List.Perm K (genL n B E) := (List.perm_ext_iff_of_nodup hn (hasc.imp fun {a b} hab => Nat.ne_of_lt hab)).2 hm
  have hp2 : List.Perm ((zs K).mergeSort fun x y => decide (x ≤ y)) (zs (genL n B E)) := (List.mergeSort_perm _ _).trans (hp.map _)
  refine hp2.eq_of_pairwise (le := fun x y => decide (x ≤ y) = true) ?_ (List.pairwise_mergeSort ?_ ?_ _) (pw_le_asc hasc)
  · intro a b _ _ h1 h2
    simp only [decide_eq_true_eq] at h1 h2
    omega
  · intro a b c h1 h2
    simp only [decide_eq_true_eq] at h1 h2 ⊢
    omega
  · intro a b
    simp only [Bool.or_eq_true, decide_eq_true_eq]
    omega
theorem DS.cells {P M : Nat} {wp wr : World} {L : List Nat} (h : DS P M wp wr L) (hn : 0 < L.length) : ∃ g c, (∀ W, Grew wr W → W.cell? ⟨M + 1 + 1, 0, none⟩ = some (.slice (some ⟨g, 0, none⟩) L.length c)) ∧ OwnI wr (M + 3) (.slice (some ⟨g, 0, none⟩) L.length c) (zs L) ∧ L.length ≤ c ∧ M + 3 ≤ g ∧ ∀ k, k < L.length → wr.cell? ⟨g, k, none⟩ = some (.int .i64 ((nt L k : Nat) : Int)) := by
  obtain ⟨A, c, h1, h2⟩ := h.cell
  have h3 := h2
  unfold OwnI at h3
  rw [zs_len] at h3
  rcases h3.2 with ⟨_, h0⟩ | ⟨g, cap, cur, hv, hbg, hg, hnc, hcm, hcs, htake⟩
  · omega
  simp only [Value.slice.injEq, true_and] at hv
  obtain ⟨rfl, rfl⟩ := hv
  refine ⟨g, c, h1, h2, hnc, hbg, fun k hk => ?_⟩
  have hq := h3.cells (g := g) rfl k (.int .i64 ((nt L k : Nat) : Int)) (by
    rw [icells_at (by rw [zs_len]; exact hk), zs_it hk])
  rwa [show (⟨g, 0, none⟩ : Addr).add k = ⟨g, k, none⟩ from by simp [Addr.add]; try omega] at hq

set_option maxHeartbeats 4000000 in
set_option maxRecDepth 20000 in
theorem generated_c (n : Nat) (v u : Value) (B E : List Nat) (w : World) (h : Ints w v (zs B)) (hu : Ints w u (zs E)) (hA : Alg n B) (hE : ∀ e ∈ E, e < 2 ^ n) :
    Calls Tryz.prog 27 #[.agg #[.int .i64 (n : Int), v], u] w fun e w' => ∃ r, e = .returned r ∧ Ints w' r (zs (genL n B E)) ∧ Grew w w' := by
  have hal := (Grew.refl w).alloc (.cells #[.int .i64 (n : Int), v] 26)
  have y0 : ∀ W, Grew (w.alloc (.cells #[.int .i64 (n : Int), v] 26)) W → W.cell? ⟨w.heap.size, 0, none⟩ = some (.int .i64 (n : Int)) := fun W hW => (hW.cell (p := ⟨w.heap.size, 0, none⟩) (by simp)).trans (by simp)
  have y1 : ∀ W, Grew (w.alloc (.cells #[.int .i64 (n : Int), v] 26)) W → W.cell? ⟨w.heap.size, 1, none⟩ = some v := fun W hW => (hW.cell (p := ⟨w.heap.size, 1, none⟩) (by simp)).trans (by simp)
  have r1 := Grew.refl (w.alloc (.cells #[.int .i64 (n : Int), v] 26))
  have HG := Lib.hid hal
  have hn5 := hA.le
  have hP : 2 ^ n ≤ 256 := Nat.le_trans (Nat.pow_le_pow_right (by omega) (show n ≤ 8 by omega)) (by decide)
  have hP0 : 0 < 2 ^ n := Nat.pow_pos (by omega)
  have HFU := Lib.hid (fun W => alFull_c n v W (by obtain ⟨a, c, rfl⟩ := ints_slice h; exact ⟨_, _, _, rfl⟩) (by omega))
  have HSRT := Lib.hid (fun K hn hc he hg => sort_gen (K := K) hA hE hn hc he hg)
  have hfl := Nat.lt_of_lt_of_le (full_lt n) hP
  have HAN := Lib.hid (fun x (hx : x < 2 ^ n) => andNot_i64 (full n) x (by omega) (by omega))
  have HCP := Lib.hid (fun x => cpl_lt n x)
  have HBX := Lib.hid (fun x hx => hA.nt_lt (x := x) hx)
  have HG0 := Lib.hid (gen_cl n B E).zero
  have HGE := Lib.hid (fun k (hk : k < E.length) => gen_el (n := n) (B := B) (nt_mem (L := E) hk))
  have HGC := Lib.hid (fun x hx hg => (gen_cl n B E).step x hx hg)
  have HEL := Lib.hid (fun k (hk : k < E.length) => hE _ (nt_mem (L := E) hk))
  have HU := Lib.hid hu
  have hlB := hA.len
  obtain ⟨A2, c2, hue⟩ := ints_slice hu
  rw [zs_len] at hue
  rcases h.open_ with ⟨_, hnil⟩ | ⟨bv, ov, cv, rfl, hcv, hmv, hbv, hfv⟩
  · rw [← List.length_eq_zero_iff, zs_len, hlB] at hnil; omega
  rw [zs_len, hlB] at *
  have HFV := Lib.hid (fun k (hk : k < 2 ^ n) W (hW : Grew w W) => show W.cell? ⟨bv, ov + k, none⟩ = some (.int .i64 ((nt B k : Nat) : Int)) from by rw [hfv k hk W hW, zs_it (by rw [hA.len]; exact hk)])
  have HUX := Lib.hid (fun k (hk : k < E.length) => show ∃ bu ou, A2 = some ⟨bu, ou, none⟩ ∧ ∀ W, Grew w W → W.cell? ⟨bu, ou + k, none⟩ = some (.int .i64 ((nt E k : Nat) : Int)) from by
    rcases hu.open_ with ⟨_, hnil⟩ | ⟨bu, ou, cu, hu2, hcu, hmu, hbu, hfu⟩
    · rw [← List.length_eq_zero_iff, zs_len] at hnil; omega
    rw [zs_len] at hfu
    rw [hue] at hu2
    simp only [Value.slice.injEq] at hu2
    exact ⟨bu, ou, hu2.1, fun W hW => by rw [hfu k hk W hW, zs_it hk]⟩)
  have hum : E.length ≤ 9223372036854775807 := by
    rcases hu.open_ with ⟨_, hnil⟩ | ⟨bu, ou, cu, hu2, hcu, hmu, hbu, hfu⟩
    · rw [← List.length_eq_zero_iff, zs_len] at hnil; omega
    rw [zs_len] at hcu
    omega
  subst hue
  clear hu h hfv hal hA hE hfl hlB
  have hszp : (w.alloc (.cells #[.int .i64 (n : Int), .slice (some ⟨bv, ov, none⟩) (2 ^ n) cv] 26)).heap.size = w.heap.size + 1 := by simp
  have HCL := Lib.hid (fun (K : List Nat) (h0 : 0 ∈ K) (hs : ∀ x ∈ K, cpl n x ∈ K ∧ nt B x ∈ K ∧ ∀ y ∈ K, x &&& y ∈ K) => (show Cl n B (· ∈ K) from ⟨h0, fun x _ hx => hs x hx⟩))
  generalize genL n B E = GL at *
  generalize gen n B E = G at *
  obtain ⟨F, hF⟩ : ∃ F, full n = F := ⟨_, rfl⟩
  obtain ⟨cp, hcp⟩ : ∃ cp, cpl n = cp := ⟨_, rfl⟩
  have hcp2 : ∀ x, dif F x = cp x := fun x => by rw [← hcp, ← hF]; rfl
  simp only [hF, hcp, hcp2] at HAN HFU HCP HGC HCL
  obtain ⟨P, hPP⟩ : ∃ P, 2 ^ n = P := ⟨_, rfl⟩
  simp only [hPP] at *
  clear hF hcp hcp2 hPP hcv hmv hbv
  generalize hm : E.length = m at *
  go_enter Tryz.func27, Tryz.ntmps27
  have hmm := @run_makeMap Tryz.prog
  go_wp2_with fail
  have d0 : DS P (w.alloc (.cells #[.int .i64 (n : Int), .slice (some ⟨bv, ov, none⟩) P cv] 26)).heap.size (w.alloc (.cells #[.int .i64 (n : Int), .slice (some ⟨bv, ov, none⟩) P cv] 26)) ((((w.alloc (.cells #[.int .i64 (n : Int), .slice (some ⟨bv, ov, none⟩) P cv] 26)).alloc (.map #[] 0)).alloc (.cells #[.map (some (w.alloc (.cells #[.int .i64 (n : Int), .slice (some ⟨bv, ov, none⟩) P cv] 26)).heap.size)] 85)).alloc (.cells #[.slice none 0 0] 24)) [] :=
    ⟨Kn.new _, by simp, fun x hx => by simp at hx, ((r1.alloc _).alloc _).alloc _, by simp⟩
  rw [hszp] at d0
  have hwps : (w.alloc (.cells #[.int .i64 (n : Int), .slice (some ⟨bv, ov, none⟩) P cv] 26)).heap.size ≤ w.heap.size + 1 := by rw [hszp]; exact Nat.le_refl _
  have AD := Lib.hid (fun m W K (hK : DS P (w.heap.size + 1) (w.alloc (.cells #[.int .i64 (n : Int), .slice (some ⟨bv, ov, none⟩) P cv] 26)) W K) (hm : m < P) => alAdd_ds m P (w.heap.size + 1) _ W K hK hm hP hwps)
  refine (AD.out 0 _ _ d0 hP0).mono ?_
  rintro e w2 ⟨rfl, K1, hd1, -, hz1, hs1, -⟩
  have hG1 : ∀ x ∈ K1, G x := fun x hx => by
    rcases hs1 x hx with h | rfl
    · simp at h
    · exact HG0.out
  clear hmm d0 hs1 HG0
  generalize hM : w.heap.size = M at *
  obtain ⟨wp, hwp⟩ : ∃ wp, wp = w.alloc (.cells #[.int .i64 (n : Int), .slice (some ⟨bv, ov, none⟩) P cv] 26) := ⟨_, rfl⟩
  rw [← hwp] at hd1 AD hwps y0 y1 r1 HG hszp
  clear hwp
  go_wp2_with fail
  go_loopw [20] (fun i wr => ∃ (j : Nat) (K : List Nat), j ≤ m ∧ i = .int .i64 j ∧ DS P (M + 1) wp wr K ∧ 0 ∈ K ∧ (∀ k, k < j → nt E k ∈ K) ∧ ∀ x ∈ K, G x) (fun i _ => m - (intOf i).toNat)
  case atStart => exact ⟨0, K1, by omega, rfl, hd1, hz1, fun k hk => absurd hk (by omega), hG1⟩
  case round =>
    obtain ⟨j, K, hj, rfl, hD, hz, hvs, hGK⟩ := hrel
    have hgw := HG.out.trans hD.gr
    by_cases hlt : j < m
    · obtain ⟨bu, ou, rfl, hcu⟩ := HUX.out j hlt
      have k1 := hcu _ hgw
      have hvj := HEL.out j hlt
      have hgj := HGE.out j hlt
      have HD := Lib.hid hD
      have HFX := Lib.hid (And.intro hz (And.intro hvs hGK))
      generalize hx : nt E j = x at *
      clear hD hcu hz hvs hGK HUX
      go_wp2_with fail
      refine (AD.out x _ K HD.out hvj).mono ?_
      rintro e w3 ⟨rfl, K3, hd3, he3, hm3, hs3, -⟩
      go_wp2_with fail
      go_roundw
      case rel =>
        obtain ⟨hz, hvs, hGK⟩ := HFX.out
        refine ⟨j + 1, K3, by omega, by go_num, hd3, he3.mem hz, fun k hk => ?_, fun y hy => ?_⟩
        · rcases Nat.lt_or_ge k j with h | h
          · exact he3.mem (hvs k h)
          · obtain rfl : k = j := by omega
            rw [hx]; exact hm3
        · rcases hs3 y hy with h | rfl
          · exact hGK y h
          · exact hgj
      case measure => simp [intOf]; omega
    · have hvall : ∀ y ∈ E, y ∈ K := fun y hy => by
        obtain ⟨k, hk, rfl⟩ := List.getElem_of_mem hy
        have := hvs k (by omega)
        rwa [show nt E k = E[k] by simp [nt, List.getD, hk]] at this
      have HD := Lib.hid hD
      have HV := Lib.hid (And.intro hz hvall)
      have HGK := Lib.hid hGK
      clear hD hz hvall hvs hGK HUX HEL HGE
      go_wp2_with fail
      have hK0 : 0 < K.length := List.length_pos_of_mem HV.out.1
      obtain ⟨g4, c4, hcell, -, hc4, -, -⟩ := HD.out.cells hK0
      have kc := hcell _ (Grew.refl _)
      clear hcell hc4 hK0
      go_loopw [10] (fun i wr => ∃ (a : Nat) (K : List Nat), a ≤ K.length ∧ i = .int .i64 a ∧ DS P (M + 1) wp wr K ∧ (0 ∈ K ∧ ∀ y ∈ E, y ∈ K) ∧ (∀ x ∈ K, G x) ∧ ∀ x, x < a → cp (nt K x) ∈ K ∧ nt B (nt K x) ∈ K ∧ ∀ y, y < x → nt K x &&& nt K y ∈ K) (fun i _ => 300 - (intOf i).toNat)
      case atStart => exact ⟨0, K, by omega, rfl, HD.out, HV.out, HGK.out, fun x hx => absurd hx (by omega)⟩
      case round =>
        obtain ⟨a, K2, ha, rfl, hD2, hV2, hG2, hC2⟩ := hrel
        have hK2 : 0 < K2.length := List.length_pos_of_mem hV2.1
        have hlen2 := hD2.len
        obtain ⟨g5, c5, hcell2, hown2, hc5, hg5, hcells2⟩ := hD2.cells hK2
        have k2 := hcell2 _ (Grew.refl _)
        clear HD HV HGK kc
        by_cases hlt2 : a < K2.length
        · have k3 := hcells2 a hlt2
          have hxP := hD2.lt _ (nt_mem (L := K2) (i := a) hlt2)
          have hxG := hG2 _ (nt_mem (L := K2) (i := a) hlt2)
          have HD2 := Lib.hid hD2
          have HFX := Lib.hid (And.intro hV2 (And.intro hG2 hC2))
          obtain ⟨x, hx⟩ : ∃ x, nt K2 a = x := ⟨_, rfl⟩
          rw [hx] at k3 hxP hxG
          have HXA := Lib.hid (HAN.out x hxP)
          have hgx := HGC.out x hxP hxG
          have HGX := Lib.hid hgx
          have q0 := y0 _ hD2.gr
          have q1 := y1 _ hD2.gr
          clear hD2 hV2 hG2 hC2 hown2 hcells2 hcell2 hgx
          have hxa := HXA.out
          go_wp2_with fail
          refine (HFU.out _).mono ?_
          rintro e w3 ⟨rfl, hg3⟩
          go_wp2_with fail
          refine (AD.out (cp x) _ K2 (HD2.out.grew hg3) (HCP.out x)).mono ?_
          rintro e w4 ⟨rfl, K4, hd4, he4, hm4, hs4, -⟩
          have hl4 := hd4.len
          have q2 := y0 _ hd4.gr
          have q3 := y1 _ hd4.gr
          have q4 := HFV.out x hxP _ (HG.out.trans hd4.gr)
          have hbx := HBX.out x hxP
          have HD4 := Lib.hid hd4
          clear hd4 k2 k3 hxa q0 q1
          go_wp2_with fail
          refine (AD.out (nt B x) _ K4 HD4.out hbx).mono ?_
          rintro e w5 ⟨rfl, K5, hd5, he5, hm5, hs5, -⟩
          have hK5 : 0 < K5.length := Nat.lt_of_lt_of_le (Nat.lt_of_lt_of_le hK2 he4.len) he5.len
          have ha5 : a < K5.length := Nat.lt_of_lt_of_le (Nat.lt_of_lt_of_le hlt2 he4.len) he5.len
          have hl5 := hd5.len
          obtain ⟨g6, c6, hcell5, -, hc6, hg6, hcells5⟩ := hd5.cells hK5
          have k5 := hcell5 _ (Grew.refl _)
          have HD5 := Lib.hid hd5
          have HCE := Lib.hid (fun k (hk : k < a) => hcells5 k (by omega))
          clear hd5 hcell5 hcells5 q2 q3 q4 hg5 hc5
          have hac : a ≤ c6 := by omega
          go_wp2_with fail
          have HG5 := Lib.hid (fun z (hz : z ∈ K5) => show G z from by
            obtain ⟨-, hGG, -⟩ := HFX.out
            rcases hs5 z hz with h | rfl
            · rcases hs4 z h with h | rfl
              · exact hGG z h
              · exact HGX.out.1
            · exact HGX.out.2.1)
          clear hs4 hs5
          go_loopw [55] (fun i wr2 => ∃ (b : Nat) (K : List Nat), b ≤ a ∧ i = .int .i64 b ∧ DS P (M + 1) wp wr2 K ∧ Ext K5 K ∧ (∀ z ∈ K, G z) ∧ (∀ k, k < a → wr2.cell? ⟨g6, k, none⟩ = some (.int .i64 ((nt K5 k : Nat) : Int))) ∧ ∀ y, y < b → x &&& nt K5 y ∈ K) (fun i _ => 300 - (intOf i).toNat)
          case atStart => exact ⟨0, K5, by omega, rfl, HD5.out, Ext.refl _, HG5.out, HCE.out, fun y hy => absurd hy (by omega)⟩
          case round =>
            obtain ⟨b, K6, hb, rfl, hD6, hE6, hG6, hc6', hB6⟩ := hrel
            have hl6 := hD6.len
            clear k5
            by_cases hlt6 : b < a
            · have kb := hc6' b hlt6
              have HGB := Lib.hid (show nt K5 b ∈ K5 from nt_mem (L := K5) (i := b) (by omega))
              have hyP := HD5.out.lt _ HGB.out
              have HD6 := Lib.hid hD6
              have HF6 := Lib.hid (And.intro hE6 (And.intro hG6 (And.intro hc6' hB6)))
              obtain ⟨y, hy⟩ : ∃ y, nt K5 b = y := ⟨_, rfl⟩
              rw [hy] at kb hyP HGB
              have hxy := and_i64 x y (by omega) (by omega)
              have HXP := Lib.hid (show x &&& y < P from Nat.lt_of_le_of_lt Nat.and_le_left hxP)
              clear hD6 hE6 hG6 hc6' hB6
              go_wp2_with fail
              refine (AD.out (x &&& y) _ K6 HD6.out HXP.out).mono ?_
              rintro e w7 ⟨rfl, K7, hd7, he7, hm7, hs7, hpk7⟩
              have HD7 := Lib.hid hd7
              clear hd7
              go_wp2_with fail
              go_roundw
              case rel =>
                obtain ⟨hE6, hG6, hc6', hB6⟩ := HF6.out
                have hlK : a < K6.length := Nat.lt_of_lt_of_le ha5 hE6.len
                refine ⟨b + 1, K7, by omega, by go_num, HD7.out, hE6.trans he7, fun z hz => ?_, fun k hk => hpk7 g6 k _ hg6 (by omega) (hc6' k hk), fun q hq => ?_⟩
                · rcases hs7 z hz with h | rfl
                  · exact hG6 z h
                  · exact HGX.out.2.2 _ (HG5.out _ HGB.out)
                · rcases Nat.lt_or_ge q b with h | h
                  · exact he7.mem (hB6 q h)
                  · obtain rfl : q = b := by omega
                    rw [hy]; exact hm7
              case measure => simp [intOf]; omega
            · obtain rfl : b = a := by omega
              have HD6 := Lib.hid hD6
              have HF6 := Lib.hid (And.intro hE6 (And.intro hG6 hB6))
              clear hD6 hE6 hG6 hc6' hB6
              go_wp2_with fail
              go_roundw
              case rel =>
                obtain ⟨hE6, hG6, hB6⟩ := HF6.out
                obtain ⟨⟨h0, hEE⟩, hGG, hCC⟩ := HFX.out
                have hE : Ext K2 K6 := (he4.trans he5).trans hE6
                have hE2 : Ext K2 K5 := he4.trans he5
                refine ⟨b + 1, K6, ?_, by go_num, HD6.out, ⟨hE.mem h0, fun q hq => hE.mem (hEE q hq)⟩, hG6, fun p hp => ?_⟩
                · have := hE.len; omega
                · rcases Nat.lt_or_ge p b with h | h
                  · rw [hE.nt (show p < K2.length by omega)]
                    obtain ⟨c1, c2, c3⟩ := hCC p h
                    refine ⟨hE.mem c1, hE.mem c2, fun q hq => ?_⟩
                    rw [hE.nt (show q < K2.length by omega)]
                    exact hE.mem (c3 q hq)
                  · obtain rfl : p = b := by omega
                    rw [hE.nt hlt2, hx]
                    refine ⟨(he5.trans hE6).mem hm4, hE6.mem hm5, fun q hq => ?_⟩
                    have := hB6 q hq
                    rwa [hE2.nt (show q < K2.length by omega), ← hE.nt (show q < K2.length by omega)] at this
              case measure => simp [intOf]; omega
        · obtain rfl : a = K2.length := by omega
          have HD2 := Lib.hid hD2
          have HFX := Lib.hid (And.intro hV2 (And.intro hG2 hC2))
          have HOWN := Lib.hid hown2
          have HCELL := Lib.hid hcell2
          clear hD2 hV2 hG2 hC2 hown2 hcell2
          go_wp2_with fail
          refine (sortB_c (M + 1 + 3) _ _ (zs K2) HOWN.out (by rw [zs_len]; omega)).mono ?_
          rintro e w9 ⟨rfl, ho9, hg9⟩
          obtain ⟨A6, n6, c6, hc6, ho6⟩ := HD2.out.kn.out
          have hb9 : w9.heap[M + 1 + 1 + 1]? = some (.cells #[.slice (some ⟨g5, 0, none⟩) K2.length c5] 24 (0, 0)) := by
            have h1 := HCELL.out _ (Grew.refl _)
            rw [blk_cell hc6] at h1
            have h2 : Value.slice A6 n6 c6 = .slice (some ⟨g5, 0, none⟩) K2.length c5 := by simpa using h1
            rw [h2] at hc6
            exact (World.grownBy.block hg9 _ (blk_lt hc6) (fun he => by have := ownI_of_ge HOWN.out he.symm; omega)).trans hc6
          have c9 : w9.cell? ⟨M + 1 + 1 + 1, 0, none⟩ = some (.slice (some ⟨g5, 0, none⟩) K2.length c5) := by rw [blk_cell hb9]; rfl
          have g9 : Grew wp w9 := HD2.out.gr.grown hg9 (fun k hk => by have := ownI_of_ge HOWN.out hk; omega)
          obtain ⟨⟨h0, hEE⟩, hGG, hCC⟩ := HFX.out
          have hsort := HSRT.out K2 HD2.out.nd (HCL.out K2 h0 (fun x hx => by
            obtain ⟨p, hp, rfl⟩ := List.getElem_of_mem hx
            have e1 : K2[p] = nt K2 p := by simp [nt, List.getD, hp]
            rw [e1]
            obtain ⟨q1, q2, q3⟩ := hCC p hp
            refine ⟨q1, q2, fun y hy => ?_⟩
            obtain ⟨q, hq, rfl⟩ := List.getElem_of_mem hy
            have e2 : K2[q] = nt K2 q := by simp [nt, List.getD, hq]
            rw [e2]
            rcases Nat.lt_trichotomy q p with h | h | h
            · exact q3 q h
            · subst h; rw [Nat.and_self, ← e1]; exact hx
            · rw [Nat.and_comm]; exact (hCC q hq).2.2 p h)) hEE hGG
          rw [hsort] at ho9
          have HO9 := Lib.hid ho9
          clear ho9 hg9 hb9 hc6 ho6 hsort h0 hEE hGG hCC
          go_wp2_with fail
          go_ret
          exact ⟨_, rfl, HO9.out.ints, HG.out.trans g9⟩
end Go.Proofs.YtopjgcbhjhhlfaaGreat


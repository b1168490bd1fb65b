/- A predicate on nodes of terms: IndexFunc, ContainsFunc. -/
import Derived.Test.YthofkdpmgjkgkaaGreatTm
import Derived.Deep.RegionHeld3
import Derived.Deep.QuietTactic
import Derived.BigQuiet
import Derived.Deep.LoopGhost
import Derived.WalkLawsBesides
import Derived.Outline
import Derived.Shelf.Abstract
namespace Go.Proofs.YthofkdpmgjkgkaaGreat
open Go.RowKit

/-- None of the first k nodes meets the predicate. -/
def NoneT (p : Int → Int → ByteArray → Bool) (xs : List Tn) (k : Nat) : Prop := ∀ i, i < k → p (tk xs i) (tn xs i) (tt xs i) = false
theorem NoneT.zero (p : Int → Int → ByteArray → Bool) (xs : List Tn) : NoneT p xs 0 := fun i hi => absurd hi (by omega)
theorem NoneT.succ {p : Int → Int → ByteArray → Bool} {xs : List Tn} {k : Nat} (h : NoneT p xs k) (h1 : p (tk xs k) (tn xs k) (tt xs k) = false) : NoneT p xs (k + 1) := by
  intro i hi
  rcases Nat.lt_or_ge i k with hk | hk
  · exact h i hk
  · obtain rfl : i = k := by omega
    exact h1
/-- Some node meets the predicate. -/
noncomputable def anyT (p : Int → Int → ByteArray → Bool) (xs : List Tn) : Bool := !@decide (NoneT p xs xs.length) (Classical.propDecidable _)
theorem anyT_no {p : Int → Int → ByteArray → Bool} {xs : List Tn} (h : NoneT p xs xs.length) : anyT p xs = false := by
  unfold anyT
  rw [@decide_eq_true _ (Classical.propDecidable _) h]
  rfl
theorem anyT_at {p : Int → Int → ByteArray → Bool} {xs : List Tn} {k : Nat} (hk : k < xs.length) (h : p (tk xs k) (tn xs k) (tt xs k) = true) : anyT p xs = true := by
  unfold anyT
  rw [@decide_eq_false _ (Classical.propDecidable _) fun H => by rw [H k hk] at h; cases h]
  rfl
theorem anyT_none {p : Int → Int → ByteArray → Bool} {xs : List Tn} (h : anyT p xs = false) {k : Nat} (hk : k < xs.length) : p (tk xs k) (tn xs k) (tt xs k) = false := by
  cases hp : p (tk xs k) (tn xs k) (tt xs k) with
  | false => rfl
  | true => rw [anyT_at hk hp] at h; cases h

/-- What the function value gives at a node. -/
def PredT (f : Nat) (p : Int → Int → ByteArray → Bool) : Prop := ∀ a b s W, s.size ≤ 140737488355328 → Calls Tryz.prog f #[.agg #[.int .i64 a, .int .i64 b, .string s]] W fun e w' => e = .returned (.bool (p a b s)) ∧ Grew W w'
/-- No type is longer than memory. -/
def FitsT (xs : List Tn) : Prop := ∀ i, i < xs.length → (tt xs i).size ≤ 1048576

theorem indexFuncT_c (v : Value) (xs : List Tn) (f : Nat) (p : Int → Int → ByteArray → Bool) (w : World) (h : Tms w v xs) (hfit : FitsT xs) (hf : PredT f p) (eg : ∀ args w, (callFunc f args).run Tryz.prog w = .ok (.enter f args) w) :
    Calls Tryz.prog 120 #[v, .func (.func f) #[] #[]] w fun e w' => ∃ r : Int, e = .returned (.int .i64 r) ∧ Grew w w' ∧ decide (0 ≤ r) = anyT p xs := by
  rcases h.open_ with ⟨rfl, rfl⟩ | ⟨b, o, c, rfl, hc, hm, hb, hcell⟩
  · rw [anyT_no (NoneT.zero _ _)]
    clear h hf hfit
    go_enter Tryz.func120, Tryz.ntmps120
    go_wp2_with fail
    refine wp_loop_rounds 1 ?_; rw [rounds_succ]
    go_wp2_with fail
    go_ret
    exact ⟨_, rfl, Grew.refl _, rfl⟩
  obtain ⟨R, hR⟩ : ∃ R, R = anyT p xs := ⟨_, rfl⟩
  rw [← hR]
  have HA := Lib.hid (fun k hk h => hR.trans (@anyT_at p xs k hk h))
  have HZ := Lib.hid (fun h => hR.trans (@anyT_no p xs h))
  have HC := Lib.hid hcell
  have HF := Lib.hid hf
  unfold FitsT at hfit
  have HT := Lib.hid hfit
  clear hcell h hf hR hfit
  generalize hN : xs.length = n at *
  clear hN
  go_enter Tryz.func120, Tryz.ntmps120
  go_wp2_with fail
  go_loopw [5, 8] (fun _ i wr => ∃ j : Nat, j ≤ n ∧ i = .int .i64 j ∧ Grew w wr ∧ Hid (NoneT p xs j)) (fun _ i _ => n - (intOf i).toNat)
  case atStart => exact ⟨0, Nat.zero_le _, rfl, Grew.refl _, NoneT.zero _ _⟩
  case round =>
    obtain ⟨j, hj, rfl, hB, HJ⟩ := hrel
    by_cases hlt : j < n
    · have k1 := (HC.out j hlt _ hB).1
      have k2 := (HC.out j hlt _ hB).2.1
      have k3 := (HC.out j hlt _ hB).2.2
      have hz := HT.out j hlt
      have hA := Lib.hid (HA.out j hlt)
      have hS := Lib.hid (fun h => HJ.out.succ (k := j) h)
      generalize tk xs j = x at *
      generalize tn xs j = y at *
      generalize tt xs j = z at *
      go_wp2_with fail
      go_at_fn f
      refine (HF.out x y z _ (by omega)).mono ?_
      rintro e w1 ⟨rfl, hg1⟩
      have hB1 := hB.trans hg1
      cases hp : p x y z with
      | true =>
        have hv := hA.out hp
        go_wp2_with fail
        go_ret
        exact ⟨_, rfl, hB1, by rw [hv]; simp⟩
      | false =>
        have hs := Lib.hid (hS.out hp)
        go_wp2_with fail
        go_roundw
        case rel => exact ⟨j + 1, by omega, by go_num, hB1, hs⟩
        case measure => simp [intOf]; omega
    · obtain rfl : j = n := by omega
      have hv := Lib.hid (HZ.out HJ.out)
      go_wp2_with fail
      go_ret
      exact ⟨_, rfl, hB, by rw [hv.out]; rfl⟩

theorem containsFuncT_c (v : Value) (xs : List Tn) (f : Nat) (p : Int → Int → ByteArray → Bool) (w : World) (h : Tms w v xs) (hfit : FitsT xs) (hf : PredT f p) (eg : ∀ args w, (callFunc f args).run Tryz.prog w = .ok (.enter f args) w) :
    Calls Tryz.prog 88 #[v, .func (.func f) #[] #[]] w fun e w' => e = .returned (.bool (anyT p xs)) ∧ Grew w w' := by
  have HI := Lib.hid (indexFuncT_c v xs f p w h hfit hf eg)
  clear h hf eg hfit
  generalize anyT p xs = R at *
  go_enter Tryz.func88, Tryz.ntmps88
  go_wp2_with fail
  refine HI.out.mono ?_
  rintro e w1 ⟨r, rfl, hg1, hr⟩
  go_wp2_with fail
  go_ret
  exact ⟨by rw [← hr]; rfl, hg1⟩
end Go.Proofs.YthofkdpmgjkgkaaGreat

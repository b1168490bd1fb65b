/- Texts in one file: MvT RfP Vm FvP Corr FlT Find IsF FmTree RgP MnT Src Draw NdTl Own Any MnU FaF FaD FsL LsR LsM Rng RfV KrB KrI KrF TwoF TwoT KrS MbY MbZ MbU IsS MnA MnB RfI LsN LsY LsS LsK LsL ShF FsO FlE FlC FlP. -/
import Derived.Deep.QuietTactic
import Derived.BigQuiet
import Derived.Deep.RegionHeld3
import Derived.WalkLawsBesides
import Derived.Outline
import Derived.Conc.WgArith
import Derived.Laws.Bits64
import Derived.Deep.RegionLaw
import Derived.OwnWalk
import Derived.Laws.EntriesVeiled
import Derived.RangeFuncNested
import Derived.RangeFuncBound
import Derived.RangeFuncCalls
import Derived.RangeFuncLeaves
import Derived.Shelf.Abstract
import Derived.Shelf.RegionOpen
import Derived.WalkKit
import Derived.OwnWalkIn
import Derived.TacticsInMore
import Derived.LoopNIn
import Derived.LoopIn
import Derived.Lib.JoinLaws
import Derived.Shelf.SlSortCmp.Kit1
import Derived.Shelf.SlLaysF
import Derived.Shelf.SlSortCmp.Whole1
import Derived.Lib.SliceRun
import Derived.Test.YtpfncncohnhanaaGreatDoorPb1
set_option linter.all false

/- Modal truth, plain: the sets of worlds reckoned over a list of nodes from its end. No program is in sight. -/
namespace Go.Proofs.YtpfncncohnhanaaGreatDoor
open Go.RowKit
open Fm (Nd Tree)

def mvs (A V : List Nat) (k s : Int) (st : List Nat) : List Nat :=
  if k = 0 then nt V s.toNat :: st
  else if k = 2 then (st.getD 0 0 &&& st.getD 1 0) :: st.drop 2
  else if k = 3 then (st.getD 0 0 ||| st.getD 1 0) :: st.drop 2
  else if k = 4 then (dif (full A.length) (st.getD 0 0) ||| st.getD 1 0) :: st.drop 2
  else if k = 5 then bx A (st.getD 0 0) :: st.drop 1
  else if k = 6 then dif (full A.length) (bx A (dif (full A.length) (st.getD 0 0))) :: st.drop 1
  else 0 :: st
def mve (A V : List Nat) : List Nd → List Nat
  | [] => []
  | x :: xs => mvs A V x.1 x.2 (mve A V xs)
theorem mvs_var {A V : List Nat} {k s : Int} {v : Nat} {st : List Nat} (h : k = 0) (hs : s = (v : Int)) : mvs A V k s st = nt V v :: st := by unfold mvs; rw [if_pos h, hs]; rfl
theorem mvs_fls {A V : List Nat} {k s : Int} {st : List Nat} (h : k = 1) : mvs A V k s st = 0 :: st := by subst h; rfl
theorem mvs_and {A V : List Nat} {k s : Int} {x y : Nat} {st : List Nat} (h : k = 2) : mvs A V k s (x :: y :: st) = (x &&& y) :: st := by subst h; rfl
theorem mvs_or {A V : List Nat} {k s : Int} {x y : Nat} {st : List Nat} (h : k = 3) : mvs A V k s (x :: y :: st) = (x ||| y) :: st := by subst h; rfl
theorem mvs_imp {A V : List Nat} {k s : Int} {x y : Nat} {st : List Nat} (h : k = 4) : mvs A V k s (x :: y :: st) = (dif (full A.length) x ||| y) :: st := by subst h; rfl
theorem mvs_box {A V : List Nat} {k s : Int} {x : Nat} {st : List Nat} (h : k = 5) : mvs A V k s (x :: st) = bx A x :: st := by subst h; rfl
theorem mvs_dia {A V : List Nat} {k s : Int} {x : Nat} {st : List Nat} (h : k = 6) : mvs A V k s (x :: st) = dif (full A.length) (bx A (dif (full A.length) x)) :: st := by subst h; rfl
theorem mve_enc (A V : List Nat) : ∀ (t : Tree) (r : List Nd), mve A V (Fm.enc t ++ r) = mv A V t :: mve A V r := by
  intro t
  have bin : ∀ {k : Int} {a b : Tree} {r : List Nd} {f : Nat → Nat → Nat}, (∀ r : List Nd, mve A V (Fm.enc a ++ r) = mv A V a :: mve A V r) → (∀ r : List Nd, mve A V (Fm.enc b ++ r) = mv A V b :: mve A V r) →
      (∀ x y st, mvs A V k 0 (x :: y :: st) = f x y :: st) → mve A V ((k, 0) :: (Fm.enc a ++ Fm.enc b) ++ r) = f (mv A V a) (mv A V b) :: mve A V r := by
    intro k a b r f ha hb hf
    show mvs A V k 0 (mve A V (Fm.enc a ++ Fm.enc b ++ r)) = _
    rw [List.append_assoc, ha, hb, hf]
  have one : ∀ {k : Int} {a : Tree} {r : List Nd} {f : Nat → Nat}, (∀ r : List Nd, mve A V (Fm.enc a ++ r) = mv A V a :: mve A V r) →
      (∀ x st, mvs A V k 0 (x :: st) = f x :: st) → mve A V ((k, 0) :: Fm.enc a ++ r) = f (mv A V a) :: mve A V r := by
    intro k a r f ha hf
    show mvs A V k 0 (mve A V (Fm.enc a ++ r)) = _
    rw [ha, hf]
  induction t with
  | var v => intro r; exact mvs_var rfl rfl
  | fls => intro r; rfl
  | and a b iha ihb => intro r; exact bin (f := fun x y => x &&& y) iha ihb (fun _ _ _ => rfl)
  | or a b iha ihb => intro r; exact bin (f := fun x y => x ||| y) iha ihb (fun _ _ _ => rfl)
  | imp a b iha ihb => intro r; exact bin (f := fun x y => dif (full A.length) x ||| y) iha ihb (fun _ _ _ => rfl)
  | box a iha => intro r; exact one (f := fun x => bx A x) iha (fun _ _ => rfl)
  | dia a iha => intro r; exact one (f := fun x => dif (full A.length) (bx A (dif (full A.length) x))) iha (fun _ _ => rfl)
def Mfed (A V : List Nat) (xs : List Nd) : Prop := ∀ i, i < xs.length → ((kd xs i = 2 ∨ kd xs i = 3 ∨ kd xs i = 4) → 2 ≤ (mve A V (xs.drop (i + 1))).length) ∧ ((kd xs i = 5 ∨ kd xs i = 6) → 1 ≤ (mve A V (xs.drop (i + 1))).length)
theorem Mfed.nil_ (A V : List Nat) : Mfed A V [] := fun i hi => absurd hi (by simp)
theorem Mfed.cons {A V : List Nat} {x : Nd} {xs : List Nd} (h : Mfed A V xs) (h1 : (x.1 = 2 ∨ x.1 = 3 ∨ x.1 = 4) → 2 ≤ (mve A V xs).length) (h2 : (x.1 = 5 ∨ x.1 = 6) → 1 ≤ (mve A V xs).length) : Mfed A V (x :: xs) := by
  intro i hi
  cases i with
  | zero => exact ⟨h1, h2⟩
  | succ i => exact h i (by simpa using hi)
theorem mfed_enc (A V : List Nat) : ∀ (t : Tree) (r : List Nd), Mfed A V r → Mfed A V (Fm.enc t ++ r) := by
  intro t
  have bin : ∀ {k : Int} {a b : Tree} {r : List Nd}, (∀ r : List Nd, Mfed A V r → Mfed A V (Fm.enc a ++ r)) → (∀ r : List Nd, Mfed A V r → Mfed A V (Fm.enc b ++ r)) → Mfed A V r → Mfed A V ((k, 0) :: (Fm.enc a ++ Fm.enc b) ++ r) := by
    intro k a b r ha hb hr
    rw [List.cons_append, List.append_assoc]
    refine (ha _ (hb _ hr)).cons (fun _ => ?_) (fun _ => ?_) <;> rw [mve_enc A V a, mve_enc A V b] <;> simp
  have one : ∀ {k : Int} {a : Tree} {r : List Nd}, ¬ (k = 2 ∨ k = 3 ∨ k = 4) → (∀ r : List Nd, Mfed A V r → Mfed A V (Fm.enc a ++ r)) → Mfed A V r → Mfed A V ((k, 0) :: Fm.enc a ++ r) := by
    intro k a r hk ha hr
    rw [List.cons_append]
    refine (ha _ hr).cons (fun h => absurd h hk) (fun _ => ?_)
    rw [mve_enc A V a]; simp
  have zero : ∀ {x : Nd} {r : List Nd}, ¬ (x.1 = 2 ∨ x.1 = 3 ∨ x.1 = 4) → ¬ (x.1 = 5 ∨ x.1 = 6) → Mfed A V r → Mfed A V ([x] ++ r) := fun hx hy hr => hr.cons (fun h => absurd h hx) (fun h => absurd h hy)
  induction t with
  | var v => intro r hr; exact zero (by show ¬ ((0 : Int) = 2 ∨ (0 : Int) = 3 ∨ (0 : Int) = 4); decide) (by show ¬ ((0 : Int) = 5 ∨ (0 : Int) = 6); decide) hr
  | fls => intro r hr; exact zero (by decide) (by decide) hr
  | and a b iha ihb => intro r hr; exact bin iha ihb hr
  | or a b iha ihb => intro r hr; exact bin iha ihb hr
  | imp a b iha ihb => intro r hr; exact bin iha ihb hr
  | box a iha => intro r hr; exact one (by decide) iha hr
  | dia a iha => intro r hr; exact one (by decide) iha hr
theorem mfed_of {A V : List Nat} {t : Tree} : Mfed A V (Fm.enc t) := by
  have := mfed_enc A V t [] (Mfed.nil_ A V)
  rwa [List.append_nil] at this
theorem mve_of {A V : List Nat} {t : Tree} : mve A V (Fm.enc t) = [mv A V t] := by
  have := mve_enc A V t []
  rwa [List.append_nil] at this
theorem mve_drop {A V : List Nat} {xs : List Nd} {i : Nat} (h : i < xs.length) : mve A V (xs.drop i) = mvs A V (kd xs i) (sy xs i) (mve A V (xs.drop (i + 1))) := by
  rw [List.drop_eq_getElem_cons h]
  show mvs A V (xs[i]).1 (xs[i]).2 _ = _
  simp [kd, sy, List.getD, h]
theorem mve_sm {A V : List Nat} (hV : ∀ m ∈ V, m < 2 ^ A.length) : ∀ xs : List Nd, ∀ m ∈ mve A V xs, m < 2 ^ A.length
  | [] => fun m h => absurd h (by simp [mve])
  | x :: xs => by
    have ih := mve_sm hV xs
    have hp : 0 < 2 ^ A.length := Nat.pow_pos (by omega)
    have hg : ∀ i, (mve A V xs).getD i 0 < 2 ^ A.length := by
      intro i
      by_cases h : i < (mve A V xs).length
      · simp only [List.getD_eq_getElem?_getD, List.getElem?_eq_getElem h, Option.getD_some]; exact ih _ (List.getElem_mem h)
      · rw [List.getD_eq_getElem?_getD, List.getElem?_eq_none (by omega)]; exact hp
    intro m hm
    have hm : m ∈ mvs A V x.1 x.2 (mve A V xs) := hm
    unfold mvs at hm
    repeat' split at hm
    all_goals rcases List.mem_cons.1 hm with rfl | hm
    · exact nt_lt hV
    · exact ih _ hm
    · exact Nat.and_lt_two_pow _ (hg 1)
    · exact ih _ (List.mem_of_mem_drop hm)
    · exact Nat.or_lt_two_pow (hg 0) (hg 1)
    · exact ih _ (List.mem_of_mem_drop hm)
    · exact Nat.or_lt_two_pow (dif_lt (full_lt _)) (hg 1)
    · exact ih _ (List.mem_of_mem_drop hm)
    · exact bx_lt _ _
    · exact ih _ (List.mem_of_mem_drop hm)
    · exact dif_lt (full_lt _)
    · exact ih _ (List.mem_of_mem_drop hm)
    · exact hp
    · exact ih _ hm
theorem enc_kinds_m (t : Tree) {i : Nat} (hi : i < (Fm.enc t).length) :
    (kd (Fm.enc t) i = 0 ∧ ∃ v : Nat, sy (Fm.enc t) i = (v : Int) ∧ v < 6) ∨ kd (Fm.enc t) i = 1 ∨ kd (Fm.enc t) i = 2 ∨ kd (Fm.enc t) i = 3 ∨ kd (Fm.enc t) i = 4 ∨ kd (Fm.enc t) i = 5 ∨ kd (Fm.enc t) i = 6 := by
  have h1 : kd (Fm.enc t) i = ((Fm.enc t)[i]).1 := by simp [kd, List.getD, hi]
  have h2 : sy (Fm.enc t) i = ((Fm.enc t)[i]).2 := by simp [sy, List.getD, hi]
  rw [h1, h2]
  exact enc_nd t _ (List.getElem_mem hi)
end Go.Proofs.YtpfncncohnhanaaGreatDoor


/- Valuations, plain: the lists that give each of some variables a value of a list, in ascending order. No program is in sight. -/
namespace Go.Proofs.YtpfncncohnhanaaGreatDoor

def lf (f : Nat → Nat) : List Nat := (List.range 6).map f
theorem lf_len (f : Nat → Nat) : (lf f).length = 6 := by simp [lf]
def Off (vs : List Nat) (f f' : Nat → Nat) : Prop := ∀ i, i < 6 → i ∉ vs → f' i = f i
theorem Off.set {v u : Nat} {vs : List Nat} {f f' : Nat → Nat} (h : Off (v :: vs) f f') : Off vs (fun i => if i = v then u else f i) (fun i => if i = v then u else f' i) := by
  intro i h6 hi
  by_cases hv : i = v
  · show (if i = v then u else f' i) = (if i = v then u else f i)
    rw [if_pos hv, if_pos hv]
  · show (if i = v then u else f' i) = (if i = v then u else f i)
    rw [if_neg hv, if_neg hv]
    exact h i h6 (by simp [hv, hi])
theorem Off.refl (vs : List Nat) (f : Nat → Nat) : Off vs f f := fun _ _ _ => rfl
end Go.Proofs.YtpfncncohnhanaaGreatDoor


/- The variables of a formula: variableMask of the program, l02Variables of the reference. -/
namespace Go.Proofs.YtpfncncohnhanaaGreatDoor
open Go.RowKit
open Fm (Nd Tree)

def vmK (xs : List Nd) : Nat → Nat
  | 0 => 0
  | k + 1 => if kd xs k = 0 then vmK xs k ||| 2 ^ (sy xs k).toNat else vmK xs k
theorem vmK_yes {xs : List Nd} {k : Nat} (h : kd xs k = 0) : vmK xs (k + 1) = vmK xs k ||| 2 ^ (sy xs k).toNat := by
  show (if _ then _ else _) = _
  rw [if_pos h]
theorem vmK_no {xs : List Nd} {k : Nat} (h : ¬ kd xs k = 0) : vmK xs (k + 1) = vmK xs k := by
  show (if _ then _ else _) = _
  rw [if_neg h]
def vm (xs : List Nd) : Nat := vmK xs xs.length
def Vs (xs : List Nd) : Prop := ∀ i, i < xs.length → kd xs i = 0 → 0 ≤ sy xs i ∧ sy xs i < 6
theorem vmK_lt {xs : List Nd} (h : Vs xs) : ∀ k, k ≤ xs.length → vmK xs k < 2 ^ 6 := by
  intro k
  induction k with
  | zero => intro _; show 0 < 2 ^ 6; decide
  | succ k ih =>
    intro hk
    by_cases h0 : kd xs k = 0
    · rw [vmK_yes h0]
      have h1 := h k (by omega) h0
      refine or_n (ih (by omega)) ?_
      exact Nat.pow_lt_pow_right (by omega) (by omega)
    · rw [vmK_no h0]; exact ih (by omega)
set_option maxHeartbeats 1000000 in
theorem variableMask_c (v : Value) (xs : List Nd) (w : World) (h : Nodes w v xs) (hv : Vs xs) (hn : xs.length ≤ 1048576) :
    Calls Tryz.prog 76 #[v] w fun e w' => e = .returned (.int .i64 ((vm xs : Nat) : Int)) ∧ Grew w w' := by
  have HY := Lib.hid (fun k => @vmK_yes xs k)
  have HN := Lib.hid (fun k => @vmK_no xs k)
  have HL := Lib.hid (fun k (hk : k ≤ xs.length) => vmK_lt hv k hk)
  have HV := Lib.hid hv
  have HZ : Hid (vmK xs 0 = 0) := Lib.hid rfl
  have HE : Hid (vm xs = vmK xs xs.length) := Lib.hid rfl
  have HO := Lib.hid (fun a b (ha : a < 2 ^ 6) (hb : b < 2 ^ 6) => or_i64 a b (by omega) (by omega))
  rcases h.open_ with ⟨rfl, rfl⟩ | ⟨b, o, c, rfl, hc, hm, hb, hcell⟩
  · clear h
    go_enter Tryz.func76, Tryz.ntmps76
    go_wp2_with fail
    refine wp_loop_rounds 1 ?_; rw [rounds_succ]
    go_wp2_with fail
    go_ret
    exact ⟨rfl, Grew.refl _⟩
  have HC := Lib.hid hcell
  clear hcell h hv
  generalize vm xs = R at *
  generalize hN : xs.length = n at *
  have HXN := Lib.hid hN
  clear hN
  go_enter Tryz.func76, Tryz.ntmps76
  go_wp2_with fail
  go_loopw [3, 5, 8] (fun q _ i wr => ∃ k : Nat, k ≤ n ∧ i = .int .i64 (k : Int) ∧ q = .int .i64 ((vmK xs k : Nat) : Int) ∧ Grew w wr) (fun _ _ i _ => n - (intOf i).toNat)
  case atStart => exact ⟨0, Nat.zero_le _, rfl, by rw [HZ.out]; rfl, Grew.refl _⟩
  case round =>
    obtain ⟨k, hk, rfl, rfl, hB⟩ := hrel
    by_cases hlt : k < n
    · obtain ⟨c0, c1⟩ := HC.out k hlt _ hB
      have hy := Lib.hid (HY.out k)
      have hno := Lib.hid (HN.out k)
      have hq := HL.out k hk
      by_cases h0 : kd xs k = 0
      · have hvs := HV.out k (by rw [HXN.out]; exact hlt) h0
        have hyk := hy.out h0
        rw [h0] at c0
        clear h0
        obtain ⟨s, hs⟩ : ∃ s : Nat, sy xs k = (s : Int) := ⟨(sy xs k).toNat, by omega⟩
        rw [hs] at c1 hyk hvs
        rw [Int.toNat_natCast] at hyk
        have hp := wrap_pow (k := s) (by omega)
        have hp64 : 2 ^ s < 2 ^ 6 := Nat.pow_lt_pow_right (by omega) (by omega)
        have ho := HO.out (vmK xs k) (2 ^ s) hq hp64
        have HYK := Lib.hid hyk
        have hs6 : (s : Int) < 6 := hvs.2
        clear hyk hs hy hno hvs
        generalize vmK xs k = q at *
        generalize (2 ^ s : Nat) = p at *
        go_wp2_with fail
        go_roundw
        case rel => exact ⟨k + 1, by omega, by go_num, by rw [HYK.out], hB.trans ((Grew.refl _).alloc _)⟩
        case measure => simp [intOf]; omega
      · have hyk := hno.out h0
        have HYK := Lib.hid hyk
        clear hyk hy hno
        generalize kd xs k = kk at *
        generalize vmK xs k = q at *
        go_wp2_with fail
        go_roundw
        case rel => exact ⟨k + 1, by omega, by go_num, by rw [HYK.out], hB.trans ((Grew.refl _).alloc _)⟩
        case measure => simp [intOf]; omega
    · obtain rfl : k = n := by omega
      have he := HE.out
      go_wp2_with fail
      go_ret
      exact ⟨by rw [he]; rfl, hB⟩
set_option maxHeartbeats 1000000 in
theorem l02Variables_c (v : Value) (xs : List Nd) (w : World) (h : Nodes w v xs) (hv : Vs xs) (hn : xs.length ≤ 1048576) :
    Calls Tryz.prog 29 #[v] w (GivesI w (zs (mbs (vm xs)))) := by
  have HY := Lib.hid (fun k => @vmK_yes xs k)
  have HN := Lib.hid (fun k => @vmK_no xs k)
  have HL := Lib.hid (fun k (hk : k ≤ xs.length) => vmK_lt hv k hk)
  have HV := Lib.hid hv
  have HZ : Hid (vmK xs 0 = 0) := Lib.hid rfl
  have HE : Hid (vm xs = vmK xs xs.length) := Lib.hid rfl
  have HO := Lib.hid (fun a b (ha : a < 2 ^ 6) (hb : b < 2 ^ 6) => or_i64 a b (by omega) (by omega))
  have HR := Lib.hid (fun W => l01List_c (vm xs) (by have := vmK_lt hv xs.length (Nat.le_refl _); unfold vm; omega) W)
  rcases h.open_ with ⟨rfl, rfl⟩ | ⟨b, o, c, rfl, hc, hm, hb, hcell⟩
  · clear h
    have hz : vm [] = 0 := rfl
    rw [hz] at HR ⊢
    generalize zs (mbs 0) = L at *
    go_enter Tryz.func29, Tryz.ntmps29
    go_wp2_with fail
    refine wp_loop_rounds 1 ?_; rw [rounds_succ]
    go_wp2_with fail
    refine (HR.out _).mono ?_
    rintro e w1 ⟨v1, rfl, hO1, hg1⟩
    go_wp2_with fail
    go_ret
    exact ⟨_, rfl, hO1, hg1⟩
  have HC := Lib.hid hcell
  clear hcell h hv
  generalize zs (mbs (vm xs)) = L at *
  generalize vm xs = R at *
  generalize hN : xs.length = n at *
  have HXN := Lib.hid hN
  clear hN
  go_enter Tryz.func29, Tryz.ntmps29
  go_wp2_with fail
  go_loopw [3, 4] (fun q i wr => ∃ k : Nat, k ≤ n ∧ i = .int .i64 (k : Int) ∧ q = .int .i64 ((vmK xs k : Nat) : Int) ∧ Grew w wr) (fun _ i _ => n - (intOf i).toNat)
  case atStart => exact ⟨0, Nat.zero_le _, rfl, by rw [HZ.out]; rfl, Grew.refl _⟩
  case round =>
    obtain ⟨k, hk, rfl, rfl, hB⟩ := hrel
    by_cases hlt : k < n
    · obtain ⟨c0, c1⟩ := HC.out k hlt _ hB
      have hy := Lib.hid (HY.out k)
      have hno := Lib.hid (HN.out k)
      have hq := HL.out k hk
      by_cases h0 : kd xs k = 0
      · have hvs := HV.out k (by rw [HXN.out]; exact hlt) h0
        have hyk := hy.out h0
        rw [h0] at c0
        clear h0
        obtain ⟨s, hs⟩ : ∃ s : Nat, sy xs k = (s : Int) := ⟨(sy xs k).toNat, by omega⟩
        rw [hs] at c1 hyk hvs
        rw [Int.toNat_natCast] at hyk
        have KO := Lib.hid (fun W => l01One_q s (by omega) W)
        have hp64 : 2 ^ s < 2 ^ 6 := Nat.pow_lt_pow_right (by omega) (by omega)
        have ho := HO.out (vmK xs k) (2 ^ s) hq hp64
        have HYK := Lib.hid hyk
        have hs6 : (s : Int) < 6 := hvs.2
        clear hyk hs hy hno hvs
        generalize vmK xs k = q at *
        generalize (2 ^ s : Nat) = p at *
        have hr1 := Grew.refl wr
        have hd1 := (Grew.refl wr).drew
        go_wp2_with fail
        refine (KO.out _).mono ?_
        rintro e w1 ⟨rfl, rfl⟩
        go_wp2_with fail
        go_roundw
        case rel => exact ⟨k + 1, by omega, by go_num, by rw [HYK.out], hB⟩
        case measure => simp [intOf]; omega
      · have hyk := hno.out h0
        have HYK := Lib.hid hyk
        clear hyk hy hno
        generalize kd xs k = kk at *
        generalize vmK xs k = q at *
        go_wp2_with fail
        go_roundw
        case rel => exact ⟨k + 1, by omega, by go_num, by rw [HYK.out], hB⟩
        case measure => simp [intOf]; omega
    · obtain rfl : k = n := by omega
      rw [← HE.out]
      go_wp2_with fail
      refine (HR.out _).mono ?_
      rintro e w1 ⟨v1, rfl, hO1, hg1⟩
      go_wp2_with fail
      go_ret
      exact ⟨_, rfl, own_base hO1 hB.size, hB.trans hg1⟩
end Go.Proofs.YtpfncncohnhanaaGreatDoor


/- The values of all models on a frame, plain: a number's values for some variables; validity on a frame is truth for all numbers. No program is in sight. -/
namespace Go.Proofs.YtpfncncohnhanaaGreatDoor
open Go.RowKit
open Fm (Nd Tree)

def dg (n c num p : Nat) : Nat := num / 2 ^ (n * (c - 1 - p)) % 2 ^ n
theorem dg_lt (n c num p : Nat) : dg n c num p < 2 ^ n := Nat.mod_lt _ (Nat.pow_pos (by omega))
theorem dg_and (n c num p : Nat) : num / 2 ^ (n * (c - 1 - p)) &&& full n = dg n c num p := by
  unfold full dg
  exact Nat.and_two_pow_sub_one_eq_mod _ _
def vals (n : Nat) (vars : List Nat) (num : Nat) : List Nat := lf fun i => if i ∈ vars then dg n vars.length num (vars.idxOf i) else 0
theorem vals_len (n : Nat) (vars : List Nat) (num : Nat) : (vals n vars num).length = 6 := lf_len _
theorem vals_lt (n : Nat) (vars : List Nat) (num : Nat) : ∀ m ∈ vals n vars num, m < 2 ^ n := by
  intro m hm
  unfold vals lf at hm
  obtain ⟨i, _, rfl⟩ := List.mem_map.1 hm
  by_cases h : i ∈ vars
  · simp only [if_pos h]; exact dg_lt _ _ _ _
  · simp only [if_neg h]; exact Nat.pow_pos (by omega)
def allV (n : Nat) (vars : List Nat) : List (List Nat) := (List.range (2 ^ (n * vars.length))).map (vals n vars)
theorem allV_len (n : Nat) (vars : List Nat) : (allV n vars).length = 2 ^ (n * vars.length) := by simp [allV]
theorem allV_take {n : Nat} {vars : List Nat} {k : Nat} (h : k < 2 ^ (n * vars.length)) : (allV n vars).take (k + 1) = (allV n vars).take k ++ [vals n vars k] := by
  unfold allV
  rw [← List.map_take, ← List.map_take, List.take_range, List.take_range, Nat.min_eq_left (by omega), Nat.min_eq_left (by omega), List.range_succ, List.map_append]
  rfl
def PG (n : Nat) (vars : List Nat) (num j : Nat) (f : Nat → Nat) : Prop := (∀ p, p < j → f (nt vars p) = dg n vars.length num p) ∧ ∀ i, i < 6 → i ∉ vars → f i = 0
def QG (n : Nat) (vars : List Nat) (num k : Nat) (f : Nat → Nat) : Prop := (∀ p, k ≤ p → p < vars.length → f (nt vars p) = dg n vars.length num p) ∧ ∀ i, i < 6 → i ∉ vars → f i = 0
theorem nt_inj {vars : List Nat} (hn : vars.Nodup) {i j : Nat} (hi : i < vars.length) (hj : j < vars.length) (h : nt vars i = nt vars j) : i = j := by
  unfold nt at h
  simp only [List.getD_eq_getElem?_getD, List.getElem?_eq_getElem hi, List.getElem?_eq_getElem hj, Option.getD_some] at h
  exact (List.getElem_inj hn).1 h
theorem nt_idxOf {vars : List Nat} {i : Nat} (h : i ∈ vars) : vars.idxOf i < vars.length ∧ nt vars (vars.idxOf i) = i := by
  have h1 := List.idxOf_lt_length_of_mem h
  refine ⟨h1, ?_⟩
  unfold nt
  rw [List.getD_eq_getElem?_getD, List.getElem?_eq_getElem h1, Option.getD_some]
  exact List.getElem_idxOf h1
theorem PG.zero {n : Nat} {vars : List Nat} {num : Nat} {f : Nat → Nat} (h : ∀ i, i < 6 → i ∉ vars → f i = 0) : PG n vars num 0 f := ⟨fun p hp => absurd hp (by omega), h⟩
theorem PG.set {n : Nat} {vars : List Nat} (hn : vars.Nodup) {num j : Nat} {f f' : Nat → Nat} (h : PG n vars num j f) (hj : j < vars.length) (h1 : f' (nt vars j) = dg n vars.length num j) (h2 : ∀ i, i ≠ nt vars j → f' i = f i) : PG n vars num (j + 1) f' := by
  refine ⟨fun p hp => ?_, fun i hi hv => ?_⟩
  · by_cases hpj : p = j
    · subst hpj; exact h1
    · rw [h2 _ (fun e => hpj (nt_inj hn (by omega) hj e))]
      exact h.1 p (by omega)
  · rw [h2 i (fun e => hv (by rw [e]; exact nt_mem hj))]
    exact h.2 i hi hv
theorem QG.set {n : Nat} {vars : List Nat} (hn : vars.Nodup) {num k : Nat} {f f' : Nat → Nat} (h : QG n vars num (k + 1) f) (hj : k < vars.length) (h1 : f' (nt vars k) = dg n vars.length num k) (h2 : ∀ i, i ≠ nt vars k → f' i = f i) : QG n vars num k f' := by
  refine ⟨fun p hp hpl => ?_, fun i hi hv => ?_⟩
  · by_cases hpj : p = k
    · subst hpj; exact h1
    · rw [h2 _ (fun e => hpj (nt_inj hn hpl hj e))]
      exact h.1 p (by omega) hpl
  · rw [h2 i (fun e => hv (by rw [e]; exact nt_mem hj))]
    exact h.2 i hi hv
theorem QG.pg {n : Nat} {vars : List Nat} {num : Nat} {f : Nat → Nat} (h : QG n vars num 0 f) : PG n vars num vars.length f := ⟨fun p hp => h.1 p (by omega) hp, h.2⟩
theorem PG.vals {n : Nat} {vars : List Nat} {num : Nat} {f : Nat → Nat} (h : PG n vars num vars.length f) : (List.range 6).map f = vals n vars num := by
  unfold Go.Proofs.YtpfncncohnhanaaGreatDoor.vals lf
  refine List.map_congr_left fun i hi => ?_
  rw [List.mem_range] at hi
  by_cases hv : i ∈ vars
  · rw [if_pos hv]
    obtain ⟨h1, h2⟩ := nt_idxOf hv
    have := h.1 _ h1
    rwa [h2] at this
  · rw [if_neg hv]
    exact h.2 i hi hv
def vldB (A vars : List Nat) (t : Tree) : Bool := (allV A.length vars).all fun x => mv A x t == full A.length
theorem vldB_yes {A vars : List Nat} {t : Tree} (h : ∀ x ∈ allV A.length vars, mv A x t = full A.length) : vldB A vars t = true := by
  unfold vldB
  rw [List.all_eq_true]
  intro x hx
  simp [h x hx]
theorem vldB_no {A vars : List Nat} {t : Tree} {x : List Nat} (hx : x ∈ allV A.length vars) (h : mv A x t ≠ full A.length) : vldB A vars t = false := by
  unfold vldB
  rw [List.all_eq_false]
  exact ⟨x, hx, by simp [h]⟩
end Go.Proofs.YtpfncncohnhanaaGreatDoor


/- The thirteen axioms and what they ask of a finite frame, plain: correspondence. No program is in sight. -/
namespace Go.Proofs.YtpfncncohnhanaaGreatDoor
open Fm (Tree)

section
variable {R : Nat → Nat → Prop} {n : Nat}
end
end Go.Proofs.YtpfncncohnhanaaGreatDoor


/- The properties of frames and the conditions of the axioms, plain. No program is in sight. -/
namespace Go.Proofs.YtpfncncohnhanaaGreatDoor
open Go.RowKit
open Fm (Tree)

def pairB (A : List Nat) (p : Nat → Nat → Nat → Bool) : Bool := allB A.length fun x => allB (mbs (nt A x)).length fun i => allB (mbs (nt A x)).length fun j => p x (nt (mbs (nt A x)) i) (nt (mbs (nt A x)) j)
theorem pairB_iff {A : List Nat} (hA : Rl A) {p : Nat → Nat → Nat → Bool} : pairB A p = true ↔ ∀ x y z, x < A.length → rl A x y → rl A x z → p x y z = true := by
  unfold pairB
  rw [allB_iff]
  constructor
  · intro h x y z hx hy hz
    have h1 := h x hx
    rw [allB_iff] at h1
    obtain ⟨i, hi, rfl⟩ := mem_nt ((mbs_mem (hA.sm.at_ hx)).2 hy)
    obtain ⟨j, hj, rfl⟩ := mem_nt ((mbs_mem (hA.sm.at_ hx)).2 hz)
    have h2 := h1 i hi
    rw [allB_iff] at h2
    exact h2 j hj
  · intro h x hx
    rw [allB_iff]
    intro i hi
    rw [allB_iff]
    intro j hj
    exact h x _ _ hx ((mbs_mem (hA.sm.at_ hx)).1 (nt_mem hi)) ((mbs_mem (hA.sm.at_ hx)).1 (nt_mem hj))
def serB (A : List Nat) : Bool := allB A.length fun x => !decide (nt A x = 0)
def symB (A : List Nat) : Bool := allB A.length fun x => allB A.length fun y => !(nt A x).testBit y || (nt A y).testBit x
def eucB (A : List Nat) : Bool := pairB A fun _ y z => (nt A y).testBit z
def dirB (A : List Nat) : Bool := pairB A fun _ y z => !decide (nt A y &&& nt A z = 0)
def conB (A : List Nat) : Bool := pairB A fun _ y z => (nt A y).testBit z || (nt A z).testBit y
def invN (A : List Nat) : Nat → Nat → Nat
  | 0, _ => 0
  | k + 1, y => if (nt A k).testBit y = true then invN A k y ||| 2 ^ k else invN A k y
def denB (A : List Nat) : Bool := pairB A fun x y _ => !decide (nt A x &&& invN A A.length y = 0)
def irrB (A : List Nat) : Bool := allB A.length fun x => !(nt A x).testBit x
def funB (A : List Nat) : Bool := allB A.length fun x => decide ((mbs (nt A x)).length ≤ 1)
def verB (A : List Nat) : Bool := allB A.length fun x => decide (nt A x = 0)
def triB (A : List Nat) : Bool := allB A.length fun x => decide (dif (nt A x) (2 ^ x) = 0)

theorem invN_bit (A : List Nat) (y x : Nat) : ∀ k, (invN A k y).testBit x = true ↔ x < k ∧ (nt A x).testBit y = true
  | 0 => by show (0 : Nat).testBit x = true ↔ _; simp
  | k + 1 => by
    have ih := invN_bit A y x k
    show (if (nt A k).testBit y = true then invN A k y ||| 2 ^ k else invN A k y).testBit x = true ↔ _
    split
    · rename_i h
      rw [Nat.testBit_or, Bool.or_eq_true, ih, Nat.testBit_two_pow, decide_eq_true_eq]
      constructor
      · rintro (⟨h1, h2⟩ | rfl)
        · exact ⟨by omega, h2⟩
        · exact ⟨by omega, h⟩
      · rintro ⟨h1, h2⟩
        by_cases hx : k = x
        · exact .inr hx
        · exact .inl ⟨by omega, h2⟩
    · rename_i h
      rw [ih]
      constructor
      · rintro ⟨h1, h2⟩; exact ⟨by omega, h2⟩
      · rintro ⟨h1, h2⟩
        by_cases hx : x = k
        · subst hx; exact absurd h2 h
        · exact ⟨by omega, h2⟩
theorem invN_lt (A : List Nat) (y : Nat) : ∀ k, invN A k y < 2 ^ k
  | 0 => by show 0 < _; omega
  | k + 1 => by
    have ih := invN_lt A y k
    have h2 : 2 ^ (k + 1) = 2 * 2 ^ k := by rw [Nat.pow_succ]; omega
    unfold invN
    split
    · exact or_n (by omega) (by omega)
    · omega
theorem zero_iff {m : Nat} : m = 0 ↔ ∀ z, m.testBit z = false := by
  constructor
  · rintro rfl z; simp
  · intro h
    apply Nat.eq_of_testBit_eq
    intro z
    rw [h z]; simp
theorem not_zero {m : Nat} : (!decide (m = 0)) = true ↔ ∃ z, m.testBit z = true := by
  rw [Bool.not_eq_true', decide_eq_false_iff_not, zero_iff]
  constructor
  · intro h
    apply Classical.byContradiction
    intro hn
    exact h fun z => by
      cases hb : m.testBit z with
      | false => rfl
      | true => exact absurd ⟨z, hb⟩ hn
  · rintro ⟨z, hz⟩ h
    rw [h z] at hz
    cases hz
theorem symB_iff {A : List Nat} (hA : Rl A) : symB A = true ↔ ∀ x y, x < A.length → rl A x y → rl A y x := by
  unfold symB rl
  rw [allB_iff]
  constructor
  · intro h x y hx hy
    have h1 := h x hx
    rw [allB_iff] at h1
    have h2 := h1 y (hA.bit hx hy)
    rw [hy] at h2
    simpa using h2
  · intro h x hx
    rw [allB_iff]
    intro y _
    cases hb : (nt A x).testBit y with
    | false => rfl
    | true => rw [h x y hx hb]; rfl
theorem eucB_iff {A : List Nat} (hA : Rl A) : eucB A = true ↔ ∀ x y z, x < A.length → rl A x y → rl A x z → rl A y z := pairB_iff hA
theorem denX {A : List Nat} (hA : Rl A) {x y : Nat} (hx : x < A.length) : (!decide (nt A x &&& invN A A.length y = 0)) = true ↔ ∃ z, rl A x z ∧ rl A z y := by
  rw [not_zero]
  constructor
  · rintro ⟨z, hz⟩
    rw [Nat.testBit_and, Bool.and_eq_true, invN_bit] at hz
    exact ⟨z, hz.1, hz.2.2⟩
  · rintro ⟨z, h1, h2⟩
    refine ⟨z, ?_⟩
    rw [Nat.testBit_and, Bool.and_eq_true, invN_bit]
    exact ⟨h1, hA.bit hx h1, h2⟩
theorem denB_iff {A : List Nat} (hA : Rl A) : denB A = true ↔ ∀ x y, x < A.length → rl A x y → ∃ z, rl A x z ∧ rl A z y := by
  unfold denB
  rw [pairB_iff hA]
  exact ⟨fun h x y hx hy => (denX hA hx).1 (h x y y hx hy hy), fun h x y z hx hy _ => (denX hA hx).2 (h x y hx hy)⟩
def axB (A : List Nat) : Nat → Bool
  | 0 => transB A
  | 1 => eucB A
  | 2 => symB A
  | 3 => denB A
  | 4 => serB A
  | 5 => funB A
  | 6 => dirB A
  | 7 => conB A
  | 8 => transB A && irrB A
  | 9 => reflB A
  | 10 => verB A
  | 11 => triB A
  | _ => reflB A && (transB A && antiB A)
end Go.Proofs.YtpfncncohnhanaaGreatDoor


/- The first place of a text in a list. -/
namespace Go.Proofs.YtpfncncohnhanaaGreatDoor
open Go.RowKit

def findS (L : List ByteArray) (s : ByteArray) : Int := match L.findIdx? (fun x => x.toList == s.toList) with
  | some i => i
  | none => -1
def NotIn (L : List ByteArray) (s : ByteArray) (k : Nat) : Prop := ∀ i, i < k → ((st L i).toList == s.toList) = false
theorem NotIn.zero (L : List ByteArray) (s : ByteArray) : NotIn L s 0 := fun i hi => absurd hi (by omega)
theorem NotIn.succ {L : List ByteArray} {s : ByteArray} {k : Nat} (h : NotIn L s k) (h1 : ((st L k).toList == s.toList) = false) : NotIn L s (k + 1) := by
  intro i hi
  rcases Nat.lt_or_ge i k with hk | hk
  · exact h i hk
  · obtain rfl : i = k := by omega
    exact h1
theorem findS_at {L : List ByteArray} {s : ByteArray} {k : Nat} (hk : k < L.length) (h : NotIn L s k) (h1 : ((st L k).toList == s.toList) = true) : findS L s = (k : Int) := by
  have : L.findIdx? (fun x => x.toList == s.toList) = some k := by
    rw [List.findIdx?_eq_some_iff_getElem]
    refine ⟨hk, by rw [st_get hk]; exact h1, fun j hj => ?_⟩
    rw [st_get (by omega)]
    simpa using h j hj
  rw [findS, this]
theorem findS_none {L : List ByteArray} {s : ByteArray} (h : NotIn L s L.length) : findS L s = -1 := by
  have : L.findIdx? (fun x => x.toList == s.toList) = none := by
    rw [List.findIdx?_eq_none_iff]
    intro x hx
    obtain ⟨i, hi, rfl⟩ := List.getElem_of_mem hx
    rw [st_get hi]
    exact h i hi
  rw [findS, this]
theorem findS_range (L : List ByteArray) (s : ByteArray) : findS L s = -1 ∨ ∃ k, k < L.length ∧ findS L s = (k : Int) := by
  unfold findS
  cases h : L.findIdx? (fun x => x.toList == s.toList) with
  | none => exact .inl rfl
  | some i =>
    rw [List.findIdx?_eq_some_iff_getElem] at h
    exact .inr ⟨i, h.1, rfl⟩

theorem l09Find_c (v : Value) (L : List ByteArray) (s : ByteArray) (w : World) (h : Strs w v L) (hn : L.length ≤ 1099511627776) :
    Calls Tryz.prog 27 #[v, .string s] w fun e w' => e = .returned (.int .i64 (findS L s)) ∧ Grew w w' := by
  rcases h.open_ with ⟨rfl, rfl⟩ | ⟨b, o, c, rfl, hc, hm, hb, hf⟩
  · have hE : findS [] s = -1 := rfl
    rw [hE]
    go_enter Tryz.func27, Tryz.ntmps27
    go_wp2_with fail
    refine wp_loop_rounds 1 ?_; rw [rounds_succ]
    go_wp2_with fail
    go_ret
    exact ⟨rfl, Grew.refl _⟩
  · clear h
    obtain ⟨R, hR⟩ : ∃ R, R = findS L s := ⟨_, rfl⟩
    rw [← hR]
    have HA := Lib.hid (fun k hk h1 h2 => hR.trans (@findS_at L s k hk h1 h2))
    have HZ := Lib.hid (fun h => hR.trans (@findS_none L s h))
    have HF := Lib.hid hf
    clear hR hf
    generalize hN : L.length = n at *
    clear hN
    go_enter Tryz.func27, Tryz.ntmps27
    go_wp2_with fail
    go_loopg [5] n (fun k i wr => ∃ j : Nat, j ≤ n ∧ k = n - j ∧ i = .int .i64 j ∧ Grew w wr ∧ Hid (NotIn L s j))
    case atStart => exact ⟨0, Nat.zero_le _, by omega, rfl, Grew.refl _, NotIn.zero _ _⟩
    case round =>
      obtain ⟨j, hj, rfl, rfl, hB, HJ⟩ := hrel
      by_cases hlt : j < n
      · have k1 : ∀ W, Grew w W → W.cell? ⟨b, o + j, none⟩ = some (.string (st L j)) := fun W hW => HF.out j hlt W hW
        cases he : ((st L j).toList == s.toList) with
        | true =>
          have hv := Lib.hid (HA.out j hlt HJ.out he)
          generalize st L j = x at *
          go_wp2_with fail
          go_ret
          rw [hv.out]
          exact ⟨rfl, hB⟩
        | false =>
          have HS := Lib.hid (HJ.out.succ he)
          generalize st L j = x at *
          go_wp2_with fail
          go_roundg (n - (j + 1))
          case measure => omega
          case rel => exact ⟨j + 1, by omega, rfl, by go_num, hB, HS⟩
      · have hjn : j = n := by omega
        subst hjn
        have hv := Lib.hid (HZ.out HJ.out)
        go_wp2_with fail
        go_ret
        rw [hv.out]
        exact ⟨rfl, hB⟩
end Go.Proofs.YtpfncncohnhanaaGreatDoor


/- isFormula of the program, at any list. -/
namespace Go.Proofs.YtpfncncohnhanaaGreatDoor
open Go.RowKit
open Fm (Nd Tree)

theorem isVariable_c (k : Int) (w : World) : Calls Tryz.prog 118 #[.int .i64 k] w fun e w' => e = .returned (.bool (decide (0 ≤ k ∧ k ≤ 5))) ∧ Grew w w' := by
  have HR := Lib.hid (inRange_c k 0 5 w)
  generalize decide (0 ≤ k ∧ k ≤ 5) = R at *
  go_enter Tryz.func118, Tryz.ntmps118
  go_wp2_with fail
  refine HR.out.mono ?_
  rintro e w1 ⟨rfl, hg1⟩
  go_wp2_with fail
  go_ret
  exact ⟨rfl, hg1⟩

def nodeB (a b : Int) : Bool := if a == 0 then decide (0 ≤ b ∧ b ≤ 5) else decide (1 ≤ a ∧ a ≤ 6) && b == 0

theorem isNode_c (a b : Int) (w : World) : Calls Tryz.prog 72 #[.agg #[.int .i64 a, .int .i64 b]] w fun e w' => e = .returned (.bool (nodeB a b)) ∧ Grew w w' := by
  unfold nodeB
  cases h0 : (a == 0) with
  | true =>
    rw [if_pos rfl]
    go_enter Tryz.func72, Tryz.ntmps72
    go_wp2_with fail
    refine (isVariable_c _ _).mono ?_
    rintro e w1 ⟨rfl, hg1⟩
    go_wp2_with fail
    go_ret
    exact ⟨by simp, Grew.of_alloc hg1⟩
  | false =>
    rw [if_neg (by simp)]
    have HR := fun w => inRange_c a 1 6 w
    generalize decide (1 ≤ a ∧ a ≤ 6) = R at *
    cases R with
    | true =>
      replace HR := Lib.hid HR
      go_enter Tryz.func72, Tryz.ntmps72
      go_wp2_with fail
      refine (HR.out _).mono ?_
      rintro e w1 ⟨rfl, hg1⟩
      have k1 : w1.cell? ⟨w.heap.size, 1, none⟩ = some (.int .i64 b) := (hg1.cell (by simp)).trans (by simp)
      go_wp2_with fail
      go_ret
      exact ⟨by simp, Grew.of_alloc hg1⟩
    | false =>
      replace HR := Lib.hid HR
      go_enter Tryz.func72, Tryz.ntmps72
      go_wp2_with fail
      refine (HR.out _).mono ?_
      rintro e w1 ⟨rfl, hg1⟩
      go_wp2_with fail
      go_ret
      exact ⟨by simp, Grew.of_alloc hg1⟩

def noNode (a b : Int) : Bool := !nodeB a b
theorem isFormula1_ok : PredOk 71 noNode := by
  intro a b w
  unfold noNode
  have HR := Lib.hid (fun w => isNode_c a b w)
  generalize nodeB a b = R at *
  go_enter Tryz.func71, Tryz.ntmps71
  go_wp2_with fail
  refine (HR.out _).mono ?_
  rintro e w1 ⟨rfl, hg1⟩
  go_wp2_with fail
  go_ret
  exact ⟨rfl, Grew.of_alloc hg1⟩

noncomputable def fmB (xs : List Nd) : Bool := decide (1 ≤ xs.length ∧ xs.length ≤ 40) && !anyP noNode xs && (pend xs 0 == (xs.length : Int))

theorem isFormula_g (v : Value) (xs : List Nd) (w : World) (h : Nodes w v xs) (hn : xs.length ≤ 1099511627776) :
    Calls Tryz.prog 33 #[v] w fun e w' => e = .returned (.bool (fmB xs)) ∧ Grew w w' := by
  have HC := Lib.hid (fun w h => containsFunc_c v xs _ _ w h hn isFormula1_ok (enters_of Tryz.func71 (by kernel_rfl) rfl))
  have HP := Lib.hid (fun w h => partEnd_c v xs 0 w h hn (by omega))
  obtain ⟨A, c, rfl⟩ := nodes_slice h
  have HN := Lib.hid h
  clear h
  unfold fmB
  generalize pend xs 0 = p at *
  generalize anyP noNode xs = q at *
  generalize hL : xs.length = n at *
  clear hL
  by_cases h1 : 1 ≤ n
  · by_cases h2 : n ≤ 40
    · rw [decide_eq_true (⟨h1, h2⟩ : 1 ≤ n ∧ n ≤ 40), Bool.true_and]
      cases q with
      | true =>
        go_enter Tryz.func33, Tryz.ntmps33
        go_wp2_with fail
        refine (HC.out _ HN.out).mono ?_
        rintro e w1 ⟨rfl, hg1⟩
        go_wp2_with fail
        go_ret
        exact ⟨by simp, hg1⟩
      | false =>
        go_enter Tryz.func33, Tryz.ntmps33
        go_wp2_with fail
        refine (HC.out _ HN.out).mono ?_
        rintro e w1 ⟨rfl, hg1⟩
        go_wp2_with fail
        refine (HP.out _ (HN.out.grew hg1)).mono ?_
        rintro e w2 ⟨rfl, hg2⟩
        go_wp2_with fail
        go_ret
        exact ⟨by simp, hg1.trans hg2⟩
    · rw [decide_eq_false (fun h : 1 ≤ n ∧ n ≤ 40 => h2 h.2), Bool.false_and, Bool.false_and]
      go_enter Tryz.func33, Tryz.ntmps33
      go_wp2_with fail
      go_ret
      exact ⟨rfl, Grew.refl _⟩
  · rw [decide_eq_false (fun h : 1 ≤ n ∧ n ≤ 40 => h1 h.1), Bool.false_and, Bool.false_and]
    go_enter Tryz.func33, Tryz.ntmps33
    go_wp2_with fail
    go_ret
    exact ⟨rfl, Grew.refl _⟩
end Go.Proofs.YtpfncncohnhanaaGreatDoor


/- A list of good nodes that a scan reads whole is the list of a formula's tree. No program is in sight. -/
namespace Go.Proofs.YtpfncncohnhanaaGreatDoor
open Go.RowKit
open Fm (Nd Tree)

theorem nodeB_cases {x : Nd} (h : nodeB x.1 x.2 = true) : (∃ v : Fin 6, x = (0, (v.val : Int))) ∨ x = (1, 0) ∨ x = (2, 0) ∨ x = (3, 0) ∨ x = (4, 0) ∨ x = (5, 0) ∨ x = (6, 0) := by
  obtain ⟨a, b⟩ := x
  unfold nodeB at h
  simp only at h
  split at h
  · rename_i h0
    have ha : a = 0 := by simpa using h0
    have hb := of_decide_eq_true h
    left
    refine ⟨⟨b.toNat, by omega⟩, ?_⟩
    rw [ha]
    congr 1
    simp; omega
  · simp only [Bool.and_eq_true, decide_eq_true_eq, beq_iff_eq] at h
    obtain ⟨⟨h1, h2⟩, rfl⟩ := h
    right
    obtain rfl | rfl | rfl | rfl | rfl | rfl : a = 1 ∨ a = 2 ∨ a = 3 ∨ a = 4 ∨ a = 5 ∨ a = 6 := by omega
    all_goals simp

theorem fm_trees : ∀ (xs : List Nd) (o n : Nat), Fm.scan xs o = some n → (∀ x ∈ xs, nodeB x.1 x.2 = true) → ∃ (ts : List Tree) (rest : List Nd), ts.length = o ∧ xs = ts.flatMap Fm.enc ++ rest ∧ n = (ts.flatMap Fm.enc).length := by
  intro xs
  induction xs with
  | nil =>
    intro o n h _
    cases o with
    | zero => simp [Fm.scan_zero] at h; exact ⟨[], [], rfl, rfl, by simp [h]⟩
    | succ o => simp [Fm.scan_nil] at h
  | cons x xs ih =>
    intro o n h hp
    cases o with
    | zero => simp [Fm.scan_zero] at h; exact ⟨[], x :: xs, rfl, by simp, by simp [h]⟩
    | succ o =>
      rw [Fm.scan_cons] at h
      cases hs : Fm.scan xs (o + Fm.arity x.1) with
      | none => rw [hs] at h; simp at h
      | some m =>
        rw [hs] at h
        simp only [Option.map_some, Option.some.injEq] at h
        obtain ⟨ts, rest, h1, h2, h3⟩ := ih _ _ hs (fun y hy => hp y (by simp [hy]))
        have two : ∀ (f : Tree → Tree → Tree), (∀ a b, Fm.enc (f a b) = x :: (Fm.enc a ++ Fm.enc b)) → Fm.arity x.1 = 2 → ∃ (ts : List Tree) (rest : List Nd), ts.length = o + 1 ∧ x :: xs = ts.flatMap Fm.enc ++ rest ∧ n = (ts.flatMap Fm.enc).length := by
          intro f hf ha
          rw [ha] at h1
          match ts, h1, h2, h3 with
          | a :: b :: ts, h1, h2, h3 =>
            refine ⟨f a b :: ts, rest, by simp at h1; simp [h1], by simp [hf, h2], ?_⟩
            rw [← h, h3]
            simp only [List.flatMap_cons, hf, List.length_append, List.length_cons]
            omega
          | [_], h1, _, _ => simp at h1
        have one : ∀ (f : Tree → Tree), (∀ a, Fm.enc (f a) = x :: Fm.enc a) → Fm.arity x.1 = 1 → ∃ (ts : List Tree) (rest : List Nd), ts.length = o + 1 ∧ x :: xs = ts.flatMap Fm.enc ++ rest ∧ n = (ts.flatMap Fm.enc).length := by
          intro f hf ha
          rw [ha] at h1
          match ts, h1, h2, h3 with
          | a :: ts, h1, h2, h3 =>
            refine ⟨f a :: ts, rest, by simp at h1; simp [h1], by simp [hf, h2], ?_⟩
            rw [← h, h3]
            simp only [List.flatMap_cons, hf, List.length_append, List.length_cons]
            omega
        have zero : ∀ (f : Tree), Fm.enc f = [x] → Fm.arity x.1 = 0 → ∃ (ts : List Tree) (rest : List Nd), ts.length = o + 1 ∧ x :: xs = ts.flatMap Fm.enc ++ rest ∧ n = (ts.flatMap Fm.enc).length := by
          intro f hf ha
          rw [ha] at h1
          refine ⟨f :: ts, rest, by simp [h1], by simp [hf, h2], ?_⟩
          rw [← h, h3]
          simp only [List.flatMap_cons, hf, List.length_append, List.length_cons, List.length_nil]
          omega
        rcases nodeB_cases (hp x (by simp)) with ⟨v, rfl⟩ | rfl | rfl | rfl | rfl | rfl | rfl
        · exact zero (.var v) rfl rfl
        · exact zero .fls rfl rfl
        · exact two .and (fun _ _ => rfl) rfl
        · exact two .or (fun _ _ => rfl) rfl
        · exact two .imp (fun _ _ => rfl) rfl
        · exact one .box (fun _ => rfl) rfl
        · exact one .dia (fun _ => rfl) rfl

theorem fmB_tree {xs : List Nd} (h : fmB xs = true) : ∃ t, xs = Fm.enc t ∧ xs.length ≤ 40 := by
  unfold fmB at h
  simp only [Bool.and_eq_true, decide_eq_true_eq, Bool.not_eq_true', beq_iff_eq] at h
  obtain ⟨⟨⟨h1, h2⟩, h3⟩, h4⟩ := h
  have hall : ∀ x ∈ xs, nodeB x.1 x.2 = true := by
    intro x hx
    obtain ⟨i, hi, rfl⟩ := List.getElem_of_mem hx
    cases hb : nodeB (xs[i]).1 (xs[i]).2 with
    | true => rfl
    | false =>
      rw [kd_lt hi] at hb
      have := anyP_at (p := noNode) hi (by rw [noNode, hb]; rfl)
      rw [this] at h3
      cases h3
  have hs : Fm.scan xs 1 = some xs.length := by
    unfold pend at h4
    rw [List.drop_zero] at h4
    cases hz : Fm.scan xs 1 with
    | none => rw [hz] at h4; simp only [pval] at h4; omega
    | some n => rw [hz] at h4; simp only [pval] at h4; congr 1; omega
  obtain ⟨ts, rest, e1, e2, e3⟩ := fm_trees xs 1 _ hs hall
  match ts, e1 with
  | [t], _ =>
    refine ⟨t, ?_, h2⟩
    have hl := congrArg List.length e2
    rw [List.length_append] at hl
    have : rest = [] := List.eq_nil_of_length_eq_zero (by omega)
    rw [this] at e2
    simpa using e2
end Go.Proofs.YtpfncncohnhanaaGreatDoor


/- What RefutingFrame answers (plain): the first small frame of a logic on which a formula is not valid. -/
namespace Go.Proofs.YtpfncncohnhanaaGreatDoor
open Go.RowKit
open Fm (Nd Tree)

def lgNames : List ByteArray := [⟨#[68]⟩, ⟨#[68, 52]⟩, ⟨#[71, 76]⟩, ⟨#[71, 114, 122]⟩, ⟨#[75]⟩, ⟨#[75, 52]⟩, ⟨#[75, 52, 53]⟩, ⟨#[75, 66]⟩, ⟨#[75, 68, 52, 53]⟩, ⟨#[83, 52]⟩, ⟨#[83, 52, 50]⟩, ⟨#[83, 52, 51]⟩, ⟨#[83, 53]⟩, ⟨#[84]⟩, ⟨#[84, 114, 105, 118]⟩, ⟨#[86, 101, 114]⟩]
theorem lgNames_len : lgNames.length = 16 := rfl
def lgAx (k : Nat) : List Nat := [[4], [0, 4], [8], [12], [], [0], [0, 1], [2], [0, 1, 4], [0, 9], [0, 6, 9], [0, 7, 9], [1, 9], [9], [9, 11], [10]].getD k []
theorem lgAx_lt {k : Nat} : ∀ i ∈ lgAx k, i < 13 := by
  by_cases hk : k < 16
  · have h : ((List.range 16).all fun k => (lgAx k).all fun i => decide (i < 13)) = true := by kernel_rfl
    intro i hi
    exact of_decide_eq_true (List.all_eq_true.1 (List.all_eq_true.1 h k (List.mem_range.2 hk)) i hi)
  · intro i hi
    unfold lgAx at hi
    rw [List.getD_eq_getElem?_getD, List.getElem?_eq_none (by simp; omega)] at hi
    cases hi
def lgB (k : Nat) (A : List Nat) : Bool := (lgAx k).all (axB A)
def rfgB (k : Nat) (t : Tree) (A : List Nat) : Bool := decide (0 < A.length) && (lgB k A && !vldB A (mbs (vm (Fm.enc t))) t)
theorem rfgB_no {k : Nat} {t : Tree} {A : List Nat} (h : lgB k A = false) : rfgB k t A = false := by unfold rfgB; rw [h]; simp
theorem rfgB_yes {k : Nat} {t : Tree} {A : List Nat} (h0 : 0 < A.length) (h : lgB k A = true) : rfgB k t A = !vldB A (mbs (vm (Fm.enc t))) t := by unfold rfgB; rw [h, decide_eq_true h0]; simp
theorem rfgB_nil {k : Nat} {t : Tree} {A : List Nat} (h0 : ¬ 0 < A.length) : rfgB k t A = false := by unfold rfgB; rw [decide_eq_false h0]; rfl
def firstG (k : Nat) (t : Tree) : List (List Nat) → Int × List Nat
  | [] => (4, [])
  | A :: r => if rfgB k t A = true then (0, A) else firstG k t r
theorem firstG_skip {k : Nat} {t : Tree} : ∀ {P : List (List Nat)} {Q : List (List Nat)}, (∀ A ∈ P, rfgB k t A = false) → firstG k t (P ++ Q) = firstG k t Q
  | [], _, _ => rfl
  | A :: P, Q, h => by
    show (if rfgB k t A = true then ((0 : Int), A) else firstG k t (P ++ Q)) = _
    rw [if_neg (by rw [h A (List.mem_cons_self ..)]; decide)]
    exact firstG_skip fun B hB => h B (List.mem_cons_of_mem _ hB)
theorem firstG_hit {k : Nat} {t : Tree} {A : List Nat} {P Q : List (List Nat)} (h : ∀ B ∈ P, rfgB k t B = false) (hA : rfgB k t A = true) : firstG k t (P ++ A :: Q) = (0, A) := by
  rw [firstG_skip h]
  show (if rfgB k t A = true then ((0 : Int), A) else firstG k t Q) = _
  rw [if_pos hA]
theorem firstG_none {k : Nat} {t : Tree} {P : List (List Nat)} (h : ∀ B ∈ P, rfgB k t B = false) : firstG k t P = (4, []) := by
  have := firstG_skip (Q := []) h
  rw [List.append_nil] at this
  exact this
open Classical in
noncomputable def rgF (s : ByteArray) (xs : List Nd) : Int × List Nat :=
  if fmB xs = false then (1, []) else if findS lgNames s < 0 then (4, []) else if 3 < (mbs (vm xs)).length then (3, []) else if h : ∃ t, xs = Fm.enc t then firstG (findS lgNames s).toNat (Classical.choose h) (sfrs 4) else (4, [])
theorem rgF_bad {s : ByteArray} {xs : List Nd} (h : fmB xs = false) : rgF s xs = (1, []) := by unfold rgF; rw [if_pos h]
theorem rgF_name {s : ByteArray} {xs : List Nd} (h : fmB xs = true) (h2 : findS lgNames s = -1) : rgF s xs = (4, []) := by unfold rgF; rw [if_neg (by rw [h]; decide), if_pos (by rw [h2]; decide)]
theorem rgF_many {s : ByteArray} {xs : List Nd} {k : Nat} (h : fmB xs = true) (h2 : findS lgNames s = (k : Int)) (h3 : 3 < (mbs (vm xs)).length) : rgF s xs = (3, []) := by unfold rgF; rw [if_neg (by rw [h]; decide), if_neg (by rw [h2]; omega), if_pos h3]
theorem rgF_go {s : ByteArray} {t : Tree} {k : Nat} (h : fmB (Fm.enc t) = true) (h2 : findS lgNames s = (k : Int)) (h3 : ¬ 3 < (mbs (vm (Fm.enc t))).length) : rgF s (Fm.enc t) = firstG k t (sfrs 4) := by
  unfold rgF
  rw [if_neg (by rw [h]; decide), if_neg (by rw [h2]; omega), if_neg h3, dif_pos ⟨t, rfl⟩]
  have hx : ∃ s, Fm.enc t = Fm.enc s := ⟨t, rfl⟩
  have e : Classical.choose hx = t := enc_inj (Classical.choose_spec hx).symm
  have hk : (findS lgNames s).toNat = k := by rw [h2]; rfl
  show firstG (findS lgNames s).toNat (Classical.choose hx) (sfrs 4) = _
  rw [e, hk]
end Go.Proofs.YtpfncncohnhanaaGreatDoor


/- FnMonotone: what draws of posets reckon with: reflexive and transitive closure, numbering anew; only their shape is told. -/
namespace Go.Proofs.YtpfncncohnhanaaGreatDoor
open Go.RowKit

theorem NRow.own {w : World} {g n c B : Nat} {f : Nat → Nat} (h : NRow w g n c f) (hB : B ≤ g) : OwnI w B (.slice (some ⟨g, 0, none⟩) n c) (zs ((List.range n).map f)) := by
  obtain ⟨cur, h1, h2, hn, hm, h3⟩ := h
  have hl : (zs ((List.range n).map f)).length = n := by simp [zs]
  have hk := OwnI.mk_ (L := zs ((List.range n).map f)) hB h1 (by rw [hl]; exact hn) hm h2 (fun i hi => by
    rw [hl] at hi
    rw [h3 i hi]
    simp [it, zs, hi])
  rwa [hl] at hk
theorem own_nrow {w : World} {B c n : Nat} {A : Option Addr} {L : List Nat} (h : OwnI w B (.slice A n c) (zs L)) (hn : L.length = n) (h0 : 0 < n) :
    ∃ g, A = some ⟨g, 0, none⟩ ∧ B ≤ g ∧ NRow w g n c (nt L) := by
  rcases h.2 with ⟨he, _⟩ | ⟨g, c', cur, he, hB, hh, hnc, hcm, hcs, htk⟩
  · injection he with _ e2 _
    omega
  · injection he with e1 _ e3
    subst e1 e3
    refine ⟨g, rfl, hB, cur, hh, by omega, by rw [zs_len] at hnc; omega, hcm, fun i hi => ?_⟩
    have hc := h.ints.open_
    rcases hc with ⟨he, _⟩ | ⟨b, o, c3, he, _, _, _, hcell⟩
    · cases he
    · injection he with e1 _ _
      injection e1 with e1
      injection e1 with e1 e2
      subst e1 e2
      have := hcell i (by rw [zs_len]; omega) w (Grew.refl _)
      rw [Nat.zero_add, blk_cell hh, zs_it (by omega)] at this
      exact this

end Go.Proofs.YtpfncncohnhanaaGreatDoor


/- The source of the drawn inputs: l01Next. -/
namespace Go.Proofs.YtpfncncohnhanaaGreatDoor
open Go.RowKit

def Code (w : World) (g : Nat) (v : Value) (N : Nat) : Prop :=
  N ≤ 4096 ∧ (∃ A c, v = .slice A N c) ∧ (0 < N → ∃ b o c, v = .slice (some ⟨b, o, none⟩) N c ∧ b < g ∧ N ≤ c ∧ c ≤ 9223372036854775807 ∧ ∀ j, j < N → ∃ x : Int, 0 ≤ x ∧ x ≤ 255 ∧ w.cell? ⟨b, o + j, none⟩ = some (.int .u8 x))
theorem Code.only {w w' : World} {g : Nat} {v : Value} {N : Nat} (h : Code w g v N) (hg : g < w.heap.size) (ho : Only g w w') : Code w' g v N := by
  obtain ⟨h1, h2, h3⟩ := h
  refine ⟨h1, h2, fun hp => ?_⟩
  obtain ⟨b, o, c, e, hb, hc, hm, hx⟩ := h3 hp
  refine ⟨b, o, c, e, hb, hc, hm, fun j hj => ?_⟩
  obtain ⟨x, x0, x1, hcell⟩ := hx j hj
  exact ⟨x, x0, x1, (ho.cell (p := ⟨b, o + j, none⟩) (by show b < _; omega) (by show b ≠ g; omega)).trans hcell⟩

def Src (w : World) (g : Nat) (v : Value) (N : Nat) : Prop :=
  Code w g v N ∧ ∃ (i : Nat) (h : Int), i ≤ N ∧ 0 ≤ h ∧ h ≤ 18446744073709551615 ∧ w.heap[g]? = some (.cells #[v, .int .i64 i, .int .u64 h] 103 (0, 0))
theorem Src.lt {w : World} {g : Nat} {v : Value} {N : Nat} (h : Src w g v N) : g < w.heap.size := by
  obtain ⟨_, _, _, _, _, _, h⟩ := h
  exact blk_lt h
theorem Src.grew {w w' : World} {g : Nat} {v : Value} {N : Nat} (h : Src w g v N) (hg : Grew w w') : Src w' g v N := by
  have hl := h.lt
  obtain ⟨h1, i, x, h2, h3, h4, h5⟩ := h
  exact ⟨h1.only hl hg.only, i, x, h2, h3, h4, (hg.block hl).trans h5⟩

end Go.Proofs.YtpfncncohnhanaaGreatDoor


/- The drawn formula: l02Draw gives a tree of at most as many nodes as told. -/
namespace Go.Proofs.YtpfncncohnhanaaGreatDoor
open Go.RowKit
open Fm (Nd)

end Go.Proofs.YtpfncncohnhanaaGreatDoor


/- The tail of a list of nodes. -/
namespace Go.Proofs.YtpfncncohnhanaaGreatDoor
open Go.RowKit
open Fm (Nd)

theorem nodes_tail {w : World} {b o n c : Nat} {xs : List Nd} (h : Nodes w (.slice (some ⟨b, o, none⟩) n c) xs) (i : Nat) (hi : i ≤ n) (hn : n ≤ c) (hx : xs.length = n) : Nodes w (.slice (if c = i then some ⟨b, o, none⟩ else some ⟨b, o + i * 2, none⟩) (n - i) (c - i)) (xs.drop i) := by
  obtain ⟨h1, h2, h3⟩ := h
  have hl : (xs.drop i).length = n - i := by rw [List.length_drop]; omega
  unfold Nodes
  rw [hl]
  refine ⟨by rw [cells_length, hl], by omega, ?_⟩
  rcases h3 with ⟨h4, _⟩ | ⟨b', o', c', h4, h5, h6, h7, h8⟩
  · cases h4
  · obtain ⟨⟨rfl, rfl⟩, _, rfl⟩ : (b = b' ∧ o = o') ∧ n = xs.length ∧ c = c' := by simpa using h4
    refine .inr ⟨b, if c = i then o else o + i * 2, c - i, by split <;> rfl, by omega, by omega, h7, fun j u hu => ?_⟩
    have hj : j < (cells (xs.drop i)).length := (List.getElem?_eq_some_iff.1 hu).1
    rw [cells_length, hl] at hj
    rw [if_neg (by omega)]
    have e : cells xs = cells (xs.take i) ++ cells (xs.drop i) := by rw [← cells_append, List.take_append_drop]
    have hk : (cells (xs.take i)).length = i * 2 := by rw [cells_length, List.length_take]; congr 1; omega
    have := h8 (i * 2 + j) u (by rw [e, List.getElem?_append_right (by omega), hk]; simpa using hu)
    rw [Nat.add_assoc]
    exact this

end Go.Proofs.YtpfncncohnhanaaGreatDoor


/- A copy: l02Own of the reference. -/
namespace Go.Proofs.YtpfncncohnhanaaGreatDoor
open Go.RowKit
open Fm (Nd)

end Go.Proofs.YtpfncncohnhanaaGreatDoor


/- Drawn lists of nodes: l01Pick, l02Bend, l02Any give an own row of nodes that isn't long; what it holds does not matter. -/
namespace Go.Proofs.YtpfncncohnhanaaGreatDoor
open Go.RowKit
open Fm (Nd)

end Go.Proofs.YtpfncncohnhanaaGreatDoor


/- FnMonotone: the draw of a poset (l16Shuffle, l16Some); only its shape is told. -/
namespace Go.Proofs.YtpfncncohnhanaaGreatDoor
open Go.RowKit

theorem own_irow {w : World} {B c : Nat} {A : Option Addr} {L : List Int} (h : OwnI w B (.slice A L.length c) L) (h0 : 0 < L.length) :
    ∃ g cur, A = some ⟨g, 0, none⟩ ∧ B ≤ g ∧ w.heap[g]? = some (.cells cur 2 (0, 0)) ∧ (L.length ≤ c ∧ c ≤ 9223372036854775807 ∧ cur.size = c) ∧ ∀ i, i < L.length → cur[i]? = some (.int .i64 (it L i)) := by
  have hI := h.ints
  rcases h.2 with ⟨he, _⟩ | ⟨g, c', cur, he, hB, hh, hnc, hcm, hcs, htk⟩
  · injection he with _ e2 _
    omega
  · injection he with e1 _ e3
    subst e1 e3
    refine ⟨g, cur, rfl, hB, hh, ⟨hnc, hcm, by omega⟩, fun i hi => ?_⟩
    rcases hI.open_ with ⟨he, _⟩ | ⟨b, o, c3, he, _, _, _, hcell⟩
    · cases he
    · injection he with e1 _ _
      injection e1 with e1
      injection e1 with e1 e2
      subst e1 e2
      have := hcell i hi w (Grew.refl _)
      rwa [Nat.zero_add, blk_cell hh] at this
theorem NRow.only {w w' : World} {g gs n c : Nat} {f : Nat → Nat} (h : NRow w g n c f) (ho : Only gs w w') (hne : g ≠ gs) : NRow w' g n c f := by
  have hl := h.lt
  obtain ⟨cur, h1, h2⟩ := h
  exact ⟨cur, (ho.block hl hne).trans h1, h2⟩

end Go.Proofs.YtpfncncohnhanaaGreatDoor


/- Frames: isFrame of the program, l05Is of the reference. -/
namespace Go.Proofs.YtpfncncohnhanaaGreatDoor
open Go.RowKit

end Go.Proofs.YtpfncncohnhanaaGreatDoor


/- The draw of a frame: l05Make, l05Some of the reference; only the shape is told. -/
namespace Go.Proofs.YtpfncncohnhanaaGreatDoor
open Go.RowKit

theorem l05Make_c (v : Value) (L : List Int) (w : World) (h : Ints w v L) (hn : L.length ≤ 1099511627776) :
    Calls Tryz.prog 112 #[v] w (GivesPs w L) := by
  have hinfo := info2F
  have HC := Lib.hid (fun W hW => ownR_c v L W (h.grew hW) hn)
  have hmx : L.length ≤ 9223372036854775807 := h.2.1
  obtain ⟨A, c, rfl⟩ := ints_slice h
  clear h
  generalize hNL : L.length = n at *
  go_enter Tryz.func112, Tryz.ntmps112
  go_wp2_with fail
  refine (HC.out _ ((Grew.refl w).alloc _)).mono ?_
  rintro e w2 ⟨v2, rfl, hO2, hg2⟩
  obtain ⟨A2, c2, rfl⟩ := ints_slice hO2.ints
  have hb2 : w2.heap[w.heap.size]? = some (.cells #[.int .i64 0, .slice none 0 0] 26 (0, 0)) := (hg2.block (by simp)).trans (blk_new w _)
  have c0 : w2.cell? ⟨w.heap.size, 0, none⟩ = some (.int .i64 0) := by rw [blk_cell hb2]; rfl
  have c1 : w2.cell? ⟨w.heap.size, 1, none⟩ = some (.slice none 0 0) := by rw [blk_cell hb2]; rfl
  have f0 := blk_frozen hb2 0
  have f1 := blk_frozen hb2 1
  have HB2 := Lib.hid hb2
  have HO2 := Lib.hid hO2
  clear hb2 hO2
  rw [hNL]
  go_wp2_with fail
  (try simp only [Exit.inBlock, Exit.then])
  refine bodyPost_ret (results_cell_row rfl _ _ w.heap.size _ _ _ _ rfl (blk_set (blk_set HB2.out 0 _) 1 _) Tryz.underlying26 rfl hinfo) rfl ?_
  have hk : Only w.heap.size w2 ((w2.setCell ⟨w.heap.size, 0, none⟩ (.int .i64 (n : Int))).setCell ⟨w.heap.size, 1, none⟩ (.slice A2 n c2)) := ((Only.refl _ _).setCell _).setCell _
  have hO := HO2.out
  rw [hNL] at hO
  refine ⟨_, by rw [hNL]; rfl, ?_, (((Grew.refl w).alloc _).trans hg2).setCell (Nat.le_refl _) _ |>.setCell (Nat.le_refl _) _⟩
  exact OwnI.base (own_only hO hk (fun hh => by have := own_of_ge hO hh; simp at this; omega)) (by simp)
end Go.Proofs.YtpfncncohnhanaaGreatDoor


/- Rows of frames of the call's own. -/
namespace Go.Proofs.YtpfncncohnhanaaGreatDoor
open Go.RowKit

def fscells (ps : List (Value × List Nat)) : List Value := ps.flatMap fun p => [.int .i64 (p.2.length : Int), p.1]
theorem fscells_append (ps qs : List (Value × List Nat)) : fscells (ps ++ qs) = fscells ps ++ fscells qs := by simp [fscells]
theorem fscells_at (ps : List (Value × List Nat)) : ∀ i p, ps[i]? = some p → (fscells ps)[i * 2]? = some (.int .i64 (p.2.length : Int)) ∧ (fscells ps)[i * 2 + 1]? = some p.1 := by
  induction ps with
  | nil => intro i p hi; simp at hi
  | cons x ps ih =>
    intro i p hi
    match i with
    | 0 => simp at hi; subst hi; exact ⟨rfl, rfl⟩
    | i + 1 =>
      have h := ih i p (by simpa using hi)
      have e1 : (i + 1) * 2 = i * 2 + 1 + 1 := by omega
      rw [e1]
      show ([Value.int .i64 (x.2.length : Int), x.1] ++ fscells ps)[i * 2 + 1 + 1]? = _ ∧ ([Value.int .i64 (x.2.length : Int), x.1] ++ fscells ps)[i * 2 + 1 + 1 + 1]? = _
      simpa using h
def OwnFs (w : World) (B : Nat) (v : Value) (Ls : List (List Nat)) : Prop := ∃ ps : List (Value × List Nat), ps.map (fun p => p.2) = Ls ∧ w.ownsRow B 26 2 v Ls.length (fscells ps) ∧ ∀ p ∈ ps, OwnI w B p.1 (zs p.2)
theorem OwnFs.nil_ (w : World) (B : Nat) : OwnFs w B (.slice none 0 0) [] := ⟨[], rfl, World.ownsRow_nil w B _ 2, fun p hp => by cases hp⟩
theorem OwnFs.lit (w : World) : OwnFs (w.alloc (.cells #[] 26)) w.heap.size (.slice (some ⟨w.heap.size, 0, none⟩) 0 0) [] :=
  ⟨[], rfl, World.ownsRow_lit (e := 26) (size := 2) w #[] 0 (Nat.le_refl _) (by first | omega | decide | simp) rfl, fun p hp => by cases hp⟩
theorem OwnFs.grew {w w' : World} {B : Nat} {v : Value} {Ls : List (List Nat)} (h : OwnFs w B v Ls) (hg : Grew w w') : OwnFs w' B v Ls := by
  obtain ⟨ps, h1, h2, h3⟩ := h
  exact ⟨ps, h1, own_grew h2 hg, fun p hp => (h3 p hp).grew hg⟩
theorem OwnFs.base {w : World} {B B' : Nat} {v : Value} {Ls : List (List Nat)} (h : OwnFs w B v Ls) (hb : B' ≤ B) : OwnFs w B' v Ls := by
  obtain ⟨ps, h1, h2, h3⟩ := h
  exact ⟨ps, h1, own_base h2 hb, fun p hp => (h3 p hp).base hb⟩
theorem OwnFs.slice {w : World} {B : Nat} {v : Value} {Ls : List (List Nat)} (h : OwnFs w B v Ls) : ∃ A c, v = .slice A Ls.length c := by
  obtain ⟨ps, h1, h2, h3⟩ := h
  obtain ⟨_, h4⟩ := h2
  rcases h4 with ⟨rfl, h5⟩ | ⟨g, cap, cur, rfl, hb, hg, hnc, hcm, hcs, ht⟩
  · rw [h5]; exact ⟨_, _, rfl⟩
  · exact ⟨_, _, rfl⟩
theorem OwnFs.ge {w : World} {B : Nat} {v : Value} {Ls : List (List Nat)} (h : OwnFs w B v Ls) {g : Nat} (hg : v.ownBlock = some g) : B ≤ g := by
  obtain ⟨ps, h1, h2, h3⟩ := h
  exact own_of_ge h2 hg
theorem OwnFs.at_ {w : World} {B : Nat} {v : Value} {Ls : List (List Nat)} (h : OwnFs w B v Ls) {i : Nat} (hi : i < Ls.length) : ∃ g c u, v = .slice (some ⟨g, 0, none⟩) Ls.length c ∧ g < w.heap.size ∧
    (∀ W, Grew w W → W.cell? ⟨g, i * 2, none⟩ = some (.int .i64 ((Ls.getD i []).length : Int)) ∧ W.cell? ⟨g, i * 2 + 1, none⟩ = some u) ∧ OwnI w B u (zs (Ls.getD i [])) := by
  obtain ⟨ps, h1, h2, h3⟩ := h
  have hl : ps.length = Ls.length := by rw [← h1, List.length_map]
  obtain ⟨_, h4⟩ := h2
  rcases h4 with ⟨_, h5⟩ | ⟨g, cap, cur, rfl, hb, hg, hnc, hcm, hcs, ht⟩
  · omega
  · have hp : ps[i]? = some (ps[i]'(by omega)) := List.getElem?_eq_getElem (by omega)
    have he : Ls.getD i [] = (ps[i]'(by omega)).2 := by
      have h6 : Ls[i]? = some (ps[i]'(by omega)).2 := by simp only [← h1, List.getElem?_map, hp]; rfl
      simp only [List.getD, h6]; rfl
    obtain ⟨e1, e2⟩ := fscells_at ps i _ hp
    refine ⟨g, cap, (ps[i]'(by omega)).1, rfl, blk_lt hg, fun W hW => ⟨?_, ?_⟩, by rw [he]; exact h3 _ (List.getElem_mem _)⟩
    · rw [hW.cell (p := ⟨g, i * 2, none⟩) (blk_lt hg), blk_cell hg, he, ← e1, ← ht, List.getElem?_take, if_pos (by omega)]
      simp
    · rw [hW.cell (p := ⟨g, i * 2 + 1, none⟩) (blk_lt hg), blk_cell hg, ← e2, ← ht, List.getElem?_take, if_pos (by omega)]
      simp
theorem infoFs : (Tryz.prog.info? 26).map (fun i => (i.zero, i.size, i.bytes)) = some (some (.agg #[.int .i64 0, .slice none 0 0]), 2, 32) := by kernel_rfl
theorem tyFs : (2 : TypeId) ≠ 26 := by decide
theorem rd_litFs (w : World) (k : Int) (u : Value) (t : TypeId) : Rd (w.alloc (.cells #[.int .i64 k, u] t)) 2 (.slice (some ⟨w.heap.size, 0, none⟩) 1 1) 1 [.int .i64 k, u] := by
  refine ⟨rfl, by omega, .inr ⟨w.heap.size, 0, 1, rfl, by omega, by omega, by simp, fun j x hx => ?_⟩⟩
  have hj : j = 0 ∨ j = 1 := by
    have := (List.getElem?_eq_some_iff.1 hx).1
    simp at this
    omega
  rcases hj with rfl | rfl
  · simp at hx; subst hx; simp
  · simp at hx; subst hx; simp
theorem wpList_appFs {ops : Array Oper} {rest : List Oper} {o : Oper} {a : Act} {Q : Exit → Act → World → Prop} {w : World} (B : Nat) (s x : Operand) (hgd : o.guard = none)
    (ho : o.op = .call { callee := .builtin .append, args := #[s, x], argTypes := #[48, 48] })
    (v : Value) (Ls : List (List Nat)) (hs : a.eval s = v) (hown : OwnFs w B v Ls) (hB : B ≤ w.heap.size) (vx : Value) (qs : List (Value × List Nat)) (hx : a.eval x = vx) (hr : Rd w 2 vx qs.length (fscells qs)) (hu : ∀ p ∈ qs, OwnI w B p.1 (zs p.2)) (hn : Ls.length + qs.length ≤ 1048577)
    (h : ∀ v' w', OwnFs w' B v' (Ls ++ qs.map (fun p => p.2)) → w.grownBy w' v.ownBlock → (v'.ownBlock = v.ownBlock ∨ v'.ownBlock = some w.heap.size) → wpList Tryz.prog ops Q rest (a.put o.dst v') w') : wpList Tryz.prog ops Q (o :: rest) a w := by
  obtain ⟨i0, hi0, hz0, hz1, hz2⟩ := info_parts infoFs
  obtain ⟨ps, h1, h2, h3⟩ := hown
  have hone : ∀ u ∈ fscells qs, u.oneCell' = true := by
    intro u hu1
    unfold fscells at hu1
    obtain ⟨p, hp, hq⟩ := List.mem_flatMap.1 hu1
    simp at hq
    rcases hq with rfl | rfl
    · rfl
    · obtain ⟨A, c, hA⟩ := ints_sliceN (hu p hp).ints
      rw [hA]
      rfl
  refine wpList_append_rd w hgd s x _ ho B 26 i0 _ 2 32 Tryz.underlying48 hi0 hz0 hz1 hz2 rfl (by omega) v Ls.length (fscells ps) hs h2 vx qs.length (fscells qs) hx hr hone (by unfold maxLen; omega) (by omega) hB ?_
  intro v' w' k1 k2 k3
  refine h v' w' ⟨ps ++ qs, by rw [List.map_append, h1], ?_, fun p hp => ?_⟩ k2 k3
  · rw [List.length_append, List.length_map, fscells_append]
    exact k1
  · rcases List.mem_append.1 hp with hp | hp
    · exact kept_of (h3 p hp) k2 (types_ne (h3 p hp) h2 tyFs)
    · exact kept_of (hu p hp) k2 (types_ne (hu p hp) h2 tyFs)
theorem OwnFs.rd {w : World} {B : Nat} {v : Value} {Ls : List (List Nat)} (h : OwnFs w B v Ls) : ∃ qs : List (Value × List Nat), qs.map (fun p => p.2) = Ls ∧ qs.length = Ls.length ∧ Rd w 2 v qs.length (fscells qs) ∧ ∀ p ∈ qs, OwnI w B p.1 (zs p.2) := by
  obtain ⟨ps, h1, h2, h3⟩ := h
  have hl : ps.length = Ls.length := by rw [← h1, List.length_map]
  exact ⟨ps, h1, hl, by rw [hl]; exact Rd.of_own h2, h3⟩
end Go.Proofs.YtpfncncohnhanaaGreatDoor


/- The program's numbering anew: reordered. -/
namespace Go.Proofs.YtpfncncohnhanaaGreatDoor
open Go.RowKit

def prK (f : Nat → Nat) (L : List Nat) : Nat → Nat
  | 0 => 0
  | k + 1 => prK f L k ||| 2 ^ f (nt L k)
theorem prK_bit (f : Nat → Nat) (L : List Nat) : ∀ k j, (prK f L k).testBit j = true ↔ ∃ i, i < k ∧ f (nt L i) = j
  | 0, j => by
    show (0 : Nat).testBit j = true ↔ _
    rw [Nat.zero_testBit]
    constructor
    · intro h; cases h
    · rintro ⟨i, h, _⟩; omega
  | k + 1, j => by
    show (prK f L k ||| 2 ^ f (nt L k)).testBit j = true ↔ _
    rw [Nat.testBit_or, Bool.or_eq_true, prK_bit f L k j, Nat.testBit_two_pow, decide_eq_true_eq]
    constructor
    · rintro (⟨i, h1, h2⟩ | h)
      · exact ⟨i, by omega, h2⟩
      · exact ⟨k, by omega, h⟩
    · rintro ⟨i, h1, h2⟩
      by_cases hi : i = k
      · subst hi; exact .inr h2
      · exact .inl ⟨i, by omega, h2⟩
theorem prK_all {A O : List Nat} {f : Nat → Nat} {n x : Nat} (hA : Rl A) (hl : A.length = n) (hO : IsPm n O) (hf : ∀ i, i < n → f (nt O i) = i) (hx : x < n) :
    prK f (mbs (nt A x)) (mbs (nt A x)).length = sqK (nt A x) O n := by
  have hm : nt A x < 1073741824 := hA.sm.at_ (by omega)
  apply Nat.eq_of_testBit_eq
  intro j
  rw [Bool.eq_iff_iff, prK_bit, sqK_bit, Bool.and_eq_true, decide_eq_true_eq]
  constructor
  · rintro ⟨i, h1, rfl⟩
    have h2 := (mbs_mem hm).1 (nt_mem h1)
    have h3 : nt (mbs (nt A x)) i < n := by rw [← hl]; exact hA.bit (by omega) h2
    obtain ⟨k, hk, he⟩ := hO.hit h3
    rw [← he, hf k hk]
    exact ⟨hk, by rw [he]; exact h2⟩
  · rintro ⟨h1, h2⟩
    obtain ⟨i, hi, he⟩ := mem_nt ((mbs_mem hm).2 h2)
    exact ⟨i, hi, by rw [he, hf j h1]⟩
theorem prK_sm {f : Nat → Nat} {L : List Nat} (h : ∀ y ∈ L, f y < 30) : ∀ k, k ≤ L.length → prK f L k < 1073741824
  | 0, _ => by show 0 < _; omega
  | k + 1, hk => or_sm (prK_sm h k (by omega)) (pow30 (h _ (nt_mem (by omega))))

set_option maxHeartbeats 2000000 in
theorem reordered_c (v u : Value) (A O : List Nat) (w : World) (h : Ints w v (zs A)) (hu : Ints w u (zs O)) (hA : Rl A) (hO : IsPm A.length O) (hn : A.length ≤ 6) :
    Calls Tryz.prog 105 #[v, u] w (GivesI w (zs (reo A O))) := by
  have hmk := fun W => run_make_rows (P := Tryz.prog) 24 2 (.int .i64 0) 1 8 #[.int .i64 0] Tryz.underlying24 Tryz.infoI rfl .i64 .i64 A.length (by omega) (by omega) W
  rw [Nat.mul_one] at hmk
  have HNR := Lib.hid (fun W : World => (show NRow (W.alloc (.cells (madeCells #[Value.int .i64 0] A.length) 2)) W.heap.size A.length A.length (fun _ => 0) from ⟨_, blk_new W _, size_madeCells _ _, Nat.le_refl _, by omega, fun i hi => made_z hi⟩))
  have HOL := Lib.hid hO.1
  have HOI := Lib.hid (fun i (hi : i < A.length) => hO.2.2 _ (nt_mem (by rw [hO.1]; exact hi)))
  have HIN := Lib.hid (fun i j (hi : i < A.length) (hj : j < A.length) (he : nt O i = nt O j) => nodup_inj hO.2.1 (by rw [hO.1]; exact hi) (by rw [hO.1]; exact hj) he)
  have HM := Lib.hid (fun x (hx : x < A.length) => membersOf_c (nt A x) (hA.sm.at_ hx))
  have HMB := Lib.hid (fun x (hx : x < A.length) y (hy : y ∈ mbs (nt A x)) => hA.bit hx ((mbs_mem (hA.sm.at_ hx)).1 hy))
  have HPA := Lib.hid (fun (f : Nat → Nat) x (hf : ∀ i, i < A.length → f (nt O i) = i) (hx : x < A.length) => prK_all hA rfl hO hf hx)
  have HRN := Lib.hid (fun i (hi : i < A.length) => (show nt (reo A O) i = sqK (nt A (nt O i)) O A.length by rw [reo_nt (by rw [hO.1]; exact hi), hO.1]))
  have HHI := Lib.hid (fun x (hx : x < A.length) => hO.hit hx)
  have HRE : Hid (reo A O = (List.range A.length).map (nt (reo A O))) := Lib.hid (by
    apply List.ext_getElem
    · simp [reo, hO.1]
    · intro i h1 h2
      rw [nt_get h1]
      simp)
  have HOR := Lib.hid (fun a k (ha : a < 1073741824) (h : k < 30) => or_i64 a (2 ^ k) (by omega) (Nat.lt_trans (pow30 h) (by omega)))
  have HMC := Lib.hid (fun x (hx : x < A.length) => mbs_len (nt A x))
  obtain ⟨A1, c1, rfl⟩ := ints_sliceN h
  obtain ⟨A2, c2, rfl⟩ := ints_sliceN hu
  have HC := Lib.hid (fun h0 => cellsN h h0)
  have HD := Lib.hid (fun h0 => cellsN hu h0)
  rw [hO.1] at HD ⊢
  clear h hu hA hO
  generalize hnn : A.length = n at *
  clear hnn
  generalize reo A O = R at *
  generalize madeCells #[Value.int .i64 0] n = cur0 at *
  go_enter Tryz.func105, Tryz.ntmps105
  go_wp2_with fail
  have hg1 := (Grew.refl w).alloc (.cells cur0 2)
  have HR1 := Lib.hid (HNR.out w)
  go_loopw [6, 7, 18] (fun _ _ i wr => ∃ (k : Nat) (f : Nat → Nat), k ≤ n ∧ i = .int .i64 k ∧ Hid (NRow wr w.heap.size n n f) ∧ Hid (∀ j, j < k → f (nt O j) = j) ∧ Grew w wr) (fun _ _ i _ => n - (intOf i).toNat)
  case atStart => exact ⟨0, _, by omega, rfl, HR1, Lib.hid (fun j hj => absurd hj (by omega)), hg1⟩
  clear HR1 hg1
  case round =>
    obtain ⟨k, f, hk, rfl, hR, hK, hB⟩ := hrel
    by_cases hlt : k < n
    · obtain ⟨b, o, rfl, hcell⟩ := HD.out (by omega)
      have k1 := hcell k hlt _ hB
      have hx := HOI.out k hlt
      have c4 := hR.out.cell hx
      have f4 := hR.out.free (nt O k)
      have e1 : (fun q => if q = nt O k then k else f q) (nt O k) = k := if_pos rfl
      have e2 : ∀ q, q < n → q ≠ nt O k → (fun q => if q = nt O k then k else f q) q = f q := fun q _ hq => if_neg hq
      have hR2 := Lib.hid (hR.out.set hx e1 e2)
      have hK2 : Hid (∀ j, j < k + 1 → (fun q => if q = nt O k then k else f q) (nt O j) = j) := Lib.hid (fun j hj => by
        by_cases hjk : j = k
        · subst hjk; exact if_pos rfl
        · have hne : nt O j ≠ nt O k := fun he => hjk (HIN.out j k (by omega) hlt he)
          show (if nt O j = nt O k then k else f (nt O j)) = j
          rw [if_neg hne]
          exact hK.out j (by omega))
      clear e1 e2 hcell
      generalize nt O k = x at *
      go_wp2_with fail
      go_roundw
      case rel => exact ⟨k + 1, _, by omega, by go_num, hR2, hK2, hB.setCell (Nat.le_refl _) _⟩
      case measure => simp [intOf]; omega
    · obtain rfl : k = n := by omega
      have HF := Lib.hid hK.out
      have HR0 := Lib.hid hR.out
      clear hR hK
      generalize wr = wm at *
      have hgm := (Grew.refl wm).alloc (.cells cur0 2)
      have HR1 := Lib.hid (HNR.out wm)
      have HR2 := Lib.hid (HR0.out.grew hgm)
      have hBm := hB.trans hgm
      have hgo := HR0.out.lt
      go_wp2_with fail
      go_loopw [9, 10, 12, 33, 42, 43, 44] (fun _ _ _ i _ _ _ wr => ∃ (j : Nat) (g : Nat → Nat), j ≤ k ∧ i = .int .i64 j ∧ Hid (NRow wr wm.heap.size k k g) ∧ Hid (∀ q, q < j → g q = nt R q) ∧ Hid (∀ q, j ≤ q → q < k → g q = 0) ∧ Hid (NRow wr w.heap.size k k f) ∧ Grew w wr) (fun _ _ _ i _ _ _ _ => k - (intOf i).toNat)
      case atStart => exact ⟨0, _, by omega, rfl, HR1, Lib.hid (fun q hq => absurd hq (by omega)), Lib.hid (fun q _ _ => rfl), HR2, hBm⟩
      clear HR1 HR2 hgm hBm
      case round =>
        obtain ⟨j, g, hj, rfl, hG, hgA, hgZ, hT, hB2⟩ := hrel
        by_cases hlj : j < k
        · obtain ⟨b, o, rfl, hcell⟩ := HD.out (by omega)
          have k1 := hcell j hlj _ hB2
          have hx := HOI.out j hlj
          obtain ⟨b2, o2, rfl, hcell2⟩ := HC.out (by omega)
          have k2 := hcell2 _ hx _ hB2
          have hM := Lib.hid (HM.out _ hx)
          have hMB := Lib.hid (HMB.out _ hx)
          have hPA := Lib.hid (HPA.out f _ HF.out hx)
          have hRN := Lib.hid (HRN.out j hlj)
          have hml := HMC.out _ hx
          have hFL := Lib.hid (fun y (hy : y ∈ mbs (nt A (nt O j))) => (show f y < k by obtain ⟨i, hi, he⟩ := HHI.out y (hMB.out y hy); rw [← he, HF.out i hi]; exact hi))
          clear hcell hcell2
          generalize nt O j = x at *
          generalize nt A x = m at *
          go_wp2_with fail
          refine (hM.out _).mono ?_
          rintro e w4 ⟨v4, rfl, hO4, hg4⟩
          obtain ⟨A4, c4, rfl⟩ := ints_sliceN hO4.ints
          have hlw0 := hG.out.lt
          have HE := Lib.hid (fun h0 => cellsO hO4 h0)
          have hB4 := hB2.trans hg4
          have hlw := hG.out.lt
          have hG4 : Hid (NRow w4 wm.heap.size k k (fun q => if q = j then prK f (mbs m) 0 else g q)) := Lib.hid (by
            have h0 := hG.out.grew hg4
            obtain ⟨cur, q1, q2, q3, q4, q5⟩ := h0
            refine ⟨cur, q1, q2, q3, q4, fun i hi => ?_⟩
            rw [q5 i hi]
            by_cases hij : i = j
            · subst hij
              rw [hgZ.out i (Nat.le_refl _) hi]
              simp [prK]
            · simp [hij])
          have hT4 := Lib.hid (hT.out.grew hg4)
          have hwg := hO4.lt
          clear hO4 hG hT
          generalize hLL : mbs m = L at *
          clear hLL
          generalize hNL : L.length = nl at *
          have HNL := Lib.hid hNL
          clear hNL
          generalize wr = wi at *
          go_wp2_with fail
          go_loopw [12, 44] (fun _ i wr => ∃ q : Nat, q ≤ nl ∧ i = .int .i64 q ∧ Hid (NRow wr wm.heap.size k k (fun z => if z = j then prK f L q else g z)) ∧ Hid (NRow wr w.heap.size k k f) ∧ Only wm.heap.size w4 wr) (fun _ i _ => nl - (intOf i).toNat)
          case atStart => exact ⟨0, by omega, rfl, hG4, hT4, Only.refl _ _⟩
          clear hG4 hT4
          case round =>
            obtain ⟨q, hq, rfl, hG5, hT5, hU5⟩ := hrel
            by_cases hlq : q < nl
            · obtain ⟨b4, rfl, hb4, hb4w, hc4⟩ := HE.out (by omega)
              have hne : b4 ≠ wm.heap.size := by omega
              have k4 := (hU5.cell (p := ⟨b4, q, none⟩) hb4w hne).trans (hc4 q (by omega))
              have hyL : nt L q ∈ L := nt_mem (by rw [HNL.out]; exact hlq)
              have hyk := hMB.out _ hyL
              have hfy := hFL.out _ hyL
              have hsm : prK f L q < 1073741824 := prK_sm (fun y hy => by have := hFL.out y hy; omega) q (by rw [HNL.out]; exact hq)
              have ho := HOR.out (prK f L q) (f (nt L q)) hsm (by omega)
              have hp := wrap_pow (k := f (nt L q)) (by omega)
              have hst : Hid (prK f L (q + 1) = prK f L q ||| 2 ^ f (nt L q)) := Lib.hid rfl
              have c1 : ∀ W, Grew wr W → W.cell? ⟨wm.heap.size, j, none⟩ = some (.int .i64 ((prK f L q : Nat) : Int)) := fun W hW => by
                have h0 := (hG5.out.grew hW).cell hlj
                rw [if_pos rfl] at h0
                exact h0
              have c2 : ∀ W, Grew wr W → W.cell? ⟨w.heap.size, nt L q, none⟩ = some (.int .i64 ((f (nt L q) : Nat) : Int)) := fun W hW => (hT5.out.grew hW).cell hyk
              have c3 : ∀ W, Grew wr W → W.frozen? ⟨wm.heap.size, j, none⟩ = false := fun W hW => (hG5.out.grew hW).free j
              have e1 : (fun z => if z = j then prK f L (q + 1) else g z) j = prK f L (q + 1) := if_pos rfl
              have e2 : ∀ z, z < k → z ≠ j → (fun z => if z = j then prK f L (q + 1) else g z) z = (fun z => if z = j then prK f L q else g z) z := fun z _ hz => by
                show (if z = j then prK f L (q + 1) else g z) = (if z = j then prK f L q else g z)
                rw [if_neg hz, if_neg hz]
              have hG6 := (hG5.out.set hlj e1 e2).grew (Grew.refl _).drew
              rw [hst.out] at hG6
              have hU6 : Only wm.heap.size w4 (wr.setCell ⟨wm.heap.size, j, none⟩ (.int .i64 ((prK f L (q + 1) : Nat) : Int))).drew := (hU5.setCell _).drew
              have hwne : w.heap.size ≠ wm.heap.size := by omega
              have hT6 : NRow (wr.setCell ⟨wm.heap.size, j, none⟩ (.int .i64 ((prK f L (q + 1) : Nat) : Int))).drew w.heap.size k k f := by
                obtain ⟨cur, z1, z2⟩ := hT5.out
                exact ⟨cur, (Below.heap_setCell wr ⟨wm.heap.size, j, none⟩ _ _ hwne).trans z1, z2⟩
              rw [hst.out] at hU6 hT6
              have HX := Lib.hid (And.intro hG6 (And.intro hU6 hT6))
              have i1 : (0 : Int) ≤ (j : Int) := by omega
              have i2 : (j : Int) < (k : Int) := by omega
              have i3 : (0 : Int) ≤ ((nt L q : Nat) : Int) := by omega
              have i4 : ((nt L q : Nat) : Int) < (k : Int) := by omega
              have r1 := Grew.refl wr
              have r2 := (Grew.refl wr).drew
              have HST := Lib.hid hst.out
              clear e1 e2 hG6 hU6 hT6 hst hc4 hyL hsm
              generalize nt L q = y at *
              generalize f y = fy at *
              obtain ⟨P, hP⟩ : ∃ P, P = 2 ^ fy := ⟨_, rfl⟩
              rw [← hP] at ho hp HX HST
              clear hP
              generalize prK f L q = pr at *
              go_wp2_with fail
              go_region
              go_wp2_with fail
              go_roundw
              case rel => exact ⟨q + 1, by omega, by go_num, Lib.hid (by rw [HST.out]; exact HX.out.1), Lib.hid HX.out.2.2, HX.out.2.1⟩
              case measure => simp [intOf]; omega
            · obtain rfl : q = nl := by omega
              have hB5 := hU5.grew_of hB4 (by have := hB.size; omega)
              have hj1 : Hid (∀ z, z < j + 1 → (fun z => if z = j then prK f L q else g z) z = nt R z) := Lib.hid (fun z hz => by
                show (if z = j then prK f L q else g z) = nt R z
                by_cases hzj : z = j
                · rw [if_pos hzj, hzj, hRN.out, ← hPA.out]
                · rw [if_neg hzj]
                  exact hgA.out z (by omega))
              have hj2 : Hid (∀ z, j + 1 ≤ z → z < k → (fun z => if z = j then prK f L q else g z) z = 0) := Lib.hid (fun z h1 h2 => by
                show (if z = j then prK f L q else g z) = 0
                rw [if_neg (by omega)]
                exact hgZ.out z (by omega) h2)
              go_wp2_with fail
              go_roundw
              case rel => exact ⟨j + 1, _, by omega, by go_num, hG5, hj1, hj2, hT5, hB5⟩
              case measure => simp [intOf]; omega
        · obtain rfl : j = k := by omega
          have hRR : Hid ((List.range j).map g = R) := Lib.hid (by
            rw [HRE.out]
            refine List.map_congr_left fun i hi => ?_
            exact hgA.out i (List.mem_range.1 hi))
          go_wp2_with fail
          go_ret
          refine ⟨_, rfl, ?_, hB2⟩
          rw [← hRR.out]
          exact hG.out.own hB.size
end Go.Proofs.YtpfncncohnhanaaGreatDoor


/- The program's least form: permutations (with the callback of leastRelation), leastRelation. -/
namespace Go.Proofs.YtpfncncohnhanaaGreatDoor
open Go.RowKit

theorem wpList_appIBL {ops : Array Oper} {rest : List Oper} {o : Oper} {a : Act} {Q : Exit → Act → World → Prop} {w : World} (B : Nat) (s x : Operand) (hgd : o.guard = none)
    (ho : o.op = .call { callee := .builtin .append, args := #[s, x], argTypes := #[24, 24] })
    (v : Value) (L : List Int) (hs : a.eval s = v) (hown : OwnI w B v L) (hB : B ≤ w.heap.size) (vx : Value) (k : Int) (hx : a.eval x = vx) (hr : Rd w 1 vx 1 [.int .i64 k]) (hn : L.length ≤ 1048576)
    (h : ∀ v' w', OwnI w' B v' (L ++ [k]) → w.grownBy w' v.ownBlock → (v'.ownBlock = v.ownBlock ∨ v'.ownBlock = some w.heap.size) → wpList Tryz.prog ops Q rest (a.put o.dst v') w') : wpList Tryz.prog ops Q (o :: rest) a w := by
  obtain ⟨i0, hi0, hz0, hz1, hz2⟩ := info_parts Tryz.infoI
  refine wpList_append_rd w hgd s x _ ho B 2 i0 _ 1 8 Tryz.underlying24 hi0 hz0 hz1 hz2 rfl (by omega) v L.length (icells L) hs hown vx 1 [.int .i64 k] hx hr (by simp [Value.oneCell']) (by unfold maxLen; omega) (by omega) hB ?_
  intro v' w' h1 h2 h3
  refine h v' w' ?_ h2 h3
  unfold OwnI
  rw [List.length_append, icells_append]
  exact h1
theorem OwnI.take {w : World} {B n c : Nat} {A : Option Addr} {L : List Int} (h : OwnI w B (.slice A (n + 1) c) L) (hl : L.length = n + 1) : OwnI w B (.slice A n c) (L.take n) := by
  rcases h.2 with ⟨he, _⟩ | ⟨g, c', cur, he, hB, hh, hnc, hcm, hcs, htk⟩
  · cases he
  · injection he with e1 e2 e3
    subst e1 e3
    have h2 := own_irow (w := w) (B := B) (c := c) (A := some ⟨g, 0, none⟩) (L := L) (by rw [hl]; exact h) (by omega)
    obtain ⟨g', cur', he', hB', hh', hcs', hall⟩ := h2
    injection he' with he'
    injection he' with he'
    subst he'
    have hlt : (L.take n).length = n := by rw [List.length_take]; omega
    have hk := OwnI.mk_ (L := L.take n) hB' hh' (by rw [hlt]; omega) hcs'.2.1 hcs'.2.2 (fun i hi => by
      rw [hlt] at hi
      rw [hall i (by omega)]
      simp [it, List.getD, hi])
    rwa [hlt] at hk

structure GS (w0 : World) (A : List Nat) (bA bB bN bF bO bG Bo : Nat) (va vF vG : Value) (W : World) (o : List Nat) (vO : Value) (b : List Nat) (vb : Value) : Prop where
  grew : Grew w0 W
  hA : W.heap[bA]? = some (.cells #[va] 24 (0, 0))
  hB : W.heap[bB]? = some (.cells #[vb] 24 (0, 0))
  hN : W.heap[bN]? = some (.cells #[.int .i64 (A.length : Int)] 2 (0, 0))
  hF : W.heap[bF]? = some (.cells #[vF] 122 (0, 0))
  hO : W.heap[bO]? = some (.cells #[vO] 24 (0, 0))
  hG : W.heap[bG]? = some (.cells #[vG] 155 (0, 0))
  own : OwnI W Bo vO (zs o)
  best : OwnI W w0.heap.size vb (zs b)
  apart : ∀ g, vO.ownBlock = some g → vb.ownBlock ≠ some g
  len : b.length = A.length
theorem blk_ltM {w : World} {k : Nat} {o : Obj} (h : w.heap[k]? = some o) : k < w.heap.size := (Array.getElem?_eq_some_iff.1 h).1
section
variable {w0 : World} {A : List Nat} {bA bB bN bF bO bG Bo : Nat} {va vF vG : Value}
theorem GS.up {W W' : World} {o b : List Nat} {vO vb : Value} (h : GS w0 A bA bB bN bF bO bG Bo va vF vG W o vO b vb) (hg : Grew W W') : GS w0 A bA bB bN bF bO bG Bo va vF vG W' o vO b vb :=
  ⟨h.grew.trans hg, (hg.block (blk_ltM h.hA)).trans h.hA, (hg.block (blk_ltM h.hB)).trans h.hB, (hg.block (blk_ltM h.hN)).trans h.hN, (hg.block (blk_ltM h.hF)).trans h.hF, (hg.block (blk_ltM h.hO)).trans h.hO, (hg.block (blk_ltM h.hG)).trans h.hG, h.own.grew hg, h.best.grew hg, h.apart, h.len⟩
structure BX (w0 : World) (bA bB bN bF bO bG Bo : Nat) : Prop where
  a0 : w0.heap.size ≤ bA
  b0 : w0.heap.size ≤ bB
  o0 : w0.heap.size ≤ bO
  ab : bA ≠ bB
  nb : bN ≠ bB
  fb : bF ≠ bB
  ob : bO ≠ bB
  gb : bG ≠ bB
  ao : bA ≠ bO
  no : bN ≠ bO
  fo : bF ≠ bO
  go : bG ≠ bO
  na : bN < Bo
  bo : Bo ≤ bO
  wB : w0.heap.size ≤ Bo
theorem GS.setB {W : World} {o b b' : List Nat} {vO vb vb' : Value} (h : GS w0 A bA bB bN bF bO bG Bo va vF vG W o vO b vb) (hx : BX w0 bA bB bN bF bO bG Bo) (hb : OwnI W w0.heap.size vb' (zs b')) (hap : ∀ g, vO.ownBlock = some g → vb'.ownBlock ≠ some g) (hl : b'.length = A.length) :
    GS w0 A bA bB bN bF bO bG Bo va vF vG (W.setCell ⟨bB, 0, none⟩ vb') o vO b' vb' := by
  have hk : Only bB W (W.setCell ⟨bB, 0, none⟩ vb') := (Only.refl _ _).setCell _
  have hne : ∀ (v : Value) (B : Nat) (L : List Int), OwnI W B v L → v.ownBlock ≠ some bB := fun v B L ho he => by
    have := own_ne ho h.hB (by decide : (2 : TypeId) ≠ 24)
    exact this he
  exact ⟨h.grew.setCell hx.b0 _, (hk.block (blk_ltM h.hA) hx.ab).trans h.hA, blk_set h.hB 0 _, (hk.block (blk_ltM h.hN) hx.nb).trans h.hN, (hk.block (blk_ltM h.hF) hx.fb).trans h.hF, (hk.block (blk_ltM h.hO) hx.ob).trans h.hO, (hk.block (blk_ltM h.hG) hx.gb).trans h.hG,
    own_only h.own hk (hne _ _ _ h.own), own_only hb hk (hne _ _ _ hb), hap, hl⟩
theorem GS.setO {W : World} {o o' b : List Nat} {vO vO' vb : Value} (h : GS w0 A bA bB bN bF bO bG Bo va vF vG W o vO b vb) (hx : BX w0 bA bB bN bF bO bG Bo) (hb : OwnI W Bo vO' (zs o')) (hap : ∀ g, vO'.ownBlock = some g → vb.ownBlock ≠ some g) :
    GS w0 A bA bB bN bF bO bG Bo va vF vG (W.setCell ⟨bO, 0, none⟩ vO') o' vO' b vb := by
  have hk : Only bO W (W.setCell ⟨bO, 0, none⟩ vO') := (Only.refl _ _).setCell _
  have hne : ∀ (v : Value) (B : Nat) (L : List Int), OwnI W B v L → v.ownBlock ≠ some bO := fun v B L ho he => by
    have := own_ne ho h.hO (by decide : (2 : TypeId) ≠ 24)
    exact this he
  exact ⟨h.grew.setCell hx.o0 _, (hk.block (blk_ltM h.hA) hx.ao).trans h.hA, (hk.block (blk_ltM h.hB) hx.ob.symm).trans h.hB, (hk.block (blk_ltM h.hN) hx.no).trans h.hN, (hk.block (blk_ltM h.hF) hx.fo).trans h.hF, blk_set h.hO 0 _, (hk.block (blk_ltM h.hG) hx.go).trans h.hG,
    own_only hb hk (hne _ _ _ hb), own_only h.best hk (hne _ _ _ h.best), hap, h.len⟩
theorem GS.app {W W' : World} {o b : List Nat} {vO vb vO' : Value} {L : List Int} (h : GS w0 A bA bB bN bF bO bG Bo va vF vG W o vO b vb) (hx : BX w0 bA bB bN bF bO bG Bo) (_hB : Bo ≤ W.heap.size) (hg : W.grownBy W' vO.ownBlock) (ho : OwnI W' Bo vO' L) (hl : vO'.ownBlock = vO.ownBlock ∨ vO'.ownBlock = some W.heap.size) :
    (∀ o', L = zs o' → GS w0 A bA bB bN bF bO bG Bo va vF vG (W'.setCell ⟨bO, 0, none⟩ vO') o' vO' b vb) ∧ W'.heap[bO]? = some (.cells #[vO] 24 (0, 0)) := by
  have hg0 : Grew w0 W' := h.grew.grown hg (fun g hgg => Nat.le_trans hx.wB (own_of_ge h.own hgg))
  have keep : ∀ {k : Nat} {c : Value} {t : TypeId}, W.heap[k]? = some (.cells #[c] t (0, 0)) → (t ≠ 2 ∨ k < Bo) → W'.heap[k]? = some (.cells #[c] t (0, 0)) := fun {k c t} hk ht => by
    refine (World.grownBy.block hg k (blk_ltM hk) (fun e => ?_)).trans hk
    rcases ht with ht | ht
    · exact own_ne h.own hk (fun he => ht he.symm) e.symm
    · have := own_of_ge h.own e.symm
      omega
  have hb : OwnI W' w0.heap.size vb (zs b) := kept_of h.best hg (fun g hgg => h.apart g hgg)
  have hap : ∀ g, vO'.ownBlock = some g → vb.ownBlock ≠ some g := fun g hgg => by
    rcases hl with hl | hl
    · rw [hl] at hgg; exact h.apart g hgg
    · rw [hl] at hgg
      injection hgg with hgg
      intro he
      have := (h.best.lt g he).2
      omega
  have hOO := keep h.hO (.inl (by decide))
  refine ⟨?_, hOO⟩
  rintro o' rfl
  have hS : GS w0 A bA bB bN bF bO bG Bo va vF vG W' o' vO b vb → True := fun _ => trivial
  have hk : Only bO W' (W'.setCell ⟨bO, 0, none⟩ vO') := (Only.refl _ _).setCell _
  have hne : ∀ (v : Value) (B : Nat) (L : List Int), OwnI W' B v L → v.ownBlock ≠ some bO := fun v B L hoo he => own_ne hoo hOO (by decide : (2 : TypeId) ≠ 24) he
  have h1 := keep h.hA (.inl (by decide))
  have h2 := keep h.hB (.inl (by decide))
  have h3 := keep h.hN (.inr hx.na)
  have h4 := keep h.hF (.inl (by decide))
  have h5 := keep h.hG (.inl (by decide))
  exact ⟨hg0.setCell hx.o0 _, (hk.block (blk_ltM h1) hx.ao).trans h1, (hk.block (blk_ltM h2) hx.ob.symm).trans h2, (hk.block (blk_ltM h3) hx.no).trans h3, (hk.block (blk_ltM h4) hx.fo).trans h4, blk_set hOO 0 _, (hk.block (blk_ltM h5) hx.go).trans h5,
    own_only ho hk (hne _ _ _ ho), own_only hb hk (hne _ _ _ hb), hap, h.len⟩
end

set_option maxHeartbeats 1000000 in
theorem lstCall_c {w0 : World} {A : List Nat} {bA bB bN bF bO bG Bo : Nat} {va vF vG : Value} (hva : Ints w0 va (zs A)) (hA : Rl A) (hn : A.length ≤ 6) (hx : BX w0 bA bB bN bF bO bG Bo) {W : World} {o b : List Nat} {vO vb : Value}
    (h : GS w0 A bA bB bN bF bO bG Bo va vF vG W o vO b vb) (ho : IsPm A.length o) :
    Calls Tryz.prog 104 #[vO, .pointer (some ⟨bA, 0, none⟩), .pointer (some ⟨bB, 0, none⟩)] W fun e W' => (∃ v, e = .returned v) ∧ ∃ vb', GS w0 A bA bB bN bF bO bG Bo va vF vG W' o vO (lstep A b o) vb' := by
  have HR := Lib.hid (reordered_c va vO A o W (hva.grew h.grew) h.own.ints hA ho hn)
  have HC := Lib.hid (fun v4 X (h4 : Ints X v4 (zs (reo A o))) (hg : Grew W X) => slicesCompare_c v4 vb (reo A o) b X h4 (h.best.ints.grew hg))
  have hll : lessL (reo A o) b = decide (cmpL (reo A o) b < 0) := rfl
  have HLT : Hid (lstep A b o = if decide (cmpL (reo A o) b < 0) = true then reo A o else b) := Lib.hid rfl
  have hrl : (reo A o).length = A.length := by rw [reo_len, ho.1]
  have c1 : W.cell? ⟨bA, 0, none⟩ = some va := by rw [blk_cell h.hA]; rfl
  have hbl := blk_ltM h.hB
  have c2 : ∀ X, Grew W X → X.cell? ⟨bB, 0, none⟩ = some vb := fun X hX => by rw [blk_cell ((hX.block hbl).trans h.hB)]; rfl
  have f2 : ∀ X, Grew W X → X.frozen? ⟨bB, 0, none⟩ = false := fun X hX => blk_frozen ((hX.block hbl).trans h.hB) 0
  obtain ⟨A1, n1, rfl⟩ := ints_sliceN hva
  obtain ⟨A2, n2, rfl⟩ := ints_sliceN h.own.ints
  obtain ⟨A3, n3, rfl⟩ := ints_sliceN h.best.ints
  have HGS := Lib.hid h
  have hsz := Nat.le_trans hx.wB (Nat.le_refl _)
  have hlt2 := fun g hg => (h.own.lt g hg).2
  have hW0 := h.grew.size
  have HRL := Lib.hid hrl
  have HXX := Lib.hid hx
  clear h hva hA hll hrl ho hx
  generalize hro : reo A o = R at *
  generalize cmpL R b = q at *
  clear hro
  have r1 := Grew.refl W
  go_enter Tryz.func104, Tryz.ntmps104
  go_wp2_with fail
  refine HR.out.mono ?_
  rintro e w4 ⟨v4, rfl, hO4, hg4⟩
  obtain ⟨A4, n4, rfl⟩ := ints_sliceN hO4.ints
  have hM := Lib.hid (HC.out _ w4 hO4.ints hg4)
  have HO4 := Lib.hid hO4
  clear hO4
  go_wp2_with fail
  refine hM.out.mono ?_
  rintro e w5 ⟨rfl, rfl⟩
  by_cases hlt : q < 0
  · have HX : Hid (lstep A b o = R) := Lib.hid (by rw [HLT.out, decide_eq_true hlt]; rfl)
    go_wp2_with fail
    go_end0
    refine ⟨⟨_, rfl⟩, ?_⟩
    rw [HX.out]
    exact ⟨_, (HGS.out.up hg4).setB HXX.out (HO4.out.base hW0) (fun g hg => by
      intro he
      have h1 := hlt2 g hg
      have h2 := own_of_ge HO4.out he
      omega) HRL.out⟩
  · have HX : Hid (lstep A b o = b) := Lib.hid (by rw [HLT.out, decide_eq_false hlt]; rfl)
    go_wp2_with fail
    go_end0
    refine ⟨⟨_, rfl⟩, ?_⟩
    rw [HX.out]
    exact ⟨_, HGS.out.up hg4⟩
def bK (A : List Nat) (m : Nat) (o b : List Nat) (v : Nat) : List Nat := ((extK o v).flatMap (dfs A.length m)).foldl (lstep A) b
theorem bK_yes {A : List Nat} {m : Nat} {o b : List Nat} {v : Nat} (h : v ∈ o) : bK A m o b (v + 1) = bK A m o b v := by
  unfold bK
  rw [extK_yes h]
theorem bK_no {A : List Nat} {m : Nat} {o b : List Nat} {v : Nat} (h : v ∉ o) : bK A m o b (v + 1) = (dfs A.length m (o ++ [v])).foldl (lstep A) (bK A m o b v) := by
  unfold bK
  rw [extK_no h, List.flatMap_append, List.foldl_append]
  simp
def GSx (w0 : World) (A : List Nat) (bA bB bN bF bO bG Bo : Nat) (va vF vG : Value) (W : World) : Prop := ∃ o vO b vb, GS w0 A bA bB bN bF bO bG Bo va vF vG W o vO b vb
theorem GSx.drew {w0 : World} {A : List Nat} {bA bB bN bF bO bG Bo : Nat} {va vF vG : Value} {W : World} (h : GSx w0 A bA bB bN bF bO bG Bo va vF vG W) : GSx w0 A bA bB bN bF bO bG Bo va vF vG W.drew := by
  obtain ⟨o, vO, b, vb, h⟩ := h
  exact ⟨o, vO, b, vb, h.up (Grew.refl _).drew⟩

theorem OwnI.capI {w : World} {B n c : Nat} {A : Option Addr} {L : List Int} (h : OwnI w B (.slice A (n + 1) c) L) : n + 1 ≤ c := by
  rcases h.2 with ⟨he, _⟩ | ⟨g, c', cur, he, hB, hh, hnc, hcm, hcs, htk⟩
  · cases he
  · injection he with e1 e2 e3
    omega
theorem wrapI_pow {k : Nat} (h : k ≤ 60) : IntKind.i64.wrap (2 ^ k) = ((2 ^ k : Nat) : Int) := by
  have h1 : (2 : Nat) ^ k ≤ 2 ^ 60 := Nat.pow_le_pow_right (by omega) h
  have h2 : ((2 ^ k : Nat) : Int) = 2 ^ k := by rw [Int.natCast_pow]; rfl
  rw [← h2]
  generalize (2 ^ k : Nat) = p at *
  rw [IntKind.wrap_i64]
  omega
theorem sizeI_q (A : Option Addr) (n c : Nat) (_hm : n ≤ 9223372036854775807) (w : World) :
    Calls Tryz.prog 89 #[.slice A n c] w fun e w' => e = .returned (.int .i64 n) ∧ w' = w := by
  go_enter Tryz.func89, Tryz.ntmps89
  go_wp2_with fail
  go_ret
  exact ⟨rfl, rfl⟩
set_option maxHeartbeats 1000000 in
theorem search_c {w0 : World} {A : List Nat} {bA bB bN bF bO bG Bo : Nat} {va vF vG : Value} (hva : Ints w0 va (zs A)) (hA : Rl A) (hn : A.length ≤ 6) (hx : BX w0 bA bB bN bF bO bG Bo)
    (hf : vF = .func (.func 104) #[] #[.pointer (some ⟨bA, 0, none⟩), .pointer (some ⟨bB, 0, none⟩)])
    (hg : vG = .func (.func 152) #[] #[.pointer (some ⟨bO, 0, none⟩), .pointer (some ⟨bN, 0, none⟩), .pointer (some ⟨bF, 0, none⟩), .pointer (some ⟨bG, 0, none⟩)]) :
    ∀ (m : Nat) (o b : List Nat) (vO vb : Value) (used : Nat) (W : World), GS w0 A bA bB bN bF bO bG Bo va vF vG W o vO b vb → o.length + m = A.length → o.Nodup → (∀ x ∈ o, x < A.length) → (∀ j, used.testBit j = decide (j ∈ o)) → used < 64 →
      Calls Tryz.prog 152 #[.int .i64 (used : Int), .pointer (some ⟨bO, 0, none⟩), .pointer (some ⟨bN, 0, none⟩), .pointer (some ⟨bF, 0, none⟩), .pointer (some ⟨bG, 0, none⟩)] W fun e W' =>
        (∃ v, e = .returned v) ∧ ∃ vO' vb', GS w0 A bA bB bN bF bO bG Bo va vF vG W' o vO' ((dfs A.length m o).foldl (lstep A) b) vb' := by
  intro m
  induction m with
  | zero =>
    intro o b vO vb used W h hl hnd hlt hu hub
    have HGS := Lib.hid h
    have HL := Lib.hid (fun W (hW : GS w0 A bA bB bN bF bO bG Bo va vF vG W o vO b vb) => lstCall_c hva hA hn hx hW ⟨by omega, hnd, hlt⟩)
    have hnn : (zs o).length = A.length := by rw [zs_len]; omega
    obtain ⟨A2, cc, rfl⟩ := ints_sliceN h.own.ints
    have c1 : ∀ X, Grew W X → X.cell? ⟨bO, 0, none⟩ = some (.slice A2 o.length cc) := fun X hX => by rw [blk_cell ((hX.block (blk_ltM h.hO)).trans h.hO)]; rfl
    have c2 : ∀ X, Grew W X → X.cell? ⟨bN, 0, none⟩ = some (.int .i64 (A.length : Int)) := fun X hX => by rw [blk_cell ((hX.block (blk_ltM h.hN)).trans h.hN)]; rfl
    have c3 : ∀ X, Grew W X → X.cell? ⟨bF, 0, none⟩ = some vF := fun X hX => by rw [blk_cell ((hX.block (blk_ltM h.hF)).trans h.hF)]; rfl
    subst hf
    have KS := Lib.hid (fun (X : World) => sizeI_q A2 A.length cc (by omega) X)
    have hq : ((A.length : Int) == (A.length : Int)) = true := by simp
    rw [show o.length = A.length by omega] at HL c1 HGS
    clear h hnn hl hnd hlt hu hub
    generalize A.length = n at *
    have r1 := Grew.refl W
    have r2 := (Grew.refl W).drew
    go_enter Tryz.func152, Tryz.ntmps152
    go_wp2_with fail
    go_quiet ((go_at_call 89; exact Calls.quiet_of_same (KS.out _)))
    go_wp2_with fail
    refine (HL.out _ (HGS.out.up (by first | exact (Grew.refl W).drewN _ | exact r1 | exact r2))).mono ?_
    rintro e w3 ⟨⟨v3, rfl⟩, vb', h3⟩
    go_wp2_with fail
    refine bodyPost_ret (results_none rfl _ _ _) rfl ?_
    exact ⟨⟨_, rfl⟩, _, _, h3⟩
  | succ m ih =>
    intro o b vO vb used W h hl hnd hlt hu hub
    have HGS := Lib.hid h
    obtain ⟨A2, cc, rfl⟩ := ints_sliceN h.own.ints
    have HPM := Lib.hid (And.intro hnd (And.intro hlt hl))
    have HNC := Lib.hid (fun v (hv : v < A.length) (hvo : v ∉ o) (b' : List Nat) (vO' vb' : Value) (X : World) (hX : GS w0 A bA bB bN bF bO bG Bo va vF vG X (o ++ [v]) vO' b' vb') =>
      ih (o ++ [v]) b' vO' vb' (used ||| 2 ^ v) X hX (by simp; omega) (List.nodup_append.2 ⟨hnd, by simp, by intro a ha b hb; rw [List.mem_singleton] at hb; subst hb; intro he; subst he; exact hvo ha⟩)
        (fun x hx => by rcases List.mem_append.1 hx with hx | hx; · exact hlt x hx
                        · rw [List.mem_singleton] at hx; omega)
        (fun j => by rw [Nat.testBit_or, hu j, Nat.testBit_two_pow, ← Bool.decide_or, decide_eq_decide]; simp; constructor <;> rintro (h | h) <;> first | exact .inl h | exact .inr h.symm)
        (Nat.or_lt_two_pow (n := 6) hub (Nat.pow_lt_pow_right (by omega) (by omega))))
    have HHAS := Lib.hid (fun v (hv : v < A.length) X => has_q used v (by omega) (by omega) X)
    have HUB := Lib.hid hu
    have HBY := Lib.hid (fun v hv => @bK_yes A m o b v hv)
    have HBN := Lib.hid (fun v hv => @bK_no A m o b v hv)
    have HB0 : Hid (bK A m o b 0 = b) := Lib.hid rfl
    have HBE : Hid ((dfs A.length (m + 1) o).foldl (lstep A) b = bK A m o b A.length) := Lib.hid rfl
    have hol : o.length < A.length := by omega
    have c1 : ∀ X, Grew W X → X.cell? ⟨bO, 0, none⟩ = some (.slice A2 o.length cc) := fun X hX => by rw [blk_cell ((hX.block (blk_ltM h.hO)).trans h.hO)]; rfl
    have c2 : ∀ X, Grew W X → X.cell? ⟨bN, 0, none⟩ = some (.int .i64 (A.length : Int)) := fun X hX => by rw [blk_cell ((hX.block (blk_ltM h.hN)).trans h.hN)]; rfl
    have KS := Lib.hid (fun (X : World) => sizeI_q A2 o.length cc (by omega) X)
    have hq : ((o.length : Int) == (A.length : Int)) = false := by rw [beq_eq_false_iff_ne]; omega
    have HGT := Lib.hid (fun (X : World) (o' b' : List Nat) (vO' vb' : Value) (hX : GS w0 A bA bB bN bF bO bG Bo va vF vG X o' vO' b' vb') => And.intro (show X.cell? ⟨bO, 0, none⟩ = some vO' by rw [blk_cell hX.hO]; rfl) (And.intro (show X.cell? ⟨bN, 0, none⟩ = some (.int .i64 (A.length : Int)) by rw [blk_cell hX.hN]; rfl) (And.intro (show X.cell? ⟨bG, 0, none⟩ = some vG by rw [blk_cell hX.hG]; rfl) (show X.frozen? ⟨bO, 0, none⟩ = false from blk_frozen hX.hO 0))))
    have HXX := Lib.hid hx
    clear h hl hnd hlt hu ih hva hA hx hf
    generalize A.length = n at *
    have r1 := Grew.refl W
    have r2 := (Grew.refl W).drew
    go_enter Tryz.func152, Tryz.ntmps152
    go_wp2_with fail
    go_quiet ((go_at_call 89; exact Calls.quiet_of_same (KS.out _)))
    have HG2 := Lib.hid (fun q => HGS.out.up ((Grew.refl W).drewN q))
    have g1 := fun q => (HGT.out _ _ _ _ _ (HG2.out q)).2.1
    go_wp2_with fail
    go_loopw [6, 15] (fun _ i wr => ∃ (k : Nat) (vO' vb' : Value), k ≤ n ∧ i = .int .i64 k ∧ Hid (GS w0 A bA bB bN bF bO bG Bo va vF vG wr o vO' (bK A m o b k) vb')) (fun _ i _ => n - (intOf i).toNat)
    case atStart => exact ⟨0, _, _, by omega, rfl, Lib.hid (by rw [HB0.out]; exact HG2.out _)⟩
    case round =>
      obtain ⟨k, vO', vb', hk, rfl, hG⟩ := hrel
      by_cases hlk : k < n
      · have hh := Lib.hid (HHAS.out k hlk)
        rw [HUB.out k] at hh
        by_cases hko : k ∈ o
        · rw [decide_eq_true hko] at hh
          have HN := Lib.hid (HBY.out k hko)
          clear hko
          go_wp2_with fail
          refine (hh.out _).mono ?_
          rintro e w3 ⟨rfl, rfl⟩
          go_wp2_with fail
          go_roundw
          case rel => exact ⟨k + 1, _, _, by omega, by go_num, Lib.hid (by rw [HN.out]; exact hG.out)⟩
          case measure => simp [intOf]; omega
        · rw [decide_eq_false hko] at hh
          have HN := Lib.hid (HBN.out k hko)
          have HC := Lib.hid (HNC.out k hlk hko)
          clear hko
          have g1 := (HGT.out _ _ _ _ _ hG.out).1
          go_wp2_with fail
          refine (hh.out _).mono ?_
          rintro e w3 ⟨rfl, rfl⟩
          have hG4 := hG.out.up ((Grew.refl w3).alloc (.cells #[.int .i64 (k : Int)] 2))
          have hol6 : (zs o).length ≤ 1048576 := by rw [zs_len]; omega
          have hBo : Bo ≤ (w3.alloc (.cells #[.int .i64 (k : Int)] 2)).heap.size := by have h1 := hG4.own; have h2 := blk_ltM hG4.hO; have h3 := HXX.out.bo; omega
          have HAP := Lib.hid (fun (w7 : World) (v7 : Value) h1 h2 h3 => hG4.app (W' := w7) (vO' := v7) (L := zs o ++ [(k : Int)]) HXX.out hBo h1 h2 h3)
          have HOW := Lib.hid hG4.own
          have HFR := Lib.hid (fun (w7 : World) (v7 : Value) (h2 : w7.heap[bO]? = some (.cells #[v7] 24 (0, 0))) => blk_frozen h2 0)
          have HCE := Lib.hid (fun (w7 : World) (v7 : Value) (h2 : w7.heap[bO]? = some (.cells #[v7] 24 (0, 0))) => show w7.cell? ⟨bO, 0, none⟩ = some v7 by rw [blk_cell h2]; rfl)
          have HEQ : Hid (zs o ++ [(k : Int)] = zs (o ++ [k])) := Lib.hid (by rw [zs_append]; rfl)
          have HNL : Hid ((o ++ [k]).length = o.length + 1) := Lib.hid (by simp)
          clear hG4
          go_wp2_with (at_builtin
                       refine wpList_appIBL Bo _ _ rfl rfl _ (zs o) rfl HOW.out hBo _ (k : Int) rfl (rd_litI _ _ _) hol6 ?_
                       intro v7 w7 hO7 hg7 hl7
                       rw [HEQ.out] at hO7
                       obtain ⟨A7, c7, rfl⟩ := ints_sliceN hO7.ints
                       rw [HNL.out] at hO7 hl7 ⊢
                       have H7 := HAP.out w7 (.slice A7 (o.length + 1) c7) hg7 (by rw [HEQ.out]; exact hO7) hl7
                       have hf7 := HFR.out _ _ H7.2
                       have hc7 := HCE.out _ _ H7.2
                       have H8 := H7.1 _ HEQ.out
                       have g7 := HGT.out _ _ _ _ _ H8
                       have H9 := Lib.hid H8
                       have H10 := Lib.hid hO7
                       clear hO7 hg7 hl7 H7 H8)
          have HC2 := Lib.hid (fun (X : World) (hX : GS w0 A bA bB bN bF bO bG Bo va vF vG X (o ++ [k]) (.slice A7 (o.length + 1) c7) (bK A m o b k) vb') => HC.out _ _ _ X hX)
          have hGd := H9.out.up (Grew.refl _).drew
          have hGx : GSx w0 A bA bB bN bF bO bG Bo va vF vG _ := ⟨_, _, _, _, hGd⟩
          have x0 : ∀ X, GSx w0 A bA bB bN bF bO bG Bo va vF vG X → X.cell? ⟨bG, 0, none⟩ = some vG := fun X hX => by
            obtain ⟨o', vO', b', vb', hX⟩ := hX
            exact (HGT.out _ _ _ _ _ hX).2.2.1
          have ho := or_i64 used (2 ^ k) (by omega) (Nat.lt_trans (pow30 (by omega)) (by omega))
          have hp := wrap_pow (k := k) (by omega)
          have hp2 : IntKind.i64.wrap (2 ^ k) = ((2 ^ k : Nat) : Int) := wrapI_pow (by omega)
          have i3 : (0 : Int) ≤ (k : Int) := by omega
          have i4 : (k : Int) < (n : Int) := by omega
          have HG0 := Lib.hid hg
          subst hg
          clear c1 c2 g1 hc7 hf7 HC
          obtain ⟨P, hP⟩ : ∃ P, P = 2 ^ k := ⟨_, rfl⟩
          rw [← hP] at ho hp hp2 HC2
          clear hP
          generalize bK A m o b k = bk at *
          generalize w7.setCell ⟨bO, 0, none⟩ (.slice A7 (o.length + 1) c7) = w8 at *
          go_region_held3 (fun (w' : World) => GSx w0 A bA bB bN bF bO bG Bo va vF (.func (.func 152) #[] #[.pointer (some ⟨bO, 0, none⟩), .pointer (some ⟨bN, 0, none⟩), .pointer (some ⟨bF, 0, none⟩), .pointer (some ⟨bG, 0, none⟩)]) w') (first | assumption | exact GSx.drew ‹_›) (first
            | (go_at_call 152; refine Calls.mono (HC2.out _ (by assumption)) ?_; rintro e w9 ⟨⟨v9, rfl⟩, vO9, vb9, h9⟩; have hx9 : GSx w0 A bA bB bN bF bO bG Bo va vF (.func (.func 152) #[] #[.pointer (some ⟨bO, 0, none⟩), .pointer (some ⟨bN, 0, none⟩), .pointer (some ⟨bF, 0, none⟩), .pointer (some ⟨bG, 0, none⟩)]) w9 := ⟨_, _, _, _, h9⟩))
          clear hx9 x0 hGd hGx
          obtain ⟨A9, c9, rfl⟩ := ints_sliceN h9.own.ints
          rw [HNL.out] at h9
          have g9 := HGT.out _ _ _ _ _ h9
          have hown := h9.own
          have hcap := OwnI.capI hown
          have ht : OwnI w9 Bo (.slice A9 o.length c9) (zs o) := by
            have h0 := hown.take (by rw [zs_len]; exact HNL.out)
            rwa [← HEQ.out, List.take_left' (zs_len o)] at h0
          have hsub : wrap64 (((o.length + 1 : Nat) : Int) - 1) = (o.length : Int) := by rw [wrap64]; omega
          have hsub2 : IntKind.i64.wrap (((o.length + 1 : Nat) : Int) - 1) = (o.length : Int) := by rw [IntKind.wrap_i64]; omega
          have HS := Lib.hid (h9.setO HXX.out ht (fun g hgg => h9.apart g (by cases A9 <;> first | exact hgg | (simp [Value.ownBlock] at hgg))))
          have HBE2 := HBE
          clear hown ht h9 H9 H10
          go_wp2_with fail
          go_roundw
          case rel => exact ⟨k + 1, _, _, by omega, by go_num, Lib.hid (by rw [HN.out]; exact HS.out)⟩
          case measure => simp [intOf]; omega
      · obtain rfl : k = n := by omega
        go_wp2_with fail
        go_end0
        exact ⟨⟨_, rfl⟩, _, _, by rw [HBE.out]; exact hG.out⟩
end Go.Proofs.YtpfncncohnhanaaGreatDoor


/- A range over a function whose iterator hands out a row of its own that it writes anew between two rounds: the law of the loop's walk. No program is in sight. -/
namespace Go.Proofs.YtpfncncohnhanaaGreatDoor
open Go.RowKit

def KeptBut (l : Nat) (W W' : World) : Prop := W.heap.size ≤ W'.heap.size ∧ ∀ i, i < W.heap.size → i ≠ l → W'.heap[i]? = W.heap[i]?
theorem KeptBut.refl (l : Nat) (W : World) : KeptBut l W W := ⟨Nat.le_refl _, fun _ _ _ => rfl⟩
theorem KeptBut.trans {l : Nat} {X Y Z : World} (h : KeptBut l X Y) (k : KeptBut l Y Z) : KeptBut l X Z :=
  ⟨Nat.le_trans h.1 k.1, fun i hi hl => (k.2 i (Nat.lt_of_lt_of_le hi h.1) hl).trans (h.2 i hi hl)⟩
theorem KeptBut.grew {l : Nat} {X Y : World} (h : Grew X Y) : KeptBut l X Y := ⟨h.size, fun _ hl _ => h.block hl⟩
theorem KeptBut.putObj (W : World) (l : Nat) (o : Obj) : KeptBut l W (W.putObj l o) :=
  ⟨by simp, fun i _ hi => World.putObj_heap_other hi⟩

def SeqV {α : Type} (P : Program) (gf : Nat) (lb : Array Value) (Rv : World → Value → α → Prop) (S Sp : List α → Prop) (w0 : World) : Prop :=
  ∀ (n l : Nat) (J Jx : List α → World → Prop) (W : World), Grew w0 W → w0.heap.size ≤ l → l < W.heap.size →
    (∀ s A A', J s A → Below W.heap.size A A' → J s A') → (∀ s A A', Jx s A → Below W.heap.size A A' → Jx s A') →
    (∀ m pre x v A, J pre A → Rv A v x → YieldAt Fence.wide m P l #[v] A fun e A' =>
      (e = .returned (.bool true) ∧ J (pre ++ [x]) A' ∧ KeptBut l A A') ∨ (e = .returned (.bool false) ∧ Jx (pre ++ [x]) A')) →
    J [] W →
    CallsIn Fence.wide n P gf (#[.func (.yield l) #[] #[]] ++ lb) W fun e W' => (∃ v, e = .returned v) ∧ ((∃ xs, S xs ∧ J xs W') ∨ (∃ pre, Sp pre ∧ Jx pre W'))

def vPost {α : Type} (I : List α → World → Prop) (Ix : List α → World → Prop) (xs : List α) (W : World) : Exit → Act → World → Prop
  | .normal, _, W' => Grew W W' ∧ I xs W'
  | .ret, _, W' => KeepsOthers W W' ∧ Ix xs W'
  | _, _, _ => False

theorem below_putObj {B : Nat} {W : World} {l : Nat} {o : Obj} (o' : Obj) (hB : B ≤ l) (h : W.heap[l]? = some o) : Below B W (W.putObj l o') :=
  (Below.refl B W).grown (grownBy_putObj' W l o') (by have := (Array.getElem?_eq_some_iff.1 h).1; omega) (fun k e => by cases e; omega)
theorem rd_putObj {W : World} {k n : Nat} {v : Value} {xs : List Value} {l : Nat} {o : Obj} (o' : Obj) (h : Rd W k v n xs) (hl : W.heap[l]? = some o) (ho : o.isCells = false) : Rd (W.putObj l o') k v n xs := by
  obtain ⟨h1, h2, h3⟩ := h
  refine ⟨h1, h2, ?_⟩
  rcases h3 with ⟨h4, h5⟩ | ⟨b, of, c, h4, h5, h6, h7, h8⟩
  · exact .inl ⟨h4, h5⟩
  · exact .inr ⟨b, of, c, h4, h5, h6, by simpa using h7, fun j x hx => cell_kept (h8 j x hx) (grownBy_putObj' W l o') (fun r e => by cases e; exact ⟨o, hl, ho⟩)⟩

theorem wpIn_rangeV {P : Program} {α : Type} {n : Nat} {g : Operand} {ps : Array Tmp} {assign body : Go.Code} {Q : Exit → Act → World → Prop} {a : Act} {w : World}
    {gf : Nat} {lb : Array Value} (hg : a.eval g = .func (.func gf) #[] lb) (eg : ∀ args w, (callFunc gf args).run P w = .ok (.enter gf args) w)
    {Rv : World → Value → α → Prop} (hRv : ∀ W v x l o o', Rv W v x → W.heap[l]? = some o → o.isCells = false → Rv (W.putObj l o') v x)
    {S Sp : List α → Prop} {w0 : World} (hseq : SeqV P gf lb Rv S Sp w0) (hw0 : Grew w0 w) (hps : ps.size = 1)
    (I Ix : List α → World → Prop) (hI : ∀ s A A', I s A → Below w.heap.size A A' → I s A') (hIx : ∀ s A A', Ix s A → Below w.heap.size A A' → Ix s A') (h0 : I [] w) (a₁ : Value → Act)
    (hassign : ∀ (l m : Nat) (v : Value) (W : World) (K : Act → World → Prop), K (a₁ v) W →
      assign.wpIn (Fence.wide.inRound l) m P (Exit.then K (fun _ _ _ => False)) { tmps := (ps.zip #[v]).foldl (fun t (p, v) => t.setIfInBounds p v) a.tmps, defers := [] } W)
    (hbody : ∀ (l m : Nat) (pre : List α) (x : α) (v : Value) (W : World), I pre W → Rv W v x → w.heap.size ≤ W.heap.size → body.wpIn (Fence.wide.inRound l) m P (vPost I Ix (pre ++ [x]) W) (a₁ v) W)
    (hdone : ∀ (D : Nat) (xs : List α) (W : World), w.heap.size ≤ D → S xs → I xs W → W.heap[D]? = some (.deferred (some [])) → Q .normal { a with defers := { target := .collected D, args := #[] } :: a.defers } W)
    (hstop : ∀ (D : Nat) (pre : List α) (W : World), w.heap.size ≤ D → Sp pre → Ix pre W → W.heap[D]? = some (.deferred (some [])) → Go.Code.ret.wpIn Fence.wide n P Q { a with defers := { target := .collected D, args := #[] } :: a.defers } W) :
    (Go.Code.rangeFunc g ps assign body).wpIn Fence.wide n P Q a w := by
  refine wpIn_rangeFunc ?_
  intro fn hfn
  show ∃ l mark w₁ d w₁' f args w₂, (Instr.enterLoop fn a.tmps ps assign body none).run P w = _ ∧ _
  obtain ⟨rec, hrec⟩ : ∃ rec : LoopState → Option Go.Code → Loop, rec = fun st pe => { state := st, pending := pe, fn, tmps := a.tmps, params := ps, assign, body, defers := w.heap.size } := ⟨_, rfl⟩
  obtain ⟨W1, hW1⟩ : ∃ W1, (w.alloc (.deferred (some []))).alloc (.loop (rec .ready none)) = W1 := ⟨_, rfl⟩
  have hL1 : W1.heap[w.heap.size + 1]? = some (.loop (rec .ready none)) := by
    rw [← hW1]; have := World.alloc_heap_new (w.alloc (.deferred (some []))) (.loop (rec .ready none)); rwa [World.size_alloc] at this
  have hK1 : W1.heap[w.heap.size]? = some (.deferred (some [])) := by
    rw [← hW1]; exact (Below.heap_alloc _ _ _ (by simp)).trans (World.alloc_heap_new w _)
  have hg1 : Grew w W1 := by rw [← hW1]; exact ((Grew.refl w).alloc _).alloc _
  have hs1 : W1.heap.size = w.heap.size + 2 := by rw [← hW1]; simp
  have hI1 : I [] W1 := hI _ _ _ h0 hg1
  refine ⟨w.heap.size + 1, [{ target := .collected w.heap.size, args := #[] }], W1, { target := .fn (.func gf) lb, args := #[.func (.yield (w.heap.size + 1)) #[] #[]] }, W1, gf,
    #[.func (.yield (w.heap.size + 1)) #[] #[]] ++ lb, W1, ?_, ?_, ?_, ?_, fun h => by simp [Fence.wide] at h, ?_⟩
  · rw [← hW1, hrec]; exact run_enterLoop_outer _ _ _ _ _
  · simp only [resolve, hg]
    simp [go_sem]
  · intro f' hf'; trivial
  · simp [invoke, go_sem, eg]
  · have abide : ∀ {A A' : World} {k : Nat} {o : Obj}, k < w.heap.size + 2 → Below W1.heap.size A A' → A.heap[k]? = some o → A'.heap[k]? = some o := fun hk hb h => (hb.block _ (by omega)).trans h
    refine (hseq (n - 1) (w.heap.size + 1)
      (fun pre W => I pre W ∧ W.heap[w.heap.size + 1]? = some (.loop (rec .ready none)) ∧ W.heap[w.heap.size]? = some (.deferred (some [])))
      (fun pre W => Ix pre W ∧ W.heap[w.heap.size + 1]? = some (.loop (rec .done (some .ret))) ∧ W.heap[w.heap.size]? = some (.deferred (some [])))
      W1 (hw0.trans hg1) (by have := hw0.size; omega) (by omega)
      (fun s A A' hs hb => ⟨hI s A A' hs.1 (hb.mono (by omega)), abide (by omega) hb hs.2.1, abide (by omega) hb hs.2.2⟩)
      (fun s A A' hs hb => ⟨hIx s A A' hs.1 (hb.mono (by omega)), abide (by omega) hb hs.2.1, abide (by omega) hb hs.2.2⟩)
      ?_ ⟨hI1, hL1, hK1⟩).mono ?_
    · rintro m pre x v W ⟨hi, hl, hk⟩ hv
      have hlt : w.heap.size + 1 < W.heap.size := (Array.getElem?_eq_some_iff.1 hl).1
      have hy := run_yield (P := P) (args := #[v]) hl (by rw [hrec]; simp [hps])
      rw [hrec] at hy
      refine ⟨fn, _, assign, body, hy, roundIn_of_wpIn hfn (hassign _ m v W _ ⟨_, run_beginRound hl (by rw [hrec]), ?_⟩)⟩
      have hl2 : (W.putObj (w.heap.size + 1) (.loop { rec .ready none with state := .busy })).heap[w.heap.size + 1]? = some (.loop { rec .ready none with state := .busy }) := World.putObj_heap_same hlt
      have hk2 : (W.putObj (w.heap.size + 1) (.loop { rec .ready none with state := .busy })).heap[w.heap.size]? = some (.deferred (some [])) := (World.putObj_heap_other (by omega)).trans hk
      refine wpIn_mono (hbody _ m pre x v _ (hI _ _ _ hi (below_putObj _ (by omega) hl)) (hRv _ _ _ _ _ _ hv hl rfl) (by simp; omega)) ?_
      have fin : ∀ (jump : Option Go.Code) (W3 : World), W3.heap[w.heap.size + 1]? = some (.loop { rec .ready none with state := .busy }) → W3.heap[w.heap.size]? = some (.deferred (some [])) →
          (Instr.endRound (w.heap.size + 1) jump).run P W3 = .ok (.bool jump.isNone) (W3.putObj (w.heap.size + 1) (.loop (rec (if jump.isNone then .ready else .done) jump))) ∧
          (W3.putObj (w.heap.size + 1) (.loop (rec (if jump.isNone then .ready else .done) jump))).heap[w.heap.size + 1]? = some (.loop (rec (if jump.isNone then .ready else .done) jump)) ∧
          (W3.putObj (w.heap.size + 1) (.loop (rec (if jump.isNone then .ready else .done) jump))).heap[w.heap.size]? = some (.deferred (some [])) := fun jump W3 hl3 hk3 => by
        have := run_endRound (P := P) jump hl3
        rw [hrec] at this ⊢
        exact ⟨this, World.putObj_heap_same (Array.getElem?_eq_some_iff.1 hl3).1, (World.putObj_heap_other (by omega)).trans hk3⟩
      rintro e a3 W3 hp
      cases e with
      | normal =>
        obtain ⟨hg3, hi3⟩ := hp
        have hl3 := (hg3.block (k := w.heap.size + 1) (by simp; omega)).trans hl2
        obtain ⟨hr, hl4, hk4⟩ := fin none W3 hl3 ((hg3.block (k := w.heap.size) (by simp; omega)).trans hk2)
        exact ⟨_, _, hr, .inl ⟨rfl, ⟨hI _ _ _ hi3 (below_putObj _ (by omega) hl3), hl4, hk4⟩, ((KeptBut.putObj W _ _).trans (KeptBut.grew hg3)).trans (KeptBut.putObj W3 _ _)⟩⟩
      | ret =>
        obtain ⟨hk3, hi3⟩ := hp
        have hl3 := hk3.same _ _ hl2 rfl
        obtain ⟨hr, hl4, hk4⟩ := fin (some .ret) W3 hl3 (hk3.same _ _ hk2 rfl)
        exact ⟨_, _, hr, .inr ⟨rfl, hIx _ _ _ hi3 (below_putObj _ (by omega) hl3), hl4, hk4⟩⟩
      | exit id => exact hp.elim
      | goto t => exact hp.elim
      | panic ch => exact hp.elim
      | outgrown => exact hp.elim
    · rintro e W2 ⟨⟨v, rfl⟩, (⟨xs, hS, hi, hl, hk⟩ | ⟨pre, hSp, hi, hl, hk⟩)⟩
      · exact ⟨none, _, by have := run_endLoop (P := P) hl (by rw [hrec]; simp); rw [hrec] at this; exact this, hdone _ xs _ (Nat.le_refl _) hS (hI _ _ _ hi (below_putObj _ (by omega) hl)) ((World.putObj_heap_other (by omega)).trans hk)⟩
      · exact ⟨some .ret, _, by have := run_endLoop (P := P) hl (by rw [hrec]; simp); rw [hrec] at this; exact this, hstop _ pre _ (Nat.le_refl _) hSp (hIx _ _ _ hi (below_putObj _ (by omega) hl)) ((World.putObj_heap_other (by omega)).trans hk)⟩
end Go.Proofs.YtpfncncohnhanaaGreatDoor


/- The program's iterator over valuations of a poset (Poset.valuations and its closures): it hands out fs U vars zeros. -/
namespace Go.Proofs.YtpfncncohnhanaaGreatDoor
open Go.RowKit
attribute [local go_sem] Oper.semAt_some

def KB (W0 : World) (l gv : Nat) (W : World) : Prop := W0.heap.size ≤ W.heap.size ∧ ∀ i, i < W0.heap.size → i ≠ l → i ≠ gv → W.heap[i]? = W0.heap[i]?
theorem KB.refl (W : World) (l gv : Nat) : KB W l gv W := ⟨Nat.le_refl _, fun _ _ _ _ => rfl⟩
theorem KB.kept {W0 W W' : World} {l gv : Nat} (h : KB W0 l gv W) (k : KeptBut l W W') : KB W0 l gv W' :=
  ⟨Nat.le_trans h.1 k.1, fun i hi hl hg => (k.2 i (Nat.lt_of_lt_of_le hi h.1) hl).trans (h.2 i hi hl hg)⟩
theorem KB.set {W0 W : World} {l gv o : Nat} (h : KB W0 l gv W) (u : Value) : KB W0 l gv (W.setCell ⟨gv, o, none⟩ u) :=
  ⟨Nat.le_trans h.1 (by simp), fun i hi hl hg => (Below.heap_setCell W ⟨gv, o, none⟩ u i hg).trans (h.2 i hi hl hg)⟩
theorem KB.drew {W0 W : World} {l gv : Nat} (h : KB W0 l gv W) : KB W0 l gv W.drew := h
theorem KB.cell {W0 W : World} {l gv : Nat} (h : KB W0 l gv W) {p : Addr} (hp : p.block < W0.heap.size) (hl : p.block ≠ l) (hg : p.block ≠ gv) : W.cell? p = W0.cell? p :=
  World.cell?_of_block (h.2 _ hp hl hg)
theorem NRow.kept {W W' : World} {l g n c : Nat} {f : Nat → Nat} (h : NRow W g n c f) (k : KeptBut l W W') (hne : g ≠ l) : NRow W' g n c f := by
  have hl := h.lt
  obtain ⟨cur, h1, h2⟩ := h
  exact ⟨cur, (k.2 _ hl hne).trans h1, h2⟩
theorem alloc4 (w wa : World) (o1 o2 o3 o4 : Obj) (h : wa = (((w.alloc o1).alloc o2).alloc o3).alloc o4) : Grew w wa ∧ wa.heap.size = w.heap.size + 4 ∧ wa.heap[w.heap.size]? = some o1 ∧ wa.heap[w.heap.size + 1]? = some o2 ∧ wa.heap[w.heap.size + 1 + 1]? = some o3 ∧ wa.heap[w.heap.size + 1 + 1 + 1]? = some o4 := by
  obtain ⟨wb, hwb⟩ : ∃ wb, wb = ((w.alloc o1).alloc o2).alloc o3 := ⟨_, rfl⟩
  rw [← hwb] at h
  subst h
  have s1 : (w.alloc o1).heap.size = w.heap.size + 1 := by simp
  have s2 : ((w.alloc o1).alloc o2).heap.size = w.heap.size + 1 + 1 := by simp
  have s3 : wb.heap.size = w.heap.size + 1 + 1 + 1 := by rw [hwb]; simp
  have b1 := blk_new w o1
  have b2 := blk_new (w.alloc o1) o2
  have b3 := blk_new ((w.alloc o1).alloc o2) o3
  have b4 := blk_new wb o4
  rw [s1] at b2
  rw [s2] at b3
  rw [s3] at b4
  have g2 := (Grew.refl (w.alloc o1)).alloc o2
  have g3 := (Grew.refl ((w.alloc o1).alloc o2)).alloc o3
  have g4 := (Grew.refl wb).alloc o4
  rw [← hwb] at g3 b3
  refine ⟨?_, by simp [s3], ((g2.trans (g3.trans g4)).block (by omega)).trans b1, ((g3.trans g4).block (by omega)).trans b2, (g4.block (by omega)).trans b3, b4⟩
  exact (((Grew.refl w).alloc o1).trans (g2.trans g3)).trans g4

theorem kb_cells {w0 W0 : World} {l gv : Nat} {v : Value} {L : List Nat} (h : Ints w0 v (zs L)) (hg : Grew w0 W0) (hl : w0.heap.size ≤ l) (hgv : w0.heap.size ≤ gv) :
    ∃ A c, v = .slice A L.length c ∧ ∀ k, k < L.length → ∃ b o, A = some ⟨b, o, none⟩ ∧ ∀ W, KB W0 l gv W → W.cell? ⟨b, o + k, none⟩ = some (.int .i64 ((nt L k : Nat) : Int)) := by
  rcases h.open_ with ⟨rfl, h0⟩ | ⟨b, o, c, rfl, _, _, hb, hc⟩
  · have hL : L = [] := by
      have := congrArg List.length h0
      rw [zs_len] at this
      exact List.eq_nil_of_length_eq_zero this
    subst hL
    exact ⟨none, 0, rfl, fun k hk => absurd hk (by simp)⟩
  · rw [zs_len] at hc ⊢
    refine ⟨_, _, rfl, fun k hk => ⟨b, o, rfl, fun W hW => ?_⟩⟩
    have h1 := hc k hk W0 hg
    rw [zs_it hk] at h1
    have hs := hg.size
    exact (hW.cell (p := ⟨b, o + k, none⟩) (by show b < _; omega) (by show b ≠ l; omega) (by show b ≠ gv; omega)).trans h1

end Go.Proofs.YtpfncncohnhanaaGreatDoor


/- Boxes: box of the program, l01Box of the reference. -/
namespace Go.Proofs.YtpfncncohnhanaaGreatDoor
open Go.RowKit

theorem box_q (v : Value) (A : List Nat) (m : Nat) (w : World) (h : Ints w v (zs A)) (hA : Sm A) (hn30 : A.length ≤ 30) (hm : m < 9223372036854775808) :
    Calls Tryz.prog 126 #[v, .int .i64 (m : Int)] w fun e w' => e = .returned (.int .i64 ((bx A m : Nat) : Int)) ∧ w' = w := by
  have HW := Lib.hid (fun a (ha : a < 1073741824) W => within_q a m (by omega) hm W)
  have HR := Lib.hid (show bxK A m A.length = bx A m from rfl)
  have HY := Lib.hid (fun k => @bxK_yes A m k)
  have HN := Lib.hid (fun k => @bxK_no A m k)
  have HS := Lib.hid (fun k (hk : k ≤ 30) => bxK_sm (A := A) (m := m) hk)
  have HT := Lib.hid (fun i (hi : i < A.length) => hA.at_ hi)
  have HO := Lib.hid (fun a b (ha : a < 1073741824) (hb : b < 1073741824) => or_i64 a b (by omega) (by omega))
  have HP := Lib.hid (fun k (hk : k ≤ 30) => wrap_pow hk)
  have HP2 := Lib.hid (fun k (hk : k < 30) => pow30 hk)
  obtain ⟨A', c, rfl⟩ := ints_sliceN h
  have HC := Lib.hid (fun h0 => cellsN h h0)
  clear hm h hA
  generalize bx A m = R at *
  generalize hNA : A.length = n at *
  clear hNA
  go_enter Tryz.func126, Tryz.ntmps126
  go_wp2_with fail
  go_loopw [5, 6, 7, 10] (fun q _ _ i wr => ∃ j : Nat, j ≤ n ∧ i = .int .i64 j ∧ q = .int .i64 ((bxK A m j : Nat) : Int) ∧ wr = w) (fun _ _ _ i _ => n - (intOf i).toNat)
  case atStart => exact ⟨0, by omega, rfl, rfl, rfl⟩
  case round =>
    obtain ⟨j, hj, rfl, rfl, rfl⟩ := hrel
    by_cases hlt : j < n
    · obtain ⟨b2, o2, rfl, hcell2⟩ := HC.out (by omega)
      have hH := Lib.hid (HW.out _ (HT.out j hlt))
      have ho := HO.out _ _ (HS.out j (by omega)) (HP2.out j (by omega))
      have hp := HP.out j (by omega)
      have hY := Lib.hid (HY.out j)
      have hN := Lib.hid (HN.out j)
      have k1 := hcell2 j hlt _ (Grew.refl _)
      clear hcell2
      generalize nt A j = y at *
      generalize decide (dif y m = 0) = t at *
      generalize hsj : bxK A m j = sj at *
      clear hsj
      generalize hpj : (2 ^ j : Nat) = pj at *
      clear hpj
      go_wp2_with fail
      refine (hH.out _).mono ?_
      rintro e w2 ⟨rfl, rfl⟩
      cases t with
      | true =>
        have hy := Lib.hid (hY.out rfl)
        go_wp2_with fail
        go_roundw
        case rel => exact ⟨j + 1, by omega, by go_num, by rw [hy.out], by trivial⟩
        case measure => simp [intOf]; omega
      | false =>
        have hn := Lib.hid (hN.out rfl)
        go_wp2_with fail
        go_roundw
        case rel => exact ⟨j + 1, by omega, by go_num, by rw [hn.out], by trivial⟩
        case measure => simp [intOf]; omega
    · obtain rfl : j = n := by omega
      have hr := Lib.hid HR.out
      go_wp2_with fail
      go_ret
      exact ⟨by rw [hr.out]; rfl, rfl⟩
theorem l01Box_q (v : Value) (A : List Nat) (m : Nat) (w : World) (h : Ints w v (zs A)) (hA : Sm A) (hn30 : A.length ≤ 30) (hm : m < 9223372036854775808) :
    Calls Tryz.prog 161 #[v, .int .i64 (m : Int)] w fun e w' => e = .returned (.int .i64 ((bx A m : Nat) : Int)) ∧ ∃ d, w' = w.drewN d := by
  have HR := Lib.hid (show bxK A m A.length = bx A m from rfl)
  have HY := Lib.hid (fun k => @bxK_yes A m k)
  have HN := Lib.hid (fun k => @bxK_no A m k)
  have HS := Lib.hid (fun k (hk : k ≤ 30) => bxK_sm (A := A) (m := m) hk)
  have HT := Lib.hid (fun i (hi : i < A.length) => hA.at_ hi)
  have HO := Lib.hid (fun a b (ha : a < 1073741824) (hb : b < 1073741824) => or_i64 a b (by omega) (by omega))
  have HA := Lib.hid (fun a (ha : a < 1073741824) => and_i64 a m (by omega) hm)
  have HE := Lib.hid (fun a : Nat => show (((a &&& m : Nat) : Int) == (a : Int)) = decide (dif a m = 0) from by
    rw [Bool.eq_iff_iff, decide_eq_true_eq, ← and_dif, beq_iff_eq]
    omega)
  have HOne := Lib.hid (fun i (hi : i ≤ 30) W => l01One_q i hi W)
  have HP2 := Lib.hid (fun k (hk : k < 30) => pow30 hk)
  obtain ⟨A', c, rfl⟩ := ints_sliceN h
  have HC := Lib.hid (fun h0 => cellsN h h0)
  clear hm h hA
  generalize bx A m = R at *
  generalize hNA : A.length = n at *
  clear hNA
  go_enter Tryz.func161, Tryz.ntmps161
  go_wp2_with fail
  go_loopw [5, 6] (fun q i wr => ∃ j d : Nat, j ≤ n ∧ i = .int .i64 j ∧ q = .int .i64 ((bxK A m j : Nat) : Int) ∧ wr = w.drewN d) (fun _ i _ => n - (intOf i).toNat)
  case atStart => exact ⟨0, 0, by omega, rfl, rfl, rfl⟩
  case round =>
    obtain ⟨j, d, hj, rfl, rfl, rfl⟩ := hrel
    by_cases hlt : j < n
    · obtain ⟨b2, o2, rfl, hcell2⟩ := HC.out (by omega)
      have hH := Lib.hid (HOne.out j (by omega))
      have ho := HO.out _ _ (HS.out j (by omega)) (HP2.out j (by omega))
      have ha := HA.out _ (HT.out j hlt)
      have he := HE.out (nt A j)
      have hY := Lib.hid (HY.out j)
      have hN := Lib.hid (HN.out j)
      have k1 := hcell2 j hlt _ (Grew.refl _)
      have hgd : Grew w (w.drewN d) := (Grew.refl w).drewN d
      clear hcell2
      generalize nt A j = y at *
      generalize y &&& m = ym at *
      generalize decide (dif y m = 0) = t at *
      generalize hsj : bxK A m j = sj at *
      clear hsj
      generalize hpj : (2 ^ j : Nat) = pj at *
      clear hpj
      go_wp2_with fail
      go_region
      cases t with
      | true =>
        have hy := Lib.hid (hY.out rfl)
        go_wp2_with fail
        refine (hH.out _).mono ?_
        rintro e w2 ⟨rfl, rfl⟩
        go_wp2_with fail
        go_roundw
        case rel => exact ⟨j + 1, _, by omega, by go_num, by rw [hy.out], by trivial⟩
        case measure => simp [intOf]; omega
      | false =>
        have hn := Lib.hid (hN.out rfl)
        go_wp2_with fail
        go_roundw
        case rel => exact ⟨j + 1, _, by omega, by go_num, by rw [hn.out], by trivial⟩
        case measure => simp [intOf]; omega
    · obtain rfl : j = n := by omega
      have hr := Lib.hid HR.out
      go_wp2_with fail
      go_ret
      exact ⟨by rw [hr.out]; rfl, d, rfl⟩
end Go.Proofs.YtpfncncohnhanaaGreatDoor


/- Implications of sets: all, imply of the program, l17Arrow of the reference. -/
namespace Go.Proofs.YtpfncncohnhanaaGreatDoor
open Go.RowKit

end Go.Proofs.YtpfncncohnhanaaGreatDoor


/- forced of the program: a stack of values. -/
namespace Go.Proofs.YtpfncncohnhanaaGreatDoor
open Go.RowKit
open Fm (Nd Tree)

def sk (st : List Nat) : List Int := zs st.reverse
theorem sk_len (st : List Nat) : (sk st).length = st.length := by unfold sk; rw [zs_len, List.length_reverse]
theorem sk_cons (x : Nat) (st : List Nat) : sk (x :: st) = sk st ++ [(x : Int)] := by unfold sk; rw [List.reverse_cons, zs_append]; rfl
theorem OwnI.pop {w : World} {B : Nat} {A : Option Addr} {n c : Nat} {L : List Int} {x : Int} (h : OwnI w B (.slice A n c) (L ++ [x])) : n = L.length + 1 ∧ ∃ g, A = some ⟨g, 0, none⟩ ∧ n ≤ c ∧ c ≤ 9223372036854775807 ∧ B ≤ g ∧ g < w.heap.size ∧ w.cell? ⟨g, L.length, none⟩ = some (.int .i64 x) ∧ OwnI w B (.slice (some ⟨g, 0, none⟩) L.length c) L := by
  obtain ⟨h1, h2⟩ := h
  rcases h2 with ⟨h3, h4⟩ | ⟨g, cap, cur, h3, h4, h5, h6, h7, h8, h9⟩
  · rw [List.length_append] at h4; simp at h4
  · rw [List.length_append, List.length_singleton] at h3 h6 h9
    simp only [Value.slice.injEq] at h3
    obtain ⟨rfl, rfl, rfl⟩ := h3
    have hsz : cur.size = c := by omega
    have hcell : ∀ j, j < L.length + 1 → cur[j]? = (icells (L ++ [x]))[j]? := fun j hj => by
      have := congrArg (fun l => l[j]?) h9
      simp only [List.getElem?_take] at this
      rw [if_pos (by omega)] at this
      simpa using this
    refine ⟨rfl, g, rfl, h6, h7, h4, (Array.getElem?_eq_some_iff.1 h5).1, ?_, ?_⟩
    · rw [cell_of_row w g _ cur _ (0, 0) h5, hcell _ (by omega)]
      have := icells_at (L := L ++ [x]) (i := L.length) (by simp)
      rw [this]
      simp [it, List.getD]
    · refine OwnI.mk_ h4 h5 (by omega) h7 hsz fun i hi => ?_
      rw [hcell i (by omega), icells_at (by simp; omega)]
      congr 1
      simp [it, List.getD, List.getElem?_append_left hi]
def Stk (w : World) (b B : Nat) (st : List Nat) : Prop := ∃ A n c, w.heap[b]? = some (.cells #[.slice A n c] 24 (0, 0)) ∧ OwnI w B (.slice A n c) (sk st)
theorem wpList_appB {ops : Array Oper} {rest : List Oper} {o : Oper} {a : Act} {Q : Exit → Act → World → Prop} {w : World} (B : Nat) (s x : Operand) (hgd : o.guard = none)
    (ho : o.op = .call { callee := .builtin .append, args := #[s, x], argTypes := #[24, 24] })
    (v : Value) (L : List Int) (hs : a.eval s = v) (hown : OwnI w B v L) (hB : B ≤ w.heap.size) (vx : Value) (k : Int) (hx : a.eval x = vx) (hr : Rd w 1 vx 1 [.int .i64 k]) (hn : L.length ≤ 1048576)
    (h : ∀ v' w', OwnI w' B v' (L ++ [k]) → w.grownBy w' v.ownBlock → wpList Tryz.prog ops Q rest (a.put o.dst v') w') : wpList Tryz.prog ops Q (o :: rest) a w := by
  obtain ⟨i0, hi0, hz0, hz1, hz2⟩ := info_parts Tryz.infoI
  refine wpList_append_rd w hgd s x _ ho B 2 i0 _ 1 8 Tryz.underlying24 hi0 hz0 hz1 hz2 rfl (by omega) v L.length (icells L) hs hown vx 1 [.int .i64 k] hx hr (by simp [Value.oneCell']) (by unfold maxLen; omega) (by omega) hB ?_
  intro v' w' h1 h2 h3
  refine h v' w' ?_ h2
  unfold OwnI
  rw [List.length_append, icells_append]
  exact h1
theorem two_at {st : List Nat} (h : 2 ≤ st.length) : ∃ x y r, st = x :: y :: r := by
  match st, h with
  | x :: y :: r, _ => exact ⟨x, y, r, rfl⟩
theorem Stk.grew {w w' : World} {b B : Nat} {st : List Nat} (h : Stk w b B st) (hg : Grew w w') : Stk w' b B st := by
  obtain ⟨A, n, c, h1, h2⟩ := h
  exact ⟨A, n, c, (hg.block (blk_lt h1)).trans h1, h2.grew hg⟩

end Go.Proofs.YtpfncncohnhanaaGreatDoor


/- Formulas of two parts. -/
namespace Go.Proofs.YtpfncncohnhanaaGreatDoor
open Go.RowKit

def TwoF (A p q : Fm.Tree) : Prop := Fm.enc A = (kindOf A, 0) :: (Fm.enc p ++ Fm.enc q)
theorem TwoF.len {A p q : Fm.Tree} (h : TwoF A p q) : (Fm.enc A).length = 1 + (Fm.enc p).length + (Fm.enc q).length := by rw [h]; simp; omega
end Go.Proofs.YtpfncncohnhanaaGreatDoor


/- The parts of a formula in the reference. -/
namespace Go.Proofs.YtpfncncohnhanaaGreatDoor
open Go.RowKit
open Fm (Nd Tree)

theorem two_and (x y : Tree) : TwoF (.and x y) x y := rfl
theorem two_or (x y : Tree) : TwoF (.or x y) x y := rfl
theorem two_imp (x y : Tree) : TwoF (.imp x y) x y := rfl
theorem head_t {w : World} {v : Value} {t : Tree} (h : Nodes w v (Fm.enc t)) : ∃ b o n c, v = .slice (some ⟨b, o, none⟩) n c ∧ 0 < n ∧ n = (Fm.enc t).length ∧ ∀ W, Grew w W → W.cell? ⟨b, o, none⟩ = some (.int .i64 (kindOf t)) := by
  obtain ⟨b, o, c, h1, _, _, h4⟩ := nodes_head h
  exact ⟨b, o, _, c, h1, Fm.enc_pos t, rfl, h4⟩

end Go.Proofs.YtpfncncohnhanaaGreatDoor


/- l17Force of the reference. -/
namespace Go.Proofs.YtpfncncohnhanaaGreatDoor
open Go.RowKit
open Fm (Nd Tree)

end Go.Proofs.YtpfncncohnhanaaGreatDoor


/- l01Image: it only reads. -/
namespace Go.Proofs.YtpfncncohnhanaaGreatDoor
open Go.RowKit
theorem l01Image_q (v : Value) (A : List Nat) (m : Nat) (w : World) (h : Ints w v (zs A)) (hA : Sm A) (hn30 : A.length ≤ 30) (hm : m < 2 ^ A.length) :
    Calls Tryz.prog 140 #[v, .int .i64 (m : Int)] w fun e w' => e = .returned (.int .i64 ((img A m : Nat) : Int)) ∧ w' = w := by
  have hm' : m < 1073741824 := Nat.lt_of_lt_of_le hm (pow30' hn30)
  have HH := Lib.hid (fun i (hi : i < 64) => l01Bit_q m i (by omega) hi)
  have HR := Lib.hid (img_imK hm hn30)
  have HY := Lib.hid (fun k => @imK_yes A m k)
  have HN := Lib.hid (fun k => @imK_no A m k)
  have HS := Lib.hid (fun k hk => imK_sm (m := m) hA k hk)
  have HT := Lib.hid (fun i (hi : i < A.length) => hA.at_ hi)
  have HO := Lib.hid (fun a b (ha : a < 1073741824) (hb : b < 1073741824) => or_i64 a b (by omega) (by omega))
  obtain ⟨A', c, rfl⟩ := ints_sliceN h
  have HC := Lib.hid (fun h0 => cellsN h h0)
  clear hm hm' h hA
  generalize img A m = R at *
  generalize hNA : A.length = n at *
  clear hNA
  go_enter Tryz.func140, Tryz.ntmps140
  go_wp2_with fail
  go_loopw [5, 6] (fun q i wr => ∃ j : Nat, j ≤ n ∧ i = .int .i64 j ∧ q = .int .i64 ((imK A m j : Nat) : Int) ∧ wr = w) (fun _ i _ => n - (intOf i).toNat)
  case atStart => exact ⟨0, by omega, rfl, rfl, rfl⟩
  case round =>
    obtain ⟨j, hj, rfl, rfl, rfl⟩ := hrel
    by_cases hlt : j < n
    · obtain ⟨b2, o2, rfl, hcell2⟩ := HC.out (by omega)
      have hH := Lib.hid (HH.out j (by omega))
      have ho := HO.out _ _ (HS.out j (by omega)) (HT.out j hlt)
      have hY := Lib.hid (HY.out j)
      have hN := Lib.hid (HN.out j)
      have hcell := Lib.hid (hcell2 j hlt)
      clear hcell2
      generalize nt A j = y at *
      generalize m.testBit j = t at *
      generalize hsj : imK A m j = sj at *
      clear hsj
      go_wp2_with fail
      refine (hH.out _).mono ?_
      rintro e w2 ⟨rfl, rfl⟩
      have k1 := hcell.out _ (Grew.refl _)
      cases t with
      | true =>
        have hy := Lib.hid (hY.out rfl)
        go_wp2_with fail
        go_roundw
        case rel => exact ⟨j + 1, by omega, by go_num, by rw [hy.out], trivial⟩
        case measure => simp [intOf]; omega
      | false =>
        have hn := Lib.hid (hN.out rfl)
        go_wp2_with fail
        go_roundw
        case rel => exact ⟨j + 1, by omega, by go_num, by rw [hn.out], trivial⟩
        case measure => simp [intOf]; omega
    · obtain rfl : j = n := by omega
      have hr := Lib.hid HR.out
      go_wp2_with fail
      go_ret
      exact ⟨by rw [hr.out]; rfl, rfl⟩
end Go.Proofs.YtpfncncohnhanaaGreatDoor


/- l05Flag of the reference: reflexive, transitive, antisymmetric. -/
namespace Go.Proofs.YtpfncncohnhanaaGreatDoor
open Go.RowKit
end Go.Proofs.YtpfncncohnhanaaGreatDoor


/- Posets and valuations of the reference: l16Is, l17Is, IsValuation. -/
namespace Go.Proofs.YtpfncncohnhanaaGreatDoor
open Go.RowKit
end Go.Proofs.YtpfncncohnhanaaGreatDoor


/- l02Is of the reference, at any list. -/
namespace Go.Proofs.YtpfncncohnhanaaGreatDoor
open Go.RowKit
open Fm (Nd Tree)

theorem nodeB_bad1 {a b : Int} (h : decide (0 ≤ a ∧ a ≤ 6) = false) : nodeB a b = false := by
  unfold nodeB
  have h' := of_decide_eq_false h
  rw [if_neg (by simp; omega), decide_eq_false (by omega)]
  rfl
theorem nodeB_bad2 {a b : Int} (h : decide (0 ≤ b ∧ b ≤ 5) = false) : nodeB a b = false := by
  unfold nodeB
  have h' := of_decide_eq_false h
  split
  · exact h
  · have : (b == 0) = false := by simp; omega
    rw [this, Bool.and_false]
theorem nodeB_bad3 {a b : Int} (h0 : (a != 0) = true) (h1 : (b != 0) = true) : nodeB a b = false := by
  unfold nodeB
  simp at h0 h1
  rw [if_neg (by simpa using h0)]
  simp [h1]
theorem nodeB_ok {a b : Int} (h1 : decide (0 ≤ a ∧ a ≤ 6) = true) (h2 : decide (0 ≤ b ∧ b ≤ 5) = true) (h : (a != 0) = false ∨ (b != 0) = false) : nodeB a b = true := by
  unfold nodeB
  have h1' := of_decide_eq_true h1
  split
  · exact h2
  · rename_i hne
    rcases h with h | h
    · simp at h; simp [h] at hne
    · simp at h
      subst h
      have : a ≠ 0 := by simpa using hne
      simp; omega

theorem l02Tree_c (v : Value) (xs : List Nd) (w : World) (h : Nodes w v xs) (hn : xs.length ≤ 1099511627776) :
    Calls Tryz.prog 64 #[v] w fun e w' => e = .returned (.bool (decide (1 ≤ xs.length) && !anyP noNode xs && (pend xs 0 == (xs.length : Int)))) ∧ Grew w w' := by
  rcases h.open_ with ⟨rfl, rfl⟩ | ⟨b, o, c, rfl, hc, hm, hb, hcell⟩
  · clear h
    go_enter Tryz.func64, Tryz.ntmps64
    go_wp2_with fail
    refine wp_loop_rounds 1 ?_; rw [rounds_succ]
    go_wp2_with fail
    go_ret
    exact ⟨rfl, Grew.refl _⟩
  obtain ⟨R, hR⟩ : ∃ R, R = anyP noNode xs := ⟨_, rfl⟩
  rw [← hR]
  have HA := Lib.hid (fun k hk h => hR.trans (@anyP_at noNode xs k hk h))
  have HZ := Lib.hid (fun h => hR.trans (@anyP_no noNode xs h))
  have HP := Lib.hid (fun W (hW : Grew w W) => l02Part_c _ xs 0 W (h.grew hW) hn (by omega))
  have HC := Lib.hid hcell
  clear hcell h hR
  generalize pend xs 0 = p at *
  generalize hN : xs.length = n at *
  clear hN
  go_enter Tryz.func64, Tryz.ntmps64
  go_wp2_with fail
  go_loopw [3] (fun i wr => ∃ j : Nat, j ≤ n ∧ i = .int .i64 j ∧ Grew w wr ∧ Hid (NoneP noNode xs j)) (fun i _ => n - (intOf i).toNat)
  case atStart => exact ⟨0, Nat.zero_le _, rfl, Grew.refl _, NoneP.zero _ _⟩
  case round =>
    obtain ⟨j, hj, rfl, hB, HJ⟩ := hrel
    by_cases hlt : j < n
    · have k1 : ∀ W, Grew w W → W.cell? ⟨b, o + j * 2, none⟩ = some (.int .i64 (kd xs j)) := fun W hW => (HC.out j hlt W hW).1
      have k2 : ∀ W, Grew w W → W.cell? ⟨b, o + j * 2 + 1, none⟩ = some (.int .i64 (sy xs j)) := fun W hW => (HC.out j hlt W hW).2
      have hA : Hid (nodeB (kd xs j) (sy xs j) = false → R = true) := Lib.hid (fun h => HA.out j hlt (by rw [noNode, h]; rfl))
      have hS : Hid (nodeB (kd xs j) (sy xs j) = true → NoneP noNode xs (j + 1)) := Lib.hid (fun h => HJ.out.succ (k := j) (by rw [noNode, h]; rfl))
      generalize kd xs j = x at *
      generalize sy xs j = y at *
      have I1 := fun w => l01In_c x 0 6 w
      have I2 := fun w => l01In_c y 0 5 w
      have hd : ∀ W, Grew w W → Grew w W.drew := fun W h => h.drew
      cases d1 : decide (0 ≤ x ∧ x ≤ 6) with
      | false =>
        have hv := Lib.hid (hA.out (nodeB_bad1 d1))
        rw [d1] at I1
        replace I1 := Lib.hid I1
        replace I2 := Lib.hid I2
        clear d1
        go_wp2_with fail
        refine (I1.out _).mono ?_
        rintro e w1 ⟨rfl, hg1⟩
        have hB1 := hB.trans hg1
        go_wp2_with fail
        go_ret
        rw [hv.out]
        exact ⟨by simp, hB1⟩
      | true =>
        rw [d1] at I1
        replace I1 := Lib.hid I1
        cases d2 : decide (0 ≤ y ∧ y ≤ 5) with
        | false =>
          have hv := Lib.hid (hA.out (nodeB_bad2 d2))
          rw [d2] at I2
          replace I2 := Lib.hid I2
          clear d1 d2
          go_wp2_with fail
          refine (I1.out _).mono ?_
          rintro e w1 ⟨rfl, hg1⟩
          have hB1 := hB.trans hg1
          go_wp2_with fail
          refine (I2.out _).mono ?_
          rintro e w2 ⟨rfl, hg2⟩
          have hB2 := hB1.trans hg2
          go_wp2_with fail
          go_ret
          rw [hv.out]
          exact ⟨by simp, hB2⟩
        | true =>
          rw [d2] at I2
          replace I2 := Lib.hid I2
          cases d3 : (x != 0) with
          | false =>
            have hs := Lib.hid (hS.out (nodeB_ok d1 d2 (.inl d3)))
            clear d1 d2
            go_wp2_with fail
            refine (I1.out _).mono ?_
            rintro e w1 ⟨rfl, hg1⟩
            have hB1 := hB.trans hg1
            go_wp2_with fail
            refine (I2.out _).mono ?_
            rintro e w2 ⟨rfl, hg2⟩
            have hB2 := hB1.trans hg2
            go_wp2_with fail
            go_roundw
            case rel => exact ⟨j + 1, by omega, by go_num, hB2, hs⟩
            case measure => simp [intOf]; omega
          | true =>
            cases d4 : (y != 0) with
            | true =>
              have hv := Lib.hid (hA.out (nodeB_bad3 d3 d4))
              clear d1 d2
              go_wp2_with fail
              refine (I1.out _).mono ?_
              rintro e w1 ⟨rfl, hg1⟩
              have hB1 := hB.trans hg1
              go_wp2_with fail
              refine (I2.out _).mono ?_
              rintro e w2 ⟨rfl, hg2⟩
              have hB2 := hB1.trans hg2
              go_wp2_with fail
              go_ret
              rw [hv.out]
              exact ⟨by simp, hB2⟩
            | false =>
              have hs := Lib.hid (hS.out (nodeB_ok d1 d2 (.inr d4)))
              clear d1 d2
              go_wp2_with fail
              refine (I1.out _).mono ?_
              rintro e w1 ⟨rfl, hg1⟩
              have hB1 := hB.trans hg1
              go_wp2_with fail
              refine (I2.out _).mono ?_
              rintro e w2 ⟨rfl, hg2⟩
              have hB2 := hB1.trans hg2
              go_wp2_with fail
              go_roundw
              case rel => exact ⟨j + 1, by omega, by go_num, hB2, hs⟩
              case measure => simp [intOf]; omega
    · obtain rfl : j = n := by omega
      have hv := Lib.hid (HZ.out HJ.out)
      by_cases hz : 0 < j
      · have hz1 : decide (1 ≤ j) = true := by simp; omega
        go_wp2_with fail
        refine (HP.out _ hB).mono ?_
        rintro e w1 ⟨rfl, hg1⟩
        go_wp2_with fail
        go_ret
        rw [hv.out]
        exact ⟨by rw [hz1]; simp, hB.trans hg1⟩
      · have hz1 : decide (1 ≤ j) = false := by simp; omega
        go_wp2_with fail
        go_ret
        rw [hv.out, hz1]
        exact ⟨by simp, hB⟩

theorem l02Is_c (v : Value) (xs : List Nd) (w : World) (h : Nodes w v xs) (hn : xs.length ≤ 1099511627776) :
    Calls Tryz.prog 26 #[v] w fun e w' => e = .returned (.bool (fmB xs)) ∧ Grew w w' := by
  have HT := fun W (hW : Grew w W) => l02Tree_c v xs W (h.grew hW) hn
  obtain ⟨A, c, rfl⟩ := nodes_slice h
  clear h
  unfold fmB
  generalize pend xs 0 = p at *
  generalize anyP noNode xs = q at *
  generalize hL : xs.length = n at *
  clear hL
  by_cases h2 : n ≤ 40
  · rw [show decide (1 ≤ n ∧ n ≤ 40) = decide (1 ≤ n) from by simp [h2]]
    generalize (decide (1 ≤ n) && !q && (p == (n : Int))) = r at *
    replace HT := Lib.hid HT
    go_enter Tryz.func26, Tryz.ntmps26
    go_wp2_with fail
    refine (HT.out _ (Grew.refl _)).mono ?_
    rintro e w1 ⟨rfl, hg1⟩
    go_wp2_with fail
    go_ret
    exact ⟨rfl, hg1⟩
  · rw [show decide (1 ≤ n ∧ n ≤ 40) = false from by simp [h2], Bool.false_and, Bool.false_and]
    replace HT := Lib.hid HT
    go_enter Tryz.func26, Tryz.ntmps26
    go_wp2_with fail
    go_ret
    exact ⟨rfl, Grew.refl _⟩
end Go.Proofs.YtpfncncohnhanaaGreatDoor


/- FnMonotone: ForcedSet of both sides, UpsetOf, UpsetsOf, MembersOf, PartOfValuation (printed by gen/mna.py). -/
namespace Go.Proofs.YtpfncncohnhanaaGreatDoor
open Go.RowKit
open Fm (Nd Tree)

end Go.Proofs.YtpfncncohnhanaaGreatDoor


/- FnMonotone: the upsets of a poset (upsets, UpsetsOf, UpsetOf, posetCode, maskCode, MembersOf, hasInt). -/
namespace Go.Proofs.YtpfncncohnhanaaGreatDoor
open Go.RowKit
open Fm (Nd Tree)

end Go.Proofs.YtpfncncohnhanaaGreatDoor


/- The program's search for a valuation that refutes a formula on a poset: variablesIn of one formula, valuations, unforced, isValid. -/
namespace Go.Proofs.YtpfncncohnhanaaGreatDoor
open Go.RowKit
open Fm (Nd Tree)
attribute [local go_sem] Oper.semAt_some

theorem variablesIn_one_c (b : Nat) (va : Value) (xs : List Nd) (w : World) (hc : w.cell? ⟨b, 0, none⟩ = some va) (hb : b < w.heap.size) (h : Nodes w va xs) (hv : Vs xs) (hn : xs.length ≤ 1048576) :
    Calls Tryz.prog 35 #[.slice (some ⟨b, 0, none⟩) 1 1] w (GivesI w (zs (mbs (vm xs)))) := by
  have HM := Lib.hid (fun W (hW : Grew w W) => variableMask_c va xs W (h.grew hW) hv hn)
  have hlt := vmK_lt hv xs.length (Nat.le_refl _)
  have hsm : vm xs < 1073741824 := by
    have : (2 : Nat) ^ 6 = 64 := rfl
    unfold vm
    omega
  have HB := Lib.hid (membersOf_c (vm xs) hsm)
  have hor : bits .or .i64 0 ((vm xs : Nat) : Int) = ((vm xs : Nat) : Int) := by
    have h0 := or_i64 0 (vm xs) (by omega) (by omega)
    rw [Nat.zero_or] at h0
    exact h0
  obtain ⟨A, c, rfl⟩ := nodes_slice h
  clear h hv hn hlt
  generalize vm xs = m at *
  generalize xs.length = n at *
  go_enter Tryz.func35, Tryz.ntmps35
  go_wp2_with fail
  go_loopw [3, 8] (fun q i wr => ∃ j : Nat, j ≤ 1 ∧ i = .int .i64 j ∧ q = .int .i64 ((if j = 0 then 0 else m : Nat) : Int) ∧ Grew w wr) (fun _ i _ => 1 - (intOf i).toNat)
  case atStart => exact ⟨0, by omega, rfl, rfl, Grew.refl _⟩
  case round =>
    obtain ⟨j, hj, rfl, rfl, hB⟩ := hrel
    by_cases hlt : j = 0
    · subst hlt
      have hc1 := (hB.cell (p := ⟨b, 0, none⟩) hb).trans hc
      have hM := Lib.hid (HM.out _ hB)
      rw [if_pos rfl]
      go_wp2_with fail
      refine hM.out.mono ?_
      rintro e w1 ⟨rfl, hg1⟩
      go_wp2_with fail
      go_roundw
      case rel => exact ⟨1, by omega, rfl, rfl, hB.trans hg1⟩
      case measure => simp [intOf]
    · obtain rfl : j = 1 := by omega
      rw [if_neg (by omega)]
      go_wp2_with fail
      refine (HB.out _).mono ?_
      rintro e w2 ⟨v2, rfl, hO2, hg2⟩
      go_wp2_with fail
      go_ret
      exact ⟨_, rfl, hO2.base hB.size, hB.trans hg2⟩

theorem alloc5 (w wa : World) (o1 o2 o3 o4 o5 : Obj) (h : wa = ((((w.alloc o1).alloc o2).alloc o3).alloc o4).alloc o5) : Grew w wa ∧ wa.heap.size = w.heap.size + 5 ∧ wa.heap[w.heap.size]? = some o1 ∧ wa.heap[w.heap.size + 1]? = some o2 ∧ wa.heap[w.heap.size + 1 + 1]? = some o3 ∧ wa.heap[w.heap.size + 1 + 1 + 1]? = some o4 ∧ wa.heap[w.heap.size + 1 + 1 + 1 + 1]? = some o5 := by
  obtain ⟨wb, hwb⟩ : ∃ wb, wb = (((w.alloc o1).alloc o2).alloc o3).alloc o4 := ⟨_, rfl⟩
  obtain ⟨hg, hs, b1, b2, b3, b4⟩ := alloc4 _ _ _ _ _ _ hwb
  rw [← hwb] at h
  subst h
  have g5 := (Grew.refl wb).alloc o5
  have b5 := blk_new wb o5
  rw [hs] at b5
  exact ⟨hg.trans g5, by simp [hs], (g5.block (by omega)).trans b1, (g5.block (by omega)).trans b2, (g5.block (by omega)).trans b3, (g5.block (by omega)).trans b4, b5⟩

theorem blk_ltO {w : World} {k : Nat} {o : Obj} (h : w.heap[k]? = some o) : k < w.heap.size := (Array.getElem?_eq_some_iff.1 h).1
theorem loadVar_one {P : Program} (w : World) (g : Nat) (t ty : TypeId) (v : Value) (d : TypeDesc) (hg : w.heap[g]? = some (.cells #[v] t (0, 0))) (hu : P.underlying ty = some d) (hd : (match d with | .struct _ | .array _ _ => true | _ => false) = false) :
    (loadVar ty ⟨g, 0, none⟩).run P w = .ok v w := by
  have hagg : (isAgg ty).run P w = .ok false w := by
    unfold isAgg
    rw [Sem.run_bind, run_underlying hu w]
    cases d <;> simp_all
  have hc : w.cell? ⟨g, 0, none⟩ = some v := by rw [blk_cell hg]; rfl
  simp [loadVar, Sem.run_bind, hagg, hc]
theorem mbs_length6 {m n : Nat} (hm : m < 2 ^ n) (hn : n ≤ 30) : (mbs m).length ≤ n := by
  have e : mbs m = mb m n := mb_top hm 30 hn
  rw [e]
  exact mb_len m n

end Go.Proofs.YtpfncncohnhanaaGreatDoor


/- permutations, leastRelation. -/
namespace Go.Proofs.YtpfncncohnhanaaGreatDoor
open Go.RowKit

set_option maxHeartbeats 1000000 in
theorem permutations_c {w0 : World} {A b : List Nat} {bA bB : Nat} {va vb : Value} (hva : Ints w0 va (zs A)) (hA : Rl A) (hn : A.length ≤ 6) (ha0 : w0.heap.size ≤ bA) (hb0 : w0.heap.size ≤ bB) (hab : bA ≠ bB) {W : World} (hg : Grew w0 W)
    (hAc : W.heap[bA]? = some (.cells #[va] 24 (0, 0))) (hBc : W.heap[bB]? = some (.cells #[vb] 24 (0, 0))) (hbest : OwnI W w0.heap.size vb (zs b)) (hl : b.length = A.length) :
    Calls Tryz.prog 103 #[.int .i64 (A.length : Int), .func (.func 104) #[] #[.pointer (some ⟨bA, 0, none⟩), .pointer (some ⟨bB, 0, none⟩)]] W fun e W' =>
      (∃ v, e = .returned v) ∧ ∃ vb', Grew w0 W' ∧ W'.heap[bB]? = some (.cells #[vb'] 24 (0, 0)) ∧ OwnI W' w0.heap.size vb' (zs ((dfs A.length A.length []).foldl (lstep A) b)) := by
  have hmk := fun W => run_make_room (P := Tryz.prog) 24 2 (.int .i64 0) 8 Tryz.underlying24 Tryz.infoI rfl .i64 .i64 A.length (by omega) (by omega) W
  have HMZ := Lib.hid (size_madeCells #[Value.int .i64 0] A.length)
  have HG := Lib.hid (fun X bN bF bO bG Bo vO (hX : GS w0 A bA bB bN bF bO bG Bo va _ _ X [] vO b vb) hx => search_c hva hA hn hx rfl rfl A.length [] b vO vb 0 X hX (by simp) List.nodup_nil (by simp) (by simp) (by omega))
  have hsz := hg.size
  have hl1 := blk_ltM hAc
  have hl2 := blk_ltM hBc
  have HAA := Lib.hid (And.intro hAc (And.intro hBc (And.intro hbest (And.intro hg (And.intro hl (And.intro ha0 (And.intro hb0 hab)))))))
  clear hAc hBc hbest hg hl ha0 hb0 hab hva hA
  generalize hnn : A.length = n at *
  have HN := Lib.hid hnn
  clear hnn
  generalize madeCells #[Value.int .i64 0] n = cur0 at *
  generalize A = A0 at *
  go_enter Tryz.func103, Tryz.ntmps103
  go_wp2_with fail
  obtain ⟨hAc, hBc, hbest, hg, hl, ha0, hb0, hab⟩ := HAA.out
  refine Calls.mono (HG.out _ _ _ _ _ (W.heap.size + 1 + 1) (.slice (some ⟨W.heap.size + 1 + 1, 0, none⟩) 0 n) ?_ ?_) ?_
  · obtain ⟨g5, s5, b1, b2, b3, b4, b5⟩ := alloc5 W _ _ _ _ _ _ rfl
    have hown := OwnI.mk_ (L := []) (Nat.le_refl (W.heap.size + 1 + 1)) b3 (by simp) (by omega) HMZ.out (fun i hi => absurd hi (by simp))
    refine ⟨hg.trans g5, (g5.block hl1).trans hAc, (g5.block hl2).trans hBc, by rw [HN.out]; exact b1, b2, b4, b5, hown, hbest.grew g5, fun g hgg he => ?_, by rw [HN.out]; exact hl⟩
    have h1 := own_of_ge hown hgg
    have h2 := (hbest.lt g he).2
    omega
  · constructor <;> first | omega | exact hab
  rintro e w9 ⟨⟨v9, rfl⟩, vO9, vb9, h9⟩
  have H9 := Lib.hid h9
  clear h9
  go_wp2_with fail
  go_end0
  exact ⟨⟨_, rfl⟩, _, H9.out.grew, H9.out.hB, H9.out.best⟩

set_option maxHeartbeats 1000000 in
theorem leastRelation_c (v : Value) (A : List Nat) (w : World) (h : Ints w v (zs A)) (hA : Rl A) (hn : A.length ≤ 6) :
    Calls Tryz.prog 60 #[v] w (GivesI w (zs (lst A))) := by
  have HC := Lib.hid (fun W (hW : Grew w W) => cloneR_c v (zs A) W (h.grew hW) (by rw [zs_len]; omega))
  have HP := Lib.hid (fun (W : World) (bA bB : Nat) (vb : Value) ha0 hb0 hab (hg : Grew w W) h1 h2 h3 => permutations_c (W := W) (bA := bA) (bB := bB) (vb := vb) (b := A) h hA hn ha0 hb0 hab hg h1 h2 h3 rfl)
  have HL : Hid ((dfs A.length A.length []).foldl (lstep A) A = lst A) := Lib.hid (by rw [dfs_all]; rfl)
  obtain ⟨A1, c1, rfl⟩ := ints_sliceN h
  have KS := Lib.hid (fun (X : World) => sizeI_q A1 A.length c1 (by omega) X)
  clear h hA hn
  generalize A.length = n at *
  go_enter Tryz.func60, Tryz.ntmps60
  go_wp2_with fail
  refine (HC.out _ ((Grew.refl w).alloc _)).mono ?_
  rintro e w2 ⟨v2, rfl, hO2, hg2⟩
  obtain ⟨A2, n2, rfl⟩ := ints_sliceN hO2.ints
  have HB2 := Lib.hid ((hg2.block (k := w.heap.size) (by simp)).trans (blk_new w (.cells #[.slice A1 n c1] 24)))
  have k1 : ∀ X, Grew w2 X → X.cell? ⟨w.heap.size, 0, none⟩ = some (.slice A1 n c1) := fun X hX => by rw [blk_cell ((hX.block (blk_ltM HB2.out)).trans HB2.out)]; rfl
  have hsz : w.heap.size + 1 ≤ w2.heap.size := by have := hg2.size; simpa using this
  have HG2 := Lib.hid (((Grew.refl w).alloc (.cells #[.slice A1 n c1] 24)).trans hg2)
  generalize hvs : A.length = n2' at *
  have HO2 := Lib.hid (hO2.base (B' := w.heap.size) (by simp))
  clear hO2
  have r3 := (Grew.refl w2).alloc (.cells #[.slice A2 n2' n2] 24)
  have r4 := Grew.refl w2
  go_wp2_with fail
  refine (KS.out _).mono ?_
  rintro e w3 ⟨rfl, rfl⟩
  go_wp2_with fail
  refine Calls.mono (HP.out _ w.heap.size w2.heap.size (.slice A2 n2' n2) (Nat.le_refl _) (by omega) (by omega) (HG2.out.alloc _) ?_ ?_ ?_) ?_
  · exact (((Grew.refl w2).alloc _).block (blk_ltM HB2.out)).trans HB2.out
  · exact blk_new w2 _
  · exact HO2.out.grew ((Grew.refl w2).alloc _)
  rintro e w4 ⟨⟨v4, rfl⟩, vb, hg4, hb4, hO4⟩
  have k4 : w4.cell? ⟨w2.heap.size, 0, none⟩ = some vb := by rw [blk_cell hb4]; rfl
  have HO4 := Lib.hid hO4
  clear hO4
  go_wp2_with fail
  go_ret
  exact ⟨_, rfl, by rw [← HL.out]; exact HO4.out, hg4⟩
end Go.Proofs.YtpfncncohnhanaaGreatDoor


/- The library's sort, laid at this program's instantiation (rows of rows); names of functions filled in by marks. -/
namespace Go.Proofs.YtpfncncohnhanaaGreatDoor
open Go.RowKit

def laySortR : Go.Shelf.Ren := ⟨fun | 6 => 154 | 15 => 177 | 14 => 176 | 28 => 206 | 29 => 207 | 20 => 198 | 21 => 199 | 22 => 200 | 23 => 201 | 24 => 202 | 25 => 203 | 26 => 204 | 27 => 205 | 46 => 215 | 47 => 216 | 48 => 217 | 49 => 218 | 50 => 219 | 57 => 230 | n => n, fun | 22 => 123 | 24 => 24 | 25 => 121 | 3 => 3 | 39 => 116 | 0 => 0 | 53 => 181 | 55 => 101 | 4 => 4 | 46 => 174 | 45 => 173 | 50 => 178 | 5 => 5 | 9 => 9 | 66 => 186 | 70 => 190 | 76 => 197 | 77 => 198 | n => n, fun | n => n⟩
theorem laySort : Go.Proofs.SlLaysF.n6 Tryz.prog laySortR where
  mixed := by kernel_rfl
  f6 := ⟨ "slices.SortFunc[[][]int64,[]int64]", by decide, Tryz.func154.trans (congrArg some (by kernel_rfl))⟩
  f14 := ⟨ "slices.pdqsortCmpFunc[[]int64]", by decide, Tryz.func176.trans (congrArg some (by kernel_rfl))⟩
  f15 := Tryz.func177.trans (congrArg some (by kernel_rfl))
  f20 := ⟨ "slices.insertionSortCmpFunc[[]int64]", by decide, Tryz.func198.trans (congrArg some (by kernel_rfl))⟩
  f21 := ⟨ "slices.heapSortCmpFunc[[]int64]", by decide, Tryz.func199.trans (congrArg some (by kernel_rfl))⟩
  f22 := ⟨ "slices.breakPatternsCmpFunc[[]int64]", by decide, Tryz.func200.trans (congrArg some (by kernel_rfl))⟩
  f23 := ⟨ "slices.choosePivotCmpFunc[[]int64]", by decide, Tryz.func201.trans (congrArg some (by kernel_rfl))⟩
  f24 := ⟨ "slices.reverseRangeCmpFunc[[]int64]", by decide, Tryz.func202.trans (congrArg some (by kernel_rfl))⟩
  f25 := ⟨ "slices.partialInsertionSortCmpFunc[[]int64]", by decide, Tryz.func203.trans (congrArg some (by kernel_rfl))⟩
  f26 := ⟨ "slices.partitionEqualCmpFunc[[]int64]", by decide, Tryz.func204.trans (congrArg some (by kernel_rfl))⟩
  f27 := ⟨ "slices.partitionCmpFunc[[]int64]", by decide, Tryz.func205.trans (congrArg some (by kernel_rfl))⟩
  f28 := Tryz.func206.trans (congrArg some (by kernel_rfl))
  f29 := Tryz.func207.trans (congrArg some (by kernel_rfl))
  f46 := ⟨ "slices.siftDownCmpFunc[[]int64]", by decide, Tryz.func215.trans (congrArg some (by kernel_rfl))⟩
  f47 := Tryz.func216.trans (congrArg some (by kernel_rfl))
  f48 := Tryz.func217.trans (congrArg some (by kernel_rfl))
  f49 := ⟨ "slices.medianAdjacentCmpFunc[[]int64]", by decide, Tryz.func218.trans (congrArg some (by kernel_rfl))⟩
  f50 := ⟨ "slices.medianCmpFunc[[]int64]", by decide, Tryz.func219.trans (congrArg some (by kernel_rfl))⟩
  f57 := ⟨ "slices.order2CmpFunc[[]int64]", by decide, Tryz.func230.trans (congrArg some (by kernel_rfl))⟩
  t0 := Tryz.underlying0
  a0 := Tryz.isAgg0
  z0 := Tryz.sizeOf0
  v0 := Tryz.zeroValue0
  t3 := Tryz.underlying3
  a3 := Tryz.isAgg3
  z3 := Tryz.sizeOf3
  v3 := Tryz.zeroValue3
  t4 := Tryz.underlying4
  a4 := Tryz.isAgg4
  z4 := Tryz.sizeOf4
  v4 := Tryz.zeroValue4
  t5 := Tryz.underlying5
  a5 := Tryz.isAgg5
  z5 := Tryz.sizeOf5
  v5 := Tryz.zeroValue5
  t9 := Tryz.underlying9
  a9 := Tryz.isAgg9
  z9 := Tryz.sizeOf9
  v9 := Tryz.zeroValue9
  t22 := Tryz.underlying123
  a22 := Tryz.isAgg123
  z22 := Tryz.sizeOf123
  v22 := Tryz.zeroValue123
  a24 := Tryz.isAgg24
  z24 := Tryz.sizeOf24
  t25 := Tryz.underlying121
  a25 := Tryz.isAgg121
  z25 := Tryz.sizeOf121
  v25 := Tryz.zeroValue121
  t39 := Tryz.underlying116
  a39 := Tryz.isAgg116
  z39 := Tryz.sizeOf116
  v39 := Tryz.zeroValue116
  t45 := Tryz.underlying173
  a45 := Tryz.isAgg173
  z45 := Tryz.sizeOf173
  v45 := Tryz.zeroValue173
  t46 := Tryz.underlying174
  a46 := Tryz.isAgg174
  z46 := Tryz.sizeOf174
  v46 := Tryz.zeroValue174
  t50 := Tryz.underlying178
  a50 := Tryz.isAgg178
  z50 := Tryz.sizeOf178
  v50 := Tryz.zeroValue178
  t53 := Tryz.underlying181
  a53 := Tryz.isAgg181
  z53 := Tryz.sizeOf181
  v53 := Tryz.zeroValue181
  t55 := Tryz.underlying101
  a55 := Tryz.isAgg101
  z55 := Tryz.sizeOf101
  v55 := Tryz.zeroValue101
  t66 := Tryz.underlying186
  a66 := Tryz.isAgg186
  z66 := Tryz.sizeOf186
  v66 := Tryz.zeroValue186
  t70 := Tryz.underlying190
  a70 := Tryz.isAgg190
  z70 := Tryz.sizeOf190
  v70 := Tryz.zeroValue190
  t76 := Tryz.underlying197
  a76 := Tryz.isAgg197
  z76 := Tryz.sizeOf197
  v76 := Tryz.zeroValue197
  t77 := Tryz.underlying198
  a77 := Tryz.isAgg198
  z77 := Tryz.sizeOf198
  v77 := Tryz.zeroValue198
end Go.Proofs.YtpfncncohnhanaaGreatDoor


/- The library's sort at rows of rows. -/
namespace Go.Proofs.YtpfncncohnhanaaGreatDoor
open Go.Shelf Go.RowKit Go.Lib Go.Sort

theorem heap_sortedE {α : Type} [Inhabited α] (enc : α → Value) {w : World} {g n : Nat} {os : Array Obj} {cur : Array Value} {e : TypeId} {fr : Nat × Nat} (d : Array α) (hb : w.heap[g]? = some (.cells cur e fr)) :
    (sortWorld enc w g 0 n d os).heap[g]? = some (.cells (putCells enc 0 d cur) e fr) := by
  have hg : g < w.heap.size := (Array.getElem?_eq_some_iff.1 hb).1
  unfold sortWorld
  rw [heap_grow_old _ _ (by simpa [putRow, mapBlock, Sort.ahead] using hg)]
  simp [putRow, mapBlock, Sort.ahead, Array.getElem?_modify, hb, onCells]
theorem grown_sortedE {α : Type} [Inhabited α] (enc : α → Value) {w : World} {g n : Nat} {os : Array Obj} (d : Array α) : Only g w (sortWorld enc w g 0 n d os) := by
  refine ⟨rfl, rfl, rfl, by simp [sortWorld, grow, putRow, mapBlock, Sort.ahead], fun k hk hne => ?_⟩
  unfold sortWorld
  rw [heap_grow_old _ _ (by simpa [putRow, mapBlock, Sort.ahead] using hk)]
  have : g ≠ k := fun e => hne (by rw [e])
  simp [putRow, mapBlock, Sort.ahead, Array.getElem?_modify, this]
theorem take_putE {α : Type} [Inhabited α] (enc : α → Value) (cur : Array Value) (ts : List α) (h : ts.length ≤ cur.size) : (putCells enc 0 ts.toArray cur).toList.take ts.length = ts.map enc := by
  apply List.ext_getElem?
  intro j
  by_cases hj : j < ts.length
  · rw [List.getElem?_take_of_lt hj, Array.getElem?_toList]
    simp [putCells, hj, show j < cur.size by omega]
  · rw [List.getElem?_take_eq_none (by omega), List.getElem?_eq_none (by simp; omega)]

theorem sort_c (w : World) (B n : Nat) (v : Value) (Ls : List (List Nat)) (hO : OwnU w B v (zss Ls)) (hL : ∀ L ∈ Ls, L.length = n) (h0 : 0 < Ls.length) (hsz : Ls.length ≤ 1048576) :
    Calls Tryz.prog 154 #[v, .func (.func 106) #[] #[]] w fun e w' => e = .returned (.tuple #[]) ∧ ∃ g Ks, v.ownBlock = some g ∧ B ≤ g ∧ Only g w w' ∧ OwnU w' B v (zss Ks) ∧ Ks.Perm Ls ∧ AscD Ks := by
  obtain ⟨us, h1, h2, h3⟩ := hO
  rw [zss_len] at h1 h2 h3
  rcases h2.2 with ⟨_, h5⟩ | ⟨g, cap, cur, rfl, hb, hg, hnc, hcm, hcs, ht⟩
  · omega
  rw [Nat.mul_one] at ht hcs
  have hP : ∀ j, j < Ls.length → (OwnI w B (us.getD j (.bool false)) (zs (Ls.getD j [])) ∧ (Ls.getD j []).length = n) := fun j hj => ⟨by have := h3 j hj; rwa [zss_get hj] at this, hL _ (by simp [List.getD, hj])⟩
  obtain ⟨ds, e1, e2⟩ := rows_exist (p := fun u L => OwnI w B u (zs L) ∧ L.length = n) us Ls h1 hP
  have hdl : ds.length = Ls.length := by rw [← e2]; simp
  haveI : Inhabited {q : Value × List Nat // OwnI w B q.1 (zs q.2) ∧ q.2.length = n} := ⟨ds[0]'(by omega)⟩
  have hne : ∀ x : {q : Value × List Nat // OwnI w B q.1 (zs q.2) ∧ q.2.length = n}, x.1.1.ownBlock ≠ some g := fun x => own_ne x.2.1 hg (by decide : (2 : TypeId) ≠ 24)
  have hoc : OneCell (fun x : {q : Value × List Nat // OwnI w B q.1 (zs q.2) ∧ q.2.length = n} => x.1.1) := fun x => by
    obtain ⟨A, c, hx⟩ := ints_sliceN x.2.1.ints
    show (x.1.1).oneCell' = true
    rw [hx]
    rfl
  have hswo : SWO (ltOf (fun x y : {q : Value × List Nat // OwnI w B q.1 (zs q.2) ∧ q.2.length = n} => cmpL x.1.2 y.1.2)) :=
    ⟨fun x => lessL_irr x.1.2, fun x y z h k => lessL_trans h k, fun x y z h k => lessL_ntrans h k⟩
  have eg : ∀ args w, (callFunc 106 args).run Tryz.prog w = .ok (.enter 106 args) w := enters_of Tryz.func106 (by kernel_rfl) rfl
  have hcmp : CmpReads Tryz.prog 106 #[] (fun x : {q : Value × List Nat // OwnI w B q.1 (zs q.2) ∧ q.2.length = n} => x.1.1) (fun x y => cmpL x.1.2 y.1.2) g 0 ds.toArray.size w := fun m os dk _ x y =>
    (slicesCompare_c x.1.1 y.1.1 x.1.2 y.1.2 _ (OwnI.ints (own_only x.2.1 (grown_sortedE _ dk) (hne x))) (OwnI.ints (own_only y.2.1 (grown_sortedE _ dk) (hne y)))).mono fun e w' h => ⟨h.1, 0, h.2⟩
  have hH : Holds (fun x : {q : Value × List Nat // OwnI w B q.1 (zs q.2) ∧ q.2.length = n} => x.1.1) w g 0 ds.toArray := fun j hj => by
    have hj' : j < ds.length := by simpa using hj
    refine ⟨?_, blk_frozen hg _⟩
    rw [blk_cell hg, Nat.zero_add]
    have h4 : (cur.toList.take Ls.length)[j]? = us[j]? := by rw [ht]
    rw [List.getElem?_take_of_lt (by omega), Array.getElem?_toList] at h4
    rw [h4, ← e1]
    simp [hj']
  have hcon := Any.slices_SortFunc laySort (fun x : {q : Value × List Nat // OwnI w B q.1 (zs q.2) ∧ q.2.length = n} => x.1.1) hoc (fun x y => cmpL x.1.2 y.1.2) hswo 106 #[] g 0 cap ds.toArray w eg hcmp.lays hH (blk_lt hg) (by simp; omega)
  rw [show ds.toArray.size = Ls.length by simp [hdl]] at hcon
  refine Calls.mono hcon ?_
  rintro e w' ⟨rfl, d', nn, os, hp, hs, rfl⟩
  rw [show Ls.length = ds.toArray.size by simp [hdl]] at hp hs
  have hpm := perm_of_in hp
  have hl' : d'.toList.length = Ls.length := by rw [hpm.length_eq]; simp [hdl]
  refine ⟨rfl, g, d'.toList.map (fun q => q.1.2), rfl, hb, grown_sortedE _ d', ?_, ?_, ?_⟩
  · have hz : (zss (d'.toList.map (fun q => q.1.2))).length = Ls.length := by rw [zss_len, List.length_map, hl']
    refine ⟨d'.toList.map (fun q => q.1.1), by rw [hz, List.length_map, hl'], ?_, fun j hj => ?_⟩
    · rw [hz]
      refine ⟨by rw [List.length_map, hl', Nat.mul_one], .inr ⟨g, cap, _, rfl, hb, heap_sortedE _ d' hg, hnc, hcm, by simp [putCells, hcs], ?_⟩⟩
      have := take_putE (fun x : {q : Value × List Nat // OwnI w B q.1 (zs q.2) ∧ q.2.length = n} => x.1.1) cur d'.toList (by omega)
      rw [hl'] at this
      rw [Nat.mul_one]
      simpa using this
    · rw [hz] at hj
      have hj' : j < d'.toList.length := by omega
      have hx := (d'.toList[j]).2.1
      rw [zss_get (by rw [List.length_map]; exact hj')]
      have hk := own_only hx (grown_sortedE (n := nn) (os := os) (fun x : {q : Value × List Nat // OwnI w B q.1 (zs q.2) ∧ q.2.length = n} => x.1.1) d') (hne _)
      have q1 : (d'.toList.map (fun q => q.1.1)).getD j (.bool false) = (d'.toList[j]).1.1 := by simp only [List.getD, List.getElem?_map, List.getElem?_eq_getElem hj']; rfl
      have q2 : (d'.toList.map (fun q => q.1.2)).getD j [] = (d'.toList[j]).1.2 := by simp only [List.getD, List.getElem?_map, List.getElem?_eq_getElem hj']; rfl
      rw [q1, q2]
      exact hk
  · have := hpm.map (fun q => q.1.2)
    rw [← e2]
    simpa using this
  · have h5 := pairs_of_in (by rw [hp.1]) hs
    unfold AscD
    rw [List.pairwise_map]
    exact h5
end Go.Proofs.YtpfncncohnhanaaGreatDoor


/- slices.CompactFunc at rows of rows, with slices.Equal: a sorted row loses its doubles. -/
namespace Go.Proofs.YtpfncncohnhanaaGreatDoor
open Go.RowKit

theorem blk_setCellsK {g : Nat} {t : TypeId} : ∀ (vs : List Value) (o : Nat) (w : World) (cur : Array Value), w.heap[g]? = some (.cells cur t (0, 0)) →
    ∃ cur', (w.setCells g o vs).heap[g]? = some (.cells cur' t (0, 0)) ∧ cur'.size = cur.size ∧ ∀ i, i < o → cur'[i]? = cur[i]?
  | [], _, _, cur, h => ⟨cur, h, rfl, fun _ _ => rfl⟩
  | v :: r, o, w, cur, h => by
    obtain ⟨c', h1, h2, h3⟩ := blk_setCellsK r (o + 1) (w.setCell ⟨g, o, none⟩ v) _ (blk_set h o v)
    refine ⟨c', h1, by rw [h2]; simp, fun i hi => ?_⟩
    rw [h3 i (by omega), Array.getElem?_setIfInBounds, if_neg (by omega)]
theorem only_setCellsK {g : Nat} {a : World} : ∀ (vs : List Value) (o : Nat) (w : World), Only g a w → Only g a (w.setCells g o vs)
  | [], _, _, h => h
  | v :: r, o, w, h => only_setCellsK r (o + 1) _ (h.setCell v)

structure CRow (w wr : World) (g cap N : Nat) (f : Nat → Value × List Nat) : Prop where
  heap : ∃ cur, wr.heap[g]? = some (.cells cur 24 (0, 0)) ∧ cur.size = cap ∧ ∀ i, i < N → cur[i]? = some (f i).1
  only : Only g w wr
theorem CRow.cell {w wr : World} {g cap N i : Nat} {f : Nat → Value × List Nat} (h : CRow w wr g cap N f) (hi : i < N) : wr.cell? ⟨g, i, none⟩ = some (f i).1 := by
  obtain ⟨cur, h1, h2, h3⟩ := h.heap
  rw [blk_cell h1, h3 i hi]
theorem CRow.free {w wr : World} {g cap N : Nat} {f : Nat → Value × List Nat} (h : CRow w wr g cap N f) (i : Nat) : wr.frozen? ⟨g, i, none⟩ = false := by
  obtain ⟨cur, h1, _⟩ := h.heap
  exact blk_frozen h1 i
theorem CRow.lt {w wr : World} {g cap N : Nat} {f : Nat → Value × List Nat} (h : CRow w wr g cap N f) : g < wr.heap.size := by
  obtain ⟨cur, h1, _⟩ := h.heap
  exact blk_lt h1
theorem CRow.grew {w wr wr' : World} {g cap N : Nat} {f : Nat → Value × List Nat} (h : CRow w wr g cap N f) (hg : Grew wr wr') : CRow w wr' g cap N f := by
  have hl := h.lt
  obtain ⟨cur, h1, h2, h3⟩ := h.heap
  exact ⟨⟨cur, (hg.block hl).trans h1, h2, h3⟩, h.only.grew hg⟩
theorem CRow.set {w wr : World} {g cap N i : Nat} {f : Nat → Value × List Nat} (h : CRow w wr g cap N f) (hi : i < N) (x : Value × List Nat) : CRow w (wr.setCell ⟨g, i, none⟩ x.1) g cap N (fun q => if q = i then x else f q) := by
  obtain ⟨cur, h1, h2, h3⟩ := h.heap
  refine ⟨⟨_, blk_set h1 i x.1, by simp [h2], fun j hj => ?_⟩, h.only.setCell _⟩
  have hlt : i < cur.size := (Array.getElem?_eq_some_iff.1 (h3 i hi)).1
  by_cases hij : j = i
  · subst hij
    simp [hlt]
  · rw [Array.getElem?_setIfInBounds, if_neg (Ne.symm hij), h3 j hj]
    simp [hij]
def Rws (w : World) (B n N : Nat) (f : Nat → Value × List Nat) : Prop := ∀ i, i < N → OwnI w B (f i).1 (zs (f i).2) ∧ (f i).2.length = n
theorem CRow.ownU {w wr : World} {B g cap n N K : Nat} {f : Nat → Value × List Nat} (h : CRow w wr g cap N f) (hB : B ≤ g) (hf : Rws w B n N f) (hg : ∃ cur, w.heap[g]? = some (.cells cur 24 (0, 0))) (hK : K ≤ N) (hN : N ≤ cap) (hc : cap ≤ maxLen) :
    OwnU wr B (.slice (some ⟨g, 0, none⟩) K cap) (zss (rws f K)) := by
  obtain ⟨cur, h1, h2, h3⟩ := h.heap
  obtain ⟨cur0, h0⟩ := hg
  have hz : (zss (rws f K)).length = K := by rw [zss_len, rws_len]
  refine ⟨(List.range K).map fun i => (f i).1, by rw [hz]; simp, ?_, fun j hj => ?_⟩
  · rw [hz]
    refine ⟨by simp, .inr ⟨g, cap, cur, rfl, hB, h1, by omega, hc, by omega, ?_⟩⟩
    apply List.ext_getElem?
    intro j
    rw [Nat.mul_one]
    by_cases hj : j < K
    · rw [List.getElem?_take_of_lt hj, Array.getElem?_toList, h3 j (by omega)]
      simp [hj]
    · rw [List.getElem?_take_eq_none (by omega), List.getElem?_eq_none (by simp; omega)]
  · rw [hz] at hj
    rw [zss_get (by rw [rws_len]; exact hj), rws_get hj]
    have e : ((List.range K).map fun i => (f i).1).getD j (.bool false) = (f j).1 := by simp [List.getD, hj]
    rw [e]
    have ho := (hf j (by omega)).1
    exact own_only ho h.only (own_ne ho h0 (by decide : (2 : TypeId) ≠ 24))
theorem OwnU.open_ {w : World} {B n : Nat} {v : Value} {Ls : List (List Nat)} (hO : OwnU w B v (zss Ls)) (hL : ∀ L ∈ Ls, L.length = n) (h0 : 0 < Ls.length) :
    ∃ g cap f, v = .slice (some ⟨g, 0, none⟩) Ls.length cap ∧ B ≤ g ∧ CRow w w g cap Ls.length f ∧ Rws w B n Ls.length f ∧ Ls.length ≤ cap ∧ cap ≤ maxLen ∧ rws f Ls.length = Ls := by
  obtain ⟨us, h1, h2, h3⟩ := hO
  rw [zss_len] at h1 h2 h3
  rcases h2.2 with ⟨_, h5⟩ | ⟨g, cap, cur, rfl, hb, hg, hnc, hcm, hcs, ht⟩
  · omega
  rw [Nat.mul_one] at ht hcs
  refine ⟨g, cap, fun i => (us.getD i (.bool false), Ls.getD i []), rfl, hb, ⟨⟨cur, hg, hcs, fun i hi => ?_⟩, Only.refl _ _⟩, fun j hj => ⟨by have := h3 j hj; rwa [zss_get hj] at this, hL _ (by simp [List.getD, hj])⟩, hnc, hcm, ?_⟩
  · have h4 : (cur.toList.take Ls.length)[i]? = us[i]? := by rw [ht]
    rw [List.getElem?_take_of_lt hi, Array.getElem?_toList] at h4
    rw [h4, List.getElem?_eq_getElem (by omega)]
    simp [List.getD, h1, hi]
  · apply List.ext_getElem
    · rw [rws_len]
    · intro i h5 h6
      simp [rws, List.getD, h6]
structure CIn (w wr : World) (g cap N : Nat) (f0 f : Nat → Value × List Nat) (kk m : Nat) : Prop where
  row : CRow w wr g cap N f
  low : kk < m
  high : ∀ j, m - 1 ≤ j → j < N → f j = f0 j
  rows : ∀ j, j < N → ∃ i, i < N ∧ f j = f0 i
  comp : Comp (rws f kk) (rws f0 m)
set_option maxHeartbeats 2000000 in
theorem compact_c (w : World) (B n : Nat) (v : Value) (Ls : List (List Nat)) (hO : OwnU w B v (zss Ls)) (hL : ∀ L ∈ Ls, L.length = n) (hA : AscD Ls) (hsz : Ls.length ≤ 1048576) :
    Calls Tryz.prog 155 #[v, .func (.func 156) #[] #[]] w fun e w' => ∃ u Ks, e = .returned u ∧ OwnU w' B u (zss Ks) ∧ Asc Ks ∧ (∀ x, x ∈ Ks ↔ x ∈ Ls) ∧ Ks.length ≤ Ls.length ∧ (Grew w w' ∨ ∃ g, B ≤ g ∧ Only g w w') := by
  by_cases h2 : Ls.length < 2
  · have hAs : Asc Ls := by
      unfold Asc
      match Ls, h2 with
      | [], _ => exact List.Pairwise.nil
      | [a], _ => exact List.pairwise_singleton _ _
    have HH := Lib.hid (And.intro hO hAs)
    obtain ⟨A1, c1, rfl⟩ := hO.slice
    rw [zss_len] at HH ⊢
    clear hO hL hA hAs
    generalize hNN : Ls.length = N at *
    have h3 : (N : Int) < 2 := by omega
    go_enter Tryz.func155, Tryz.ntmps155
    go_wp2_with fail
    go_ret
    exact ⟨_, Ls, rfl, HH.out.1, HH.out.2, fun _ => Iff.rfl, Nat.le_of_eq hNN, .inl (Grew.refl _)⟩
  obtain ⟨g, cap, f0, rfl, hBg, hC, hR, hnc, hcm, hrw⟩ := hO.open_ hL (by omega)
  obtain ⟨cur0, hh0, _⟩ := hC.heap
  have HNE := Lib.hid (fun i (hi : i < Ls.length) => own_ne (hR i hi).1 hh0 (by decide : (2 : TypeId) ≠ 24))
  have HE := Lib.hid (fun i j (hi : i < Ls.length) (hj : j < Ls.length) W (hW : Only g w W) => equalR_c (f0 i).1 (f0 j).1 (zs (f0 i).2) (zs (f0 j).2) W (OwnI.ints (own_only (hR i hi).1 hW (HNE.out i hi))) (OwnI.ints (own_only (hR j hj).1 hW (HNE.out j hj))) (by rw [zs_len, zs_len, (hR i hi).2, (hR j hj).2]))
  have HZ : Hid (∀ i j, decide (zs (f0 i).2 = zs (f0 j).2) = decide ((f0 i).2 = (f0 j).2)) := Lib.hid (fun i j => by rw [decide_eq_decide]; exact ⟨fun h => zs_inj h, fun h => by rw [h]⟩)
  have HAD : Hid (∀ i, i + 1 < Ls.length → lessL (f0 (i + 1)).2 (f0 i).2 = false) := Lib.hid (fun i hi => by
    have h5 := List.pairwise_iff_getElem.1 hA i (i + 1) (by omega) hi (by omega)
    have q1 : (f0 i).2 = Ls[i] := by have := rws_get (f := f0) (n := Ls.length) (i := i) (by omega); rw [hrw] at this; rw [← this]; simp [List.getD, show i < Ls.length by omega]
    have q2 : (f0 (i + 1)).2 = Ls[i + 1] := by have := rws_get (f := f0) (n := Ls.length) (i := i + 1) (by omega); rw [hrw] at this; rw [← this]; simp [List.getD, hi]
    rw [q1, q2]
    exact h5)
  have HRR := Lib.hid (And.intro hR (And.intro hBg (And.intro hnc (And.intro hcm (And.intro hrw (Exists.intro cur0 hh0 : ∃ cur, w.heap[g]? = some (.cells cur 24 (0, 0))))))))
  have HC := Lib.hid hC
  clear hO hL hA hR hC hh0 hrw
  generalize hN : Ls.length = N at *
  have hN2 : ¬ (N : Int) < 2 := by omega
  go_enter Tryz.func155, Tryz.ntmps155
  go_wp2_with fail
  go_loopw [5] (fun v wr => ∃ m k : Nat, k = m + 1 ∧ k ≤ N ∧ v = .int .i64 (k : Int) ∧ Grew w wr ∧ Hid (Asc (rws f0 k))) (fun k _ => N - (intOf k).toNat)
  case atStart => exact ⟨0, 1, rfl, by omega, rfl, Grew.refl _, Lib.hid (by unfold Asc rws; exact List.pairwise_singleton _ _)⟩
  case round =>
    obtain ⟨m, k, hkm, hm, rfl, hB, hAs⟩ := hrel
    by_cases hlt : k < N
    · have e1 := Lib.hid (HC.out.grew hB)
      have k1 : ∀ W, Grew wr W → W.cell? ⟨g, k, none⟩ = some (f0 k).1 := fun W hW => (HC.out.grew (hB.trans hW)).cell hlt
      have k2 : ∀ W, Grew wr W → W.cell? ⟨g, m, none⟩ = some (f0 m).1 := fun W hW => (HC.out.grew (hB.trans hW)).cell (by omega)
      have he := Lib.hid (fun W (hW : Grew wr W) => HE.out k m hlt (by omega) W (hB.trans hW).only)
      rw [HZ.out] at he
      have hw1 : IntKind.i64.wrap ((k : Int) - 1) = (m : Int) := by rw [IntKind.wrap_i64]; omega
      have hw2 : wrap64 ((k : Int) - 1) = (m : Int) := by rw [wrap64]; omega
      have i1 : (k : Int) < (N : Int) := by omega
      have i2 : (m : Int) < (N : Int) := by omega
      have i3 : (0 : Int) ≤ (k : Int) := by omega
      have i4 : (0 : Int) ≤ (m : Int) := by omega
      have HKM := Lib.hid hkm
      clear hkm
      have r1 := Grew.refl wr
      have r2 := (Grew.refl wr).drew
      by_cases hx : (f0 k).2 = (f0 m).2
      · rw [decide_eq_true hx] at he
        go_wp2_with fail
        go_region_held3 (fun (w' : World) => Grew wr w') (first | assumption | exact Grew.drew ‹_›) (first
          | (go_at_call 156; refine Calls.mono (he.out _ (by assumption)) ?_; rintro e w4 ⟨rfl, hg4⟩; have hg5 : Grew wr w4 := Grew.trans (by assumption) hg4))
        have HX := Lib.hid hx
        have HB4 := Lib.hid (hB.trans hg5)
        have HAs := Lib.hid hAs.out
        clear k1 k2 he r1 r2 hx hB hg5 hg4 hAs e1
        generalize (f0 k).1 = y1 at *
        generalize (f0 m).1 = y0 at *
        have hc1 : k ≤ cap := by have := HRR.out.2.2.1; omega
        have HST : Hid (CIn w w4 g cap N f0 f0 k (k + 1)) := Lib.hid ⟨HC.out.grew HB4.out, by omega, fun _ _ _ => rfl, fun j hj => ⟨j, hj, rfl⟩, by
          rw [rws_succ f0 k]
          refine Comp.skip (Comp.refl HAs.out) ?_
          have h6 := rws_last f0 k (by have := HKM.out; omega)
          rw [show k - 1 = m by have := HKM.out; omega] at h6
          rw [h6, HX.out]⟩
        obtain ⟨L2, hL2⟩ : ∃ L2, L2 = N - k := ⟨_, rfl⟩
        obtain ⟨C2, hC2⟩ : ∃ C2, C2 = cap - k := ⟨_, rfl⟩
        have hk0 : 0 < k := by have := HKM.out; omega
        go_wp2_with fail
        rw [← hL2, ← hC2]
        have HL2 : Hid (k + L2 = N ∧ k + C2 = cap) := Lib.hid ⟨by omega, by have := HRR.out.2.2.1; omega⟩
        clear hL2 hC2
        go_loopw [5, 7] (fun a b wr => ∃ kk q p : Nat, p = q + 1 ∧ p ≤ L2 ∧ a = .int .i64 (kk : Int) ∧ b = .int .i64 (p : Int) ∧ ∃ f, Hid (CIn w wr g cap N f0 f kk (k + p)) ∧ 0 < kk) (fun _ b _ => L2 - (intOf b).toNat)
        case atStart => exact ⟨k, 0, 1, rfl, by have := HL2.out; omega, rfl, rfl, f0, HST, hk0⟩
        case round =>
          obtain ⟨kk, q, p, hpq, hp, rfl, rfl, f, hI, hkk0⟩ := hrel
          by_cases hlp : p < L2
          · have hkp : k + p < N := by have := HL2.out; omega
            have hkq : k + q < N := by have := HL2.out; omega
            have k1 : ∀ W, Grew wr W → W.cell? ⟨g, k + p, none⟩ = some (f0 (k + p)).1 := fun W hW => by rw [← hI.out.high (k + p) (by omega) (by omega)]; exact (hI.out.row.grew hW).cell (by omega)
            have k2 : ∀ W, Grew wr W → W.cell? ⟨g, k + q, none⟩ = some (f0 (k + q)).1 := fun W hW => by rw [← hI.out.high (k + q) (by omega) (by omega)]; exact (hI.out.row.grew hW).cell (by omega)
            have he := Lib.hid (fun W (hW : Grew wr W) => HE.out (k + p) (k + q) (by omega) (by omega) W (hI.out.row.only.grew hW))
            rw [HZ.out] at he
            have hw1 : IntKind.i64.wrap ((p : Int) - 1) = (q : Int) := by rw [IntKind.wrap_i64]; omega
            have hw2 : wrap64 ((p : Int) - 1) = (q : Int) := by rw [wrap64]; omega
            have j1 : (p : Int) < (L2 : Int) := by omega
            have j2 : (q : Int) < (L2 : Int) := by omega
            have j3 : (0 : Int) ≤ (p : Int) := by omega
            have j4 : (0 : Int) ≤ (q : Int) := by omega
            have r1 := Grew.refl wr
            have r2 := (Grew.refl wr).drew
            have HPQ := Lib.hid hpq
            clear hpq
            by_cases hx : (f0 (k + p)).2 = (f0 (k + q)).2
            · rw [decide_eq_true hx] at he
              have hN2 : Hid (∀ W, Grew wr W → CIn w W g cap N f0 f kk (k + (p + 1))) := Lib.hid (fun W hW => ⟨hI.out.row.grew hW, by have := hI.out.low; omega, fun j h1 h2 => hI.out.high j (by omega) h2, hI.out.rows, by
                rw [show k + (p + 1) = k + p + 1 by omega, rws_succ f0 (k + p)]
                refine Comp.skip hI.out.comp ?_
                have h6 := rws_last f0 (k + p) (by omega)
                rw [show k + p - 1 = k + q by have := HPQ.out; omega] at h6
                rw [h6, hx]⟩)
              go_wp2_with fail
              go_region_held3 (fun (w' : World) => Grew wr w') (first | assumption | exact Grew.drew ‹_›) (first
                | (go_at_call 156; refine Calls.mono (he.out _ (by assumption)) ?_; rintro e w5 ⟨rfl, hg6⟩; have hg7 : Grew wr w5 := Grew.trans (by assumption) hg6))
              have HN2 := Lib.hid (hN2.out _ hg7)
              clear k1 k2 he r1 r2 hx hg7 hg6 hN2 hI
              go_wp2_with fail
              go_roundw
              case rel => exact ⟨kk, p, p + 1, rfl, by omega, rfl, by go_num, f, HN2, hkk0⟩
              case measure => simp [intOf]; omega
            · rw [decide_eq_false hx] at he
              have hless : Hid (lessL (f0 (k + q)).2 (f0 (k + p)).2 = true) := Lib.hid (by
                have h5 := HAD.out (k + q) (by have := HPQ.out; omega)
                rw [show k + q + 1 = k + p by have := HPQ.out; omega] at h5
                exact less_of h5 (Ne.symm hx))
              have hlow := hI.out.low
              have hN2 : Hid (∀ W, Grew wr W → CIn w (W.setCell ⟨g, kk, none⟩ (f0 (k + p)).1) g cap N f0 (fun z => if z = kk then f0 (k + p) else f z) (kk + 1) (k + (p + 1))) := Lib.hid (fun W hW => ⟨(hI.out.row.grew hW).set (by omega) _, by omega, fun j h1 h2 => by
                show (if j = kk then f0 (k + p) else f j) = f0 j
                rw [if_neg (by omega)]
                exact hI.out.high j (by omega) h2, fun j hj => by
                show ∃ i, i < N ∧ (if j = kk then f0 (k + p) else f j) = f0 i
                by_cases hjk : j = kk
                · exact ⟨k + p, by omega, if_pos hjk⟩
                · rw [if_neg hjk]; exact hI.out.rows j hj, by
                rw [show k + (p + 1) = k + p + 1 by omega, rws_succ f0 (k + p), rws_succ _ kk]
                have e1 : rws (fun z => if z = kk then f0 (k + p) else f z) kk = rws f kk := rws_congr fun z hz => if_neg (by omega)
                have e2 : (if kk = kk then f0 (k + p) else f kk).2 = (f0 (k + p)).2 := by rw [if_pos rfl]
                show Comp (rws (fun z => if z = kk then f0 (k + p) else f z) kk ++ [(if kk = kk then f0 (k + p) else f kk).2]) _
                rw [e1, e2]
                have h6 := rws_last f0 (k + p) (by omega)
                rw [show k + p - 1 = k + q by have := HPQ.out; omega] at h6
                exact Comp.keep hI.out.comp h6 hless.out⟩)
              have hkkN : kk < N := by omega
              have cK : Hid (∀ W, Grew wr W → W.cell? ⟨g, kk, none⟩ = some (f kk).1) := Lib.hid (fun W hW => (hI.out.row.grew hW).cell hkkN)
              have fK : Hid (∀ W, Grew wr W → W.frozen? ⟨g, kk, none⟩ = false) := Lib.hid (fun W hW => (hI.out.row.grew hW).free kk)
              have hoc : Hid (∃ A c, (f0 (k + p)).1 = .slice A n c) := Lib.hid (by
                have h7 := HRR.out.1 (k + p) (by omega)
                obtain ⟨A, c, hA⟩ := ints_sliceN h7.1.ints
                exact ⟨A, c, by rw [hA, h7.2]⟩)
              go_wp2_with fail
              go_region_held3 (fun (w' : World) => Grew wr w') (first | assumption | exact Grew.drew ‹_›) (first
                | (go_at_call 156; refine Calls.mono (he.out _ (by assumption)) ?_; rintro e w5 ⟨rfl, hg6⟩; have hg7 : Grew wr w5 := Grew.trans (by assumption) hg6))
              have HN2 := Lib.hid (hN2.out _ hg7)
              have z1 := k1 _ hg7
              have z2 := cK.out _ hg7
              have z3 := fK.out _ hg7
              obtain ⟨A8, c8, hs8⟩ := hoc.out
              rw [hs8] at HN2 z1
              have m1 : (kk : Int) < (N : Int) := by omega
              have m2 : (0 : Int) ≤ (kk : Int) := by omega
              clear k1 k2 he r1 r2 hx hg7 hg6 hN2 hI hless cK fK hs8 hoc
              go_wp2_with fail
              go_roundw
              case rel => exact ⟨kk + 1, p, p + 1, rfl, by omega, by go_num, by go_num, _, HN2, by omega⟩
              case measure => simp [intOf]; omega
          · have hkN : k + p = N := by have := HL2.out; omega
            have hI2 := hI.out
            rw [hkN] at hI2
            have hlow := hI2.low
            have hNc := HRR.out.2.2.1
            have hcl : ∀ ty, (Builtin.clear_ #[123] ty #[.slice (some ⟨g, kk, none⟩) (N - kk) (cap - kk)]).run Tryz.prog wr = .ok (.tuple #[]) (wr.setCells g kk (List.replicate (N - kk) (.slice none 0 0))) :=
              fun ty => Lib.run_clear_slice wr _ _ ty _ Tryz.underlying123 Tryz.zeroValue24 rfl rfl g kk _ _ (by omega) (fun t ht => by rw [hI2.row.cell (by omega)]; rfl) (fun t ht => hI2.row.free _)
            have hci : ¬ cap = kk := by omega
            have m1 : (kk : Int) ≤ (N : Int) := by omega
            have m2 : (0 : Int) ≤ (kk : Int) := by omega
            have m3 : kk ≤ cap := by omega
            have m4 : kk ≤ N := by omega
            have HI2 := Lib.hid hI2
            have HLW := Lib.hid hlow
            have hlp2 : (p : Int) = (L2 : Int) := by have := HL2.out; omega
            have HP2 := Lib.hid hlp
            have HKN := Lib.hid hkN
            clear hI hI2 hkN
            go_wp2_with fail
            go_ret
            obtain ⟨cur1, q1, q2, q3⟩ := HI2.out.row.heap
            obtain ⟨cur2, q4, q5, q6⟩ := blk_setCellsK (List.replicate (N - kk) (.slice none 0 0)) kk wr cur1 q1
            have hrow : CRow w (wr.setCells g kk (List.replicate (N - kk) (.slice none 0 0))) g cap kk f := ⟨⟨cur2, q4, by rw [q5, q2], fun i hi => by rw [q6 i hi, q3 i (by omega)]⟩, only_setCellsK _ _ _ HI2.out.row.only⟩
            have hRf : Rws w B n kk f := fun i hi => by
              obtain ⟨i2, h7, h8⟩ := HI2.out.rows i (by omega)
              rw [h8]
              exact HRR.out.1 i2 h7
            have hmem := HI2.out.comp.mem
            rw [HRR.out.2.2.2.2.1] at hmem
            exact ⟨_, rws f kk, rfl, hrow.ownU HRR.out.2.1 hRf HRR.out.2.2.2.2.2 (Nat.le_refl kk) (by omega) HRR.out.2.2.2.1, HI2.out.comp.asc, hmem, by rw [rws_len]; omega, .inr ⟨g, HRR.out.2.1, hrow.only⟩⟩
      · rw [decide_eq_false hx] at he
        have hAs2 : Hid (Asc (rws f0 (k + 1))) := Lib.hid (by
          rw [rws_succ f0 k]
          have h5 := HAD.out m (by have := HKM.out; omega)
          rw [← HKM.out] at h5
          have h6 := rws_last f0 k (by have := HKM.out; omega)
          rw [show k - 1 = m by have := HKM.out; omega] at h6
          exact asc_keep hAs.out h6 (less_of h5 (Ne.symm hx)))
        go_wp2_with fail
        go_region_held3 (fun (w' : World) => Grew wr w') (first | assumption | exact Grew.drew ‹_›) (first
          | (go_at_call 156; refine Calls.mono (he.out _ (by assumption)) ?_; rintro e w4 ⟨rfl, hg4⟩; have hg5 : Grew wr w4 := Grew.trans (by assumption) hg4))
        have hB4 := hB.trans hg5
        clear k1 k2 he r1 r2 hx hB hg5 hg4 hAs e1
        go_wp2_with fail
        go_roundw
        case rel => exact ⟨k, k + 1, rfl, by omega, by go_num, hB4, hAs2⟩
        case measure => simp [intOf]; omega
    · have hmN : k = N := by omega
      rw [hmN]
      have hAs2 := hAs
      rw [hmN] at hAs2
      clear hAs
      go_wp2_with fail
      go_ret
      refine ⟨_, Ls, rfl, ?_, ?_, fun _ => Iff.rfl, by omega, .inl hB⟩
      · have h5 := (HC.out.grew hB).ownU HRR.out.2.1 HRR.out.1 HRR.out.2.2.2.2.2 (Nat.le_refl N) HRR.out.2.2.1 HRR.out.2.2.2.1
        rwa [HRR.out.2.2.2.2.1] at h5
      · have h5 := hAs2.out
        rwa [HRR.out.2.2.2.2.1] at h5
end Go.Proofs.YtpfncncohnhanaaGreatDoor


/- sortedLists: the library's sort, then its pass that strikes doubles. -/
namespace Go.Proofs.YtpfncncohnhanaaGreatDoor
open Go.RowKit

theorem sortedLists_c (w w0 : World) (B n : Nat) (v : Value) (Ls : List (List Nat)) (hO : OwnU w B v (zss Ls)) (hL : ∀ L ∈ Ls, L.length = n) (h0 : 0 < Ls.length) (hsz : Ls.length ≤ 1048576) (hg : Grew w0 w) (hB : w0.heap.size ≤ B) :
    Calls Tryz.prog 107 #[v] w fun e w' => ∃ u Ks, e = .returned u ∧ OwnU w' B u (zss Ks) ∧ Asc Ks ∧ (∀ x, x ∈ Ks ↔ x ∈ Ls) ∧ Ks.length ≤ Ls.length ∧ Grew w0 w' := by
  have HS := Lib.hid (sort_c w B n v Ls hO hL h0 hsz)
  have HC := Lib.hid (fun W Ks (h1 : OwnU W B v (zss Ks)) h2 h3 h4 => compact_c W B n v Ks h1 h2 h3 h4)
  have HG := Lib.hid hg
  have HL := Lib.hid hL
  obtain ⟨A, c, rfl⟩ := hO.slice
  rw [zss_len] at HS HC
  rw [zss_len]
  clear hO hL hg
  generalize hN : Ls.length = N at *
  go_enter Tryz.func107, Tryz.ntmps107
  go_wp2_with fail
  refine (HS.out).mono ?_
  rintro e w1 ⟨rfl, g, Ks, hv, hBg, ho1, hO1, hp, hd⟩
  have HM := Lib.hid (HC.out w1 Ks hO1 (fun L hL => HL.out L (hp.mem_iff.1 hL)) hd (by rw [hp.length_eq, hN]; exact hsz))
  have HP := Lib.hid hp
  have HG1 := Lib.hid (ho1.grew_of HG.out (by omega))
  clear hO1 hp hd ho1 hv
  go_wp2_with fail
  refine (HM.out).mono ?_
  rintro e w2 ⟨u, Js, rfl, hO2, ha, hm, hl, hgg⟩
  have HR := Lib.hid (And.intro hO2 (And.intro ha (And.intro hm hl)))
  have HG2 : Hid (Grew w0 w2) := Lib.hid (by
    rcases hgg with hgg | ⟨g2, hb2, ho2⟩
    · exact HG1.out.trans hgg
    · exact ho2.grew_of HG1.out (by omega))
  obtain ⟨A2, c2, rfl⟩ := hO2.slice
  clear hO2 ha hm hgg hl
  go_wp2_with fail
  go_ret
  exact ⟨_, Js, rfl, HR.out.1, HR.out.2.1, fun x => (HR.out.2.2.1 x).trans HP.out.mem_iff, by rw [← hN, ← HP.out.length_eq]; exact HR.out.2.2.2, HG2.out⟩
end Go.Proofs.YtpfncncohnhanaaGreatDoor


/- Facts on shifts and products of small numbers, and on the relation with a number (cut out of PsO). -/
namespace Go.Proofs.YtpfncncohnhanaaGreatDoor
open Go.RowKit

theorem relK_snoc (n k N : Nat) : relK n (k + 1) N = relK n k N ++ [N / 2 ^ (k * n) % 2 ^ n] := by simp [relK, List.range_succ]
theorem mul_facts (j n : Nat) (h : j * n ≤ 16) : wrap64 ((j : Int) * (n : Int)) = ((j * n : Nat) : Int) ∧ IntKind.i64.wrap ((j : Int) * (n : Int)) = ((j * n : Nat) : Int) := by
  rw [← Int.natCast_mul]
  generalize j * n = p at *
  rw [wrap64, IntKind.wrap_i64]
  omega
theorem shr_facts (k p n : Nat) (hk : k ≤ 65536) (hn : n ≤ 4) : wrap64 (2 ^ n) = ((2 ^ n : Nat) : Int) ∧ IntKind.i64.wrap (2 ^ n) = ((2 ^ n : Nat) : Int) ∧ (k : Int) / 2 ^ p = ((k / 2 ^ p : Nat) : Int) ∧
    bits .and .i64 ((k / 2 ^ p : Nat) : Int) ((2 ^ n - 1 : Nat) : Int) = ((k / 2 ^ p % 2 ^ n : Nat) : Int) ∧ wrap64 (((2 ^ n : Nat) : Int) - 1) = ((2 ^ n - 1 : Nat) : Int) ∧ IntKind.i64.wrap (((2 ^ n : Nat) : Int) - 1) = ((2 ^ n - 1 : Nat) : Int) := by
  have hF1 := wrap_pow (k := n) (by omega)
  have hF2 := wrapI_pow (k := n) (by omega)
  have hFb : 2 ^ n ≤ 16 := Nat.le_trans (Nat.pow_le_pow_right (by omega) hn) (by decide)
  have hFp : 0 < 2 ^ n := Nat.two_pow_pos n
  have hkb : k / 2 ^ p < 9223372036854775808 := Nat.lt_of_le_of_lt (Nat.div_le_self _ _) (by omega)
  have hD : (k : Int) / 2 ^ p = ((k / 2 ^ p : Nat) : Int) := by rw [Int.natCast_ediv, Int.natCast_pow]; rfl
  have hAN := and_i64 (k / 2 ^ p) (2 ^ n - 1) hkb (Nat.lt_of_le_of_lt (Nat.sub_le _ _) (Nat.lt_of_le_of_lt hFb (by decide)))
  rw [Nat.and_two_pow_sub_one_eq_mod] at hAN
  refine ⟨hF1, hF2, hD, hAN, ?_, ?_⟩
  · generalize 2 ^ n = F at *
    rw [wrap64]
    omega
  · generalize 2 ^ n = F at *
    rw [IntKind.wrap_i64]
    omega
end Go.Proofs.YtpfncncohnhanaaGreatDoor


/- The program's frames of one size: AllFrames, and smallFrames. -/
namespace Go.Proofs.YtpfncncohnhanaaGreatDoor
open Go.RowKit

def GivesFsC (w : World) (Ls : List (List Nat)) (e : Ending) (w' : World) : Prop := ∃ v, e = .returned (.tuple #[v, .int .i64 0]) ∧ OwnFs w' w.heap.size v Ls ∧ Grew w w'
set_option maxHeartbeats 2000000 in
theorem allFrames_c (n : Nat) (h3 : n ≤ 3) (w : World) :
    Calls Tryz.prog 61 #[.int .i64 (n : Int)] w (GivesFsC w (frs n)) := by
  unfold GivesFsC
  have h4 : n ≤ 4 := by omega
  have hM : 2 ^ (n * n) ≤ 65536 := Nat.le_trans (Nat.pow_le_pow_right (by omega) (Nat.mul_le_mul h4 h4)) (by decide)
  have hnn : n * n ≤ 16 := Nat.mul_le_mul h4 h4
  have hp := wrap_pow (k := n * n) (by omega)
  have hp2 := wrapI_pow (k := n * n) (by omega)
  have hmul : wrap64 ((n : Int) * (n : Int)) = ((n * n : Nat) : Int) := by rw [← Int.natCast_mul, wrap64]; omega
  have hmul2 : IntKind.i64.wrap ((n : Int) * (n : Int)) = ((n * n : Nat) : Int) := by rw [← Int.natCast_mul, IntKind.wrap_i64]; omega
  have HIR := Lib.hid (inRange_c (n : Int) 0 3)
  have hir : decide ((0 : Int) ≤ (n : Int) ∧ (n : Int) ≤ 3) = true := decide_eq_true ⟨by omega, by omega⟩
  rw [hir] at HIR
  clear hir
  have HPO := Lib.hid (fun v A W (h : Ints W v (zs A)) => frameOf_c v (zs A) W h)
  have HLR := Lib.hid (fun v A W (h : Ints W v (zs A)) (hp : Rl A) (hl : A.length ≤ 6) => leastRelation_c v A W h hp hl)
  have HRL := Lib.hid (fun N => relK_rl (n := n) (N := N) (by omega))
  have HSL := Lib.hid (fun W v Ls (hO : OwnU W w.heap.size v (zss Ls)) hL h0 hsz (hg : Grew w W) => sortedLists_c W w w.heap.size n v Ls hO hL h0 hsz hg (Nat.le_refl _))
  have HFE := Lib.hid (fun Ks => @frs_eq n (by omega) Ks)
  have HRW := Lib.hid (fun k => @cdf_rows n k (by omega))
  obtain ⟨q, hq⟩ : ∃ q, q = n * n := ⟨_, rfl⟩
  have HQ := Lib.hid hq
  rw [← hq] at hp hp2 hM hmul hmul2 hnn
  clear hq
  obtain ⟨M, hMM⟩ : ∃ M, M = 2 ^ q := ⟨_, rfl⟩
  have HM := Lib.hid hMM
  have hM0 : 0 < M := by rw [hMM]; exact Nat.two_pow_pos q
  have HM0 := Lib.hid hM0
  clear hM0
  rw [← hMM] at hp hp2 hM
  clear hMM
  have q1 : (0 : Int) ≤ (q : Int) := by omega
  have q2 : (q : Int) < 64 := by omega
  have q3 : q < 64 := by omega
  go_enter Tryz.func61, Tryz.ntmps61
  go_wp2_with fail
  refine (HIR.out _).mono ?_
  rintro e wz ⟨rfl, hgz⟩
  go_wp2_with fail
  clear hp hp2 hmul hmul2
  go_loopw [4, 18] (fun s i wr => ∃ k : Nat, k ≤ M ∧ i = .int .i64 (k : Int) ∧ Grew w wr ∧ Hid (OwnU wr w.heap.size s (zss (cdf n k)))) (fun _ i _ => M - (intOf i).toNat)
  case atStart => exact ⟨0, by omega, rfl, hgz, Lib.hid (OwnU.nil_ _ _)⟩
  case round =>
    obtain ⟨k, hk, rfl, hB, hO⟩ := hrel
    obtain ⟨A3, c3, rfl⟩ := hO.out.slice
    rw [zss_len]
    by_cases hlt : k < M
    · generalize wr = wk at *
      go_wp2_with fail
      go_loopw [6, 22] (fun s x wr => ∃ (j : Nat), j ≤ n ∧ x = .int .i64 (j : Int) ∧ Grew wk wr ∧ Hid (OwnI wr wk.heap.size s (zs (relK n j k)))) (fun _ x _ => n - (intOf x).toNat)
      case atStart => exact ⟨0, by omega, rfl, Grew.refl _, Lib.hid (World.ownsRow_nil wk _ _ 1)⟩
      case round =>
        obtain ⟨j, hj, rfl, hB2, hO2⟩ := hrel
        by_cases hlj : j < n
        · have hjn : j * n ≤ 16 := Nat.mul_le_mul (Nat.le_trans hj h4) h4
          have HF := Lib.hid (shr_facts k (j * n) n (Nat.le_trans hk hM) h4)
          have HMU := Lib.hid (mul_facts j n hjn)
          have HSN := Lib.hid (relK_snoc n j k)
          generalize k / 2 ^ (j * n) % 2 ^ n = z at HF HSN
          generalize k / 2 ^ (j * n) = y at HF
          generalize 2 ^ n - 1 = f at HF
          generalize (2 : Nat) ^ n = F at HF
          generalize j * n = p at HF HMU hjn
          have p1 : (0 : Int) ≤ (p : Int) := Int.natCast_nonneg p
          have p3 : p < 64 := Nat.lt_of_le_of_lt hjn (by decide)
          have p2 : (p : Int) < 64 := Int.ofNat_lt.2 p3
          have n1 : (0 : Int) ≤ (n : Int) := Int.natCast_nonneg n
          have n3 : n < 64 := Nat.lt_of_le_of_lt h4 (by decide)
          have n2 : (n : Int) < 64 := Int.ofNat_lt.2 n3
          have hl : (zs (relK n j k)).length ≤ 1048576 := by rw [zs_len, relK_len]; exact Nat.le_trans hj (Nat.le_trans h4 (by decide))
          have hr0 := Grew.refl wr
          have hk5 := (hr0.alloc (.cells #[.int .i64 (z : Int)] 2)).drew
          have hs5 : wk.heap.size ≤ ((wr.alloc (.cells #[.int .i64 (z : Int)] 2)).drew).heap.size := Nat.le_trans hB2.size hk5.size
          have hO5 := hO2.out.grew hk5
          have hrd5 := (rd_litI wr (z : Int) 2).grew (Grew.refl _).drew
          obtain ⟨hF1, hF2, hD, hAN, hS1, hS2⟩ := HF.out
          obtain ⟨hM1, hM2⟩ := HMU.out
          clear hF1 hS1 hM1
          go_wp2_with fail
          go_region_law (refine step_appI wk.heap.size rfl (.tmp 25) (.tmp 35) rfl u6 (zs (relK n j k)) rfl hO5 hs5 _ _ rfl hrd5 hl ?_; intro v6 w6 hown6 hg6)
          all_goals
            have hB6 : Grew wk w6 := (hB2.trans hk5).grown hg6 (fun g hg => own_of_ge hO5 hg)
            rw [show zs (relK n j k) ++ [(z : Int)] = zs (relK n (j + 1) k) by rw [HSN.out, zs_append]; rfl] at hown6
            have HO6 := Lib.hid hown6
            clear hown6 hO5 hg6 hk5 hrd5 hF2 hS2 hM2 hD hAN
            go_wp2_with fail
            go_roundw
            case rel => exact ⟨j + 1, by omega, by go_num, hB6, HO6⟩
            case measure => simp [intOf]; omega
        · obtain rfl : j = n := by omega
          have hO9 := hO2.out
          obtain ⟨A5, c5, rfl⟩ := ints_sliceN hO9.ints
          have HO9 := Lib.hid hO9
          have hll : (relK j j k).length = j := relK_len j j k
          rw [hll] at hO9 HO9 ⊢
          have hR3 : Hid (Calls Tryz.prog 60 #[.slice A5 j c5] wr (GivesI wr (zs (lst (relK j j k))))) := Lib.hid (by
            exact HLR.out _ _ wr hO9.ints (HRL.out k) (by rw [hll]; omega))
          have HO3 := hO
          have hLl : (zss (cdf j k)).length ≤ 1048576 := by rw [zss_len, cdf_len]; omega
          clear hO9 hO2 hO
          have hcy : Hid (zss (cdf j (k + 1)) = zss (cdf j k) ++ [zs (lst (relK j j k))]) := Lib.hid (by rw [cdf_succ, zss_append]; rfl)
          have hlz : (cdf j k).length = (zss (cdf j k)).length := (zss_len _).symm
          have HU := HO3.out
          rw [hlz] at *
          clear hlz
          generalize zss (cdf j k) = K at *
          go_wp2_with fail
          refine (hR3.out).mono ?_
          rintro e w4 ⟨v4, rfl, hO4, hg4⟩
          have hK4 := hB2.trans hg4
          have hl4 := (Grew.refl w4).alloc (.cells #[v4] 24)
          have hO4b := OwnI.base (B' := w.heap.size) hO4 (Nat.le_trans hB.size hB2.size)
          obtain ⟨A4, c4, rfl⟩ := ints_sliceN hO4.ints
          clear hO4
          generalize lst (relK j j k) = R at *
          go_wp2_with (at_builtin
                       refine wpList_appU w.heap.size _ _ rfl rfl _ K rfl (HU.grew (hK4.trans hl4)) ((hB.trans hK4).alloc _).size _ (.slice A4 R.length c4) _ rfl (rd_litU _ _ _) (hO4b.grew hl4) hLl ?_
                       intro v9 w9 hO9 hgr9
                       have hB9 := Grew.grown ((hB.trans hK4).alloc (.cells #[.slice A4 R.length c4] 24)) hgr9 (fun q hq => own_of_geU (HU.grew (hK4.trans hl4)) hq))
          go_roundw
          case rel => exact ⟨k + 1, by omega, by go_num, hB9, Lib.hid (by rw [hcy.out]; exact hO9)⟩
          case measure => simp [intOf]; omega
    · obtain rfl : k = M := by omega
      have hne : 0 < (cdf n k).length := by rw [cdf_len]; exact HM0.out
      have hS := Lib.hid (HSL.out wr _ _ hO.out (HRW.out k) hne (by rw [cdf_len]; omega) hB)
      rw [zss_len] at hS
      have hEQ : Hid (∀ Ks, Asc Ks → (∀ x, x ∈ Ks ↔ x ∈ cdf n k) → Ks = frs n) := Lib.hid (fun Ks ha hm => HFE.out Ks ha (fun x => by rw [hm x, cdf_mem, HM.out, HQ.out]))
      have hCL : (cdf n k).length ≤ k := Nat.le_of_eq (cdf_len n k)
      clear hO
      generalize (cdf n k).length = cl at *
      go_wp2_with fail
      refine (hS.out).mono ?_
      rintro e w1 ⟨u, Ks, rfl, hU, ha, hm, hlen, hg1⟩
      have he := hEQ.out Ks ha hm
      subst he
      clear ha hm
      have HAT := Lib.hid (fun i (hi : i < (frs n).length) => hU.at_ (i := i) (by rw [zss_len]; exact hi))
      have HGT := Lib.hid (fun i (hi : i < (frs n).length) => zss_get (Us := frs n) (i := i) hi)
      have HTK := Lib.hid (fun i (hi : i < (frs n).length) => take_next (L := frs n) [] hi)
      have HEND : Hid ((frs n).take (frs n).length = frs n) := Lib.hid List.take_length
      obtain ⟨A7, c7, rfl⟩ := hU.slice
      rw [zss_len] at HAT ⊢
      clear hU
      generalize hpl : (frs n).length = pl at *
      go_wp2_with fail
      go_loopw [8, 47] (fun s i wr => ∃ j : Nat, j ≤ pl ∧ i = .int .i64 (j : Int) ∧ Grew w1 wr ∧ Hid (OwnFs wr w.heap.size s ((frs n).take j)) ∧ Hid (∀ g, s.ownBlock = some g → w1.heap.size ≤ g)) (fun _ i _ => pl - (intOf i).toNat)
      case atStart => exact ⟨0, by omega, rfl, Grew.refl _, Lib.hid (OwnFs.nil_ _ _), Lib.hid (fun g hg => by cases hg)⟩
      case round =>
        obtain ⟨j, hj, rfl, hB2, hO2, hNB⟩ := hrel
        by_cases hlj : j < pl
        · obtain ⟨go, co, uo, he, hco, huo⟩ := HAT.out j hlj
          injection he with he1 _ he3
          subst he1 he3
          rw [HGT.out j hlj] at huo
          have hTK := Lib.hid (HTK.out j hlj)
          have hcell := hco wr hB2
          have hIo := huo.grew hB2
          have hR1 := Lib.hid (HPO.out uo _ wr hIo.ints)
          rw [zs_len] at hR1
          have hTL : ((frs n).take j).length ≤ 1048576 := by rw [List.length_take]; omega
          have HIo := Lib.hid hIo
          clear huo hIo hco
          generalize (frs n).getD j [] = L at *
          go_wp2_with fail
          refine (hR1.out).mono ?_
          rintro e w2 ⟨rfl, hg2⟩
          have hB3 := hB2.trans hg2
          have hl2 := (Grew.refl w2).alloc (.cells #[.int .i64 (L.length : Int), uo] 26)
          have hsz : w.heap.size ≤ (w2.alloc (.cells #[.int .i64 (L.length : Int), uo] 26)).heap.size := ((hg1.trans hB3).trans hl2).size
          have hO3 := hO2.out.grew (hg2.trans hl2)
          have hq : ∀ p ∈ [(uo, L)], OwnI (w2.alloc (.cells #[.int .i64 (L.length : Int), uo] 26)) w.heap.size p.1 (zs p.2) := fun p hp => by
            rw [List.mem_singleton] at hp
            subst hp
            exact HIo.out.grew (hg2.trans hl2)
          go_wp2_with (at_builtin
                       refine wpList_appFs w.heap.size _ _ rfl rfl _ ((frs n).take j) rfl hO3 hsz _ [(uo, L)] rfl (rd_litFs _ _ _ _) hq (by simp only [List.length_cons, List.length_nil]; omega) ?_
                       intro v9 w9 hO9 hgr9 hnb9
                       have hB9 := Grew.grown (hB3.trans hl2) hgr9 (fun q hq => hNB.out q hq)
                       have hNB9 : Hid (∀ g, v9.ownBlock = some g → w1.heap.size ≤ g) := Lib.hid (fun g hgg => by
                         rcases hnb9 with h0 | h0
                         · rw [h0] at hgg; exact hNB.out g hgg
                         · rw [h0] at hgg
                           injection hgg with hgg
                           rw [← hgg]
                           exact (hB3.trans hl2).size))
          go_roundw
          case rel => exact ⟨j + 1, by omega, by go_num, hB9, Lib.hid (by rw [hTK.out]; exact hO9), hNB9⟩
          case measure => simp [intOf]; omega
        · obtain rfl : j = pl := by omega
          have HO := Lib.hid hO2.out
          go_wp2_with fail
          go_ret2
          exact ⟨_, rfl, by have := HO.out; rwa [HEND.out] at this, hg1.trans hB2⟩
set_option maxHeartbeats 1000000 in
theorem smallFrames_c (w : World) :
    Calls Tryz.prog 36 #[] w fun e w' => ∃ v, e = .returned v ∧ OwnFs w' w.heap.size v (sfrs 4) ∧ Grew w w' := by
  have HP := Lib.hid allFrames_c
  have HSU := Lib.hid sfrs_succ
  have HSL := Lib.hid (fun k (h : k ≤ 4) => sfrs_len h)
  have HPL := Lib.hid (fun n (h : n ≤ 3) => frs_len h)
  go_enter Tryz.func36, Tryz.ntmps36
  go_wp2_with fail
  go_loopw [1, 5] (fun s i wr => ∃ k : Nat, k ≤ 4 ∧ i = .int .i64 (k : Int) ∧ Grew w wr ∧ Hid (OwnFs wr w.heap.size s (sfrs k))) (fun _ i _ => 4 - (intOf i).toNat)
  case atStart => exact ⟨0, by omega, rfl, Grew.refl _, Lib.hid (OwnFs.nil_ _ _)⟩
  case round =>
    obtain ⟨k, hk, rfl, hB, hO⟩ := hrel
    by_cases hlt : k < 4
    · have hP := Lib.hid (HP.out k (by omega) wr)
      have HS := Lib.hid (HSU.out k)
      have hpl := HPL.out k (by omega)
      have hsl := HSL.out k hk
      go_wp2_with fail
      refine (hP.out).mono ?_
      rintro e w2 ⟨v2, rfl, hO2, hg2⟩
      have hB2 := hB.trans hg2
      have hO3 := hO.out.grew hg2
      obtain ⟨qs, q1, q2, q3, q4⟩ := (hO2.base hB.size).rd
      obtain ⟨A2, c2, rfl⟩ := hO2.slice
      rw [← q1] at HS
      have hql : (sfrs k).length + qs.length ≤ 1048577 := by omega
      clear hO2 q1
      go_wp2_with (at_builtin
                   refine wpList_appFs w.heap.size _ _ rfl rfl _ (sfrs k) rfl hO3 hB2.size _ qs rfl q3 q4 hql ?_
                   intro v9 w9 hO9 hgr9 hnb9
                   have hB9 := Grew.grown hB2 hgr9 (fun q hq => hO3.ge hq))
      go_roundw
      case rel => exact ⟨k + 1, by omega, by go_num, hB9, Lib.hid (by rw [HS.out]; exact hO9)⟩
      case measure => simp [intOf]; omega
    · obtain rfl : k = 4 := by omega
      have HO := Lib.hid hO.out
      clear hO
      go_wp2_with fail
      go_ret
      exact ⟨_, rfl, HO.out, hB⟩
end Go.Proofs.YtpfncncohnhanaaGreatDoor


/- everyPair of the program. -/
namespace Go.Proofs.YtpfncncohnhanaaGreatDoor
open Go.RowKit

def PredP (w : World) (f : Nat) (caps : Array Value) (n : Nat) (p : Nat → Nat → Nat → Bool) : Prop := ∀ x y z W, x < n → y < n → z < n → Grew w W → Calls Tryz.prog f (#[.int .i64 (x : Int), .int .i64 (y : Int), .int .i64 (z : Int)] ++ caps) W fun e W' => e = .returned (.bool (p x y z)) ∧ Grew W W'
set_option maxHeartbeats 1000000 in
theorem everyPair_c (v : Value) (A : List Nat) (f : Nat) (caps : Array Value) (p : Nat → Nat → Nat → Bool) (w : World) (h : Ints w v (zs A)) (hA : Rl A) (hf : PredP (w.alloc (.cells #[.int .i64 (A.length : Int), v] 26)) f caps A.length p) (eg : ∀ args w, (callFunc f args).run Tryz.prog w = .ok (.enter f args) w) :
    Calls Tryz.prog 186 #[.agg #[.int .i64 (A.length : Int), v], .func (.func f) #[] caps] w fun e w' => e = .returned (.bool (pairB A p)) ∧ Grew w w' := by
  have hn30 := hA.1
  obtain ⟨A1, c1, rfl⟩ := ints_sliceN h
  obtain ⟨R, hR⟩ : ∃ R, R = pairB A p := ⟨_, rfl⟩
  rw [← hR]
  unfold pairB at hR
  have HA := Lib.hid (fun k hk h => hR.trans (@allB_no A.length (fun x => allB (mbs (nt A x)).length fun i => allB (mbs (nt A x)).length fun j => p x (nt (mbs (nt A x)) i) (nt (mbs (nt A x)) j)) k hk h))
  have HZ := Lib.hid (fun h => hR.trans (@allB_of A.length (fun x => allB (mbs (nt A x)).length fun i => allB (mbs (nt A x)).length fun j => p x (nt (mbs (nt A x)) i) (nt (mbs (nt A x)) j)) h))
  have HF := Lib.hid hf
  have hal := (Grew.refl w).alloc (.cells #[.int .i64 (A.length : Int), .slice A1 A.length c1] 26)
  have HC := Lib.hid (fun h0 => cellsN (h.grew hal) h0)
  have HM := Lib.hid (fun i (hi : i < A.length) => membersOf_c (nt A i) (hA.sm.at_ hi))
  have HLT := Lib.hid (fun i (hi : i < A.length) k (hk : k < (mbs (nt A i)).length) => mbs_lt (hA.lt hi) (nt_mem hk))
  have HL30 := Lib.hid mbs_len
  obtain ⟨w0, hw0⟩ : ∃ w0, w0 = w.alloc (.cells #[.int .i64 (A.length : Int), .slice A1 A.length c1] 26) := ⟨_, rfl⟩
  rw [← hw0] at HF HC hal
  have HG := Lib.hid hal
  clear h hA hf hR hal
  generalize A.length = n at *
  go_enter Tryz.func186, Tryz.ntmps186
  go_wp2_with fail
  simp only [← hw0]
  clear hw0
  go_loopw [5, 6, 8, 10, 14, 22, 29] (fun _ _ _ _ i _ _ wr => ∃ j : Nat, j ≤ n ∧ i = .int .i64 j ∧ Grew w0 wr ∧ Hid (AllK (fun x => allB (mbs (nt A x)).length fun i => allB (mbs (nt A x)).length fun j => p x (nt (mbs (nt A x)) i) (nt (mbs (nt A x)) j)) j)) (fun _ _ _ _ i _ _ _ => n - (intOf i).toNat)
  case atStart => exact ⟨0, Nat.zero_le _, rfl, Grew.refl _, AllK.zero _⟩
  case round =>
    obtain ⟨x, hx, rfl, hB, HJ⟩ := hrel
    by_cases hlt : x < n
    · obtain ⟨b, o, rfl, hcell⟩ := HC.out (by omega)
      have k1 := hcell x hlt _ hB
      have hA1 := Lib.hid (HA.out x hlt)
      have hS1 := Lib.hid (fun h => HJ.out.succ (k := x) h)
      have hM := Lib.hid (HM.out x hlt)
      have hLT := Lib.hid (HLT.out x hlt)
      have hl30 := HL30.out (nt A x)
      have hF := Lib.hid (fun y z W hy hz hW => HF.out x y z W hlt hy hz hW)
      clear hcell
      generalize nt A x = m at *
      generalize hL : mbs m = L at *
      clear hL
      go_wp2_with fail
      refine (hM.out _).mono ?_
      rintro e w1 ⟨v1, rfl, hO1, hg1⟩
      obtain ⟨A2, c2, rfl⟩ := ints_sliceN hO1.ints
      have HD := Lib.hid (fun h0 => cellsN hO1.ints h0)
      have hB1 := hB.trans hg1
      clear hO1 k1
      go_wp2_with fail
      go_loopw [8, 10, 22, 29] (fun _ _ i _ wy => ∃ j : Nat, j ≤ L.length ∧ i = .int .i64 j ∧ Grew w1 wy ∧ Hid (AllK (fun i => allB L.length fun j => p x (nt L i) (nt L j)) j)) (fun _ _ i _ _ => L.length - (intOf i).toNat)
      case atStart => exact ⟨0, Nat.zero_le _, rfl, Grew.refl _, AllK.zero _⟩
      case round =>
        obtain ⟨y, hy, rfl, hY, HY⟩ := hrel
        by_cases hly : y < L.length
        · obtain ⟨b2, o2, rfl, hcell2⟩ := HD.out (by omega)
          have k2 := hcell2 y hly _ hY
          have hA2 := Lib.hid (fun h => hA1.out (@allB_no L.length (fun i => allB L.length fun j => p x (nt L i) (nt L j)) y hly h))
          have hS2 := Lib.hid (fun h => HY.out.succ (k := y) h)
          have hyn := hLT.out y hly
          have hF2 := Lib.hid (fun z W hz hW => hF.out (nt L y) z W hyn hz hW)
          clear hcell2
          generalize nt L y = ly at *
          go_wp2_with fail
          refine (hM.out _).mono ?_
          rintro e w2 ⟨v2, rfl, hO2, hg2⟩
          obtain ⟨A3, c3, rfl⟩ := ints_sliceN hO2.ints
          have HE := Lib.hid (fun h0 => cellsN hO2.ints h0)
          have hY2 := hY.trans hg2
          clear hO2 k2
          go_wp2_with fail
          go_loopw [10, 29] (fun _ i wz => ∃ j : Nat, j ≤ L.length ∧ i = .int .i64 j ∧ Grew w2 wz ∧ Hid (AllK (fun j => p x ly (nt L j)) j)) (fun _ i _ => L.length - (intOf i).toNat)
          case atStart => exact ⟨0, Nat.zero_le _, rfl, Grew.refl _, AllK.zero _⟩
          case round =>
            obtain ⟨z, hz, rfl, hZ, HZ3⟩ := hrel
            by_cases hlz : z < L.length
            · obtain ⟨b3, o3, rfl, hcell3⟩ := HE.out (by omega)
              have k3 := hcell3 z hlz _ hZ
              have hA3 := Lib.hid (fun h => hA2.out (@allB_no L.length (fun j => p x ly (nt L j)) z hlz h))
              have hS3 := Lib.hid (fun h => HZ3.out.succ (k := z) h)
              have hzn := hLT.out z hlz
              have hB3 := (hB1.trans hY2).trans hZ
              have hF3 := Lib.hid (hF2.out (nt L z) _ hzn hB3)
              clear hcell3
              generalize nt L z = lz at *
              go_wp2_with fail
              refine (hF3.out).mono ?_
              rintro e w3 ⟨rfl, hg3⟩
              have hZ3 := hZ.trans hg3
              have hB4 := hB3.trans hg3
              cases hp : p x ly lz with
              | true =>
                have hs := Lib.hid (hS3.out hp)
                go_wp2_with fail
                go_roundw
                case rel => exact ⟨z + 1, by omega, by go_num, hZ3, hs⟩
                case measure => simp [intOf]; omega
              | false =>
                have hv := Lib.hid (hA3.out hp)
                go_wp2_with fail
                go_ret
                exact ⟨by rw [hv.out]; rfl, HG.out.trans hB4⟩
            · obtain rfl : z = L.length := by omega
              have hs := Lib.hid (hS2.out (allB_of HZ3.out))
              have hYZ := hY2.trans hZ
              go_wp2_with fail
              go_roundw
              case rel => exact ⟨y + 1, by omega, by go_num, hYZ, hs⟩
              case measure => simp [intOf]; omega
        · obtain rfl : y = L.length := by omega
          have hs := Lib.hid (hS1.out (allB_of HY.out))
          have hBY := hB1.trans hY
          go_wp2_with fail
          go_roundw
          case rel => exact ⟨x + 1, by omega, by go_num, hBY, hs⟩
          case measure => simp [intOf]; omega
    · obtain rfl : x = n := by omega
      have hv := Lib.hid (HZ.out HJ.out)
      go_wp2_with fail
      go_ret
      exact ⟨by rw [hv.out]; rfl, HG.out.trans hB⟩
end Go.Proofs.YtpfncncohnhanaaGreatDoor


/- Counting members: OnesCount64, countMembers of the program, l01Bits of the reference. -/
namespace Go.Proofs.YtpfncncohnhanaaGreatDoor
open Go.RowKit

def oc1 (m : Int) : Int := IntKind.u64.wrap (bits .and .u64 (m / 2) 6148914691236517205 + bits .and .u64 m 6148914691236517205)
def oc2 (m : Int) : Int := IntKind.u64.wrap (bits .and .u64 (m / 4) 3689348814741910323 + bits .and .u64 m 3689348814741910323)
def oc3 (m : Int) : Int := bits .and .u64 (IntKind.u64.wrap (m / 16 + m)) 1085102592571150095
def oc4 (m : Int) : Int := IntKind.u64.wrap (m + m / 256)
def oc5 (m : Int) : Int := IntKind.u64.wrap (m + m / 65536)
def oc6 (m : Int) : Int := IntKind.u64.wrap (m + m / 4294967296)
def ocA (m : Nat) : Int := oc6 (oc5 (oc4 (oc3 (oc2 (oc1 (m : Int))))))
theorem oc_all : (List.range 256).all (fun m => decide (bits .and .i64 (wrap64 (ocA m)) 127 = ((mbs m).length : Int)) && decide (bits .and .i64 (ocA m) 127 = ((mbs m).length : Int))) = true := by kernel_rfl
theorem oc_at {m : Nat} (hm : m < 256) : bits .and .i64 (wrap64 (ocA m)) 127 = ((mbs m).length : Int) ∧ bits .and .i64 (ocA m) 127 = ((mbs m).length : Int) := by
  have := List.all_eq_true.1 oc_all m (List.mem_range.2 hm)
  simpa using this
theorem ones_c (m : Nat) (hm : m < 256) (w : World) :
    Calls Tryz.prog 211 #[.int .u64 (m : Int)] w fun e w' => e = .returned (.int .i64 ((mbs m).length : Int)) ∧ w' = w := by
  obtain ⟨h1, h2⟩ := oc_at hm
  have H := Lib.hid (And.intro h1 h2)
  clear h1 h2
  go_enter Tryz.func211, Tryz.ntmps211
  go_wp2_with fail
  go_ret
  refine ⟨?_, rfl⟩
  first
    | exact congrArg (fun x => Ending.returned (.int .i64 x)) H.out.1
    | exact congrArg (fun x => Ending.returned (.int .i64 x)) H.out.2
theorem countMembers_c (m : Nat) (hm : m < 256) (w : World) :
    Calls Tryz.prog 194 #[.int .i64 (m : Int)] w fun e w' => e = .returned (.int .i64 ((mbs m).length : Int)) ∧ w' = w := by
  have H := Lib.hid (ones_c m hm)
  go_enter Tryz.func194, Tryz.ntmps194
  go_wp2_with fail
  refine (H.out _).mono ?_
  rintro e w1 ⟨rfl, rfl⟩
  go_wp2_with fail
  go_ret
  exact ⟨rfl, rfl⟩
theorem mb_succ_len (m k : Nat) : (mb m (k + 1)).length = (mb m k).length + m / 2 ^ k % 2 := by
  have hb : m.testBit k = decide (m / 2 ^ k % 2 = 1) := by rw [Nat.testBit_eq_decide_div_mod_eq]
  cases h : m.testBit k with
  | true =>
    rw [mb_yes h, List.length_append, List.length_singleton]
    rw [h] at hb
    have := of_decide_eq_true hb.symm
    omega
  | false =>
    rw [mb_no h]
    rw [h] at hb
    have := of_decide_eq_false hb.symm
    have h2 := Nat.mod_two_eq_zero_or_one (m / 2 ^ k)
    omega
theorem l01Bits_c (m : Nat) (hm : m < 1073741824) (w : World) :
    Calls Tryz.prog 141 #[.int .i64 (m : Int)] w fun e w' => e = .returned (.int .i64 ((mbs m).length : Int)) ∧ w' = w := by
  have HS := Lib.hid (mb_succ_len m)
  have HT := Lib.hid (fun k (hk : k ≤ 30) h => @mbs_of m k hm h hk)
  have HD := Lib.hid (fun k => show m / 2 ^ (k + 1) = m / 2 ^ k / 2 from by rw [Nat.pow_succ, Nat.div_div_eq_div_mul])
  have HLE := Lib.hid (fun k (hk : 30 ≤ k) => show m / 2 ^ k = 0 from Nat.div_eq_of_lt (Nat.lt_of_lt_of_le (show m < 2 ^ 30 by omega) (Nat.pow_le_pow_right (by omega) hk)))
  have HB := Lib.hid (fun k => mb_len m k)
  have H0 : Hid (m / 2 ^ 0 = m) := Lib.hid (by rw [Nat.pow_zero, Nat.div_one])
  have HDL := Lib.hid (fun k => Nat.div_le_self m (2 ^ k))
  go_enter Tryz.func141, Tryz.ntmps141
  go_wp2_with fail
  go_loopw [0, 3] (fun x q wr => ∃ k : Nat, k ≤ 30 ∧ x = .int .i64 ((m / 2 ^ k : Nat) : Int) ∧ q = .int .i64 ((mb m k).length : Int) ∧ wr = w) (fun x _ _ => (intOf x).toNat)
  case atStart => exact ⟨0, by omega, by rw [H0.out], rfl, rfl⟩
  case round =>
    obtain ⟨k, hk, rfl, rfl, rfl⟩ := hrel
    have hs := HS.out k
    have hd := HD.out k
    have hdl := HDL.out k
    have hb := HB.out k
    have hle := HLE.out k
    have ht := Lib.hid (HT.out k hk)
    generalize hY : m / 2 ^ k = Y at *
    by_cases h0 : Y = 0
    · have hr := Lib.hid (ht.out h0)
      have hn : ¬ (0 : Int) < (Y : Int) := by omega
      clear hs hd hle hdl hY
      go_wp2_with fail
      go_ret
      exact ⟨by rw [← hr.out]; rfl, rfl⟩
    · have hp : (0 : Int) < (Y : Int) := by omega
      have hk30 : k < 30 := by
        apply Classical.byContradiction
        intro hc
        exact h0 (hle (by omega))
      have e1 : (Y : Int).tmod 2 = ((Y % 2 : Nat) : Int) := by rw [Int.tmod_eq_emod_of_nonneg (by omega)]; omega
      have hm2 : Y % 2 < 2 := Nat.mod_lt _ (by omega)
      have hy2 : Y / 2 < Y := by omega
      generalize Y % 2 = r2 at *
      have e3 : (Y : Int) / 2 = ((Y / 2 : Nat) : Int) := by omega
      have HSD := Lib.hid (And.intro hs hd)
      clear hs hd hY
      generalize Y / 2 = y2 at *
      have hlen : (mb m k).length ≤ 30 := by omega
      clear hle
      go_wp2_with fail
      go_roundw
      case rel => exact ⟨k + 1, by omega, by rw [HSD.out.2], by rw [HSD.out.1]; rfl, trivial⟩
      case measure => simp only [intOf]; omega
end Go.Proofs.YtpfncncohnhanaaGreatDoor


/- hasFlag of the program: serial, symmetric, Euclidean, directed, connected, acyclic (transitive frames), dense, functional. -/
namespace Go.Proofs.YtpfncncohnhanaaGreatDoor
open Go.RowKit

theorem inv_eq {A : List Nat} {f : Nat → Nat} (h : Bk (nt A) A.length A.length 0 f) {y : Nat} (hy : y < A.length) : f y = invN A A.length y := by
  apply Nat.eq_of_testBit_eq
  intro x
  rw [Bool.eq_iff_iff, h.bit hy x, invN_bit]
theorem sym_eq {A : List Nat} (hA : Rl A) {f : Nat → Nat} (h : Bk (nt A) A.length A.length 0 f) : decide (zs ((List.range A.length).map f) = zs A) = symB A := by
  rw [Bool.eq_iff_iff, decide_eq_true_eq, symB_iff hA]
  have hL : (List.range A.length).map f = A ↔ ∀ x, x < A.length → f x = nt A x := by
    constructor
    · intro he x hx
      have := congrArg (fun L => nt L x) he
      simpa [nt, List.getD, hx] using this
    · intro he
      apply List.ext_getElem (by simp)
      intro x h1 h2
      rw [nt_get h2]
      simpa using he x h2
  constructor
  · intro he x y hx hy
    have hf := hL.1 (zs_inj he)
    have hyn := hA.bit hx hy
    unfold rl
    rw [← hf y hyn, h.bit hyn x]
    exact ⟨hx, hy⟩
  · intro hs
    refine congrArg zs (hL.2 fun y hy => ?_)
    apply Nat.eq_of_testBit_eq
    intro x
    rw [Bool.eq_iff_iff, h.bit hy x]
    exact ⟨fun ⟨hx, hb⟩ => hs x y hx hb, fun hb => ⟨hA.bit hy hb, hs y x hy hb⟩⟩
theorem ne_zero_b (m : Nat) : (((m : Nat) : Int) != 0) = !decide (m = 0) := by
  rw [Bool.eq_iff_iff]
  simp
theorem le_one_b (k : Nat) : decide (((k : Nat) : Int) ≤ 1) = decide (k ≤ 1) := by
  rw [Bool.eq_iff_iff, decide_eq_true_eq, decide_eq_true_eq]
  omega
theorem ser_k (v : Value) (A : List Nat) (bf : Nat) (w : World) (h : Ints w v (zs A)) (hA : Rl A) (k0 : ∀ W, Grew w W → W.cell? ⟨bf, 0, none⟩ = some (.int .i64 (A.length : Int))) (k1 : ∀ W, Grew w W → W.cell? ⟨bf, 1, none⟩ = some v) :
    PredW w 184 #[.pointer (some ⟨bf, 0, none⟩)] A.length (fun x => !decide (nt A x = 0)) := by
  intro x W hx hW
  have y1 := k1 W hW
  have hb := ne_zero_b (nt A x)
  show Calls Tryz.prog 184 #[.int .i64 (x : Int), .pointer (some ⟨bf, 0, none⟩)] W fun e W' => e = .returned (.bool (!decide (nt A x = 0))) ∧ Grew W W'
  obtain ⟨A', c, rfl⟩ := ints_sliceN h
  obtain ⟨b, o, rfl, hc1⟩ := cellsN h (by omega)
  have z1 := hc1 x hx W hW
  clear h k0 k1 hA hc1
  generalize (!decide (nt A x = 0)) = t at *
  generalize nt A x = m at *
  generalize A.length = n at *
  go_enter Tryz.func184, Tryz.ntmps184
  go_wp2_with fail
  go_ret
  exact ⟨by first | rfl | rw [hb], Grew.refl _⟩
theorem fun_k (v : Value) (A : List Nat) (bf : Nat) (w : World) (h : Ints w v (zs A)) (hA : Rl A) (h8 : A.length ≤ 8) (k0 : ∀ W, Grew w W → W.cell? ⟨bf, 0, none⟩ = some (.int .i64 (A.length : Int))) (k1 : ∀ W, Grew w W → W.cell? ⟨bf, 1, none⟩ = some v) :
    PredW w 193 #[.pointer (some ⟨bf, 0, none⟩)] A.length (fun x => decide ((mbs (nt A x)).length ≤ 1)) := by
  intro x W hx hW
  have y1 := k1 W hW
  have hlt : nt A x < 256 := Nat.lt_of_lt_of_le (hA.lt hx) (Nat.le_trans (Nat.pow_le_pow_right (by omega) h8) (by decide))
  have KC := Lib.hid (countMembers_c (nt A x) hlt)
  have hb := le_one_b (mbs (nt A x)).length
  show Calls Tryz.prog 193 #[.int .i64 (x : Int), .pointer (some ⟨bf, 0, none⟩)] W fun e W' => e = .returned (.bool (decide ((mbs (nt A x)).length ≤ 1))) ∧ Grew W W'
  obtain ⟨A', c, rfl⟩ := ints_sliceN h
  obtain ⟨b, o, rfl, hc1⟩ := cellsN h (by omega)
  have z1 := hc1 x hx W hW
  clear h k0 k1 hA hc1 hlt
  generalize (mbs (nt A x)).length = k at *
  generalize nt A x = m at *
  generalize A.length = n at *
  go_enter Tryz.func193, Tryz.ntmps193
  go_wp2_with fail
  refine (KC.out _).mono ?_
  rintro e w1 ⟨rfl, hw1⟩
  rw [hw1]
  clear hw1
  go_wp2_with fail
  go_ret
  exact ⟨by first | rfl | rw [← hb], Grew.refl _⟩
theorem irr_k (u : Value) (A : List Nat) (f : Nat → Nat) (br : Nat) (w : World) (hA : Rl A) (hu : Ints w u (zs ((List.range A.length).map f))) (hf : ∀ x, x < A.length → f x = nt A x)
    (k0 : ∀ W, Grew w W → W.cell? ⟨br, 0, none⟩ = some u) :
    PredW w 190 #[.pointer (some ⟨br, 0, none⟩)] A.length (fun x => !(nt A x).testBit x) := by
  intro x W hx hW
  have y0 := k0 W hW
  have hn := hA.1
  have KH := Lib.hid (has_q (nt A x) x (by have := hA.sm.at_ hx; omega) (by omega))
  have hlm : ((List.range A.length).map f).length = A.length := by simp
  have hfx : nt ((List.range A.length).map f) x = nt A x := by rw [← hf x hx]; simp [nt, List.getD, hx]
  show Calls Tryz.prog 190 #[.int .i64 (x : Int), .pointer (some ⟨br, 0, none⟩)] W fun e W' => e = .returned (.bool (!(nt A x).testBit x)) ∧ Grew W W'
  obtain ⟨A', c, rfl⟩ := ints_sliceN hu
  obtain ⟨b, o, rfl, hc1⟩ := cellsN hu (by omega)
  have z1 := hc1 x (by omega) W hW
  rw [hfx] at z1
  rw [hlm] at y0
  clear hu k0 hA hc1 hf hfx hlm
  generalize (nt A x).testBit x = t at *
  generalize nt A x = m at *
  generalize A.length = n at *
  go_enter Tryz.func190, Tryz.ntmps190
  go_wp2_with fail
  refine (KH.out _).mono ?_
  rintro e w1 ⟨rfl, hw1⟩
  rw [hw1]
  clear hw1
  go_wp2_with fail
  go_ret
  exact ⟨rfl, Grew.refl _⟩
theorem euc_k (v : Value) (A : List Nat) (bf : Nat) (w : World) (h : Ints w v (zs A)) (hA : Rl A) (k0 : ∀ W, Grew w W → W.cell? ⟨bf, 0, none⟩ = some (.int .i64 (A.length : Int))) (k1 : ∀ W, Grew w W → W.cell? ⟨bf, 1, none⟩ = some v) :
    PredP w 187 #[.pointer (some ⟨bf, 0, none⟩)] A.length (fun _ y z => (nt A y).testBit z) := by
  intro x y z W hx hy hz hW
  have y0 := k0 W hW
  have y1 := k1 W hW
  have hn := hA.1
  have KS := Lib.hid (sees_c A.length v A y z W (h.grew hW) hA.sm hy hn (by omega))
  show Calls Tryz.prog 187 #[.int .i64 (x : Int), .int .i64 (y : Int), .int .i64 (z : Int), .pointer (some ⟨bf, 0, none⟩)] W fun e W' => e = .returned (.bool ((nt A y).testBit z)) ∧ Grew W W'
  obtain ⟨A', c, rfl⟩ := ints_sliceN h
  clear h k0 k1 hA
  generalize (nt A y).testBit z = t at *
  generalize A.length = n at *
  go_enter Tryz.func187, Tryz.ntmps187
  go_wp2_with fail
  refine (KS.out).mono ?_
  rintro e w1 ⟨rfl, hg1⟩
  go_wp2_with fail
  go_ret
  exact ⟨rfl, hg1⟩
theorem con_k (v : Value) (A : List Nat) (bf : Nat) (w : World) (h : Ints w v (zs A)) (hA : Rl A) (k0 : ∀ W, Grew w W → W.cell? ⟨bf, 0, none⟩ = some (.int .i64 (A.length : Int))) (k1 : ∀ W, Grew w W → W.cell? ⟨bf, 1, none⟩ = some v) :
    PredP w 189 #[.pointer (some ⟨bf, 0, none⟩)] A.length (fun _ y z => (nt A y).testBit z || (nt A z).testBit y) := by
  intro x y z W hx hy hz hW
  have y0 := k0 W hW
  have y1 := k1 W hW
  have x0 := fun V (hV : Grew W V) => k0 V (hW.trans hV)
  have x1 := fun V (hV : Grew W V) => k1 V (hW.trans hV)
  have hn := hA.1
  have KS := Lib.hid (sees_c A.length v A y z W (h.grew hW) hA.sm hy hn (by omega))
  have KT := Lib.hid (fun V (hV : Grew W V) => sees_c A.length v A z y V (h.grew (hW.trans hV)) hA.sm hz hn (by omega))
  show Calls Tryz.prog 189 #[.int .i64 (x : Int), .int .i64 (y : Int), .int .i64 (z : Int), .pointer (some ⟨bf, 0, none⟩)] W fun e W' => e = .returned (.bool ((nt A y).testBit z || (nt A z).testBit y)) ∧ Grew W W'
  obtain ⟨A', c, rfl⟩ := ints_sliceN h
  clear h k0 k1 hA
  generalize (nt A z).testBit y = s at *
  generalize (nt A y).testBit z = t at *
  generalize A.length = n at *
  cases t with
  | true =>
    go_enter Tryz.func189, Tryz.ntmps189
    go_wp2_with fail
    refine (KS.out).mono ?_
    rintro e w1 ⟨rfl, hg1⟩
    go_wp2_with fail
    go_ret
    exact ⟨rfl, hg1⟩
  | false =>
    go_enter Tryz.func189, Tryz.ntmps189
    go_wp2_with fail
    refine (KS.out).mono ?_
    rintro e w1 ⟨rfl, hg1⟩
    have d0 := x0 w1 hg1
    have d1 := x1 w1 hg1
    go_wp2_with fail
    refine (KT.out _ hg1).mono ?_
    rintro e w2 ⟨rfl, hg2⟩
    go_wp2_with fail
    go_ret
    exact ⟨rfl, hg1.trans hg2⟩
theorem dir_k (v : Value) (A : List Nat) (bf : Nat) (w : World) (h : Ints w v (zs A)) (hA : Rl A) (k0 : ∀ W, Grew w W → W.cell? ⟨bf, 0, none⟩ = some (.int .i64 (A.length : Int))) (k1 : ∀ W, Grew w W → W.cell? ⟨bf, 1, none⟩ = some v) :
    PredP w 188 #[.pointer (some ⟨bf, 0, none⟩)] A.length (fun _ y z => !decide (nt A y &&& nt A z = 0)) := by
  intro x y z W hx hy hz hW
  have y0 := fun V (hV : Grew W V) => k0 V (hW.trans hV)
  have y1 := fun V (hV : Grew W V) => k1 V (hW.trans hV)
  have hb := ne_zero_b (nt A y &&& nt A z)
  have ha := and_i64 (nt A y) (nt A z) (by have := hA.sm.at_ hy; omega) (by have := hA.sm.at_ hz; omega)
  show Calls Tryz.prog 188 #[.int .i64 (x : Int), .int .i64 (y : Int), .int .i64 (z : Int), .pointer (some ⟨bf, 0, none⟩)] W fun e W' => e = .returned (.bool (!decide (nt A y &&& nt A z = 0))) ∧ Grew W W'
  rw [← hb]
  obtain ⟨A', c, rfl⟩ := ints_sliceN h
  obtain ⟨b, o, rfl, hc1⟩ := cellsN h (by omega)
  have z1 := fun V (hV : Grew W V) => hc1 y hy V (hW.trans hV)
  have z2 := fun V (hV : Grew W V) => hc1 z hz V (hW.trans hV)
  clear h k0 k1 hA hc1 hb
  generalize nt A y &&& nt A z = m at *
  generalize nt A y = p1 at *
  generalize nt A z = p2 at *
  generalize A.length = n at *
  have hi0 : (0 : Int) ≤ (y : Int) := by omega
  have hi6 : (y : Int) < (n : Int) := by omega
  have hj0 : (0 : Int) ≤ (z : Int) := by omega
  have hj6 : (z : Int) < (n : Int) := by omega
  have hr1 := Grew.refl W
  have hd1 := (Grew.refl W).drew
  go_enter Tryz.func188, Tryz.ntmps188
  go_wp2_with fail
  go_quiet (fail)
  go_wp2_with fail
  go_ret
  exact ⟨rfl, (Grew.refl _).drewN _⟩
theorem den_k (v u : Value) (A : List Nat) (f : Nat → Nat) (bf bb : Nat) (w : World) (h : Ints w v (zs A)) (hA : Rl A) (hu : Ints w u (zs ((List.range A.length).map f))) (hf : ∀ y, y < A.length → f y = invN A A.length y)
    (k0 : ∀ W, Grew w W → W.cell? ⟨bf, 0, none⟩ = some (.int .i64 (A.length : Int))) (k1 : ∀ W, Grew w W → W.cell? ⟨bf, 1, none⟩ = some v) (k2 : ∀ W, Grew w W → W.cell? ⟨bb, 0, none⟩ = some u) :
    PredP w 192 #[.pointer (some ⟨bf, 0, none⟩), .pointer (some ⟨bb, 0, none⟩)] A.length (fun x y _ => !decide (nt A x &&& invN A A.length y = 0)) := by
  intro x y z W hx hy hz hW
  have y0 := fun V (hV : Grew W V) => k0 V (hW.trans hV)
  have y1 := fun V (hV : Grew W V) => k1 V (hW.trans hV)
  have y2 := fun V (hV : Grew W V) => k2 V (hW.trans hV)
  have hil := Nat.lt_of_lt_of_le (invN_lt A y A.length) (pow30' hA.1)
  have hb := ne_zero_b (nt A x &&& invN A A.length y)
  have ha := and_i64 (nt A x) (invN A A.length y) (by have := hA.sm.at_ hx; omega) (by omega)
  have hlm : ((List.range A.length).map f).length = A.length := by simp
  have hfx : nt ((List.range A.length).map f) y = invN A A.length y := by rw [← hf y hy]; simp [nt, List.getD, hy]
  show Calls Tryz.prog 192 #[.int .i64 (x : Int), .int .i64 (y : Int), .int .i64 (z : Int), .pointer (some ⟨bf, 0, none⟩), .pointer (some ⟨bb, 0, none⟩)] W fun e W' => e = .returned (.bool (!decide (nt A x &&& invN A A.length y = 0))) ∧ Grew W W'
  rw [← hb]
  obtain ⟨A', c, rfl⟩ := ints_sliceN h
  obtain ⟨A2, c2, rfl⟩ := ints_sliceN hu
  obtain ⟨b, o, rfl, hc1⟩ := cellsN h (by omega)
  obtain ⟨b2, o2, rfl, hc2⟩ := cellsN hu (by omega)
  have z1 := fun V (hV : Grew W V) => hc1 x hx V (hW.trans hV)
  have z2 := fun V (hV : Grew W V) => hc2 y (by omega) V (hW.trans hV)
  rw [hfx] at z2
  rw [hlm] at y2
  clear h hu k0 k1 k2 hA hc1 hc2 hb hf hfx hlm hil
  generalize nt A x &&& invN A A.length y = m at *
  generalize invN A A.length y = p2 at *
  generalize nt A x = p1 at *
  generalize A.length = n at *
  have hi0 : (0 : Int) ≤ (x : Int) := by omega
  have hi6 : (x : Int) < (n : Int) := by omega
  have hj0 : (0 : Int) ≤ (y : Int) := by omega
  have hj6 : (y : Int) < (n : Int) := by omega
  have hr1 := Grew.refl W
  have hd1 := (Grew.refl W).drew
  go_enter Tryz.func192, Tryz.ntmps192
  go_wp2_with fail
  go_quiet (fail)
  go_wp2_with fail
  go_ret
  exact ⟨rfl, (Grew.refl _).drewN _⟩
theorem hasFlag1_c (v : Value) (A : List Nat) (w : World) (h : Ints w v (zs A)) (hA : Rl A) :
    Calls Tryz.prog 168 #[.agg #[.int .i64 (A.length : Int), v], .int .i64 1] w fun e w' => e = .returned (.bool (serB A)) ∧ Grew w w' := by
  have hal := (Grew.refl w).alloc (.cells #[.int .i64 (A.length : Int), v] 26)
  have HI := Lib.hid (inverse_c v A _ (h.grew hal) hA)
  have HG := Lib.hid hal
  have eg := enters_of Tryz.func184 (by kernel_rfl) rfl
  have y0 : ∀ W, Grew (w.alloc (.cells #[.int .i64 (A.length : Int), v] 26)) W → W.cell? ⟨w.heap.size, 0, none⟩ = some (.int .i64 (A.length : Int)) := fun W hW => (hW.cell (p := ⟨w.heap.size, 0, none⟩) (by simp)).trans (by simp)
  have y1 : ∀ W, Grew (w.alloc (.cells #[.int .i64 (A.length : Int), v] 26)) W → W.cell? ⟨w.heap.size, 1, none⟩ = some v := fun W hW => (hW.cell (p := ⟨w.heap.size, 1, none⟩) (by simp)).trans (by simp)
  have KE := Lib.hid (fun W (hW : Grew (w.alloc (.cells #[.int .i64 (A.length : Int), v] 26)) W) => everyWorld_c v A.length 184 #[.pointer (some ⟨w.heap.size, 0, none⟩)] _ W hA.1 (by obtain ⟨A', c, e⟩ := ints_slice h; exact ⟨_, _, _, e⟩) (ser_k v A w.heap.size _ (h.grew (hal.trans (hW.alloc _))) hA (fun V hV => y0 V ((hW.alloc _).trans hV)) (fun V hV => y1 V ((hW.alloc _).trans hV))) eg)
  rw [show allB A.length (fun x => !decide (nt A x = 0)) = serB A from rfl] at KE
  obtain ⟨A', c, rfl⟩ := ints_sliceN h
  clear h hA hal eg
  generalize serB A = R at *
  generalize A.length = n at *
  go_enter Tryz.func168, Tryz.ntmps168
  go_wp2_with fail
  refine (HI.out).mono ?_
  rintro e w1 ⟨g, cc, f, rfl, hR, hK, hgg, hg1⟩
  clear hK hR
  have hg2 := hg1.alloc (.cells #[.slice (some ⟨g, 0, none⟩) n cc] 24)
  go_wp2_with fail
  refine (KE.out _ hg2).mono ?_
  rintro e w2 ⟨rfl, hg3⟩
  go_wp2_with fail
  go_ret
  exact ⟨rfl, HG.out.trans (hg2.trans hg3)⟩
theorem hasFlag10_c (v : Value) (A : List Nat) (w : World) (h : Ints w v (zs A)) (hA : Rl A) (h8 : A.length ≤ 8) :
    Calls Tryz.prog 168 #[.agg #[.int .i64 (A.length : Int), v], .int .i64 10] w fun e w' => e = .returned (.bool (funB A)) ∧ Grew w w' := by
  have hal := (Grew.refl w).alloc (.cells #[.int .i64 (A.length : Int), v] 26)
  have HI := Lib.hid (inverse_c v A _ (h.grew hal) hA)
  have HG := Lib.hid hal
  have eg := enters_of Tryz.func193 (by kernel_rfl) rfl
  have y0 : ∀ W, Grew (w.alloc (.cells #[.int .i64 (A.length : Int), v] 26)) W → W.cell? ⟨w.heap.size, 0, none⟩ = some (.int .i64 (A.length : Int)) := fun W hW => (hW.cell (p := ⟨w.heap.size, 0, none⟩) (by simp)).trans (by simp)
  have y1 : ∀ W, Grew (w.alloc (.cells #[.int .i64 (A.length : Int), v] 26)) W → W.cell? ⟨w.heap.size, 1, none⟩ = some v := fun W hW => (hW.cell (p := ⟨w.heap.size, 1, none⟩) (by simp)).trans (by simp)
  have KE := Lib.hid (fun W (hW : Grew (w.alloc (.cells #[.int .i64 (A.length : Int), v] 26)) W) => everyWorld_c v A.length 193 #[.pointer (some ⟨w.heap.size, 0, none⟩)] _ W hA.1 (by obtain ⟨A', c, e⟩ := ints_slice h; exact ⟨_, _, _, e⟩) (fun_k v A w.heap.size _ (h.grew (hal.trans (hW.alloc _))) hA h8 (fun V hV => y0 V ((hW.alloc _).trans hV)) (fun V hV => y1 V ((hW.alloc _).trans hV))) eg)
  rw [show allB A.length (fun x => decide ((mbs (nt A x)).length ≤ 1)) = funB A from rfl] at KE
  obtain ⟨A', c, rfl⟩ := ints_sliceN h
  clear h hA hal eg
  generalize funB A = R at *
  generalize A.length = n at *
  go_enter Tryz.func168, Tryz.ntmps168
  go_wp2_with fail
  refine (HI.out).mono ?_
  rintro e w1 ⟨g, cc, f, rfl, hR, hK, hgg, hg1⟩
  clear hK hR
  have hg2 := hg1.alloc (.cells #[.slice (some ⟨g, 0, none⟩) n cc] 24)
  go_wp2_with fail
  refine (KE.out _ hg2).mono ?_
  rintro e w2 ⟨rfl, hg3⟩
  go_wp2_with fail
  go_ret
  exact ⟨rfl, HG.out.trans (hg2.trans hg3)⟩
theorem hasFlag4_c (v : Value) (A : List Nat) (w : World) (h : Ints w v (zs A)) (hA : Rl A) :
    Calls Tryz.prog 168 #[.agg #[.int .i64 (A.length : Int), v], .int .i64 4] w fun e w' => e = .returned (.bool (eucB A)) ∧ Grew w w' := by
  have hal := (Grew.refl w).alloc (.cells #[.int .i64 (A.length : Int), v] 26)
  have HI := Lib.hid (inverse_c v A _ (h.grew hal) hA)
  have HG := Lib.hid hal
  have eg := enters_of Tryz.func187 (by kernel_rfl) rfl
  have y0 : ∀ W, Grew (w.alloc (.cells #[.int .i64 (A.length : Int), v] 26)) W → W.cell? ⟨w.heap.size, 0, none⟩ = some (.int .i64 (A.length : Int)) := fun W hW => (hW.cell (p := ⟨w.heap.size, 0, none⟩) (by simp)).trans (by simp)
  have y1 : ∀ W, Grew (w.alloc (.cells #[.int .i64 (A.length : Int), v] 26)) W → W.cell? ⟨w.heap.size, 1, none⟩ = some v := fun W hW => (hW.cell (p := ⟨w.heap.size, 1, none⟩) (by simp)).trans (by simp)
  have KE := Lib.hid (fun W (hW : Grew (w.alloc (.cells #[.int .i64 (A.length : Int), v] 26)) W) => everyPair_c v A 187 #[.pointer (some ⟨w.heap.size, 0, none⟩)] (fun _ y z => (nt A y).testBit z) W (h.grew (hal.trans hW)) hA (euc_k v A w.heap.size _ (h.grew (hal.trans (hW.alloc _))) hA (fun V hV => y0 V ((hW.alloc _).trans hV)) (fun V hV => y1 V ((hW.alloc _).trans hV))) eg)
  rw [show pairB A (fun _ y z => (nt A y).testBit z) = eucB A from rfl] at KE
  obtain ⟨A', c, rfl⟩ := ints_sliceN h
  clear h hA hal eg
  generalize eucB A = R at *
  generalize A.length = n at *
  go_enter Tryz.func168, Tryz.ntmps168
  go_wp2_with fail
  refine (HI.out).mono ?_
  rintro e w1 ⟨g, cc, f, rfl, hR, hK, hgg, hg1⟩
  clear hK hR
  have hg2 := hg1.alloc (.cells #[.slice (some ⟨g, 0, none⟩) n cc] 24)
  go_wp2_with fail
  refine (KE.out _ hg2).mono ?_
  rintro e w2 ⟨rfl, hg3⟩
  go_wp2_with fail
  go_ret
  exact ⟨rfl, HG.out.trans (hg2.trans hg3)⟩
theorem hasFlag5_c (v : Value) (A : List Nat) (w : World) (h : Ints w v (zs A)) (hA : Rl A) :
    Calls Tryz.prog 168 #[.agg #[.int .i64 (A.length : Int), v], .int .i64 5] w fun e w' => e = .returned (.bool (dirB A)) ∧ Grew w w' := by
  have hal := (Grew.refl w).alloc (.cells #[.int .i64 (A.length : Int), v] 26)
  have HI := Lib.hid (inverse_c v A _ (h.grew hal) hA)
  have HG := Lib.hid hal
  have eg := enters_of Tryz.func188 (by kernel_rfl) rfl
  have y0 : ∀ W, Grew (w.alloc (.cells #[.int .i64 (A.length : Int), v] 26)) W → W.cell? ⟨w.heap.size, 0, none⟩ = some (.int .i64 (A.length : Int)) := fun W hW => (hW.cell (p := ⟨w.heap.size, 0, none⟩) (by simp)).trans (by simp)
  have y1 : ∀ W, Grew (w.alloc (.cells #[.int .i64 (A.length : Int), v] 26)) W → W.cell? ⟨w.heap.size, 1, none⟩ = some v := fun W hW => (hW.cell (p := ⟨w.heap.size, 1, none⟩) (by simp)).trans (by simp)
  have KE := Lib.hid (fun W (hW : Grew (w.alloc (.cells #[.int .i64 (A.length : Int), v] 26)) W) => everyPair_c v A 188 #[.pointer (some ⟨w.heap.size, 0, none⟩)] (fun _ y z => !decide (nt A y &&& nt A z = 0)) W (h.grew (hal.trans hW)) hA (dir_k v A w.heap.size _ (h.grew (hal.trans (hW.alloc _))) hA (fun V hV => y0 V ((hW.alloc _).trans hV)) (fun V hV => y1 V ((hW.alloc _).trans hV))) eg)
  rw [show pairB A (fun _ y z => !decide (nt A y &&& nt A z = 0)) = dirB A from rfl] at KE
  obtain ⟨A', c, rfl⟩ := ints_sliceN h
  clear h hA hal eg
  generalize dirB A = R at *
  generalize A.length = n at *
  go_enter Tryz.func168, Tryz.ntmps168
  go_wp2_with fail
  refine (HI.out).mono ?_
  rintro e w1 ⟨g, cc, f, rfl, hR, hK, hgg, hg1⟩
  clear hK hR
  have hg2 := hg1.alloc (.cells #[.slice (some ⟨g, 0, none⟩) n cc] 24)
  go_wp2_with fail
  refine (KE.out _ hg2).mono ?_
  rintro e w2 ⟨rfl, hg3⟩
  go_wp2_with fail
  go_ret
  exact ⟨rfl, HG.out.trans (hg2.trans hg3)⟩
theorem hasFlag6_c (v : Value) (A : List Nat) (w : World) (h : Ints w v (zs A)) (hA : Rl A) :
    Calls Tryz.prog 168 #[.agg #[.int .i64 (A.length : Int), v], .int .i64 6] w fun e w' => e = .returned (.bool (conB A)) ∧ Grew w w' := by
  have hal := (Grew.refl w).alloc (.cells #[.int .i64 (A.length : Int), v] 26)
  have HI := Lib.hid (inverse_c v A _ (h.grew hal) hA)
  have HG := Lib.hid hal
  have eg := enters_of Tryz.func189 (by kernel_rfl) rfl
  have y0 : ∀ W, Grew (w.alloc (.cells #[.int .i64 (A.length : Int), v] 26)) W → W.cell? ⟨w.heap.size, 0, none⟩ = some (.int .i64 (A.length : Int)) := fun W hW => (hW.cell (p := ⟨w.heap.size, 0, none⟩) (by simp)).trans (by simp)
  have y1 : ∀ W, Grew (w.alloc (.cells #[.int .i64 (A.length : Int), v] 26)) W → W.cell? ⟨w.heap.size, 1, none⟩ = some v := fun W hW => (hW.cell (p := ⟨w.heap.size, 1, none⟩) (by simp)).trans (by simp)
  have KE := Lib.hid (fun W (hW : Grew (w.alloc (.cells #[.int .i64 (A.length : Int), v] 26)) W) => everyPair_c v A 189 #[.pointer (some ⟨w.heap.size, 0, none⟩)] (fun _ y z => (nt A y).testBit z || (nt A z).testBit y) W (h.grew (hal.trans hW)) hA (con_k v A w.heap.size _ (h.grew (hal.trans (hW.alloc _))) hA (fun V hV => y0 V ((hW.alloc _).trans hV)) (fun V hV => y1 V ((hW.alloc _).trans hV))) eg)
  rw [show pairB A (fun _ y z => (nt A y).testBit z || (nt A z).testBit y) = conB A from rfl] at KE
  obtain ⟨A', c, rfl⟩ := ints_sliceN h
  clear h hA hal eg
  generalize conB A = R at *
  generalize A.length = n at *
  go_enter Tryz.func168, Tryz.ntmps168
  go_wp2_with fail
  refine (HI.out).mono ?_
  rintro e w1 ⟨g, cc, f, rfl, hR, hK, hgg, hg1⟩
  clear hK hR
  have hg2 := hg1.alloc (.cells #[.slice (some ⟨g, 0, none⟩) n cc] 24)
  go_wp2_with fail
  refine (KE.out _ hg2).mono ?_
  rintro e w2 ⟨rfl, hg3⟩
  go_wp2_with fail
  go_ret
  exact ⟨rfl, HG.out.trans (hg2.trans hg3)⟩
theorem hasFlag9_c (v : Value) (A : List Nat) (w : World) (h : Ints w v (zs A)) (hA : Rl A) :
    Calls Tryz.prog 168 #[.agg #[.int .i64 (A.length : Int), v], .int .i64 9] w fun e w' => e = .returned (.bool (denB A)) ∧ Grew w w' := by
  have hal := (Grew.refl w).alloc (.cells #[.int .i64 (A.length : Int), v] 26)
  have HI := Lib.hid (inverse_c v A _ (h.grew hal) hA)
  have HG := Lib.hid hal
  have eg := enters_of Tryz.func192 (by kernel_rfl) rfl
  have y0 : ∀ W, Grew (w.alloc (.cells #[.int .i64 (A.length : Int), v] 26)) W → W.cell? ⟨w.heap.size, 0, none⟩ = some (.int .i64 (A.length : Int)) := fun W hW => (hW.cell (p := ⟨w.heap.size, 0, none⟩) (by simp)).trans (by simp)
  have y1 : ∀ W, Grew (w.alloc (.cells #[.int .i64 (A.length : Int), v] 26)) W → W.cell? ⟨w.heap.size, 1, none⟩ = some v := fun W hW => (hW.cell (p := ⟨w.heap.size, 1, none⟩) (by simp)).trans (by simp)
  have KE := Lib.hid (fun w1 (hg1 : Grew (w.alloc (.cells #[.int .i64 (A.length : Int), v] 26)) w1) g cc f (hR : NRow w1 g A.length cc f) (hK : Bk (nt A) A.length A.length 0 f) W (hW : Grew (w1.alloc (.cells #[.slice (some ⟨g, 0, none⟩) A.length cc] 24)) W) => by
    have hga := hg1.alloc (.cells #[.slice (some ⟨g, 0, none⟩) A.length cc] 24)
    have y2 : ∀ V, Grew W V → V.cell? ⟨w1.heap.size, 0, none⟩ = some (.slice (some ⟨g, 0, none⟩) A.length cc) := fun V hV => ((hW.trans hV).cell (p := ⟨w1.heap.size, 0, none⟩) (by simp)).trans (by simp)
    have K := everyPair_c v A 192 #[.pointer (some ⟨w.heap.size, 0, none⟩), .pointer (some ⟨w1.heap.size, 0, none⟩)] (fun x y _ => !decide (nt A x &&& invN A A.length y = 0)) W (h.grew (hal.trans (hga.trans hW))) hA
      (den_k v _ A f w.heap.size w1.heap.size _ (h.grew (hal.trans ((hga.trans hW).alloc _))) hA ((hR.ints.grew (((Grew.refl w1).alloc _).trans hW)).grew ((Grew.refl W).alloc _)) (fun y hy => inv_eq hK hy) (fun V hV => y0 V (((hga.trans hW).alloc _).trans hV)) (fun V hV => y1 V (((hga.trans hW).alloc _).trans hV)) (fun V hV => y2 V (((Grew.refl W).alloc _).trans hV))) eg
    rw [show pairB A (fun x y _ => !decide (nt A x &&& invN A A.length y = 0)) = denB A from rfl] at K
    exact K)
  obtain ⟨A', c, rfl⟩ := ints_sliceN h
  clear h hA hal eg
  generalize denB A = R at *
  generalize A.length = n at *
  go_enter Tryz.func168, Tryz.ntmps168
  go_wp2_with fail
  refine (HI.out).mono ?_
  rintro e w1 ⟨g, cc, f, rfl, hR, hK, hgg, hg1⟩
  have KF := Lib.hid (KE.out w1 hg1 g cc f hR hK)
  clear hK hR KE
  have hg2 := hg1.alloc (.cells #[.slice (some ⟨g, 0, none⟩) n cc] 24)
  go_wp2_with fail
  refine (KF.out _ (Grew.refl _)).mono ?_
  rintro e w2 ⟨rfl, hg3⟩
  go_wp2_with fail
  go_ret
  exact ⟨rfl, HG.out.trans (hg2.trans hg3)⟩
theorem hasFlag3_c (v : Value) (A : List Nat) (w : World) (h : Ints w v (zs A)) (hA : Rl A) :
    Calls Tryz.prog 168 #[.agg #[.int .i64 (A.length : Int), v], .int .i64 3] w fun e w' => e = .returned (.bool (symB A)) ∧ Grew w w' := by
  have hal := (Grew.refl w).alloc (.cells #[.int .i64 (A.length : Int), v] 26)
  have HI := Lib.hid (inverse_c v A _ (h.grew hal) hA)
  have HG := Lib.hid hal
  have y1 : ∀ W, Grew (w.alloc (.cells #[.int .i64 (A.length : Int), v] 26)) W → W.cell? ⟨w.heap.size, 1, none⟩ = some v := fun W hW => (hW.cell (p := ⟨w.heap.size, 1, none⟩) (by simp)).trans (by simp)
  have KQ := Lib.hid (fun W (hW : Grew w W) u L (hu : Ints W u L) (hl : L.length = (zs A).length) => equalR_c u v L (zs A) W hu (h.grew hW) hl)
  have HSE := Lib.hid (fun f h => @sym_eq A hA f h)
  obtain ⟨A', c, rfl⟩ := ints_sliceN h
  clear h hA hal
  rw [zs_len] at KQ
  generalize symB A = R at *
  generalize A.length = n at *
  go_enter Tryz.func168, Tryz.ntmps168
  go_wp2_with fail
  refine (HI.out).mono ?_
  rintro e w1 ⟨g, cc, f, rfl, hR, hK, hgg, hg1⟩
  have hg2 := hg1.alloc (.cells #[.slice (some ⟨g, 0, none⟩) n cc] 24)
  have hi2 := hR.ints.grew ((Grew.refl w1).alloc (.cells #[.slice (some ⟨g, 0, none⟩) n cc] 24))
  have KE := Lib.hid (KQ.out _ (HG.out.trans hg2) _ _ hi2 (by rw [zs_len]; simp))
  rw [HSE.out f hK] at KE
  have z1 := y1 _ hg2
  clear hK hR hi2
  go_wp2_with fail
  refine (KE.out).mono ?_
  rintro e w2 ⟨rfl, hg3⟩
  go_wp2_with fail
  go_ret
  exact ⟨rfl, HG.out.trans (hg2.trans hg3)⟩
theorem hasFlag7_c (v : Value) (A : List Nat) (w : World) (h : Ints w v (zs A)) (hA : Rl A) (hT : Trn A) :
    Calls Tryz.prog 168 #[.agg #[.int .i64 (A.length : Int), v], .int .i64 7] w fun e w' => e = .returned (.bool (irrB A)) ∧ Grew w w' := by
  have hal := (Grew.refl w).alloc (.cells #[.int .i64 (A.length : Int), v] 26)
  have HI := Lib.hid (inverse_c v A _ (h.grew hal) hA)
  have HG := Lib.hid hal
  have eg := enters_of Tryz.func190 (by kernel_rfl) rfl
  have y0 : ∀ W, Grew (w.alloc (.cells #[.int .i64 (A.length : Int), v] 26)) W → W.cell? ⟨w.heap.size, 0, none⟩ = some (.int .i64 (A.length : Int)) := fun W hW => (hW.cell (p := ⟨w.heap.size, 0, none⟩) (by simp)).trans (by simp)
  have y1 : ∀ W, Grew (w.alloc (.cells #[.int .i64 (A.length : Int), v] 26)) W → W.cell? ⟨w.heap.size, 1, none⟩ = some v := fun W hW => (hW.cell (p := ⟨w.heap.size, 1, none⟩) (by simp)).trans (by simp)
  have hvs : ∃ X m c, v = .slice X m c := by obtain ⟨A', c, e⟩ := ints_slice h; exact ⟨_, _, _, e⟩
  have KT : Hid (∀ W, Grew w W → Calls Tryz.prog 185 #[v] W fun e w' => ∃ u f, e = .returned u ∧ (∃ X m c, u = .slice X m c) ∧ Ints w' u (zs ((List.range A.length).map f)) ∧ (∀ x, x < A.length → f x = nt A x) ∧ Grew W w') := Lib.hid (fun W hW => by
    rcases Nat.eq_zero_or_pos A.length with h0 | h0
    · refine (transitive_t v A W (h.grew hW) hA).mono ?_
      rintro e w' ⟨u, L, rfl, hu, hl, _, hg⟩
      obtain ⟨X, c, e2⟩ := ints_slice hu
      have hL : L = [] := List.eq_nil_of_length_eq_zero (by rw [hl, zs_len, h0])
      exact ⟨u, fun _ => 0, rfl, ⟨_, _, _, e2⟩, by rw [show zs ((List.range A.length).map fun _ => 0) = L from by rw [hL, h0]; rfl]; exact hu, fun x hx => absurd hx (by omega), hg⟩
    · refine (transitive_c v A W (h.grew hW) hA h0).mono ?_
      rintro e w' ⟨g, c, f, rfl, hR, hK, _, hg⟩
      exact ⟨_, f, rfl, ⟨_, _, _, rfl⟩, hR.ints, hK.2.2 hT, hg⟩)
  have KE := Lib.hid (fun w1 (u : Value) (f : Nat → Nat) (hu : Ints w1 u (zs ((List.range A.length).map f))) (hf : ∀ x, x < A.length → f x = nt A x) W (hW : Grew (w1.alloc (.cells #[u] 24)) W) => by
    have y2 : ∀ V, Grew W V → V.cell? ⟨w1.heap.size, 0, none⟩ = some u := fun V hV => ((hW.trans hV).cell (p := ⟨w1.heap.size, 0, none⟩) (by simp)).trans (by simp)
    have K := everyWorld_c v A.length 190 #[.pointer (some ⟨w1.heap.size, 0, none⟩)] _ W hA.1 hvs
      (irr_k u A f w1.heap.size _ hA ((hu.grew (((Grew.refl w1).alloc _).trans hW)).grew ((Grew.refl W).alloc _)) hf (fun V hV => y2 V (((Grew.refl W).alloc _).trans hV))) eg
    rw [show allB A.length (fun x => !(nt A x).testBit x) = irrB A from rfl] at K
    exact K)
  obtain ⟨A', c, rfl⟩ := ints_sliceN h
  clear h hA hal eg hvs
  generalize irrB A = R at *
  generalize A.length = n at *
  go_enter Tryz.func168, Tryz.ntmps168
  go_wp2_with fail
  refine (HI.out).mono ?_
  rintro e w1 ⟨g, cc, f, rfl, hR, hK, hgg, hg1⟩
  clear hK hR
  have hg2 := hg1.alloc (.cells #[.slice (some ⟨g, 0, none⟩) n cc] 24)
  have z1 := y1 _ hg2
  generalize hw2 : w1.alloc (.cells #[.slice (some ⟨g, 0, none⟩) n cc] 24) = w2 at *
  go_wp2_with fail
  (try simp only [hw2])
  clear hw2
  refine (KT.out _ (HG.out.trans hg2)).mono ?_
  rintro e w3 ⟨u, f3, rfl, ⟨X, m, c3, rfl⟩, hu, hf, hg3⟩
  have hga := (hg2.trans hg3).alloc (.cells #[.slice X m c3] 24)
  have KF := Lib.hid (KE.out w3 _ f3 hu hf)
  have q0 := y0 _ hga
  have q1 := y1 _ hga
  clear hu hf KE
  go_wp2_with fail
  refine (KF.out _ (Grew.refl _)).mono ?_
  rintro e w4 ⟨rfl, hg4⟩
  go_wp2_with fail
  go_ret
  exact ⟨rfl, HG.out.trans (hga.trans hg4)⟩
end Go.Proofs.YtpfncncohnhanaaGreatDoor


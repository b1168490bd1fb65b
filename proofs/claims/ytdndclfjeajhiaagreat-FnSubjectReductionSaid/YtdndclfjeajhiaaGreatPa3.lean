/- Texts in one file: SnE RowLem Ints Lm TmKids Make TmLaw Range TmIs TmIs2 TmPart TyT LmTy TmRaise TmMapT AppI TmRed TmCtT TmG TmPs TmFits TmFits2 TmIns0 TmCtL TmLim TmCtG LmT NrT. -/
import Derived.Lib.SliceRun
import Derived.Deep.QuietTactic
import Derived.BigQuiet
import Derived.Deep.LoopGhost
import Derived.Outline
import Derived.Lib.SlicesS
import Derived.Test.YtdndclfjeajhiaaGreatProg
import Derived.Deep.RegionHeld3
import Derived.Deep.OwnRows
import Derived.WalkLawsBesides
import Derived.Shelf.Abstract
import Derived.Test.YtdndclfjeajhiaaGreatPa1
import Derived.Test.YtdndclfjeajhiaaGreatPa2
set_option linter.all false

/- slices.Equal on lists of nodes of terms; lists of nodes of terms are equal where the terms are. -/
namespace Go.Proofs.YtdndclfjeajhiaaGreat
open Go.RowKit
open Tr (Tm)

/-- The first j nodes are the same. -/
def AgreeT (xs ys : List Tn) (k : Nat) : Prop := ∀ i, i < k → tk xs i = tk ys i ∧ tn xs i = tn ys i ∧ tt xs i = tt ys i
theorem AgreeT.zero (xs ys : List Tn) : AgreeT xs ys 0 := fun i hi => absurd hi (by omega)
theorem AgreeT.succ {xs ys : List Tn} {k : Nat} (h : AgreeT xs ys k) (h1 : tk xs k = tk ys k) (h2 : tn xs k = tn ys k) (h3 : tt xs k = tt ys k) : AgreeT xs ys (k + 1) := by
  intro i hi
  rcases Nat.lt_or_ge i k with hk | hk
  · exact h i hk
  · obtain rfl : i = k := by omega
    exact ⟨h1, h2, h3⟩
theorem agreeT_all {xs ys : List Tn} (hl : xs.length = ys.length) (h : AgreeT xs ys xs.length) : xs = ys := tn_ext hl h
theorem tnGuard : Tryz.prog.eqGuardType Tryz.prog.depth 50 = false := by kernel_rfl
theorem tnEq (a b : Int) (s : ByteArray) (c d : Int) (z : ByteArray) (w : World) : (Op.equalIn 10000 50 (.agg #[.int .i64 a, .int .i64 b, .string s]) (.agg #[.int .i64 c, .int .i64 d, .string z])).run Tryz.prog w = .ok (a == c && (b == d && s.toList == z.toList)) w := by
  have u2 := Tryz.underlying2
  have u3 := Tryz.underlying9
  have hS : Tryz.prog.underlying 50 = some (.struct (Tryz.prog.fieldsOf 50)) := by kernel_rfl
  have hp : Tryz.prog.stoodInHeld 50 = false := by kernel_rfl
  rw [show (10000 : Nat) = 9999 + 1 from rfl, run_equalIn_agg w 9999 50 _ _ hS hp]
  simp only [Program.fieldsOf, Tryz.underlying50]
  go_simp
  by_cases h1 : a = c <;> by_cases h2 : b = d <;> by_cases h3 : s.toList = z.toList <;> simp [h1, h2, h3]
theorem tnNeq (a b : Int) (s : ByteArray) (c d : Int) (z : ByteArray) (w : World) : (binOp .neq 50 (.agg #[.int .i64 a, .int .i64 b, .string s]) (.agg #[.int .i64 c, .int .i64 d, .string z])).run Tryz.prog w = .ok (.bool (!(a == c && (b == d && s.toList == z.toList)))) w := by
  rw [run_neq_struct, tnEq]; rfl

theorem equalT_c (v1 v2 : Value) (xs ys : List Tn) (w : World) (h1 : Tms w v1 xs) (h2 : Tms w v2 ys) (hn : xs.length ≤ 1099511627776) :
    Calls Tryz.prog 47 #[v1, v2] w fun e w' => e = .returned (.bool (decide (xs = ys))) ∧ Grew w w' := by
  by_cases hl : xs.length = ys.length
  · rcases h1.open_ with ⟨rfl, rfl⟩ | ⟨b1, o1, c1, rfl, hc1, hm1, hb1, hf⟩
    · obtain rfl : ys = [] := List.eq_nil_of_length_eq_zero (by simpa using hl.symm)
      obtain ⟨A, c, rfl⟩ := tms_slice h2
      simp only [List.length_nil]
      clear hl
      go_enter Tryz.func47, Tryz.ntmps47
      go_wp2_with fail
      refine wp_loop_rounds 1 ?_; rw [rounds_succ]
      go_wp2_with fail
      go_ret
      exact ⟨by simp, Grew.refl _⟩
    · rcases h2.open_ with ⟨rfl, rfl⟩ | ⟨b2, o2, c2, rfl, hc2, hm2, hb2, hh⟩
      · obtain rfl : xs = [] := List.eq_nil_of_length_eq_zero (by simpa using hl)
        simp only [List.length_nil]
        clear hl
        go_enter Tryz.func47, Tryz.ntmps47
        go_wp2_with fail
        refine wp_loop_rounds 1 ?_; rw [rounds_succ]
        go_wp2_with fail
        go_ret
        exact ⟨by simp, Grew.refl _⟩
      · clear h1 h2
        have HE := Lib.hid (fun h => agreeT_all hl h)
        rw [← hl] at hc2 hh ⊢
        have HF := Lib.hid hf
        have HH := Lib.hid hh
        have HX := Lib.hid (fun (h : xs = ys) (i : Nat) => (⟨by rw [h], by rw [h], by rw [h]⟩ : tk xs i = tk ys i ∧ tn xs i = tn ys i ∧ tt xs i = tt ys i))
        obtain ⟨D, hD⟩ : ∃ D, D = decide (xs = ys) := ⟨_, rfl⟩
        rw [← hD]
        have HD := Lib.hid hD
        clear hl hf hh hD
        generalize hN : xs.length = n at *
        clear hN
        go_enter Tryz.func47, Tryz.ntmps47
        go_wp2_with fail
        go_loopg [4, 13] n (fun k _ i wr => ∃ j : Nat, j ≤ n ∧ k = n - j ∧ i = .int .i64 j ∧ Grew w wr ∧ Hid (AgreeT xs ys j))
        case atStart => exact ⟨0, Nat.zero_le _, by omega, rfl, Grew.refl _, AgreeT.zero _ _⟩
        case round =>
          obtain ⟨j, hj, rfl, rfl, hB, HA⟩ := hrel
          by_cases hlt : j < n
          · have k1 : ∀ W, Grew w W → W.cell? ⟨b1, o1 + j * 3, none⟩ = some (.int .i64 (tk xs j)) := fun W hW => (HF.out j hlt W hW).1
            have k2 : ∀ W, Grew w W → W.cell? ⟨b1, o1 + j * 3 + 1, none⟩ = some (.int .i64 (tn xs j)) := fun W hW => (HF.out j hlt W hW).2.1
            have k5 : ∀ W, Grew w W → W.cell? ⟨b1, o1 + j * 3 + 2, none⟩ = some (.string (tt xs j)) := fun W hW => (HF.out j hlt W hW).2.2
            have k3 : ∀ W, Grew w W → W.cell? ⟨b2, o2 + j * 3, none⟩ = some (.int .i64 (tk ys j)) := fun W hW => (HH.out j hlt W hW).1
            have k4 : ∀ W, Grew w W → W.cell? ⟨b2, o2 + j * 3 + 1, none⟩ = some (.int .i64 (tn ys j)) := fun W hW => (HH.out j hlt W hW).2.1
            have k6 : ∀ W, Grew w W → W.cell? ⟨b2, o2 + j * 3 + 2, none⟩ = some (.string (tt ys j)) := fun W hW => (HH.out j hlt W hW).2.2
            have hgd := tnGuard
            by_cases he : tk xs j = tk ys j ∧ tn xs j = tn ys j ∧ tt xs j = tt ys j
            · have hq : ∀ W, (binOp .neq 50 (.agg #[.int .i64 (tk xs j), .int .i64 (tn xs j), .string (tt xs j)]) (.agg #[.int .i64 (tk ys j), .int .i64 (tn ys j), .string (tt ys j)])).run Tryz.prog W = .ok (.bool false) W := fun W => by
                rw [tnNeq, he.1, he.2.1, he.2.2]; simp
              have HB := Lib.hid (HA.out.succ he.1 he.2.1 he.2.2)
              clear he HA
              go_wp2_with fail
              go_quiet (fail)
              go_wp2_with fail
              go_roundg (n - (j + 1))
              case measure => omega
              case rel => exact ⟨j + 1, by omega, rfl, by go_num, hB.drewN _, HB⟩
            · have hq : ∀ W, (binOp .neq 50 (.agg #[.int .i64 (tk xs j), .int .i64 (tn xs j), .string (tt xs j)]) (.agg #[.int .i64 (tk ys j), .int .i64 (tn ys j), .string (tt ys j)])).run Tryz.prog W = .ok (.bool true) W := fun W => by
                have hz : (tk xs j == tk ys j && (tn xs j == tn ys j && (tt xs j).toList == (tt ys j).toList)) = false := by
                  cases hz : (tk xs j == tk ys j && (tn xs j == tn ys j && (tt xs j).toList == (tt ys j).toList)) with
                  | false => rfl
                  | true =>
                    simp only [Bool.and_eq_true, beq_iff_eq] at hz
                    exact absurd ⟨hz.1, hz.2.1, (Lib.bytes_beq_iff _ _).1 (by simpa using hz.2.2)⟩ he
                rw [tnNeq, hz]
                simp
              have hv : Hid (D = false) := Lib.hid (by rw [HD.out]; exact decide_eq_false fun h => he (HX.out h j))
              clear he HA
              go_wp2_with fail
              go_quiet (fail)
              go_wp2_with fail
              go_ret
              rw [hv.out]
              exact ⟨rfl, hB.drewN _⟩
          · have hjn : j = n := by omega
            subst hjn
            have hv : Hid (D = true) := Lib.hid (by rw [HD.out]; exact decide_eq_true (HE.out HA.out))
            go_wp2_with fail
            go_ret
            rw [hv.out]
            exact ⟨rfl, hB⟩
  · have hne : xs ≠ ys := fun h => hl (by rw [h])
    rw [decide_eq_false hne]
    obtain ⟨A, c, rfl⟩ := tms_slice h1
    obtain ⟨B, d, rfl⟩ := tms_slice h2
    have hl' : (((xs.length : Nat) : Int) != ((ys.length : Nat) : Int)) = true := by simp; omega
    clear hl h1 h2 hne
    go_enter Tryz.func47, Tryz.ntmps47
    go_wp2_with fail
    go_ret
    exact ⟨rfl, Grew.refl _⟩


theorem enc_pre2 {p : Tn → Prop} : ∀ t : Tm, Tr.wf p t → ∀ u : Tm, Tr.wf p u → ∀ r s, Tr.enc t ++ r = Tr.enc u ++ s → t = u ∧ r = s := by
  intro t
  induction t with
  | t0 x =>
    intro ht u hu r s h
    cases u with
    | t0 y => simp [Tr.enc] at h; exact ⟨by rw [h.1], h.2⟩
    | t1 y a => simp [Tr.enc] at h; have h1 := ht.1; rw [h.1, hu.1.1] at h1; cases h1
    | t2 y a b => simp [Tr.enc] at h; have h1 := ht.1; rw [h.1, hu.1.1] at h1; cases h1
    | t3 y a b c => simp [Tr.enc] at h; have h1 := ht.1; rw [h.1, hu.1.1] at h1; cases h1
  | t1 x a iha =>
    intro ht u hu r s h
    cases u with
    | t0 y => simp [Tr.enc] at h; have h1 := ht.1.1; rw [h.1, hu.1] at h1; cases h1
    | t1 y b =>
      simp only [Tr.enc, List.cons_append, List.cons.injEq] at h
      obtain ⟨e, h⟩ := iha ht.2 b hu.2 r s h.2
      exact ⟨by rw [e]; simp_all, h⟩
    | t2 y b c => simp [Tr.enc] at h; have h1 := ht.1.1; rw [h.1, hu.1.1] at h1; cases h1
    | t3 y b c d => simp [Tr.enc] at h; have h1 := ht.1.1; rw [h.1, hu.1.1] at h1; cases h1
  | t2 x a b iha ihb =>
    intro ht u hu r s h
    cases u with
    | t0 y => simp [Tr.enc] at h; have h1 := ht.1.1; rw [h.1, hu.1] at h1; cases h1
    | t1 y c => simp [Tr.enc] at h; have h1 := ht.1.1; rw [h.1, hu.1.1] at h1; cases h1
    | t2 y c d =>
      simp only [Tr.enc, List.cons_append, List.append_assoc, List.cons.injEq] at h
      obtain ⟨hx, h⟩ := h
      obtain ⟨e1, h⟩ := iha ht.2.1 c hu.2.1 _ _ h
      obtain ⟨e2, h⟩ := ihb ht.2.2 d hu.2.2 _ _ h
      exact ⟨by rw [e1, e2, hx], h⟩
    | t3 y c d e => simp [Tr.enc] at h; have h1 := ht.1.1; rw [h.1, hu.1.1] at h1; cases h1
  | t3 x a b c iha ihb ihc =>
    intro ht u hu r s h
    cases u with
    | t0 y => simp [Tr.enc] at h; have h1 := ht.1.1; rw [h.1, hu.1] at h1; cases h1
    | t1 y d => simp [Tr.enc] at h; have h1 := ht.1.1; rw [h.1, hu.1.1] at h1; cases h1
    | t2 y d e => simp [Tr.enc] at h; have h1 := ht.1.1; rw [h.1, hu.1.1] at h1; cases h1
    | t3 y d e f =>
      simp only [Tr.enc, List.cons_append, List.append_assoc, List.cons.injEq] at h
      obtain ⟨hx, h⟩ := h
      obtain ⟨e1, h⟩ := iha ht.2.1 d hu.2.1 _ _ h
      obtain ⟨e2, h⟩ := ihb ht.2.2.1 e hu.2.2.1 _ _ h
      obtain ⟨e3, h⟩ := ihc ht.2.2.2 f hu.2.2.2 _ _ h
      exact ⟨by rw [e1, e2, e3, hx], h⟩
theorem enc_tm {p : Tn → Prop} {t u : Tm} (ht : Tr.wf p t) (hu : Tr.wf p u) (h : Tr.enc t = Tr.enc u) : t = u := (enc_pre2 t ht u hu [] [] (by rw [h])).1
end Go.Proofs.YtdndclfjeajhiaaGreat

/- A row that is written: other rows stay, older worlds have not changed. -/
namespace Go.Proofs.YtdndclfjeajhiaaGreat
open Go.RowKit

theorem own_row {w w' : World} {B : Nat} {e : TypeId} {k n : Nat} {v : Value} {xs : List Value} {row : Option Nat} (h : w.ownsRow B e k v n xs) (hg : w.grownBy w' row) (hne : ∀ g, row = some g → v.ownBlock ≠ some g) : w'.ownsRow B e k v n xs := by
  cases row with
  | none => exact own_grew h ⟨hg.os, hg.tape, hg.output, hg.size, fun i hi => hg.block i hi (by simp)⟩
  | some g => exact own_only h (show Only g w w' from hg) (hne g rfl)
theorem grew_row {W w w' : World} {row : Option Nat} (h : Grew W w) (hg : w.grownBy w' row) (hne : ∀ g, row = some g → W.heap.size ≤ g) : Grew W w' := h.grown hg hne
theorem row_of {w w' : World} {v : Value} (h1 : ∀ g, v.ownBlock = some g → Only g w w') (h2 : v.ownBlock = none → Grew w w') : w.grownBy w' v.ownBlock := by
  cases hv : v.ownBlock with
  | none => exact (h2 hv).by_ _
  | some g => exact h1 g hv
end Go.Proofs.YtdndclfjeajhiaaGreat

/- Slices of int64 in memory, and the laws' own helpers on them. -/
namespace Go.Proofs.YtdndclfjeajhiaaGreat
open Go.RowKit

def it (L : List Int) (i : Nat) : Int := L.getD i 0
def icells (L : List Int) : List Value := L.map (Value.int .i64)
theorem icells_length (L : List Int) : (icells L).length = L.length * 1 := by simp [icells]
theorem icells_one (L : List Int) : ∀ u ∈ icells L, u.oneCell' = true := by
  intro u hu
  simp only [icells, List.mem_map] at hu
  obtain ⟨s, _, rfl⟩ := hu
  rfl
theorem icells_at {L : List Int} {i : Nat} (h : i < L.length) : (icells L)[i]? = some (.int .i64 (it L i)) := by simp [icells, it, List.getD, h]
theorem icells_append (K L : List Int) : icells (K ++ L) = icells K ++ icells L := by simp [icells]
theorem it_get {L : List Int} {i : Nat} (h : i < L.length) : L[i] = it L i := by simp [it, List.getD, h]
theorem it_ext {K L : List Int} (hl : K.length = L.length) (h : ∀ i, i < K.length → it K i = it L i) : K = L := by
  apply List.ext_getElem hl
  intro i h1 h2
  rw [it_get h1, it_get h2]
  exact h i h1

/-- v reads as the list. -/
def Ints (w : World) (v : Value) (L : List Int) : Prop := Rd w 1 v L.length (icells L)
/-- v is a row of the call's own. -/
def OwnI (w : World) (B : Nat) (v : Value) (L : List Int) : Prop := w.ownsRow B 2 1 v L.length (icells L)
theorem Ints.grew {w w' : World} {v : Value} {L : List Int} (h : Ints w v L) (hb : Grew w w') : Ints w' v L := Rd.grew h hb
theorem Ints.nil_ (w : World) : Ints w (.slice none 0 0) [] := Rd.nil_ w 1
theorem OwnI.ints {w : World} {B : Nat} {v : Value} {L : List Int} (h : OwnI w B v L) : Ints w v L := Rd.of_own h
theorem OwnI.nil_ (w : World) (B : Nat) : OwnI w B (.slice none 0 0) [] := World.ownsRow_nil w B _ 1
theorem OwnI.grew {w w' : World} {B : Nat} {v : Value} {L : List Int} (h : OwnI w B v L) (hb : Grew w w') : OwnI w' B v L := own_grew h hb
theorem OwnI.base {w : World} {B B' : Nat} {v : Value} {L : List Int} (h : OwnI w B v L) (hb : B' ≤ B) : OwnI w B' v L := own_base h hb
theorem Ints.open_ {w : World} {v : Value} {L : List Int} (h : Ints w v L) :
    (v = .slice none 0 0 ∧ L = []) ∨ ∃ b o c, v = .slice (some ⟨b, o, none⟩) L.length c ∧ L.length ≤ c ∧ c ≤ 9223372036854775807 ∧ b < w.heap.size ∧
      ∀ i, i < L.length → ∀ W, Grew w W → W.cell? ⟨b, o + i, none⟩ = some (.int .i64 (it L i)) := by
  obtain ⟨_, _, h3⟩ := h
  rcases h3 with ⟨h4, h5⟩ | ⟨b, o, c, h4, h5, h6, h7, h8⟩
  · exact .inl ⟨h4, List.eq_nil_of_length_eq_zero h5⟩
  · exact .inr ⟨b, o, c, h4, h5, h6, h7, fun i hi W hW => (hW.cell (p := ⟨b, o + i, none⟩) h7).trans (h8 _ _ (icells_at hi))⟩
theorem ints_slice {w : World} {v : Value} {L : List Int} (h : Ints w v L) : ∃ A c, v = .slice A L.length c := by
  rcases h.open_ with ⟨rfl, rfl⟩ | ⟨b, o, c, rfl, _⟩
  · exact ⟨_, _, rfl⟩
  · exact ⟨_, _, rfl⟩
theorem OwnI.mk_ {w : World} {B : Nat} {L : List Int} {g c : Nat} {cur : Array Value} (hB : B ≤ g) (hg : w.heap[g]? = some (.cells cur 2 (0, 0))) (hnc : L.length ≤ c) (hcm : c ≤ 9223372036854775807) (hcs : cur.size = c)
    (hc : ∀ i, i < L.length → cur[i]? = some (.int .i64 (it L i))) : OwnI w B (.slice (some ⟨g, 0, none⟩) L.length c) L := by
  refine ⟨icells_length L, .inr ⟨g, c, cur, rfl, hB, hg, hnc, hcm, by omega, ?_⟩⟩
  apply List.ext_getElem?
  intro j
  rw [List.getElem?_take]
  by_cases hj : j < L.length
  · rw [if_pos (by omega), icells_at hj]
    simpa using hc j hj
  · rw [if_neg (by omega), List.getElem?_eq_none (by rw [icells_length]; omega)]
theorem Tryz.infoI : (Tryz.prog.info? 2).map (fun i => (i.zero, i.size, i.bytes)) = some (some (.int .i64 0), 1, 8) := by kernel_rfl
/-- The call returns a new list of numbers. -/
def GivesI (w : World) (L : List Int) (e : Ending) (w' : World) : Prop := ∃ v, e = .returned v ∧ OwnI w' w.heap.size v L ∧ Grew w w'

theorem one_stepI {cur : Array Value} {F : Nat → Value} {j : Nat} (hs : j < cur.size) (h : ∀ i, i < j → cur[i]? = some (F i)) :
    ∀ i, i < j + 1 → (cur.setIfInBounds j (F j))[i]? = some (F i) := by
  intro i hi
  simp only [Array.getElem?_setIfInBounds]
  rcases Nat.lt_or_ge i j with hk | hk
  · rw [if_neg (by omega)]
    exact h i hk
  · obtain rfl : i = j := by omega
    rw [if_pos rfl, if_pos hs]
end Go.Proofs.YtdndclfjeajhiaaGreat

/- Lambda terms with pairs and choices, by indices: substitution, parallel contraction, confluence. No program is in sight. -/
namespace Go.Proofs.YtdndclfjeajhiaaGreat

inductive Ku where
  | fst
  | snd
  | inl
  | inr
  | abt
inductive Kp where
  | app
  | pair
inductive Lm where
  | v (i : Nat)
  | l (A : ByteArray) (a : Lm)
  | u (k : Ku) (A : ByteArray) (a : Lm)
  | p (k : Kp) (a b : Lm)
  | c (a b d : Lm)
namespace Lm
def upr (f : Nat → Nat) : Nat → Nat
  | 0 => 0
  | i + 1 => f i + 1
def ren : (Nat → Nat) → Lm → Lm
  | f, .v i => .v (f i)
  | f, .l A a => .l A (ren (upr f) a)
  | f, .u k A a => .u k A (ren f a)
  | f, .p k a b => .p k (ren f a) (ren f b)
  | f, .c a b d => .c (ren f a) (ren (upr f) b) (ren (upr f) d)
def ups (s : Nat → Lm) : Nat → Lm
  | 0 => .v 0
  | i + 1 => ren Nat.succ (s i)
def sub : (Nat → Lm) → Lm → Lm
  | s, .v i => s i
  | s, .l A a => .l A (sub (ups s) a)
  | s, .u k A a => .u k A (sub s a)
  | s, .p k a b => .p k (sub s a) (sub s b)
  | s, .c a b d => .c (sub s a) (sub (ups s) b) (sub (ups s) d)
def inst (x : Lm) : Nat → Lm
  | 0 => x
  | i + 1 => .v i
theorem upr_comp (g f : Nat → Nat) : (fun i => upr g (upr f i)) = upr (fun i => g (f i)) := by
  funext i; cases i <;> rfl
theorem ren_ren : ∀ (t : Lm) (g f : Nat → Nat), ren g (ren f t) = ren (fun i => g (f i)) t := by
  intro t
  induction t with
  | v i => intro g f; rfl
  | l A a ha => intro g f; simp only [ren, ha, upr_comp]
  | u k A a ha => intro g f; simp only [ren, ha]
  | p k a b ha hb => intro g f; simp only [ren, ha, hb]
  | c a b d ha hb hd => intro g f; simp only [ren, ha, hb, hd, upr_comp]
theorem ups_upr (s : Nat → Lm) (f : Nat → Nat) : (fun i => ups s (upr f i)) = ups (fun i => s (f i)) := by
  funext i; cases i <;> rfl
theorem sub_ren : ∀ (t : Lm) (s : Nat → Lm) (f : Nat → Nat), sub s (ren f t) = sub (fun i => s (f i)) t := by
  intro t
  induction t with
  | v i => intro s f; rfl
  | l A a ha => intro s f; simp only [ren, sub, ha, ups_upr]
  | u k A a ha => intro s f; simp only [ren, sub, ha]
  | p k a b ha hb => intro s f; simp only [ren, sub, ha, hb]
  | c a b d ha hb hd => intro s f; simp only [ren, sub, ha, hb, hd, ups_upr]
theorem upr_ups (f : Nat → Nat) (s : Nat → Lm) : (fun i => ren (upr f) (ups s i)) = ups (fun i => ren f (s i)) := by
  funext i
  cases i with
  | zero => rfl
  | succ i =>
    show ren (upr f) (ren Nat.succ (s i)) = ren Nat.succ (ren f (s i))
    rw [ren_ren, ren_ren]; rfl
theorem ren_sub : ∀ (t : Lm) (f : Nat → Nat) (s : Nat → Lm), ren f (sub s t) = sub (fun i => ren f (s i)) t := by
  intro t
  induction t with
  | v i => intro f s; rfl
  | l A a ha => intro f s; simp only [ren, sub, ha, upr_ups]
  | u k A a ha => intro f s; simp only [ren, sub, ha]
  | p k a b ha hb => intro f s; simp only [ren, sub, ha, hb]
  | c a b d ha hb hd => intro f s; simp only [ren, sub, ha, hb, hd, upr_ups]
theorem ups_ups (r s : Nat → Lm) : (fun i => sub (ups r) (ups s i)) = ups (fun i => sub r (s i)) := by
  funext i
  cases i with
  | zero => rfl
  | succ i =>
    show sub (ups r) (ren Nat.succ (s i)) = ren Nat.succ (sub r (s i))
    rw [sub_ren, ren_sub]; rfl
theorem sub_sub : ∀ (t : Lm) (r s : Nat → Lm), sub r (sub s t) = sub (fun i => sub r (s i)) t := by
  intro t
  induction t with
  | v i => intro r s; rfl
  | l A a ha => intro r s; simp only [sub, ha, ups_ups]
  | u k A a ha => intro r s; simp only [sub, ha]
  | p k a b ha hb => intro r s; simp only [sub, ha, hb]
  | c a b d ha hb hd => intro r s; simp only [sub, ha, hb, hd, ups_ups]
theorem ups_v : ups Lm.v = Lm.v := by funext i; cases i <;> rfl
theorem sub_v : ∀ t : Lm, sub .v t = t := by
  intro t
  induction t with
  | v i => rfl
  | l A a ha => simp only [sub, ups_v, ha]
  | u k A a ha => simp only [sub, ha]
  | p k a b ha hb => simp only [sub, ha, hb]
  | c a b d ha hb hd => simp only [sub, ups_v, ha, hb, hd]
/-- A substitution into a contracted redex. -/
theorem sub_inst (s : Nat → Lm) (b x : Lm) : sub s (sub (inst x) b) = sub (inst (sub s x)) (sub (ups s) b) := by
  rw [sub_sub, sub_sub]
  congr 1
  funext i
  cases i with
  | zero => rfl
  | succ i =>
    show s i = sub (inst (sub s x)) (ren Nat.succ (s i))
    rw [sub_ren]
    exact (sub_v (s i)).symm
theorem ren_inst (f : Nat → Nat) (b x : Lm) : ren f (sub (inst x) b) = sub (inst (ren f x)) (ren (upr f) b) := by
  rw [ren_sub, sub_ren]
  congr 1
  funext i
  cases i <;> rfl

/-- Some redexes contracted at once. -/
inductive Par : Lm → Lm → Prop where
  | v (i : Nat) : Par (.v i) (.v i)
  | l {A a a'} : Par a a' → Par (.l A a) (.l A a')
  | u {k A a a'} : Par a a' → Par (.u k A a) (.u k A a')
  | p {k a a' b b'} : Par a a' → Par b b' → Par (.p k a b) (.p k a' b')
  | c {a a' b b' d d'} : Par a a' → Par b b' → Par d d' → Par (.c a b d) (.c a' b' d')
  | beta {A b b' x x'} : Par b b' → Par x x' → Par (.p .app (.l A b) x) (sub (inst x') b')
  | fst {A a a' b} : Par a a' → Par (.u .fst A (.p .pair a b)) a'
  | snd {A a b b'} : Par b b' → Par (.u .snd A (.p .pair a b)) b'
  | inl {A s s' a a' d} : Par s s' → Par a a' → Par (.c (.u .inl A s) a d) (sub (inst s') a')
  | inr {A s s' a d d'} : Par s s' → Par d d' → Par (.c (.u .inr A s) a d) (sub (inst s') d')
theorem Par.refl : ∀ t : Lm, Par t t
  | .v i => .v i
  | .l _ a => .l (Par.refl a)
  | .u _ _ a => .u (Par.refl a)
  | .p _ a b => .p (Par.refl a) (Par.refl b)
  | .c a b d => .c (Par.refl a) (Par.refl b) (Par.refl d)
theorem Par.ren {t t' : Lm} (h : Par t t') : ∀ f, Par (Lm.ren f t) (Lm.ren f t') := by
  induction h with
  | v i => intro f; exact .v _
  | l _ ih => intro f; exact .l (ih _)
  | u _ ih => intro f; exact .u (ih _)
  | p _ _ ih1 ih2 => intro f; exact .p (ih1 _) (ih2 _)
  | c _ _ _ ih1 ih2 ih3 => intro f; exact .c (ih1 _) (ih2 _) (ih3 _)
  | beta _ _ ih1 ih2 => intro f; rw [ren_inst]; exact .beta (ih1 _) (ih2 _)
  | fst _ ih => intro f; exact .fst (ih _)
  | snd _ ih => intro f; exact .snd (ih _)
  | inl _ _ ih1 ih2 => intro f; rw [ren_inst]; exact .inl (ih1 _) (ih2 _)
  | inr _ _ ih1 ih2 => intro f; rw [ren_inst]; exact .inr (ih1 _) (ih2 _)
theorem Par.ups {s s' : Nat → Lm} (h : ∀ i, Par (s i) (s' i)) : ∀ i, Par (Lm.ups s i) (Lm.ups s' i)
  | 0 => .v 0
  | i + 1 => (h i).ren _
theorem Par.sub {t t' : Lm} (h : Par t t') : ∀ {s s' : Nat → Lm}, (∀ i, Par (s i) (s' i)) → Par (Lm.sub s t) (Lm.sub s' t') := by
  induction h with
  | v i => intro s s' hs; exact hs i
  | l _ ih => intro s s' hs; exact .l (ih (Par.ups hs))
  | u _ ih => intro s s' hs; exact .u (ih hs)
  | p _ _ ih1 ih2 => intro s s' hs; exact .p (ih1 hs) (ih2 hs)
  | c _ _ _ ih1 ih2 ih3 => intro s s' hs; exact .c (ih1 hs) (ih2 (Par.ups hs)) (ih3 (Par.ups hs))
  | beta _ _ ih1 ih2 => intro s s' hs; rw [sub_inst]; exact .beta (ih1 (Par.ups hs)) (ih2 hs)
  | fst _ ih => intro s s' hs; exact .fst (ih hs)
  | snd _ ih => intro s s' hs; exact .snd (ih hs)
  | inl _ _ ih1 ih2 => intro s s' hs; rw [sub_inst]; exact .inl (ih1 hs) (ih2 (Par.ups hs))
  | inr _ _ ih1 ih2 => intro s s' hs; rw [sub_inst]; exact .inr (ih1 hs) (ih2 (Par.ups hs))
theorem Par.inst {b b' x x' : Lm} (hb : Par b b') (hx : Par x x') : Par (Lm.sub (Lm.inst x) b) (Lm.sub (Lm.inst x') b') :=
  hb.sub fun i => by cases i with
    | zero => exact hx
    | succ i => exact .v i

/-- All redexes contracted at once. -/
def dev : Lm → Lm
  | .v i => .v i
  | .l A a => .l A (dev a)
  | .u .fst _ (.p .pair a _) => dev a
  | .u .snd _ (.p .pair _ b) => dev b
  | .u k A a => .u k A (dev a)
  | .p .app (.l _ b) x => sub (inst (dev x)) (dev b)
  | .p k a b => .p k (dev a) (dev b)
  | .c (.u .inl _ s) a _ => sub (inst (dev s)) (dev a)
  | .c (.u .inr _ s) _ d => sub (inst (dev s)) (dev d)
  | .c a b d => .c (dev a) (dev b) (dev d)
theorem Par.dev {t t' : Lm} (h : Par t t') : Par t' (Lm.dev t) := by
  induction h with
  | v i => exact .v i
  | l _ ih => exact .l ih
  | @u k A a a' h ih =>
    cases k with
    | fst =>
      cases h with
      | @p k x x' y y' h1 h2 =>
        cases k with
        | pair =>
          cases ih with
          | p j1 j2 => exact .fst j1
        | app => exact .u ih
      | v i => exact .u ih
      | l h => exact .u ih
      | u h => exact .u ih
      | c h1 h2 h3 => exact .u ih
      | beta h1 h2 => exact .u ih
      | fst h => exact .u ih
      | snd h => exact .u ih
      | inl h1 h2 => exact .u ih
      | inr h1 h2 => exact .u ih
    | snd =>
      cases h with
      | @p k x x' y y' h1 h2 =>
        cases k with
        | pair =>
          cases ih with
          | p j1 j2 => exact .snd j2
        | app => exact .u ih
      | v i => exact .u ih
      | l h => exact .u ih
      | u h => exact .u ih
      | c h1 h2 h3 => exact .u ih
      | beta h1 h2 => exact .u ih
      | fst h => exact .u ih
      | snd h => exact .u ih
      | inl h1 h2 => exact .u ih
      | inr h1 h2 => exact .u ih
    | inl => exact .u ih
    | inr => exact .u ih
    | abt => exact .u ih
  | @p k a a' b b' h1 h2 ih1 ih2 =>
    cases k with
    | pair => exact .p ih1 ih2
    | app =>
      cases h1 with
      | l h =>
        cases ih1 with
        | l j => exact .beta j ih2
      | v i => exact .p ih1 ih2
      | u h => exact .p ih1 ih2
      | p h h' => exact .p ih1 ih2
      | c h h' h'' => exact .p ih1 ih2
      | beta h h' => exact .p ih1 ih2
      | fst h => exact .p ih1 ih2
      | snd h => exact .p ih1 ih2
      | inl h h' => exact .p ih1 ih2
      | inr h h' => exact .p ih1 ih2
  | @c a a' b b' d d' h1 h2 h3 ih1 ih2 ih3 =>
    cases h1 with
    | @u k A s s' h =>
      cases k with
      | inl =>
        cases ih1 with
        | u j => exact .inl j ih2
      | inr =>
        cases ih1 with
        | u j => exact .inr j ih3
      | fst => exact .c ih1 ih2 ih3
      | snd => exact .c ih1 ih2 ih3
      | abt => exact .c ih1 ih2 ih3
    | v i => exact .c ih1 ih2 ih3
    | l h => exact .c ih1 ih2 ih3
    | p h h' => exact .c ih1 ih2 ih3
    | c h h' h'' => exact .c ih1 ih2 ih3
    | beta h h' => exact .c ih1 ih2 ih3
    | fst h => exact .c ih1 ih2 ih3
    | snd h => exact .c ih1 ih2 ih3
    | inl h h' => exact .c ih1 ih2 ih3
    | inr h h' => exact .c ih1 ih2 ih3
  | beta _ _ ih1 ih2 => exact ih1.inst ih2
  | fst _ ih => exact ih
  | snd _ ih => exact ih
  | inl _ _ ih1 ih2 => exact ih2.inst ih1
  | inr _ _ ih1 ih2 => exact ih2.inst ih1

/-- Some steps. -/
inductive Ps : Lm → Lm → Prop where
  | refl (t) : Ps t t
  | step {a b c} : Par a b → Ps b c → Ps a c
theorem Ps.trans {a b c : Lm} (h : Ps a b) (k : Ps b c) : Ps a c := by
  induction h with
  | refl => exact k
  | step h1 _ ih => exact .step h1 (ih k)
theorem Ps.one {a b : Lm} (h : Par a b) : Ps a b := .step h (.refl _)
theorem strip {a b c : Lm} (h : Par a b) (k : Ps a c) : ∃ d, Ps b d ∧ Par c d := by
  induction k generalizing b with
  | refl => exact ⟨b, .refl _, h⟩
  | step h1 _ ih =>
    obtain ⟨d, h2, h3⟩ := ih h1.dev
    exact ⟨d, .step h.dev h2, h3⟩
theorem confl {a b c : Lm} (h : Ps a b) (k : Ps a c) : ∃ d, Ps b d ∧ Ps c d := by
  induction h generalizing c with
  | refl => exact ⟨c, k, .refl _⟩
  | step h1 _ ih =>
    obtain ⟨d, h2, h3⟩ := strip h1 k
    obtain ⟨e, h4, h5⟩ := ih h2
    exact ⟨e, h4, .step h3 h5⟩
/-- Nothing to contract. -/
def nf : Lm → Prop
  | .v _ => True
  | .l _ a => nf a
  | .u k _ a => nf a ∧ (match k, a with
    | .fst, .p .pair _ _ => False
    | .snd, .p .pair _ _ => False
    | _, _ => True)
  | .p k a b => nf a ∧ nf b ∧ (match k, a with
    | .app, .l _ _ => False
    | _, _ => True)
  | .c a b d => nf a ∧ nf b ∧ nf d ∧ (match a with
    | .u .inl _ _ => False
    | .u .inr _ _ => False
    | _ => True)
theorem nf_par {t t' : Lm} (h : Par t t') : nf t → t' = t := by
  induction h with
  | v i => intro _; rfl
  | l _ ih => intro h; rw [ih h]
  | u _ ih => intro h; rw [ih h.1]
  | p _ _ ih1 ih2 => intro h; rw [ih1 h.1, ih2 h.2.1]
  | c _ _ _ ih1 ih2 ih3 => intro h; rw [ih1 h.1, ih2 h.2.1, ih3 h.2.2.1]
  | beta _ _ _ _ => intro h; exact h.2.2.elim
  | fst _ _ => intro h; exact h.2.elim
  | snd _ _ => intro h; exact h.2.elim
  | inl _ _ _ _ => intro h; exact h.2.2.2.elim
  | inr _ _ _ _ => intro h; exact h.2.2.2.elim
theorem nf_ps {t t' : Lm} (h : Ps t t') : nf t → t' = t := by
  induction h with
  | refl => intro _; rfl
  | step h1 _ ih =>
    intro hn
    have e := nf_par h1 hn
    subst e
    exact ih hn
/-- Normal terms of one term are one. -/
theorem nf_one {t a b : Lm} (h : Ps t a) (k : Ps t b) (ha : nf a) (hb : nf b) : a = b := by
  obtain ⟨d, h1, h2⟩ := confl h k
  rw [← nf_ps h1 ha, nf_ps h2 hb]
end Lm
end Go.Proofs.YtdndclfjeajhiaaGreat

/- The parts of a term, and what holds of all its numbers. No program is in sight. -/
namespace Go.Proofs.YtdndclfjeajhiaaGreat
open Go.RowKit
namespace Tr

def kids : Tm → List Tm
  | .t0 _ => []
  | .t1 _ a => [a]
  | .t2 _ a b => [a, b]
  | .t3 _ a b c => [a, b, c]
theorem enc_kids (t : Tm) : enc t = hd t :: (kids t).flatMap enc := by cases t <;> simp [enc, kids, hd]
theorem kids_len {p : Tn → Prop} {t : Tm} (h : wf p t) : (kids t).length = ar (hd t).1 := by
  cases t <;> simp only [wf] at h
  · simp [kids, hd, h.1]
  · simp [kids, hd, h.1.1]
  · simp [kids, hd, h.1.1]
  · simp [kids, hd, h.1.1]
theorem kids_wf {p : Tn → Prop} {t : Tm} (h : wf p t) : ∀ s ∈ kids t, wf p s := by
  cases t <;> simp only [wf] at h <;> intro s hs <;> simp [kids] at hs
  · subst hs; exact h.2
  · rcases hs with rfl | rfl
    · exact h.2.1
    · exact h.2.2
  · rcases hs with rfl | rfl | rfl
    · exact h.2.1
    · exact h.2.2.1
    · exact h.2.2.2
theorem hd_wf {p : Tn → Prop} {t : Tm} (h : wf p t) : p (hd t) := by
  cases t <;> simp only [wf] at h
  · exact h.2
  · exact h.1.2
  · exact h.1.2
  · exact h.1.2
/-- Induction along the parts. -/
theorem ind {P : Tm → Prop} (h : ∀ t, (∀ s ∈ kids t, P s) → P t) : ∀ t, P t := by
  intro t
  induction t with
  | t0 x => exact h _ (fun s hs => by simp [kids] at hs)
  | t1 x a ha => exact h _ (fun s hs => by simp [kids] at hs; subst hs; exact ha)
  | t2 x a b ha hb => exact h _ (fun s hs => by simp [kids] at hs; rcases hs with rfl | rfl <;> assumption)
  | t3 x a b c ha hb hc => exact h _ (fun s hs => by simp [kids] at hs; rcases hs with rfl | rfl | rfl <;> assumption)

/-- Where part i begins. -/
def off (t : Tm) (i : Nat) : Nat := 1 + (((kids t).take i).flatMap enc).length
theorem off_zero (t : Tm) : off t 0 = 1 := by simp [off]
theorem off_succ {t : Tm} {i : Nat} (h : i < (kids t).length) : off t (i + 1) = off t i + (enc (kids t)[i]).length := by
  unfold off
  rw [List.take_succ_eq_append_getElem h, List.flatMap_append, List.length_append]
  simp
  omega
theorem drop_off (t : Tm) (i : Nat) : (enc t).drop (off t i) = ((kids t).drop i).flatMap enc := by
  rw [enc_kids, off, Nat.add_comm, List.drop_succ_cons]
  have h : (kids t).flatMap enc = ((kids t).take i).flatMap enc ++ ((kids t).drop i).flatMap enc := by
    rw [← List.flatMap_append, List.take_append_drop]
  rw [h, List.drop_left']
  rfl
theorem drop_part {t : Tm} {i : Nat} (h : i < (kids t).length) : (enc t).drop (off t i) = enc (kids t)[i] ++ ((kids t).drop (i + 1)).flatMap enc := by
  rw [drop_off, List.drop_eq_getElem_cons h, List.flatMap_cons]
theorem off_le {t : Tm} {i : Nat} (h : i < (kids t).length) : off t i + (enc (kids t)[i]).length ≤ (enc t).length := by
  have h1 := congrArg List.length (drop_part h)
  simp only [List.length_drop, List.length_append] at h1
  have := enc_pos (kids t)[i]
  omega
theorem pend_part_at {p : Tn → Prop} {t : Tm} {i : Nat} (hw : wf p t) (h : i < (kids t).length) : pend (enc t) (off t i) 1 = ((off t i + (enc (kids t)[i]).length : Nat) : Int) := by
  unfold pend
  rw [drop_part h, scan_one (kids_wf hw _ (List.getElem_mem h))]
  simp [pval]
theorem take_part {t : Tm} {i : Nat} (h : i < (kids t).length) : ((enc t).drop (off t i)).take (enc (kids t)[i]).length = enc (kids t)[i] := by
  rw [drop_part h, List.take_left']; rfl
theorem kid_lt {t : Tm} {i : Nat} (h : i < (kids t).length) : (enc (kids t)[i]).length < (enc t).length := by
  have h1 := off_le h
  have : 1 ≤ off t i := by unfold off; omega
  omega

/-- Part i. -/
def kid (t : Tm) (i : Nat) : Tm := (kids t).getD i (.t0 (0, 0, ByteArray.empty))
theorem kid_eq {t : Tm} {i : Nat} (h : i < (kids t).length) : (kids t)[i] = kid t i := by simp [kid, List.getD, h]
theorem kid_mem {t : Tm} {i : Nat} (h : i < (kids t).length) : kid t i ∈ kids t := by rw [← kid_eq h]; exact List.getElem_mem h
theorem off_next {t : Tm} {i : Nat} (h : i < (kids t).length) : off t (i + 1) = off t i + (enc (kid t i)).length := by rw [off_succ h, kid_eq h]
theorem off_end {t : Tm} {i : Nat} (h : i < (kids t).length) : off t i + (enc (kid t i)).length ≤ (enc t).length := by rw [← kid_eq h]; exact off_le h
theorem pend_kid {p : Tn → Prop} {t : Tm} {i : Nat} (hw : wf p t) (h : i < (kids t).length) : pend (enc t) (off t i) 1 = ((off t i + (enc (kid t i)).length : Nat) : Int) := by rw [← kid_eq h]; exact pend_part_at hw h
theorem take_kid {t : Tm} {i : Nat} (h : i < (kids t).length) : ((enc t).drop (off t i)).take (enc (kid t i)).length = enc (kid t i) := by rw [← kid_eq h]; exact take_part h
theorem kid_small {t : Tm} {i : Nat} (h : i < (kids t).length) : (enc (kid t i)).length < (enc t).length := by rw [← kid_eq h]; exact kid_lt h

/-- How many more variables a part is read with. -/
def bd (k : Int) (i : Nat) : Int := if k = 1 ∨ (k = 8 ∧ 0 < i) then 1 else 0
/-- Does p hold of all numbers and what each is read with? -/
def evN (p : Int → Int → Bool) : Tm → Int → Bool
  | .t0 x, n => p x.2.1 n
  | .t1 x a, n => evN p a (n + bd x.1 0)
  | .t2 x a b, n => evN p a (n + bd x.1 0) && evN p b (n + bd x.1 1)
  | .t3 x a b c, n => evN p a (n + bd x.1 0) && (evN p b (n + bd x.1 1) && evN p c (n + bd x.1 2))
def evL (p : Int → Int → Bool) (k : Int) : List Tm → Nat → Int → Bool
  | [], _, _ => true
  | s :: ts, i, n => evN p s (n + bd k i) && evL p k ts (i + 1) n
theorem evN_kids {p : Int → Int → Bool} {t : Tm} {n : Int} (h : kids t ≠ []) : evN p t n = evL p (hd t).1 (kids t) 0 n := by
  cases t with
  | t0 x => exact absurd rfl h
  | t1 x a => simp [evN, evL, kids, hd]
  | t2 x a b => simp [evN, evL, kids, hd]
  | t3 x a b c => simp [evN, evL, kids, hd]
theorem evN_leaf {p : Int → Int → Bool} {t : Tm} {n : Int} (h : kids t = []) : evN p t n = p (hd t).2.1 n := by
  cases t with
  | t0 x => rfl
  | t1 x a => cases h
  | t2 x a b => cases h
  | t3 x a b c => cases h
theorem evL_step {p : Int → Int → Bool} {k : Int} {ts : List Tm} {i : Nat} {n : Int} (h : i < ts.length) : evL p k (ts.drop i) i n = (evN p (ts[i]'h) (n + bd k i) && evL p k (ts.drop (i + 1)) (i + 1) n) := by
  rw [List.drop_eq_getElem_cons h, evL]
theorem evL_kid {p : Int → Int → Bool} {k : Int} {t : Tm} {i : Nat} {n : Int} (h : i < (kids t).length) : evL p k ((kids t).drop i) i n = (evN p (kid t i) (n + bd k i) && evL p k ((kids t).drop (i + 1)) (i + 1) n) := by rw [evL_step h, kid_eq h]
theorem evL_end {p : Int → Int → Bool} {k : Int} {ts : List Tm} {i : Nat} {n : Int} (h : ts.length ≤ i) : evL p k (ts.drop i) i n = true := by
  rw [List.drop_eq_nil_of_le h, evL]
end Tr
end Go.Proofs.YtdndclfjeajhiaaGreat

/- make of rows of elements of several cells; the blocks of three allocations. -/
namespace Go.Proofs.YtdndclfjeajhiaaGreat
open Go.RowKit

theorem run_make_rows {P : Program} (t e : TypeId) (z : Value) (size bytes : Nat) (zs : Array Value) (ht : P.underlying t = some (.slice e)) (hinfo : (P.info? e).map (fun i => (i.zero, i.size, i.bytes)) = some (some z, size, bytes)) (hzs : z.cells = zs)
    (kl kc : IntKind) (n : Nat) (hbytes : bytes * n ≤ 281474976710656) (h63 : n ≤ 9223372036854775807) (w : World) :
    (Instr.makeSlice t (.int kl (n : Int)) (.int kc (n : Int))).run P w = .ok (.slice (some ⟨w.heap.size, 0, none⟩) n n) (w.alloc (.cells (madeCells zs (n * size)) e)) := by
  obtain ⟨i, hi, hz, hs, hb⟩ := info_parts hinfo
  have hb' : (i.bytes : Int) * (n : Int) ≤ 281474976710656 := by
    rw [hb]
    have h : ((bytes * n : Nat) : Int) ≤ 281474976710656 := by omega
    rwa [Int.natCast_mul] at h
  have hr := run_make (P := P) w t e i z ht hi hz kl kc n n (by omega) (Int.le_refl _) hb' (by omega)
  simp only [Int.toNat_natCast, hs, hzs] at hr
  exact hr

theorem blk3_mid (w : World) (a b c : Obj) : (((w.alloc a).alloc b).alloc c).heap[w.heap.size + 1]? = some b := by
  have h := blk_new (w.alloc a) b
  have e : (w.alloc a).heap.size = w.heap.size + 1 := by simp
  rw [e] at h
  have h2 := ((Grew.refl ((w.alloc a).alloc b)).alloc c).block (k := w.heap.size + 1) (by simp)
  rw [h2, h]
end Go.Proofs.YtdndclfjeajhiaaGreat

/- The laws' own helpers on slices of the nodes of terms: szTermNodeS, toTermNodeS, eqTermNodeS. -/
namespace Go.Proofs.YtdndclfjeajhiaaGreat
open Go.RowKit

/-- A list of nodes that came in. -/
def ArgT (w : World) (v : Value) (xs : List Tn) : Prop :=
  (∃ A c, v = .slice A xs.length c ∧ xs.length ≤ 9223372036854775807) ∧ (0 < xs.length → Tms w v xs) ∧ ∀ i, i < xs.length → (tt xs i).size ≤ 9223372036854775807
theorem ArgT.grew {w w' : World} {v : Value} {xs : List Tn} (h : ArgT w v xs) (hg : Grew w w') : ArgT w' v xs := ⟨h.1, fun hp => (h.2.1 hp).grew hg, h.2.2⟩

/-- None of the first k types is long. -/
def SmallT (xs : List Tn) (k : Nat) : Prop := ∀ i, i < k → (tt xs i).size ≤ 1048576
theorem SmallT.zero (xs : List Tn) : SmallT xs 0 := fun i hi => absurd hi (by omega)
theorem SmallT.succ {xs : List Tn} {k : Nat} (h : SmallT xs k) (h1 : (tt xs k).size ≤ 1048576) : SmallT xs (k + 1) := by
  intro i hi
  rcases Nat.lt_or_ge i k with hk | hk
  · exact h i hk
  · obtain rfl : i = k := by omega
    exact h1
/-- What the sizes' walk gives. -/
def SizesT (xs : List Tn) (r : Int) : Prop := r ≤ 1048576 ∧ (0 ≤ r → xs.length ≤ 1048576 ∧ SmallT xs xs.length)

theorem trip_step {cur : Array Value} {F G H : Nat → Value} {j : Nat} (hs : j * 3 + 2 < cur.size) (h : ∀ i, i < j → cur[i * 3]? = some (F i) ∧ cur[i * 3 + 1]? = some (G i) ∧ cur[i * 3 + 2]? = some (H i)) :
    ∀ i, i < j + 1 → (((cur.setIfInBounds (j * 3) (F j)).setIfInBounds (j * 3 + 1) (G j)).setIfInBounds (j * 3 + 2) (H j))[i * 3]? = some (F i) ∧ (((cur.setIfInBounds (j * 3) (F j)).setIfInBounds (j * 3 + 1) (G j)).setIfInBounds (j * 3 + 2) (H j))[i * 3 + 1]? = some (G i) ∧ (((cur.setIfInBounds (j * 3) (F j)).setIfInBounds (j * 3 + 1) (G j)).setIfInBounds (j * 3 + 2) (H j))[i * 3 + 2]? = some (H i) := by
  intro i hi
  simp only [Array.getElem?_setIfInBounds, Array.size_setIfInBounds]
  rcases Nat.lt_or_ge i j with hk | hk
  · rw [if_neg (by omega), if_neg (by omega), if_neg (by omega), if_neg (by omega), if_neg (by omega), if_neg (by omega), if_neg (by omega), if_neg (by omega), if_neg (by omega)]
    exact h i hk
  · obtain rfl : i = j := by omega
    rw [if_neg (by omega), if_neg (by omega), if_pos rfl, if_pos (by omega), if_neg (by omega), if_pos rfl, if_pos (by omega), if_pos rfl, if_pos (by omega)]
    exact ⟨rfl, rfl, rfl⟩

/-- A new row of nodes. -/
def GivesT (w : World) (xs : List Tn) (e : Ending) (w' : World) : Prop := ∃ v, e = .returned v ∧ OwnT w' w.heap.size v xs ∧ Grew w w'

end Go.Proofs.YtdndclfjeajhiaaGreat

/- A number between two bounds. -/
namespace Go.Proofs.YtdndclfjeajhiaaGreat
open Go.RowKit

theorem l01In_c (k lo hi : Int) (w : World) : Calls Tryz.prog 40 #[.int .i64 k, .int .i64 lo, .int .i64 hi] w fun e w' => e = .returned (.bool (decide (lo ≤ k ∧ k ≤ hi))) ∧ Grew w w' := by
  by_cases h : lo ≤ k
  · have hd : decide (lo ≤ k ∧ k ≤ hi) = decide (k ≤ hi) := by simp [h]
    rw [hd]
    go_enter Tryz.func40, Tryz.ntmps40
    go_wp2_with fail
    go_ret
    exact ⟨rfl, Grew.refl _⟩
  · have hd : decide (lo ≤ k ∧ k ≤ hi) = false := by simp [h]
    rw [hd]
    go_enter Tryz.func40, Tryz.ntmps40
    go_wp2_with fail
    go_ret
    exact ⟨rfl, Grew.refl _⟩

theorem inRange_c (k lo hi : Int) (w : World) : Calls Tryz.prog 34 #[.int .i64 k, .int .i64 lo, .int .i64 hi] w fun e w' => e = .returned (.bool (decide (lo ≤ k ∧ k ≤ hi))) ∧ Grew w w' := by
  by_cases h : lo ≤ k
  · have hd : decide (lo ≤ k ∧ k ≤ hi) = decide (k ≤ hi) := by simp [h]
    rw [hd]
    go_enter Tryz.func34, Tryz.ntmps34
    go_wp2_with fail
    go_ret
    exact ⟨rfl, Grew.refl _⟩
  · have hd : decide (lo ≤ k ∧ k ≤ hi) = false := by simp [h]
    rw [hd]
    go_enter Tryz.func34, Tryz.ntmps34
    go_wp2_with fail
    go_ret
    exact ⟨rfl, Grew.refl _⟩
end Go.Proofs.YtdndclfjeajhiaaGreat

/- What a term is: termParts, termEnd, isTerm of the program; l26Parts, l26End, l26Is of the reference. -/
namespace Go.Proofs.YtdndclfjeajhiaaGreat
open Go.RowKit

theorem kind_cases (k : Int) : (k = 0 ∨ k = 1 ∨ k = 2 ∨ k = 3 ∨ k = 4 ∨ k = 5 ∨ k = 6 ∨ k = 7 ∨ k = 8 ∨ k = 9) ∨ ¬ (0 ≤ k ∧ k ≤ 9) := by omega

theorem termParts_c (k : Int) (w : World) :
    Calls Tryz.prog 87 #[.int .i64 k] w fun e w' => e = .returned (.int .i64 ((Tr.ar k : Int))) ∧ Grew w w' := by
  rcases kind_cases k with h | h
  · rcases h with rfl | rfl | rfl | rfl | rfl | rfl | rfl | rfl | rfl | rfl
    all_goals
      go_enter Tryz.func87, Tryz.ntmps87
      go_wp2_with fail
      go_ret
      exact ⟨rfl, Grew.refl _⟩
  · have ha : ((Tr.ar k : Int)) = (0 : Int) := by unfold Tr.ar; rw [if_neg (by omega), if_neg (by omega), if_neg (by omega)]; rfl
    rw [ha]
    have n0 : (k == 0) = false := by simp; omega
    have n1 : (k == 1) = false := by simp; omega
    have n2 : (k == 2) = false := by simp; omega
    have n3 : (k == 3) = false := by simp; omega
    have n4 : (k == 4) = false := by simp; omega
    have n5 : (k == 5) = false := by simp; omega
    have n6 : (k == 6) = false := by simp; omega
    have n7 : (k == 7) = false := by simp; omega
    have n8 : (k == 8) = false := by simp; omega
    have n9 : (k == 9) = false := by simp; omega
    clear h ha
    go_enter Tryz.func87, Tryz.ntmps87
    go_wp2_with fail
    go_ret
    exact ⟨rfl, Grew.refl _⟩

theorem l26Parts_c (k : Int) (w : World) :
    Calls Tryz.prog 76 #[.int .i64 k] w fun e w' => e = .returned (.int .i64 (if 0 ≤ k ∧ k ≤ 9 then (Tr.ar k : Int) else -1)) ∧ Grew w w' := by
  rcases kind_cases k with h | h
  · rcases h with rfl | rfl | rfl | rfl | rfl | rfl | rfl | rfl | rfl | rfl
    all_goals
      go_enter Tryz.func76, Tryz.ntmps76
      go_wp2_with fail
      go_ret
      exact ⟨rfl, Grew.refl _⟩
  · have ha : (if 0 ≤ k ∧ k ≤ 9 then (Tr.ar k : Int) else -1) = (-1 : Int) := by rw [if_neg h]
    rw [ha]
    have n0 : (k == 0) = false := by simp; omega
    have n1 : (k == 1) = false := by simp; omega
    have n2 : (k == 2) = false := by simp; omega
    have n3 : (k == 3) = false := by simp; omega
    have n4 : (k == 4) = false := by simp; omega
    have n5 : (k == 5) = false := by simp; omega
    have n6 : (k == 6) = false := by simp; omega
    have n7 : (k == 7) = false := by simp; omega
    have n8 : (k == 8) = false := by simp; omega
    have n9 : (k == 9) = false := by simp; omega
    clear h ha
    go_enter Tryz.func76, Tryz.ntmps76
    go_wp2_with fail
    go_ret
    exact ⟨rfl, Grew.refl _⟩

/-- Have the nodes of a kind a type? -/
def typedB (k : Int) : Bool := k == 1 || k == 6 || k == 7 || k == 9

theorem hasType_c (k : Int) (w : World) :
    Calls Tryz.prog 86 #[.int .i64 k] w fun e w' => e = .returned (.bool (typedB k)) ∧ Grew w w' := by
  rcases kind_cases k with h | h
  · rcases h with rfl | rfl | rfl | rfl | rfl | rfl | rfl | rfl | rfl | rfl
    all_goals
      go_enter Tryz.func86, Tryz.ntmps86
      go_wp2_with fail
      go_ret
      exact ⟨rfl, Grew.refl _⟩
  · have ha : typedB k = false := by unfold typedB; simp; omega
    rw [ha]
    have n0 : (k == 0) = false := by simp; omega
    have n1 : (k == 1) = false := by simp; omega
    have n2 : (k == 2) = false := by simp; omega
    have n3 : (k == 3) = false := by simp; omega
    have n4 : (k == 4) = false := by simp; omega
    have n5 : (k == 5) = false := by simp; omega
    have n6 : (k == 6) = false := by simp; omega
    have n7 : (k == 7) = false := by simp; omega
    have n8 : (k == 8) = false := by simp; omega
    have n9 : (k == 9) = false := by simp; omega
    clear h ha
    go_enter Tryz.func86, Tryz.ntmps86
    go_wp2_with fail
    go_ret
    exact ⟨by simp, Grew.refl _⟩

theorem l26Typed_c (k : Int) (w : World) :
    Calls Tryz.prog 97 #[.int .i64 k] w fun e w' => e = .returned (.bool (typedB k)) ∧ Grew w w' := by
  rcases kind_cases k with h | h
  · rcases h with rfl | rfl | rfl | rfl | rfl | rfl | rfl | rfl | rfl | rfl
    all_goals
      go_enter Tryz.func97, Tryz.ntmps97
      go_wp2_with fail
      go_ret
      exact ⟨rfl, Grew.refl _⟩
  · have ha : typedB k = false := by unfold typedB; simp; omega
    rw [ha]
    have n0 : (k == 0) = false := by simp; omega
    have n1 : (k == 1) = false := by simp; omega
    have n2 : (k == 2) = false := by simp; omega
    have n3 : (k == 3) = false := by simp; omega
    have n4 : (k == 4) = false := by simp; omega
    have n5 : (k == 5) = false := by simp; omega
    have n6 : (k == 6) = false := by simp; omega
    have n7 : (k == 7) = false := by simp; omega
    have n8 : (k == 8) = false := by simp; omega
    have n9 : (k == 9) = false := by simp; omega
    clear h ha
    go_enter Tryz.func97, Tryz.ntmps97
    go_wp2_with fail
    go_ret
    exact ⟨by simp, Grew.refl _⟩

/-- Is it a node of a term? -/
noncomputable def tnB (k n : Int) (s : ByteArray) : Bool := if k == 0 then (decide (0 ≤ n ∧ n ≤ 99) && s.toList.isEmpty) else if typedB k then (n == 0 && gp s) else (decide (1 ≤ k ∧ k ≤ 9) && n == 0 && s.toList.isEmpty)

theorem isTermNode_c (k n : Int) (s : ByteArray) (w : World) (hs : s.size ≤ 140737488355328) :
    Calls Tryz.prog 54 #[.agg #[.int .i64 k, .int .i64 n, .string s]] w fun e w' => e = .returned (.bool (tnB k n s)) ∧ Grew w w' := by
  unfold tnB
  cases h0 : (k == 0) with
  | true =>
    rw [if_pos rfl]
    have HR := fun w => inRange_c n 0 99 w
    generalize decide (0 ≤ n ∧ n ≤ 99) = R at *
    cases R with
    | true =>
      replace HR := Lib.hid HR
      go_enter Tryz.func54, Tryz.ntmps54
      go_wp2_with fail
      refine (HR.out _).mono ?_
      rintro e w1 ⟨rfl, hg1⟩
      have k1 : w1.cell? ⟨w.heap.size, 2, none⟩ = some (.string s) := (hg1.cell (by simp)).trans (by simp)
      go_wp2_with fail
      go_ret
      exact ⟨by simp, Grew.of_alloc hg1⟩
    | false =>
      replace HR := Lib.hid HR
      go_enter Tryz.func54, Tryz.ntmps54
      go_wp2_with fail
      refine (HR.out _).mono ?_
      rintro e w1 ⟨rfl, hg1⟩
      go_wp2_with fail
      go_ret
      exact ⟨by simp, Grew.of_alloc hg1⟩
  | false =>
    rw [if_neg (by simp)]
    have HT := fun w => hasType_c k w
    generalize typedB k = T at *
    cases T with
    | true =>
      rw [if_pos rfl]
      replace HT := Lib.hid HT
      have HP := Lib.hid (fun w => isPlainText_c s w hs)
      cases hn : (n == 0) with
      | true =>
        go_enter Tryz.func54, Tryz.ntmps54
        go_wp2_with fail
        refine (HT.out _).mono ?_
        rintro e w1 ⟨rfl, hg1⟩
        have k1 : w1.cell? ⟨w.heap.size, 1, none⟩ = some (.int .i64 n) := (hg1.cell (by simp)).trans (by simp)
        have k2 : w1.cell? ⟨w.heap.size, 2, none⟩ = some (.string s) := (hg1.cell (by simp)).trans (by simp)
        go_wp2_with fail
        refine (HP.out _).mono ?_
        rintro e w2 ⟨rfl, hg2⟩
        go_wp2_with fail
        go_ret
        exact ⟨by simp, Grew.of_alloc (hg1.trans hg2)⟩
      | false =>
        go_enter Tryz.func54, Tryz.ntmps54
        go_wp2_with fail
        refine (HT.out _).mono ?_
        rintro e w1 ⟨rfl, hg1⟩
        have k1 : w1.cell? ⟨w.heap.size, 1, none⟩ = some (.int .i64 n) := (hg1.cell (by simp)).trans (by simp)
        go_wp2_with fail
        go_ret
        exact ⟨by simp, Grew.of_alloc hg1⟩
    | false =>
      rw [if_neg (by simp)]
      replace HT := Lib.hid HT
      have HR := fun w => inRange_c k 1 9 w
      generalize decide (1 ≤ k ∧ k ≤ 9) = R at *
      cases R with
      | true =>
        replace HR := Lib.hid HR
        cases hn : (n == 0) with
        | true =>
          go_enter Tryz.func54, Tryz.ntmps54
          go_wp2_with fail
          refine (HT.out _).mono ?_
          rintro e w1 ⟨rfl, hg1⟩
          have k0 : ∀ W, Grew w1 W → W.cell? ⟨w.heap.size, 0, none⟩ = some (.int .i64 k) := fun W hW => ((hg1.trans hW).cell (by simp)).trans (by simp)
          have k1 : ∀ W, Grew w1 W → W.cell? ⟨w.heap.size, 1, none⟩ = some (.int .i64 n) := fun W hW => ((hg1.trans hW).cell (by simp)).trans (by simp)
          have k2 : ∀ W, Grew w1 W → W.cell? ⟨w.heap.size, 2, none⟩ = some (.string s) := fun W hW => ((hg1.trans hW).cell (by simp)).trans (by simp)
          have hr1 := Grew.refl w1
          go_wp2_with fail
          refine (HR.out _).mono ?_
          rintro e w2 ⟨rfl, hg2⟩
          go_wp2_with fail
          go_ret
          exact ⟨by simp, Grew.of_alloc (hg1.trans hg2)⟩
        | false =>
          go_enter Tryz.func54, Tryz.ntmps54
          go_wp2_with fail
          refine (HT.out _).mono ?_
          rintro e w1 ⟨rfl, hg1⟩
          have k0 : ∀ W, Grew w1 W → W.cell? ⟨w.heap.size, 0, none⟩ = some (.int .i64 k) := fun W hW => ((hg1.trans hW).cell (by simp)).trans (by simp)
          have k1 : ∀ W, Grew w1 W → W.cell? ⟨w.heap.size, 1, none⟩ = some (.int .i64 n) := fun W hW => ((hg1.trans hW).cell (by simp)).trans (by simp)
          have hr1 := Grew.refl w1
          go_wp2_with fail
          refine (HR.out _).mono ?_
          rintro e w2 ⟨rfl, hg2⟩
          go_wp2_with fail
          go_ret
          exact ⟨by simp, Grew.of_alloc (hg1.trans hg2)⟩
      | false =>
        replace HR := Lib.hid HR
        go_enter Tryz.func54, Tryz.ntmps54
        go_wp2_with fail
        refine (HT.out _).mono ?_
        rintro e w1 ⟨rfl, hg1⟩
        have k0 : w1.cell? ⟨w.heap.size, 0, none⟩ = some (.int .i64 k) := (hg1.cell (by simp)).trans (by simp)
        go_wp2_with fail
        refine (HR.out _).mono ?_
        rintro e w2 ⟨rfl, hg2⟩
        go_wp2_with fail
        go_ret
        exact ⟨by simp, Grew.of_alloc (hg1.trans hg2)⟩

end Go.Proofs.YtdndclfjeajhiaaGreat

/- Where a part of a term ends, and what a term is, of both. -/
namespace Go.Proofs.YtdndclfjeajhiaaGreat
open Go.RowKit

theorem tnB_kind {k n : Int} {s : ByteArray} (h : ¬ (0 ≤ k ∧ k ≤ 9)) : tnB k n s = false := by
  unfold tnB typedB
  rw [if_neg (by simp; omega), if_neg (by simp; omega), decide_eq_false (by omega)]
  rfl
theorem tnB_range {k n : Int} {s : ByteArray} (h : ¬ (0 ≤ n ∧ n ≤ 99)) : tnB k n s = false := by
  unfold tnB
  split
  · rw [decide_eq_false h]; rfl
  · have : (n == 0) = false := by simp; omega
    rw [this]
    simp
theorem tnB_num {k n : Int} {s : ByteArray} (h0 : (k != 0) = true) (h1 : (n != 0) = true) : tnB k n s = false := by
  unfold tnB
  have h0' : ¬ (k == 0) = true := by simp at h0; simp [h0]
  have h1' : (n == 0) = false := by simp at h1; simp [h1]
  rw [if_neg h0', h1']
  simp
theorem tnB_typed {k n : Int} {s : ByteArray} (_hn : 0 ≤ n ∧ n ≤ 99) (h : (k != 0) = false ∨ (n != 0) = false) (ht : typedB k = true) : tnB k n s = gp s := by
  have h0 : ¬ (k == 0) = true := fun e => by
    have : k = 0 := by simpa using e
    subst this
    simp [typedB] at ht
  unfold tnB
  rw [if_neg h0, if_pos ht]
  rcases h with h | h
  · simp at h; simp [h] at h0
  · simp at h; simp [h]
theorem tnB_plain {k n : Int} {s : ByteArray} (hk : 0 ≤ k ∧ k ≤ 9) (hn : 0 ≤ n ∧ n ≤ 99) (h : (k != 0) = false ∨ (n != 0) = false) (ht : typedB k = false) : tnB k n s = s.toList.isEmpty := by
  unfold tnB
  by_cases h0 : (k == 0) = true
  · rw [if_pos h0, decide_eq_true hn, Bool.true_and]
  · rw [if_neg h0, if_neg (by rw [ht]; simp)]
    have hne : k ≠ 0 := by simpa using h0
    rcases h with h | h
    · simp at h; omega
    · simp at h
      rw [h, decide_eq_true (by omega)]
      rfl

set_option maxHeartbeats 1600000 in
theorem l26Node_c (k n : Int) (s : ByteArray) (w : World) (hs : s.size ≤ 140737488355328) :
    Calls Tryz.prog 64 #[.agg #[.int .i64 k, .int .i64 n, .string s]] w fun e w' => e = .returned (.bool (tnB k n s)) ∧ Grew w w' := by
  have HP := fun w => l26Parts_c k w
  have hr := Grew.refl w
  by_cases hk : 0 ≤ k ∧ k ≤ 9
  · rw [if_pos hk] at HP
    have hp0 : (0 : Int) ≤ (Tr.ar k : Int) := by omega
    have HI := fun w => l01In_c n 0 99 w
    cases h0 : (k != 0 && n != 0) with
    | true =>
      simp only [Bool.and_eq_true] at h0
      obtain ⟨h0, h1⟩ := h0
      rw [tnB_num h0 h1]
      generalize Tr.ar k = a at *
      replace HP := Lib.hid HP
      go_enter Tryz.func64, Tryz.ntmps64
      go_wp2_with fail
      refine (HP.out _).mono ?_
      rintro e w1 ⟨rfl, hg1⟩
      have k0 : ∀ W, Grew w1 W → W.cell? ⟨w.heap.size, 0, none⟩ = some (.int .i64 k) := fun W hW => ((hg1.trans hW).cell (by simp)).trans (by simp)
      have k1 : ∀ W, Grew w1 W → W.cell? ⟨w.heap.size, 1, none⟩ = some (.int .i64 n) := fun W hW => ((hg1.trans hW).cell (by simp)).trans (by simp)
      have hr1 := Grew.refl w1
      go_wp2_with fail
      go_ret
      exact ⟨rfl, Grew.of_alloc hg1⟩
    | false =>
      have hor : (k != 0) = false ∨ (n != 0) = false := by
        cases hk0 : (k != 0) with
        | false => exact .inl rfl
        | true => rw [hk0] at h0; exact .inr h0
      by_cases hn : 0 ≤ n ∧ n ≤ 99
      · rw [decide_eq_true hn] at HI
        have HT := fun w => l26Typed_c k w
        cases ht : typedB k with
        | true =>
          rw [tnB_typed hn hor ht]
          rw [ht] at HT
          have HF := fun w => l25Formula_c s w hs
          unfold GivesP at HF
          generalize gp s = g at *
          generalize Tr.ar k = a at *
          replace HP := Lib.hid HP
          replace HI := Lib.hid HI
          replace HT := Lib.hid HT
          replace HF := Lib.hid HF
          clear ht
          rcases hor with hz | hz
          all_goals
            go_enter Tryz.func64, Tryz.ntmps64
            go_wp2_with fail
            refine (HP.out _).mono ?_
            rintro e w1 ⟨rfl, hg1⟩
            have k0 : ∀ W, Grew w1 W → W.cell? ⟨w.heap.size, 0, none⟩ = some (.int .i64 k) := fun W hW => ((hg1.trans hW).cell (by simp)).trans (by simp)
            have k1 : ∀ W, Grew w1 W → W.cell? ⟨w.heap.size, 1, none⟩ = some (.int .i64 n) := fun W hW => ((hg1.trans hW).cell (by simp)).trans (by simp)
            have k2 : ∀ W, Grew w1 W → W.cell? ⟨w.heap.size, 2, none⟩ = some (.string s) := fun W hW => ((hg1.trans hW).cell (by simp)).trans (by simp)
            have hr1 := Grew.refl w1
            first
              | cases hkz : (k != 0) with
                | true =>
                  go_wp2_with fail
                  refine (HI.out _).mono ?_
                  rintro e w2 ⟨rfl, hg2⟩
                  go_wp2_with fail
                  refine (HT.out _).mono ?_
                  rintro e w3 ⟨rfl, hg3⟩
                  have hk13 := hg2.trans hg3
                  go_wp2_with fail
                  refine (HF.out _).mono ?_
                  rintro e w4 ⟨q, rfl, _, hg4⟩
                  go_wp2_with fail
                  go_ret
                  exact ⟨rfl, Grew.of_alloc ((hg1.trans hk13).trans hg4)⟩
                | false =>
                  go_wp2_with fail
                  refine (HI.out _).mono ?_
                  rintro e w2 ⟨rfl, hg2⟩
                  go_wp2_with fail
                  refine (HT.out _).mono ?_
                  rintro e w3 ⟨rfl, hg3⟩
                  have hk13 := hg2.trans hg3
                  go_wp2_with fail
                  refine (HF.out _).mono ?_
                  rintro e w4 ⟨q, rfl, _, hg4⟩
                  go_wp2_with fail
                  go_ret
                  exact ⟨rfl, Grew.of_alloc ((hg1.trans hk13).trans hg4)⟩
        | false =>
          rw [tnB_plain hk hn hor ht]
          rw [ht] at HT
          generalize Tr.ar k = a at *
          replace HP := Lib.hid HP
          replace HI := Lib.hid HI
          replace HT := Lib.hid HT
          clear ht
          rcases hor with hz | hz
          all_goals
            go_enter Tryz.func64, Tryz.ntmps64
            go_wp2_with fail
            refine (HP.out _).mono ?_
            rintro e w1 ⟨rfl, hg1⟩
            have k0 : ∀ W, Grew w1 W → W.cell? ⟨w.heap.size, 0, none⟩ = some (.int .i64 k) := fun W hW => ((hg1.trans hW).cell (by simp)).trans (by simp)
            have k1 : ∀ W, Grew w1 W → W.cell? ⟨w.heap.size, 1, none⟩ = some (.int .i64 n) := fun W hW => ((hg1.trans hW).cell (by simp)).trans (by simp)
            have k2 : ∀ W, Grew w1 W → W.cell? ⟨w.heap.size, 2, none⟩ = some (.string s) := fun W hW => ((hg1.trans hW).cell (by simp)).trans (by simp)
            have hr1 := Grew.refl w1
            first
              | cases hkz : (k != 0) with
                | true =>
                  go_wp2_with fail
                  refine (HI.out _).mono ?_
                  rintro e w2 ⟨rfl, hg2⟩
                  go_wp2_with fail
                  refine (HT.out _).mono ?_
                  rintro e w3 ⟨rfl, hg3⟩
                  have hk13 := hg2.trans hg3
                  go_wp2_with fail
                  go_ret
                  exact ⟨rfl, Grew.of_alloc (hg1.trans hk13)⟩
                | false =>
                  go_wp2_with fail
                  refine (HI.out _).mono ?_
                  rintro e w2 ⟨rfl, hg2⟩
                  go_wp2_with fail
                  refine (HT.out _).mono ?_
                  rintro e w3 ⟨rfl, hg3⟩
                  have hk13 := hg2.trans hg3
                  go_wp2_with fail
                  go_ret
                  exact ⟨rfl, Grew.of_alloc (hg1.trans hk13)⟩
      · rw [tnB_range hn]
        rw [decide_eq_false hn] at HI
        replace HI := Lib.hid HI
        generalize Tr.ar k = a at *
        replace HP := Lib.hid HP
        rcases hor with hz | hz
        all_goals
          go_enter Tryz.func64, Tryz.ntmps64
          go_wp2_with fail
          refine (HP.out _).mono ?_
          rintro e w1 ⟨rfl, hg1⟩
          have k0 : ∀ W, Grew w1 W → W.cell? ⟨w.heap.size, 0, none⟩ = some (.int .i64 k) := fun W hW => ((hg1.trans hW).cell (by simp)).trans (by simp)
          have k1 : ∀ W, Grew w1 W → W.cell? ⟨w.heap.size, 1, none⟩ = some (.int .i64 n) := fun W hW => ((hg1.trans hW).cell (by simp)).trans (by simp)
          have hr1 := Grew.refl w1
          first
            | cases hkz : (k != 0) with
              | true =>
                go_wp2_with fail
                refine (HI.out _).mono ?_
                rintro e w2 ⟨rfl, hg2⟩
                go_wp2_with fail
                go_ret
                exact ⟨rfl, Grew.of_alloc (hg1.trans hg2)⟩
              | false =>
                go_wp2_with fail
                refine (HI.out _).mono ?_
                rintro e w2 ⟨rfl, hg2⟩
                go_wp2_with fail
                go_ret
                exact ⟨rfl, Grew.of_alloc (hg1.trans hg2)⟩
  · rw [tnB_kind hk]
    rw [if_neg hk] at HP
    replace HP := Lib.hid HP
    clear hk
    go_enter Tryz.func64, Tryz.ntmps64
    go_wp2_with fail
    refine (HP.out _).mono ?_
    rintro e w1 ⟨rfl, hg1⟩
    go_wp2_with fail
    go_ret
    exact ⟨rfl, Grew.of_alloc hg1⟩

theorem termEnd_c (v : Value) (xs : List Tn) (i : Nat) (w : World) (h : Tms w v xs) (hn : xs.length ≤ 1048576) (hi : i ≤ 1048576) :
    Calls Tryz.prog 55 #[v, .int .i64 i] w fun e w' => e = .returned (.int .i64 (Tr.pend xs i 1)) ∧ Grew w w' := by
  rcases h.open_ with ⟨rfl, rfl⟩ | ⟨b, o, c, rfl, hc, hm, hb, hf⟩
  · rw [Tr.pend_out (by simp) 0]
    clear h
    go_enter Tryz.func55, Tryz.ntmps55
    go_wp2_with fail
    refine wp_loop_rounds 1 ?_; rw [rounds_succ]
    go_wp2_with fail
    go_ret
    exact ⟨rfl, Grew.refl _⟩
  · clear h
    obtain ⟨P, hP⟩ : ∃ P, P = Tr.pend xs i 1 := ⟨_, rfl⟩
    rw [← hP]
    have hstart : Hid (P = Tr.pend xs i 1) := hP
    have HS := Lib.hid (fun j o hj => @Tr.pend_step xs j hj o)
    have HL := Lib.hid (fun j o hj => @Tr.pend_out xs j hj o)
    have HZ := Lib.hid (fun j => Tr.pend_zero xs j)
    clear hP
    have HF := Lib.hid hf
    clear hf
    generalize hN : xs.length = n at *
    clear hN
    go_enter Tryz.func55, Tryz.ntmps55
    go_wp2_with fail
    go_loopg [1, 5] (n + 1 - i) (fun k x y wr => ∃ j op : Nat, x = .int .i64 j ∧ y = .int .i64 op ∧ Grew w wr ∧ i ≤ j ∧ op ≤ 2 * (j - i) + 1 ∧ k = n + 1 - j ∧ j ≤ i + n ∧ Hid (P = Tr.pend xs j op))
    case atStart => exact ⟨i, 1, rfl, rfl, Grew.refl _, Nat.le_refl _, by omega, rfl, by omega, hstart⟩
    case round =>
      obtain ⟨j, op, rfl, rfl, hB, hij, hop, rfl, hjn, HP⟩ := hrel
      by_cases hz : op = 0
      · subst hz
        have hv : Hid (P = (j : Int)) := Lib.hid (by rw [HP.out, HZ.out])
        clear HP
        go_wp2_with fail
        go_ret
        rw [hv.out]
        exact ⟨rfl, hB⟩
      · obtain ⟨q, rfl⟩ : ∃ q, op = q + 1 := ⟨op - 1, by omega⟩
        by_cases hlt : j < n
        · have k1 : ∀ W, Grew w W → W.cell? ⟨b, o + j * 3, none⟩ = some (.int .i64 (tk xs j)) := fun W hW => (HF.out j hlt W hW).1
          have hv : Hid (P = Tr.pend xs (j + 1) (q + Tr.ar (tk xs j))) := Lib.hid (by rw [HP.out, HS.out j q hlt])
          have har := Tr.ar_le (tk xs j)
          clear HP hz
          go_wp2_with fail
          refine (termParts_c _ _).mono ?_
          rintro e w1 ⟨rfl, hg1⟩
          generalize Tr.ar (tk xs j) = ar at *
          go_wp2_with fail
          go_roundg (n + 1 - (j + 1))
          case measure => omega
          case rel => exact ⟨j + 1, q + ar, by go_num, by go_num, hB.trans hg1, by omega, by omega, rfl, by omega, hv⟩
        · have hv : Hid (P = -1) := Lib.hid (by rw [HP.out, HL.out j q (by omega)])
          clear HP
          go_wp2_with fail
          go_ret
          rw [hv.out]
          exact ⟨rfl, hB⟩

theorem l26End_c (v : Value) (xs : List Tn) : ∀ (d i : Nat) (w : World), xs.length ≤ i + d → Tms w v xs → xs.length ≤ 1048576 → i ≤ 1048576 →
    Calls Tryz.prog 65 #[v, .int .i64 i] w fun e w' => e = .returned (.int .i64 (Tr.pend xs i 1)) ∧ Grew w w' := by
  intro d
  induction d with
  | zero =>
    intro i w hd h hn hi
    rw [Tr.pend_out (by omega) 0]
    obtain ⟨A, c, rfl⟩ := tms_slice h
    clear h
    generalize xs.length = n at *
    go_enter Tryz.func65, Tryz.ntmps65
    go_wp2_with fail
    go_ret
    exact ⟨rfl, Grew.refl _⟩
  | succ d ih =>
    intro i w hd h hn hi
    by_cases hout : xs.length ≤ i
    · rw [Tr.pend_out hout 0]
      obtain ⟨A, c, rfl⟩ := tms_slice h
      clear h ih
      generalize xs.length = n at *
      go_enter Tryz.func65, Tryz.ntmps65
      go_wp2_with fail
      go_ret
      exact ⟨rfl, Grew.refl _⟩
    · rcases h.open_ with ⟨rfl, rfl⟩ | ⟨b, o, c, rfl, hc, hm, hb, hf⟩
      · simp at hout
      have hlt : i < xs.length := by omega
      have IH := Lib.hid (fun e W (hW : Grew w W) he1 he2 => ih e W he1 (h.grew hW) hn he2)
      have k1 := (hf i hlt _ (Grew.refl w)).1
      obtain ⟨P, hP⟩ : ∃ P, P = Tr.pend xs i 1 := ⟨_, rfl⟩
      rw [← hP]
      rw [Tr.pend_step hlt 0, Nat.zero_add] at hP
      have hsP := Lib.hid hP
      have HS := Lib.hid (fun j o => @Tr.pend_part xs j o)
      have HZ := Lib.hid (fun j => Tr.pend_zero xs j)
      have har := Tr.ar_le (tk xs i)
      have hkk : Hid ((if 0 ≤ tk xs i ∧ tk xs i ≤ 9 then (Tr.ar (tk xs i) : Int) else -1) = (Tr.ar (tk xs i) : Int) ∨ ((if 0 ≤ tk xs i ∧ tk xs i ≤ 9 then (Tr.ar (tk xs i) : Int) else -1) = -1 ∧ Tr.ar (tk xs i) = 0)) := Lib.hid (by
        split
        · exact .inl rfl
        · exact .inr ⟨rfl, by unfold Tr.ar; rw [if_neg (by omega), if_neg (by omega), if_neg (by omega)]⟩)
      have HK := Lib.hid (fun w => l26Parts_c (tk xs i) w)
      generalize (if 0 ≤ tk xs i ∧ tk xs i ≤ 9 then (Tr.ar (tk xs i) : Int) else -1) = pv at *
      generalize Tr.ar (tk xs i) = ar at *
      generalize tk xs i = kk at *
      clear hf hP h ih
      generalize hN : xs.length = n at *
      clear hN
      have hpv : pv ≤ 3 ∧ -1 ≤ pv := by rcases hkk.out with h | ⟨h, h0⟩ <;> omega
      go_enter Tryz.func65, Tryz.ntmps65
      go_wp2_with fail
      refine (HK.out _).mono ?_
      rintro e w1 ⟨rfl, hg1⟩
      go_wp2_with fail
      go_loopw [5, 6] (fun x y wr => ∃ (E q : Int), x = .int .i64 E ∧ y = .int .i64 q ∧ Grew w wr ∧ q ≤ 3 ∧ -1 ≤ q ∧ -1 ≤ E ∧ E ≤ n ∧ Hid ((0 ≤ E → (i : Int) + 1 ≤ E ∧ P = Tr.pend xs E.toNat q.toNat) ∧ (E < 0 → P = -1))) (fun _ y _ => (intOf y).toNat)
      case atStart => exact ⟨(i : Int) + 1, pv, by go_num, rfl, hg1, hpv.1, hpv.2, by omega, by omega, Lib.hid ⟨fun _ => ⟨by omega, by
        rw [hsP.out]
        rcases hkk.out with h | ⟨h, h0⟩
        · rw [h]; rfl
        · rw [h, h0]; rfl⟩, fun h => absurd h (by omega)⟩⟩
      case round =>
        obtain ⟨E, q, rfl, rfl, hB, hq3, hq1, hE1, hEn, HP⟩ := hrel
        by_cases hq : 0 < q
        · by_cases hE : 0 ≤ E
          · obtain ⟨hiE, hPE⟩ := HP.out.1 hE
            obtain ⟨e, rfl⟩ : ∃ e : Nat, E = (e : Int) := ⟨E.toNat, by omega⟩
            obtain ⟨r, rfl⟩ : ∃ r : Nat, q = ((r + 1 : Nat) : Int) := ⟨q.toNat - 1, by omega⟩
            have hst := HS.out e r
            simp only [Int.toNat_natCast] at hPE
            have HPE := Lib.hid hPE
            have HST := Lib.hid hst
            have hgt : ¬ ((r + 1 : Nat) : Int) ≤ 0 := by omega
            clear hPE hst HP
            go_wp2_with fail
            refine (IH.out e _ hB (by omega) (by omega)).mono ?_
            rintro e2 w2 ⟨rfl, hg2⟩
            have hB2 := hB.trans hg2
            rcases HST.out with ⟨h1, h2⟩ | ⟨m, h1, hm2, h2⟩
            · have H2 : Hid (P = -1) := Lib.hid (by rw [HPE.out, h2])
              rw [h1]
              clear h1 h2 HST
              go_wp2_with fail
              go_roundw
              case rel => exact ⟨-1, (r : Int), rfl, by go_num, hB2, by omega, by omega, by omega, by omega, Lib.hid ⟨fun h => absurd h (by omega), fun _ => H2.out⟩⟩
              case measure => (simp [intOf]; try omega)
            · have H2 : Hid (P = Tr.pend xs (e + m) r) := Lib.hid (by rw [HPE.out, h2])
              rw [h1]
              clear h1 h2 HST
              go_wp2_with fail
              go_roundw
              case rel => exact ⟨((e + m : Nat) : Int), (r : Int), rfl, by go_num, hB2, by omega, by omega, by omega, by omega, Lib.hid ⟨fun _ => ⟨by omega, by rw [Int.toNat_natCast, Int.toNat_natCast]; exact H2.out⟩, fun h => absurd h (by omega)⟩⟩
              case measure => (simp [intOf]; try omega)
          · have hv : Hid (P = -1) := Lib.hid (HP.out.2 (by omega))
            obtain rfl : E = -1 := by omega
            clear HP
            go_wp2_with fail
            go_ret
            rw [hv.out]
            exact ⟨rfl, hB⟩
        · by_cases hE : 0 ≤ E
          · obtain ⟨hiE, hPE⟩ := HP.out.1 hE
            have hv : Hid (P = E) := Lib.hid (by
              rw [hPE, show q.toNat = 0 by omega, HZ.out]
              omega)
            clear HP hPE
            go_wp2_with fail
            go_ret
            rw [hv.out]
            exact ⟨rfl, hB⟩
          · have hv : Hid (P = E) := Lib.hid (by rw [HP.out.2 (by omega)]; omega)
            clear HP
            go_wp2_with fail
            go_ret
            rw [hv.out]
            exact ⟨rfl, hB⟩

/-- Is it no node of a term? -/
noncomputable def noTn (k n : Int) (s : ByteArray) : Bool := !tnB k n s
theorem isTerm1_ok : PredT 53 noTn := by
  intro a b s w hs
  unfold noTn
  have HR := Lib.hid (fun w => isTermNode_c a b s w hs)
  generalize tnB a b s = R at *
  go_enter Tryz.func53, Tryz.ntmps53
  go_wp2_with fail
  refine (HR.out _).mono ?_
  rintro e w1 ⟨rfl, hg1⟩
  go_wp2_with fail
  go_ret
  exact ⟨rfl, Grew.of_alloc hg1⟩

/-- Is the list a term's? -/
noncomputable def tmB (xs : List Tn) : Bool := decide (1 ≤ xs.length ∧ xs.length ≤ 60) && !anyT noTn xs && (Tr.pend xs 0 1 == (xs.length : Int))

theorem isTerm_c (v : Value) (xs : List Tn) (w : World) (h : Tms w v xs) (hfit : FitsT xs) (hn : xs.length ≤ 1048576) :
    Calls Tryz.prog 25 #[v] w fun e w' => e = .returned (.bool (tmB xs)) ∧ Grew w w' := by
  have HC := Lib.hid (fun w h => containsFuncT_c v xs _ _ w h hfit isTerm1_ok (enters_of Tryz.func53 (by kernel_rfl) rfl))
  have HP := Lib.hid (fun w h => termEnd_c v xs 0 w h hn (by omega))
  obtain ⟨A, c, rfl⟩ := tms_slice h
  have HN := Lib.hid h
  clear h hfit
  unfold tmB
  generalize Tr.pend xs 0 1 = p at *
  generalize anyT noTn xs = q at *
  generalize hL : xs.length = n at *
  clear hL
  by_cases h1 : 1 ≤ n
  · by_cases h2 : n ≤ 60
    · rw [decide_eq_true (⟨h1, h2⟩ : 1 ≤ n ∧ n ≤ 60), Bool.true_and]
      cases q with
      | true =>
        go_enter Tryz.func25, Tryz.ntmps25
        go_wp2_with fail
        refine (HC.out _ HN.out).mono ?_
        rintro e w1 ⟨rfl, hg1⟩
        go_wp2_with fail
        go_ret
        exact ⟨by simp, hg1⟩
      | false =>
        go_enter Tryz.func25, Tryz.ntmps25
        go_wp2_with fail
        refine (HC.out _ HN.out).mono ?_
        rintro e w1 ⟨rfl, hg1⟩
        go_wp2_with fail
        refine (HP.out _ (HN.out.grew hg1)).mono ?_
        rintro e w2 ⟨rfl, hg2⟩
        go_wp2_with fail
        go_ret
        exact ⟨by simp, hg1.trans hg2⟩
    · rw [decide_eq_false (fun h : 1 ≤ n ∧ n ≤ 60 => h2 h.2), Bool.false_and, Bool.false_and]
      go_enter Tryz.func25, Tryz.ntmps25
      go_wp2_with fail
      go_ret
      exact ⟨rfl, Grew.refl _⟩
  · rw [decide_eq_false (fun h : 1 ≤ n ∧ n ≤ 60 => h1 h.1), Bool.false_and, Bool.false_and]
    go_enter Tryz.func25, Tryz.ntmps25
    go_wp2_with fail
    go_ret
    exact ⟨rfl, Grew.refl _⟩

theorem l26Is_c (v : Value) (xs : List Tn) (w : World) (h : Tms w v xs) (hfit : FitsT xs) (hn : xs.length ≤ 1048576) :
    Calls Tryz.prog 29 #[v] w fun e w' => e = .returned (.bool (tmB xs)) ∧ Grew w w' := by
  unfold tmB
  rcases h.open_ with ⟨rfl, rfl⟩ | ⟨b, o, c, rfl, hc, hm, hb, hcell⟩
  · clear h hfit
    go_enter Tryz.func29, Tryz.ntmps29
    go_wp2_with fail
    go_ret
    exact ⟨rfl, Grew.refl _⟩
  by_cases hr : 1 ≤ xs.length ∧ xs.length ≤ 60
  · rw [decide_eq_true hr, Bool.true_and]
    obtain ⟨R, hR⟩ : ∃ R, R = anyT noTn xs := ⟨_, rfl⟩
    rw [← hR]
    have HA := Lib.hid (fun k hk h => hR.trans (@anyT_at noTn xs k hk h))
    have HZ := Lib.hid (fun h => hR.trans (@anyT_no noTn xs h))
    have HP := Lib.hid (fun W (hW : Grew w W) => l26End_c _ xs xs.length 0 W (by omega) (h.grew hW) hn (by omega))
    have HC := Lib.hid hcell
    unfold FitsT at hfit
    have HT := Lib.hid hfit
    clear hcell h hR hfit
    generalize Tr.pend xs 0 1 = p at *
    generalize hN : xs.length = n at *
    clear hN
    have hcond : ((n : Int) == 0 || decide (60 < (n : Int))) = false := by simp; omega
    have hcond0 : ((n : Int) == 0) = false := by simp; omega
    have hcond6 : decide (60 < (n : Int)) = false := by simp; omega
    go_enter Tryz.func29, Tryz.ntmps29
    go_wp2_with fail
    go_loopw [3] (fun i wr => ∃ j : Nat, j ≤ n ∧ i = .int .i64 j ∧ Grew w wr ∧ Hid (NoneT noTn xs j)) (fun i _ => n - (intOf i).toNat)
    case atStart => exact ⟨0, Nat.zero_le _, rfl, Grew.refl _, NoneT.zero _ _⟩
    case round =>
      obtain ⟨j, hj, rfl, hB, HJ⟩ := hrel
      by_cases hlt : j < n
      · have k1 := (HC.out j hlt _ hB).1
        have k2 := (HC.out j hlt _ hB).2.1
        have k3 := (HC.out j hlt _ hB).2.2
        have hz := HT.out j hlt
        have hA : Hid (tnB (tk xs j) (tn xs j) (tt xs j) = false → R = true) := Lib.hid (fun h => HA.out j hlt (by rw [noTn, h]; rfl))
        have hS : Hid (tnB (tk xs j) (tn xs j) (tt xs j) = true → NoneT noTn xs (j + 1)) := Lib.hid (fun h => HJ.out.succ (k := j) (by rw [noTn, h]; rfl))
        generalize tk xs j = x at *
        generalize tn xs j = y at *
        generalize tt xs j = z at *
        have HNd := Lib.hid (fun w => l26Node_c x y z w (by omega))
        cases hq : tnB x y z with
        | false =>
          have hv := Lib.hid (hA.out hq)
          rw [hq] at HNd
          go_wp2_with fail
          refine (HNd.out _).mono ?_
          rintro e w1 ⟨rfl, hg1⟩
          go_wp2_with fail
          go_ret
          rw [hv.out]
          exact ⟨by simp, hB.trans hg1⟩
        | true =>
          have hs := Lib.hid (hS.out hq)
          rw [hq] at HNd
          go_wp2_with fail
          refine (HNd.out _).mono ?_
          rintro e w1 ⟨rfl, hg1⟩
          go_wp2_with fail
          go_roundw
          case rel => exact ⟨j + 1, by omega, by go_num, hB.trans hg1, hs⟩
          case measure => simp [intOf]; omega
      · obtain rfl : j = n := by omega
        have hv := Lib.hid (HZ.out HJ.out)
        go_wp2_with fail
        refine (HP.out _ hB).mono ?_
        rintro e w1 ⟨rfl, hg1⟩
        go_wp2_with fail
        go_ret
        rw [hv.out]
        exact ⟨by simp, hB.trans hg1⟩
  · rw [decide_eq_false hr, Bool.false_and, Bool.false_and]
    clear hcell h hfit
    generalize xs.length = n at *
    rcases Nat.eq_zero_or_pos n with h0 | h0
    · subst h0
      go_enter Tryz.func29, Tryz.ntmps29
      go_wp2_with fail
      go_ret
      exact ⟨rfl, Grew.refl _⟩
    · have h60 : 60 < n := by omega
      have hcond0 : ((n : Int) == 0) = false := by simp; omega
      have hcond6 : decide (60 < (n : Int)) = true := by simp; omega
      clear hr
      go_enter Tryz.func29, Tryz.ntmps29
      go_wp2_with fail
      go_ret
      exact ⟨rfl, Grew.refl _⟩
end Go.Proofs.YtdndclfjeajhiaaGreat

/- The parts of a term in memory: inner of the program, l26Part of the reference. -/
namespace Go.Proofs.YtdndclfjeajhiaaGreat
open Go.RowKit
open Tr (Tm)

/-- A node of a term. -/
def GoodN (x : Tn) : Prop := tnB x.1 x.2.1 x.2.2 = true
/-- A term whose nodes are all good. -/
def Good (t : Tm) : Prop := Tr.wf GoodN t

theorem enc_at0 (t : Tm) : tk (Tr.enc t) 0 = (Tr.hd t).1 ∧ tn (Tr.enc t) 0 = (Tr.hd t).2.1 ∧ tt (Tr.enc t) 0 = (Tr.hd t).2.2 := by
  rw [Tr.enc_kids]; exact ⟨rfl, rfl, rfl⟩
theorem tms_head {w : World} {v : Value} {t : Tm} (h : Tms w v (Tr.enc t)) : ∃ b o c, v = .slice (some ⟨b, o, none⟩) (Tr.enc t).length c ∧ (Tr.enc t).length ≤ c ∧ c ≤ 9223372036854775807 ∧ b < w.heap.size ∧
    ∀ W, Grew w W → W.cell? ⟨b, o, none⟩ = some (.int .i64 (Tr.hd t).1) ∧ W.cell? ⟨b, o + 1, none⟩ = some (.int .i64 (Tr.hd t).2.1) ∧ W.cell? ⟨b, o + 2, none⟩ = some (.string (Tr.hd t).2.2) := by
  have hpos := Tr.enc_pos t
  rcases h.open_ with ⟨_, h0⟩ | ⟨b, o, c, rfl, hc, hm, hb, hf⟩
  · rw [h0] at hpos; simp at hpos
  · obtain ⟨e0, e1, e2⟩ := enc_at0 t
    refine ⟨b, o, c, rfl, hc, hm, hb, fun W hW => ?_⟩
    have h0 := hf 0 (by omega) W hW
    rw [e0, e1, e2] at h0
    simpa using h0

/-- The parts of a term, as a slice of slices. -/
def PartsT (w : World) (v : Value) (t : Tm) : Prop :=
  (v = .slice none 0 0 ∧ Tr.kids t = []) ∨ ∃ b o c, v = .slice (some ⟨b, o, none⟩) (Tr.kids t).length c ∧ (Tr.kids t).length ≤ c ∧ c ≤ 9223372036854775807 ∧ b < w.heap.size ∧
    ∀ i, i < (Tr.kids t).length → ∃ u, w.cell? ⟨b, o + i, none⟩ = some u ∧ Tms w u (Tr.enc (Tr.kid t i))
theorem PartsT.grew {w w' : World} {v : Value} {t : Tm} (h : PartsT w v t) (hg : Grew w w') : PartsT w' v t := by
  rcases h with h | ⟨b, o, c, h1, h2, h3, h4, h5⟩
  · exact .inl h
  · exact .inr ⟨b, o, c, h1, h2, h3, Nat.lt_of_lt_of_le h4 hg.size, fun i hi => by
      obtain ⟨u, h6, h7⟩ := h5 i hi
      exact ⟨u, (hg.cell (p := ⟨b, o + i, none⟩) h4).trans h6, h7.grew hg⟩⟩

/-- A row of slices of the call's own. -/
def OwnVT (w : World) (B : Nat) (v : Value) (us : List Value) : Prop := w.ownsRow B 25 1 v us.length us
theorem infoSlT : (Tryz.prog.info? 25).map (fun i => (i.zero, i.size, i.bytes)) = some (some (.slice none 0 0), 1, 24) := by kernel_rfl
theorem wpList_appVT {ops : Array Oper} {rest : List Oper} {o : Oper} {a : Act} {Q : Exit → Act → World → Prop} {w w0 : World} (s x : Operand) (hgd : o.guard = none)
    (ho : o.op = .call { callee := .builtin .append, args := #[s, x], argTypes := #[78, 78] })
    (v : Value) (us : List Value) (hs : a.eval s = v) (hown : OwnVT w w0.heap.size v us) (hg : Grew w0 w) (vx u : Value) (hx : a.eval x = vx) (hr : Rd w 1 vx 1 [u]) (h1 : u.oneCell' = true) (hn : us.length ≤ 1048576)
    (h : ∀ v' w', OwnVT w' w0.heap.size v' (us ++ [u]) → Grew w0 w' → w.grownBy w' v.ownBlock → wpList Tryz.prog ops Q rest (a.put o.dst v') w') : wpList Tryz.prog ops Q (o :: rest) a w := by
  obtain ⟨i0, hi0, hz0, hz1, hz2⟩ := info_parts infoSlT
  refine wpList_append_rd w hgd s x _ ho w0.heap.size 25 i0 _ 1 24 Tryz.underlying78 hi0 hz0 hz1 hz2 rfl (by omega) v us.length us hs hown vx 1 [u] hx hr (by simpa using h1) (by unfold maxLen; omega) (by omega) hg.size ?_
  intro v' w' h1 h2 h3
  refine h v' w' ?_ (hg.grown h2 fun k hk => (hown.lt k hk).1) h2
  unfold OwnVT
  rw [List.length_append]
  exact h1

/-- The first slices of the parts, each read in the world of the entry. -/
def HoldT (w : World) (t : Tm) (us : List Value) : Prop := ∀ i u, us[i]? = some u → Tms w u (Tr.enc (Tr.kid t i))
theorem HoldT.snoc {w : World} {t : Tm} {us : List Value} {u : Value} (h : HoldT w t us) (hu : Tms w u (Tr.enc (Tr.kid t us.length))) : HoldT w t (us ++ [u]) := by
  intro i x hx
  rcases Nat.lt_or_ge i us.length with hk | hk
  · rw [List.getElem?_append_left hk] at hx
    exact h i x hx
  · rw [List.getElem?_append_right hk] at hx
    have hi : i - us.length = 0 := by
      have := (List.getElem?_eq_some_iff.1 hx).1
      simp at this
      omega
    obtain rfl : i = us.length := by omega
    rw [hi] at hx
    simp at hx
    subst hx
    exact hu
theorem parts_of {w w' : World} {B : Nat} {v : Value} {t : Tm} {us : List Value} (hv : OwnVT w' B v us) (hl : us.length = (Tr.kids t).length) (h : HoldT w t us) (hg : Grew w w') : PartsT w' v t := by
  obtain ⟨_, _, h3⟩ := Rd.of_own hv
  rcases h3 with ⟨h4, h5⟩ | ⟨b, o, c, h4, h5, h6, h7, h8⟩
  · exact .inl ⟨h4, List.eq_nil_of_length_eq_zero (by omega)⟩
  · refine .inr ⟨b, o, c, by rw [← hl]; exact h4, by omega, h6, h7, fun i hi => ?_⟩
    have hi' : i < us.length := by omega
    have hx := List.getElem?_eq_getElem hi'
    exact ⟨us[i], h8 i _ hx, (h i _ hx).grew hg⟩
theorem tms_one {w : World} {u : Value} {xs : List Tn} (h : Tms w u xs) : u.oneCell' = true := by
  obtain ⟨A, c, rfl⟩ := tms_slice h
  rfl

theorem inner_o (v : Value) (t : Tm) (w0 w : World) (h0 : Tms w0 v (Tr.enc t)) (hw0 : Grew w0 w) (hg : Good t) (hn : (Tr.enc t).length ≤ 1048576) :
    Calls Tryz.prog 59 #[v] w fun e w' => ∃ u us, e = .returned u ∧ OwnVT w' w.heap.size u us ∧ us.length = (Tr.kids t).length ∧ HoldT w0 t us ∧ Grew w w' := by
  have h := h0.grew hw0
  obtain ⟨b, o, c, rfl, hc, hm, hb, hf⟩ := tms_head h
  have hkl := Tr.kids_len hg
  have k1 := (hf _ (Grew.refl w)).1
  have hpos := Tr.enc_pos t
  have HE := Lib.hid (fun i (hi : i < (Tr.kids t).length) W (hW : Grew w W) => by
    have h1 := termEnd_c _ (Tr.enc t) (Tr.off t i) W (h.grew hW) hn (by have := Tr.off_end hi; omega)
    rw [Tr.pend_kid hg hi, Int.natCast_add] at h1
    exact h1)
  have HL := Lib.hid (fun i (hi : i < (Tr.kids t).length) => (⟨Tr.off_end hi, Tr.off_next hi, Tr.enc_pos (Tr.kid t i)⟩ : Tr.off t i + (Tr.enc (Tr.kid t i)).length ≤ (Tr.enc t).length ∧ Tr.off t (i + 1) = Tr.off t i + (Tr.enc (Tr.kid t i)).length ∧ 1 ≤ (Tr.enc (Tr.kid t i)).length))
  have HS := Lib.hid (fun i (hi : i < (Tr.kids t).length) (c' : Nat) (hc1 : (Tr.enc (Tr.kid t i)).length ≤ c') (hc2 : c' ≤ 9223372036854775807) => by
    have h1 := h0.sub (Tr.off t i) (Tr.enc (Tr.kid t i)).length c' (Tr.off_end hi) hc1 hc2
    rw [Tr.take_kid hi] at h1
    exact h1)
  have har := Tr.ar_le (Tr.hd t).1
  have hz := Tr.off_zero t
  clear hf h hg h0 hw0
  generalize hN : (Tr.enc t).length = n at *
  clear hN
  generalize hM : (Tr.kids t).length = m at *
  have HTP := Lib.hid (fun w => termParts_c (Tr.hd t).1 w)
  generalize Tr.ar (Tr.hd t).1 = ar at *
  subst hkl
  go_enter Tryz.func59, Tryz.ntmps59
  go_wp2_with fail
  refine (HTP.out _).mono ?_
  rintro e w1 ⟨rfl, hg1⟩
  go_wp2_with fail
  go_loopw [3, 4, 5, 11] (fun vv x _ i wr => ∃ (j : Nat) (us : List Value), j ≤ m ∧ us.length = j ∧ i = .int .i64 j ∧ x = .int .i64 (Tr.off t j) ∧ OwnVT wr w.heap.size vv us ∧ Grew w wr ∧ Hid (HoldT w0 t us)) (fun _ _ _ i _ => m - (intOf i).toNat)
  case atStart => exact ⟨0, [], Nat.zero_le _, rfl, rfl, by rw [hz]; rfl, World.ownsRow_nil w1 _ _ 1, hg1, fun i u hi => absurd hi (by simp)⟩
  case round =>
    obtain ⟨j, us, hj, hu, rfl, rfl, hO, hB, HH⟩ := hrel
    by_cases hlt : j < m
    · obtain ⟨hl1, hl2, hl3⟩ := HL.out j (by omega)
      have hE := Lib.hid (HE.out j (by omega))
      have hS := Lib.hid (HS.out j (by omega))
      have hsnoc := Lib.hid (fun u (hu' : Tms w0 u (Tr.enc (Tr.kid t j))) => HH.out.snoc (u := u) (by rw [hu]; exact hu'))
      have HL2 := Lib.hid hl2
      clear hl2
      generalize Tr.enc (Tr.kid t j) = X at *
      generalize Tr.off t j = oj at *
      have hq0 : (0 : Int) ≤ (oj : Int) := by omega
      have hq1 : (oj : Int) ≤ (oj : Int) + (X.length : Int) := by omega
      have hq2 : (oj : Int) + (X.length : Int) ≤ (c : Int) := by omega
      go_wp2_with fail
      refine (hE.out _ hB).mono ?_
      rintro e w2 ⟨rfl, hg2⟩
      have hB2 := hB.trans hg2
      have hO1 : OwnVT (w2.alloc (.cells #[.slice (some ⟨b, o + oj * 3, none⟩) X.length (c - oj)] 25)) w.heap.size u3 us := own_grew hO (hg2.trans ((Grew.refl w2).alloc _))
      have hT := Lib.hid (hS.out (c - oj) (by omega) (by omega))
      go_wp2_with (first | (at_builtin; refine wpList_appVT (w0 := w) _ _ rfl rfl _ us rfl hO1 (hB2.alloc _) _ _ rfl (rd_lit _ _ _) rfl (by omega) ?_; intro v2 w3 hown2 hg3 hgr3))
      go_roundw
      case rel => exact ⟨j + 1, _, by omega, by rw [List.length_append, hu]; rfl, by go_num, by rw [HL2.out]; go_num, hown2, hg3, hsnoc.out _ hT.out⟩
      case measure => simp [intOf]; omega
    · obtain rfl : j = m := by omega
      go_wp2_with fail
      go_ret
      exact ⟨_, _, rfl, hO, by omega, HH.out, hB⟩
theorem inner_c (v : Value) (t : Tm) (w : World) (h : Tms w v (Tr.enc t)) (hg : Good t) (hn : (Tr.enc t).length ≤ 1048576) :
    Calls Tryz.prog 59 #[v] w fun e w' => ∃ u, e = .returned u ∧ PartsT w' u t ∧ Grew w w' :=
  (inner_o v t w w h (Grew.refl w) hg hn).mono fun _ _ ⟨u, _, h1, h2, h3, h4, h5⟩ => ⟨u, h1, parts_of h2 h3 h4 h5, h5⟩
theorem OwnVT.cell {w : World} {B g n c : Nat} {us : List Value} (h : OwnVT w B (.slice (some ⟨g, 0, none⟩) n c) us) {i : Nat} {x : Value} (hx : us[i]? = some x) : w.cell? ⟨g, i, none⟩ = some x := by
  obtain ⟨_, _, h3⟩ := Rd.of_own h
  rcases h3 with ⟨h4, _⟩ | ⟨b, o, c', h4, _, _, _, h8⟩
  · cases h4
  · obtain ⟨⟨rfl, rfl⟩, _⟩ : (g = b ∧ 0 = o) ∧ _ := by simpa using h4
    have := h8 i x hx
    rwa [Nat.zero_add] at this
theorem OwnVT.open_ {w : World} {B : Nat} {v : Value} {us : List Value} (h : OwnVT w B v us) (h0 : 0 < us.length) : ∃ g c, v = .slice (some ⟨g, 0, none⟩) us.length c ∧ us.length ≤ c ∧ c ≤ 9223372036854775807 ∧ B ≤ g ∧ g < w.heap.size := by
  rcases h.2 with ⟨_, h5⟩ | ⟨g, cap, cur, rfl, hb, hg, hnc, hcm, _, _⟩
  · omega
  · exact ⟨g, cap, rfl, hnc, hcm, hb, (Array.getElem?_eq_some_iff.1 hg).1⟩
/-- An append onto a row of nodes leaves the row of slices. -/
theorem ownVT_app {w w' : World} {B B' : Nat} {u v : Value} {us : List Value} {xs : List Tn} (h : OwnVT w B u us) (hv : OwnT w B' v xs) (hg : w.grownBy w' v.ownBlock) : OwnVT w' B u us := by
  rcases hv.2 with ⟨rfl, _⟩ | ⟨g, cap, cur, rfl, _, hh, _⟩
  · exact own_grew h (by
      have hg' : w.grownBy w' none := hg
      exact ⟨hg'.os, hg'.tape, hg'.output, hg'.size, fun i hi => hg'.block i hi (by simp)⟩)
  · exact own_only h (show Only g w w' from hg) (own_ne h hh (by decide))
end Go.Proofs.YtdndclfjeajhiaaGreat

/- The types of terms, as trees. No program is in sight. -/
namespace Go.Proofs.YtdndclfjeajhiaaGreat
open Go.RowKit
open Tr (Tm)

/-- The type of a node whose parts have types. -/
noncomputable def tyLam (A : Fm.Tree) (b : Option Fm.Tree) : Option Fm.Tree := b.bind fun B => smallF (.imp A B)
noncomputable def ty1 (k : Int) (A : Fm.Tree) : Fm.Tree → Option Fm.Tree := fun a =>
  if k = 4 then (match a with | .and p _ => some p | _ => none)
  else if k = 5 then (match a with | .and _ q => some q | _ => none)
  else if k = 6 then smallF (.or a A)
  else if k = 7 then smallF (.or A a)
  else (match a with | .fls => some A | _ => none)
noncomputable def ty2 (k : Int) (f u : Fm.Tree) : Option Fm.Tree :=
  if k = 3 then smallF (.and f u) else (match f with | .imp p q => if @decide (p = u) (Classical.propDecidable _) then some q else none | _ => none)
/-- The type of a term in an assumption list. -/
noncomputable def ty : List Fm.Tree → Tm → Option Fm.Tree
  | G, .t0 x => G[x.2.1.toNat]?
  | G, .t1 x a => if x.1 = 1 then (if G.length < 12 then tyLam (fo x.2.2) (ty (G ++ [fo x.2.2]) a) else none) else (ty G a).bind (ty1 x.1 (fo x.2.2))
  | G, .t2 x f u => (ty G f).bind fun F => (ty G u).bind fun U => ty2 x.1 F U
  | G, .t3 _ c a b => (ty G c).bind fun C => match C with
      | .or p q => if G.length < 12 then ((ty (G ++ [p]) a).bind fun R => (ty (G ++ [q]) b).bind fun S => if @decide (R = S) (Classical.propDecidable _) then some R else none) else none
      | _ => none

end Go.Proofs.YtdndclfjeajhiaaGreat

/- Types of terms by indices: contraction keeps them. No program is in sight. -/
namespace Go.Proofs.YtdndclfjeajhiaaGreat
open Go.RowKit

def kU : Ku → Int
  | .fst => 4
  | .snd => 5
  | .inl => 6
  | .inr => 7
  | .abt => 9
def kP : Kp → Int
  | .app => 2
  | .pair => 3
namespace Lm
noncomputable def ty : List Fm.Tree → Lm → Option Fm.Tree
  | G, .v i => G[i]?
  | G, .l A a => tyLam (fo A) (ty (fo A :: G) a)
  | G, .u k A a => (ty G a).bind (ty1 (kU k) (fo A))
  | G, .p k a b => (ty G a).bind fun F => (ty G b).bind fun U => ty2 (kP k) F U
  | G, .c a b d => (ty G a).bind fun C => match C with
      | .or x y => (ty (x :: G) b).bind fun R => (ty (y :: G) d).bind fun S => if @decide (R = S) (Classical.propDecidable _) then some R else none
      | _ => none
theorem ty_l {G : List Fm.Tree} {A : ByteArray} {a : Lm} {T : Fm.Tree} : ty G (.l A a) = some T ↔ ∃ B, ty (fo A :: G) a = some B ∧ smallF (.imp (fo A) B) = some T := by
  show tyLam (fo A) (ty (fo A :: G) a) = some T ↔ _
  unfold tyLam
  rw [Option.bind_eq_some_iff]
theorem ty_u {G : List Fm.Tree} {k : Ku} {A : ByteArray} {a : Lm} {T : Fm.Tree} : ty G (.u k A a) = some T ↔ ∃ U, ty G a = some U ∧ ty1 (kU k) (fo A) U = some T := by
  show (ty G a).bind _ = some T ↔ _
  rw [Option.bind_eq_some_iff]
theorem ty_p {G : List Fm.Tree} {k : Kp} {a b : Lm} {T : Fm.Tree} : ty G (.p k a b) = some T ↔ ∃ F U, ty G a = some F ∧ ty G b = some U ∧ ty2 (kP k) F U = some T := by
  show (ty G a).bind _ = some T ↔ _
  simp only [Option.bind_eq_some_iff]
  exact ⟨fun ⟨F, h1, U, h2, h3⟩ => ⟨F, U, h1, h2, h3⟩, fun ⟨F, U, h1, h2, h3⟩ => ⟨F, h1, U, h2, h3⟩⟩
theorem ty_c {G : List Fm.Tree} {a b d : Lm} {T : Fm.Tree} : ty G (.c a b d) = some T ↔ ∃ p q, ty G a = some (.or p q) ∧ ty (p :: G) b = some T ∧ ty (q :: G) d = some T := by
  show (ty G a).bind _ = some T ↔ _
  rw [Option.bind_eq_some_iff]
  constructor
  · rintro ⟨C, h1, h2⟩
    cases C with
    | or p q =>
      simp only [Option.bind_eq_some_iff] at h2
      obtain ⟨R, h3, S, h4, h5⟩ := h2
      split at h5
      · rename_i he
        have he := @of_decide_eq_true _ (Classical.propDecidable _) he
        obtain rfl := Option.some.inj h5
        subst he
        exact ⟨p, q, h1, h3, h4⟩
      · cases h5
    | var v => cases h2
    | fls => cases h2
    | and p q => cases h2
    | imp p q => cases h2
    | box p => cases h2
    | dia p => cases h2
  · rintro ⟨p, q, h1, h2, h3⟩
    refine ⟨_, h1, ?_⟩
    simp only [Option.bind_eq_some_iff]
    refine ⟨T, h2, T, h3, ?_⟩
    rw [if_pos (@decide_eq_true _ (Classical.propDecidable _) rfl)]
theorem ty_ren : ∀ (t : Lm) {G H : List Fm.Tree} {f : Nat → Nat} {T : Fm.Tree}, (∀ i U, G[i]? = some U → H[f i]? = some U) → ty G t = some T → ty H (ren f t) = some T := by
  have up : ∀ {G H : List Fm.Tree} {f : Nat → Nat} {A : Fm.Tree}, (∀ i U, G[i]? = some U → H[f i]? = some U) → ∀ i U, (A :: G)[i]? = some U → (A :: H)[upr f i]? = some U := by
    intro G H f A h i U hi
    cases i with
    | zero => exact hi
    | succ i => exact h i U (by simpa using hi)
  intro t
  induction t with
  | v i => intro G H f T h ht; exact h i T ht
  | l A a ha =>
    intro G H f T h ht
    obtain ⟨B, h1, h2⟩ := ty_l.1 ht
    exact ty_l.2 ⟨B, ha (up h) h1, h2⟩
  | u k A a ha =>
    intro G H f T h ht
    obtain ⟨U, h1, h2⟩ := ty_u.1 ht
    exact ty_u.2 ⟨U, ha h h1, h2⟩
  | p k a b ha hb =>
    intro G H f T h ht
    obtain ⟨F, U, h1, h2, h3⟩ := ty_p.1 ht
    exact ty_p.2 ⟨F, U, ha h h1, hb h h2, h3⟩
  | c a b d ha hb hd =>
    intro G H f T h ht
    obtain ⟨p, q, h1, h2, h3⟩ := ty_c.1 ht
    exact ty_c.2 ⟨p, q, ha h h1, hb (up h) h2, hd (up h) h3⟩
theorem ty_sub : ∀ (t : Lm) {G H : List Fm.Tree} {s : Nat → Lm} {T : Fm.Tree}, (∀ i U, G[i]? = some U → ty H (s i) = some U) → ty G t = some T → ty H (sub s t) = some T := by
  have up : ∀ {G H : List Fm.Tree} {s : Nat → Lm} {A : Fm.Tree}, (∀ i U, G[i]? = some U → ty H (s i) = some U) → ∀ i U, (A :: G)[i]? = some U → ty (A :: H) (ups s i) = some U := by
    intro G H s A h i U hi
    cases i with
    | zero => exact hi
    | succ i => exact ty_ren (s i) (fun _ _ h => h) (h i U (by simpa using hi))
  intro t
  induction t with
  | v i => intro G H s T h ht; exact h i T ht
  | l A a ha =>
    intro G H s T h ht
    obtain ⟨B, h1, h2⟩ := ty_l.1 ht
    exact ty_l.2 ⟨B, ha (up h) h1, h2⟩
  | u k A a ha =>
    intro G H s T h ht
    obtain ⟨U, h1, h2⟩ := ty_u.1 ht
    exact ty_u.2 ⟨U, ha h h1, h2⟩
  | p k a b ha hb =>
    intro G H s T h ht
    obtain ⟨F, U, h1, h2, h3⟩ := ty_p.1 ht
    exact ty_p.2 ⟨F, U, ha h h1, hb h h2, h3⟩
  | c a b d ha hb hd =>
    intro G H s T h ht
    obtain ⟨p, q, h1, h2, h3⟩ := ty_c.1 ht
    exact ty_c.2 ⟨p, q, ha h h1, hb (up h) h2, hd (up h) h3⟩
theorem ty_inst {G : List Fm.Tree} {b x : Lm} {U T : Fm.Tree} (hb : ty (U :: G) b = some T) (hx : ty G x = some U) : ty G (sub (inst x) b) = some T := by
  refine ty_sub b (fun i V hi => ?_) hb
  cases i with
  | zero =>
    obtain rfl : U = V := by simpa using hi
    exact hx
  | succ i => show G[i]? = some V; simpa using hi
theorem ty2_app {F U T : Fm.Tree} (h : ty2 2 F U = some T) : F = .imp U T := by
  unfold ty2 at h
  rw [if_neg (by decide)] at h
  cases F with
  | imp p q =>
    simp only at h
    split at h
    · rename_i he
      have he := @of_decide_eq_true _ (Classical.propDecidable _) he
      obtain rfl := Option.some.inj h
      rw [he]
    · cases h
  | var v => cases h
  | fls => cases h
  | and p q => cases h
  | or p q => cases h
  | box p => cases h
  | dia p => cases h
theorem ty2_pair {F U T : Fm.Tree} (h : ty2 3 F U = some T) : T = .and F U := by
  unfold ty2 at h
  rw [if_pos rfl] at h
  exact (smallF_ok h).1.symm
theorem ty1_fst {A U T : Fm.Tree} (h : ty1 4 A U = some T) : ∃ q, U = .and T q := by
  unfold ty1 at h
  rw [if_pos rfl] at h
  cases U with
  | and p q => obtain rfl := Option.some.inj h; exact ⟨q, rfl⟩
  | var v => cases h
  | fls => cases h
  | or p q => cases h
  | imp p q => cases h
  | box p => cases h
  | dia p => cases h
theorem ty1_snd {A U T : Fm.Tree} (h : ty1 5 A U = some T) : ∃ p, U = .and p T := by
  unfold ty1 at h
  rw [if_neg (by decide), if_pos rfl] at h
  cases U with
  | and p q => obtain rfl := Option.some.inj h; exact ⟨p, rfl⟩
  | var v => cases h
  | fls => cases h
  | or p q => cases h
  | imp p q => cases h
  | box p => cases h
  | dia p => cases h
theorem ty1_inl {A U T : Fm.Tree} (h : ty1 6 A U = some T) : T = .or U A := by
  unfold ty1 at h
  rw [if_neg (by decide), if_neg (by decide), if_pos rfl] at h
  exact (smallF_ok h).1.symm
theorem ty1_inr {A U T : Fm.Tree} (h : ty1 7 A U = some T) : T = .or A U := by
  unfold ty1 at h
  rw [if_neg (by decide), if_neg (by decide), if_neg (by decide), if_pos rfl] at h
  exact (smallF_ok h).1.symm
/-- Contraction keeps the type. -/
theorem ty_par {t t' : Lm} (h : Par t t') : ∀ {G : List Fm.Tree} {T : Fm.Tree}, ty G t = some T → ty G t' = some T := by
  induction h with
  | v i => intro G T h; exact h
  | l _ ih =>
    intro G T h
    obtain ⟨B, h1, h2⟩ := ty_l.1 h
    exact ty_l.2 ⟨B, ih h1, h2⟩
  | u _ ih =>
    intro G T h
    obtain ⟨U, h1, h2⟩ := ty_u.1 h
    exact ty_u.2 ⟨U, ih h1, h2⟩
  | p _ _ ih1 ih2 =>
    intro G T h
    obtain ⟨F, U, h1, h2, h3⟩ := ty_p.1 h
    exact ty_p.2 ⟨F, U, ih1 h1, ih2 h2, h3⟩
  | c _ _ _ ih1 ih2 ih3 =>
    intro G T h
    obtain ⟨p, q, h1, h2, h3⟩ := ty_c.1 h
    exact ty_c.2 ⟨p, q, ih1 h1, ih2 h2, ih3 h3⟩
  | beta _ _ ih1 ih2 =>
    intro G T h
    obtain ⟨F, U, h1, h2, h3⟩ := ty_p.1 h
    obtain ⟨B, h4, h5⟩ := ty_l.1 h1
    have e1 := ty2_app h3
    have e2 := (smallF_ok h5).1
    rw [e1] at e2
    injection e2 with e3 e4
    subst e4
    rw [e3] at h4
    exact ty_inst (ih1 h4) (ih2 h2)
  | fst _ ih =>
    intro G T h
    obtain ⟨V, h1, h2⟩ := ty_u.1 h
    obtain ⟨F, U, h3, h4, h5⟩ := ty_p.1 h1
    obtain ⟨q, e1⟩ := ty1_fst h2
    have e2 := ty2_pair h5
    rw [e1] at e2
    injection e2 with e3 e4
    rw [e3]
    exact ih h3
  | snd _ ih =>
    intro G T h
    obtain ⟨V, h1, h2⟩ := ty_u.1 h
    obtain ⟨F, U, h3, h4, h5⟩ := ty_p.1 h1
    obtain ⟨q, e1⟩ := ty1_snd h2
    have e2 := ty2_pair h5
    rw [e1] at e2
    injection e2 with e3 e4
    rw [e4]
    exact ih h4
  | inl _ _ ih1 ih2 =>
    intro G T h
    obtain ⟨p, q, h1, h2, h3⟩ := ty_c.1 h
    obtain ⟨U, h4, h5⟩ := ty_u.1 h1
    have e1 := ty1_inl h5
    injection e1 with e3 e4
    rw [e3] at h2
    exact ty_inst (ih2 h2) (ih1 h4)
  | inr _ _ ih1 ih2 =>
    intro G T h
    obtain ⟨p, q, h1, h2, h3⟩ := ty_c.1 h
    obtain ⟨U, h4, h5⟩ := ty_u.1 h1
    have e1 := ty1_inr h5
    injection e1 with e3 e4
    rw [e4] at h3
    exact ty_inst (ih2 h3) (ih1 h4)
theorem ty_ps {t t' : Lm} (h : Ps t t') : ∀ {G : List Fm.Tree} {T : Fm.Tree}, ty G t = some T → ty G t' = some T := by
  induction h with
  | refl => intro G T h; exact h
  | step h1 _ ih => intro G T h; exact ih (ty_par h1 h)
end Lm
end Go.Proofs.YtdndclfjeajhiaaGreat

/- Copies of terms with greater numbers: raised and limitedTerm of the program, l26Shift and l26Made of the reference. -/
namespace Go.Proofs.YtdndclfjeajhiaaGreat
open Go.RowKit

theorem own_emptyT (w : World) : OwnT (w.alloc (.cells #[] 50)) w.heap.size (.slice (some ⟨w.heap.size, 0, none⟩) 0 0) [] :=
  World.ownsRow_lit (e := 50) (size := 3) w #[] 0 (Nat.le_refl _) (by omega) rfl

/-- slices.Clone: the same nodes in a row of the call's own; nil where it was nil. -/
theorem cloneT_c (v : Value) (xs : List Tn) (w : World) (h : Tms w v xs) (hn : xs.length ≤ 1048576) :
    Calls Tryz.prog 23 #[v] w (GivesT w xs) := by
  have q : ∀ (w : World) (a : Option Addr) (n c n' c' : Nat), (binOp .eql 25 (.slice a n c) (.slice none n' c')).run Tryz.prog w = .ok (.bool a.isNone) w := fun w a n c n' c' => Lib.run_eql_slice_nil w _ _ a n c n' c' Tryz.underlying25
  have he := own_emptyT w
  rcases h.open_ with ⟨rfl, rfl⟩ | ⟨b, o, c, rfl, hc, hm, hb, hf⟩
  · clear he h
    go_enter Tryz.func23, Tryz.ntmps23
    go_wp2_with fail
    go_ret
    exact ⟨_, rfl, OwnT.nil_ _ _, Grew.refl _⟩
  · clear hf
    go_enter Tryz.func23, Tryz.ntmps23
    go_wp2_with (first
      | (at_builtin; refine wpList_appT (w0 := w) _ _ rfl rfl _ [] rfl he ((Grew.refl w).alloc _) _ xs rfl (h.grew ((Grew.refl w).alloc _)) (by simp; omega) ?_; intro v1 w1 hown1 hg1 _))
    go_ret
    exact ⟨_, rfl, by simpa using hown1, hg1⟩

/-- A node with a number of at least k greater by d. -/
def raiseN (k d : Int) (x : Tn) : Tn := if x.1 = 0 ∧ k ≤ x.2.1 then (x.1, x.2.1 + d, x.2.2) else x
def raiseL (k d : Int) (xs : List Tn) : List Tn := xs.map (raiseN k d)
theorem raiseL_length (k d : Int) (xs : List Tn) : (raiseL k d xs).length = xs.length := by simp [raiseL]
theorem raise_tk {k d : Int} {xs : List Tn} {i : Nat} (h : i < xs.length) : tk (raiseL k d xs) i = tk xs i := by
  simp only [raiseL, tk, List.getD, List.getElem?_map, List.getElem?_eq_getElem h, Option.map_some, Option.getD_some, raiseN]
  split <;> rfl
theorem raise_tt {k d : Int} {xs : List Tn} {i : Nat} (h : i < xs.length) : tt (raiseL k d xs) i = tt xs i := by
  simp only [raiseL, tt, List.getD, List.getElem?_map, List.getElem?_eq_getElem h, Option.map_some, Option.getD_some, raiseN]
  split <;> rfl
theorem raise_tn {k d : Int} {xs : List Tn} {i : Nat} (h : i < xs.length) : tn (raiseL k d xs) i = if tk xs i = 0 ∧ k ≤ tn xs i then tn xs i + d else tn xs i := by
  simp only [raiseL, tn, tk, List.getD, List.getElem?_map, List.getElem?_eq_getElem h, Option.map_some, Option.getD_some, raiseN]
  split <;> rfl
/-- The numbers are small. -/
def NumOk (xs : List Tn) : Prop := ∀ i, i < xs.length → 0 ≤ tn xs i ∧ tn xs i ≤ 1000000
/-- The numbers behind the first j rounds. -/
def mixN (k d : Int) (xs : List Tn) (j i : Nat) : Int := if i < j then tn (raiseL k d xs) i else tn xs i
theorem mix_zero (k d : Int) (xs : List Tn) (i : Nat) : mixN k d xs 0 i = tn xs i := by simp [mixN]
theorem mix_end {k d : Int} {xs : List Tn} {j i : Nat} (h : i < j) : mixN k d xs j i = tn (raiseL k d xs) i := by simp [mixN, h]
theorem mix_at (k d : Int) (xs : List Tn) (j : Nat) : mixN k d xs j j = tn xs j := by simp [mixN]
theorem mix_other {k d : Int} {xs : List Tn} {j i : Nat} (h : i ≠ j) : mixN k d xs (j + 1) i = mixN k d xs j i := by
  unfold mixN
  by_cases h1 : i < j
  · rw [if_pos h1, if_pos (by omega)]
  · rw [if_neg h1, if_neg (by omega)]
theorem mix_same {k d : Int} {xs : List Tn} {j : Nat} (h : tn (raiseL k d xs) j = tn xs j) (i : Nat) : mixN k d xs (j + 1) i = mixN k d xs j i := by
  by_cases hij : i = j
  · subst hij
    rw [mix_at, mix_end (by omega), h]
  · exact mix_other hij
/-- The block's cells behind j rounds. -/
def Mix (cur : Array Value) (k d : Int) (xs : List Tn) (j : Nat) : Prop := ∀ i, i < xs.length → cur[i * 3]? = some (.int .i64 (tk xs i)) ∧ cur[i * 3 + 1]? = some (.int .i64 (mixN k d xs j i)) ∧ cur[i * 3 + 2]? = some (.string (tt xs i))
theorem Mix.keep {cur : Array Value} {k d : Int} {xs : List Tn} {j : Nat} (h : Mix cur k d xs j) (he : tn (raiseL k d xs) j = tn xs j) : Mix cur k d xs (j + 1) := fun i hi => by
  rw [mix_same he]; exact h i hi
theorem Mix.set {cur : Array Value} {k d : Int} {xs : List Tn} {j : Nat} (h : Mix cur k d xs j) (hs : xs.length * 3 ≤ cur.size) (hj : j < xs.length) : Mix (cur.setIfInBounds (j * 3 + 1) (.int .i64 (tn (raiseL k d xs) j))) k d xs (j + 1) := fun i hi => by
  obtain ⟨h1, h2, h3⟩ := h i hi
  refine ⟨?_, ?_, ?_⟩
  · rw [Array.getElem?_setIfInBounds, if_neg (by omega)]; exact h1
  · rw [Array.getElem?_setIfInBounds]
    by_cases hij : i = j
    · subst hij
      rw [if_pos rfl, if_pos (by omega), mix_end (by omega)]
    · rw [if_neg (by omega), mix_other hij]
      exact h2
  · rw [Array.getElem?_setIfInBounds, if_neg (by omega)]; exact h3
theorem Mix.fin {w : World} {B g c : Nat} {cur : Array Value} {k d : Int} {xs : List Tn} (h : Mix cur k d xs xs.length) (hB : B ≤ g) (hg : w.heap[g]? = some (.cells cur 50 (0, 0))) (hnc : xs.length ≤ c) (hcm : c ≤ 9223372036854775807) (hcs : cur.size = c * 3) : OwnT w B (.slice (some ⟨g, 0, none⟩) xs.length c) (raiseL k d xs) := by
  have := OwnT.mk_ (w := w) (B := B) (xs := raiseL k d xs) (g := g) (c := c) (cur := cur) hB hg (by rw [raiseL_length]; exact hnc) hcm hcs (fun i hi => by
    rw [raiseL_length] at hi
    rw [raise_tk hi, raise_tt hi]
    have := h i hi
    rw [mix_end hi] at this
    exact this)
  rw [raiseL_length] at this
  exact this

theorem raised_c (v : Value) (xs : List Tn) (k d : Int) (w : World) (h : Tms w v xs) (hn : xs.length ≤ 1048576) (hok : NumOk xs) (hd0 : 0 ≤ d) (hd1 : d ≤ 1000000) :
    Calls Tryz.prog 115 #[v, .int .i64 k, .int .i64 d] w (GivesT w (raiseL k d xs)) := by
  have HOK := Lib.hid hok
  have HCL := Lib.hid (cloneT_c v xs w h hn)
  clear h hok
  go_enter Tryz.func115, Tryz.ntmps115
  go_wp2_with fail
  refine HCL.out.mono ?_
  rintro e w1 ⟨u, rfl, ho, hg1⟩
  rcases ho.open_ with ⟨rfl, rfl⟩ | ⟨g, c, cur0, rfl, hgB, hgl, hh0, hnc, hcm, hcs0, hc0⟩
  · clear ho
    go_wp2_with fail
    refine wp_loop_rounds 1 ?_; rw [rounds_succ]
    go_wp2_with fail
    go_ret
    exact ⟨_, rfl, OwnT.nil_ _ _, hg1⟩
  have HFIN := Lib.hid (fun W cur hm (hh : W.heap[g]? = some (.cells cur 50 (0, 0))) hs => Mix.fin (w := W) (B := w.heap.size) (g := g) (c := c) (cur := cur) (k := k) (d := d) (xs := xs) hm hgB hh hnc hcm hs)
  clear ho
  generalize hN : xs.length = n at *
  go_wp2_with fail
  go_loopw [8, 14] (fun _ i wr => ∃ (j : Nat) (cur : Array Value), j ≤ n ∧ i = .int .i64 j ∧ wr.heap[g]? = some (.cells cur 50 (0, 0)) ∧ cur.size = c * 3 ∧ Grew w wr ∧ Hid (Mix cur k d xs j)) (fun _ i _ => n - (intOf i).toNat)
  case atStart => exact ⟨0, cur0, Nat.zero_le _, rfl, hh0, hcs0, hg1, fun i hi => by rw [mix_zero]; exact hc0 i (by omega)⟩
  case round =>
    clear hh0 hcs0 hc0
    obtain ⟨j, cur, hj, rfl, hh, hcs, hB, HM⟩ := hrel
    by_cases hlt : j < n
    · obtain ⟨m1, m2, m3⟩ := HM.out j (by omega)
      rw [mix_at] at m2
      have hr := Lib.hid (raise_tn (k := k) (d := d) (show j < xs.length by omega))
      obtain ⟨ho1, ho2⟩ := HOK.out j (by omega)
      have k1 : ∀ W, Grew wr W → W.cell? ⟨g, j * 3, none⟩ = some (.int .i64 (tk xs j)) := fun W hW => (hW.cell (p := ⟨g, j * 3, none⟩) (blk_lt hh)).trans ((blk_cell hh _).trans m1)
      have k2 : ∀ W, Grew wr W → W.cell? ⟨g, j * 3 + 1, none⟩ = some (.int .i64 (tn xs j)) := fun W hW => (hW.cell (p := ⟨g, j * 3 + 1, none⟩) (blk_lt hh)).trans ((blk_cell hh _).trans m2)
      have k3 : ∀ W, Grew wr W → W.cell? ⟨g, j * 3 + 2, none⟩ = some (.string (tt xs j)) := fun W hW => (hW.cell (p := ⟨g, j * 3 + 2, none⟩) (blk_lt hh)).trans ((blk_cell hh _).trans m3)
      have hrr := Grew.refl wr
      have f1 : ∀ W, Grew wr W → W.frozen? ⟨g, j * 3 + 1, none⟩ = false := fun W hW => blk_frozen ((hW.block (blk_lt hh)).trans hh) _
      have HH := Lib.hid hh
      clear m1 m2 m3 hh
      by_cases hk0 : tk xs j = 0
      · by_cases hkn : k ≤ tn xs j
        · have hv := Lib.hid (hr.out.trans (if_pos ⟨hk0, hkn⟩))
          have HS := Lib.hid (HM.out.set (by omega) (show j < xs.length by omega))
          rw [hk0] at k1
          clear hk0 hr HM
          generalize tn xs j = a at *
          generalize tt xs j = z at *
          have hra := hrr.alloc (.cells #[.int .i64 0, .int .i64 a, .string z] 50)
          go_wp2_with fail
          go_roundw
          case rel => exact ⟨j + 1, _, by omega, by go_num, by rw [hv.out] at HS; exact blk_set (((hrr.alloc _).block (blk_lt HH.out)).trans HH.out) _ _, by simp [hcs], (hB.alloc _).setCell hgB _, by rw [hv.out] at HS; exact HS.out⟩
          case measure => simp [intOf]; omega
        · have hv := Lib.hid (hr.out.trans (if_neg (fun h => hkn h.2)))
          have HS := Lib.hid (HM.out.keep hv.out)
          rw [hk0] at k1
          clear hk0 hr HM
          generalize tn xs j = a at *
          generalize tt xs j = z at *
          go_wp2_with fail
          go_roundw
          case rel => exact ⟨j + 1, cur, by omega, by go_num, ((hrr.alloc _).block (blk_lt HH.out)).trans HH.out, hcs, hB.alloc _, HS.out⟩
          case measure => simp [intOf]; omega
      · have hv := Lib.hid (hr.out.trans (if_neg (fun h => hk0 h.1)))
        have HS := Lib.hid (HM.out.keep hv.out)
        have hk0' : (tk xs j == 0) = false := by simpa using hk0
        clear hk0 hr HM
        generalize tk xs j = kk at *
        generalize tn xs j = a at *
        generalize tt xs j = z at *
        go_wp2_with fail
        go_roundw
        case rel => exact ⟨j + 1, cur, by omega, by go_num, ((hrr.alloc _).block (blk_lt HH.out)).trans HH.out, hcs, hB.alloc _, HS.out⟩
        case measure => simp [intOf]; omega
    · obtain rfl : j = n := by omega
      have hf := Lib.hid (HFIN.out _ _ HM.out hh hcs)
      go_wp2_with fail
      go_ret
      exact ⟨_, rfl, hf.out, hB⟩

theorem l26Shift_c (v : Value) (xs : List Tn) (k d : Int) (w : World) (h : Tms w v xs) (hn : xs.length ≤ 1048576) (hok : NumOk xs) (hd0 : 0 ≤ d) (hd1 : d ≤ 1000000) :
    Calls Tryz.prog 116 #[v, .int .i64 k, .int .i64 d] w (GivesT w (raiseL k d xs)) := by
  have HOK := Lib.hid hok
  have he := own_emptyT w
  go_enter Tryz.func116, Tryz.ntmps116
  go_wp2_with (first
    | (at_builtin; refine wpList_appT (w0 := w) _ _ rfl rfl _ [] rfl he ((Grew.refl w).alloc _) _ xs rfl (h.grew ((Grew.refl w).alloc _)) (by simp; omega) ?_; intro u w1 ho hg1 _))
  rw [List.nil_append] at ho
  clear he h hok
  rcases ho.open_ with ⟨rfl, rfl⟩ | ⟨g, c, cur0, rfl, hgB, hgl, hh0, hnc, hcm, hcs0, hc0⟩
  · clear ho
    go_wp2_with fail
    refine wp_loop_rounds 1 ?_; rw [rounds_succ]
    go_wp2_with fail
    go_ret
    exact ⟨_, rfl, OwnT.nil_ _ _, hg1⟩
  have HFIN := Lib.hid (fun W cur hm (hh : W.heap[g]? = some (.cells cur 50 (0, 0))) hs => Mix.fin (w := W) (B := w.heap.size) (g := g) (c := c) (cur := cur) (k := k) (d := d) (xs := xs) hm hgB hh hnc hcm hs)
  clear ho
  generalize hN : xs.length = n at *
  go_wp2_with fail
  go_loopw [8] (fun i wr => ∃ (j : Nat) (cur : Array Value), j ≤ n ∧ i = .int .i64 j ∧ wr.heap[g]? = some (.cells cur 50 (0, 0)) ∧ cur.size = c * 3 ∧ Grew w wr ∧ Hid (Mix cur k d xs j)) (fun i _ => n - (intOf i).toNat)
  case atStart => exact ⟨0, cur0, Nat.zero_le _, rfl, hh0, hcs0, hg1, fun i hi => by rw [mix_zero]; exact hc0 i (by omega)⟩
  case round =>
    clear hh0 hcs0 hc0
    obtain ⟨j, cur, hj, rfl, hh, hcs, hB, HM⟩ := hrel
    by_cases hlt : j < n
    · obtain ⟨m1, m2, m3⟩ := HM.out j (by omega)
      rw [mix_at] at m2
      have hr := Lib.hid (raise_tn (k := k) (d := d) (show j < xs.length by omega))
      obtain ⟨ho1, ho2⟩ := HOK.out j (by omega)
      have k1 : ∀ W, Grew wr W → W.cell? ⟨g, j * 3, none⟩ = some (.int .i64 (tk xs j)) := fun W hW => (hW.cell (p := ⟨g, j * 3, none⟩) (blk_lt hh)).trans ((blk_cell hh _).trans m1)
      have k2 : ∀ W, Grew wr W → W.cell? ⟨g, j * 3 + 1, none⟩ = some (.int .i64 (tn xs j)) := fun W hW => (hW.cell (p := ⟨g, j * 3 + 1, none⟩) (blk_lt hh)).trans ((blk_cell hh _).trans m2)
      have k3 : ∀ W, Grew wr W → W.cell? ⟨g, j * 3 + 2, none⟩ = some (.string (tt xs j)) := fun W hW => (hW.cell (p := ⟨g, j * 3 + 2, none⟩) (blk_lt hh)).trans ((blk_cell hh _).trans m3)
      have hrr := Grew.refl wr
      have f1 : ∀ W, Grew wr W → W.frozen? ⟨g, j * 3 + 1, none⟩ = false := fun W hW => blk_frozen ((hW.block (blk_lt hh)).trans hh) _
      have HH := Lib.hid hh
      clear m1 m2 m3 hh
      by_cases hk0 : tk xs j = 0
      · by_cases hkn : k ≤ tn xs j
        · have hv := Lib.hid (hr.out.trans (if_pos ⟨hk0, hkn⟩))
          have HS := Lib.hid (HM.out.set (by omega) (show j < xs.length by omega))
          rw [hk0] at k1
          clear hk0 hr HM
          generalize tn xs j = a at *
          generalize tt xs j = z at *
          go_wp2_with fail
          go_roundw
          case rel => exact ⟨j + 1, _, by omega, by go_num, blk_set HH.out _ _, by simp [hcs], hB.setCell hgB _, by rw [hv.out] at HS; exact HS.out⟩
          case measure => simp [intOf]; omega
        · have hv := Lib.hid (hr.out.trans (if_neg (fun h => hkn h.2)))
          have HS := Lib.hid (HM.out.keep hv.out)
          rw [hk0] at k1
          clear hk0 hr HM
          generalize tn xs j = a at *
          generalize tt xs j = z at *
          go_wp2_with fail
          go_roundw
          case rel => exact ⟨j + 1, cur, by omega, by go_num, HH.out, hcs, hB, HS.out⟩
          case measure => simp [intOf]; omega
      · have hv := Lib.hid (hr.out.trans (if_neg (fun h => hk0 h.1)))
        have HS := Lib.hid (HM.out.keep hv.out)
        have hk0' : (tk xs j == 0) = false := by simpa using hk0
        clear hk0 hr HM
        generalize tk xs j = kk at *
        generalize tn xs j = a at *
        generalize tt xs j = z at *
        go_wp2_with fail
        go_roundw
        case rel => exact ⟨j + 1, cur, by omega, by go_num, HH.out, hcs, hB, HS.out⟩
        case measure => simp [intOf]; omega
    · obtain rfl : j = n := by omega
      have hf := Lib.hid (HFIN.out _ _ HM.out hh hcs)
      go_wp2_with fail
      go_ret
      exact ⟨_, rfl, hf.out, hB⟩
end Go.Proofs.YtdndclfjeajhiaaGreat

/- A term in which each variable is replaced. No program is in sight. -/
namespace Go.Proofs.YtdndclfjeajhiaaGreat
open Go.RowKit
namespace Tr

def mapN (f : Tn → Int → List Tn) : Tm → Int → List Tn
  | .t0 x, n => f x n
  | .t1 x a, n => x :: mapN f a (n + bd x.1 0)
  | .t2 x a b, n => x :: (mapN f a (n + bd x.1 0) ++ mapN f b (n + bd x.1 1))
  | .t3 x a b c, n => x :: (mapN f a (n + bd x.1 0) ++ (mapN f b (n + bd x.1 1) ++ mapN f c (n + bd x.1 2)))
/-- The first j parts, replaced. -/
def mapL (f : Tn → Int → List Tn) (t : Tm) (n : Int) : Nat → List Tn
  | 0 => [hd t]
  | j + 1 => mapL f t n j ++ mapN f (kid t j) (n + bd (hd t).1 j)
theorem mapN_kids {f : Tn → Int → List Tn} {t : Tm} {n : Int} (h : kids t ≠ []) : mapN f t n = mapL f t n (kids t).length := by
  cases t with
  | t0 x => exact absurd rfl h
  | t1 x a => simp [mapN, mapL, kids, hd, kid]
  | t2 x a b => simp [mapN, mapL, kids, hd, kid]
  | t3 x a b c => simp [mapN, mapL, kids, hd, kid]
theorem mapN_leaf {f : Tn → Int → List Tn} {t : Tm} {n : Int} (h : kids t = []) : mapN f t n = f (hd t) n := by
  cases t with
  | t0 x => rfl
  | t1 x a => cases h
  | t2 x a b => cases h
  | t3 x a b c => cases h
theorem mapN_len {f : Tn → Int → List Tn} {M : Nat} (hM : 1 ≤ M) (hf : ∀ x n, (f x n).length ≤ M) : ∀ t n, (mapN f t n).length ≤ (enc t).length * M := by
  intro t
  induction t with
  | t0 x => intro n; simp [mapN, enc]; exact hf x n
  | t1 x a ha =>
    intro n
    have := ha (n + bd x.1 0)
    simp only [mapN, enc, List.length_cons, Nat.add_mul, Nat.one_mul] at *
    omega
  | t2 x a b ha hb =>
    intro n
    have h1 := ha (n + bd x.1 0)
    have h2 := hb (n + bd x.1 1)
    simp only [mapN, enc, List.length_cons, List.length_append, Nat.add_mul, Nat.one_mul] at *
    omega
  | t3 x a b c ha hb hc =>
    intro n
    have h1 := ha (n + bd x.1 0)
    have h2 := hb (n + bd x.1 1)
    have h3 := hc (n + bd x.1 2)
    simp only [mapN, enc, List.length_cons, List.length_append, Nat.add_mul, Nat.one_mul] at *
    omega
theorem mapL_len {f : Tn → Int → List Tn} {M : Nat} (hM : 1 ≤ M) (hf : ∀ x n, (f x n).length ≤ M) {t : Tm} {n : Int} : ∀ j, j ≤ (kids t).length → (mapL f t n j).length ≤ off t j * M := by
  intro j
  induction j with
  | zero => intro _; rw [off_zero]; simp [mapL]; omega
  | succ j ih =>
    intro hj
    have h1 := ih (by omega)
    have h2 := mapN_len hM hf (kid t j) (n + bd (hd t).1 j)
    rw [mapL, List.length_append, off_next (by omega), Nat.add_mul]
    omega
theorem mapN_mem {P : Tn → Prop} {f : Tn → Int → List Tn} (hf : ∀ x n, P x → ∀ y ∈ f x n, P y) : ∀ t n, (∀ x ∈ enc t, P x) → ∀ y ∈ mapN f t n, P y := by
  intro t
  induction t with
  | t0 x => intro n h y hy; exact hf x n (h x (by simp [enc])) y hy
  | t1 x a ha =>
    intro n h y hy
    simp only [mapN, List.mem_cons] at hy
    rcases hy with rfl | hy
    · exact h _ (by simp [enc])
    · exact ha _ (fun z hz => h z (by simp [enc, hz])) y hy
  | t2 x a b ha hb =>
    intro n h y hy
    simp only [mapN, List.mem_cons, List.mem_append] at hy
    rcases hy with rfl | hy | hy
    · exact h _ (by simp [enc])
    · exact ha _ (fun z hz => h z (by simp [enc, hz])) y hy
    · exact hb _ (fun z hz => h z (by simp [enc, hz])) y hy
  | t3 x a b c ha hb hc =>
    intro n h y hy
    simp only [mapN, List.mem_cons, List.mem_append] at hy
    rcases hy with rfl | hy | hy | hy
    · exact h _ (by simp [enc])
    · exact ha _ (fun z hz => h z (by simp [enc, hz])) y hy
    · exact hb _ (fun z hz => h z (by simp [enc, hz])) y hy
    · exact hc _ (fun z hz => h z (by simp [enc, hz])) y hy
end Tr
theorem fits_mem {xs : List Tn} : FitsT xs ↔ ∀ x ∈ xs, x.2.2.size ≤ 1048576 := by
  constructor
  · intro h x hx
    obtain ⟨i, hi, rfl⟩ := List.getElem_of_mem hx
    have := h i hi
    rw [tk_lt hi]
    exact this
  · intro h i hi
    have := h xs[i] (List.getElem_mem hi)
    rw [tk_lt hi] at this
    exact this
theorem put_fits {n : Int} {u : List Tn} {t : Tr.Tm} {m : Int} (hu : FitsT u) (ht : FitsT (Tr.enc t)) : FitsT (Tr.mapN (fun x now => if x.2.1 = n then raiseL n (now - n - 1) u else if n < x.2.1 then [(x.1, x.2.1 - 1, x.2.2)] else [x]) t m) := by
  rw [fits_mem] at *
  refine Tr.mapN_mem (P := fun x => x.2.2.size ≤ 1048576) ?_ t m ht
  intro x now hx y hy
  split at hy
  · simp only [raiseL, List.mem_map] at hy
    obtain ⟨z, hz, rfl⟩ := hy
    have := hu z hz
    unfold raiseN
    split <;> exact this
  · split at hy
    · simp at hy; subst hy; exact hx
    · simp at hy; subst hy; exact hx
/-- What a variable is replaced by when u is put for n. -/
def putN (n : Int) (u : List Tn) (x : Tn) (now : Int) : List Tn := if x.2.1 = n then raiseL n (now - n - 1) u else if n < x.2.1 then [(x.1, x.2.1 - 1, x.2.2)] else [x]
theorem putN_len (n : Int) (u : List Tn) (x : Tn) (now : Int) : (putN n u x now).length ≤ u.length + 1 := by
  unfold putN
  split
  · rw [raiseL_length]; omega
  · split <;> simp
end Go.Proofs.YtdndclfjeajhiaaGreat

/- Appends of numbers. -/
namespace Go.Proofs.YtdndclfjeajhiaaGreat
open Go.RowKit

/-- 'out = append(out, x)' onto a row of numbers of the call's own. -/
theorem wpList_appI {ops : Array Oper} {rest : List Oper} {o : Oper} {a : Act} {Q : Exit → Act → World → Prop} {w w0 : World} (s x : Operand) (hgd : o.guard = none)
    (ho : o.op = .call { callee := .builtin .append, args := #[s, x], argTypes := #[35, 35] })
    (v : Value) (L : List Int) (hs : a.eval s = v) (hown : OwnI w w0.heap.size v L) (hg : Grew w0 w) (vx : Value) (k : Int) (hx : a.eval x = vx) (hr : Rd w 1 vx 1 [.int .i64 k]) (hn : L.length ≤ 1048576)
    (h : ∀ v' w', OwnI w' w0.heap.size v' (L ++ [k]) → Grew w0 w' → w.grownBy w' v.ownBlock → wpList Tryz.prog ops Q rest (a.put o.dst v') w') : wpList Tryz.prog ops Q (o :: rest) a w := by
  obtain ⟨i0, hi0, hz0, hz1, hz2⟩ := info_parts Tryz.infoI
  refine wpList_append_rd w hgd s x _ ho w0.heap.size 2 i0 _ 1 8 Tryz.underlying35 hi0 hz0 hz1 hz2 rfl (by omega) v L.length (icells L) hs hown vx 1 [.int .i64 k] hx hr (by simp [Value.oneCell']) (by unfold maxLen; omega) (by omega) hg.size ?_
  intro v' w' h1 h2 h3
  refine h v' w' ?_ (hg.grown h2 fun k hk => (hown.lt k hk).1) h2
  unfold OwnI
  rw [List.length_append, icells_append]
  exact h1
theorem rd_litI (w : World) (k : Int) (t : TypeId) : Rd (w.alloc (.cells #[.int .i64 k] t)) 1 (.slice (some ⟨w.heap.size, 0, none⟩) 1 1) 1 [.int .i64 k] := by
  refine ⟨rfl, by omega, .inr ⟨w.heap.size, 0, 1, rfl, by omega, by omega, by simp, fun j x hx => ?_⟩⟩
  have hj : j = 0 := by
    have := (List.getElem?_eq_some_iff.1 hx).1
    simp at this
    omega
  subst hj
  simp at hx
  subst hx
  simp
theorem own_emptyI (w : World) : OwnI (w.alloc (.cells #[] 2)) w.heap.size (.slice (some ⟨w.heap.size, 0, none⟩) 0 0) [] :=
  World.ownsRow_lit (e := 2) (size := 1) w #[] 0 (Nat.le_refl _) (by omega) rfl
end Go.Proofs.YtdndclfjeajhiaaGreat

/- The redexes of a term: redexes of the program, l26Redexes of the reference. -/
namespace Go.Proofs.YtdndclfjeajhiaaGreat
open Go.RowKit

/-- Is a node of the one kind with a first part of the other a redex? -/
def rdx (a b : Int) : Bool := if a == 2 then b == 1 else if a == 4 || a == 5 then b == 3 else if a == 8 then (b == 6 || b == 7) else false
def rdxAt (xs : List Tn) (i : Nat) : Bool := decide (i + 1 < xs.length) && rdx (tk xs i) (tk xs (i + 1))
def redL (xs : List Tn) : Nat → List Int
  | 0 => []
  | j + 1 => if rdxAt xs j then redL xs j ++ [(j : Int)] else redL xs j
theorem redL_len (xs : List Tn) (j : Nat) : (redL xs j).length ≤ j := by
  induction j with
  | zero => simp [redL]
  | succ j ih =>
    rw [redL]
    split
    · rw [List.length_append, List.length_singleton]; omega
    · omega

theorem rdx_kinds (a : Int) : a = 2 ∨ a = 4 ∨ a = 5 ∨ a = 8 ∨ ((a == 2) = false ∧ (a == 4) = false ∧ (a == 5) = false ∧ (a == 8) = false) := by
  by_cases h2 : a = 2
  · exact .inl h2
  by_cases h4 : a = 4
  · exact .inr (.inl h4)
  by_cases h5 : a = 5
  · exact .inr (.inr (.inl h5))
  by_cases h8 : a = 8
  · exact .inr (.inr (.inr (.inl h8)))
  · exact .inr (.inr (.inr (.inr ⟨by simpa using h2, by simpa using h4, by simpa using h5, by simpa using h8⟩)))

theorem isRedex_c (v : Value) (xs : List Tn) (i : Nat) (w : World) (h : Tms w v xs) (hi : i < xs.length) (hn : xs.length ≤ 1048576) :
    Calls Tryz.prog 37 #[v, .int .i64 i] w fun e w' => e = .returned (.bool (rdxAt xs i)) ∧ Grew w w' := by
  rcases h.open_ with ⟨_, rfl⟩ | ⟨b, o, c, rfl, hc, hm, hb, hf⟩
  · simp at hi
  unfold rdxAt
  by_cases hl : i + 1 < xs.length
  · rw [decide_eq_true hl, Bool.true_and]
    have k1 : w.cell? ⟨b, o + i * 3, none⟩ = some (.int .i64 (tk xs i)) := (hf i hi _ (Grew.refl w)).1
    have k2 : w.cell? ⟨b, o + (i + 1) * 3, none⟩ = some (.int .i64 (tk xs (i + 1))) := (hf (i + 1) hl _ (Grew.refl w)).1
    clear hf h
    generalize tk xs i = x at *
    generalize tk xs (i + 1) = y at *
    generalize xs.length = n at *
    rcases rdx_kinds x with rfl | rfl | rfl | rfl | ⟨n2, n4, n5, n8⟩
    · go_enter Tryz.func37, Tryz.ntmps37
      go_wp2_with fail
      go_ret
      exact ⟨rfl, Grew.refl _⟩
    · go_enter Tryz.func37, Tryz.ntmps37
      go_wp2_with fail
      go_ret
      exact ⟨rfl, Grew.refl _⟩
    · go_enter Tryz.func37, Tryz.ntmps37
      go_wp2_with fail
      go_ret
      exact ⟨rfl, Grew.refl _⟩
    · cases h6 : (y == 6) with
      | true =>
        have hr : rdx 8 y = true := by simp [rdx, h6]
        rw [hr]
        go_enter Tryz.func37, Tryz.ntmps37
        go_wp2_with fail
        go_ret
        exact ⟨rfl, Grew.refl _⟩
      | false =>
        have hr : rdx 8 y = (y == 7) := by simp [rdx, h6]
        rw [hr]
        go_enter Tryz.func37, Tryz.ntmps37
        go_wp2_with fail
        go_ret
        exact ⟨by simp, Grew.refl _⟩
    · have hr : rdx x y = false := by simp [rdx, n2, n4, n5, n8]
      rw [hr]
      go_enter Tryz.func37, Tryz.ntmps37
      go_wp2_with fail
      go_ret
      exact ⟨rfl, Grew.refl _⟩
  · rw [decide_eq_false hl, Bool.false_and]
    have hge : xs.length ≤ i + 1 := by omega
    clear hf h
    generalize xs.length = n at *
    go_enter Tryz.func37, Tryz.ntmps37
    go_wp2_with fail
    go_ret
    exact ⟨rfl, Grew.refl _⟩

theorem redexes_c (v : Value) (xs : List Tn) (w : World) (h : Tms w v xs) (hn : xs.length ≤ 1048576) :
    Calls Tryz.prog 31 #[v] w (GivesI w (redL xs xs.length)) := by
  have HR := Lib.hid (fun i (hi : i < xs.length) W (hW : Grew w W) => isRedex_c v xs i W (h.grew hW) hi hn)
  have HL := Lib.hid (redL_len xs)
  obtain ⟨A, c, rfl⟩ := tms_slice h
  clear h
  generalize hN : xs.length = n at *
  go_enter Tryz.func31, Tryz.ntmps31
  go_wp2_with fail
  go_loopw [3, 4, 7] (fun vv _ i wr => ∃ j : Nat, j ≤ n ∧ i = .int .i64 j ∧ OwnI wr w.heap.size vv (redL xs j) ∧ Grew w wr) (fun _ _ i _ => n - (intOf i).toNat)
  case atStart => exact ⟨0, Nat.zero_le _, rfl, OwnI.nil_ _ _, Grew.refl _⟩
  case round =>
    obtain ⟨j, hj, rfl, hO, hB⟩ := hrel
    by_cases hlt : j < n
    · have hR := Lib.hid (HR.out j hlt)
      have hl := HL.out j
      have hstep : redL xs (j + 1) = if rdxAt xs j then redL xs j ++ [(j : Int)] else redL xs j := rfl
      have HSt := Lib.hid hstep
      clear hstep
      generalize redL xs j = L at *
      cases hq : rdxAt xs j with
      | true =>
        rw [hq] at hR
        have hv := Lib.hid (HSt.out.trans (by rw [hq]; rfl : (if rdxAt xs j then L ++ [(j : Int)] else L) = L ++ [(j : Int)]))
        go_wp2_with fail
        refine (hR.out _ hB).mono ?_
        rintro e w1 ⟨rfl, hg1⟩
        have hB1 := hB.trans hg1
        have hO1 := hO.grew (hg1.trans ((Grew.refl w1).alloc (.cells #[.int .i64 (j : Int)] 2)))
        go_wp2_with (first | (at_builtin; refine wpList_appI (w0 := w) _ _ rfl rfl _ L rfl hO1 (hB1.alloc _) _ (j : Int) rfl (rd_litI _ _ _) (by omega) ?_; intro v2 w2 hown2 hg2 _))
        go_roundw
        case rel => exact ⟨j + 1, by omega, by go_num, by rw [hv.out]; exact hown2, hg2⟩
        case measure => simp [intOf]; omega
      | false =>
        rw [hq] at hR
        have hv := Lib.hid (HSt.out.trans (by rw [hq]; rfl : (if rdxAt xs j then L ++ [(j : Int)] else L) = L))
        go_wp2_with fail
        refine (hR.out _ hB).mono ?_
        rintro e w1 ⟨rfl, hg1⟩
        go_wp2_with fail
        go_roundw
        case rel => exact ⟨j + 1, by omega, by go_num, by rw [hv.out]; exact hO.grew hg1, hB.trans hg1⟩
        case measure => simp [intOf]; omega
    · obtain rfl : j = n := by omega
      go_wp2_with fail
      go_ret
      exact ⟨_, rfl, hO, hB⟩

theorem l26Redex_c (v : Value) (xs : List Tn) (i : Nat) (b o c : Nat) (w : World) (h : Tms w (.slice (some ⟨b, o, none⟩) xs.length c) xs) (hc : xs.length ≤ c) (hm : c ≤ 9223372036854775807) (hi : i < xs.length) (hn : xs.length ≤ 1048576)
    (hv : v = .slice (some ⟨b, o + i * 3, none⟩) (xs.length - i) (c - i)) :
    Calls Tryz.prog 42 #[v] w fun e w' => e = .returned (.bool (rdxAt xs i)) ∧ Grew w w' := by
  subst hv
  have hsub := h.sub i (xs.length - i) (c - i) (by omega) (by omega) (by omega)
  have hlen : ((xs.drop i).take (xs.length - i)).length = xs.length - i := by simp
  rcases h.open_ with ⟨h0, _⟩ | ⟨b', o', c', hv, hc', hm', hb, hf⟩
  · cases h0
  obtain ⟨⟨rfl, rfl⟩, _⟩ : (b = b' ∧ o = o') ∧ c = c' := by simpa using hv
  unfold rdxAt
  by_cases hl : i + 1 < xs.length
  · rw [decide_eq_true hl, Bool.true_and]
    have k1 : w.cell? ⟨b, o + i * 3, none⟩ = some (.int .i64 (tk xs i)) := (hf i hi _ (Grew.refl w)).1
    have k2 : w.cell? ⟨b, o + i * 3 + 3, none⟩ = some (.int .i64 (tk xs (i + 1))) := by
      have := (hf (i + 1) hl _ (Grew.refl w)).1
      rwa [show o + (i + 1) * 3 = o + i * 3 + 3 by omega] at this
    clear hf h hsub hlen hv hc'
    generalize tk xs i = x at *
    generalize tk xs (i + 1) = y at *
    generalize o + i * 3 = oo at *
    obtain ⟨m, hm2⟩ : ∃ m, xs.length - i = m + 2 := ⟨xs.length - i - 2, by omega⟩
    rw [hm2]
    have hmb : m ≤ 1048576 := by omega
    have hcm : m + 2 ≤ c - i := by omega
    have hcm2 : c - i ≤ 9223372036854775807 := by omega
    generalize c - i = cc at *
    clear hm2 hl hi hc hm
    rcases rdx_kinds x with rfl | rfl | rfl | rfl | ⟨n2, n4, n5, n8⟩
    · go_enter Tryz.func42, Tryz.ntmps42
      go_wp2_with fail
      go_ret
      exact ⟨rfl, Grew.refl _⟩
    · go_enter Tryz.func42, Tryz.ntmps42
      go_wp2_with fail
      go_ret
      exact ⟨rfl, Grew.refl _⟩
    · go_enter Tryz.func42, Tryz.ntmps42
      go_wp2_with fail
      go_ret
      exact ⟨rfl, Grew.refl _⟩
    · cases h6 : (y == 6) with
      | true =>
        have hr : rdx 8 y = true := by simp [rdx, h6]
        rw [hr]
        go_enter Tryz.func42, Tryz.ntmps42
        go_wp2_with fail
        go_ret
        exact ⟨rfl, Grew.refl _⟩
      | false =>
        have hr : rdx 8 y = (y == 7) := by simp [rdx, h6]
        rw [hr]
        go_enter Tryz.func42, Tryz.ntmps42
        go_wp2_with fail
        go_ret
        exact ⟨by simp, Grew.refl _⟩
    · have hr : rdx x y = false := by simp [rdx, n2, n4, n5, n8]
      rw [hr]
      go_enter Tryz.func42, Tryz.ntmps42
      go_wp2_with fail
      go_ret
      exact ⟨rfl, Grew.refl _⟩
  · rw [decide_eq_false hl, Bool.false_and]
    have h1 : xs.length - i = 1 := by omega
    rw [h1]
    clear hf h hsub hlen hv
    generalize o + i * 3 = oo at *
    generalize c - i = cc at *
    go_enter Tryz.func42, Tryz.ntmps42
    go_wp2_with fail
    go_ret
    exact ⟨rfl, Grew.refl _⟩

theorem l26Redexes_c (v : Value) (xs : List Tn) (w : World) (h : Tms w v xs) (hn : xs.length ≤ 1048576) :
    Calls Tryz.prog 32 #[v] w (GivesI w (redL xs xs.length)) := by
  have HL := Lib.hid (redL_len xs)
  rcases h.open_ with ⟨rfl, rfl⟩ | ⟨b, o, c, rfl, hc, hm, hb, hf⟩
  · clear h
    go_enter Tryz.func32, Tryz.ntmps32
    go_wp2_with fail
    refine wp_loop_rounds 1 ?_; rw [rounds_succ]
    go_wp2_with fail
    go_ret
    exact ⟨_, rfl, own_emptyI w, (Grew.refl w).alloc _⟩
  have HR := Lib.hid (fun i (hi : i < xs.length) u W (hW : Grew w W) hu => l26Redex_c u xs i b o c W (h.grew hW) hc hm hi hn hu)
  clear h hf
  generalize hN : xs.length = n at *
  go_enter Tryz.func32, Tryz.ntmps32
  go_wp2_with fail
  go_loopw [3, 4] (fun vv i wr => ∃ j : Nat, j ≤ n ∧ i = .int .i64 j ∧ OwnI wr w.heap.size vv (redL xs j) ∧ Grew w wr) (fun _ i _ => n - (intOf i).toNat)
  case atStart => exact ⟨0, Nat.zero_le _, rfl, own_emptyI w, (Grew.refl w).alloc _⟩
  case round =>
    obtain ⟨j, hj, rfl, hO, hB⟩ := hrel
    by_cases hlt : j < n
    · have hR := Lib.hid (HR.out j hlt)
      have hl := HL.out j
      have hstep : redL xs (j + 1) = if rdxAt xs j then redL xs j ++ [(j : Int)] else redL xs j := rfl
      have HSt := Lib.hid hstep
      clear hstep
      have hcj : ¬ c = j := by omega
      generalize redL xs j = L at *
      cases hq : rdxAt xs j with
      | true =>
        rw [hq] at hR
        have hv := Lib.hid (HSt.out.trans (by rw [hq]; rfl : (if rdxAt xs j then L ++ [(j : Int)] else L) = L ++ [(j : Int)]))
        go_wp2_with fail
        refine (hR.out _ _ hB rfl).mono ?_
        rintro e w1 ⟨rfl, hg1⟩
        have hB1 := hB.trans hg1
        have hO1 := hO.grew (hg1.trans ((Grew.refl w1).alloc (.cells #[.int .i64 (j : Int)] 2)))
        go_wp2_with (first | (at_builtin; refine wpList_appI (w0 := w) _ _ rfl rfl _ L rfl hO1 (hB1.alloc _) _ (j : Int) rfl (rd_litI _ _ _) (by omega) ?_; intro v2 w2 hown2 hg2 _))
        go_roundw
        case rel => exact ⟨j + 1, by omega, by go_num, by rw [hv.out]; exact hown2, hg2⟩
        case measure => simp [intOf]; omega
      | false =>
        rw [hq] at hR
        have hv := Lib.hid (HSt.out.trans (by rw [hq]; rfl : (if rdxAt xs j then L ++ [(j : Int)] else L) = L))
        go_wp2_with fail
        refine (hR.out _ _ hB rfl).mono ?_
        rintro e w1 ⟨rfl, hg1⟩
        go_wp2_with fail
        go_roundw
        case rel => exact ⟨j + 1, by omega, by go_num, by rw [hv.out]; exact hO.grew hg1, hB.trans hg1⟩
        case measure => simp [intOf]; omega
    · obtain rfl : j = n := by omega
      go_wp2_with fail
      go_ret
      exact ⟨_, rfl, hO, hB⟩
end Go.Proofs.YtdndclfjeajhiaaGreat

/- A redex of a term contracted. No program is in sight. -/
namespace Go.Proofs.YtdndclfjeajhiaaGreat
open Go.RowKit
open Tr (Tm)

/-- What a redex that is read with n variables is contracted to. -/
def ctr (t : Tm) (n : Int) : List Tn :=
  match t with
  | .t2 _ f u => Tr.mapN (putN n (Tr.enc u)) (Tr.kid f 0) (n + 1)
  | .t3 _ f a b => Tr.mapN (putN n (Tr.enc (Tr.kid f 0))) (if (Tr.hd f).1 = 6 then a else b) (n + 1)
  | .t1 x f => Tr.enc (Tr.kid f (if x.1 = 4 then 0 else 1))
  | .t0 x => [x]
/-- One part, contracted where the index lies in it. -/
def ctAt : Tm → Int → Nat → List Tn
  | t, n, 0 => ctr t n
  | .t0 x, _, _ + 1 => [x]
  | .t1 x a, n, i + 1 => x :: (if i < (Tr.enc a).length then ctAt a (n + Tr.bd x.1 0) i else Tr.enc a)
  | .t2 x a b, n, i + 1 => x :: ((if i < (Tr.enc a).length then ctAt a (n + Tr.bd x.1 0) i else Tr.enc a) ++ (if (Tr.enc a).length ≤ i ∧ i < (Tr.enc a).length + (Tr.enc b).length then ctAt b (n + Tr.bd x.1 1) (i - (Tr.enc a).length) else Tr.enc b))
  | .t3 x a b c, n, i + 1 => x :: ((if i < (Tr.enc a).length then ctAt a (n + Tr.bd x.1 0) i else Tr.enc a) ++ ((if (Tr.enc a).length ≤ i ∧ i < (Tr.enc a).length + (Tr.enc b).length then ctAt b (n + Tr.bd x.1 1) (i - (Tr.enc a).length) else Tr.enc b) ++ (if (Tr.enc a).length + (Tr.enc b).length ≤ i ∧ i < (Tr.enc a).length + (Tr.enc b).length + (Tr.enc c).length then ctAt c (n + Tr.bd x.1 2) (i - ((Tr.enc a).length + (Tr.enc b).length)) else Tr.enc c)))
/-- Part j, contracted if the index lies in it. -/
def ctP (t : Tm) (n : Int) (i j : Nat) : List Tn := if Tr.off t j ≤ i ∧ i < Tr.off t j + (Tr.enc (Tr.kid t j)).length then ctAt (Tr.kid t j) (n + Tr.bd (Tr.hd t).1 j) (i - Tr.off t j) else Tr.enc (Tr.kid t j)
/-- The first j parts of a term. -/
def ctL (t : Tm) (n : Int) (i : Nat) : Nat → List Tn
  | 0 => [Tr.hd t]
  | j + 1 => ctL t n i j ++ ctP t n i j
theorem ctAt_zero (t : Tm) (n : Int) : ctAt t n 0 = ctr t n := by cases t <;> rfl
theorem selEq {P Q : Prop} [Decidable P] [Decidable Q] {f : Nat → List Tn} {i j : Nat} {e : List Tn} (h : Q ↔ P) (hij : P → j = i) : (if Q then f j else e) = (if P then f i else e) := by
  by_cases hP : P
  · rw [if_pos hP, if_pos (h.mpr hP), hij hP]
  · rw [if_neg hP, if_neg (fun q => hP (h.mp q))]
theorem ctAt_kids {t : Tm} {n : Int} {i : Nat} (hi : 0 < i) : ctAt t n i = ctL t n i (Tr.kids t).length := by
  obtain ⟨k, rfl⟩ : ∃ k, i = k + 1 := ⟨i - 1, by omega⟩
  cases t with
  | t0 x => rfl
  | t1 x a =>
    have e0 : Tr.off (.t1 x a) 0 = 1 := Tr.off_zero _
    have p0 : ctP (.t1 x a) n (k + 1) 0 = (if k < (Tr.enc a).length then ctAt a (n + Tr.bd x.1 0) k else Tr.enc a) := by
      refine selEq (f := ctAt a (n + Tr.bd x.1 0)) ?_ ?_
      · rw [e0]; show _ ∧ _ < 1 + (Tr.enc a).length ↔ _; omega
      · intro _; rw [e0]; omega
    have hL : ctL (.t1 x a) n (k + 1) (Tr.kids (.t1 x a)).length = [x] ++ ctP (.t1 x a) n (k + 1) 0 := rfl
    rw [hL, p0]; rfl
  | t2 x a b =>
    have e0 : Tr.off (.t2 x a b) 0 = 1 := Tr.off_zero _
    have e1 : Tr.off (.t2 x a b) 1 = 1 + (Tr.enc a).length := by simp [Tr.off, Tr.kids]
    have p0 : ctP (.t2 x a b) n (k + 1) 0 = (if k < (Tr.enc a).length then ctAt a (n + Tr.bd x.1 0) k else Tr.enc a) := by
      refine selEq (f := ctAt a (n + Tr.bd x.1 0)) ?_ ?_
      · rw [e0]; show _ ∧ _ < 1 + (Tr.enc a).length ↔ _; omega
      · intro _; rw [e0]; omega
    have p1 : ctP (.t2 x a b) n (k + 1) 1 = (if (Tr.enc a).length ≤ k ∧ k < (Tr.enc a).length + (Tr.enc b).length then ctAt b (n + Tr.bd x.1 1) (k - (Tr.enc a).length) else Tr.enc b) := by
      refine selEq (f := ctAt b (n + Tr.bd x.1 1)) ?_ ?_
      · rw [e1]; show _ ∧ _ < 1 + (Tr.enc a).length + (Tr.enc b).length ↔ _; omega
      · intro _; rw [e1]; omega
    have hL : ctL (.t2 x a b) n (k + 1) (Tr.kids (.t2 x a b)).length = ([x] ++ ctP (.t2 x a b) n (k + 1) 0) ++ ctP (.t2 x a b) n (k + 1) 1 := rfl
    rw [hL, p0, p1, List.append_assoc]; rfl
  | t3 x a b c =>
    have e0 : Tr.off (.t3 x a b c) 0 = 1 := Tr.off_zero _
    have e1 : Tr.off (.t3 x a b c) 1 = 1 + (Tr.enc a).length := by simp [Tr.off, Tr.kids]
    have e2 : Tr.off (.t3 x a b c) 2 = 1 + ((Tr.enc a).length + (Tr.enc b).length) := by simp [Tr.off, Tr.kids]
    have p0 : ctP (.t3 x a b c) n (k + 1) 0 = (if k < (Tr.enc a).length then ctAt a (n + Tr.bd x.1 0) k else Tr.enc a) := by
      refine selEq (f := ctAt a (n + Tr.bd x.1 0)) ?_ ?_
      · rw [e0]; show _ ∧ _ < 1 + (Tr.enc a).length ↔ _; omega
      · intro _; rw [e0]; omega
    have p1 : ctP (.t3 x a b c) n (k + 1) 1 = (if (Tr.enc a).length ≤ k ∧ k < (Tr.enc a).length + (Tr.enc b).length then ctAt b (n + Tr.bd x.1 1) (k - (Tr.enc a).length) else Tr.enc b) := by
      refine selEq (f := ctAt b (n + Tr.bd x.1 1)) ?_ ?_
      · rw [e1]; show _ ∧ _ < 1 + (Tr.enc a).length + (Tr.enc b).length ↔ _; omega
      · intro _; rw [e1]; omega
    have p2 : ctP (.t3 x a b c) n (k + 1) 2 = (if (Tr.enc a).length + (Tr.enc b).length ≤ k ∧ k < (Tr.enc a).length + (Tr.enc b).length + (Tr.enc c).length then ctAt c (n + Tr.bd x.1 2) (k - ((Tr.enc a).length + (Tr.enc b).length)) else Tr.enc c) := by
      refine selEq (f := ctAt c (n + Tr.bd x.1 2)) ?_ ?_
      · rw [e2]; show _ ∧ _ < 1 + ((Tr.enc a).length + (Tr.enc b).length) + (Tr.enc c).length ↔ _; omega
      · intro _; rw [e2]; omega
    have hL : ctL (.t3 x a b c) n (k + 1) (Tr.kids (.t3 x a b c)).length = (([x] ++ ctP (.t3 x a b c) n (k + 1) 0) ++ ctP (.t3 x a b c) n (k + 1) 1) ++ ctP (.t3 x a b c) n (k + 1) 2 := rfl
    rw [hL, p0, p1, p2, List.append_assoc, List.append_assoc]; rfl

theorem hd_at (f : Tm) : tk (Tr.enc f) 0 = (Tr.hd f).1 := (enc_at0 f).1
/-- The last node of a term has no parts. -/
theorem last_leaf {p : Tn → Prop} : ∀ t : Tm, Tr.wf p t → Tr.ar (tk (Tr.enc t) ((Tr.enc t).length - 1)) = 0 := by
  have happ : ∀ (xs ys : List Tn), 1 ≤ ys.length → tk (xs ++ ys) ((xs ++ ys).length - 1) = tk ys (ys.length - 1) := by
    intro xs ys h
    simp only [tk, List.getD, List.length_append]
    rw [List.getElem?_append_right (by omega), show xs.length + ys.length - 1 - xs.length = ys.length - 1 by omega]
  intro t
  induction t with
  | t0 x => intro h; exact h.1
  | t1 x a ha =>
    intro h
    have := happ [x] (Tr.enc a) (Tr.enc_pos a)
    simp only [List.singleton_append] at this
    simp only [Tr.enc]
    rw [this]
    exact ha h.2
  | t2 x a b ha hb =>
    intro h
    have := happ (x :: Tr.enc a) (Tr.enc b) (Tr.enc_pos b)
    simp only [List.cons_append] at this
    simp only [Tr.enc]
    rw [this]
    exact hb h.2.2
  | t3 x a b c ha hb hc =>
    intro h
    have := happ (x :: (Tr.enc a ++ Tr.enc b)) (Tr.enc c) (Tr.enc_pos c)
    simp only [List.cons_append, List.append_assoc] at this
    simp only [Tr.enc]
    rw [this]
    exact hc h.2.2.2
theorem rdx_ar {a b : Int} (h : rdx a b = true) : Tr.ar a ≠ 0 := by
  unfold rdx at h
  split at h
  · rename_i h2
    have : a = 2 := by simpa using h2
    subst this; decide
  · split at h
    · rename_i h4
      have : a = 4 ∨ a = 5 := by simpa using h4
      rcases this with rfl | rfl <;> decide
    · split at h
      · rename_i h8
        have : a = 8 := by simpa using h8
        subst this; decide
      · cases h
theorem tk_part {t : Tm} {j i : Nat} (hj : j < (Tr.kids t).length) (hi : i < (Tr.enc (Tr.kid t j)).length) : tk (Tr.enc t) (Tr.off t j + i) = tk (Tr.enc (Tr.kid t j)) i := by
  have h := Tr.drop_part hj
  rw [Tr.kid_eq hj] at h
  have h1 : (Tr.enc t)[Tr.off t j + i]? = (Tr.enc (Tr.kid t j))[i]? := by
    rw [← List.getElem?_drop, h, List.getElem?_append_left hi]
  simp only [tk, List.getD, h1]
/-- A redex that begins in a part lies in it. -/
theorem rdx_part {p : Tn → Prop} {t : Tm} {i j : Nat} (hw : Tr.wf p t) (hr : rdxAt (Tr.enc t) i = true) (hj : j < (Tr.kids t).length) (h1 : Tr.off t j ≤ i) (h2 : i < Tr.off t j + (Tr.enc (Tr.kid t j)).length) : rdxAt (Tr.enc (Tr.kid t j)) (i - Tr.off t j) = true := by
  unfold rdxAt at hr ⊢
  simp only [Bool.and_eq_true, decide_eq_true_eq] at hr ⊢
  obtain ⟨hr1, hr2⟩ := hr
  obtain ⟨k, rfl⟩ : ∃ k, i = Tr.off t j + k := ⟨i - Tr.off t j, by omega⟩
  rw [Nat.add_sub_cancel_left]
  have hk : k < (Tr.enc (Tr.kid t j)).length := by omega
  have hwk := Tr.kids_wf hw _ (Tr.kid_mem hj)
  have hlt : k + 1 < (Tr.enc (Tr.kid t j)).length := by
    rcases Nat.lt_or_ge (k + 1) (Tr.enc (Tr.kid t j)).length with h | h
    · exact h
    · have e : k = (Tr.enc (Tr.kid t j)).length - 1 := by omega
      have := last_leaf _ hwk
      rw [← e] at this
      rw [tk_part hj hk] at hr2
      exact absurd this (rdx_ar hr2)
  refine ⟨hlt, ?_⟩
  rw [tk_part hj hk, Nat.add_assoc, tk_part hj hlt] at hr2
  exact hr2
/-- The shape of a term that is a redex. -/
theorem rdx_shape {t : Tm} (hg : Good t) (hr : rdxAt (Tr.enc t) 0 = true) :
    (∃ x y b u, t = .t2 x (.t1 y b) u ∧ x.1 = 2 ∧ y.1 = 1) ∨ (∃ x y a b, t = .t1 x (.t2 y a b) ∧ (x.1 = 4 ∨ x.1 = 5) ∧ y.1 = 3) ∨ (∃ x y s a b, t = .t3 x (.t1 y s) a b ∧ x.1 = 8 ∧ (y.1 = 6 ∨ y.1 = 7)) := by
  unfold rdxAt at hr
  simp only [Bool.and_eq_true, decide_eq_true_eq] at hr
  obtain ⟨h1, h2⟩ := hr
  have hkinds : ∀ (a b : Int), rdx a b = true → (a = 2 ∧ b = 1) ∨ ((a = 4 ∨ a = 5) ∧ b = 3) ∨ (a = 8 ∧ (b = 6 ∨ b = 7)) := by
    intro a b h
    unfold rdx at h
    split at h
    · rename_i h0; exact .inl ⟨by simpa using h0, by simpa using h⟩
    · split at h
      · rename_i h0; exact .inr (.inl ⟨by simpa using h0, by simpa using h⟩)
      · split at h
        · rename_i h0; exact .inr (.inr ⟨by simpa using h0, by simpa using h⟩)
        · cases h
  cases t with
  | t0 x => simp [Tr.enc] at h1
  | t1 x f =>
    have hf := hd_at f
    have e1 : tk (Tr.enc (.t1 x f)) 0 = x.1 := rfl
    have e2 : tk (Tr.enc (.t1 x f)) (0 + 1) = tk (Tr.enc f) 0 := rfl
    rw [e1, e2, hf] at h2
    have ha : Tr.ar x.1 = 1 := hg.1.1
    have hgf : Good f := hg.2
    rcases hkinds _ _ h2 with ⟨a1, a2⟩ | ⟨a1, a2⟩ | ⟨a1, a2⟩
    · rw [a1] at ha; exact absurd ha (by decide)
    · cases f with
      | t0 y => have hy : Tr.ar y.1 = 0 := hgf.1; simp only [Tr.hd] at a2; rw [a2] at hy; exact absurd hy (by decide)
      | t1 y _ => have hy : Tr.ar y.1 = 1 := hgf.1.1; simp only [Tr.hd] at a2; rw [a2] at hy; exact absurd hy (by decide)
      | t2 y a b => exact .inr (.inl ⟨x, y, a, b, rfl, a1, a2⟩)
      | t3 y _ _ _ => have hy : Tr.ar y.1 = 3 := hgf.1.1; simp only [Tr.hd] at a2; rw [a2] at hy; exact absurd hy (by decide)
    · rw [a1] at ha; exact absurd ha (by decide)
  | t2 x f u =>
    have hf := hd_at f
    have e1 : tk (Tr.enc (.t2 x f u)) 0 = x.1 := rfl
    have e2 : tk (Tr.enc (.t2 x f u)) (0 + 1) = tk (Tr.enc f) 0 := by
      obtain ⟨r, hr⟩ := Tr.enc_hd f
      simp only [Tr.enc, hr]; rfl
    rw [e1, e2, hf] at h2
    have ha : Tr.ar x.1 = 2 := hg.1.1
    have hgf : Good f := hg.2.1
    rcases hkinds _ _ h2 with ⟨a1, a2⟩ | ⟨a1, a2⟩ | ⟨a1, a2⟩
    · cases f with
      | t0 y => have hy : Tr.ar y.1 = 0 := hgf.1; simp only [Tr.hd] at a2; rw [a2] at hy; exact absurd hy (by decide)
      | t1 y b => exact .inl ⟨x, y, b, u, rfl, a1, a2⟩
      | t2 y _ _ => have hy : Tr.ar y.1 = 2 := hgf.1.1; simp only [Tr.hd] at a2; rw [a2] at hy; exact absurd hy (by decide)
      | t3 y _ _ _ => have hy : Tr.ar y.1 = 3 := hgf.1.1; simp only [Tr.hd] at a2; rw [a2] at hy; exact absurd hy (by decide)
    · rcases a1 with a1 | a1 <;> rw [a1] at ha <;> exact absurd ha (by decide)
    · rw [a1] at ha; exact absurd ha (by decide)
  | t3 x f a b =>
    have hf := hd_at f
    have e1 : tk (Tr.enc (.t3 x f a b)) 0 = x.1 := rfl
    have e2 : tk (Tr.enc (.t3 x f a b)) (0 + 1) = tk (Tr.enc f) 0 := by
      obtain ⟨r, hr⟩ := Tr.enc_hd f
      simp only [Tr.enc, hr]; rfl
    rw [e1, e2, hf] at h2
    have ha : Tr.ar x.1 = 3 := hg.1.1
    have hgf : Good f := hg.2.1
    rcases hkinds _ _ h2 with ⟨a1, a2⟩ | ⟨a1, a2⟩ | ⟨a1, a2⟩
    · rw [a1] at ha; exact absurd ha (by decide)
    · rcases a1 with a1 | a1 <;> rw [a1] at ha <;> exact absurd ha (by decide)
    · cases f with
      | t0 y => have hy : Tr.ar y.1 = 0 := hgf.1; simp only [Tr.hd] at a2; rcases a2 with a2 | a2 <;> rw [a2] at hy <;> exact absurd hy (by decide)
      | t1 y s => exact .inr (.inr ⟨x, y, s, a, b, rfl, a1, a2⟩)
      | t2 y _ _ => have hy : Tr.ar y.1 = 2 := hgf.1.1; simp only [Tr.hd] at a2; rcases a2 with a2 | a2 <;> rw [a2] at hy <;> exact absurd hy (by decide)
      | t3 y _ _ _ => have hy : Tr.ar y.1 = 3 := hgf.1.1; simp only [Tr.hd] at a2; rcases a2 with a2 | a2 <;> rw [a2] at hy <;> exact absurd hy (by decide)
end Go.Proofs.YtdndclfjeajhiaaGreat

/- Good terms: kinds, parts, the tree of a list of nodes. No program is in sight. -/
namespace Go.Proofs.YtdndclfjeajhiaaGreat
open Go.RowKit
open Tr (Tm)

theorem good_kind {t : Tm} (h : Good t) : 0 ≤ (Tr.hd t).1 ∧ (Tr.hd t).1 ≤ 9 := by
  by_cases hk : 0 ≤ (Tr.hd t).1 ∧ (Tr.hd t).1 ≤ 9
  · exact hk
  · have h1 := Tr.hd_wf h
    unfold GoodN at h1
    rw [tnB_kind hk] at h1
    cases h1
theorem good_leaf {t : Tm} (h : Good t) : Tr.kids t = [] ↔ (Tr.hd t).1 = 0 := by
  have h1 := Tr.kids_len h
  have h2 := good_kind h
  constructor
  · intro h3
    rw [h3] at h1
    unfold Tr.ar at h1
    simp only [List.length_nil] at h1
    split at h1
    · omega
    · split at h1
      · omega
      · split at h1 <;> omega
  · intro h3
    rw [h3] at h1
    exact List.eq_nil_of_length_eq_zero (by rw [h1]; rfl)
theorem tmB_tree {xs : List Tn} (h : tmB xs = true) : ∃ t, Good t ∧ Tr.enc t = xs ∧ xs.length ≤ 60 := by
  unfold tmB at h
  simp only [Bool.and_eq_true, decide_eq_true_eq, Bool.not_eq_true', beq_iff_eq] at h
  obtain ⟨⟨⟨h1, h2⟩, h3⟩, h4⟩ := h
  have hall : ∀ x ∈ xs, GoodN x := by
    intro x hx
    obtain ⟨i, hi, rfl⟩ := List.getElem_of_mem hx
    have := anyT_none h3 hi
    unfold GoodN
    rw [tk_lt hi]
    simpa [noTn] using this
  have hs : Tr.scan xs 1 = some xs.length := by
    unfold Tr.pend at h4
    rw [List.drop_zero] at h4
    cases hz : Tr.scan xs 1 with
    | none => rw [hz] at h4; simp only [Tr.pval] at h4; omega
    | some n => rw [hz] at h4; simp only [Tr.pval] at h4; congr 1; omega
  obtain ⟨t, ht, he⟩ := Tr.tree_of hs hall
  exact ⟨t, ht, he, h2⟩
/-- The tree of a list that is a term's. -/
noncomputable def tmT (xs : List Tn) : Tm := @dite _ (tmB xs = true) (Classical.propDecidable _) (fun h => Classical.choose (tmB_tree h)) (fun _ => .t0 (0, 0, ByteArray.empty))
theorem tmT_ok {xs : List Tn} (h : tmB xs = true) : Good (tmT xs) ∧ Tr.enc (tmT xs) = xs ∧ xs.length ≤ 60 := by
  unfold tmT
  rw [dif_pos h]
  exact Classical.choose_spec (tmB_tree h)

/-- The rest of a term with one part. -/
theorem sub_one {w : World} {b o c : Nat} {x : Tn} {a : Tm} (h : Tms w (.slice (some ⟨b, o, none⟩) ((Tr.enc a).length + 1) c) (x :: Tr.enc a)) (hc : (Tr.enc a).length + 1 ≤ c) (hc2 : c ≤ 9223372036854775807) : Tms w (.slice (some ⟨b, o + 3, none⟩) (Tr.enc a).length (c - 1)) (Tr.enc a) := by
  have := h.sub 1 (Tr.enc a).length (c - 1) (by simp; omega) (by omega) (by omega)
  simpa using this
theorem ar_one {k : Int} (h : Tr.ar k = 1) : k = 1 ∨ k = 4 ∨ k = 5 ∨ k = 6 ∨ k = 7 ∨ k = 9 := by
  unfold Tr.ar at h
  split at h
  · assumption
  · split at h
    · omega
    · split at h <;> omega
theorem ar_two {k : Int} (h : Tr.ar k = 2) : k = 2 ∨ k = 3 := by
  unfold Tr.ar at h
  split at h
  · omega
  · split at h
    · assumption
    · split at h <;> omega
theorem ar_three {k : Int} (h : Tr.ar k = 3) : k = 8 := by
  unfold Tr.ar at h
  split at h
  · omega
  · split at h
    · omega
    · split at h
      · assumption
      · omega
end Go.Proofs.YtdndclfjeajhiaaGreat

/- l26Part of the reference. -/
namespace Go.Proofs.YtdndclfjeajhiaaGreat
open Go.RowKit
open Tr (Tm)

theorem l26Part_c (v : Value) (t : Tm) (k : Nat) (w : World) (h : Tms w v (Tr.enc t)) (hg : Good t) (hn : (Tr.enc t).length ≤ 1048576) (hk : k < (Tr.kids t).length) :
    Calls Tryz.prog 68 #[v, .int .i64 k] w fun e w' => ∃ u, e = .returned u ∧ Tms w' u (Tr.enc (Tr.kid t k)) ∧ Grew w w' := by
  obtain ⟨b, o, c, rfl, hc, hm, hb, hf⟩ := tms_head h
  have HE := Lib.hid (fun i (hi : i < (Tr.kids t).length) W (hW : Grew w W) => by
    have h1 := l26End_c _ (Tr.enc t) (Tr.enc t).length (Tr.off t i) W (by omega) (h.grew hW) hn (by have := Tr.off_end hi; omega)
    rw [Tr.pend_kid hg hi, Int.natCast_add] at h1
    exact h1)
  have HL := Lib.hid (fun i (hi : i < (Tr.kids t).length) => (⟨Tr.off_end hi, Tr.off_next hi, Tr.enc_pos (Tr.kid t i)⟩ : Tr.off t i + (Tr.enc (Tr.kid t i)).length ≤ (Tr.enc t).length ∧ Tr.off t (i + 1) = Tr.off t i + (Tr.enc (Tr.kid t i)).length ∧ 1 ≤ (Tr.enc (Tr.kid t i)).length))
  have HS := Lib.hid (fun i (hi : i < (Tr.kids t).length) (c' : Nat) (hc1 : (Tr.enc (Tr.kid t i)).length ≤ c') (hc2 : c' ≤ 9223372036854775807) => by
    have h1 := h.sub (Tr.off t i) (Tr.enc (Tr.kid t i)).length c' (Tr.off_end hi) hc1 hc2
    rw [Tr.take_kid hi] at h1
    exact h1)
  have hz := Tr.off_zero t
  have hk3 : k ≤ 3 := by have := Tr.kids_len hg; have := Tr.ar_le (Tr.hd t).1; omega
  clear hf h hg
  generalize hN : (Tr.enc t).length = n at *
  clear hN
  generalize hM : (Tr.kids t).length = m at *
  clear hM
  go_enter Tryz.func68, Tryz.ntmps68
  go_wp2_with fail
  go_loopw [1, 5] (fun x y wr => ∃ j : Nat, j ≤ k ∧ x = .int .i64 ((k - j : Nat) : Int) ∧ y = .int .i64 (Tr.off t j) ∧ Grew w wr) (fun x _ _ => (intOf x).toNat)
  case atStart => exact ⟨0, Nat.zero_le _, rfl, by rw [hz]; rfl, Grew.refl _⟩
  case round =>
    obtain ⟨j, hj, rfl, rfl, hB⟩ := hrel
    obtain ⟨hl1, hl2, hl3⟩ := HL.out j (by omega)
    have hE := Lib.hid (HE.out j (by omega))
    have hS := Lib.hid (HS.out j (by omega))
    have HL2 := Lib.hid hl2
    clear hl2
    by_cases hlt : j < k
    · obtain ⟨r, hr⟩ : ∃ r, k - j = r + 1 := ⟨k - j - 1, by omega⟩
      have hr3 : r ≤ 3 := by omega
      rw [hr]
      generalize Tr.enc (Tr.kid t j) = X at *
      generalize Tr.off t j = oj at *
      have hr0 : (0 : Int) < ((r + 1 : Nat) : Int) := by omega
      go_wp2_with fail
      refine (hE.out _ hB).mono ?_
      rintro e w2 ⟨rfl, hg2⟩
      have hB2 := hB.trans hg2
      go_wp2_with fail
      go_roundw
      case rel => exact ⟨j + 1, by omega, by rw [show k - (j + 1) = r by omega]; try go_num, by rw [HL2.out]; try go_num, hB2⟩
      case measure => (simp [intOf]; try omega)
    · obtain rfl : j = k := by omega
      rw [Nat.sub_self]
      generalize hX : Tr.enc (Tr.kid t j) = X at *
      generalize Tr.off t j = oj at *
      have hq0 : (0 : Int) ≤ (oj : Int) := by omega
      have hq1 : (oj : Int) ≤ (oj : Int) + (X.length : Int) := by omega
      have hq2 : (oj : Int) + (X.length : Int) ≤ (c : Int) := by omega
      have hT := Lib.hid (hS.out (c - oj) (by omega) (by omega))
      go_wp2_with fail
      refine (hE.out _ hB).mono ?_
      rintro e w2 ⟨rfl, hg2⟩
      have hB2 := hB.trans hg2
      go_wp2_with fail
      go_ret
      exact ⟨_, rfl, by
        rw [hX]
        show Tms w2 (.slice (some ⟨b, o + oj * 3, none⟩) (oj + X.length - oj) (c - oj)) X
        rw [Nat.add_sub_cancel_left]
        exact hT.out.grew hB2, hB2⟩
end Go.Proofs.YtdndclfjeajhiaaGreat

/- FitsContext of both. -/
namespace Go.Proofs.YtdndclfjeajhiaaGreat
open Go.RowKit
open Tr (Tm)

theorem one_c (b : Bool) (w : World) : Calls Tryz.prog 100 #[.bool b] w fun e w' => e = .returned (.int .i64 (if b then 1 else 0)) ∧ Grew w w' := by
  cases b
  all_goals
    go_enter Tryz.func100, Tryz.ntmps100
    go_wp2_with fail
    go_ret
    exact ⟨rfl, Grew.refl _⟩
theorem bindsIn_c (k : Int) (i : Nat) (w : World) (hi : i ≤ 1048576) : Calls Tryz.prog 74 #[.int .i64 k, .int .i64 i] w fun e w' => e = .returned (.int .i64 (Tr.bd k i)) ∧ Grew w w' := by
  cases h1 : (k == 1) with
  | true =>
    have hv : Tr.bd k i = 1 := by unfold Tr.bd; rw [if_pos (.inl (by simpa using h1))]
    rw [hv]
    have HO := Lib.hid (fun w => one_c true w)
    go_enter Tryz.func74, Tryz.ntmps74
    go_wp2_with fail
    refine (HO.out _).mono ?_
    rintro e w1 ⟨rfl, hg1⟩
    go_wp2_with fail
    go_ret
    exact ⟨rfl, hg1⟩
  | false =>
    have n1 : k ≠ 1 := by simpa using h1
    cases h8 : (k == 8) with
    | true =>
      have e8 : k = 8 := by simpa using h8
      by_cases hp : 0 < i
      · have hv : Tr.bd k i = 1 := by unfold Tr.bd; rw [if_pos (.inr ⟨e8, hp⟩)]
        rw [hv]
        have HO := Lib.hid (fun w => one_c true w)
        have hp' : decide ((0 : Int) < (i : Int)) = true := by simp; omega
        go_enter Tryz.func74, Tryz.ntmps74
        go_wp2_with fail
        refine (HO.out _).mono ?_
        rintro e w1 ⟨rfl, hg1⟩
        go_wp2_with fail
        go_ret
        exact ⟨rfl, hg1⟩
      · have hv : Tr.bd k i = 0 := by unfold Tr.bd; rw [if_neg (by omega)]
        rw [hv]
        have HO := Lib.hid (fun w => one_c false w)
        obtain rfl : i = 0 := by omega
        go_enter Tryz.func74, Tryz.ntmps74
        go_wp2_with fail
        refine (HO.out _).mono ?_
        rintro e w1 ⟨rfl, hg1⟩
        go_wp2_with fail
        go_ret
        exact ⟨rfl, hg1⟩
    | false =>
      have n8 : k ≠ 8 := by simpa using h8
      have hv : Tr.bd k i = 0 := by unfold Tr.bd; rw [if_neg (by omega)]
      rw [hv]
      have HO := Lib.hid (fun w => one_c false w)
      go_enter Tryz.func74, Tryz.ntmps74
      go_wp2_with fail
      refine (HO.out _).mono ?_
      rintro e w1 ⟨rfl, hg1⟩
      go_wp2_with fail
      go_ret
      exact ⟨rfl, hg1⟩

/-- What the function value gives at a number and what it is read with. -/
def HoldsOk (f : Nat) (p : Int → Int → Bool) : Prop := ∀ a b W, Calls Tryz.prog f #[.int .i64 a, .int .i64 b] W fun e w' => e = .returned (.bool (p a b)) ∧ Grew W w'

theorem everyNumber_c (f : Nat) (p : Int → Int → Bool) (hf : HoldsOk f p) (eg : ∀ args w, (callFunc f args).run Tryz.prog w = .ok (.enter f args) w) :
    ∀ t : Tm, Good t → ∀ (v : Value) (n : Int) (w : World), Tms w v (Tr.enc t) → (Tr.enc t).length ≤ 100000 → 0 ≤ n → n + (Tr.enc t).length ≤ 1000000 →
    Calls Tryz.prog 70 #[v, .int .i64 n, .func (.func f) #[] #[]] w fun e w' => e = .returned (.bool (Tr.evN p t n)) ∧ Grew w w' := by
  intro t
  refine Tr.ind (P := fun t => Good t → ∀ (v : Value) (n : Int) (w : World), Tms w v (Tr.enc t) → (Tr.enc t).length ≤ 100000 → 0 ≤ n → n + (Tr.enc t).length ≤ 1000000 →
    Calls Tryz.prog 70 #[v, .int .i64 n, .func (.func f) #[] #[]] w fun e w' => e = .returned (.bool (Tr.evN p t n)) ∧ Grew w w') ?_ t
  intro t ih hg v n w h hlen hn0 hn1
  obtain ⟨b, o, c, rfl, hc, hm, hb, hcl⟩ := tms_head h
  have hpos := Tr.enc_pos t
  obtain ⟨k1, k2, _⟩ := hcl _ (Grew.refl w)
  by_cases hleaf : Tr.kids t = []
  · have hk := (good_leaf hg).1 hleaf
    rw [Tr.evN_leaf hleaf]
    rw [hk] at k1
    generalize (Tr.hd t).2.1 = a at *
    have HF := Lib.hid (hf a n)
    clear hcl ih hg h hf hk hleaf
    generalize (Tr.enc t).length = nn at *
    generalize p a n = R at *
    go_enter Tryz.func70, Tryz.ntmps70
    go_wp2_with fail
    go_at_fn f
    refine (HF.out _).mono ?_
    rintro e w1 ⟨rfl, hg1⟩
    go_wp2_with fail
    go_ret
    exact ⟨rfl, hg1⟩
  · have hk : ((Tr.hd t).1 == 0) = false := by
      have := mt (good_leaf hg).2 hleaf
      simpa using this
    have hm1 : 0 < (Tr.kids t).length := List.length_pos_iff.2 hleaf
    have hkl := Tr.kids_len hg
    have har := Tr.ar_le (Tr.hd t).1
    rw [Tr.evN_kids hleaf]
    obtain ⟨R, hR⟩ : ∃ R, R = Tr.evL p (Tr.hd t).1 (Tr.kids t) 0 n := ⟨_, rfl⟩
    rw [← hR]
    have HI := Lib.hid (fun W (hW : Grew w W) => inner_c _ t W (h.grew hW) hg (by omega))
    have HK := Lib.hid (fun W (hW : Grew w W) => (hcl W hW).1)
    have HR : Hid (R = Tr.evL p (Tr.hd t).1 ((Tr.kids t).drop 0) 0 n) := hR
    have HS := Lib.hid (fun i (hi : i < (Tr.kids t).length) => @Tr.evL_kid p (Tr.hd t).1 t i n hi)
    have HZ := Lib.hid (fun i (hi : (Tr.kids t).length ≤ i) => @Tr.evL_end p (Tr.hd t).1 (Tr.kids t) i n hi)
    have HIH := Lib.hid (fun i (hi : i < (Tr.kids t).length) u d W (hd0 : 0 ≤ d) (hd1 : d ≤ 1) hu => ih _ (Tr.kid_mem hi) (Tr.kids_wf hg _ (Tr.kid_mem hi)) u (n + d) W hu (by have := Tr.kid_small hi; omega) (by omega) (by have := Tr.kid_small hi; omega))
    have HBD := Lib.hid (fun i (hi : i < (Tr.kids t).length) w => bindsIn_c (Tr.hd t).1 i w (by omega))
    have HB2 := Lib.hid (fun i => (by unfold Tr.bd; split <;> omega : 0 ≤ Tr.bd (Tr.hd t).1 i ∧ Tr.bd (Tr.hd t).1 i ≤ 1))
    clear hcl ih hg h hf hR hleaf
    generalize (Tr.hd t).1 = kk at *
    generalize (Tr.enc t).length = nn at *
    generalize hM : (Tr.kids t).length = m at *
    go_enter Tryz.func70, Tryz.ntmps70
    go_wp2_with fail
    refine (HI.out _ (Grew.refl w)).mono ?_
    rintro e w1 ⟨u, rfl, hp1, hg1⟩
    rcases hp1 with ⟨rfl, h0⟩ | ⟨b2, o2, c2, rfl, hc2, hm2, hb2, hcell⟩
    · rw [h0] at hM; simp at hM; omega
    rw [hM] at hc2 hcell ⊢
    have HC := Lib.hid hcell
    clear hcell
    go_wp2_with fail
    go_loopw [7, 8, 24] (fun _ _ i wr => ∃ j : Nat, j ≤ m ∧ i = .int .i64 j ∧ Grew w1 wr ∧ Hid (R = Tr.evL p kk ((Tr.kids t).drop j) j n)) (fun _ _ i _ => m - (intOf i).toNat)
    case atStart => exact ⟨0, Nat.zero_le _, rfl, Grew.refl _, HR.out⟩
    case round =>
      obtain ⟨j, hj, rfl, hB, HJ⟩ := hrel
      clear HR
      by_cases hlt : j < m
      · obtain ⟨x, hx1, hx2⟩ := HC.out j hlt
        have e1 : wr.cell? ⟨b2, o2 + j, none⟩ = some x := (hB.cell (p := ⟨b2, o2 + j, none⟩) hb2).trans hx1
        have e2 : wr.cell? ⟨b, o, none⟩ = some (.int .i64 kk) := HK.out _ (hg1.trans hB)
        obtain ⟨A3, c3, rfl⟩ := tms_slice hx2
        have hs := HS.out j hlt
        rw [← HJ.out] at hs
        have HSS := Lib.hid hs
        have hih := Lib.hid (fun W (hW : Grew w1 W) => HIH.out j hlt _ (Tr.bd kk j) W (HB2.out j).1 (HB2.out j).2 (hx2.grew hW))
        have hbd := Lib.hid (HBD.out j hlt)
        have hb01 := HB2.out j
        clear hs hx1 hx2 HJ
        generalize Tr.bd kk j = d at *
        generalize (Tr.enc (Tr.kid t j)).length = ln at *
        generalize Tr.evN p (Tr.kid t j) (n + d) = q at *
        obtain ⟨hb0, hb1⟩ := hb01
        go_wp2_with fail
        refine (hbd.out _).mono ?_
        rintro e w2 ⟨rfl, hg2⟩
        go_wp2_with fail
        refine (hih.out _ (hB.trans hg2)).mono ?_
        rintro e w3 ⟨rfl, hg3⟩
        have hB3 := (hB.trans hg2).trans hg3
        cases q with
        | true =>
          have hv : Hid (R = Tr.evL p kk ((Tr.kids t).drop (j + 1)) (j + 1) n) := Lib.hid (by rw [HSS.out, Bool.true_and])
          go_wp2_with fail
          go_roundw
          case rel => exact ⟨j + 1, by omega, by go_num, hB3, hv⟩
          case measure => simp [intOf]; omega
        | false =>
          have hv : Hid (R = false) := Lib.hid (by rw [HSS.out, Bool.false_and])
          go_wp2_with fail
          go_ret
          rw [hv.out]
          exact ⟨rfl, hg1.trans hB3⟩
      · obtain rfl : j = m := by omega
        have hv : Hid (R = true) := Lib.hid (by rw [HJ.out, HZ.out]; omega)
        go_wp2_with fail
        go_ret
        rw [hv.out]
        exact ⟨rfl, hg1.trans hB⟩
end Go.Proofs.YtdndclfjeajhiaaGreat

/- Does a term fit: fitsContext, contextCode, FitsContext of the program; l26Fits, FitsContext of the reference. -/
namespace Go.Proofs.YtdndclfjeajhiaaGreat
open Go.RowKit
open Tr (Tm)

def ltP (a b : Int) : Bool := decide (a < b)
theorem fitsContext1_ok : HoldsOk 71 ltP := by
  intro a b w
  unfold ltP
  go_enter Tryz.func71, Tryz.ntmps71
  go_wp2_with fail
  go_ret
  exact ⟨rfl, Grew.refl _⟩
theorem fitsContext_c (v : Value) (t : Tm) (n : Int) (w : World) (h : Tms w v (Tr.enc t)) (hg : Good t) (hn : (Tr.enc t).length ≤ 100000) (h0 : 0 ≤ n) (h1 : n + (Tr.enc t).length ≤ 1000000) :
    Calls Tryz.prog 36 #[v, .int .i64 n] w fun e w' => e = .returned (.bool (Tr.evN ltP t n)) ∧ Grew w w' := by
  have HE := Lib.hid (everyNumber_c _ _ fitsContext1_ok (enters_of Tryz.func71 (by kernel_rfl) rfl) t hg v n w h hn h0 h1)
  clear h hg
  generalize Tr.evN ltP t n = R at *
  go_enter Tryz.func36, Tryz.ntmps36
  go_wp2_with fail
  refine HE.out.mono ?_
  rintro e w1 ⟨rfl, hg1⟩
  go_wp2_with fail
  go_ret
  exact ⟨rfl, hg1⟩

theorem l26Fits_c : ∀ t : Tm, Good t → ∀ (v : Value) (n : Int) (w : World), Tms w v (Tr.enc t) → (Tr.enc t).length ≤ 100000 → 0 ≤ n → n + (Tr.enc t).length ≤ 1000000 →
    Calls Tryz.prog 41 #[v, .int .i64 n] w fun e w' => e = .returned (.bool (Tr.evN ltP t n)) ∧ Grew w w' := by
  intro t
  refine Tr.ind (P := fun t => Good t → ∀ (v : Value) (n : Int) (w : World), Tms w v (Tr.enc t) → (Tr.enc t).length ≤ 100000 → 0 ≤ n → n + (Tr.enc t).length ≤ 1000000 →
    Calls Tryz.prog 41 #[v, .int .i64 n] w fun e w' => e = .returned (.bool (Tr.evN ltP t n)) ∧ Grew w w') ?_ t
  intro t ih hg v n w h hlen hn0 hn1
  have HP := fun k (hk : k < (Tr.kids t).length) W (hW : Grew w W) => l26Part_c v t k W (h.grew hW) hg (by omega) hk
  have IH := fun k (hk : k < (Tr.kids t).length) u d W (hd0 : 0 ≤ d) (hd1 : d ≤ 1) hu => ih _ (Tr.kid_mem hk) (Tr.kids_wf hg _ (Tr.kid_mem hk)) u (n + d) W hu (by have := Tr.kid_small hk; omega) (by omega) (by have := Tr.kid_small hk; omega)
  have hgk := good_leaf hg
  obtain ⟨b, o, c, rfl, hc, hm, hb, hcl⟩ := tms_head h
  have k0 := (hcl _ (Grew.refl w)).1
  cases t with
  | t0 x =>
    have hx : x.1 = 0 := hgk.1 rfl
    have k1 := (hcl _ (Grew.refl w)).2.1
    simp only [Tr.hd, hx] at k0 k1
    show Calls _ _ _ _ (fun e w' => e = .returned (.bool (ltP x.2.1 n)) ∧ Grew w w')
    unfold ltP
    generalize x.2.1 = a at *
    clear hcl HP IH h hgk hg ih
    simp only [Tr.enc, List.length_singleton] at *
    go_enter Tryz.func41, Tryz.ntmps41
    go_wp2_with fail
    go_ret
    exact ⟨rfl, Grew.refl _⟩
  | t1 x a =>
    have hx := ar_one (show Tr.ar x.1 = 1 from hg.1.1)
    have hpos := Tr.enc_pos a
    simp only [Tr.hd] at k0
    have hsub := sub_one (x := x) (a := a) (by simpa [Tr.enc] using h) (by simpa [Tr.enc] using hc) hm
    have I := Lib.hid (fun d W hd0 hd1 hu => IH 0 (by simp [Tr.kids]) (.slice (some ⟨b, o + 3, none⟩) (Tr.enc a).length (c - 1)) d W hd0 hd1 hu)
    simp only [Tr.kid, Tr.kids, List.getD_cons_zero] at I
    show Calls _ _ _ _ (fun e w' => e = .returned (.bool (Tr.evN ltP a (n + Tr.bd x.1 0))) ∧ Grew w w')
    have hlc : (Tr.enc (.t1 x a)).length = (Tr.enc a).length + 1 := by simp [Tr.enc]
    rw [hlc] at hc hlen hn1 ⊢
    have HS := Lib.hid hsub
    clear hsub hcl HP IH h hgk hg ih hlc
    generalize x.1 = k at *
    have hc1 : ¬ c = 1 := by omega
    rcases hx with rfl | rfl | rfl | rfl | rfl | rfl
    · have II := Lib.hid (I.out 1 w (by omega) (by omega) HS.out)
      rw [show Tr.bd 1 0 = 1 from rfl]
      clear I HS
      generalize Tr.evN ltP a (n + 1) = R at *
      generalize (Tr.enc a).length = la at *
      go_enter Tryz.func41, Tryz.ntmps41
      go_wp2_with fail
      refine II.out.mono ?_
      rintro e w1 ⟨rfl, hg1⟩
      go_wp2_with fail
      go_ret
      exact ⟨rfl, hg1⟩
    all_goals
      have II := I.out 0 w (by omega) (by omega) HS.out
      rw [Int.add_zero] at II
      replace II := Lib.hid II
      rw [show n + Tr.bd _ 0 = n from by rw [show Tr.bd _ 0 = 0 from rfl, Int.add_zero]]
      clear I HS
      generalize Tr.evN ltP a n = R at *
      generalize (Tr.enc a).length = la at *
      go_enter Tryz.func41, Tryz.ntmps41
      go_wp2_with fail
      refine II.out.mono ?_
      rintro e w1 ⟨rfl, hg1⟩
      go_wp2_with fail
      go_ret
      exact ⟨rfl, hg1⟩
  | t2 x a b' =>
    have hx := ar_two (show Tr.ar x.1 = 2 from hg.1.1)
    simp only [Tr.hd] at k0
    have P0 := Lib.hid (HP 0 (by simp [Tr.kids]))
    have P1 := Lib.hid (HP 1 (by simp [Tr.kids]))
    have I0 := Lib.hid (fun u W hu => IH 0 (by simp [Tr.kids]) u 0 W (by omega) (by omega) hu)
    have I1 := Lib.hid (fun u W hu => IH 1 (by simp [Tr.kids]) u 0 W (by omega) (by omega) hu)
    simp only [Tr.kid, Tr.kids, List.getD_cons_zero, List.getD_cons_succ, Int.add_zero] at I0 I1 P0 P1
    show Calls _ _ _ _ (fun e w' => e = .returned (.bool (Tr.evN ltP a (n + Tr.bd x.1 0) && Tr.evN ltP b' (n + Tr.bd x.1 1))) ∧ Grew w w')
    have hpos := Tr.enc_pos (.t2 x a b')
    clear hcl HP IH h hgk hg ih
    generalize (Tr.enc (.t2 x a b')).length = ll at *
    generalize x.1 = k at *
    rcases hx with rfl | rfl
    all_goals
      rw [show n + Tr.bd _ 0 = n from by rw [show Tr.bd _ 0 = 0 from rfl, Int.add_zero], show n + Tr.bd _ 1 = n from by rw [show Tr.bd _ 1 = 0 from rfl, Int.add_zero]]
      generalize Tr.evN ltP a n = R0 at *
      generalize Tr.evN ltP b' n = R1 at *
      cases R0 with
      | true =>
        go_enter Tryz.func41, Tryz.ntmps41
        go_wp2_with fail
        refine (P0.out _ (Grew.refl w)).mono ?_
        rintro e w1 ⟨u0, rfl, hu0, hg1⟩
        go_wp2_with fail
        refine (I0.out _ _ hu0).mono ?_
        rintro e w2 ⟨rfl, hg2⟩
        go_wp2_with fail
        refine (P1.out _ (hg1.trans hg2)).mono ?_
        rintro e w3 ⟨u1, rfl, hu1, hg3⟩
        go_wp2_with fail
        refine (I1.out _ _ hu1).mono ?_
        rintro e w4 ⟨rfl, hg4⟩
        go_wp2_with fail
        go_ret
        exact ⟨by simp, ((hg1.trans hg2).trans hg3).trans hg4⟩
      | false =>
        go_enter Tryz.func41, Tryz.ntmps41
        go_wp2_with fail
        refine (P0.out _ (Grew.refl w)).mono ?_
        rintro e w1 ⟨u0, rfl, hu0, hg1⟩
        go_wp2_with fail
        refine (I0.out _ _ hu0).mono ?_
        rintro e w2 ⟨rfl, hg2⟩
        go_wp2_with fail
        go_ret
        exact ⟨by simp, hg1.trans hg2⟩
  | t3 x a b' c' =>
    have hx := ar_three (show Tr.ar x.1 = 3 from hg.1.1)
    simp only [Tr.hd] at k0
    have P0 := Lib.hid (HP 0 (by simp [Tr.kids]))
    have P1 := Lib.hid (HP 1 (by simp [Tr.kids]))
    have P2 := Lib.hid (HP 2 (by simp [Tr.kids]))
    have I0 := Lib.hid (fun u W hu => IH 0 (by simp [Tr.kids]) u 0 W (by omega) (by omega) hu)
    have I1 := Lib.hid (fun u W hu => IH 1 (by simp [Tr.kids]) u 1 W (by omega) (by omega) hu)
    have I2 := Lib.hid (fun u W hu => IH 2 (by simp [Tr.kids]) u 1 W (by omega) (by omega) hu)
    simp only [Tr.kid, Tr.kids, List.getD_cons_zero, List.getD_cons_succ, Int.add_zero] at I0 I1 I2 P0 P1 P2
    show Calls _ _ _ _ (fun e w' => e = .returned (.bool (Tr.evN ltP a (n + Tr.bd x.1 0) && (Tr.evN ltP b' (n + Tr.bd x.1 1) && Tr.evN ltP c' (n + Tr.bd x.1 2)))) ∧ Grew w w')
    have hpos := Tr.enc_pos (.t3 x a b' c')
    clear hcl HP IH h hgk hg ih
    generalize (Tr.enc (.t3 x a b' c')).length = ll at *
    generalize x.1 = k at *
    subst hx
    rw [show n + Tr.bd _ 0 = n from by rw [show Tr.bd _ 0 = 0 from rfl, Int.add_zero], show Tr.bd 8 1 = 1 from rfl, show Tr.bd 8 2 = 1 from rfl]
    generalize Tr.evN ltP a n = R0 at *
    generalize Tr.evN ltP b' (n + 1) = R1 at *
    generalize Tr.evN ltP c' (n + 1) = R2 at *
    cases R0 with
    | true =>
      cases R1 with
      | true =>
        go_enter Tryz.func41, Tryz.ntmps41
        go_wp2_with fail
        refine (P0.out _ (Grew.refl w)).mono ?_
        rintro e w1 ⟨u0, rfl, hu0, hg1⟩
        go_wp2_with fail
        refine (I0.out _ _ hu0).mono ?_
        rintro e w2 ⟨rfl, hg2⟩
        go_wp2_with fail
        refine (P1.out _ (hg1.trans hg2)).mono ?_
        rintro e w3 ⟨u1, rfl, hu1, hg3⟩
        go_wp2_with fail
        refine (I1.out _ _ hu1).mono ?_
        rintro e w4 ⟨rfl, hg4⟩
        have hk4 := ((hg1.trans hg2).trans hg3).trans hg4
        go_wp2_with fail
        refine (P2.out _ hk4).mono ?_
        rintro e w5 ⟨u2, rfl, hu2, hg5⟩
        go_wp2_with fail
        refine (I2.out _ _ hu2).mono ?_
        rintro e w6 ⟨rfl, hg6⟩
        go_wp2_with fail
        go_ret
        exact ⟨by simp, (hk4.trans hg5).trans hg6⟩
      | false =>
        go_enter Tryz.func41, Tryz.ntmps41
        go_wp2_with fail
        refine (P0.out _ (Grew.refl w)).mono ?_
        rintro e w1 ⟨u0, rfl, hu0, hg1⟩
        go_wp2_with fail
        refine (I0.out _ _ hu0).mono ?_
        rintro e w2 ⟨rfl, hg2⟩
        go_wp2_with fail
        refine (P1.out _ (hg1.trans hg2)).mono ?_
        rintro e w3 ⟨u1, rfl, hu1, hg3⟩
        go_wp2_with fail
        refine (I1.out _ _ hu1).mono ?_
        rintro e w4 ⟨rfl, hg4⟩
        go_wp2_with fail
        go_ret
        exact ⟨by simp, ((hg1.trans hg2).trans hg3).trans hg4⟩
    | false =>
      go_enter Tryz.func41, Tryz.ntmps41
      go_wp2_with fail
      refine (P0.out _ (Grew.refl w)).mono ?_
      rintro e w1 ⟨u0, rfl, hu0, hg1⟩
      go_wp2_with fail
      refine (I0.out _ _ hu0).mono ?_
      rintro e w2 ⟨rfl, hg2⟩
      go_wp2_with fail
      go_ret
      exact ⟨by simp, hg1.trans hg2⟩
end Go.Proofs.YtdndclfjeajhiaaGreat

/- Small lemmas on the numbers and types of terms. -/
namespace Go.Proofs.YtdndclfjeajhiaaGreat
open Go.RowKit

theorem tnB_num0 {k n : Int} {s : ByteArray} (h : tnB k n s = true) : 0 ≤ n ∧ n ≤ 99 := by
  by_cases hn : 0 ≤ n ∧ n ≤ 99
  · exact hn
  · rw [tnB_range hn] at h; cases h
theorem tm_nodes {xs : List Tn} (h : tmB xs = true) (i : Nat) (hi : i < xs.length) : tnB (tk xs i) (tn xs i) (tt xs i) = true := by
  unfold tmB at h
  simp only [Bool.and_eq_true, Bool.not_eq_true'] at h
  have := anyT_none h.1.2 hi
  simpa [noTn] using this
theorem tm_numOk {xs : List Tn} (h : tmB xs = true) : NumOk xs := fun i hi => by
  have := tnB_num0 (tm_nodes h i hi)
  omega
theorem raise_fits {k d : Int} {xs : List Tn} (h : FitsT xs) : FitsT (raiseL k d xs) := fun i hi => by
  rw [raiseL_length] at hi
  rw [raise_tt hi]
  exact h i hi
def GivesT2 (w : World) (r : List Tn × Int) (e : Ending) (w' : World) : Prop := ∃ v, e = .returned (.tuple #[v, .int .i64 r.2]) ∧ OwnT w' w.heap.size v r.1 ∧ Grew w w'
end Go.Proofs.YtdndclfjeajhiaaGreat

/- Lengths and nodes of contracted terms. No program is in sight. -/
namespace Go.Proofs.YtdndclfjeajhiaaGreat
open Go.RowKit
open Tr (Tm)

theorem wf_all {p : Tn → Prop} : ∀ t : Tm, Tr.wf p t → ∀ x ∈ Tr.enc t, p x := by
  intro t
  induction t with
  | t0 x => intro h y hy; simp [Tr.enc] at hy; subst hy; exact h.2
  | t1 x a ha =>
    intro h y hy
    simp only [Tr.enc, List.mem_cons] at hy
    rcases hy with rfl | hy
    · exact h.1.2
    · exact ha h.2 y hy
  | t2 x a b ha hb =>
    intro h y hy
    simp only [Tr.enc, List.mem_cons, List.mem_append] at hy
    rcases hy with rfl | hy | hy
    · exact h.1.2
    · exact ha h.2.1 y hy
    · exact hb h.2.2 y hy
  | t3 x a b c ha hb hc =>
    intro h y hy
    simp only [Tr.enc, List.mem_cons, List.mem_append] at hy
    rcases hy with rfl | hy | hy | hy
    · exact h.1.2
    · exact ha h.2.1 y hy
    · exact hb h.2.2.1 y hy
    · exact hc h.2.2.2 y hy
theorem good_numOk {t : Tm} (h : Good t) : NumOk (Tr.enc t) := fun i hi => by
  have h1 := wf_all t h _ (List.getElem_mem hi)
  rw [tk_lt hi] at h1
  have := tnB_num0 h1
  simp only at this
  omega

theorem putN_mem {P : Tn → Prop} (hP : ∀ k d x, P x → P (raiseN k d x)) (hD : ∀ x : Tn, P x → P (x.1, x.2.1 - 1, x.2.2)) {n : Int} {us : List Tn} (hu : ∀ y ∈ us, P y) (x : Tn) (m : Int) (hx : P x) : ∀ y ∈ putN n us x m, P y := by
  intro y hy
  unfold putN at hy
  split at hy
  · simp only [raiseL, List.mem_map] at hy
    obtain ⟨z, hz, rfl⟩ := hy
    exact hP _ _ _ (hu z hz)
  · split at hy
    · simp at hy; subst hy; exact hD _ hx
    · simp at hy; subst hy; exact hx
theorem ctr_mem {P : Tn → Prop} (hP : ∀ k d x, P x → P (raiseN k d x)) (hD : ∀ x : Tn, P x → P (x.1, x.2.1 - 1, x.2.2)) {t : Tm} {n : Int} (hg : Good t) (hr : rdxAt (Tr.enc t) 0 = true) (h : ∀ x ∈ Tr.enc t, P x) : ∀ y ∈ ctr t n, P y := by
  rcases rdx_shape hg hr with ⟨x, y, b, u, rfl, hx, hy⟩ | ⟨x, y, a, b, rfl, hx, hy⟩ | ⟨x, y, s, a, b, rfl, hx, hy⟩
  · exact Tr.mapN_mem (P := P) (fun z m hz => putN_mem hP hD (fun q hq => h q (by simp [Tr.enc, hq])) z m hz) b _ (fun q hq => h q (by simp [Tr.enc, hq]))
  · intro z hz
    rcases hx with hx | hx
    · have e : ctr (.t1 x (.t2 y a b)) n = Tr.enc a := by simp [ctr, hx, Tr.kid, Tr.kids]
      rw [e] at hz; exact h z (by simp [Tr.enc, hz])
    · have e : ctr (.t1 x (.t2 y a b)) n = Tr.enc b := by simp [ctr, hx, Tr.kid, Tr.kids]
      rw [e] at hz; exact h z (by simp [Tr.enc, hz])
  · refine Tr.mapN_mem (P := P) (fun z m hz => putN_mem hP hD (fun q hq => h q (by simp only [Tr.kid, Tr.kids, List.getD_cons_zero] at hq; simp [Tr.enc, hq])) z m hz) _ _ (fun q hq => h q ?_)
    split at hq <;> simp [Tr.enc, hq]
theorem ctr_len {t : Tm} {n : Int} {M : Nat} (hg : Good t) (hr : rdxAt (Tr.enc t) 0 = true) (hM : (Tr.enc t).length ≤ M) : (ctr t n).length ≤ (Tr.enc t).length * (M + 1) := by
  rcases rdx_shape hg hr with ⟨x, y, b, u, rfl, hx, hy⟩ | ⟨x, y, a, b, rfl, hx, hy⟩ | ⟨x, y, s, a, b, rfl, hx, hy⟩
  · have h1 := Tr.mapN_len (f := putN n (Tr.enc u)) (M := (Tr.enc u).length + 1) (by omega) (fun x m => putN_len n _ x m) b (n + 1)
    refine Nat.le_trans h1 (Nat.mul_le_mul ?_ ?_)
    · simp [Tr.enc]; omega
    · simp [Tr.enc] at hM; omega
  · have h1 : (ctr (.t1 x (.t2 y a b)) n).length ≤ (Tr.enc (.t1 x (.t2 y a b))).length := by
      rcases hx with hx | hx
      · have e : ctr (.t1 x (.t2 y a b)) n = Tr.enc a := by simp [ctr, hx, Tr.kid, Tr.kids]
        rw [e]; simp [Tr.enc]; omega
      · have e : ctr (.t1 x (.t2 y a b)) n = Tr.enc b := by simp [ctr, hx, Tr.kid, Tr.kids]
        rw [e]; simp [Tr.enc]; omega
    exact Nat.le_trans h1 (Nat.le_mul_of_pos_right _ (by omega))
  · have h1 := Tr.mapN_len (f := putN n (Tr.enc s)) (M := (Tr.enc s).length + 1) (by omega) (fun x m => putN_len n _ x m) (if (Tr.hd (.t1 y s)).1 = 6 then a else b) (n + 1)
    refine Nat.le_trans h1 (Nat.mul_le_mul ?_ ?_)
    · split <;> (simp [Tr.enc]; omega)
    · simp [Tr.enc] at hM; omega

/-- The part in which an index lies. -/
theorem rdx_kid {t : Tm} {i j : Nat} (hg : Good t) (hr : rdxAt (Tr.enc t) i = true) (hj : j < (Tr.kids t).length) (h : Tr.off t j ≤ i ∧ i < Tr.off t j + (Tr.enc (Tr.kid t j)).length) : rdxAt (Tr.enc (Tr.kid t j)) (i - Tr.off t j) = true := rdx_part hg hr hj h.1 h.2
theorem ctAt_len {M : Nat} : ∀ t : Tm, Good t → ∀ (n : Int) (i : Nat), rdxAt (Tr.enc t) i = true → (Tr.enc t).length ≤ M → (ctAt t n i).length ≤ (Tr.enc t).length * (M + 1) := by
  intro t
  refine Tr.ind (P := fun t => Good t → ∀ (n : Int) (i : Nat), rdxAt (Tr.enc t) i = true → (Tr.enc t).length ≤ M → (ctAt t n i).length ≤ (Tr.enc t).length * (M + 1)) ?_ t
  intro t ih hg n i hr hM
  by_cases hi : i = 0
  · subst hi
    rw [ctAt_zero]
    exact ctr_len hg hr hM
  rw [ctAt_kids (by omega)]
  have hL : ∀ j, j ≤ (Tr.kids t).length → (ctL t n i j).length ≤ Tr.off t j * (M + 1) := by
    intro j
    induction j with
    | zero => intro _; rw [Tr.off_zero]; simp [ctL]
    | succ j ihj =>
      intro hj
      have h1 := ihj (by omega)
      have h2 : (ctP t n i j).length ≤ (Tr.enc (Tr.kid t j)).length * (M + 1) := by
        unfold ctP
        split
        · rename_i hc
          exact ih _ (Tr.kid_mem (by omega)) (Tr.kids_wf hg _ (Tr.kid_mem (by omega))) _ _ (rdx_kid hg hr (by omega) hc) (by have := Tr.kid_small (t := t) (i := j) (by omega); omega)
        · exact Nat.le_mul_of_pos_right _ (by omega)
      rw [ctL, List.length_append, Tr.off_next (by omega), Nat.add_mul]
      omega
  refine Nat.le_trans (hL _ (Nat.le_refl _)) (Nat.mul_le_mul_right _ ?_)
  have h1 : (Tr.enc t).length = 1 + ((Tr.kids t).flatMap Tr.enc).length := by rw [Tr.enc_kids]; simp; omega
  unfold Tr.off
  rw [List.take_length]
  omega
theorem ctL_len {M : Nat} {t : Tm} {n : Int} {i : Nat} (hg : Good t) (hr : rdxAt (Tr.enc t) i = true) (hM : (Tr.enc t).length ≤ M) : ∀ j, j ≤ (Tr.kids t).length → (ctL t n i j).length ≤ Tr.off t j * (M + 1) := by
  intro j
  induction j with
  | zero => intro _; rw [Tr.off_zero]; simp [ctL]
  | succ j ihj =>
    intro hj
    have h1 := ihj (by omega)
    have h2 : (ctP t n i j).length ≤ (Tr.enc (Tr.kid t j)).length * (M + 1) := by
      unfold ctP
      split
      · rename_i hc
        exact ctAt_len _ (Tr.kids_wf hg _ (Tr.kid_mem (by omega))) _ _ (rdx_kid hg hr (by omega) hc) (by have := Tr.kid_small (t := t) (i := j) (by omega); omega)
      · exact Nat.le_mul_of_pos_right _ (by omega)
    rw [ctL, List.length_append, Tr.off_next (by omega), Nat.add_mul]
    omega
theorem ctAt_mem {P : Tn → Prop} (hP : ∀ k d x, P x → P (raiseN k d x)) (hD : ∀ x : Tn, P x → P (x.1, x.2.1 - 1, x.2.2)) : ∀ t : Tm, Good t → ∀ (n : Int) (i : Nat), rdxAt (Tr.enc t) i = true → (∀ x ∈ Tr.enc t, P x) → ∀ y ∈ ctAt t n i, P y := by
  intro t
  refine Tr.ind (P := fun t => Good t → ∀ (n : Int) (i : Nat), rdxAt (Tr.enc t) i = true → (∀ x ∈ Tr.enc t, P x) → ∀ y ∈ ctAt t n i, P y) ?_ t
  intro t ih hg n i hr h
  by_cases hi : i = 0
  · subst hi
    rw [ctAt_zero]
    exact ctr_mem hP hD hg hr h
  rw [ctAt_kids (by omega)]
  have hk : ∀ j, j < (Tr.kids t).length → ∀ x ∈ Tr.enc (Tr.kid t j), P x := by
    intro j hj x hx
    refine h x ?_
    rw [Tr.enc_kids]
    exact List.mem_cons_of_mem _ (List.mem_flatMap.2 ⟨_, Tr.kid_mem hj, hx⟩)
  have hL : ∀ j, j ≤ (Tr.kids t).length → ∀ y ∈ ctL t n i j, P y := by
    intro j
    induction j with
    | zero => intro _ y hy; simp [ctL] at hy; subst hy; exact h _ (by rw [Tr.enc_kids]; exact List.mem_cons_self)
    | succ j ihj =>
      intro hj y hy
      rw [ctL, List.mem_append] at hy
      rcases hy with hy | hy
      · exact ihj (by omega) y hy
      · unfold ctP at hy
        split at hy
        · rename_i hc
          exact ih _ (Tr.kid_mem (by omega)) (Tr.kids_wf hg _ (Tr.kid_mem (by omega))) _ _ (rdx_kid hg hr (by omega) hc) (hk j (by omega)) y hy
        · exact hk j (by omega) y hy
  exact hL _ (Nat.le_refl _)
theorem ctAt_fits {t : Tm} {n : Int} {i : Nat} (hg : Good t) (hr : rdxAt (Tr.enc t) i = true) (h : FitsT (Tr.enc t)) : FitsT (ctAt t n i) := by
  rw [fits_mem] at *
  refine ctAt_mem (P := fun x => x.2.2.size ≤ 1048576) (fun k d x hx => ?_) (fun x hx => hx) t hg n i hr h
  unfold raiseN
  split <;> exact hx
end Go.Proofs.YtdndclfjeajhiaaGreat

/- The limits of a term: limitedTerm of the program, l26Made of the reference. -/
namespace Go.Proofs.YtdndclfjeajhiaaGreat
open Go.RowKit

def bigT (_k n : Int) (_s : ByteArray) : Bool := decide (99 < n)
/-- A term that has not too many nodes and no great number. -/
noncomputable def limT (xs : List Tn) : List Tn × Int := if decide (60 < xs.length) || anyT bigT xs then ([], 3) else (xs, 0)
theorem limT_len {xs : List Tn} : (limT xs).1.length ≤ 60 := by
  unfold limT
  split
  · simp
  · rename_i h
    simp only [Bool.or_eq_true, decide_eq_true_eq, not_or] at h
    simp; omega
theorem limitedTerm1_ok : PredT 72 bigT := by
  intro a b s w hs
  unfold bigT
  go_enter Tryz.func72, Tryz.ntmps72
  go_wp2_with fail
  go_ret
  exact ⟨rfl, (Grew.refl w).alloc _⟩
/-- The call gives the term, or nothing and a code. -/
def LimG (w : World) (B : Nat) (xs : List Tn) (e : Ending) (w' : World) : Prop := ∃ u, e = .returned (.tuple #[u, .int .i64 (limT xs).2]) ∧ OwnT w' B u (limT xs).1 ∧ Grew w w'
theorem limitedTerm_c (v : Value) (xs : List Tn) (w : World) (B : Nat) (h : OwnT w B v xs) (hfit : FitsT xs) (hn : xs.length ≤ 1048576) :
    Calls Tryz.prog 38 #[v] w (LimG w B xs) := by
  unfold LimG limT
  have HC := fun w h => containsFuncT_c v xs _ _ w h hfit limitedTerm1_ok (enters_of Tryz.func72 (by kernel_rfl) rfl)
  obtain ⟨A, c, rfl⟩ := tms_slice h.tms
  have HO := Lib.hid h
  have HN := Lib.hid h.tms
  clear h hfit
  by_cases hl : 60 < xs.length
  · rw [decide_eq_true hl, Bool.true_or, if_pos rfl]
    clear HC HO HN
    generalize xs.length = n at *
    go_enter Tryz.func38, Tryz.ntmps38
    go_wp2_with fail
    go_ret2
    exact ⟨.slice none 0 0, rfl, OwnT.nil_ _ _, Grew.refl _⟩
  · rw [decide_eq_false hl, Bool.false_or]
    cases hq : anyT bigT xs with
    | true =>
      rw [if_pos rfl]
      rw [hq] at HC
      replace HC := Lib.hid HC
      clear HO hq
      generalize xs.length = n at *
      go_enter Tryz.func38, Tryz.ntmps38
      go_wp2_with fail
      refine (HC.out _ HN.out).mono ?_
      rintro e w1 ⟨rfl, hg1⟩
      go_wp2_with fail
      go_ret2
      exact ⟨.slice none 0 0, rfl, OwnT.nil_ _ _, hg1⟩
    | false =>
      rw [if_neg (by simp)]
      rw [hq] at HC
      replace HC := Lib.hid HC
      clear hq
      generalize xs.length = n at *
      go_enter Tryz.func38, Tryz.ntmps38
      go_wp2_with fail
      refine (HC.out _ HN.out).mono ?_
      rintro e w1 ⟨rfl, hg1⟩
      go_wp2_with fail
      go_ret2
      exact ⟨_, rfl, HO.out.grew hg1, hg1⟩
theorem l26Made_c (v : Value) (xs : List Tn) (w : World) (B : Nat) (h : OwnT w B v xs) (hn : xs.length ≤ 1048576) :
    Calls Tryz.prog 43 #[v] w (LimG w B xs) := by
  unfold LimG limT
  rcases h.tms.open_ with ⟨rfl, rfl⟩ | ⟨b, o, c, rfl, hc, hm, hb, hcell⟩
  · have hq : anyT bigT [] = false := anyT_no (NoneT.zero _ _)
    rw [hq, if_neg (by simp)]
    clear h hq
    go_enter Tryz.func43, Tryz.ntmps43
    go_wp2_with fail
    refine wp_loop_rounds 1 ?_; rw [rounds_succ]
    go_wp2_with fail
    go_ret2
    exact ⟨_, rfl, OwnT.nil_ _ _, Grew.refl _⟩
  have HO := Lib.hid h
  by_cases hl : 60 < xs.length
  · rw [decide_eq_true hl, Bool.true_or, if_pos rfl]
    clear h hcell HO
    generalize xs.length = n at *
    go_enter Tryz.func43, Tryz.ntmps43
    go_wp2_with fail
    go_ret2
    exact ⟨.slice none 0 0, rfl, OwnT.nil_ _ _, Grew.refl _⟩
  · rw [decide_eq_false hl, Bool.false_or]
    obtain ⟨R, hR⟩ : ∃ R, R = anyT bigT xs := ⟨_, rfl⟩
    rw [← hR]
    have HA := Lib.hid (fun k hk h => hR.trans (@anyT_at bigT xs k hk h))
    have HZ := Lib.hid (fun h => hR.trans (@anyT_no bigT xs h))
    have HC := Lib.hid hcell
    clear hcell h hR
    obtain ⟨RR, hRR⟩ : ∃ RR, RR = (if R = true then (([] : List Tn), (3 : Int)) else (xs, 0)) := ⟨_, rfl⟩
    rw [← hRR]
    have HRR := Lib.hid hRR
    clear hRR
    generalize hN : xs.length = n at *
    go_enter Tryz.func43, Tryz.ntmps43
    go_wp2_with fail
    go_loopw [4] (fun i wr => ∃ j : Nat, j ≤ n ∧ i = .int .i64 j ∧ Grew w wr ∧ Hid (NoneT bigT xs j)) (fun i _ => n - (intOf i).toNat)
    case atStart => exact ⟨0, Nat.zero_le _, rfl, Grew.refl _, NoneT.zero _ _⟩
    case round =>
      obtain ⟨j, hj, rfl, hB, HJ⟩ := hrel
      by_cases hlt : j < n
      · have k2 := (HC.out j hlt _ hB).2.1
        have hA := Lib.hid (HA.out j hlt)
        have hS := Lib.hid (fun h => HJ.out.succ (k := j) h)
        unfold bigT at hA hS
        generalize tn xs j = y at *
        by_cases hbig : 99 < y
        · have hv : Hid (RR = ([], 3)) := Lib.hid (by rw [HRR.out, hA.out (by simpa using hbig)]; rfl)
          go_wp2_with fail
          go_ret2
          rw [hv.out]
          exact ⟨.slice none 0 0, rfl, OwnT.nil_ _ _, hB⟩
        · have hs := Lib.hid (hS.out (by simpa using hbig))
          go_wp2_with fail
          go_roundw
          case rel => exact ⟨j + 1, by omega, by go_num, hB, hs⟩
          case measure => simp [intOf]; omega
      · obtain rfl : j = n := by omega
        have hv : Hid (RR = (xs, 0)) := Lib.hid (by rw [HRR.out, HZ.out HJ.out]; rfl)
        go_wp2_with fail
        go_ret2
        rw [hv.out]
        exact ⟨_, rfl, HO.out.grew hB, hB⟩
end Go.Proofs.YtdndclfjeajhiaaGreat

/- A contracted term is a term again. No program is in sight. -/
namespace Go.Proofs.YtdndclfjeajhiaaGreat
open Go.RowKit
open Tr (Tm)

namespace Tr
def mapTm (g : Tn → Int → Tm) : Tm → Int → Tm
  | .t0 x, n => g x n
  | .t1 x a, n => .t1 x (mapTm g a (n + bd x.1 0))
  | .t2 x a b, n => .t2 x (mapTm g a (n + bd x.1 0)) (mapTm g b (n + bd x.1 1))
  | .t3 x a b c, n => .t3 x (mapTm g a (n + bd x.1 0)) (mapTm g b (n + bd x.1 1)) (mapTm g c (n + bd x.1 2))
theorem enc_mapTm {g : Tn → Int → Tm} {f : Tn → Int → List Tn} (h : ∀ x n, enc (g x n) = f x n) : ∀ t n, enc (mapTm g t n) = mapN f t n := by
  intro t
  induction t with
  | t0 x => intro n; exact h x n
  | t1 x a ha => intro n; simp [mapTm, mapN, enc, ha]
  | t2 x a b ha hb => intro n; simp [mapTm, mapN, enc, ha, hb]
  | t3 x a b c ha hb hc => intro n; simp [mapTm, mapN, enc, ha, hb, hc]
theorem bd_pos (k : Int) (i : Nat) : 0 ≤ bd k i := by unfold bd; split <;> omega
theorem mapTm_wf {g : Tn → Int → Tm} {p q : Tn → Prop} {lo : Int} (hpq : ∀ x, p x → q x) (hg : ∀ x m, lo ≤ m → ar x.1 = 0 → p x → wf q (g x m)) : ∀ t n, lo ≤ n → wf p t → wf q (mapTm g t n) := by
  intro t
  induction t with
  | t0 x => intro n hn h; exact hg x n hn h.1 h.2
  | t1 x a ha =>
    intro n hn h
    exact ⟨⟨h.1.1, hpq _ h.1.2⟩, ha _ (by have := bd_pos x.1 0; omega) h.2⟩
  | t2 x a b ha hb =>
    intro n hn h
    exact ⟨⟨h.1.1, hpq _ h.1.2⟩, ha _ (by have := bd_pos x.1 0; omega) h.2.1, hb _ (by have := bd_pos x.1 1; omega) h.2.2⟩
  | t3 x a b c ha hb hc =>
    intro n hn h
    exact ⟨⟨h.1.1, hpq _ h.1.2⟩, ha _ (by have := bd_pos x.1 0; omega) h.2.1, hb _ (by have := bd_pos x.1 1; omega) h.2.2.1, hc _ (by have := bd_pos x.1 2; omega) h.2.2.2⟩
def nodeTm (g : Tn → Tn) : Tm → Tm
  | .t0 x => .t0 (g x)
  | .t1 x a => .t1 (g x) (nodeTm g a)
  | .t2 x a b => .t2 (g x) (nodeTm g a) (nodeTm g b)
  | .t3 x a b c => .t3 (g x) (nodeTm g a) (nodeTm g b) (nodeTm g c)
theorem enc_nodeTm (g : Tn → Tn) : ∀ t, enc (nodeTm g t) = (enc t).map g := by
  intro t
  induction t with
  | t0 x => rfl
  | t1 x a ha => simp [nodeTm, enc, ha]
  | t2 x a b ha hb => simp [nodeTm, enc, ha, hb]
  | t3 x a b c ha hb hc => simp [nodeTm, enc, ha, hb, hc]
theorem nodeTm_wf {g : Tn → Tn} {p q : Tn → Prop} (hk : ∀ x, (g x).1 = x.1) (hg : ∀ x, p x → q (g x)) : ∀ t, wf p t → wf q (nodeTm g t) := by
  intro t
  induction t with
  | t0 x => intro h; exact ⟨by rw [hk]; exact h.1, hg _ h.2⟩
  | t1 x a ha => intro h; exact ⟨⟨by rw [hk]; exact h.1.1, hg _ h.1.2⟩, ha h.2⟩
  | t2 x a b ha hb => intro h; exact ⟨⟨by rw [hk]; exact h.1.1, hg _ h.1.2⟩, ha h.2.1, hb h.2.2⟩
  | t3 x a b c ha hb hc => intro h; exact ⟨⟨by rw [hk]; exact h.1.1, hg _ h.1.2⟩, ha h.2.1, hb h.2.2.1, hc h.2.2.2⟩
theorem wf_mono {p q : Tn → Prop} (h : ∀ x, p x → q x) : ∀ t, wf p t → wf q t := by
  intro t
  induction t with
  | t0 x => intro k; exact ⟨k.1, h _ k.2⟩
  | t1 x a ha => intro k; exact ⟨⟨k.1.1, h _ k.1.2⟩, ha k.2⟩
  | t2 x a b ha hb => intro k; exact ⟨⟨k.1.1, h _ k.1.2⟩, ha k.2.1, hb k.2.2⟩
  | t3 x a b c ha hb hc => intro k; exact ⟨⟨k.1.1, h _ k.1.2⟩, ha k.2.1, hb k.2.2.1, hc k.2.2.2⟩
theorem wf_and {p q : Tn → Prop} : ∀ t, wf p t → (∀ x ∈ enc t, q x) → wf (fun x => p x ∧ q x) t := by
  intro t
  induction t with
  | t0 x => intro k h; exact ⟨k.1, k.2, h _ (by simp [enc])⟩
  | t1 x a ha => intro k h; exact ⟨⟨k.1.1, k.1.2, h _ (by simp [enc])⟩, ha k.2 (fun y hy => h y (by simp [enc, hy]))⟩
  | t2 x a b ha hb => intro k h; exact ⟨⟨k.1.1, k.1.2, h _ (by simp [enc])⟩, ha k.2.1 (fun y hy => h y (by simp [enc, hy])), hb k.2.2 (fun y hy => h y (by simp [enc, hy]))⟩
  | t3 x a b c ha hb hc => intro k h; exact ⟨⟨k.1.1, k.1.2, h _ (by simp [enc])⟩, ha k.2.1 (fun y hy => h y (by simp [enc, hy])), hb k.2.2.1 (fun y hy => h y (by simp [enc, hy])), hc k.2.2.2 (fun y hy => h y (by simp [enc, hy]))⟩
end Tr

/-- A node as good as that of a term, but that a number may be great. -/
def GoodU (x : Tn) : Prop := if x.1 = 0 then 0 ≤ x.2.1 ∧ x.2.2.toList.isEmpty = true else tnB x.1 x.2.1 x.2.2 = true
theorem goodU_of {x : Tn} (h : GoodN x) : GoodU x := by
  unfold GoodU
  split
  · rename_i h0
    unfold GoodN tnB at h
    rw [h0, if_pos (by rfl)] at h
    simp only [Bool.and_eq_true, decide_eq_true_eq] at h
    exact ⟨h.1.1, h.2⟩
  · exact h
theorem good_of {x : Tn} (h : GoodU x) (hn : x.2.1 ≤ 99) : GoodN x := by
  unfold GoodU at h
  unfold GoodN
  split at h
  · rename_i h0
    unfold tnB
    rw [h0, if_pos (by rfl)]
    simp only [Bool.and_eq_true, decide_eq_true_eq]
    exact ⟨⟨h.1, hn⟩, h.2⟩
  · exact h
theorem goodU_raise {k d : Int} {x : Tn} (hd : 0 ≤ d) (h : GoodU x) : GoodU (raiseN k d x) := by
  unfold raiseN
  split
  · rename_i h0
    unfold GoodU at h ⊢
    rw [if_pos h0.1] at h
    rw [if_pos (show (x.1, x.2.1 + d, x.2.2).1 = 0 from h0.1)]
    exact ⟨by show 0 ≤ x.2.1 + d; omega, h.2⟩
  · exact h
theorem ar_leaf {x : Tn} (h : GoodN x) (ha : Tr.ar x.1 = 0) : x.1 = 0 := by
  have := good_leaf (t := .t0 x) ⟨ha, h⟩
  exact this.1 rfl

/-- A variable with a term put for number n. -/
def putT (n : Int) (u : Tm) (x : Tn) (now : Int) : Tm := if x.2.1 = n then Tr.nodeTm (raiseN n (now - n - 1)) u else if n < x.2.1 then .t0 (x.1, x.2.1 - 1, x.2.2) else .t0 x
theorem enc_putT (n : Int) (u : Tm) (x : Tn) (now : Int) : Tr.enc (putT n u x now) = putN n (Tr.enc u) x now := by
  unfold putT putN
  split
  · rw [Tr.enc_nodeTm]; rfl
  · split <;> rfl
theorem raiseN_kind (k d : Int) (x : Tn) : (raiseN k d x).1 = x.1 := by unfold raiseN; split <;> rfl
theorem putT_wf {n : Int} {u : Tm} (hn : 0 ≤ n) (hu : Good u) (x : Tn) (m : Int) (hm : n + 1 ≤ m) (ha : Tr.ar x.1 = 0) (hx : GoodN x) : Tr.wf GoodU (putT n u x m) := by
  have h0 := ar_leaf hx ha
  unfold putT
  split
  · exact Tr.nodeTm_wf (raiseN_kind _ _) (fun y hy => goodU_raise (by omega) (goodU_of hy)) u hu
  · split
    · refine ⟨ha, ?_⟩
      have := goodU_of hx
      unfold GoodU at this ⊢
      rw [if_pos h0] at this
      rw [if_pos (show (x.1, x.2.1 - 1, x.2.2).1 = 0 from h0)]
      exact ⟨by show 0 ≤ x.2.1 - 1; omega, this.2⟩
    · exact ⟨ha, goodU_of hx⟩

def ctrT (t : Tm) (n : Int) : Tm :=
  match t with
  | .t2 _ f u => Tr.mapTm (putT n u) (Tr.kid f 0) (n + 1)
  | .t3 _ f a b => Tr.mapTm (putT n (Tr.kid f 0)) (if (Tr.hd f).1 = 6 then a else b) (n + 1)
  | .t1 x f => Tr.kid f (if x.1 = 4 then 0 else 1)
  | .t0 x => .t0 x
theorem enc_ctrT (t : Tm) (n : Int) : Tr.enc (ctrT t n) = ctr t n := by
  cases t with
  | t0 x => rfl
  | t1 x f => rfl
  | t2 x f u => exact Tr.enc_mapTm (enc_putT n u) _ _
  | t3 x f a b => exact Tr.enc_mapTm (enc_putT n (Tr.kid f 0)) _ _
theorem ctrT_wf {t : Tm} {n : Int} (hn : 0 ≤ n) (hg : Good t) (hr : rdxAt (Tr.enc t) 0 = true) : Tr.wf GoodU (ctrT t n) := by
  rcases rdx_shape hg hr with ⟨x, y, b, u, rfl, hx, hy⟩ | ⟨x, y, a, b, rfl, hx, hy⟩ | ⟨x, y, s, a, b, rfl, hx, hy⟩
  · exact Tr.mapTm_wf (lo := n + 1) (fun _ h => goodU_of h) (fun z m hm ha hz => putT_wf hn hg.2.2 z m hm ha hz) b _ (Int.le_refl _) hg.2.1.2
  · have hgf : Good (.t2 y a b) := hg.2
    rcases hx with hx | hx
    · have e : ctrT (.t1 x (.t2 y a b)) n = a := by simp [ctrT, hx, Tr.kid, Tr.kids]
      rw [e]; exact Tr.wf_mono (fun _ h => goodU_of h) a hgf.2.1
    · have e : ctrT (.t1 x (.t2 y a b)) n = b := by simp [ctrT, hx, Tr.kid, Tr.kids]
      rw [e]; exact Tr.wf_mono (fun _ h => goodU_of h) b hgf.2.2
  · refine Tr.mapTm_wf (lo := n + 1) (fun _ h => goodU_of h) (fun z m hm ha hz => putT_wf hn (u := s) hg.2.1.2 z m hm ha hz) _ _ (Int.le_refl _) ?_
    split
    · exact hg.2.2.1
    · exact hg.2.2.2

/-- A term with the redex at an index contracted. -/
def ctT : Tm → Int → Nat → Tm
  | t, n, 0 => ctrT t n
  | .t0 x, _, _ + 1 => .t0 x
  | .t1 x a, n, i + 1 => .t1 x (if i < (Tr.enc a).length then ctT a (n + Tr.bd x.1 0) i else a)
  | .t2 x a b, n, i + 1 => .t2 x (if i < (Tr.enc a).length then ctT a (n + Tr.bd x.1 0) i else a) (if (Tr.enc a).length ≤ i ∧ i < (Tr.enc a).length + (Tr.enc b).length then ctT b (n + Tr.bd x.1 1) (i - (Tr.enc a).length) else b)
  | .t3 x a b c, n, i + 1 => .t3 x (if i < (Tr.enc a).length then ctT a (n + Tr.bd x.1 0) i else a) (if (Tr.enc a).length ≤ i ∧ i < (Tr.enc a).length + (Tr.enc b).length then ctT b (n + Tr.bd x.1 1) (i - (Tr.enc a).length) else b) (if (Tr.enc a).length + (Tr.enc b).length ≤ i ∧ i < (Tr.enc a).length + (Tr.enc b).length + (Tr.enc c).length then ctT c (n + Tr.bd x.1 2) (i - ((Tr.enc a).length + (Tr.enc b).length)) else c)
theorem ctT_zero (t : Tm) (n : Int) : ctT t n 0 = ctrT t n := by cases t <;> rfl
theorem enc_ite {P : Prop} [Decidable P] {a b : Tm} {A : List Tn} (h : Tr.enc a = A) : Tr.enc (if P then a else b) = (if P then A else Tr.enc b) := by split; exact h; rfl
theorem enc_ctT : ∀ (t : Tm) (n : Int) (i : Nat), Tr.enc (ctT t n i) = ctAt t n i := by
  intro t
  induction t with
  | t0 x => intro n i; cases i <;> rfl
  | t1 x a ha =>
    intro n i
    cases i with
    | zero => rw [ctT_zero, ctAt_zero]; exact enc_ctrT _ _
    | succ i =>
      simp only [ctT, ctAt, Tr.enc]
      rw [enc_ite (ha _ _)]
  | t2 x a b ha hb =>
    intro n i
    cases i with
    | zero => rw [ctT_zero, ctAt_zero]; exact enc_ctrT _ _
    | succ i =>
      simp only [ctT, ctAt, Tr.enc]
      rw [enc_ite (ha _ _), enc_ite (hb _ _)]
  | t3 x a b c ha hb hc =>
    intro n i
    cases i with
    | zero => rw [ctT_zero, ctAt_zero]; exact enc_ctrT _ _
    | succ i =>
      simp only [ctT, ctAt, Tr.enc]
      rw [enc_ite (ha _ _), enc_ite (hb _ _), enc_ite (hc _ _)]
theorem wf_ite {P : Prop} [Decidable P] {a b : Tm} {p : Tn → Prop} (h : P → Tr.wf p a) (k : Tr.wf p b) : Tr.wf p (if P then a else b) := by split; exact h ‹_›; exact k
theorem ctT_wf : ∀ (t : Tm) (n : Int) (i : Nat), 0 ≤ n → Good t → rdxAt (Tr.enc t) i = true → Tr.wf GoodU (ctT t n i) := by
  intro t
  induction t with
  | t0 x =>
    intro n i hn hg hr
    unfold rdxAt at hr
    simp [Tr.enc] at hr
  | t1 x a ha =>
    intro n i hn hg hr
    cases i with
    | zero => rw [ctT_zero]; exact ctrT_wf hn hg hr
    | succ i =>
      refine ⟨⟨hg.1.1, goodU_of hg.1.2⟩, wf_ite (fun h => ?_) (Tr.wf_mono (fun _ h => goodU_of h) a hg.2)⟩
      have h1 := rdx_part (j := 0) hg hr (by decide : 0 < 1) (by rw [Tr.off_zero]; omega) (by rw [Tr.off_zero]; show i + 1 < 1 + (Tr.enc a).length; omega)
      rw [Tr.off_zero, Nat.add_sub_cancel] at h1
      exact ha _ _ (by have := Tr.bd_pos x.1 0; omega) hg.2 h1
  | t2 x a b ha hb =>
    intro n i hn hg hr
    cases i with
    | zero => rw [ctT_zero]; exact ctrT_wf hn hg hr
    | succ i =>
      have e1 : Tr.off (.t2 x a b) 1 = 1 + (Tr.enc a).length := by simp [Tr.off, Tr.kids]
      refine ⟨⟨hg.1.1, goodU_of hg.1.2⟩, wf_ite (fun h => ?_) (Tr.wf_mono (fun _ h => goodU_of h) a hg.2.1), wf_ite (fun h => ?_) (Tr.wf_mono (fun _ h => goodU_of h) b hg.2.2)⟩
      · have h1 := rdx_part (j := 0) hg hr (by decide : 0 < 2) (by rw [Tr.off_zero]; omega) (by rw [Tr.off_zero]; show i + 1 < 1 + (Tr.enc a).length; omega)
        rw [Tr.off_zero, Nat.add_sub_cancel] at h1
        exact ha _ _ (by have := Tr.bd_pos x.1 0; omega) hg.2.1 h1
      · have h1 := rdx_part (j := 1) hg hr (by decide : 1 < 2) (by rw [e1]; omega) (by rw [e1]; show i + 1 < 1 + (Tr.enc a).length + (Tr.enc b).length; omega)
        rw [e1, show i + 1 - (1 + (Tr.enc a).length) = i - (Tr.enc a).length by omega] at h1
        exact hb _ _ (by have := Tr.bd_pos x.1 1; omega) hg.2.2 h1
  | t3 x a b c ha hb hc =>
    intro n i hn hg hr
    cases i with
    | zero => rw [ctT_zero]; exact ctrT_wf hn hg hr
    | succ i =>
      have e1 : Tr.off (.t3 x a b c) 1 = 1 + (Tr.enc a).length := by simp [Tr.off, Tr.kids]
      have e2 : Tr.off (.t3 x a b c) 2 = 1 + ((Tr.enc a).length + (Tr.enc b).length) := by simp [Tr.off, Tr.kids]
      refine ⟨⟨hg.1.1, goodU_of hg.1.2⟩, wf_ite (fun h => ?_) (Tr.wf_mono (fun _ h => goodU_of h) a hg.2.1), wf_ite (fun h => ?_) (Tr.wf_mono (fun _ h => goodU_of h) b hg.2.2.1), wf_ite (fun h => ?_) (Tr.wf_mono (fun _ h => goodU_of h) c hg.2.2.2)⟩
      · have h1 := rdx_part (j := 0) hg hr (by decide : 0 < 3) (by rw [Tr.off_zero]; omega) (by rw [Tr.off_zero]; show i + 1 < 1 + (Tr.enc a).length; omega)
        rw [Tr.off_zero, Nat.add_sub_cancel] at h1
        exact ha _ _ (by have := Tr.bd_pos x.1 0; omega) hg.2.1 h1
      · have h1 := rdx_part (j := 1) hg hr (by decide : 1 < 3) (by rw [e1]; omega) (by rw [e1]; show i + 1 < 1 + (Tr.enc a).length + (Tr.enc b).length; omega)
        rw [e1, show i + 1 - (1 + (Tr.enc a).length) = i - (Tr.enc a).length by omega] at h1
        exact hb _ _ (by have := Tr.bd_pos x.1 1; omega) hg.2.2.1 h1
      · have h1 := rdx_part (j := 2) hg hr (by decide : 2 < 3) (by rw [e2]; omega) (by rw [e2]; show i + 1 < 1 + ((Tr.enc a).length + (Tr.enc b).length) + (Tr.enc c).length; omega)
        rw [e2, show i + 1 - (1 + ((Tr.enc a).length + (Tr.enc b).length)) = i - ((Tr.enc a).length + (Tr.enc b).length) by omega] at h1
        exact hc _ _ (by have := Tr.bd_pos x.1 2; omega) hg.2.2.2 h1

/-- Under the limits a contracted term is a good term. -/
theorem ct_good {t : Tm} {n : Int} {i : Nat} (hn : 0 ≤ n) (hg : Good t) (hr : rdxAt (Tr.enc t) i = true) (hl : (limT (ctAt t n i)).2 = 0) : Good (ctT t n i) ∧ Tr.enc (ctT t n i) = ctAt t n i ∧ (ctAt t n i).length ≤ 60 ∧ (limT (ctAt t n i)).1 = ctAt t n i := by
  have he := enc_ctT t n i
  unfold limT at hl ⊢
  split at hl
  · cases hl
  · rename_i hc
    rw [if_neg hc]
    simp only [Bool.or_eq_true, decide_eq_true_eq, not_or] at hc
    obtain ⟨h1, h2⟩ := hc
    refine ⟨?_, he, by omega, rfl⟩
    have hw := Tr.wf_and (q := fun x => x.2.1 ≤ 99) (ctT t n i) (ctT_wf t n i hn hg hr) ?_
    · exact Tr.wf_mono (fun x h => good_of h.1 h.2) _ hw
    · intro x hx
      rw [he] at hx
      obtain ⟨j, hj, rfl⟩ := List.getElem_of_mem hx
      have := anyT_none (by simpa using h2) hj
      rw [tk_lt hj]
      unfold bigT at this
      simpa using this
theorem limT_code (xs : List Tn) : (limT xs).2 = 0 ∨ limT xs = ([], 3) := by
  unfold limT
  split
  · exact .inr rfl
  · exact .inl rfl
end Go.Proofs.YtdndclfjeajhiaaGreat

/- Terms with levels as terms with indices: contraction goes over into parallel contraction, types into types. No program is in sight. -/
namespace Go.Proofs.YtdndclfjeajhiaaGreat
open Go.RowKit
open Tr (Tm)

theorem Lm.ren_id : ∀ t : Lm, Lm.ren (fun i => i) t = t := by
  have up : Lm.upr (fun i => i) = fun i => i := by funext i; cases i <;> rfl
  intro t
  induction t with
  | v i => rfl
  | l A a ha => simp only [Lm.ren, up, ha]
  | u k A a ha => simp only [Lm.ren, ha]
  | p k a b ha hb => simp only [Lm.ren, ha, hb]
  | c a b d ha hb hd => simp only [Lm.ren, up, ha, hb, hd]
def ku (k : Int) : Ku := if k = 4 then .fst else if k = 5 then .snd else if k = 6 then .inl else if k = 7 then .inr else .abt
def kp (k : Int) : Kp := if k = 2 then .app else .pair
def tl : Tm → Nat → Lm
  | .t0 x, n => .v (n - 1 - x.2.1.toNat)
  | .t1 x a, n => if x.1 = 1 then .l x.2.2 (tl a (n + 1)) else .u (ku x.1) x.2.2 (tl a n)
  | .t2 x a b, n => .p (kp x.1) (tl a n) (tl b n)
  | .t3 _ a b c, n => .c (tl a n) (tl b (n + 1)) (tl c (n + 1))
/-- The nodes' kinds are as they ought to be, all numbers less than what they are read with. -/
def Sc : Tm → Nat → Prop
  | .t0 x, n => x.1 = 0 ∧ 0 ≤ x.2.1 ∧ x.2.1 < n
  | .t1 x a, n => (x.1 = 1 ∧ Sc a (n + 1)) ∨ ((x.1 = 4 ∨ x.1 = 5 ∨ x.1 = 6 ∨ x.1 = 7 ∨ x.1 = 9) ∧ Sc a n)
  | .t2 x a b, n => (x.1 = 2 ∨ x.1 = 3) ∧ Sc a n ∧ Sc b n
  | .t3 x a b c, n => x.1 = 8 ∧ Sc a n ∧ Sc b (n + 1) ∧ Sc c (n + 1)
theorem bd_one (i : Nat) : Tr.bd 1 i = 1 := by unfold Tr.bd; rw [if_pos (.inl rfl)]
theorem bd_no {k : Int} {i : Nat} (h1 : k ≠ 1) (h8 : k ≠ 8) : Tr.bd k i = 0 := by unfold Tr.bd; rw [if_neg]; rintro (h | h); exact h1 h; exact h8 h.1
theorem bd_8 {i : Nat} (h : 0 < i) : Tr.bd 8 i = 1 := by unfold Tr.bd; rw [if_pos (.inr ⟨rfl, h⟩)]
theorem bd_80 : Tr.bd 8 0 = 0 := by unfold Tr.bd; rw [if_neg]; rintro (h | h); exact absurd h (by decide); exact absurd h.2 (by decide)

theorem ar_1 {k : Int} (h : Tr.ar k = 1) : k = 1 ∨ k = 4 ∨ k = 5 ∨ k = 6 ∨ k = 7 ∨ k = 9 := by
  unfold Tr.ar at h
  split at h
  · assumption
  · split at h
    · cases h
    · split at h <;> cases h
theorem ar_2 {k : Int} (h : Tr.ar k = 2) : k = 2 ∨ k = 3 := by
  unfold Tr.ar at h
  split at h
  · cases h
  · split at h
    · assumption
    · split at h <;> cases h
theorem ar_3 {k : Int} (h : Tr.ar k = 3) : k = 8 := by
  unfold Tr.ar at h
  split at h
  · cases h
  · split at h
    · cases h
    · split at h
      · assumption
      · cases h
theorem sc_of : ∀ (t : Tm) (n : Nat), Good t → Tr.evN ltP t (n : Int) = true → Sc t n := by
  intro t
  induction t with
  | t0 x =>
    intro n hg h
    have h0 := ar_leaf hg.2 hg.1
    have hn : GoodN x := hg.2
    unfold GoodN tnB at hn
    rw [h0, if_pos (by rfl)] at hn
    simp only [Bool.and_eq_true, decide_eq_true_eq] at hn
    exact ⟨h0, hn.1.1, by simpa [Tr.evN, ltP] using h⟩
  | t1 x a ha =>
    intro n hg h
    have h : Tr.evN ltP a ((n : Int) + Tr.bd x.1 0) = true := h
    rcases ar_1 hg.1.1 with h1 | h1
    · rw [h1, bd_one] at h
      exact .inl ⟨h1, ha (n + 1) hg.2 (by simpa using h)⟩
    · rw [bd_no (by omega) (by omega), Int.add_zero] at h
      exact .inr ⟨h1, ha n hg.2 h⟩
  | t2 x a b ha hb =>
    intro n hg h
    have h : (Tr.evN ltP a ((n : Int) + Tr.bd x.1 0) && Tr.evN ltP b ((n : Int) + Tr.bd x.1 1)) = true := h
    have h2 := ar_2 hg.1.1
    rw [bd_no (by omega) (by omega), bd_no (by omega) (by omega), Int.add_zero, Bool.and_eq_true] at h
    exact ⟨h2, ha n hg.2.1 h.1, hb n hg.2.2 h.2⟩
  | t3 x a b c ha hb hc =>
    intro n hg h
    have h : (Tr.evN ltP a ((n : Int) + Tr.bd x.1 0) && (Tr.evN ltP b ((n : Int) + Tr.bd x.1 1) && Tr.evN ltP c ((n : Int) + Tr.bd x.1 2))) = true := h
    have h3 := ar_3 hg.1.1
    rw [h3, bd_80, bd_8 (by decide), bd_8 (by decide), Int.add_zero, Bool.and_eq_true, Bool.and_eq_true] at h
    exact ⟨h3, ha n hg.2.1 h.1, hb (n + 1) hg.2.2.1 (by simpa using h.2.1), hc (n + 1) hg.2.2.2 (by simpa using h.2.2)⟩

/-- Indices from j on are greater by d. -/
def shf (j d i : Nat) : Nat := if i < j then i else i + d
theorem upr_shf (j d : Nat) : Lm.upr (shf j d) = shf (j + 1) d := by
  funext i
  cases i with
  | zero => show 0 = shf (j + 1) d 0; unfold shf; rw [if_pos (by omega)]
  | succ i =>
    show shf j d i + 1 = shf (j + 1) d (i + 1)
    unfold shf
    by_cases h : i < j
    · rw [if_pos h, if_pos (by omega)]
    · rw [if_neg h, if_neg (by omega)]; omega
theorem raise_no {k d : Int} {x : Tn} (h : x.1 ≠ 0) : raiseN k d x = x := by unfold raiseN; rw [if_neg (fun e => h e.1)]
theorem raise_tl (m d : Nat) : ∀ (u : Tm) (j : Nat), Sc u (m + j) → Sc (Tr.nodeTm (raiseN (m : Int) (d : Int)) u) (m + d + j) ∧ tl (Tr.nodeTm (raiseN (m : Int) (d : Int)) u) (m + d + j) = Lm.ren (shf j d) (tl u (m + j)) := by
  intro u
  induction u with
  | t0 x =>
    intro j h
    obtain ⟨h1, h2, h3⟩ := h
    show Sc (.t0 (raiseN m d x)) _ ∧ Lm.v (m + d + j - 1 - (raiseN m d x).2.1.toNat) = Lm.v (shf j d (m + j - 1 - x.2.1.toNat))
    unfold raiseN
    by_cases hm : (m : Int) ≤ x.2.1
    · rw [if_pos ⟨h1, hm⟩]
      refine ⟨⟨h1, by show 0 ≤ x.2.1 + d; omega, by show x.2.1 + d < _; omega⟩, ?_⟩
      congr 1
      show m + d + j - 1 - (x.2.1 + d).toNat = _
      unfold shf
      rw [if_pos (by omega)]
      omega
    · rw [if_neg (fun e => hm e.2)]
      refine ⟨⟨h1, h2, by omega⟩, ?_⟩
      congr 1
      unfold shf
      rw [if_neg (by omega)]
      omega
  | t1 x a ha =>
    intro j h
    rcases h with ⟨h1, h2⟩ | ⟨h1, h2⟩
    · have e : raiseN (m : Int) (d : Int) x = x := raise_no (by omega)
      obtain ⟨k1, k2⟩ := ha (j + 1) h2
      refine ⟨.inl ⟨by rw [e]; exact h1, k1⟩, ?_⟩
      show (if (raiseN m d x).1 = 1 then _ else _) = Lm.ren _ (if x.1 = 1 then _ else _)
      rw [e, if_pos h1, if_pos h1]
      show Lm.l x.2.2 (tl (Tr.nodeTm (raiseN m d) a) (m + d + (j + 1))) = Lm.l x.2.2 (Lm.ren (Lm.upr (shf j d)) (tl a (m + (j + 1))))
      rw [k2, upr_shf]
    · have e : raiseN (m : Int) (d : Int) x = x := raise_no (by omega)
      obtain ⟨k1, k2⟩ := ha j h2
      have hne : ¬ x.1 = 1 := by omega
      refine ⟨.inr ⟨by rw [e]; exact h1, k1⟩, ?_⟩
      show (if (raiseN m d x).1 = 1 then _ else _) = Lm.ren _ (if x.1 = 1 then _ else _)
      rw [e, if_neg hne, if_neg hne]
      show Lm.u (ku x.1) x.2.2 (tl (Tr.nodeTm (raiseN m d) a) (m + d + j)) = Lm.u (ku x.1) x.2.2 (Lm.ren (shf j d) (tl a (m + j)))
      rw [k2]
  | t2 x a b ha hb =>
    intro j h
    obtain ⟨h1, h2, h3⟩ := h
    have e : raiseN (m : Int) (d : Int) x = x := raise_no (by omega)
    obtain ⟨k1, k2⟩ := ha j h2
    obtain ⟨k3, k4⟩ := hb j h3
    refine ⟨⟨by rw [e]; exact h1, k1, k3⟩, ?_⟩
    show Lm.p (kp (raiseN m d x).1) (tl (Tr.nodeTm (raiseN m d) a) (m + d + j)) (tl (Tr.nodeTm (raiseN m d) b) (m + d + j)) = Lm.p (kp x.1) (Lm.ren (shf j d) (tl a (m + j))) (Lm.ren (shf j d) (tl b (m + j)))
    rw [e, k2, k4]
  | t3 x a b c ha hb hc =>
    intro j h
    obtain ⟨h1, h2, h3, h4⟩ := h
    have e : raiseN (m : Int) (d : Int) x = x := raise_no (by omega)
    obtain ⟨k1, k2⟩ := ha j h2
    obtain ⟨k3, k4⟩ := hb (j + 1) h3
    obtain ⟨k5, k6⟩ := hc (j + 1) h4
    refine ⟨⟨by rw [e]; exact h1, k1, k3, k5⟩, ?_⟩
    show Lm.c (tl (Tr.nodeTm (raiseN m d) a) (m + d + j)) (tl (Tr.nodeTm (raiseN m d) b) (m + d + (j + 1))) (tl (Tr.nodeTm (raiseN m d) c) (m + d + (j + 1))) = Lm.c (Lm.ren (shf j d) (tl a (m + j))) (Lm.ren (Lm.upr (shf j d)) (tl b (m + (j + 1)))) (Lm.ren (Lm.upr (shf j d)) (tl c (m + (j + 1))))
    rw [k2, k4, k6, upr_shf]

/-- U put for index j. -/
def sj (U : Lm) (j : Nat) (i : Nat) : Lm := if i < j then .v i else if i = j then Lm.ren (fun k => k + j) U else .v (i - 1)
theorem ups_sj (U : Lm) (j : Nat) : Lm.ups (sj U j) = sj U (j + 1) := by
  funext i
  cases i with
  | zero => show Lm.v 0 = sj U (j + 1) 0; unfold sj; rw [if_pos (by omega)]
  | succ i =>
    show Lm.ren Nat.succ (sj U j i) = sj U (j + 1) (i + 1)
    unfold sj
    by_cases h : i < j
    · rw [if_pos h, if_pos (show i + 1 < j + 1 by omega)]; rfl
    · by_cases h2 : i = j
      · rw [if_neg h, if_pos h2, if_neg (show ¬ i + 1 < j + 1 by omega), if_pos (show i + 1 = j + 1 by omega), Lm.ren_ren]; rfl
      · rw [if_neg h, if_neg h2, if_neg (show ¬ i + 1 < j + 1 by omega), if_neg (show ¬ i + 1 = j + 1 by omega)]
        show Lm.v (Nat.succ (i - 1)) = _
        congr 1
        omega
theorem sj_zero (U : Lm) : sj U 0 = Lm.inst U := by
  funext i
  cases i with
  | zero => show (if 0 < 0 then _ else if 0 = 0 then Lm.ren (fun k => k + 0) U else _) = U; rw [if_neg (by omega), if_pos rfl]; exact Lm.ren_id U
  | succ i => show (if i + 1 < 0 then _ else if i + 1 = 0 then _ else Lm.v (i + 1 - 1)) = Lm.v i; rw [if_neg (by omega), if_neg (by omega)]; rfl
theorem put_tl (n : Nat) (u : Tm) (hu : Sc u n) : ∀ (t : Tm) (j : Nat) (m : Int), m = n + 1 + j → Sc t (n + 1 + j) → Sc (Tr.mapTm (putT n u) t m) (n + j) ∧ tl (Tr.mapTm (putT n u) t m) (n + j) = Lm.sub (sj (tl u n) j) (tl t (n + 1 + j)) := by
  intro t
  induction t with
  | t0 x =>
    intro j m hm h
    obtain ⟨h1, h2, h3⟩ := h
    show Sc (putT n u x m) _ ∧ tl (putT n u x m) (n + j) = sj (tl u n) j (n + 1 + j - 1 - x.2.1.toNat)
    unfold putT
    by_cases he : x.2.1 = n
    · rw [if_pos he]
      have em : m - n - 1 = ((j : Nat) : Int) := by omega
      rw [em]
      have k := raise_tl n j u 0 hu
      refine ⟨k.1, ?_⟩
      have e2 : n + j = n + j + 0 := rfl
      rw [e2, k.2]
      unfold sj
      rw [if_neg (by omega), if_pos (by omega)]
      congr 1
    · rw [if_neg he]
      by_cases hlt : (n : Int) < x.2.1
      · rw [if_pos hlt]
        refine ⟨⟨h1, by show 0 ≤ x.2.1 - 1; omega, by show x.2.1 - 1 < _; omega⟩, ?_⟩
        unfold sj
        rw [if_pos (by omega)]
        show Lm.v (n + j - 1 - (x.2.1 - 1).toNat) = _
        congr 1
        omega
      · rw [if_neg hlt]
        refine ⟨⟨h1, h2, by omega⟩, ?_⟩
        unfold sj
        rw [if_neg (by omega), if_neg (by omega)]
        show Lm.v (n + j - 1 - x.2.1.toNat) = _
        congr 1
        omega
  | t1 x a ha =>
    intro j m hm h
    rcases h with ⟨h1, h2⟩ | ⟨h1, h2⟩
    · obtain ⟨k1, k2⟩ := ha (j + 1) (m + Tr.bd x.1 0) (by rw [h1, bd_one]; omega) h2
      refine ⟨.inl ⟨h1, k1⟩, ?_⟩
      show (if x.1 = 1 then _ else _) = Lm.sub _ (if x.1 = 1 then _ else _)
      rw [if_pos h1, if_pos h1]
      show Lm.l x.2.2 (tl (Tr.mapTm (putT n u) a (m + Tr.bd x.1 0)) (n + (j + 1))) = Lm.l x.2.2 (Lm.sub (Lm.ups (sj (tl u n) j)) (tl a (n + 1 + (j + 1))))
      rw [k2, ups_sj]
    · have hne : ¬ x.1 = 1 := by omega
      obtain ⟨k1, k2⟩ := ha j (m + Tr.bd x.1 0) (by rw [bd_no (by omega) (by omega)]; omega) h2
      refine ⟨.inr ⟨h1, k1⟩, ?_⟩
      show (if x.1 = 1 then _ else _) = Lm.sub _ (if x.1 = 1 then _ else _)
      rw [if_neg hne, if_neg hne]
      show Lm.u (ku x.1) x.2.2 (tl (Tr.mapTm (putT n u) a (m + Tr.bd x.1 0)) (n + j)) = Lm.u (ku x.1) x.2.2 (Lm.sub (sj (tl u n) j) (tl a (n + 1 + j)))
      rw [k2]
  | t2 x a b ha hb =>
    intro j m hm h
    obtain ⟨h1, h2, h3⟩ := h
    obtain ⟨k1, k2⟩ := ha j (m + Tr.bd x.1 0) (by rw [bd_no (by omega) (by omega)]; omega) h2
    obtain ⟨k3, k4⟩ := hb j (m + Tr.bd x.1 1) (by rw [bd_no (by omega) (by omega)]; omega) h3
    refine ⟨⟨h1, k1, k3⟩, ?_⟩
    show Lm.p (kp x.1) (tl (Tr.mapTm (putT n u) a (m + Tr.bd x.1 0)) (n + j)) (tl (Tr.mapTm (putT n u) b (m + Tr.bd x.1 1)) (n + j)) = Lm.p (kp x.1) (Lm.sub (sj (tl u n) j) (tl a (n + 1 + j))) (Lm.sub (sj (tl u n) j) (tl b (n + 1 + j)))
    rw [k2, k4]
  | t3 x a b c ha hb hc =>
    intro j m hm h
    obtain ⟨h1, h2, h3, h4⟩ := h
    obtain ⟨k1, k2⟩ := ha j (m + Tr.bd x.1 0) (by rw [h1, bd_80]; omega) h2
    obtain ⟨k3, k4⟩ := hb (j + 1) (m + Tr.bd x.1 1) (by rw [h1, bd_8 (by decide)]; omega) h3
    obtain ⟨k5, k6⟩ := hc (j + 1) (m + Tr.bd x.1 2) (by rw [h1, bd_8 (by decide)]; omega) h4
    refine ⟨⟨h1, k1, k3, k5⟩, ?_⟩
    show Lm.c (tl (Tr.mapTm (putT n u) a (m + Tr.bd x.1 0)) (n + j)) (tl (Tr.mapTm (putT n u) b (m + Tr.bd x.1 1)) (n + (j + 1))) (tl (Tr.mapTm (putT n u) c (m + Tr.bd x.1 2)) (n + (j + 1))) = Lm.c (Lm.sub (sj (tl u n) j) (tl a (n + 1 + j))) (Lm.sub (Lm.ups (sj (tl u n) j)) (tl b (n + 1 + (j + 1)))) (Lm.sub (Lm.ups (sj (tl u n) j)) (tl c (n + 1 + (j + 1))))
    rw [k2, k4, k6, ups_sj]

theorem ctr_tl {t : Tm} {n : Nat} (hg : Good t) (hs : Sc t n) (hr : rdxAt (Tr.enc t) 0 = true) : Sc (ctrT t n) n ∧ Lm.Par (tl t n) (tl (ctrT t n) n) := by
  have put := fun (u b : Tm) (hu : Sc u n) (hb : Sc b (n + 1)) => put_tl n u hu b 0 ((n : Int) + 1) (by omega) hb
  rcases rdx_shape hg hr with ⟨x, y, b, u, rfl, hx, hy⟩ | ⟨x, y, a, b, rfl, hx, hy⟩ | ⟨x, y, s, a, b, rfl, hx, hy⟩
  · obtain ⟨h1, h2, h3⟩ := hs
    have h2 : Sc b (n + 1) := by
      rcases h2 with h | h
      · exact h.2
      · omega
    obtain ⟨k1, k2⟩ := put u b h3 h2
    have e : ctrT (.t2 x (.t1 y b) u) n = Tr.mapTm (putT n u) b (n + 1) := rfl
    rw [e]
    refine ⟨k1, ?_⟩
    have k2 : tl (Tr.mapTm (putT n u) b (n + 1)) n = Lm.sub (sj (tl u n) 0) (tl b (n + 1)) := k2
    rw [k2, sj_zero]
    show Lm.Par (.p (kp x.1) (if y.1 = 1 then _ else _) _) _
    rw [if_pos hy, hx]
    exact .beta (Lm.Par.refl _) (Lm.Par.refl _)
  · have hs : Sc (.t2 y a b) n := by
      rcases hs with h | h
      · omega
      · exact h.2
    obtain ⟨h1, h2, h3⟩ := hs
    have hne : ¬ x.1 = 1 := by omega
    rcases hx with hx | hx
    · have e : ctrT (.t1 x (.t2 y a b)) n = a := by simp [ctrT, hx, Tr.kid, Tr.kids]
      rw [e]
      refine ⟨h2, ?_⟩
      show Lm.Par (if x.1 = 1 then _ else .u (ku x.1) x.2.2 (.p (kp y.1) (tl a n) (tl b n))) _
      rw [if_neg hne, hx, hy]
      exact .fst (Lm.Par.refl _)
    · have e : ctrT (.t1 x (.t2 y a b)) n = b := by simp [ctrT, hx, Tr.kid, Tr.kids]
      rw [e]
      refine ⟨h3, ?_⟩
      show Lm.Par (if x.1 = 1 then _ else .u (ku x.1) x.2.2 (.p (kp y.1) (tl a n) (tl b n))) _
      rw [if_neg hne, hx, hy]
      exact .snd (Lm.Par.refl _)
  · obtain ⟨h1, h2, h3, h4⟩ := hs
    have h2 : Sc s n := by
      rcases h2 with h | h
      · omega
      · exact h.2
    have hne : ¬ y.1 = 1 := by omega
    rcases hy with hy | hy
    · obtain ⟨k1, k2⟩ := put s a h2 h3
      have e : ctrT (.t3 x (.t1 y s) a b) n = Tr.mapTm (putT n s) a (n + 1) := by simp [ctrT, hy, Tr.kid, Tr.kids, Tr.hd]
      rw [e]
      refine ⟨k1, ?_⟩
      have k2 : tl (Tr.mapTm (putT n s) a (n + 1)) n = Lm.sub (sj (tl s n) 0) (tl a (n + 1)) := k2
      rw [k2, sj_zero]
      show Lm.Par (.c (if y.1 = 1 then _ else .u (ku y.1) y.2.2 (tl s n)) _ _) _
      rw [if_neg hne, hy]
      exact .inl (Lm.Par.refl _) (Lm.Par.refl _)
    · obtain ⟨k1, k2⟩ := put s b h2 h4
      have e : ctrT (.t3 x (.t1 y s) a b) n = Tr.mapTm (putT n s) b (n + 1) := by simp [ctrT, hy, Tr.kid, Tr.kids, Tr.hd]
      rw [e]
      refine ⟨k1, ?_⟩
      have k2 : tl (Tr.mapTm (putT n s) b (n + 1)) n = Lm.sub (sj (tl s n) 0) (tl b (n + 1)) := k2
      rw [k2, sj_zero]
      show Lm.Par (.c (if y.1 = 1 then _ else .u (ku y.1) y.2.2 (tl s n)) _ _) _
      rw [if_neg hne, hy]
      exact .inr (Lm.Par.refl _) (Lm.Par.refl _)
/-- What a part becomes. -/
theorem part_tl {P : Prop} [Decidable P] {a a' : Tm} {n : Nat} (hs : Sc a n) (h : P → Sc a' n ∧ Lm.Par (tl a n) (tl a' n)) : Sc (if P then a' else a) n ∧ Lm.Par (tl a n) (tl (if P then a' else a) n) := by
  split
  · exact h ‹_›
  · exact ⟨hs, Lm.Par.refl _⟩
theorem ct_tl : ∀ (t : Tm) (n i : Nat) (m : Int), m = n → Good t → Sc t n → rdxAt (Tr.enc t) i = true → Sc (ctT t m i) n ∧ Lm.Par (tl t n) (tl (ctT t m i) n) := by
  intro t
  induction t with
  | t0 x =>
    intro n i m hm hg hs hr
    unfold rdxAt at hr
    simp [Tr.enc] at hr
  | t1 x a ha =>
    intro n i m hm hg hs hr
    subst hm
    cases i with
    | zero => rw [ctT_zero]; exact ctr_tl hg hs hr
    | succ i =>
      have hp : i < (Tr.enc a).length → rdxAt (Tr.enc a) i = true := fun h => by
        have h1 := rdx_part (j := 0) hg hr (by decide : 0 < 1) (by rw [Tr.off_zero]; omega) (by rw [Tr.off_zero]; show i + 1 < 1 + (Tr.enc a).length; omega)
        rwa [Tr.off_zero, Nat.add_sub_cancel] at h1
      rcases hs with ⟨h1, h2⟩ | ⟨h1, h2⟩
      · obtain ⟨k1, k2⟩ := part_tl (P := i < (Tr.enc a).length) (a' := ctT a (n + Tr.bd x.1 0) i) h2 (fun h => ha (n + 1) i _ (by rw [h1, bd_one]; omega) hg.2 h2 (hp h))
        refine ⟨.inl ⟨h1, k1⟩, ?_⟩
        show Lm.Par (if x.1 = 1 then _ else _) (if x.1 = 1 then _ else _)
        rw [if_pos h1, if_pos h1]
        exact .l k2
      · have hne : ¬ x.1 = 1 := by omega
        obtain ⟨k1, k2⟩ := part_tl (P := i < (Tr.enc a).length) (a' := ctT a (n + Tr.bd x.1 0) i) h2 (fun h => ha n i _ (by rw [bd_no (by omega) (by omega)]; omega) hg.2 h2 (hp h))
        refine ⟨.inr ⟨h1, k1⟩, ?_⟩
        show Lm.Par (if x.1 = 1 then _ else _) (if x.1 = 1 then _ else _)
        rw [if_neg hne, if_neg hne]
        exact .u k2
  | t2 x a b ha hb =>
    intro n i m hm hg hs hr
    subst hm
    cases i with
    | zero => rw [ctT_zero]; exact ctr_tl hg hs hr
    | succ i =>
      have e1 : Tr.off (.t2 x a b) 1 = 1 + (Tr.enc a).length := by simp [Tr.off, Tr.kids]
      obtain ⟨h1, h2, h3⟩ := hs
      obtain ⟨k1, k2⟩ := part_tl (P := i < (Tr.enc a).length) (a' := ctT a (n + Tr.bd x.1 0) i) h2 (fun h => ha n i _ (by rw [bd_no (by omega) (by omega)]; omega) hg.2.1 h2 (by
        have h1 := rdx_part (j := 0) hg hr (by decide : 0 < 2) (by rw [Tr.off_zero]; omega) (by rw [Tr.off_zero]; show i + 1 < 1 + (Tr.enc a).length; omega)
        rwa [Tr.off_zero, Nat.add_sub_cancel] at h1))
      obtain ⟨k3, k4⟩ := part_tl (P := (Tr.enc a).length ≤ i ∧ i < (Tr.enc a).length + (Tr.enc b).length) (a' := ctT b (n + Tr.bd x.1 1) (i - (Tr.enc a).length)) h3 (fun h => hb n _ _ (by rw [bd_no (by omega) (by omega)]; omega) hg.2.2 h3 (by
        have h1 := rdx_part (j := 1) hg hr (by decide : 1 < 2) (by rw [e1]; omega) (by rw [e1]; show i + 1 < 1 + (Tr.enc a).length + (Tr.enc b).length; omega)
        rwa [e1, show i + 1 - (1 + (Tr.enc a).length) = i - (Tr.enc a).length by omega] at h1))
      exact ⟨⟨h1, k1, k3⟩, .p k2 k4⟩
  | t3 x a b c ha hb hc =>
    intro n i m hm hg hs hr
    subst hm
    cases i with
    | zero => rw [ctT_zero]; exact ctr_tl hg hs hr
    | succ i =>
      have e1 : Tr.off (.t3 x a b c) 1 = 1 + (Tr.enc a).length := by simp [Tr.off, Tr.kids]
      have e2 : Tr.off (.t3 x a b c) 2 = 1 + ((Tr.enc a).length + (Tr.enc b).length) := by simp [Tr.off, Tr.kids]
      obtain ⟨h1, h2, h3, h4⟩ := hs
      obtain ⟨k1, k2⟩ := part_tl (P := i < (Tr.enc a).length) (a' := ctT a (n + Tr.bd x.1 0) i) h2 (fun h => ha n i _ (by rw [h1, bd_80]; omega) hg.2.1 h2 (by
        have h1 := rdx_part (j := 0) hg hr (by decide : 0 < 3) (by rw [Tr.off_zero]; omega) (by rw [Tr.off_zero]; show i + 1 < 1 + (Tr.enc a).length; omega)
        rwa [Tr.off_zero, Nat.add_sub_cancel] at h1))
      obtain ⟨k3, k4⟩ := part_tl (P := (Tr.enc a).length ≤ i ∧ i < (Tr.enc a).length + (Tr.enc b).length) (a' := ctT b (n + Tr.bd x.1 1) (i - (Tr.enc a).length)) h3 (fun h => hb (n + 1) _ _ (by rw [h1, bd_8 (by decide)]; omega) hg.2.2.1 h3 (by
        have h1 := rdx_part (j := 1) hg hr (by decide : 1 < 3) (by rw [e1]; omega) (by rw [e1]; show i + 1 < 1 + (Tr.enc a).length + (Tr.enc b).length; omega)
        rwa [e1, show i + 1 - (1 + (Tr.enc a).length) = i - (Tr.enc a).length by omega] at h1))
      obtain ⟨k5, k6⟩ := part_tl (P := (Tr.enc a).length + (Tr.enc b).length ≤ i ∧ i < (Tr.enc a).length + (Tr.enc b).length + (Tr.enc c).length) (a' := ctT c (n + Tr.bd x.1 2) (i - ((Tr.enc a).length + (Tr.enc b).length))) h4 (fun h => hc (n + 1) _ _ (by rw [h1, bd_8 (by decide)]; omega) hg.2.2.2 h4 (by
        have h1 := rdx_part (j := 2) hg hr (by decide : 2 < 3) (by rw [e2]; omega) (by rw [e2]; show i + 1 < 1 + ((Tr.enc a).length + (Tr.enc b).length) + (Tr.enc c).length; omega)
        rwa [e2, show i + 1 - (1 + ((Tr.enc a).length + (Tr.enc b).length)) = i - ((Tr.enc a).length + (Tr.enc b).length) by omega] at h1))
      exact ⟨⟨h1, k1, k3, k5⟩, .c k2 k4 k6⟩

/-- A redex of a part is one of the whole. -/
theorem rdx_up {t : Tm} {i j : Nat} (hj : j < (Tr.kids t).length) (h : rdxAt (Tr.enc (Tr.kid t j)) i = true) : rdxAt (Tr.enc t) (Tr.off t j + i) = true := by
  unfold rdxAt at h ⊢
  simp only [Bool.and_eq_true, decide_eq_true_eq] at h ⊢
  have h1 := Tr.off_end hj
  refine ⟨by omega, ?_⟩
  rw [tk_part hj (by omega), Nat.add_assoc, tk_part hj (by omega)]
  exact h.2
theorem none_part {t : Tm} {j : Nat} (hj : j < (Tr.kids t).length) (h : ∀ i, rdxAt (Tr.enc t) i = false) : ∀ i, rdxAt (Tr.enc (Tr.kid t j)) i = false := fun i => by
  cases hb : rdxAt (Tr.enc (Tr.kid t j)) i with
  | false => rfl
  | true => rw [← h (Tr.off t j + i)]; exact (rdx_up hj hb).symm
theorem rdx_zero {t : Tm} (hj : 0 < (Tr.kids t).length) (h : rdxAt (Tr.enc t) 0 = false) : rdx (Tr.hd t).1 (Tr.hd (Tr.kid t 0)).1 = false := by
  have h1 := tk_part hj (Tr.enc_pos (Tr.kid t 0))
  rw [Tr.off_zero, hd_at] at h1
  have h2 := Tr.off_end hj
  rw [Tr.off_zero] at h2
  have h3 := Tr.enc_pos (Tr.kid t 0)
  unfold rdxAt at h
  rw [decide_eq_true (by omega), Bool.true_and, hd_at, Nat.zero_add, h1] at h
  exact h
theorem nf_tl : ∀ (t : Tm) (n : Nat), Sc t n → (∀ i, rdxAt (Tr.enc t) i = false) → Lm.nf (tl t n) := by
  intro t
  induction t with
  | t0 x => intro n _ _; trivial
  | t1 x a ha =>
    intro n hs h
    have hp := none_part (t := .t1 x a) (j := 0) (by decide : 0 < 1) h
    have hz := rdx_zero (t := .t1 x a) (by decide : 0 < 1) (h 0)
    have hz : rdx x.1 (Tr.hd a).1 = false := hz
    rcases hs with ⟨h1, h2⟩ | ⟨h1, h2⟩
    · show Lm.nf (if x.1 = 1 then _ else _)
      rw [if_pos h1]
      exact ha _ h2 hp
    · have hne : ¬ x.1 = 1 := by omega
      show Lm.nf (if x.1 = 1 then _ else _)
      rw [if_neg hne]
      refine ⟨ha _ h2 hp, ?_⟩
      cases a with
      | t0 y => show (match ku x.1, Lm.v _ with | .fst, .p .pair _ _ => False | .snd, .p .pair _ _ => False | _, _ => True); cases ku x.1 <;> trivial
      | t1 y b =>
        show (match ku x.1, (if y.1 = 1 then Lm.l _ _ else Lm.u _ _ _) with | .fst, .p .pair _ _ => False | .snd, .p .pair _ _ => False | _, _ => True)
        by_cases hy : y.1 = 1
        · rw [if_pos hy]; cases ku x.1 <;> trivial
        · rw [if_neg hy]; cases ku x.1 <;> trivial
      | t2 y b c =>
        show (match ku x.1, Lm.p (kp y.1) _ _ with | .fst, .p .pair _ _ => False | .snd, .p .pair _ _ => False | _, _ => True)
        obtain ⟨h3, _, _⟩ := h2
        rcases h3 with h3 | h3
        · rw [h3]; cases ku x.1 <;> trivial
        · have hz : rdx x.1 y.1 = false := hz
          rw [h3] at hz
          rcases h1 with h1 | h1 | h1 | h1 | h1
          · rw [h1] at hz; exact absurd hz (by decide)
          · rw [h1] at hz; exact absurd hz (by decide)
          · rw [h1]; trivial
          · rw [h1]; trivial
          · rw [h1]; trivial
      | t3 y b c d => show (match ku x.1, Lm.c _ _ _ with | .fst, .p .pair _ _ => False | .snd, .p .pair _ _ => False | _, _ => True); cases ku x.1 <;> trivial
  | t2 x a b ha hb =>
    intro n hs h
    obtain ⟨h1, h2, h3⟩ := hs
    have hp := none_part (t := .t2 x a b) (j := 0) (by decide : 0 < 2) h
    have hq := none_part (t := .t2 x a b) (j := 1) (by decide : 1 < 2) h
    have hz : rdx x.1 (Tr.hd a).1 = false := rdx_zero (t := .t2 x a b) (by decide : 0 < 2) (h 0)
    refine ⟨ha _ h2 hp, hb _ h3 hq, ?_⟩
    cases a with
    | t0 y => show (match kp x.1, Lm.v _ with | .app, .l _ _ => False | _, _ => True); cases kp x.1 <;> trivial
    | t1 y c =>
      show (match kp x.1, (if y.1 = 1 then Lm.l _ _ else Lm.u _ _ _) with | .app, .l _ _ => False | _, _ => True)
      rcases h1 with h1 | h1
      · have hz : rdx x.1 y.1 = false := hz
        have hne : ¬ y.1 = 1 := fun e => by rw [h1, e] at hz; exact absurd hz (by decide)
        rw [if_neg hne]
        cases kp x.1 <;> trivial
      · rw [h1]; trivial
    | t2 y c d => show (match kp x.1, Lm.p _ _ _ with | .app, .l _ _ => False | _, _ => True); cases kp x.1 <;> trivial
    | t3 y c d e => show (match kp x.1, Lm.c _ _ _ with | .app, .l _ _ => False | _, _ => True); cases kp x.1 <;> trivial
  | t3 x a b c ha hb hc =>
    intro n hs h
    obtain ⟨h1, h2, h3, h4⟩ := hs
    have hp := none_part (t := .t3 x a b c) (j := 0) (by decide : 0 < 3) h
    have hq := none_part (t := .t3 x a b c) (j := 1) (by decide : 1 < 3) h
    have hq2 := none_part (t := .t3 x a b c) (j := 2) (by decide : 2 < 3) h
    have hz : rdx x.1 (Tr.hd a).1 = false := rdx_zero (t := .t3 x a b c) (by decide : 0 < 3) (h 0)
    refine ⟨ha _ h2 hp, hb _ h3 hq, hc _ h4 hq2, ?_⟩
    cases a with
    | t0 y => trivial
    | t1 y d =>
      show (match (if y.1 = 1 then Lm.l _ _ else Lm.u (ku y.1) _ _) with | .u .inl _ _ => False | .u .inr _ _ => False | _ => True)
      have hz : rdx x.1 y.1 = false := hz
      rw [h1] at hz
      rcases h2 with ⟨h5, _⟩ | ⟨h5, _⟩
      · rw [if_pos h5]; trivial
      · have hne : ¬ y.1 = 1 := by omega
        rw [if_neg hne]
        rcases h5 with h5 | h5 | h5 | h5 | h5
        · rw [h5]; trivial
        · rw [h5]; trivial
        · rw [h5] at hz; exact absurd hz (by decide)
        · rw [h5] at hz; exact absurd hz (by decide)
        · rw [h5]; trivial
    | t2 y d e => trivial
    | t3 y d e f => trivial

theorem empty_of {s : ByteArray} (h : s.toList.isEmpty = true) : s = ByteArray.empty := by
  have h1 : (s.toList == ByteArray.empty.toList) = true := by
    rw [List.isEmpty_iff] at h
    rw [h]
    have h2 : ByteArray.empty.toList = [] := by unfold ByteArray.toList ByteArray.toList.loop; rfl
    rw [h2]; rfl
  exact (Lib.bytes_beq_iff s ByteArray.empty).1 h1
theorem good_node {x : Tn} (h : GoodN x) : (x.1 ≠ 0 → x.2.1 = 0) ∧ (typedB x.1 = false → x.2.2 = ByteArray.empty) := by
  unfold GoodN tnB at h
  by_cases h0 : x.1 = 0
  · rw [h0, if_pos (by rfl)] at h
    simp only [Bool.and_eq_true] at h
    exact ⟨fun e => absurd h0 e, fun _ => empty_of h.2⟩
  · rw [if_neg (by simpa using h0)] at h
    by_cases ht : typedB x.1 = true
    · rw [if_pos ht] at h
      simp only [Bool.and_eq_true, beq_iff_eq] at h
      exact ⟨fun _ => h.1, fun e => by rw [ht] at e; cases e⟩
    · rw [if_neg ht] at h
      simp only [Bool.and_eq_true, beq_iff_eq] at h
      exact ⟨fun _ => h.1.2, fun _ => empty_of h.2⟩
theorem node_eq {x y : Tn} (h1 : x.1 = y.1) (h2 : x.2.1 = y.2.1) (h3 : x.2.2 = y.2.2) : x = y := by
  obtain ⟨a, b, c⟩ := x
  obtain ⟨d, e, f⟩ := y
  simp only at h1 h2 h3
  subst h1; subst h2; subst h3; rfl
theorem ku_inj {j k : Int} (hj : j = 4 ∨ j = 5 ∨ j = 6 ∨ j = 7 ∨ j = 9) (hk : k = 4 ∨ k = 5 ∨ k = 6 ∨ k = 7 ∨ k = 9) (h : ku j = ku k) : j = k := by
  rcases hj with rfl | rfl | rfl | rfl | rfl <;> rcases hk with rfl | rfl | rfl | rfl | rfl <;> first | rfl | (exact absurd h (by intro e; cases e))
theorem kp_inj {j k : Int} (hj : j = 2 ∨ j = 3) (hk : k = 2 ∨ k = 3) (h : kp j = kp k) : j = k := by
  rcases hj with rfl | rfl <;> rcases hk with rfl | rfl <;> first | rfl | (exact absurd h (by intro e; cases e))
theorem tl_inj : ∀ (t t' : Tm) (n : Nat), Good t → Good t' → Sc t n → Sc t' n → tl t n = tl t' n → t = t' := by
  intro t
  induction t with
  | t0 x =>
    intro t' n hg hg' hs hs' h
    cases t' with
    | t0 y =>
      obtain ⟨a1, a2, a3⟩ := hs
      obtain ⟨b1, b2, b3⟩ := hs'
      have h : Lm.v (n - 1 - x.2.1.toNat) = Lm.v (n - 1 - y.2.1.toNat) := h
      injection h with h
      have e1 := (good_node hg.2).2 (by rw [a1]; rfl)
      have e2 := (good_node hg'.2).2 (by rw [b1]; rfl)
      rw [node_eq (x := x) (y := y) (by omega) (by omega) (e1.trans e2.symm)]
    | t1 y b => have h : Lm.v _ = (if y.1 = 1 then Lm.l _ _ else Lm.u _ _ _) := h; split at h <;> cases h
    | t2 y b c => cases h
    | t3 y b c d => cases h
  | t1 x a ha =>
    intro t' n hg hg' hs hs' h
    cases t' with
    | t0 y => have h : (if x.1 = 1 then Lm.l _ _ else Lm.u _ _ _) = Lm.v _ := h; split at h <;> cases h
    | t1 y b =>
      have h : (if x.1 = 1 then Lm.l x.2.2 (tl a (n + 1)) else Lm.u (ku x.1) x.2.2 (tl a n)) = (if y.1 = 1 then Lm.l y.2.2 (tl b (n + 1)) else Lm.u (ku y.1) y.2.2 (tl b n)) := h
      rcases hs with ⟨h1, h2⟩ | ⟨h1, h2⟩
      · rcases hs' with ⟨k1, k2⟩ | ⟨k1, k2⟩
        · rw [if_pos h1, if_pos k1] at h
          injection h with e1 e2
          rw [ha b (n + 1) hg.2 hg'.2 h2 k2 e2, node_eq (x := x) (y := y) (by omega) (by rw [(good_node hg.1.2).1 (by omega), (good_node hg'.1.2).1 (by omega)]) e1]
        · rw [if_pos h1, if_neg (by omega)] at h; cases h
      · rcases hs' with ⟨k1, k2⟩ | ⟨k1, k2⟩
        · rw [if_neg (by omega), if_pos k1] at h; cases h
        · rw [if_neg (by omega), if_neg (by omega)] at h
          injection h with e0 e1 e2
          rw [ha b n hg.2 hg'.2 h2 k2 e2, node_eq (x := x) (y := y) (ku_inj h1 k1 e0) (by rw [(good_node hg.1.2).1 (by omega), (good_node hg'.1.2).1 (by omega)]) e1]
    | t2 y b c => have h : (if x.1 = 1 then Lm.l _ _ else Lm.u _ _ _) = Lm.p _ _ _ := h; split at h <;> cases h
    | t3 y b c d => have h : (if x.1 = 1 then Lm.l _ _ else Lm.u _ _ _) = Lm.c _ _ _ := h; split at h <;> cases h
  | t2 x a b ha hb =>
    intro t' n hg hg' hs hs' h
    cases t' with
    | t0 y => cases h
    | t1 y b => have h : Lm.p _ _ _ = (if y.1 = 1 then Lm.l _ _ else Lm.u _ _ _) := h; split at h <;> cases h
    | t2 y c d =>
      obtain ⟨h1, h2, h3⟩ := hs
      obtain ⟨k1, k2, k3⟩ := hs'
      have h : Lm.p (kp x.1) (tl a n) (tl b n) = Lm.p (kp y.1) (tl c n) (tl d n) := h
      injection h with e0 e1 e2
      have hk := kp_inj h1 k1 e0
      have z1 := (good_node hg.1.2).2 (by rcases h1 with e | e <;> rw [e] <;> rfl)
      have z2 := (good_node hg'.1.2).2 (by rcases k1 with e | e <;> rw [e] <;> rfl)
      rw [ha c n hg.2.1 hg'.2.1 h2 k2 e1, hb d n hg.2.2 hg'.2.2 h3 k3 e2, node_eq (x := x) (y := y) hk (by rw [(good_node hg.1.2).1 (by omega), (good_node hg'.1.2).1 (by omega)]) (z1.trans z2.symm)]
    | t3 y b c d => cases h
  | t3 x a b c ha hb hc =>
    intro t' n hg hg' hs hs' h
    cases t' with
    | t0 y => cases h
    | t1 y b => have h : Lm.c _ _ _ = (if y.1 = 1 then Lm.l _ _ else Lm.u _ _ _) := h; split at h <;> cases h
    | t2 y b c => cases h
    | t3 y d e f =>
      obtain ⟨h1, h2, h3, h4⟩ := hs
      obtain ⟨k1, k2, k3, k4⟩ := hs'
      have h : Lm.c (tl a n) (tl b (n + 1)) (tl c (n + 1)) = Lm.c (tl d n) (tl e (n + 1)) (tl f (n + 1)) := h
      injection h with e1 e2 e3
      have z1 := (good_node hg.1.2).2 (by rw [h1]; rfl)
      have z2 := (good_node hg'.1.2).2 (by rw [k1]; rfl)
      rw [ha d n hg.2.1 hg'.2.1 h2 k2 e1, hb e (n + 1) hg.2.2.1 hg'.2.2.1 h3 k3 e2, hc f (n + 1) hg.2.2.2 hg'.2.2.2 h4 k4 e3, node_eq (x := x) (y := y) (by omega) (by rw [(good_node hg.1.2).1 (by omega), (good_node hg'.1.2).1 (by omega)]) (z1.trans z2.symm)]
end Go.Proofs.YtdndclfjeajhiaaGreat

/- The way to the normal term: the leftmost redex is contracted, at most 200 times. No program is in sight. -/
namespace Go.Proofs.YtdndclfjeajhiaaGreat
open Go.RowKit
open Tr (Tm)

theorem redL_mem {xs : List Tn} {j : Nat} {x : Int} (h : x ∈ redL xs j) : ∃ i : Nat, x = i ∧ i < j ∧ rdxAt xs i = true := by
  induction j with
  | zero => simp [redL] at h
  | succ j ih =>
    rw [redL] at h
    split at h
    · rename_i hr
      rw [List.mem_append] at h
      rcases h with h | h
      · obtain ⟨i, h1, h2, h3⟩ := ih h
        exact ⟨i, h1, by omega, h3⟩
      · simp at h
        exact ⟨j, h, by omega, hr⟩
    · obtain ⟨i, h1, h2, h3⟩ := ih h
      exact ⟨i, h1, by omega, h3⟩

theorem goodN_fits {x : Tn} (h : GoodN x) : x.2.2.size ≤ 1048576 := by
  have hempty : ∀ s : ByteArray, s.toList.isEmpty = true → s.size ≤ 1048576 := fun s hs => by
    have h1 : (s.toList == ByteArray.empty.toList) = true := by
      rw [List.isEmpty_iff] at hs
      rw [hs]
      have h2 : ByteArray.empty.toList = [] := by unfold ByteArray.toList ByteArray.toList.loop; rfl
      rw [h2]; rfl
    have := (Lib.bytes_beq_iff s ByteArray.empty).1 h1
    rw [this]; decide
  unfold GoodN tnB at h
  split at h
  · simp only [Bool.and_eq_true] at h
    exact hempty _ h.2
  · split at h
    · simp only [Bool.and_eq_true] at h
      obtain ⟨A, h1, h2⟩ := gp_tree h.2
      have := tx_size h1.1
      rw [h2] at this
      omega
    · simp only [Bool.and_eq_true] at h
      exact hempty _ h.2
theorem good_fits {t : Tm} (h : Good t) : FitsT (Tr.enc t) := by
  intro i hi
  have h1 := wf_all t h _ (List.getElem_mem hi)
  have h2 := goodN_fits h1
  rw [tk_lt hi] at h2
  exact h2

/-- The normal term and the number of contractions, or a code; at most k contractions more. -/
noncomputable def nrm : Nat → Tm → Int → List Tn × Int × Int
  | 0, t, _ => match redL (Tr.enc t) (Tr.enc t).length with
    | [] => (Tr.enc t, 200, 0)
    | _ :: _ => ([], 0, 3)
  | k + 1, t, n => match redL (Tr.enc t) (Tr.enc t).length with
    | [] => (Tr.enc t, 200 - ((k + 1 : Nat) : Int), 0)
    | i :: _ => if (limT (ctAt t n i.toNat)).2 = 0 then nrm k (ctT t n i.toNat) n else ([], 0, 3)
theorem nrm_done {k : Nat} {t : Tm} {n : Int} (h : redL (Tr.enc t) (Tr.enc t).length = []) : nrm k t n = (Tr.enc t, 200 - (k : Int), 0) := by
  cases k with
  | zero => rw [nrm, h]; rfl
  | succ k => rw [nrm, h]
theorem nrm_stop {t : Tm} {n i : Int} {L : List Int} (h : redL (Tr.enc t) (Tr.enc t).length = i :: L) : nrm 0 t n = ([], 0, 3) := by rw [nrm, h]
theorem nrm_big {k : Nat} {t : Tm} {n i : Int} {L : List Int} (h : redL (Tr.enc t) (Tr.enc t).length = i :: L) (hb : ¬ (limT (ctAt t n i.toNat)).2 = 0) : nrm k t n = ([], 0, 3) := by
  cases k with
  | zero => rw [nrm, h]
  | succ k => rw [nrm, h]; simp only; rw [if_neg hb]
theorem nrm_step {k : Nat} {t : Tm} {n i : Int} {L : List Int} (h : redL (Tr.enc t) (Tr.enc t).length = i :: L) (hb : (limT (ctAt t n i.toNat)).2 = 0) : nrm (k + 1) t n = nrm k (ctT t n i.toNat) n := by
  rw [nrm, h]; simp only; rw [if_pos hb]
theorem nrm_tree (n : Int) (hn : 0 ≤ n) : ∀ (k : Nat) (t : Tm), Good t → (Tr.enc t).length ≤ 60 → ((nrm k t n).2.2 = 0 ∧ ∃ u, Good u ∧ Tr.enc u = (nrm k t n).1 ∧ (Tr.enc u).length ≤ 60) ∨ nrm k t n = ([], 0, 3) := by
  intro k
  induction k with
  | zero =>
    intro t hg hl
    cases h : redL (Tr.enc t) (Tr.enc t).length with
    | nil => rw [nrm_done h]; exact .inl ⟨rfl, t, hg, rfl, hl⟩
    | cons i L => rw [nrm_stop h]; exact .inr rfl
  | succ k ih =>
    intro t hg hl
    cases h : redL (Tr.enc t) (Tr.enc t).length with
    | nil => rw [nrm_done h]; exact .inl ⟨rfl, t, hg, rfl, hl⟩
    | cons i L =>
      by_cases hb : (limT (ctAt t n i.toNat)).2 = 0
      · rw [nrm_step h hb]
        obtain ⟨j, rfl, hj, hr⟩ := redL_mem (xs := Tr.enc t) (j := (Tr.enc t).length) (x := i) (by rw [h]; simp)
        rw [Int.toNat_natCast] at hb ⊢
        obtain ⟨g1, g2, g3, _⟩ := ct_good hn hg hr hb
        exact ih _ g1 (by rw [g2]; exact g3)
      · rw [nrm_big h hb]; exact .inr rfl
end Go.Proofs.YtdndclfjeajhiaaGreat

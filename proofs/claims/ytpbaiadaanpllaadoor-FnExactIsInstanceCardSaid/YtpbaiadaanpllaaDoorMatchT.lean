/- A formula matched to another one, on lists of nodes. No program is in sight. -/
import Derived.Test.YtpbaiadaanpllaaDoorPart
namespace Go.Proofs.YtpbaiadaanpllaaDoor
open Go.RowKit
open Fm (Nd Tree)

/-- The nodes of the part at an index. -/
def prt (xs : List Nd) (i : Nat) : List Nd := (xs.drop i).take ((pend xs i).toNat - i)
theorem prt_at {xs : List Nd} {i : Nat} {t : Tree} (h : At xs i t) : prt xs i = Fm.enc t := by
  unfold prt
  rw [h.pend, show ((i : Int) + ((Fm.enc t).length : Int)).toNat - i = (Fm.enc t).length by omega]
  exact h.take
/-- One image more. -/
def upd (σ : Nat → List Nd) (v : Nat) (c : List Nd) : Nat → List Nd := fun x => if x = v then c else σ x
/-- Does the match go on to the end? -/
def mrun (xs : List Nd) : List Nd → Nat → (Nat → List Nd) → Bool
  | [], _, _ => true
  | n :: rest, j, σ =>
    if n.1 = 0 then (if σ n.2.toNat ≠ [] ∧ σ n.2.toNat ≠ prt xs j then false else mrun xs rest (j + (prt xs j).length) (upd σ n.2.toNat (prt xs j)))
    else if kd xs j = n.1 ∧ sy xs j = n.2 then mrun xs rest (j + 1) σ else false
theorem mrun_end (xs a : List Nd) (i j : Nat) (σ : Nat → List Nd) (h : a.length ≤ i) : mrun xs (a.drop i) j σ = true := by
  rw [List.drop_eq_nil_of_le h]; rfl
theorem mrun_var {xs a : List Nd} {i j : Nat} {σ : Nat → List Nd} {t : Tree} {v : Nat} (h : i < a.length) (h0 : kd a i = 0) (hv : sy a i = v) (ht : At xs j t) :
    mrun xs (a.drop i) j σ = if σ v ≠ [] ∧ σ v ≠ Fm.enc t then false else mrun xs (a.drop (i + 1)) (j + (Fm.enc t).length) (upd σ v (Fm.enc t)) := by
  rw [List.drop_eq_getElem_cons h, mrun, kd_lt h]
  simp only [h0, if_true, hv, Int.toNat_natCast, prt_at ht]
theorem mrun_node {xs a : List Nd} {i j : Nat} {σ : Nat → List Nd} (h : i < a.length) (h0 : kd a i ≠ 0) :
    mrun xs (a.drop i) j σ = if kd xs j = kd a i ∧ sy xs j = sy a i then mrun xs (a.drop (i + 1)) (j + 1) σ else false := by
  rw [List.drop_eq_getElem_cons h, mrun, kd_lt h]
  simp only [if_neg h0]

/-- What is left of the one and of the other are lists of as many trees. -/
def Bal (a : List Nd) (i : Nat) (xs : List Nd) (j : Nat) : Prop := ∃ cs bs : List Tree, a.drop i = cs.flatMap Fm.enc ∧ xs.drop j = bs.flatMap Fm.enc ∧ cs.length = bs.length ∧ j ≤ xs.length
theorem Bal.start (s t : Tree) : Bal (Fm.enc s) 0 (Fm.enc t) 0 := ⟨[s], [t], by simp, by simp, rfl, by omega⟩
def kids : Tree → List Tree
  | .var _ => []
  | .fls => []
  | .and a b => [a, b]
  | .or a b => [a, b]
  | .imp a b => [a, b]
  | .box a => [a]
  | .dia a => [a]
theorem enc_kids (t : Tree) : Fm.enc t = (kindOf t, sy (Fm.enc t) 0) :: (kids t).flatMap Fm.enc := by cases t <;> simp [Fm.enc, kids, kindOf, sy]
theorem kids_len (t : Tree) : (kids t).length = Fm.arity (kindOf t) := by cases t <;> rfl
theorem flat_nil {cs : List Tree} (h : cs.flatMap Fm.enc = []) : cs = [] := by
  cases cs with
  | nil => rfl
  | cons t ts =>
    rw [List.flatMap_cons] at h
    have := congrArg List.length h
    have hp := Fm.enc_pos t
    rw [List.length_append, List.length_nil] at this
    omega
theorem Bal.split {a xs : List Nd} {i j : Nat} (h : Bal a i xs j) (hi : i < a.length) :
    j < xs.length ∧ ∃ (s t : Tree) (cs bs : List Tree), a.drop i = Fm.enc s ++ cs.flatMap Fm.enc ∧ xs.drop j = Fm.enc t ++ bs.flatMap Fm.enc ∧ cs.length = bs.length := by
  obtain ⟨cs, bs, h1, h2, h3, h4⟩ := h
  cases cs with
  | nil =>
    have := congrArg List.length h1
    simp at this
    omega
  | cons s cs =>
    cases bs with
    | nil => simp at h3
    | cons t bs =>
      rw [List.flatMap_cons] at h1 h2
      refine ⟨?_, s, t, cs, bs, h1, h2, by simpa using h3⟩
      have := congrArg List.length h2
      have hp := Fm.enc_pos t
      simp only [List.length_drop, List.length_append] at this
      omega
theorem Bal.fin {a xs : List Nd} {i j : Nat} (h : Bal a i xs j) (hi : a.length ≤ i) : j = xs.length := by
  obtain ⟨cs, bs, h1, h2, h3, h4⟩ := h
  rw [List.drop_eq_nil_of_le hi] at h1
  rw [flat_nil h1.symm] at h3
  rw [List.eq_nil_of_length_eq_zero h3.symm] at h2
  have := congrArg List.length h2
  simp at this
  omega
theorem drop_kd {a : List Nd} {i : Nat} {s : Tree} {r : List Nd} (h : a.drop i = Fm.enc s ++ r) : kd a i = kindOf s ∧ sy a i = sy (Fm.enc s) 0 ∧ a.drop (i + 1) = (kids s).flatMap Fm.enc ++ r := by
  rw [enc_kids s, List.cons_append] at h
  have h0 : a[i]? = some (kindOf s, sy (Fm.enc s) 0) := by
    have := congrArg List.head? h
    simpa using this
  refine ⟨by simp [kd, List.getD, h0], by simp [sy, List.getD, h0], ?_⟩
  have := congrArg List.tail h
  simpa using this
theorem Bal.var {a xs : List Nd} {i j : Nat} (h : Bal a i xs j) (hi : i < a.length) (h0 : kd a i = 0) :
    ∃ (t : Tree) (v : Nat), At xs j t ∧ v < 6 ∧ sy a i = v ∧ Bal a (i + 1) xs (j + (Fm.enc t).length) := by
  obtain ⟨hj, s, t, cs, bs, h1, h2, h3⟩ := h.split hi
  obtain ⟨k1, k2, k3⟩ := drop_kd h1
  rw [h0] at k1
  cases s with
  | var v =>
    refine ⟨t, v.val, ⟨_, h2⟩, v.isLt, by rw [k2]; rfl, cs, bs, by simpa [kids] using k3, ?_, h3, ?_⟩
    · rw [← List.drop_drop, h2, List.drop_left']; rfl
    · have := congrArg List.length h2
      simp only [List.length_drop, List.length_append] at this
      omega
  | fls => simp [kindOf] at k1
  | and x y => simp [kindOf] at k1
  | or x y => simp [kindOf] at k1
  | imp x y => simp [kindOf] at k1
  | box x => simp [kindOf] at k1
  | dia x => simp [kindOf] at k1
theorem Bal.node {a xs : List Nd} {i j : Nat} (h : Bal a i xs j) (hi : i < a.length) (he : kd xs j = kd a i) : Bal a (i + 1) xs (j + 1) := by
  obtain ⟨hj, s, t, cs, bs, h1, h2, h3⟩ := h.split hi
  obtain ⟨k1, _, k3⟩ := drop_kd h1
  obtain ⟨l1, _, l3⟩ := drop_kd h2
  refine ⟨kids s ++ cs, kids t ++ bs, by rw [k3, List.flatMap_append], by rw [l3, List.flatMap_append], ?_, hj⟩
  rw [List.length_append, List.length_append, kids_len, kids_len, ← k1, ← l1, he, h3]
theorem Bal.lt {a xs : List Nd} {i j : Nat} (h : Bal a i xs j) (hi : i < a.length) : j < xs.length := (h.split hi).1
end Go.Proofs.YtpbaiadaanpllaaDoor

/- Terms as trees and their lists of nodes. No program is in sight. -/
import Derived.Test.YthofkdpmgjkgkaaGreatTm
namespace Go.Proofs.YthofkdpmgjkgkaaGreat
open Go.RowKit
namespace Tr

inductive Tm where
  | t0 (x : Tn)
  | t1 (x : Tn) (a : Tm)
  | t2 (x : Tn) (a b : Tm)
  | t3 (x : Tn) (a b c : Tm)

def hd : Tm → Tn
  | .t0 x => x
  | .t1 x _ => x
  | .t2 x _ _ => x
  | .t3 x _ _ _ => x
def enc : Tm → List Tn
  | .t0 x => [x]
  | .t1 x a => x :: enc a
  | .t2 x a b => x :: (enc a ++ enc b)
  | .t3 x a b c => x :: (enc a ++ (enc b ++ enc c))
theorem enc_pos (t : Tm) : 1 ≤ (enc t).length := by cases t <;> simp [enc]
theorem enc_hd (t : Tm) : ∃ r, enc t = hd t :: r := by cases t <;> exact ⟨_, rfl⟩

/-- How many parts the nodes of a kind have. -/
def ar (k : Int) : Nat := if k = 1 ∨ k = 4 ∨ k = 5 ∨ k = 6 ∨ k = 7 ∨ k = 9 then 1 else if k = 2 ∨ k = 3 then 2 else if k = 8 then 3 else 0
theorem ar_le (k : Int) : ar k ≤ 3 := by unfold ar; split; omega; split; omega; split <;> omega

/-- Every node has as many parts as its kind asks, and meets the predicate. -/
def wf (p : Tn → Prop) : Tm → Prop
  | .t0 x => ar x.1 = 0 ∧ p x
  | .t1 x a => (ar x.1 = 1 ∧ p x) ∧ wf p a
  | .t2 x a b => (ar x.1 = 2 ∧ p x) ∧ wf p a ∧ wf p b
  | .t3 x a b c => (ar x.1 = 3 ∧ p x) ∧ wf p a ∧ wf p b ∧ wf p c

/-- How many nodes are read till no part is open. -/
def scan : List Tn → Nat → Option Nat
  | _, 0 => some 0
  | [], _ + 1 => none
  | x :: xs, o + 1 => (scan xs (o + ar x.1)).map (· + 1)

theorem scan_zero (xs : List Tn) : scan xs 0 = some 0 := by cases xs <;> rfl
theorem scan_nil (o : Nat) : scan [] (o + 1) = none := rfl
theorem scan_cons (x : Tn) (xs : List Tn) (o : Nat) : scan (x :: xs) (o + 1) = (scan xs (o + ar x.1)).map (· + 1) := rfl

theorem scan_enc {p : Tn → Prop} (t : Tm) : wf p t → ∀ (rest : List Tn) (o : Nat), scan (enc t ++ rest) (o + 1) = (scan rest o).map (· + (enc t).length) := by
  induction t with
  | t0 x =>
    intro h rest o
    simp only [wf] at h
    simp [enc, scan_cons, h.1]
  | t1 x a iha =>
    intro h rest o
    simp only [wf] at h
    simp only [enc, List.cons_append, scan_cons, h.1.1]
    rw [iha h.2]
    cases scan rest o <;> simp; omega
  | t2 x a b iha ihb =>
    intro h rest o
    simp only [wf] at h
    simp only [enc, List.cons_append, scan_cons, List.append_assoc, h.1.1]
    rw [show o + 2 = (o + 1) + 1 from rfl, iha h.2.1, ihb h.2.2]
    cases scan rest o <;> simp; omega
  | t3 x a b c iha ihb ihc =>
    intro h rest o
    simp only [wf] at h
    simp only [enc, List.cons_append, scan_cons, List.append_assoc, h.1.1]
    rw [show o + 3 = (o + 2) + 1 from rfl, iha h.2.1, show o + 2 = (o + 1) + 1 from rfl, ihb h.2.2.1, ihc h.2.2.2]
    cases scan rest o <;> simp; omega
theorem scan_one {p : Tn → Prop} {t : Tm} (h : wf p t) (rest : List Tn) : scan (enc t ++ rest) 1 = some (enc t).length := by
  rw [scan_enc t h rest 0, scan_zero]; simp

theorem scan_split : ∀ (xs : List Tn) (a b : Nat), scan xs (a + b) = (scan xs a).bind fun n => (scan (xs.drop n) b).map (n + ·) := by
  intro xs
  induction xs with
  | nil =>
    intro a b
    cases a with
    | zero => simp [scan_zero]
    | succ a => rw [show a + 1 + b = (a + b) + 1 by omega, scan_nil, scan_nil]; rfl
  | cons x xs ih =>
    intro a b
    cases a with
    | zero => simp [scan_zero]
    | succ a =>
      rw [show a + 1 + b = (a + b) + 1 by omega, scan_cons, scan_cons, show a + b + ar x.1 = (a + ar x.1) + b by omega, ih]
      cases scan xs (a + ar x.1) with
      | none => rfl
      | some n =>
        simp only [Option.bind_some, Option.map_some, List.drop_succ_cons]
        cases scan (xs.drop n) b with
        | none => rfl
        | some m => simp; omega
theorem scan_le : ∀ (xs : List Tn) (o n : Nat), scan xs o = some n → n ≤ xs.length := by
  intro xs
  induction xs with
  | nil => intro o n h; cases o with
    | zero => simp [scan_zero] at h; omega
    | succ o => simp [scan_nil] at h
  | cons x xs ih => intro o n h; cases o with
    | zero => simp [scan_zero] at h; omega
    | succ o =>
      rw [scan_cons] at h
      cases hs : scan xs (o + ar x.1) with
      | none => rw [hs] at h; simp at h
      | some m => rw [hs] at h; simp at h; have := ih _ _ hs; simp; omega

/-- What a scan reads is a list of trees. -/
theorem scan_trees (p : Tn → Prop) : ∀ (xs : List Tn) (o n : Nat), scan xs o = some n → (∀ x ∈ xs, p x) → ∃ (ts : List Tm) (rest : List Tn), ts.length = o ∧ xs = ts.flatMap enc ++ rest ∧ n = (ts.flatMap enc).length ∧ ∀ t ∈ ts, wf p t := by
  intro xs
  induction xs with
  | nil =>
    intro o n h _
    cases o with
    | zero => simp [scan_zero] at h; exact ⟨[], [], rfl, rfl, by simp [h], by simp⟩
    | succ o => simp [scan_nil] at h
  | cons x xs ih =>
    intro o n h hp
    cases o with
    | zero => simp [scan_zero] at h; exact ⟨[], x :: xs, rfl, by simp, by simp [h], by simp⟩
    | succ o =>
      rw [scan_cons] at h
      cases hs : scan xs (o + ar x.1) with
      | none => rw [hs] at h; simp at h
      | some m =>
        rw [hs] at h
        simp only [Option.map_some, Option.some.injEq] at h
        obtain ⟨ts, rest, h1, h2, h3, h4⟩ := ih _ _ hs (fun y hy => hp y (by simp [hy]))
        have hx : p x := hp x (by simp)
        have har := ar_le x.1
        have hc : ar x.1 = 0 ∨ ar x.1 = 1 ∨ ar x.1 = 2 ∨ ar x.1 = 3 := by omega
        rcases hc with ha | ha | ha | ha
        · rw [ha] at h1
          refine ⟨.t0 x :: ts, rest, by simp [h1], by simp [enc, h2], by rw [List.flatMap_cons, List.length_append, ← h3, ← h]; simp [enc]; omega, ?_⟩
          intro t ht
          rcases List.mem_cons.1 ht with rfl | ht
          · exact ⟨ha, hx⟩
          · exact h4 t ht
        · rw [ha] at h1
          match ts, h1, h2, h3, h4 with
          | a :: ts, h1, h2, h3, h4 =>
            refine ⟨.t1 x a :: ts, rest, by simp at h1; simp [h1], by simp [enc, h2], by simp [enc] at h3 ⊢; omega, ?_⟩
            intro t ht
            rcases List.mem_cons.1 ht with rfl | ht
            · exact ⟨⟨ha, hx⟩, h4 a (by simp)⟩
            · exact h4 t (by simp [ht])
        · rw [ha] at h1
          match ts, h1, h2, h3, h4 with
          | a :: b :: ts, h1, h2, h3, h4 =>
            refine ⟨.t2 x a b :: ts, rest, by simp at h1; simp [h1], by simp [enc, h2], by simp [enc] at h3 ⊢; omega, ?_⟩
            intro t ht
            rcases List.mem_cons.1 ht with rfl | ht
            · exact ⟨⟨ha, hx⟩, h4 a (by simp), h4 b (by simp)⟩
            · exact h4 t (by simp [ht])
          | [_], h1, _, _, _ => simp at h1
        · rw [ha] at h1
          match ts, h1, h2, h3, h4 with
          | a :: b :: c :: ts, h1, h2, h3, h4 =>
            refine ⟨.t3 x a b c :: ts, rest, by simp at h1; simp [h1], by simp [enc, h2], by simp [enc] at h3 ⊢; omega, ?_⟩
            intro t ht
            rcases List.mem_cons.1 ht with rfl | ht
            · exact ⟨⟨ha, hx⟩, h4 a (by simp), h4 b (by simp), h4 c (by simp)⟩
            · exact h4 t (by simp [ht])
          | [_, _], h1, _, _, _ => simp at h1
          | [_], h1, _, _, _ => simp at h1
theorem tree_of {p : Tn → Prop} {xs : List Tn} (h : scan xs 1 = some xs.length) (hp : ∀ x ∈ xs, p x) : ∃ t, wf p t ∧ enc t = xs := by
  obtain ⟨ts, rest, h1, h2, h3, h4⟩ := scan_trees p xs 1 _ h hp
  match ts, h1 with
  | [t], _ =>
    refine ⟨t, h4 t (by simp), ?_⟩
    have hl := congrArg List.length h2
    rw [List.length_append] at hl
    have : rest = [] := List.eq_nil_of_length_eq_zero (by omega)
    rw [this] at h2
    simpa using h2.symm

/-- What the search for the end gives. -/
def pval (j : Nat) : Option Nat → Int
  | some n => (j : Int) + n
  | none => -1
theorem pval_succ (j : Nat) (o : Option Nat) : pval j (o.map (· + 1)) = pval (j + 1) o := by
  cases o with
  | none => rfl
  | some n => show (j : Int) + ((n + 1 : Nat) : Int) = ((j + 1 : Nat) : Int) + n; omega
theorem pval_add (j m : Nat) (o : Option Nat) : pval j (o.map (m + ·)) = pval (j + m) o := by
  cases o with
  | none => rfl
  | some n => show (j : Int) + ((m + n : Nat) : Int) = ((j + m : Nat) : Int) + n; omega
/-- Where the parts end that are open at j. -/
def pend (xs : List Tn) (j o : Nat) : Int := pval j (scan (xs.drop j) o)
theorem pend_zero (xs : List Tn) (j : Nat) : pend xs j 0 = j := by simp [pend, scan_zero, pval]
theorem pend_out {xs : List Tn} {j : Nat} (h : xs.length ≤ j) (o : Nat) : pend xs j (o + 1) = -1 := by
  rw [pend, List.drop_eq_nil_of_le h, scan_nil]; rfl
theorem pend_step {xs : List Tn} {j : Nat} (h : j < xs.length) (o : Nat) : pend xs j (o + 1) = pend xs (j + 1) (o + ar (tk xs j)) := by
  rw [pend, List.drop_eq_getElem_cons h, scan_cons, tk_lt h, pval_succ]; rfl
/-- One part more: its end first. -/
theorem pend_part {xs : List Tn} {j : Nat} (o : Nat) : (pend xs j 1 = -1 ∧ pend xs j (o + 1) = -1) ∨ ∃ n, pend xs j 1 = ((j + n : Nat) : Int) ∧ n ≤ xs.length - j ∧ pend xs j (o + 1) = pend xs (j + n) o := by
  have h := scan_split (xs.drop j) 1 o
  rw [Nat.add_comm 1 o] at h
  unfold pend
  rw [h]
  cases hs : scan (xs.drop j) 1 with
  | none => exact .inl ⟨rfl, rfl⟩
  | some n =>
    right
    have := scan_le _ _ _ hs
    rw [List.length_drop] at this
    refine ⟨n, by simp [pval], by omega, ?_⟩
    rw [Option.bind_some, pval_add, List.drop_drop]
theorem pend_le {xs : List Tn} {j : Nat} (hj : j ≤ xs.length) (o : Nat) : pend xs j o ≤ xs.length := by
  unfold pend
  cases hs : scan (xs.drop j) o with
  | none => simp only [pval]; omega
  | some n =>
    have := scan_le _ _ _ hs
    rw [List.length_drop] at this
    simp only [pval]
    omega
end Tr
end Go.Proofs.YthofkdpmgjkgkaaGreat

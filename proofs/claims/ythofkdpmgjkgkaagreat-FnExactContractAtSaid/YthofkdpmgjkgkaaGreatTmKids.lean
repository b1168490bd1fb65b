/- The parts of a term, and what holds of all its numbers. No program is in sight. -/
import Derived.Test.YthofkdpmgjkgkaaGreatTmTree
namespace Go.Proofs.YthofkdpmgjkgkaaGreat
open Go.RowKit
namespace Tr

def kids : Tm → List Tm
  | .t0 _ => []
  | .t1 _ a => [a]
  | .t2 _ a b => [a, b]
  | .t3 _ a b c => [a, b, c]
theorem enc_kids (t : Tm) : enc t = hd t :: (kids t).flatMap enc := by cases t <;> simp [enc, kids, hd]
theorem kids_len {p : Tn → Prop} {t : Tm} (h : wf p t) : (kids t).length = ar (hd t).1 := by
  cases t <;> simp only [wf] at h
  · simp [kids, hd, h.1]
  · simp [kids, hd, h.1.1]
  · simp [kids, hd, h.1.1]
  · simp [kids, hd, h.1.1]
theorem kids_wf {p : Tn → Prop} {t : Tm} (h : wf p t) : ∀ s ∈ kids t, wf p s := by
  cases t <;> simp only [wf] at h <;> intro s hs <;> simp [kids] at hs
  · subst hs; exact h.2
  · rcases hs with rfl | rfl
    · exact h.2.1
    · exact h.2.2
  · rcases hs with rfl | rfl | rfl
    · exact h.2.1
    · exact h.2.2.1
    · exact h.2.2.2
theorem hd_wf {p : Tn → Prop} {t : Tm} (h : wf p t) : p (hd t) := by
  cases t <;> simp only [wf] at h
  · exact h.2
  · exact h.1.2
  · exact h.1.2
  · exact h.1.2
/-- Induction along the parts. -/
theorem ind {P : Tm → Prop} (h : ∀ t, (∀ s ∈ kids t, P s) → P t) : ∀ t, P t := by
  intro t
  induction t with
  | t0 x => exact h _ (fun s hs => by simp [kids] at hs)
  | t1 x a ha => exact h _ (fun s hs => by simp [kids] at hs; subst hs; exact ha)
  | t2 x a b ha hb => exact h _ (fun s hs => by simp [kids] at hs; rcases hs with rfl | rfl <;> assumption)
  | t3 x a b c ha hb hc => exact h _ (fun s hs => by simp [kids] at hs; rcases hs with rfl | rfl | rfl <;> assumption)

/-- Where part i begins. -/
def off (t : Tm) (i : Nat) : Nat := 1 + (((kids t).take i).flatMap enc).length
theorem off_zero (t : Tm) : off t 0 = 1 := by simp [off]
theorem off_succ {t : Tm} {i : Nat} (h : i < (kids t).length) : off t (i + 1) = off t i + (enc (kids t)[i]).length := by
  unfold off
  rw [List.take_succ_eq_append_getElem h, List.flatMap_append, List.length_append]
  simp
  omega
theorem drop_off (t : Tm) (i : Nat) : (enc t).drop (off t i) = ((kids t).drop i).flatMap enc := by
  rw [enc_kids, off, Nat.add_comm, List.drop_succ_cons]
  have h : (kids t).flatMap enc = ((kids t).take i).flatMap enc ++ ((kids t).drop i).flatMap enc := by
    rw [← List.flatMap_append, List.take_append_drop]
  rw [h, List.drop_left']
  rfl
theorem drop_part {t : Tm} {i : Nat} (h : i < (kids t).length) : (enc t).drop (off t i) = enc (kids t)[i] ++ ((kids t).drop (i + 1)).flatMap enc := by
  rw [drop_off, List.drop_eq_getElem_cons h, List.flatMap_cons]
theorem off_le {t : Tm} {i : Nat} (h : i < (kids t).length) : off t i + (enc (kids t)[i]).length ≤ (enc t).length := by
  have h1 := congrArg List.length (drop_part h)
  simp only [List.length_drop, List.length_append] at h1
  have := enc_pos (kids t)[i]
  omega
theorem pend_part_at {p : Tn → Prop} {t : Tm} {i : Nat} (hw : wf p t) (h : i < (kids t).length) : pend (enc t) (off t i) 1 = ((off t i + (enc (kids t)[i]).length : Nat) : Int) := by
  unfold pend
  rw [drop_part h, scan_one (kids_wf hw _ (List.getElem_mem h))]
  simp [pval]
theorem take_part {t : Tm} {i : Nat} (h : i < (kids t).length) : ((enc t).drop (off t i)).take (enc (kids t)[i]).length = enc (kids t)[i] := by
  rw [drop_part h, List.take_left']; rfl
theorem kid_lt {t : Tm} {i : Nat} (h : i < (kids t).length) : (enc (kids t)[i]).length < (enc t).length := by
  have h1 := off_le h
  have : 1 ≤ off t i := by unfold off; omega
  omega

/-- Part i. -/
def kid (t : Tm) (i : Nat) : Tm := (kids t).getD i (.t0 (0, 0, ByteArray.empty))
theorem kid_eq {t : Tm} {i : Nat} (h : i < (kids t).length) : (kids t)[i] = kid t i := by simp [kid, List.getD, h]
theorem kid_mem {t : Tm} {i : Nat} (h : i < (kids t).length) : kid t i ∈ kids t := by rw [← kid_eq h]; exact List.getElem_mem h
theorem off_next {t : Tm} {i : Nat} (h : i < (kids t).length) : off t (i + 1) = off t i + (enc (kid t i)).length := by rw [off_succ h, kid_eq h]
theorem off_end {t : Tm} {i : Nat} (h : i < (kids t).length) : off t i + (enc (kid t i)).length ≤ (enc t).length := by rw [← kid_eq h]; exact off_le h
theorem pend_kid {p : Tn → Prop} {t : Tm} {i : Nat} (hw : wf p t) (h : i < (kids t).length) : pend (enc t) (off t i) 1 = ((off t i + (enc (kid t i)).length : Nat) : Int) := by rw [← kid_eq h]; exact pend_part_at hw h
theorem take_kid {t : Tm} {i : Nat} (h : i < (kids t).length) : ((enc t).drop (off t i)).take (enc (kid t i)).length = enc (kid t i) := by rw [← kid_eq h]; exact take_part h
theorem kid_small {t : Tm} {i : Nat} (h : i < (kids t).length) : (enc (kid t i)).length < (enc t).length := by rw [← kid_eq h]; exact kid_lt h

/-- How many more variables a part is read with. -/
def bd (k : Int) (i : Nat) : Int := if k = 1 ∨ (k = 8 ∧ 0 < i) then 1 else 0
/-- Does p hold of all numbers and what each is read with? -/
def evN (p : Int → Int → Bool) : Tm → Int → Bool
  | .t0 x, n => p x.2.1 n
  | .t1 x a, n => evN p a (n + bd x.1 0)
  | .t2 x a b, n => evN p a (n + bd x.1 0) && evN p b (n + bd x.1 1)
  | .t3 x a b c, n => evN p a (n + bd x.1 0) && (evN p b (n + bd x.1 1) && evN p c (n + bd x.1 2))
def evL (p : Int → Int → Bool) (k : Int) : List Tm → Nat → Int → Bool
  | [], _, _ => true
  | s :: ts, i, n => evN p s (n + bd k i) && evL p k ts (i + 1) n
theorem evN_kids {p : Int → Int → Bool} {t : Tm} {n : Int} (h : kids t ≠ []) : evN p t n = evL p (hd t).1 (kids t) 0 n := by
  cases t with
  | t0 x => exact absurd rfl h
  | t1 x a => simp [evN, evL, kids, hd]
  | t2 x a b => simp [evN, evL, kids, hd]
  | t3 x a b c => simp [evN, evL, kids, hd]
theorem evN_leaf {p : Int → Int → Bool} {t : Tm} {n : Int} (h : kids t = []) : evN p t n = p (hd t).2.1 n := by
  cases t with
  | t0 x => rfl
  | t1 x a => cases h
  | t2 x a b => cases h
  | t3 x a b c => cases h
theorem evL_step {p : Int → Int → Bool} {k : Int} {ts : List Tm} {i : Nat} {n : Int} (h : i < ts.length) : evL p k (ts.drop i) i n = (evN p (ts[i]'h) (n + bd k i) && evL p k (ts.drop (i + 1)) (i + 1) n) := by
  rw [List.drop_eq_getElem_cons h, evL]
theorem evL_kid {p : Int → Int → Bool} {k : Int} {t : Tm} {i : Nat} {n : Int} (h : i < (kids t).length) : evL p k ((kids t).drop i) i n = (evN p (kid t i) (n + bd k i) && evL p k ((kids t).drop (i + 1)) (i + 1) n) := by rw [evL_step h, kid_eq h]
theorem evL_end {p : Int → Int → Bool} {k : Int} {ts : List Tm} {i : Nat} {n : Int} (h : ts.length ≤ i) : evL p k (ts.drop i) i n = true := by
  rw [List.drop_eq_nil_of_le h, evL]
end Tr
end Go.Proofs.YthofkdpmgjkgkaaGreat

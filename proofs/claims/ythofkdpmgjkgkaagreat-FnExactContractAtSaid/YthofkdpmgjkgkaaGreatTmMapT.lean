/- A term in which each variable is replaced. No program is in sight. -/
import Derived.Test.YthofkdpmgjkgkaaGreatTmKids
import Derived.Test.YthofkdpmgjkgkaaGreatTmRaise
namespace Go.Proofs.YthofkdpmgjkgkaaGreat
open Go.RowKit
namespace Tr

def mapN (f : Tn → Int → List Tn) : Tm → Int → List Tn
  | .t0 x, n => f x n
  | .t1 x a, n => x :: mapN f a (n + bd x.1 0)
  | .t2 x a b, n => x :: (mapN f a (n + bd x.1 0) ++ mapN f b (n + bd x.1 1))
  | .t3 x a b c, n => x :: (mapN f a (n + bd x.1 0) ++ (mapN f b (n + bd x.1 1) ++ mapN f c (n + bd x.1 2)))
/-- The first j parts, replaced. -/
def mapL (f : Tn → Int → List Tn) (t : Tm) (n : Int) : Nat → List Tn
  | 0 => [hd t]
  | j + 1 => mapL f t n j ++ mapN f (kid t j) (n + bd (hd t).1 j)
theorem mapN_kids {f : Tn → Int → List Tn} {t : Tm} {n : Int} (h : kids t ≠ []) : mapN f t n = mapL f t n (kids t).length := by
  cases t with
  | t0 x => exact absurd rfl h
  | t1 x a => simp [mapN, mapL, kids, hd, kid]
  | t2 x a b => simp [mapN, mapL, kids, hd, kid]
  | t3 x a b c => simp [mapN, mapL, kids, hd, kid]
theorem mapN_leaf {f : Tn → Int → List Tn} {t : Tm} {n : Int} (h : kids t = []) : mapN f t n = f (hd t) n := by
  cases t with
  | t0 x => rfl
  | t1 x a => cases h
  | t2 x a b => cases h
  | t3 x a b c => cases h
theorem mapN_len {f : Tn → Int → List Tn} {M : Nat} (hM : 1 ≤ M) (hf : ∀ x n, (f x n).length ≤ M) : ∀ t n, (mapN f t n).length ≤ (enc t).length * M := by
  intro t
  induction t with
  | t0 x => intro n; simp [mapN, enc]; exact hf x n
  | t1 x a ha =>
    intro n
    have := ha (n + bd x.1 0)
    simp only [mapN, enc, List.length_cons, Nat.add_mul, Nat.one_mul] at *
    omega
  | t2 x a b ha hb =>
    intro n
    have h1 := ha (n + bd x.1 0)
    have h2 := hb (n + bd x.1 1)
    simp only [mapN, enc, List.length_cons, List.length_append, Nat.add_mul, Nat.one_mul] at *
    omega
  | t3 x a b c ha hb hc =>
    intro n
    have h1 := ha (n + bd x.1 0)
    have h2 := hb (n + bd x.1 1)
    have h3 := hc (n + bd x.1 2)
    simp only [mapN, enc, List.length_cons, List.length_append, Nat.add_mul, Nat.one_mul] at *
    omega
theorem mapL_len {f : Tn → Int → List Tn} {M : Nat} (hM : 1 ≤ M) (hf : ∀ x n, (f x n).length ≤ M) {t : Tm} {n : Int} : ∀ j, j ≤ (kids t).length → (mapL f t n j).length ≤ off t j * M := by
  intro j
  induction j with
  | zero => intro _; rw [off_zero]; simp [mapL]; omega
  | succ j ih =>
    intro hj
    have h1 := ih (by omega)
    have h2 := mapN_len hM hf (kid t j) (n + bd (hd t).1 j)
    rw [mapL, List.length_append, off_next (by omega), Nat.add_mul]
    omega
theorem mapN_mem {P : Tn → Prop} {f : Tn → Int → List Tn} (hf : ∀ x n, P x → ∀ y ∈ f x n, P y) : ∀ t n, (∀ x ∈ enc t, P x) → ∀ y ∈ mapN f t n, P y := by
  intro t
  induction t with
  | t0 x => intro n h y hy; exact hf x n (h x (by simp [enc])) y hy
  | t1 x a ha =>
    intro n h y hy
    simp only [mapN, List.mem_cons] at hy
    rcases hy with rfl | hy
    · exact h _ (by simp [enc])
    · exact ha _ (fun z hz => h z (by simp [enc, hz])) y hy
  | t2 x a b ha hb =>
    intro n h y hy
    simp only [mapN, List.mem_cons, List.mem_append] at hy
    rcases hy with rfl | hy | hy
    · exact h _ (by simp [enc])
    · exact ha _ (fun z hz => h z (by simp [enc, hz])) y hy
    · exact hb _ (fun z hz => h z (by simp [enc, hz])) y hy
  | t3 x a b c ha hb hc =>
    intro n h y hy
    simp only [mapN, List.mem_cons, List.mem_append] at hy
    rcases hy with rfl | hy | hy | hy
    · exact h _ (by simp [enc])
    · exact ha _ (fun z hz => h z (by simp [enc, hz])) y hy
    · exact hb _ (fun z hz => h z (by simp [enc, hz])) y hy
    · exact hc _ (fun z hz => h z (by simp [enc, hz])) y hy
end Tr
theorem fits_mem {xs : List Tn} : FitsT xs ↔ ∀ x ∈ xs, x.2.2.size ≤ 1048576 := by
  constructor
  · intro h x hx
    obtain ⟨i, hi, rfl⟩ := List.getElem_of_mem hx
    have := h i hi
    rw [tk_lt hi]
    exact this
  · intro h i hi
    have := h xs[i] (List.getElem_mem hi)
    rw [tk_lt hi] at this
    exact this
theorem put_fits {n : Int} {u : List Tn} {t : Tr.Tm} {m : Int} (hu : FitsT u) (ht : FitsT (Tr.enc t)) : FitsT (Tr.mapN (fun x now => if x.2.1 = n then raiseL n (now - n - 1) u else if n < x.2.1 then [(x.1, x.2.1 - 1, x.2.2)] else [x]) t m) := by
  rw [fits_mem] at *
  refine Tr.mapN_mem (P := fun x => x.2.2.size ≤ 1048576) ?_ t m ht
  intro x now hx y hy
  split at hy
  · simp only [raiseL, List.mem_map] at hy
    obtain ⟨z, hz, rfl⟩ := hy
    have := hu z hz
    unfold raiseN
    split <;> exact this
  · split at hy
    · simp at hy; subst hy; exact hx
    · simp at hy; subst hy; exact hx
/-- What a variable is replaced by when u is put for n. -/
def putN (n : Int) (u : List Tn) (x : Tn) (now : Int) : List Tn := if x.2.1 = n then raiseL n (now - n - 1) u else if n < x.2.1 then [(x.1, x.2.1 - 1, x.2.2)] else [x]
theorem putN_len (n : Int) (u : List Tn) (x : Tn) (now : Int) : (putN n u x now).length ≤ u.length + 1 := by
  unfold putN
  split
  · rw [raiseL_length]; omega
  · split <;> simp
end Go.Proofs.YthofkdpmgjkgkaaGreat

/- Bundled: TmCtT TmCtL TmCt TmCtS TmCtA TmCtB TmCtF. -/
import Derived.Test.YthofkdpmgjkgkaaGreatTmMapT
import Derived.Test.YthofkdpmgjkgkaaGreatTmRed
import Derived.Test.YthofkdpmgjkgkaaGreatTmPart
import Derived.Test.YthofkdpmgjkgkaaGreatTmIns0
import Derived.Test.YthofkdpmgjkgkaaGreatTmPut
import Derived.Deep.RegionHeld3
import Derived.Test.YthofkdpmgjkgkaaGreatTmPutS
import Derived.Test.YthofkdpmgjkgkaaGreatTmLim
import Derived.Test.YthofkdpmgjkgkaaGreatRange

/- A redex of a term contracted. No program is in sight. -/
namespace Go.Proofs.YthofkdpmgjkgkaaGreat
open Go.RowKit
open Tr (Tm)

/-- What a redex that is read with n variables is contracted to. -/
def ctr (t : Tm) (n : Int) : List Tn :=
  match t with
  | .t2 _ f u => Tr.mapN (putN n (Tr.enc u)) (Tr.kid f 0) (n + 1)
  | .t3 _ f a b => Tr.mapN (putN n (Tr.enc (Tr.kid f 0))) (if (Tr.hd f).1 = 6 then a else b) (n + 1)
  | .t1 x f => Tr.enc (Tr.kid f (if x.1 = 4 then 0 else 1))
  | .t0 x => [x]
/-- One part, contracted where the index lies in it. -/
def ctAt : Tm → Int → Nat → List Tn
  | t, n, 0 => ctr t n
  | .t0 x, _, _ + 1 => [x]
  | .t1 x a, n, i + 1 => x :: (if i < (Tr.enc a).length then ctAt a (n + Tr.bd x.1 0) i else Tr.enc a)
  | .t2 x a b, n, i + 1 => x :: ((if i < (Tr.enc a).length then ctAt a (n + Tr.bd x.1 0) i else Tr.enc a) ++ (if (Tr.enc a).length ≤ i ∧ i < (Tr.enc a).length + (Tr.enc b).length then ctAt b (n + Tr.bd x.1 1) (i - (Tr.enc a).length) else Tr.enc b))
  | .t3 x a b c, n, i + 1 => x :: ((if i < (Tr.enc a).length then ctAt a (n + Tr.bd x.1 0) i else Tr.enc a) ++ ((if (Tr.enc a).length ≤ i ∧ i < (Tr.enc a).length + (Tr.enc b).length then ctAt b (n + Tr.bd x.1 1) (i - (Tr.enc a).length) else Tr.enc b) ++ (if (Tr.enc a).length + (Tr.enc b).length ≤ i ∧ i < (Tr.enc a).length + (Tr.enc b).length + (Tr.enc c).length then ctAt c (n + Tr.bd x.1 2) (i - ((Tr.enc a).length + (Tr.enc b).length)) else Tr.enc c)))
/-- Part j, contracted if the index lies in it. -/
def ctP (t : Tm) (n : Int) (i j : Nat) : List Tn := if Tr.off t j ≤ i ∧ i < Tr.off t j + (Tr.enc (Tr.kid t j)).length then ctAt (Tr.kid t j) (n + Tr.bd (Tr.hd t).1 j) (i - Tr.off t j) else Tr.enc (Tr.kid t j)
/-- The first j parts of a term. -/
def ctL (t : Tm) (n : Int) (i : Nat) : Nat → List Tn
  | 0 => [Tr.hd t]
  | j + 1 => ctL t n i j ++ ctP t n i j
theorem ctAt_zero (t : Tm) (n : Int) : ctAt t n 0 = ctr t n := by cases t <;> rfl
theorem selEq {P Q : Prop} [Decidable P] [Decidable Q] {f : Nat → List Tn} {i j : Nat} {e : List Tn} (h : Q ↔ P) (hij : P → j = i) : (if Q then f j else e) = (if P then f i else e) := by
  by_cases hP : P
  · rw [if_pos hP, if_pos (h.mpr hP), hij hP]
  · rw [if_neg hP, if_neg (fun q => hP (h.mp q))]
theorem ctAt_kids {t : Tm} {n : Int} {i : Nat} (hi : 0 < i) : ctAt t n i = ctL t n i (Tr.kids t).length := by
  obtain ⟨k, rfl⟩ : ∃ k, i = k + 1 := ⟨i - 1, by omega⟩
  cases t with
  | t0 x => rfl
  | t1 x a =>
    have e0 : Tr.off (.t1 x a) 0 = 1 := Tr.off_zero _
    have p0 : ctP (.t1 x a) n (k + 1) 0 = (if k < (Tr.enc a).length then ctAt a (n + Tr.bd x.1 0) k else Tr.enc a) := by
      refine selEq (f := ctAt a (n + Tr.bd x.1 0)) ?_ ?_
      · rw [e0]; show _ ∧ _ < 1 + (Tr.enc a).length ↔ _; omega
      · intro _; rw [e0]; omega
    have hL : ctL (.t1 x a) n (k + 1) (Tr.kids (.t1 x a)).length = [x] ++ ctP (.t1 x a) n (k + 1) 0 := rfl
    rw [hL, p0]; rfl
  | t2 x a b =>
    have e0 : Tr.off (.t2 x a b) 0 = 1 := Tr.off_zero _
    have e1 : Tr.off (.t2 x a b) 1 = 1 + (Tr.enc a).length := by simp [Tr.off, Tr.kids]
    have p0 : ctP (.t2 x a b) n (k + 1) 0 = (if k < (Tr.enc a).length then ctAt a (n + Tr.bd x.1 0) k else Tr.enc a) := by
      refine selEq (f := ctAt a (n + Tr.bd x.1 0)) ?_ ?_
      · rw [e0]; show _ ∧ _ < 1 + (Tr.enc a).length ↔ _; omega
      · intro _; rw [e0]; omega
    have p1 : ctP (.t2 x a b) n (k + 1) 1 = (if (Tr.enc a).length ≤ k ∧ k < (Tr.enc a).length + (Tr.enc b).length then ctAt b (n + Tr.bd x.1 1) (k - (Tr.enc a).length) else Tr.enc b) := by
      refine selEq (f := ctAt b (n + Tr.bd x.1 1)) ?_ ?_
      · rw [e1]; show _ ∧ _ < 1 + (Tr.enc a).length + (Tr.enc b).length ↔ _; omega
      · intro _; rw [e1]; omega
    have hL : ctL (.t2 x a b) n (k + 1) (Tr.kids (.t2 x a b)).length = ([x] ++ ctP (.t2 x a b) n (k + 1) 0) ++ ctP (.t2 x a b) n (k + 1) 1 := rfl
    rw [hL, p0, p1, List.append_assoc]; rfl
  | t3 x a b c =>
    have e0 : Tr.off (.t3 x a b c) 0 = 1 := Tr.off_zero _
    have e1 : Tr.off (.t3 x a b c) 1 = 1 + (Tr.enc a).length := by simp [Tr.off, Tr.kids]
    have e2 : Tr.off (.t3 x a b c) 2 = 1 + ((Tr.enc a).length + (Tr.enc b).length) := by simp [Tr.off, Tr.kids]
    have p0 : ctP (.t3 x a b c) n (k + 1) 0 = (if k < (Tr.enc a).length then ctAt a (n + Tr.bd x.1 0) k else Tr.enc a) := by
      refine selEq (f := ctAt a (n + Tr.bd x.1 0)) ?_ ?_
      · rw [e0]; show _ ∧ _ < 1 + (Tr.enc a).length ↔ _; omega
      · intro _; rw [e0]; omega
    have p1 : ctP (.t3 x a b c) n (k + 1) 1 = (if (Tr.enc a).length ≤ k ∧ k < (Tr.enc a).length + (Tr.enc b).length then ctAt b (n + Tr.bd x.1 1) (k - (Tr.enc a).length) else Tr.enc b) := by
      refine selEq (f := ctAt b (n + Tr.bd x.1 1)) ?_ ?_
      · rw [e1]; show _ ∧ _ < 1 + (Tr.enc a).length + (Tr.enc b).length ↔ _; omega
      · intro _; rw [e1]; omega
    have p2 : ctP (.t3 x a b c) n (k + 1) 2 = (if (Tr.enc a).length + (Tr.enc b).length ≤ k ∧ k < (Tr.enc a).length + (Tr.enc b).length + (Tr.enc c).length then ctAt c (n + Tr.bd x.1 2) (k - ((Tr.enc a).length + (Tr.enc b).length)) else Tr.enc c) := by
      refine selEq (f := ctAt c (n + Tr.bd x.1 2)) ?_ ?_
      · rw [e2]; show _ ∧ _ < 1 + ((Tr.enc a).length + (Tr.enc b).length) + (Tr.enc c).length ↔ _; omega
      · intro _; rw [e2]; omega
    have hL : ctL (.t3 x a b c) n (k + 1) (Tr.kids (.t3 x a b c)).length = (([x] ++ ctP (.t3 x a b c) n (k + 1) 0) ++ ctP (.t3 x a b c) n (k + 1) 1) ++ ctP (.t3 x a b c) n (k + 1) 2 := rfl
    rw [hL, p0, p1, p2, List.append_assoc, List.append_assoc]; rfl

theorem hd_at (f : Tm) : tk (Tr.enc f) 0 = (Tr.hd f).1 := (enc_at0 f).1
/-- The last node of a term has no parts. -/
theorem last_leaf {p : Tn → Prop} : ∀ t : Tm, Tr.wf p t → Tr.ar (tk (Tr.enc t) ((Tr.enc t).length - 1)) = 0 := by
  have happ : ∀ (xs ys : List Tn), 1 ≤ ys.length → tk (xs ++ ys) ((xs ++ ys).length - 1) = tk ys (ys.length - 1) := by
    intro xs ys h
    simp only [tk, List.getD, List.length_append]
    rw [List.getElem?_append_right (by omega), show xs.length + ys.length - 1 - xs.length = ys.length - 1 by omega]
  intro t
  induction t with
  | t0 x => intro h; exact h.1
  | t1 x a ha =>
    intro h
    have := happ [x] (Tr.enc a) (Tr.enc_pos a)
    simp only [List.singleton_append] at this
    simp only [Tr.enc]
    rw [this]
    exact ha h.2
  | t2 x a b ha hb =>
    intro h
    have := happ (x :: Tr.enc a) (Tr.enc b) (Tr.enc_pos b)
    simp only [List.cons_append] at this
    simp only [Tr.enc]
    rw [this]
    exact hb h.2.2
  | t3 x a b c ha hb hc =>
    intro h
    have := happ (x :: (Tr.enc a ++ Tr.enc b)) (Tr.enc c) (Tr.enc_pos c)
    simp only [List.cons_append, List.append_assoc] at this
    simp only [Tr.enc]
    rw [this]
    exact hc h.2.2.2
theorem rdx_ar {a b : Int} (h : rdx a b = true) : Tr.ar a ≠ 0 := by
  unfold rdx at h
  split at h
  · rename_i h2
    have : a = 2 := by simpa using h2
    subst this; decide
  · split at h
    · rename_i h4
      have : a = 4 ∨ a = 5 := by simpa using h4
      rcases this with rfl | rfl <;> decide
    · split at h
      · rename_i h8
        have : a = 8 := by simpa using h8
        subst this; decide
      · cases h
theorem tk_part {t : Tm} {j i : Nat} (hj : j < (Tr.kids t).length) (hi : i < (Tr.enc (Tr.kid t j)).length) : tk (Tr.enc t) (Tr.off t j + i) = tk (Tr.enc (Tr.kid t j)) i := by
  have h := Tr.drop_part hj
  rw [Tr.kid_eq hj] at h
  have h1 : (Tr.enc t)[Tr.off t j + i]? = (Tr.enc (Tr.kid t j))[i]? := by
    rw [← List.getElem?_drop, h, List.getElem?_append_left hi]
  simp only [tk, List.getD, h1]
/-- A redex that begins in a part lies in it. -/
theorem rdx_part {p : Tn → Prop} {t : Tm} {i j : Nat} (hw : Tr.wf p t) (hr : rdxAt (Tr.enc t) i = true) (hj : j < (Tr.kids t).length) (h1 : Tr.off t j ≤ i) (h2 : i < Tr.off t j + (Tr.enc (Tr.kid t j)).length) : rdxAt (Tr.enc (Tr.kid t j)) (i - Tr.off t j) = true := by
  unfold rdxAt at hr ⊢
  simp only [Bool.and_eq_true, decide_eq_true_eq] at hr ⊢
  obtain ⟨hr1, hr2⟩ := hr
  obtain ⟨k, rfl⟩ : ∃ k, i = Tr.off t j + k := ⟨i - Tr.off t j, by omega⟩
  rw [Nat.add_sub_cancel_left]
  have hk : k < (Tr.enc (Tr.kid t j)).length := by omega
  have hwk := Tr.kids_wf hw _ (Tr.kid_mem hj)
  have hlt : k + 1 < (Tr.enc (Tr.kid t j)).length := by
    rcases Nat.lt_or_ge (k + 1) (Tr.enc (Tr.kid t j)).length with h | h
    · exact h
    · have e : k = (Tr.enc (Tr.kid t j)).length - 1 := by omega
      have := last_leaf _ hwk
      rw [← e] at this
      rw [tk_part hj hk] at hr2
      exact absurd this (rdx_ar hr2)
  refine ⟨hlt, ?_⟩
  rw [tk_part hj hk, Nat.add_assoc, tk_part hj hlt] at hr2
  exact hr2
/-- The shape of a term that is a redex. -/
theorem rdx_shape {t : Tm} (hg : Good t) (hr : rdxAt (Tr.enc t) 0 = true) :
    (∃ x y b u, t = .t2 x (.t1 y b) u ∧ x.1 = 2 ∧ y.1 = 1) ∨ (∃ x y a b, t = .t1 x (.t2 y a b) ∧ (x.1 = 4 ∨ x.1 = 5) ∧ y.1 = 3) ∨ (∃ x y s a b, t = .t3 x (.t1 y s) a b ∧ x.1 = 8 ∧ (y.1 = 6 ∨ y.1 = 7)) := by
  unfold rdxAt at hr
  simp only [Bool.and_eq_true, decide_eq_true_eq] at hr
  obtain ⟨h1, h2⟩ := hr
  have hkinds : ∀ (a b : Int), rdx a b = true → (a = 2 ∧ b = 1) ∨ ((a = 4 ∨ a = 5) ∧ b = 3) ∨ (a = 8 ∧ (b = 6 ∨ b = 7)) := by
    intro a b h
    unfold rdx at h
    split at h
    · rename_i h0; exact .inl ⟨by simpa using h0, by simpa using h⟩
    · split at h
      · rename_i h0; exact .inr (.inl ⟨by simpa using h0, by simpa using h⟩)
      · split at h
        · rename_i h0; exact .inr (.inr ⟨by simpa using h0, by simpa using h⟩)
        · cases h
  cases t with
  | t0 x => simp [Tr.enc] at h1
  | t1 x f =>
    have hf := hd_at f
    have e1 : tk (Tr.enc (.t1 x f)) 0 = x.1 := rfl
    have e2 : tk (Tr.enc (.t1 x f)) (0 + 1) = tk (Tr.enc f) 0 := rfl
    rw [e1, e2, hf] at h2
    have ha : Tr.ar x.1 = 1 := hg.1.1
    have hgf : Good f := hg.2
    rcases hkinds _ _ h2 with ⟨a1, a2⟩ | ⟨a1, a2⟩ | ⟨a1, a2⟩
    · rw [a1] at ha; exact absurd ha (by decide)
    · cases f with
      | t0 y => have hy : Tr.ar y.1 = 0 := hgf.1; simp only [Tr.hd] at a2; rw [a2] at hy; exact absurd hy (by decide)
      | t1 y _ => have hy : Tr.ar y.1 = 1 := hgf.1.1; simp only [Tr.hd] at a2; rw [a2] at hy; exact absurd hy (by decide)
      | t2 y a b => exact .inr (.inl ⟨x, y, a, b, rfl, a1, a2⟩)
      | t3 y _ _ _ => have hy : Tr.ar y.1 = 3 := hgf.1.1; simp only [Tr.hd] at a2; rw [a2] at hy; exact absurd hy (by decide)
    · rw [a1] at ha; exact absurd ha (by decide)
  | t2 x f u =>
    have hf := hd_at f
    have e1 : tk (Tr.enc (.t2 x f u)) 0 = x.1 := rfl
    have e2 : tk (Tr.enc (.t2 x f u)) (0 + 1) = tk (Tr.enc f) 0 := by
      obtain ⟨r, hr⟩ := Tr.enc_hd f
      simp only [Tr.enc, hr]; rfl
    rw [e1, e2, hf] at h2
    have ha : Tr.ar x.1 = 2 := hg.1.1
    have hgf : Good f := hg.2.1
    rcases hkinds _ _ h2 with ⟨a1, a2⟩ | ⟨a1, a2⟩ | ⟨a1, a2⟩
    · cases f with
      | t0 y => have hy : Tr.ar y.1 = 0 := hgf.1; simp only [Tr.hd] at a2; rw [a2] at hy; exact absurd hy (by decide)
      | t1 y b => exact .inl ⟨x, y, b, u, rfl, a1, a2⟩
      | t2 y _ _ => have hy : Tr.ar y.1 = 2 := hgf.1.1; simp only [Tr.hd] at a2; rw [a2] at hy; exact absurd hy (by decide)
      | t3 y _ _ _ => have hy : Tr.ar y.1 = 3 := hgf.1.1; simp only [Tr.hd] at a2; rw [a2] at hy; exact absurd hy (by decide)
    · rcases a1 with a1 | a1 <;> rw [a1] at ha <;> exact absurd ha (by decide)
    · rw [a1] at ha; exact absurd ha (by decide)
  | t3 x f a b =>
    have hf := hd_at f
    have e1 : tk (Tr.enc (.t3 x f a b)) 0 = x.1 := rfl
    have e2 : tk (Tr.enc (.t3 x f a b)) (0 + 1) = tk (Tr.enc f) 0 := by
      obtain ⟨r, hr⟩ := Tr.enc_hd f
      simp only [Tr.enc, hr]; rfl
    rw [e1, e2, hf] at h2
    have ha : Tr.ar x.1 = 3 := hg.1.1
    have hgf : Good f := hg.2.1
    rcases hkinds _ _ h2 with ⟨a1, a2⟩ | ⟨a1, a2⟩ | ⟨a1, a2⟩
    · rw [a1] at ha; exact absurd ha (by decide)
    · rcases a1 with a1 | a1 <;> rw [a1] at ha <;> exact absurd ha (by decide)
    · cases f with
      | t0 y => have hy : Tr.ar y.1 = 0 := hgf.1; simp only [Tr.hd] at a2; rcases a2 with a2 | a2 <;> rw [a2] at hy <;> exact absurd hy (by decide)
      | t1 y s => exact .inr (.inr ⟨x, y, s, a, b, rfl, a1, a2⟩)
      | t2 y _ _ => have hy : Tr.ar y.1 = 2 := hgf.1.1; simp only [Tr.hd] at a2; rcases a2 with a2 | a2 <;> rw [a2] at hy <;> exact absurd hy (by decide)
      | t3 y _ _ _ => have hy : Tr.ar y.1 = 3 := hgf.1.1; simp only [Tr.hd] at a2; rcases a2 with a2 | a2 <;> rw [a2] at hy <;> exact absurd hy (by decide)
end Go.Proofs.YthofkdpmgjkgkaaGreat

/- Lengths and nodes of contracted terms. No program is in sight. -/
namespace Go.Proofs.YthofkdpmgjkgkaaGreat
open Go.RowKit
open Tr (Tm)

theorem wf_all {p : Tn → Prop} : ∀ t : Tm, Tr.wf p t → ∀ x ∈ Tr.enc t, p x := by
  intro t
  induction t with
  | t0 x => intro h y hy; simp [Tr.enc] at hy; subst hy; exact h.2
  | t1 x a ha =>
    intro h y hy
    simp only [Tr.enc, List.mem_cons] at hy
    rcases hy with rfl | hy
    · exact h.1.2
    · exact ha h.2 y hy
  | t2 x a b ha hb =>
    intro h y hy
    simp only [Tr.enc, List.mem_cons, List.mem_append] at hy
    rcases hy with rfl | hy | hy
    · exact h.1.2
    · exact ha h.2.1 y hy
    · exact hb h.2.2 y hy
  | t3 x a b c ha hb hc =>
    intro h y hy
    simp only [Tr.enc, List.mem_cons, List.mem_append] at hy
    rcases hy with rfl | hy | hy | hy
    · exact h.1.2
    · exact ha h.2.1 y hy
    · exact hb h.2.2.1 y hy
    · exact hc h.2.2.2 y hy
theorem good_numOk {t : Tm} (h : Good t) : NumOk (Tr.enc t) := fun i hi => by
  have h1 := wf_all t h _ (List.getElem_mem hi)
  rw [tk_lt hi] at h1
  have := tnB_num0 h1
  simp only at this
  omega

theorem putN_mem {P : Tn → Prop} (hP : ∀ k d x, P x → P (raiseN k d x)) (hD : ∀ x : Tn, P x → P (x.1, x.2.1 - 1, x.2.2)) {n : Int} {us : List Tn} (hu : ∀ y ∈ us, P y) (x : Tn) (m : Int) (hx : P x) : ∀ y ∈ putN n us x m, P y := by
  intro y hy
  unfold putN at hy
  split at hy
  · simp only [raiseL, List.mem_map] at hy
    obtain ⟨z, hz, rfl⟩ := hy
    exact hP _ _ _ (hu z hz)
  · split at hy
    · simp at hy; subst hy; exact hD _ hx
    · simp at hy; subst hy; exact hx
theorem ctr_mem {P : Tn → Prop} (hP : ∀ k d x, P x → P (raiseN k d x)) (hD : ∀ x : Tn, P x → P (x.1, x.2.1 - 1, x.2.2)) {t : Tm} {n : Int} (hg : Good t) (hr : rdxAt (Tr.enc t) 0 = true) (h : ∀ x ∈ Tr.enc t, P x) : ∀ y ∈ ctr t n, P y := by
  rcases rdx_shape hg hr with ⟨x, y, b, u, rfl, hx, hy⟩ | ⟨x, y, a, b, rfl, hx, hy⟩ | ⟨x, y, s, a, b, rfl, hx, hy⟩
  · exact Tr.mapN_mem (P := P) (fun z m hz => putN_mem hP hD (fun q hq => h q (by simp [Tr.enc, hq])) z m hz) b _ (fun q hq => h q (by simp [Tr.enc, hq]))
  · intro z hz
    rcases hx with hx | hx
    · have e : ctr (.t1 x (.t2 y a b)) n = Tr.enc a := by simp [ctr, hx, Tr.kid, Tr.kids]
      rw [e] at hz; exact h z (by simp [Tr.enc, hz])
    · have e : ctr (.t1 x (.t2 y a b)) n = Tr.enc b := by simp [ctr, hx, Tr.kid, Tr.kids]
      rw [e] at hz; exact h z (by simp [Tr.enc, hz])
  · refine Tr.mapN_mem (P := P) (fun z m hz => putN_mem hP hD (fun q hq => h q (by simp only [Tr.kid, Tr.kids, List.getD_cons_zero] at hq; simp [Tr.enc, hq])) z m hz) _ _ (fun q hq => h q ?_)
    split at hq <;> simp [Tr.enc, hq]
theorem ctr_len {t : Tm} {n : Int} {M : Nat} (hg : Good t) (hr : rdxAt (Tr.enc t) 0 = true) (hM : (Tr.enc t).length ≤ M) : (ctr t n).length ≤ (Tr.enc t).length * (M + 1) := by
  rcases rdx_shape hg hr with ⟨x, y, b, u, rfl, hx, hy⟩ | ⟨x, y, a, b, rfl, hx, hy⟩ | ⟨x, y, s, a, b, rfl, hx, hy⟩
  · have h1 := Tr.mapN_len (f := putN n (Tr.enc u)) (M := (Tr.enc u).length + 1) (by omega) (fun x m => putN_len n _ x m) b (n + 1)
    refine Nat.le_trans h1 (Nat.mul_le_mul ?_ ?_)
    · simp [Tr.enc]; omega
    · simp [Tr.enc] at hM; omega
  · have h1 : (ctr (.t1 x (.t2 y a b)) n).length ≤ (Tr.enc (.t1 x (.t2 y a b))).length := by
      rcases hx with hx | hx
      · have e : ctr (.t1 x (.t2 y a b)) n = Tr.enc a := by simp [ctr, hx, Tr.kid, Tr.kids]
        rw [e]; simp [Tr.enc]; omega
      · have e : ctr (.t1 x (.t2 y a b)) n = Tr.enc b := by simp [ctr, hx, Tr.kid, Tr.kids]
        rw [e]; simp [Tr.enc]; omega
    exact Nat.le_trans h1 (Nat.le_mul_of_pos_right _ (by omega))
  · have h1 := Tr.mapN_len (f := putN n (Tr.enc s)) (M := (Tr.enc s).length + 1) (by omega) (fun x m => putN_len n _ x m) (if (Tr.hd (.t1 y s)).1 = 6 then a else b) (n + 1)
    refine Nat.le_trans h1 (Nat.mul_le_mul ?_ ?_)
    · split <;> (simp [Tr.enc]; omega)
    · simp [Tr.enc] at hM; omega

/-- The part in which an index lies. -/
theorem rdx_kid {t : Tm} {i j : Nat} (hg : Good t) (hr : rdxAt (Tr.enc t) i = true) (hj : j < (Tr.kids t).length) (h : Tr.off t j ≤ i ∧ i < Tr.off t j + (Tr.enc (Tr.kid t j)).length) : rdxAt (Tr.enc (Tr.kid t j)) (i - Tr.off t j) = true := rdx_part hg hr hj h.1 h.2
theorem ctAt_len {M : Nat} : ∀ t : Tm, Good t → ∀ (n : Int) (i : Nat), rdxAt (Tr.enc t) i = true → (Tr.enc t).length ≤ M → (ctAt t n i).length ≤ (Tr.enc t).length * (M + 1) := by
  intro t
  refine Tr.ind (P := fun t => Good t → ∀ (n : Int) (i : Nat), rdxAt (Tr.enc t) i = true → (Tr.enc t).length ≤ M → (ctAt t n i).length ≤ (Tr.enc t).length * (M + 1)) ?_ t
  intro t ih hg n i hr hM
  by_cases hi : i = 0
  · subst hi
    rw [ctAt_zero]
    exact ctr_len hg hr hM
  rw [ctAt_kids (by omega)]
  have hL : ∀ j, j ≤ (Tr.kids t).length → (ctL t n i j).length ≤ Tr.off t j * (M + 1) := by
    intro j
    induction j with
    | zero => intro _; rw [Tr.off_zero]; simp [ctL]
    | succ j ihj =>
      intro hj
      have h1 := ihj (by omega)
      have h2 : (ctP t n i j).length ≤ (Tr.enc (Tr.kid t j)).length * (M + 1) := by
        unfold ctP
        split
        · rename_i hc
          exact ih _ (Tr.kid_mem (by omega)) (Tr.kids_wf hg _ (Tr.kid_mem (by omega))) _ _ (rdx_kid hg hr (by omega) hc) (by have := Tr.kid_small (t := t) (i := j) (by omega); omega)
        · exact Nat.le_mul_of_pos_right _ (by omega)
      rw [ctL, List.length_append, Tr.off_next (by omega), Nat.add_mul]
      omega
  refine Nat.le_trans (hL _ (Nat.le_refl _)) (Nat.mul_le_mul_right _ ?_)
  have h1 : (Tr.enc t).length = 1 + ((Tr.kids t).flatMap Tr.enc).length := by rw [Tr.enc_kids]; simp; omega
  unfold Tr.off
  rw [List.take_length]
  omega
theorem ctL_len {M : Nat} {t : Tm} {n : Int} {i : Nat} (hg : Good t) (hr : rdxAt (Tr.enc t) i = true) (hM : (Tr.enc t).length ≤ M) : ∀ j, j ≤ (Tr.kids t).length → (ctL t n i j).length ≤ Tr.off t j * (M + 1) := by
  intro j
  induction j with
  | zero => intro _; rw [Tr.off_zero]; simp [ctL]
  | succ j ihj =>
    intro hj
    have h1 := ihj (by omega)
    have h2 : (ctP t n i j).length ≤ (Tr.enc (Tr.kid t j)).length * (M + 1) := by
      unfold ctP
      split
      · rename_i hc
        exact ctAt_len _ (Tr.kids_wf hg _ (Tr.kid_mem (by omega))) _ _ (rdx_kid hg hr (by omega) hc) (by have := Tr.kid_small (t := t) (i := j) (by omega); omega)
      · exact Nat.le_mul_of_pos_right _ (by omega)
    rw [ctL, List.length_append, Tr.off_next (by omega), Nat.add_mul]
    omega
theorem ctAt_mem {P : Tn → Prop} (hP : ∀ k d x, P x → P (raiseN k d x)) (hD : ∀ x : Tn, P x → P (x.1, x.2.1 - 1, x.2.2)) : ∀ t : Tm, Good t → ∀ (n : Int) (i : Nat), rdxAt (Tr.enc t) i = true → (∀ x ∈ Tr.enc t, P x) → ∀ y ∈ ctAt t n i, P y := by
  intro t
  refine Tr.ind (P := fun t => Good t → ∀ (n : Int) (i : Nat), rdxAt (Tr.enc t) i = true → (∀ x ∈ Tr.enc t, P x) → ∀ y ∈ ctAt t n i, P y) ?_ t
  intro t ih hg n i hr h
  by_cases hi : i = 0
  · subst hi
    rw [ctAt_zero]
    exact ctr_mem hP hD hg hr h
  rw [ctAt_kids (by omega)]
  have hk : ∀ j, j < (Tr.kids t).length → ∀ x ∈ Tr.enc (Tr.kid t j), P x := by
    intro j hj x hx
    refine h x ?_
    rw [Tr.enc_kids]
    exact List.mem_cons_of_mem _ (List.mem_flatMap.2 ⟨_, Tr.kid_mem hj, hx⟩)
  have hL : ∀ j, j ≤ (Tr.kids t).length → ∀ y ∈ ctL t n i j, P y := by
    intro j
    induction j with
    | zero => intro _ y hy; simp [ctL] at hy; subst hy; exact h _ (by rw [Tr.enc_kids]; exact List.mem_cons_self)
    | succ j ihj =>
      intro hj y hy
      rw [ctL, List.mem_append] at hy
      rcases hy with hy | hy
      · exact ihj (by omega) y hy
      · unfold ctP at hy
        split at hy
        · rename_i hc
          exact ih _ (Tr.kid_mem (by omega)) (Tr.kids_wf hg _ (Tr.kid_mem (by omega))) _ _ (rdx_kid hg hr (by omega) hc) (hk j (by omega)) y hy
        · exact hk j (by omega) y hy
  exact hL _ (Nat.le_refl _)
theorem ctAt_fits {t : Tm} {n : Int} {i : Nat} (hg : Good t) (hr : rdxAt (Tr.enc t) i = true) (h : FitsT (Tr.enc t)) : FitsT (ctAt t n i) := by
  rw [fits_mem] at *
  refine ctAt_mem (P := fun x => x.2.2.size ≤ 1048576) (fun k d x hx => ?_) (fun x hx => hx) t hg n i hr h
  unfold raiseN
  split <;> exact hx
end Go.Proofs.YthofkdpmgjkgkaaGreat

/- contracted of the program. -/
namespace Go.Proofs.YthofkdpmgjkgkaaGreat
open Go.RowKit
open Tr (Tm)

/-- The call gives a slice that reads as the list. -/
def GivesR (w : World) (r : List Tn) (e : Ending) (w' : World) : Prop := ∃ v, e = .returned v ∧ Tms w' v r ∧ Grew w w'

theorem partsT_at {w : World} {v : Value} {t : Tm} (m : Nat) (h : PartsT w v t) (hk : (Tr.kids t).length = m) (h0 : 0 < m) : ∃ b o c, v = .slice (some ⟨b, o, none⟩) m c ∧ m ≤ c ∧ c ≤ 9223372036854775807 ∧
    ∀ i s, i < m → Tr.kid t i = s → ∃ b1 o1 c1, (∀ W, Grew w W → W.cell? ⟨b, o + i, none⟩ = some (.slice (some ⟨b1, o1, none⟩) (Tr.enc s).length c1)) ∧ Tms w (.slice (some ⟨b1, o1, none⟩) (Tr.enc s).length c1) (Tr.enc s) ∧ (Tr.enc s).length ≤ c1 ∧ c1 ≤ 9223372036854775807 ∧ ∀ W, Grew w W → W.cell? ⟨b1, o1, none⟩ = some (.int .i64 (Tr.hd s).1) := by
  subst hk
  rcases h with ⟨_, h⟩ | ⟨b, o, c, rfl, hc, hm, hb, hf⟩
  · rw [h] at h0; exact absurd h0 (by simp)
  · refine ⟨b, o, c, rfl, hc, hm, fun i s hi hs => ?_⟩
    subst hs
    obtain ⟨u, h1, h2⟩ := hf i hi
    obtain ⟨b1, o1, c1, rfl, hc1, hm1, _, hcl⟩ := tms_head h2
    exact ⟨b1, o1, c1, fun W hW => (hW.cell (p := ⟨b, o + i, none⟩) hb).trans h1, h2, hc1, hm1, fun W hW => (hcl W hW).1⟩

theorem contracted_c (v : Value) (t : Tm) (n : Int) (w : World) (h : Tms w v (Tr.enc t)) (hg : Good t) (hr : rdxAt (Tr.enc t) 0 = true) (hlen : (Tr.enc t).length ≤ 800) (hn0 : 0 ≤ n) (hn1 : n ≤ 900) :
    Calls Tryz.prog 110 #[v, .int .i64 n] w (GivesR w (ctr t n)) := by
  have HI := Lib.hid (inner_c v t w h hg (by omega))
  obtain ⟨b0, o0, c0, rfl, hc0, hm0, hb0, hcl0⟩ := tms_head h
  have k0 := fun W (hW : Grew w W) => (hcl0 W hW).1
  have hpos := Tr.enc_pos t
  have hrr := Grew.refl w
  rcases rdx_shape hg hr with ⟨x, y, b, u, rfl, hx, hy⟩ | ⟨x, y, a, b, rfl, hx, hy⟩ | ⟨x, y, s, a, b, rfl, hx, hy⟩
  · have hgf : Good (.t1 y b) := hg.2.1
    have hgb : Good b := hgf.2
    have hgu : Good u := hg.2.2
    have hl2 : (Tr.enc (.t1 y b)).length ≤ 800 ∧ (Tr.enc b).length ≤ 800 ∧ (Tr.enc u).length ≤ 800 := by simp [Tr.enc] at hlen ⊢; omega
    obtain ⟨hl2, hl3, hl4⟩ := hl2
    have HI2 := Lib.hid (fun v W (hv : Tms W v (Tr.enc (.t1 y b))) => inner_c v (.t1 y b) W hv hgf (by omega))
    have HP := Lib.hid (fun vb vu W (hb : Tms W vb (Tr.enc b)) (hu : Tms W vu (Tr.enc u)) => putTerm_c vb vu b (Tr.enc u) n W hb hgb (by omega) hu (by omega) (good_numOk hgu) hn0 (by omega))
    have hct : ctr (.t2 x (.t1 y b) u) n = Tr.mapN (putN n (Tr.enc u)) b (n + 1) := rfl
    rw [hct]
    have ek : (Tr.hd (.t2 x (.t1 y b) u)).1 = 2 := hx
    rw [ek] at k0
    generalize (Tr.enc (.t2 x (.t1 y b) u)).length = ll at *
    clear h hcl0 hr hct ek
    generalize Tr.mapN (putN n (Tr.enc u)) b (n + 1) = R at *
    go_enter Tryz.func110, Tryz.ntmps110
    go_wp2_with fail
    refine HI.out.mono ?_
    rintro e w1 ⟨p, rfl, hp, hg1⟩
    obtain ⟨b1, o1, c1, rfl, hc1, hm1, hcl1⟩ := partsT_at 2 hp rfl (by decide)
    clear hp
    obtain ⟨b2, o2, c2, e2, t2, hc2, hm2, q2⟩ := hcl1 0 (.t1 y b) (by decide) rfl
    obtain ⟨b3, o3, c3, e3, t3, hc3, hm3, q3⟩ := hcl1 1 u (by decide) rfl
    clear hcl1
    have HT2 := Lib.hid t2
    have HT3 := Lib.hid t3
    clear t2 t3
    simp only [Nat.add_zero] at e2
    clear q2 q3
    have r1 := Grew.refl w1
    go_wp2_with fail
    refine (HI2.out _ _ HT2.out).mono ?_
    rintro e w2 ⟨p2, rfl, hp2, hg2⟩
    obtain ⟨b4, o4, c4, rfl, hc4, hm4, hcl4⟩ := partsT_at 1 hp2 rfl (by decide)
    clear hp2
    obtain ⟨b5, o5, c5, e5, t5, hc5, hm5, q5⟩ := hcl4 0 b (by decide) rfl
    clear hcl4
    have HT5 := Lib.hid t5
    clear t5
    simp only [Nat.add_zero] at e5
    clear q5
    have r2 := Grew.refl w2
    have gw := hg1.trans hg2
    have d2 := r2.drew
    have f3 := fun W (hW : Grew w2 W) => e3 W (hg2.trans hW)
    clear e2 e3
    have HT3g := Lib.hid (HT3.out.grew (hg2.trans d2))
    have HT5g := Lib.hid (HT5.out.grew d2)
    go_wp2_with fail
    go_region_held3 (fun w' => Grew w2 w') (with_reducible assumption)
      (first | (go_at_call 55; refine (HP.out _ _ _ HT5g.out HT3g.out).mono ?_; rintro e w3 ⟨q, rfl, hq, hg3⟩; have hk3 := d2.trans hg3))
    go_wp2_with fail
    go_ret
    exact ⟨_, rfl, hq.tms, gw.trans hk3⟩
  · have hgf : Good (.t2 y a b) := hg.2
    have hl2 : (Tr.enc (.t2 y a b)).length ≤ 800 := by simp [Tr.enc] at hlen ⊢; omega
    have HI2 := Lib.hid (fun v W (hv : Tms W v (Tr.enc (.t2 y a b))) => inner_c v (.t2 y a b) W hv hgf (by omega))
    rcases hx with hx | hx
    · have hct : ctr (.t1 x (.t2 y a b)) n = Tr.enc a := by simp [ctr, hx, Tr.kid, Tr.kids]
      rw [hct]
      have ek : (Tr.hd (.t1 x (.t2 y a b))).1 = 4 := hx
      rw [ek] at k0
      generalize (Tr.enc (.t1 x (.t2 y a b))).length = ll at *
      clear h hcl0 hr hct ek
      go_enter Tryz.func110, Tryz.ntmps110
      go_wp2_with fail
      refine HI.out.mono ?_
      rintro e w1 ⟨p, rfl, hp, hg1⟩
      obtain ⟨b1, o1, c1, rfl, hc1, hm1, hcl1⟩ := partsT_at 1 hp rfl (by decide)
      clear hp
      obtain ⟨b2, o2, c2, e2, t2, hc2, hm2, q2⟩ := hcl1 0 (.t2 y a b) (by decide) rfl
      clear hcl1
      have HT2 := Lib.hid t2
      clear t2
      simp only [Nat.add_zero] at e2
      clear q2
      have r1 := Grew.refl w1
      go_wp2_with fail
      refine (HI2.out _ _ HT2.out).mono ?_
      rintro e w2 ⟨p2, rfl, hp2, hg2⟩
      obtain ⟨b3, o3, c3, rfl, hc3, hm3, hcl3⟩ := partsT_at 2 hp2 rfl (by decide)
      clear hp2
      obtain ⟨b4, o4, c4, e4, t4, hc4, hm4, q4⟩ := hcl3 0 a (by decide) rfl
      obtain ⟨b5, o5, c5, e5, t5, hc5, hm5, q5⟩ := hcl3 1 b (by decide) rfl
      clear hcl3
      have HT4 := Lib.hid t4
      have HT5 := Lib.hid t5
      clear t4 t5
      simp only [Nat.add_zero] at e4
      clear q4 q5
      have r2 := Grew.refl w2
      have gw := hg1.trans hg2
      go_wp2_with fail
      go_ret
      exact ⟨_, rfl, HT4.out, gw⟩
    · have hct : ctr (.t1 x (.t2 y a b)) n = Tr.enc b := by simp [ctr, hx, Tr.kid, Tr.kids]
      rw [hct]
      have ek : (Tr.hd (.t1 x (.t2 y a b))).1 = 5 := hx
      rw [ek] at k0
      generalize (Tr.enc (.t1 x (.t2 y a b))).length = ll at *
      clear h hcl0 hr hct ek
      go_enter Tryz.func110, Tryz.ntmps110
      go_wp2_with fail
      refine HI.out.mono ?_
      rintro e w1 ⟨p, rfl, hp, hg1⟩
      obtain ⟨b1, o1, c1, rfl, hc1, hm1, hcl1⟩ := partsT_at 1 hp rfl (by decide)
      clear hp
      obtain ⟨b2, o2, c2, e2, t2, hc2, hm2, q2⟩ := hcl1 0 (.t2 y a b) (by decide) rfl
      clear hcl1
      have HT2 := Lib.hid t2
      clear t2
      simp only [Nat.add_zero] at e2
      clear q2
      have r1 := Grew.refl w1
      go_wp2_with fail
      refine (HI2.out _ _ HT2.out).mono ?_
      rintro e w2 ⟨p2, rfl, hp2, hg2⟩
      obtain ⟨b3, o3, c3, rfl, hc3, hm3, hcl3⟩ := partsT_at 2 hp2 rfl (by decide)
      clear hp2
      obtain ⟨b4, o4, c4, e4, t4, hc4, hm4, q4⟩ := hcl3 0 a (by decide) rfl
      obtain ⟨b5, o5, c5, e5, t5, hc5, hm5, q5⟩ := hcl3 1 b (by decide) rfl
      clear hcl3
      have HT4 := Lib.hid t4
      have HT5 := Lib.hid t5
      clear t4 t5
      simp only [Nat.add_zero] at e4
      clear q4 q5
      have r2 := Grew.refl w2
      have gw := hg1.trans hg2
      go_wp2_with fail
      go_ret
      exact ⟨_, rfl, HT5.out, gw⟩
  · have hgf : Good (.t1 y s) := hg.2.1
    have hgs : Good s := hgf.2
    have hga : Good a := hg.2.2.1
    have hgb : Good b := hg.2.2.2
    have hl2 : (Tr.enc (.t1 y s)).length ≤ 800 ∧ (Tr.enc s).length ≤ 800 ∧ (Tr.enc a).length ≤ 800 ∧ (Tr.enc b).length ≤ 800 := by simp [Tr.enc] at hlen ⊢; omega
    obtain ⟨hl2, hl3, hl4, hl5⟩ := hl2
    have HI2 := Lib.hid (fun v W (hv : Tms W v (Tr.enc (.t1 y s))) => inner_c v (.t1 y s) W hv hgf (by omega))
    have ek : (Tr.hd (.t3 x (.t1 y s) a b)).1 = 8 := hx
    rw [ek] at k0
    rcases hy with hy | hy
    · have HP := Lib.hid (fun vb vu W (hb : Tms W vb (Tr.enc a)) (hu : Tms W vu (Tr.enc s)) => putTerm_c vb vu a (Tr.enc s) n W hb hga (by omega) hu (by omega) (good_numOk hgs) hn0 (by omega))
      have hct : ctr (.t3 x (.t1 y s) a b) n = Tr.mapN (putN n (Tr.enc s)) a (n + 1) := by simp [ctr, hy, Tr.kid, Tr.kids, Tr.hd]
      rw [hct]
      have ey : (Tr.hd (.t1 y s)).1 = 6 := hy
      generalize (Tr.enc (.t3 x (.t1 y s) a b)).length = ll at *
      clear h hcl0 hr hct ek
      generalize Tr.mapN (putN n (Tr.enc s)) a (n + 1) = R at *
      go_enter Tryz.func110, Tryz.ntmps110
      go_wp2_with fail
      refine HI.out.mono ?_
      rintro e w1 ⟨p, rfl, hp, hg1⟩
      obtain ⟨b1, o1, c1, rfl, hc1, hm1, hcl1⟩ := partsT_at 3 hp rfl (by decide)
      clear hp
      obtain ⟨b2, o2, c2, e2, t2, hc2, hm2, q2⟩ := hcl1 0 (.t1 y s) (by decide) rfl
      obtain ⟨b3, o3, c3, e3, t3, hc3, hm3, q3⟩ := hcl1 1 a (by decide) rfl
      obtain ⟨b4, o4, c4, e4, t4, hc4, hm4, q4⟩ := hcl1 2 b (by decide) rfl
      clear hcl1
      have HT2 := Lib.hid t2
      have HT3 := Lib.hid t3
      have HT4 := Lib.hid t4
      clear t2 t3 t4
      simp only [Nat.add_zero] at e2
      clear q3 q4
      rw [ey] at q2
      have r1 := Grew.refl w1
      go_wp2_with fail
      refine (HI2.out _ _ HT2.out).mono ?_
      rintro e w2 ⟨p2, rfl, hp2, hg2⟩
      obtain ⟨b5, o5, c5, rfl, hc5, hm5, hcl5⟩ := partsT_at 1 hp2 rfl (by decide)
      clear hp2
      obtain ⟨b6, o6, c6, e6, t6, hc6, hm6, q6⟩ := hcl5 0 s (by decide) rfl
      clear hcl5
      have HT6 := Lib.hid t6
      clear t6
      simp only [Nat.add_zero] at e6
      clear q6
      have r2 := Grew.refl w2
      have gw := hg1.trans hg2
      have d2 := r2.drew
      have g0 := fun W (hW : Grew w2 W) => k0 W (gw.trans hW)
      have f2 := fun W (hW : Grew w2 W) => e2 W (hg2.trans hW)
      have f3 := fun W (hW : Grew w2 W) => e3 W (hg2.trans hW)
      have f4 := fun W (hW : Grew w2 W) => e4 W (hg2.trans hW)
      have p2 := fun W (hW : Grew w2 W) => q2 W (hg2.trans hW)
      clear e2 e3 e4 q2 k0
      have HTg := Lib.hid (HT3.out.grew (hg2.trans d2))
      have hz : 0 < (Tr.enc (.t1 y s)).length := Tr.enc_pos _
      have hz2 : (0 : Int) < ((Tr.enc (.t1 y s)).length : Int) := by omega
      have s1 : IntKind.i64.wrap 7 = 7 := by decide
      have s2 : IntKind.i64.wrap 1 = 1 := by decide
      have HT6g := Lib.hid (HT6.out.grew d2)
      go_wp2_with fail
      go_region_held3 (fun w' => Grew w2 w') (with_reducible assumption)
        (first | (go_at_call 55; refine (HP.out _ _ _ HTg.out HT6g.out).mono ?_; rintro e w3 ⟨q, rfl, hq, hg3⟩; have hk3 := d2.trans hg3))
      go_wp2_with fail
      go_ret
      exact ⟨_, rfl, hq.tms, gw.trans hk3⟩
    · have HP := Lib.hid (fun vb vu W (hb : Tms W vb (Tr.enc b)) (hu : Tms W vu (Tr.enc s)) => putTerm_c vb vu b (Tr.enc s) n W hb hgb (by omega) hu (by omega) (good_numOk hgs) hn0 (by omega))
      have hct : ctr (.t3 x (.t1 y s) a b) n = Tr.mapN (putN n (Tr.enc s)) b (n + 1) := by simp [ctr, hy, Tr.kid, Tr.kids, Tr.hd]
      rw [hct]
      have ey : (Tr.hd (.t1 y s)).1 = 7 := hy
      generalize (Tr.enc (.t3 x (.t1 y s) a b)).length = ll at *
      clear h hcl0 hr hct ek
      generalize Tr.mapN (putN n (Tr.enc s)) b (n + 1) = R at *
      go_enter Tryz.func110, Tryz.ntmps110
      go_wp2_with fail
      refine HI.out.mono ?_
      rintro e w1 ⟨p, rfl, hp, hg1⟩
      obtain ⟨b1, o1, c1, rfl, hc1, hm1, hcl1⟩ := partsT_at 3 hp rfl (by decide)
      clear hp
      obtain ⟨b2, o2, c2, e2, t2, hc2, hm2, q2⟩ := hcl1 0 (.t1 y s) (by decide) rfl
      obtain ⟨b3, o3, c3, e3, t3, hc3, hm3, q3⟩ := hcl1 1 a (by decide) rfl
      obtain ⟨b4, o4, c4, e4, t4, hc4, hm4, q4⟩ := hcl1 2 b (by decide) rfl
      clear hcl1
      have HT2 := Lib.hid t2
      have HT3 := Lib.hid t3
      have HT4 := Lib.hid t4
      clear t2 t3 t4
      simp only [Nat.add_zero] at e2
      clear q3 q4
      rw [ey] at q2
      have r1 := Grew.refl w1
      go_wp2_with fail
      refine (HI2.out _ _ HT2.out).mono ?_
      rintro e w2 ⟨p2, rfl, hp2, hg2⟩
      obtain ⟨b5, o5, c5, rfl, hc5, hm5, hcl5⟩ := partsT_at 1 hp2 rfl (by decide)
      clear hp2
      obtain ⟨b6, o6, c6, e6, t6, hc6, hm6, q6⟩ := hcl5 0 s (by decide) rfl
      clear hcl5
      have HT6 := Lib.hid t6
      clear t6
      simp only [Nat.add_zero] at e6
      clear q6
      have r2 := Grew.refl w2
      have gw := hg1.trans hg2
      have d2 := r2.drew
      have g0 := fun W (hW : Grew w2 W) => k0 W (gw.trans hW)
      have f2 := fun W (hW : Grew w2 W) => e2 W (hg2.trans hW)
      have f3 := fun W (hW : Grew w2 W) => e3 W (hg2.trans hW)
      have f4 := fun W (hW : Grew w2 W) => e4 W (hg2.trans hW)
      have p2 := fun W (hW : Grew w2 W) => q2 W (hg2.trans hW)
      clear e2 e3 e4 q2 k0
      have HTg := Lib.hid (HT4.out.grew (hg2.trans d2))
      have hz : 0 < (Tr.enc (.t1 y s)).length := Tr.enc_pos _
      have hz2 : (0 : Int) < ((Tr.enc (.t1 y s)).length : Int) := by omega
      have s1 : IntKind.i64.wrap 8 = 8 := by decide
      have s2 : IntKind.i64.wrap 2 = 2 := by decide
      have HT6g := Lib.hid (HT6.out.grew d2)
      go_wp2_with fail
      go_region_held3 (fun w' => Grew w2 w') (with_reducible assumption)
        (first | (go_at_call 55; refine (HP.out _ _ _ HTg.out HT6g.out).mono ?_; rintro e w3 ⟨q, rfl, hq, hg3⟩; have hk3 := d2.trans hg3))
      go_wp2_with fail
      go_ret
      exact ⟨_, rfl, hq.tms, gw.trans hk3⟩
end Go.Proofs.YthofkdpmgjkgkaaGreat

/- l26Contract of the reference. -/
namespace Go.Proofs.YthofkdpmgjkgkaaGreat
open Go.RowKit
open Tr (Tm)

theorem l26Contract_c (v : Value) (t : Tm) (n : Int) (w : World) (h : Tms w v (Tr.enc t)) (hg : Good t) (hr : rdxAt (Tr.enc t) 0 = true) (hlen : (Tr.enc t).length ≤ 800) (hn0 : 0 ≤ n) (hn1 : n ≤ 900) :
    Calls Tryz.prog 109 #[v, .int .i64 n] w (GivesR w (ctr t n)) := by
  have HF := Lib.hid (fun k W (hW : Grew w W) (hk : k < (Tr.kids t).length) => l26Part_c v t k W (h.grew hW) hg (by omega) hk)
  obtain ⟨b0, o0, c0, rfl, hc0, hm0, hb0, hcl0⟩ := tms_head h
  have k0 := fun W (hW : Grew w W) => (hcl0 W hW).1
  have hpos := Tr.enc_pos t
  have hrr := Grew.refl w
  rcases rdx_shape hg hr with ⟨x, y, b, u, rfl, hx, hy⟩ | ⟨x, y, a, b, rfl, hx, hy⟩ | ⟨x, y, s, a, b, rfl, hx, hy⟩
  · have hgf : Good (.t1 y b) := hg.2.1
    have hgb : Good b := hgf.2
    have hgu : Good u := hg.2.2
    have hl2 : (Tr.enc b).length ≤ 800 ∧ (Tr.enc u).length ≤ 800 := by simp [Tr.enc] at hlen ⊢; omega
    obtain ⟨hl3, hl4⟩ := hl2
    have HP0 := fun vb vu W (hb : Tms W vb (Tr.enc b)) (hu : Tms W vu (Tr.enc u)) => l26Put_c n (Tr.enc u) (by omega) (good_numOk hgu) hn0 (by omega) b hgb vb vu 0 W hb (by omega) hu (by omega) (by omega)
    simp only [Int.add_zero] at HP0
    have HP := Lib.hid HP0
    have HF0 := Lib.hid (fun W (hW : Grew w W) => HF.out 0 W hW (by decide : 0 < 2))
    have HF1 := Lib.hid (fun W (hW : Grew w W) => HF.out 1 W hW (by decide : 1 < 2))
    rw [show Tr.kid (.t2 x (.t1 y b) u) 0 = .t1 y b from rfl] at HF0
    rw [show Tr.kid (.t2 x (.t1 y b) u) 1 = u from rfl] at HF1
    have hct : ctr (.t2 x (.t1 y b) u) n = Tr.mapN (putN n (Tr.enc u)) b (n + 1) := rfl
    rw [hct]
    have ek : (Tr.hd (.t2 x (.t1 y b) u)).1 = 2 := hx
    rw [ek] at k0
    generalize (Tr.enc (.t2 x (.t1 y b) u)).length = ll at *
    clear h hcl0 hr hct ek HP0 HF
    generalize Tr.mapN (putN n (Tr.enc u)) b (n + 1) = R at *
    go_enter Tryz.func109, Tryz.ntmps109
    go_wp2_with fail
    refine (HF0.out _ hrr).mono ?_
    rintro e w1 ⟨fv, rfl, hf, hg1⟩
    obtain ⟨b1, o1, c1, rfl, hc1, hm1, hb1, hcl1⟩ := tms_head hf
    have hsub := sub_one (x := y) (a := b) (by simpa [Tr.enc] using hf) (by simpa [Tr.enc] using hc1) hm1
    have hlc : (Tr.enc (.t1 y b)).length = (Tr.enc b).length + 1 := by simp [Tr.enc]
    rw [hlc] at hc1 ⊢
    have HS := Lib.hid hsub
    have q1 := fun W (hW : Grew w1 W) => (hcl1 W hW).1
    change ∀ W, Grew w1 W → W.cell? ⟨b1, o1, none⟩ = some (.int .i64 y.1) at q1
    clear hsub hcl1 hf hlc
    have hc1n : ¬ c1 = 1 := by have := Tr.enc_pos b; omega
    have hs0 := Tr.enc_pos b
    have r1 := Grew.refl w1
    have d1 := r1.drew
    have i1 : (1 : Int) ≤ ((Tr.enc b).length : Int) + 1 := by omega
    have i2 : ((Tr.enc b).length : Int) + 1 ≤ (c1 : Int) := by omega
    have i3 : (0 : Int) ≤ ((Tr.enc b).length : Int) := by omega
    have g0 := fun W (hW : Grew w1 W) => k0 W (hg1.trans hW)
    go_wp2_with fail
    go_region_held3 (fun w' => Grew w1 w') (with_reducible assumption)
      (first
        | (go_at_call 85; refine (HF1.out _ (hg1.trans d1)).mono ?_; rintro e w2 ⟨uv, rfl, hu, hg2⟩; have hk2 := d1.trans hg2)
        | (go_at_call 49; refine (HP.out _ _ _ (HS.out.grew (d1.trans hg2)) (hu)).mono ?_; rintro e w3 ⟨q, rfl, hq, hg3⟩; have hk3 := (d1.trans hg2).trans hg3))
    go_wp2_with fail
    go_ret
    exact ⟨_, rfl, hq.tms, hg1.trans hk3⟩
  · have hgf : Good (.t2 y a b) := hg.2
    have hl2 : (Tr.enc (.t2 y a b)).length ≤ 800 := by simp [Tr.enc] at hlen ⊢; omega
    have HF0 := Lib.hid (fun W (hW : Grew w W) => HF.out 0 W hW (by decide : 0 < 1))
    rw [show Tr.kid (.t1 x (.t2 y a b)) 0 = .t2 y a b from rfl] at HF0
    have HG0 := Lib.hid (fun v W (hv : Tms W v (Tr.enc (.t2 y a b))) => l26Part_c v (.t2 y a b) 0 W hv hgf (by omega) (by decide : 0 < 2))
    have HG1 := Lib.hid (fun v W (hv : Tms W v (Tr.enc (.t2 y a b))) => l26Part_c v (.t2 y a b) 1 W hv hgf (by omega) (by decide : 1 < 2))
    rw [show Tr.kid (.t2 y a b) 0 = a from rfl] at HG0
    rw [show Tr.kid (.t2 y a b) 1 = b from rfl] at HG1
    rcases hx with hx | hx
    · have hct : ctr (.t1 x (.t2 y a b)) n = Tr.enc a := by simp [ctr, hx, Tr.kid, Tr.kids]
      rw [hct]
      have ek : (Tr.hd (.t1 x (.t2 y a b))).1 = 4 := hx
      rw [ek] at k0
      generalize (Tr.enc (.t1 x (.t2 y a b))).length = ll at *
      clear h hcl0 hr hct ek HF
      go_enter Tryz.func109, Tryz.ntmps109
      go_wp2_with fail
      refine (HF0.out _ hrr).mono ?_
      rintro e w1 ⟨fv, rfl, hf, hg1⟩
      have g0 := fun W (hW : Grew w1 W) => k0 W (hg1.trans hW)
      have r1 := Grew.refl w1
      have HF2 := Lib.hid hf
      obtain ⟨A1, c1, rfl⟩ := tms_slice hf
      clear hf
      go_wp2_with fail
      refine (HG0.out _ _ HF2.out).mono ?_
      rintro e w2 ⟨q, rfl, hq, hg2⟩
      go_wp2_with fail
      go_ret
      exact ⟨_, rfl, hq, hg1.trans hg2⟩
    · have hct : ctr (.t1 x (.t2 y a b)) n = Tr.enc b := by simp [ctr, hx, Tr.kid, Tr.kids]
      rw [hct]
      have ek : (Tr.hd (.t1 x (.t2 y a b))).1 = 5 := hx
      rw [ek] at k0
      generalize (Tr.enc (.t1 x (.t2 y a b))).length = ll at *
      clear h hcl0 hr hct ek HF
      go_enter Tryz.func109, Tryz.ntmps109
      go_wp2_with fail
      refine (HF0.out _ hrr).mono ?_
      rintro e w1 ⟨fv, rfl, hf, hg1⟩
      have g0 := fun W (hW : Grew w1 W) => k0 W (hg1.trans hW)
      have r1 := Grew.refl w1
      have HF2 := Lib.hid hf
      obtain ⟨A1, c1, rfl⟩ := tms_slice hf
      clear hf
      go_wp2_with fail
      refine (HG1.out _ _ HF2.out).mono ?_
      rintro e w2 ⟨q, rfl, hq, hg2⟩
      go_wp2_with fail
      go_ret
      exact ⟨_, rfl, hq, hg1.trans hg2⟩
  · have hgf : Good (.t1 y s) := hg.2.1
    have hgs : Good s := hgf.2
    have hga : Good a := hg.2.2.1
    have hgb : Good b := hg.2.2.2
    have hl2 : (Tr.enc s).length ≤ 800 ∧ (Tr.enc a).length ≤ 800 ∧ (Tr.enc b).length ≤ 800 := by simp [Tr.enc] at hlen ⊢; omega
    obtain ⟨hl3, hl4, hl5⟩ := hl2
    have HF0 := Lib.hid (fun W (hW : Grew w W) => HF.out 0 W hW (by decide : 0 < 3))
    rw [show Tr.kid (.t3 x (.t1 y s) a b) 0 = .t1 y s from rfl] at HF0
    have HF1 := Lib.hid (fun W (hW : Grew w W) => HF.out 1 W hW (by decide : 1 < 3))
    rw [show Tr.kid (.t3 x (.t1 y s) a b) 1 = a from rfl] at HF1
    have HF2 := Lib.hid (fun W (hW : Grew w W) => HF.out 2 W hW (by decide : 2 < 3))
    rw [show Tr.kid (.t3 x (.t1 y s) a b) 2 = b from rfl] at HF2
    have ek : (Tr.hd (.t3 x (.t1 y s) a b)).1 = 8 := hx
    rw [ek] at k0
    rcases hy with hy | hy
    · have HP0 := fun vb vu W (hb : Tms W vb (Tr.enc a)) (hu : Tms W vu (Tr.enc s)) => l26Put_c n (Tr.enc s) (by omega) (good_numOk hgs) hn0 (by omega) a hga vb vu 0 W hb (by omega) hu (by omega) (by omega)
      simp only [Int.add_zero] at HP0
      have HP := Lib.hid HP0
      have hct : ctr (.t3 x (.t1 y s) a b) n = Tr.mapN (putN n (Tr.enc s)) a (n + 1) := by simp [ctr, hy, Tr.kid, Tr.kids, Tr.hd]
      rw [hct]
      generalize (Tr.enc (.t3 x (.t1 y s) a b)).length = ll at *
      clear h hcl0 hr hct ek HP0 HF
      generalize Tr.mapN (putN n (Tr.enc s)) a (n + 1) = R at *
      go_enter Tryz.func109, Tryz.ntmps109
      go_wp2_with fail
      refine (HF0.out _ hrr).mono ?_
      rintro e w1 ⟨fv, rfl, hf, hg1⟩
      obtain ⟨b1, o1, c1, rfl, hc1, hm1, hb1, hcl1⟩ := tms_head hf
      have hsub := sub_one (x := y) (a := s) (by simpa [Tr.enc] using hf) (by simpa [Tr.enc] using hc1) hm1
      have hlc : (Tr.enc (.t1 y s)).length = (Tr.enc s).length + 1 := by simp [Tr.enc]
      rw [hlc] at hc1 ⊢
      have HS := Lib.hid hsub
      have q1 := fun W (hW : Grew w1 W) => (hcl1 W hW).1
      change ∀ W, Grew w1 W → W.cell? ⟨b1, o1, none⟩ = some (.int .i64 y.1) at q1
      clear hsub hcl1 hf hlc
      have hc1n : ¬ c1 = 1 := by have := Tr.enc_pos s; omega
      have hs0 := Tr.enc_pos s
      have r1 := Grew.refl w1
      have d1 := r1.drew
      rw [hy] at q1
      have i1 : (1 : Int) ≤ ((Tr.enc s).length : Int) + 1 := by omega
      have i2 : ((Tr.enc s).length : Int) + 1 ≤ (c1 : Int) := by omega
      have i3 : (0 : Int) ≤ ((Tr.enc s).length : Int) := by omega
      have g0 := fun W (hW : Grew w1 W) => k0 W (hg1.trans hW)
      go_wp2_with fail
      go_region_held3 (fun w' => Grew w1 w') (with_reducible assumption)
        (first
          | (go_at_call 85; refine (HF1.out _ (hg1.trans d1)).mono ?_; rintro e w2 ⟨uv, rfl, hu, hg2⟩; have hk2 := d1.trans hg2)
          | (go_at_call 49; refine (HP.out _ _ _ (hu) (HS.out.grew (d1.trans hg2))).mono ?_; rintro e w3 ⟨q, rfl, hq, hg3⟩; have hk3 := (d1.trans hg2).trans hg3))
      go_wp2_with fail
      go_ret
      exact ⟨_, rfl, hq.tms, hg1.trans hk3⟩
    · have HP0 := fun vb vu W (hb : Tms W vb (Tr.enc b)) (hu : Tms W vu (Tr.enc s)) => l26Put_c n (Tr.enc s) (by omega) (good_numOk hgs) hn0 (by omega) b hgb vb vu 0 W hb (by omega) hu (by omega) (by omega)
      simp only [Int.add_zero] at HP0
      have HP := Lib.hid HP0
      have hct : ctr (.t3 x (.t1 y s) a b) n = Tr.mapN (putN n (Tr.enc s)) b (n + 1) := by simp [ctr, hy, Tr.kid, Tr.kids, Tr.hd]
      rw [hct]
      generalize (Tr.enc (.t3 x (.t1 y s) a b)).length = ll at *
      clear h hcl0 hr hct ek HP0 HF
      generalize Tr.mapN (putN n (Tr.enc s)) b (n + 1) = R at *
      go_enter Tryz.func109, Tryz.ntmps109
      go_wp2_with fail
      refine (HF0.out _ hrr).mono ?_
      rintro e w1 ⟨fv, rfl, hf, hg1⟩
      obtain ⟨b1, o1, c1, rfl, hc1, hm1, hb1, hcl1⟩ := tms_head hf
      have hsub := sub_one (x := y) (a := s) (by simpa [Tr.enc] using hf) (by simpa [Tr.enc] using hc1) hm1
      have hlc : (Tr.enc (.t1 y s)).length = (Tr.enc s).length + 1 := by simp [Tr.enc]
      rw [hlc] at hc1 ⊢
      have HS := Lib.hid hsub
      have q1 := fun W (hW : Grew w1 W) => (hcl1 W hW).1
      change ∀ W, Grew w1 W → W.cell? ⟨b1, o1, none⟩ = some (.int .i64 y.1) at q1
      clear hsub hcl1 hf hlc
      have hc1n : ¬ c1 = 1 := by have := Tr.enc_pos s; omega
      have hs0 := Tr.enc_pos s
      have r1 := Grew.refl w1
      have d1 := r1.drew
      rw [hy] at q1
      have i1 : (1 : Int) ≤ ((Tr.enc s).length : Int) + 1 := by omega
      have i2 : ((Tr.enc s).length : Int) + 1 ≤ (c1 : Int) := by omega
      have i3 : (0 : Int) ≤ ((Tr.enc s).length : Int) := by omega
      have g0 := fun W (hW : Grew w1 W) => k0 W (hg1.trans hW)
      go_wp2_with fail
      go_region_held3 (fun w' => Grew w1 w') (with_reducible assumption)
        (first
          | (go_at_call 85; refine (HF2.out _ (hg1.trans d1)).mono ?_; rintro e w2 ⟨uv, rfl, hu, hg2⟩; have hk2 := d1.trans hg2)
          | (go_at_call 49; refine (HP.out _ _ _ (hu) (HS.out.grew (d1.trans hg2))).mono ?_; rintro e w3 ⟨q, rfl, hq, hg3⟩; have hk3 := (d1.trans hg2).trans hg3))
      go_wp2_with fail
      go_ret
      exact ⟨_, rfl, hq.tms, hg1.trans hk3⟩
end Go.Proofs.YthofkdpmgjkgkaaGreat

/- contractAt of the program. -/
namespace Go.Proofs.YthofkdpmgjkgkaaGreat
open Go.RowKit
open Tr (Tm)

theorem rdxAt_lt {xs : List Tn} {i : Nat} (h : rdxAt xs i = true) : i + 1 < xs.length := by
  unfold rdxAt at h
  simp only [Bool.and_eq_true, decide_eq_true_eq] at h
  exact h.1

set_option maxHeartbeats 800000 in
theorem contractAt_c : ∀ t : Tm, Good t → ∀ (v : Value) (n : Int) (i : Nat) (w : World), Tms w v (Tr.enc t) → rdxAt (Tr.enc t) i = true → (Tr.enc t).length ≤ 60 → 0 ≤ n → n + (Tr.enc t).length ≤ 800 →
    Calls Tryz.prog 67 #[v, .int .i64 n, .int .i64 i] w (GivesR w (ctAt t n i)) := by
  intro t
  refine Tr.ind (P := fun t => Good t → ∀ (v : Value) (n : Int) (i : Nat) (w : World), Tms w v (Tr.enc t) → rdxAt (Tr.enc t) i = true → (Tr.enc t).length ≤ 60 → 0 ≤ n → n + (Tr.enc t).length ≤ 800 →
    Calls Tryz.prog 67 #[v, .int .i64 n, .int .i64 i] w (GivesR w (ctAt t n i))) ?_ t
  intro t ih hg v n i w h hr hlen hn0 hn1
  by_cases hi : i = 0
  · subst hi
    rw [ctAt_zero]
    have HC := Lib.hid (contracted_c v t n w h hg hr (by omega) hn0 (by omega))
    obtain ⟨A, c, rfl⟩ := tms_slice h
    clear h hr hg ih
    generalize ctr t n = R at *
    generalize (Tr.enc t).length = nn at *
    go_enter Tryz.func67, Tryz.ntmps67
    go_wp2_with fail
    refine HC.out.mono ?_
    rintro e w1 ⟨u, rfl, ho, hg1⟩
    go_wp2_with fail
    go_ret
    exact ⟨_, rfl, ho, hg1⟩
  · have hir := rdxAt_lt hr
    obtain ⟨b, o, c, rfl, hc, hm, hb, hcl⟩ := tms_head h
    have hpos := Tr.enc_pos t
    obtain ⟨k1, k2, k3⟩ := hcl _ (Grew.refl w)
    rw [ctAt_kids (by omega)]
    have hk0 : 0 < (Tr.kids t).length := by
      rcases Nat.eq_zero_or_pos (Tr.kids t).length with h0 | h0
      · have h1 := List.eq_nil_of_length_eq_zero h0
        have h2 : (Tr.enc t).length = 1 := by rw [Tr.enc_kids, h1]; rfl
        omega
      · exact h0
    have hkl := Tr.kids_len hg
    have har := Tr.ar_le (Tr.hd t).1
    have HI := Lib.hid (fun W (hW : Grew w W) => inner_o _ t w W h hW hg (by omega))
    have HK := Lib.hid (fun W (hW : Grew w W) => (hcl W hW).1)
    have HLN := Lib.hid (fun j hj => Nat.le_trans (ctL_len (n := n) (M := 60) hg hr hlen j hj) (Nat.mul_le_mul_right 61 (show Tr.off t j ≤ 61 from by
      rcases Nat.lt_or_ge j (Tr.kids t).length with hh | hh
      · have := Tr.off_end hh; omega
      · have e : Tr.off t j = Tr.off t (Tr.kids t).length := by unfold Tr.off; rw [List.take_of_length_le hh, List.take_length]
        rw [e]
        have := Tr.off_end (t := t) (i := (Tr.kids t).length - 1) (by omega)
        have e2 := Tr.off_next (t := t) (i := (Tr.kids t).length - 1) (by omega)
        rw [show (Tr.kids t).length - 1 + 1 = (Tr.kids t).length by omega] at e2
        omega)))
    have HIH := Lib.hid (fun j (hj : j < (Tr.kids t).length) (hc : Tr.off t j ≤ i ∧ i < Tr.off t j + (Tr.enc (Tr.kid t j)).length) u d W (hW : Grew w W) (hd0 : 0 ≤ d) (hd1 : d ≤ 1) hu => ih _ (Tr.kid_mem hj) (Tr.kids_wf hg _ (Tr.kid_mem hj)) u (n + d) (i - Tr.off t j) W hu (rdx_kid hg hr hj hc) (by have := Tr.kid_small hj; omega) (by omega) (by have := Tr.kid_small hj; omega))
    have HBD := Lib.hid (fun i (hi : i < (Tr.kids t).length) w => bindsIn_c (Tr.hd t).1 i w (by omega))
    have HB2 := Lib.hid (fun i => (by unfold Tr.bd; split <;> omega : 0 ≤ Tr.bd (Tr.hd t).1 i ∧ Tr.bd (Tr.hd t).1 i ≤ 1))
    have HOF := Lib.hid (fun j (hj : j < (Tr.kids t).length) => (⟨Tr.off_end hj, Tr.off_next hj, Tr.enc_pos (Tr.kid t j)⟩ : Tr.off t j + (Tr.enc (Tr.kid t j)).length ≤ (Tr.enc t).length ∧ Tr.off t (j + 1) = Tr.off t j + (Tr.enc (Tr.kid t j)).length ∧ 1 ≤ (Tr.enc (Tr.kid t j)).length))
    have hoz := Tr.off_zero t
    have HP1 := Lib.hid (fun j (hc : Tr.off t j ≤ i ∧ i < Tr.off t j + (Tr.enc (Tr.kid t j)).length) => (by unfold ctP; exact if_pos hc : ctP t n i j = ctAt (Tr.kid t j) (n + Tr.bd (Tr.hd t).1 j) (i - Tr.off t j)))
    have HP2 := Lib.hid (fun j (hc : ¬ (Tr.off t j ≤ i ∧ i < Tr.off t j + (Tr.enc (Tr.kid t j)).length)) => (by unfold ctP; exact if_neg hc : ctP t n i j = Tr.enc (Tr.kid t j)))
    have HPL := Lib.hid (fun j (hj : j < (Tr.kids t).length) (hc : Tr.off t j ≤ i ∧ i < Tr.off t j + (Tr.enc (Tr.kid t j)).length) => Nat.le_trans (ctAt_len (M := 60) _ (Tr.kids_wf hg _ (Tr.kid_mem hj)) (n + Tr.bd (Tr.hd t).1 j) _ (rdx_kid hg hr hj hc) (by have := Tr.kid_small hj; omega)) (Nat.mul_le_mul_right 61 (show (Tr.enc (Tr.kid t j)).length ≤ 60 from by have := Tr.kid_small hj; omega)))
    obtain ⟨ML, hML⟩ : ∃ ML, ML = ctL t n i := ⟨_, rfl⟩
    have HST := Lib.hid (fun j => (by rw [hML]; rfl : ML (j + 1) = ML j ++ ctP t n i j))
    have HS0 : Hid (ML 0 = [((Tr.hd t).1, (Tr.hd t).2.1, (Tr.hd t).2.2)]) := Lib.hid (by rw [hML]; rfl)
    rw [← hML] at HLN ⊢
    clear hML hcl ih hg h hr
    generalize (Tr.hd t).1 = kk at *
    generalize (Tr.hd t).2.1 = aa at *
    generalize (Tr.hd t).2.2 = zz at *
    generalize (Tr.enc t).length = nn at *
    generalize hMM : (Tr.kids t).length = m at *
    have hi0 : ((i : Int) == 0) = false := by simpa using hi
    have hm3 : m ≤ 3 := by omega
    clear hkl har
    go_enter Tryz.func67, Tryz.ntmps67
    go_wp2_with fail
    have hone := OwnT.one w w.heap.size (kk, aa, zz) (Nat.le_refl _)
    refine (HI.out _ ((Grew.refl w).alloc _)).mono ?_
    rintro e w1 ⟨u, us, rfl, hU1, hul, hhold, hg1⟩
    have ho1 := hone.grew hg1
    have hgw := Grew.of_alloc hg1
    obtain ⟨g2, c2, rfl, hc2, hm2, _, _⟩ := hU1.open_ (by omega)
    rw [hul] at hc2 hU1 ⊢
    have hU1 := Lib.hid hU1
    have HH := Lib.hid hhold
    clear hone hhold
    go_wp2_with fail
    go_loopw [7, 8, 9, 10, 23] (fun vv x _ _ i' wr => ∃ j : Nat, j ≤ m ∧ i' = .int .i64 j ∧ x = .int .i64 (Tr.off t j) ∧ Grew w wr ∧ OwnT wr w.heap.size vv (ML j) ∧ Hid (OwnVT wr (w.alloc (.cells #[.int .i64 kk, .int .i64 aa, .string zz] 66)).heap.size (.slice (some ⟨g2, 0, none⟩) m c2) us)) (fun _ _ _ _ i' _ => m - (intOf i').toNat)
    case atStart => exact ⟨0, Nat.zero_le _, rfl, by rw [hoz]; rfl, hgw, by rw [HS0.out]; exact ho1, hU1.out⟩
    case round =>
      clear ho1 hU1
      obtain ⟨j, hj, rfl, rfl, hB, hO, hU⟩ := hrel
      by_cases hlt : j < m
      · obtain ⟨x, hx1⟩ : ∃ x, us[j]? = some x := ⟨_, List.getElem?_eq_getElem (by omega)⟩
        have e1 : wr.cell? ⟨g2, j, none⟩ = some x := hU.out.cell hx1
        have e2 : wr.cell? ⟨b, o, none⟩ = some (.int .i64 kk) := HK.out _ hB
        have hx3 : Tms wr x (Tr.enc (Tr.kid t j)) := (HH.out j x hx1).grew hB
        obtain ⟨A3, c3, rfl⟩ := tms_slice hx3
        have hb01 := HB2.out j
        have hbd := Lib.hid (HBD.out j hlt)
        obtain ⟨hl1, hl2, hl3⟩ := HOF.out j hlt
        have HL2 := Lib.hid hl2
        have hln := HLN.out j hj
        have hst := Lib.hid (HST.out j)
        clear hx1 hl2
        by_cases hc : Tr.off t j ≤ i ∧ i < Tr.off t j + (Tr.enc (Tr.kid t j)).length
        · have hpl := HPL.out j hlt hc
          rw [HP1.out j hc] at hst
          have hih := fun W (hW : Grew wr W) => HIH.out j hlt hc _ (Tr.bd kk j) W (hB.trans hW) hb01.1 hb01.2 (hx3.grew hW)
          rw [Int.ofNat_sub hc.1] at hih
          replace hih := Lib.hid hih
          obtain ⟨hc3, hc4⟩ := hc
          clear hx3
          generalize ctAt (Tr.kid t j) (n + Tr.bd kk j) (i - Tr.off t j) = X at *
          generalize Tr.bd kk j = d at *
          generalize (Tr.enc (Tr.kid t j)).length = ln at *
          generalize Tr.off t j = oj at *
          generalize ML j = Y at *
          obtain ⟨hb0, hb1⟩ := hb01
          have hd1 : decide ((oj : Int) ≤ (i : Int)) = true := by simp; omega
          have hd2 : decide ((i : Int) < (oj : Int) + (ln : Int)) = true := by simp; omega
          go_wp2_with fail
          refine (hbd.out _).mono ?_
          rintro e w2 ⟨rfl, hg2⟩
          go_wp2_with fail
          refine (hih.out _ hg2).mono ?_
          rintro e w3 ⟨q, rfl, hq, hg3⟩
          have hk3 := hg2.trans hg3
          have hO3 := hO.grew hk3
          have hw3 := hB.trans hk3
          go_wp2_with (first | (at_builtin; refine wpList_appT (w0 := w) _ _ rfl rfl _ Y rfl hO3 hw3 _ X rfl hq (by omega) ?_; intro v4 w4 hown4 hg4 hgr4))
          go_roundw
          case rel => exact ⟨j + 1, by omega, by go_num, by rw [HL2.out]; go_num, hg4, by rw [hst.out]; exact hown4, ownVT_app (own_grew hU.out hk3) hO3 hgr4⟩
          case measure => simp [intOf]; omega
        · rw [HP2.out j hc] at hst
          have hX := Lib.hid hx3
          have hXl : (Tr.enc (Tr.kid t j)).length ≤ 60 := by omega
          clear hx3 hbd
          generalize Tr.enc (Tr.kid t j) = X at *
          generalize Tr.off t j = oj at *
          generalize ML j = Y at *
          have r := Grew.refl wr
          by_cases hc3 : oj ≤ i
          · have hc4 : oj + X.length ≤ i := by omega
            have hd1 : decide ((oj : Int) ≤ (i : Int)) = true := by simp; omega
            have hd2 : decide ((i : Int) < (oj : Int) + (X.length : Int)) = false := by simp; omega
            go_wp2_with (first | (at_builtin; refine wpList_appT (w0 := w) _ _ rfl rfl _ Y rfl hO hB _ X rfl hX.out (by omega) ?_; intro v4 w4 hown4 hg4 hgr4))
            go_roundw
            case rel => exact ⟨j + 1, by omega, by go_num, by rw [HL2.out]; go_num, hg4, by rw [hst.out]; exact hown4, ownVT_app hU.out hO hgr4⟩
            case measure => simp [intOf]; omega
          · have hd1 : decide ((oj : Int) ≤ (i : Int)) = false := by simp; omega
            go_wp2_with (first | (at_builtin; refine wpList_appT (w0 := w) _ _ rfl rfl _ Y rfl hO hB _ X rfl hX.out (by omega) ?_; intro v4 w4 hown4 hg4 hgr4))
            go_roundw
            case rel => exact ⟨j + 1, by omega, by go_num, by rw [HL2.out]; go_num, hg4, by rw [hst.out]; exact hown4, ownVT_app hU.out hO hgr4⟩
            case measure => simp [intOf]; omega
      · obtain rfl : j = m := by omega
        go_wp2_with fail
        go_ret
        exact ⟨_, rfl, hO.tms, hB⟩
end Go.Proofs.YthofkdpmgjkgkaaGreat

/- l26At of the reference. -/
namespace Go.Proofs.YthofkdpmgjkgkaaGreat
open Go.RowKit
open Tr (Tm)

set_option maxHeartbeats 800000 in
theorem l26At_c : ∀ t : Tm, Good t → ∀ (v : Value) (n : Int) (i : Nat) (w : World), Tms w v (Tr.enc t) → rdxAt (Tr.enc t) i = true → (Tr.enc t).length ≤ 60 → 0 ≤ n → n + (Tr.enc t).length ≤ 800 →
    Calls Tryz.prog 63 #[v, .int .i64 n, .int .i64 i] w (GivesT w (ctAt t n i)) := by
  intro t
  refine Tr.ind (P := fun t => Good t → ∀ (v : Value) (n : Int) (i : Nat) (w : World), Tms w v (Tr.enc t) → rdxAt (Tr.enc t) i = true → (Tr.enc t).length ≤ 60 → 0 ≤ n → n + (Tr.enc t).length ≤ 800 →
    Calls Tryz.prog 63 #[v, .int .i64 n, .int .i64 i] w (GivesT w (ctAt t n i))) ?_ t
  intro t ih hg v n i w h hr hlen hn0 hn1
  by_cases hi : i = 0
  · subst hi
    rw [ctAt_zero]
    have HC := Lib.hid (fun W (hW : Grew w W) => l26Contract_c v t n W (h.grew hW) hg hr (by omega) hn0 (by omega))
    have hlr := Nat.le_trans (ctr_len (n := n) (M := 60) hg hr hlen) (Nat.mul_le_mul_right 61 hlen)
    obtain ⟨A, c, rfl⟩ := tms_slice h
    clear h hr hg ih
    generalize ctr t n = R at *
    generalize (Tr.enc t).length = nn at *
    have he := own_emptyT w
    have hg0 := (Grew.refl w).alloc (.cells #[] 66)
    go_enter Tryz.func63, Tryz.ntmps63
    go_wp2_with fail
    refine (HC.out _ hg0).mono ?_
    rintro e w1 ⟨u, rfl, ho, hg1⟩
    have he1 := he.grew hg1
    have hk1 := hg0.trans hg1
    clear he
    go_wp2_with (first | (at_builtin; refine wpList_appT (w0 := w) _ _ rfl rfl _ [] rfl he1 hk1 _ R rfl ho (by simp; omega) ?_; intro v2 w2 hown2 hg2 _))
    go_ret
    exact ⟨_, rfl, by simpa using hown2, hg2⟩
  · have hir := rdxAt_lt hr
    have hEnd := Lib.hid (fun j (hj : j < (Tr.kids t).length) W (hW : Grew w W) => by
      have h1 := l26End_c v (Tr.enc t) (Tr.enc t).length (Tr.off t j) W (by omega) (h.grew hW) (by omega) (by have := Tr.off_end hj; omega)
      rw [Tr.pend_kid hg hj, Int.natCast_add] at h1
      exact h1)
    obtain ⟨b, o, c, rfl, hc, hm, hb, hcl⟩ := tms_head h
    have hpos := Tr.enc_pos t
    obtain ⟨k1, k2, k3⟩ := hcl _ (Grew.refl w)
    rw [ctAt_kids (by omega)]
    have hk0 : 0 < (Tr.kids t).length := by
      rcases Nat.eq_zero_or_pos (Tr.kids t).length with h0 | h0
      · have h1 := List.eq_nil_of_length_eq_zero h0
        have h2 : (Tr.enc t).length = 1 := by rw [Tr.enc_kids, h1]; rfl
        omega
      · exact h0
    have hkl := Tr.kids_len hg
    have har := Tr.ar_le (Tr.hd t).1
    have hgk := good_kind hg
    have hpv : (if 0 ≤ (Tr.hd t).1 ∧ (Tr.hd t).1 ≤ 9 then (Tr.ar (Tr.hd t).1 : Int) else -1) = (((Tr.kids t).length : Nat) : Int) := by rw [if_pos hgk, hkl]
    have HPT := Lib.hid (fun w => l26Parts_c (Tr.hd t).1 w)
    have HLN := Lib.hid (fun j hj => Nat.le_trans (ctL_len (n := n) (M := 60) hg hr hlen j hj) (Nat.mul_le_mul_right 61 (show Tr.off t j ≤ 61 from by
      rcases Nat.lt_or_ge j (Tr.kids t).length with hh | hh
      · have := Tr.off_end hh; omega
      · have e : Tr.off t j = Tr.off t (Tr.kids t).length := by unfold Tr.off; rw [List.take_of_length_le hh, List.take_length]
        rw [e]
        have := Tr.off_end (t := t) (i := (Tr.kids t).length - 1) (by omega)
        have e2 := Tr.off_next (t := t) (i := (Tr.kids t).length - 1) (by omega)
        rw [show (Tr.kids t).length - 1 + 1 = (Tr.kids t).length by omega] at e2
        omega)))
    have HIH := Lib.hid (fun j (hj : j < (Tr.kids t).length) (hc : Tr.off t j ≤ i ∧ i < Tr.off t j + (Tr.enc (Tr.kid t j)).length) u d W (hd0 : 0 ≤ d) (hd1 : d ≤ 1) hu => ih _ (Tr.kid_mem hj) (Tr.kids_wf hg _ (Tr.kid_mem hj)) u (n + d) (i - Tr.off t j) W hu (rdx_kid hg hr hj hc) (by have := Tr.kid_small hj; omega) (by omega) (by have := Tr.kid_small hj; omega))
    have HOF := Lib.hid (fun j (hj : j < (Tr.kids t).length) => (⟨Tr.off_end hj, Tr.off_next hj, Tr.enc_pos (Tr.kid t j)⟩ : Tr.off t j + (Tr.enc (Tr.kid t j)).length ≤ (Tr.enc t).length ∧ Tr.off t (j + 1) = Tr.off t j + (Tr.enc (Tr.kid t j)).length ∧ 1 ≤ (Tr.enc (Tr.kid t j)).length))
    have hoz := Tr.off_zero t
    have HSU := Lib.hid (fun j (hj : j < (Tr.kids t).length) => by
      have h1 := h.sub (Tr.off t j) (Tr.enc (Tr.kid t j)).length (c - Tr.off t j) (Tr.off_end hj) (by have := Tr.off_end hj; omega) (by omega)
      rw [Tr.take_kid hj] at h1
      exact h1)
    have HP1 := Lib.hid (fun j (hc : Tr.off t j ≤ i ∧ i < Tr.off t j + (Tr.enc (Tr.kid t j)).length) => (by unfold ctP; exact if_pos hc : ctP t n i j = ctAt (Tr.kid t j) (n + Tr.bd (Tr.hd t).1 j) (i - Tr.off t j)))
    have HP2 := Lib.hid (fun j (hc : ¬ (Tr.off t j ≤ i ∧ i < Tr.off t j + (Tr.enc (Tr.kid t j)).length)) => (by unfold ctP; exact if_neg hc : ctP t n i j = Tr.enc (Tr.kid t j)))
    have HPL := Lib.hid (fun j (hj : j < (Tr.kids t).length) (hc : Tr.off t j ≤ i ∧ i < Tr.off t j + (Tr.enc (Tr.kid t j)).length) => Nat.le_trans (ctAt_len (M := 60) _ (Tr.kids_wf hg _ (Tr.kid_mem hj)) (n + Tr.bd (Tr.hd t).1 j) _ (rdx_kid hg hr hj hc) (by have := Tr.kid_small hj; omega)) (Nat.mul_le_mul_right 61 (show (Tr.enc (Tr.kid t j)).length ≤ 60 from by have := Tr.kid_small hj; omega)))
    obtain ⟨ML, hML⟩ : ∃ ML, ML = ctL t n i := ⟨_, rfl⟩
    have HST := Lib.hid (fun j => (by rw [hML]; rfl : ML (j + 1) = ML j ++ ctP t n i j))
    have HS0 : Hid (ML 0 = [((Tr.hd t).1, (Tr.hd t).2.1, (Tr.hd t).2.2)]) := Lib.hid (by rw [hML]; rfl)
    rw [← hML] at HLN ⊢
    have HK := Lib.hid (fun W (hW : Grew w W) => (hcl W hW).1)
    clear hML hcl ih hg h hr hgk hkl
    generalize (Tr.hd t).1 = kk at *
    generalize (Tr.hd t).2.1 = aa at *
    generalize (Tr.hd t).2.2 = zz at *
    generalize (Tr.enc t).length = nn at *
    generalize hMM : (Tr.kids t).length = m at *
    have hi0 : ((i : Int) == 0) = false := by simpa using hi
    have hm3 : m ≤ 3 := by have h9 := hpv; split at h9 <;> omega
    generalize hpp : (if 0 ≤ kk ∧ kk ≤ 9 then (Tr.ar kk : Int) else -1) = pp at *
    clear hpp har
    have hal := (Grew.refl w).alloc (.cells #[.int .i64 kk, .int .i64 aa, .string zz] 66)
    have hone := OwnT.one w w.heap.size (kk, aa, zz) (Nat.le_refl _)
    go_enter Tryz.func63, Tryz.ntmps63
    go_wp2_with fail
    go_loopw [7, 8, 9] (fun vv x i' wr => ∃ j : Nat, j ≤ m ∧ i' = .int .i64 j ∧ x = .int .i64 (Tr.off t j) ∧ Grew w wr ∧ OwnT wr w.heap.size vv (ML j)) (fun _ _ i' _ => m - (intOf i').toNat)
    case atStart => exact ⟨0, Nat.zero_le _, rfl, by rw [hoz]; rfl, hal, by rw [HS0.out]; exact hone⟩
    case round =>
      clear hone hal
      obtain ⟨j, hj, rfl, rfl, hB, hO⟩ := hrel
      have e0 : ∀ W, Grew wr W → W.cell? ⟨b, o, none⟩ = some (.int .i64 kk) := fun W hW => HK.out W (hB.trans hW)
      have hrr := Grew.refl wr
      by_cases hlt : j < m
      · obtain ⟨hl1, hl2, hl3⟩ := HOF.out j hlt
        have HL2 := Lib.hid hl2
        have hln := HLN.out j hj
        have hst := Lib.hid (HST.out j)
        have hEn := Lib.hid (fun W hW => hEnd.out j hlt W hW)
        have hSu := Lib.hid (fun W (hW : Grew w W) => (HSU.out j hlt).grew hW)
        have hltI : (j : Int) < (m : Int) := by omega
        clear hl2
        by_cases hc : Tr.off t j ≤ i ∧ i < Tr.off t j + (Tr.enc (Tr.kid t j)).length
        · have hX := HPL.out j hlt hc
          rw [HP1.out j hc] at hst
          have hih := fun W hu => HIH.out j hlt hc (.slice (some ⟨b, o + Tr.off t j * 3, none⟩) (Tr.enc (Tr.kid t j)).length (c - Tr.off t j)) (Tr.bd kk j) W (by unfold Tr.bd; split <;> omega) (by unfold Tr.bd; split <;> omega) hu
          rw [Int.ofNat_sub hc.1] at hih
          obtain ⟨hc3, hc4⟩ := hc
          cases h1 : (kk == 1) with
          | true =>
            have hbd : Tr.bd kk j = 1 := by unfold Tr.bd; rw [if_pos (.inl (by simpa using h1))]
            rw [hbd] at hih hX hst
            clear hbd
            replace hih := Lib.hid hih
            replace hX := hX
            generalize ctAt (Tr.kid t j) (n + 1) (i - Tr.off t j) = X at *
            generalize Tr.enc (Tr.kid t j) = KT at *
            skip
            generalize Tr.off t j = oj at *
            generalize ML j = Y at *
            have hq0 : (0 : Int) ≤ (oj : Int) := by omega
            have hq1 : (oj : Int) ≤ (oj : Int) + (KT.length : Int) := by omega
            have hq2 : (oj : Int) + (KT.length : Int) ≤ (c : Int) := by omega
            have hd1 : decide ((oj : Int) ≤ (i : Int)) = true := by simp; omega
            have hd2 : decide ((i : Int) < (oj : Int) + (KT.length : Int)) = true := by simp; omega
            go_wp2_with fail
            refine (HPT.out _).mono ?_
            rintro e w2 ⟨rfl, hg2⟩
            rw [hpv]
            have hB2 := hB.trans hg2
            go_wp2_with fail
            refine (hEn.out _ hB2).mono ?_
            rintro e w3 ⟨rfl, hg3⟩
            have hk3 := hg2.trans hg3
            have hB3 := hB.trans hk3
            have hO3 := hO.grew hk3
            have S3 := Lib.hid (hSu.out _ hB3)
            go_wp2_with fail
            refine (hih.out _ S3.out).mono ?_
            rintro e w4 ⟨q, rfl, hq, hg4⟩
            have hO4 := hO3.grew hg4
            have hB4 := hB3.trans hg4
            go_wp2_with (first | (at_builtin; refine wpList_appT (w0 := w) _ _ rfl rfl _ Y rfl hO4 hB4 _ X rfl hq.tms (by omega) ?_; intro v5 w5 hown5 hg5 hgr5))
            go_roundw
            case rel => exact ⟨j + 1, by omega, by go_num, by rw [HL2.out]; go_num, hg5, by rw [hst.out]; exact hown5⟩
            case measure => simp [intOf]; omega
          | false =>
            have n1 : kk ≠ 1 := by simpa using h1
            cases h8 : (kk == 8) with
            | true =>
              have e8 : kk = 8 := by simpa using h8
              by_cases hj0 : 0 < j
              · have hbd : Tr.bd kk j = 1 := by unfold Tr.bd; rw [if_pos (.inr ⟨e8, hj0⟩)]
                have hj0' : decide ((0 : Int) < (j : Int)) = true := by simp; omega
                clear e8 n1
                rw [hbd] at hih hX hst
                clear hbd
                replace hih := Lib.hid hih
                replace hX := hX
                generalize ctAt (Tr.kid t j) (n + 1) (i - Tr.off t j) = X at *
                generalize Tr.enc (Tr.kid t j) = KT at *
                skip
                generalize Tr.off t j = oj at *
                generalize ML j = Y at *
                have hq0 : (0 : Int) ≤ (oj : Int) := by omega
                have hq1 : (oj : Int) ≤ (oj : Int) + (KT.length : Int) := by omega
                have hq2 : (oj : Int) + (KT.length : Int) ≤ (c : Int) := by omega
                have hd1 : decide ((oj : Int) ≤ (i : Int)) = true := by simp; omega
                have hd2 : decide ((i : Int) < (oj : Int) + (KT.length : Int)) = true := by simp; omega
                go_wp2_with fail
                refine (HPT.out _).mono ?_
                rintro e w2 ⟨rfl, hg2⟩
                rw [hpv]
                have hB2 := hB.trans hg2
                go_wp2_with fail
                refine (hEn.out _ hB2).mono ?_
                rintro e w3 ⟨rfl, hg3⟩
                have hk3 := hg2.trans hg3
                have hB3 := hB.trans hk3
                have hO3 := hO.grew hk3
                have S3 := Lib.hid (hSu.out _ hB3)
                go_wp2_with fail
                refine (hih.out _ S3.out).mono ?_
                rintro e w4 ⟨q, rfl, hq, hg4⟩
                have hO4 := hO3.grew hg4
                have hB4 := hB3.trans hg4
                go_wp2_with (first | (at_builtin; refine wpList_appT (w0 := w) _ _ rfl rfl _ Y rfl hO4 hB4 _ X rfl hq.tms (by omega) ?_; intro v5 w5 hown5 hg5 hgr5))
                go_roundw
                case rel => exact ⟨j + 1, by omega, by go_num, by rw [HL2.out]; go_num, hg5, by rw [hst.out]; exact hown5⟩
                case measure => simp [intOf]; omega
              · have hbd : Tr.bd kk j = 0 := by unfold Tr.bd; rw [if_neg (by omega)]
                have hj0' : decide ((0 : Int) < (j : Int)) = false := by simp; omega
                clear e8 n1
                rw [hbd, Int.add_zero] at hih hX hst
                clear hbd
                replace hih := Lib.hid hih
                replace hX := hX
                generalize ctAt (Tr.kid t j) (n) (i - Tr.off t j) = X at *
                generalize Tr.enc (Tr.kid t j) = KT at *
                skip
                generalize Tr.off t j = oj at *
                generalize ML j = Y at *
                have hq0 : (0 : Int) ≤ (oj : Int) := by omega
                have hq1 : (oj : Int) ≤ (oj : Int) + (KT.length : Int) := by omega
                have hq2 : (oj : Int) + (KT.length : Int) ≤ (c : Int) := by omega
                have hd1 : decide ((oj : Int) ≤ (i : Int)) = true := by simp; omega
                have hd2 : decide ((i : Int) < (oj : Int) + (KT.length : Int)) = true := by simp; omega
                go_wp2_with fail
                refine (HPT.out _).mono ?_
                rintro e w2 ⟨rfl, hg2⟩
                rw [hpv]
                have hB2 := hB.trans hg2
                go_wp2_with fail
                refine (hEn.out _ hB2).mono ?_
                rintro e w3 ⟨rfl, hg3⟩
                have hk3 := hg2.trans hg3
                have hB3 := hB.trans hk3
                have hO3 := hO.grew hk3
                have S3 := Lib.hid (hSu.out _ hB3)
                go_wp2_with fail
                refine (hih.out _ S3.out).mono ?_
                rintro e w4 ⟨q, rfl, hq, hg4⟩
                have hO4 := hO3.grew hg4
                have hB4 := hB3.trans hg4
                go_wp2_with (first | (at_builtin; refine wpList_appT (w0 := w) _ _ rfl rfl _ Y rfl hO4 hB4 _ X rfl hq.tms (by omega) ?_; intro v5 w5 hown5 hg5 hgr5))
                go_roundw
                case rel => exact ⟨j + 1, by omega, by go_num, by rw [HL2.out]; go_num, hg5, by rw [hst.out]; exact hown5⟩
                case measure => simp [intOf]; omega
            | false =>
              have n8 : kk ≠ 8 := by simpa using h8
              have hbd : Tr.bd kk j = 0 := by unfold Tr.bd; rw [if_neg (by omega)]
              clear n8 n1
              rw [hbd, Int.add_zero] at hih hX hst
              clear hbd
              replace hih := Lib.hid hih
              replace hX := hX
              generalize ctAt (Tr.kid t j) (n) (i - Tr.off t j) = X at *
              generalize Tr.enc (Tr.kid t j) = KT at *
              skip
              generalize Tr.off t j = oj at *
              generalize ML j = Y at *
              have hq0 : (0 : Int) ≤ (oj : Int) := by omega
              have hq1 : (oj : Int) ≤ (oj : Int) + (KT.length : Int) := by omega
              have hq2 : (oj : Int) + (KT.length : Int) ≤ (c : Int) := by omega
              have hd1 : decide ((oj : Int) ≤ (i : Int)) = true := by simp; omega
              have hd2 : decide ((i : Int) < (oj : Int) + (KT.length : Int)) = true := by simp; omega
              go_wp2_with fail
              refine (HPT.out _).mono ?_
              rintro e w2 ⟨rfl, hg2⟩
              rw [hpv]
              have hB2 := hB.trans hg2
              go_wp2_with fail
              refine (hEn.out _ hB2).mono ?_
              rintro e w3 ⟨rfl, hg3⟩
              have hk3 := hg2.trans hg3
              have hB3 := hB.trans hk3
              have hO3 := hO.grew hk3
              have S3 := Lib.hid (hSu.out _ hB3)
              go_wp2_with fail
              refine (hih.out _ S3.out).mono ?_
              rintro e w4 ⟨q, rfl, hq, hg4⟩
              have hO4 := hO3.grew hg4
              have hB4 := hB3.trans hg4
              go_wp2_with (first | (at_builtin; refine wpList_appT (w0 := w) _ _ rfl rfl _ Y rfl hO4 hB4 _ X rfl hq.tms (by omega) ?_; intro v5 w5 hown5 hg5 hgr5))
              go_roundw
              case rel => exact ⟨j + 1, by omega, by go_num, by rw [HL2.out]; go_num, hg5, by rw [hst.out]; exact hown5⟩
              case measure => simp [intOf]; omega
        · rw [HP2.out j hc] at hst
          by_cases hc3 : Tr.off t j ≤ i
          · have hc4 : Tr.off t j + (Tr.enc (Tr.kid t j)).length ≤ i := by omega
            cases h1 : (kk == 1) with
            | true =>
              have hbd : Tr.bd kk j = 1 := by unfold Tr.bd; rw [if_pos (.inl (by simpa using h1))]
              clear hbd
              generalize Tr.enc (Tr.kid t j) = KT at *
              generalize Tr.off t j = oj at *
              generalize ML j = Y at *
              have hq0 : (0 : Int) ≤ (oj : Int) := by omega
              have hq1 : (oj : Int) ≤ (oj : Int) + (KT.length : Int) := by omega
              have hq2 : (oj : Int) + (KT.length : Int) ≤ (c : Int) := by omega
              have hd1 : decide ((oj : Int) ≤ (i : Int)) = true := by simp; omega
              have hd2 : decide ((i : Int) < (oj : Int) + (KT.length : Int)) = false := by simp; omega
              go_wp2_with fail
              refine (HPT.out _).mono ?_
              rintro e w2 ⟨rfl, hg2⟩
              rw [hpv]
              have hB2 := hB.trans hg2
              go_wp2_with fail
              refine (hEn.out _ hB2).mono ?_
              rintro e w3 ⟨rfl, hg3⟩
              have hk3 := hg2.trans hg3
              have hB3 := hB.trans hk3
              have hO3 := hO.grew hk3
              have S3 := Lib.hid (by have hS := hSu.out _ hB3; rw [show KT.length = oj + KT.length - oj by omega] at hS; exact hS)
              go_wp2_with (first | (at_builtin; refine wpList_appT (w0 := w) _ _ rfl rfl _ Y rfl hO3 hB3 _ KT rfl S3.out (by omega) ?_; intro v5 w5 hown5 hg5 hgr5))
              go_roundw
              case rel => exact ⟨j + 1, by omega, by go_num, by rw [HL2.out]; go_num, hg5, by rw [hst.out]; exact hown5⟩
              case measure => simp [intOf]; omega
            | false =>
              have n1 : kk ≠ 1 := by simpa using h1
              cases h8 : (kk == 8) with
              | true =>
                have e8 : kk = 8 := by simpa using h8
                by_cases hj0 : 0 < j
                · have hbd : Tr.bd kk j = 1 := by unfold Tr.bd; rw [if_pos (.inr ⟨e8, hj0⟩)]
                  have hj0' : decide ((0 : Int) < (j : Int)) = true := by simp; omega
                  clear e8 n1
                  clear hbd
                  generalize Tr.enc (Tr.kid t j) = KT at *
                  generalize Tr.off t j = oj at *
                  generalize ML j = Y at *
                  have hq0 : (0 : Int) ≤ (oj : Int) := by omega
                  have hq1 : (oj : Int) ≤ (oj : Int) + (KT.length : Int) := by omega
                  have hq2 : (oj : Int) + (KT.length : Int) ≤ (c : Int) := by omega
                  have hd1 : decide ((oj : Int) ≤ (i : Int)) = true := by simp; omega
                  have hd2 : decide ((i : Int) < (oj : Int) + (KT.length : Int)) = false := by simp; omega
                  go_wp2_with fail
                  refine (HPT.out _).mono ?_
                  rintro e w2 ⟨rfl, hg2⟩
                  rw [hpv]
                  have hB2 := hB.trans hg2
                  go_wp2_with fail
                  refine (hEn.out _ hB2).mono ?_
                  rintro e w3 ⟨rfl, hg3⟩
                  have hk3 := hg2.trans hg3
                  have hB3 := hB.trans hk3
                  have hO3 := hO.grew hk3
                  have S3 := Lib.hid (by have hS := hSu.out _ hB3; rw [show KT.length = oj + KT.length - oj by omega] at hS; exact hS)
                  go_wp2_with (first | (at_builtin; refine wpList_appT (w0 := w) _ _ rfl rfl _ Y rfl hO3 hB3 _ KT rfl S3.out (by omega) ?_; intro v5 w5 hown5 hg5 hgr5))
                  go_roundw
                  case rel => exact ⟨j + 1, by omega, by go_num, by rw [HL2.out]; go_num, hg5, by rw [hst.out]; exact hown5⟩
                  case measure => simp [intOf]; omega
                · have hbd : Tr.bd kk j = 0 := by unfold Tr.bd; rw [if_neg (by omega)]
                  have hj0' : decide ((0 : Int) < (j : Int)) = false := by simp; omega
                  clear e8 n1
                  clear hbd
                  generalize Tr.enc (Tr.kid t j) = KT at *
                  generalize Tr.off t j = oj at *
                  generalize ML j = Y at *
                  have hq0 : (0 : Int) ≤ (oj : Int) := by omega
                  have hq1 : (oj : Int) ≤ (oj : Int) + (KT.length : Int) := by omega
                  have hq2 : (oj : Int) + (KT.length : Int) ≤ (c : Int) := by omega
                  have hd1 : decide ((oj : Int) ≤ (i : Int)) = true := by simp; omega
                  have hd2 : decide ((i : Int) < (oj : Int) + (KT.length : Int)) = false := by simp; omega
                  go_wp2_with fail
                  refine (HPT.out _).mono ?_
                  rintro e w2 ⟨rfl, hg2⟩
                  rw [hpv]
                  have hB2 := hB.trans hg2
                  go_wp2_with fail
                  refine (hEn.out _ hB2).mono ?_
                  rintro e w3 ⟨rfl, hg3⟩
                  have hk3 := hg2.trans hg3
                  have hB3 := hB.trans hk3
                  have hO3 := hO.grew hk3
                  have S3 := Lib.hid (by have hS := hSu.out _ hB3; rw [show KT.length = oj + KT.length - oj by omega] at hS; exact hS)
                  go_wp2_with (first | (at_builtin; refine wpList_appT (w0 := w) _ _ rfl rfl _ Y rfl hO3 hB3 _ KT rfl S3.out (by omega) ?_; intro v5 w5 hown5 hg5 hgr5))
                  go_roundw
                  case rel => exact ⟨j + 1, by omega, by go_num, by rw [HL2.out]; go_num, hg5, by rw [hst.out]; exact hown5⟩
                  case measure => simp [intOf]; omega
              | false =>
                have n8 : kk ≠ 8 := by simpa using h8
                have hbd : Tr.bd kk j = 0 := by unfold Tr.bd; rw [if_neg (by omega)]
                clear n8 n1
                clear hbd
                generalize Tr.enc (Tr.kid t j) = KT at *
                generalize Tr.off t j = oj at *
                generalize ML j = Y at *
                have hq0 : (0 : Int) ≤ (oj : Int) := by omega
                have hq1 : (oj : Int) ≤ (oj : Int) + (KT.length : Int) := by omega
                have hq2 : (oj : Int) + (KT.length : Int) ≤ (c : Int) := by omega
                have hd1 : decide ((oj : Int) ≤ (i : Int)) = true := by simp; omega
                have hd2 : decide ((i : Int) < (oj : Int) + (KT.length : Int)) = false := by simp; omega
                go_wp2_with fail
                refine (HPT.out _).mono ?_
                rintro e w2 ⟨rfl, hg2⟩
                rw [hpv]
                have hB2 := hB.trans hg2
                go_wp2_with fail
                refine (hEn.out _ hB2).mono ?_
                rintro e w3 ⟨rfl, hg3⟩
                have hk3 := hg2.trans hg3
                have hB3 := hB.trans hk3
                have hO3 := hO.grew hk3
                have S3 := Lib.hid (by have hS := hSu.out _ hB3; rw [show KT.length = oj + KT.length - oj by omega] at hS; exact hS)
                go_wp2_with (first | (at_builtin; refine wpList_appT (w0 := w) _ _ rfl rfl _ Y rfl hO3 hB3 _ KT rfl S3.out (by omega) ?_; intro v5 w5 hown5 hg5 hgr5))
                go_roundw
                case rel => exact ⟨j + 1, by omega, by go_num, by rw [HL2.out]; go_num, hg5, by rw [hst.out]; exact hown5⟩
                case measure => simp [intOf]; omega
          · skip
            cases h1 : (kk == 1) with
            | true =>
              have hbd : Tr.bd kk j = 1 := by unfold Tr.bd; rw [if_pos (.inl (by simpa using h1))]
              clear hbd
              generalize Tr.enc (Tr.kid t j) = KT at *
              generalize Tr.off t j = oj at *
              generalize ML j = Y at *
              have hq0 : (0 : Int) ≤ (oj : Int) := by omega
              have hq1 : (oj : Int) ≤ (oj : Int) + (KT.length : Int) := by omega
              have hq2 : (oj : Int) + (KT.length : Int) ≤ (c : Int) := by omega
              have hd1 : decide ((oj : Int) ≤ (i : Int)) = false := by simp; omega
              go_wp2_with fail
              refine (HPT.out _).mono ?_
              rintro e w2 ⟨rfl, hg2⟩
              rw [hpv]
              have hB2 := hB.trans hg2
              go_wp2_with fail
              refine (hEn.out _ hB2).mono ?_
              rintro e w3 ⟨rfl, hg3⟩
              have hk3 := hg2.trans hg3
              have hB3 := hB.trans hk3
              have hO3 := hO.grew hk3
              have S3 := Lib.hid (by have hS := hSu.out _ hB3; rw [show KT.length = oj + KT.length - oj by omega] at hS; exact hS)
              go_wp2_with (first | (at_builtin; refine wpList_appT (w0 := w) _ _ rfl rfl _ Y rfl hO3 hB3 _ KT rfl S3.out (by omega) ?_; intro v5 w5 hown5 hg5 hgr5))
              go_roundw
              case rel => exact ⟨j + 1, by omega, by go_num, by rw [HL2.out]; go_num, hg5, by rw [hst.out]; exact hown5⟩
              case measure => simp [intOf]; omega
            | false =>
              have n1 : kk ≠ 1 := by simpa using h1
              cases h8 : (kk == 8) with
              | true =>
                have e8 : kk = 8 := by simpa using h8
                by_cases hj0 : 0 < j
                · have hbd : Tr.bd kk j = 1 := by unfold Tr.bd; rw [if_pos (.inr ⟨e8, hj0⟩)]
                  have hj0' : decide ((0 : Int) < (j : Int)) = true := by simp; omega
                  clear e8 n1
                  clear hbd
                  generalize Tr.enc (Tr.kid t j) = KT at *
                  generalize Tr.off t j = oj at *
                  generalize ML j = Y at *
                  have hq0 : (0 : Int) ≤ (oj : Int) := by omega
                  have hq1 : (oj : Int) ≤ (oj : Int) + (KT.length : Int) := by omega
                  have hq2 : (oj : Int) + (KT.length : Int) ≤ (c : Int) := by omega
                  have hd1 : decide ((oj : Int) ≤ (i : Int)) = false := by simp; omega
                  go_wp2_with fail
                  refine (HPT.out _).mono ?_
                  rintro e w2 ⟨rfl, hg2⟩
                  rw [hpv]
                  have hB2 := hB.trans hg2
                  go_wp2_with fail
                  refine (hEn.out _ hB2).mono ?_
                  rintro e w3 ⟨rfl, hg3⟩
                  have hk3 := hg2.trans hg3
                  have hB3 := hB.trans hk3
                  have hO3 := hO.grew hk3
                  have S3 := Lib.hid (by have hS := hSu.out _ hB3; rw [show KT.length = oj + KT.length - oj by omega] at hS; exact hS)
                  go_wp2_with (first | (at_builtin; refine wpList_appT (w0 := w) _ _ rfl rfl _ Y rfl hO3 hB3 _ KT rfl S3.out (by omega) ?_; intro v5 w5 hown5 hg5 hgr5))
                  go_roundw
                  case rel => exact ⟨j + 1, by omega, by go_num, by rw [HL2.out]; go_num, hg5, by rw [hst.out]; exact hown5⟩
                  case measure => simp [intOf]; omega
                · have hbd : Tr.bd kk j = 0 := by unfold Tr.bd; rw [if_neg (by omega)]
                  have hj0' : decide ((0 : Int) < (j : Int)) = false := by simp; omega
                  clear e8 n1
                  clear hbd
                  generalize Tr.enc (Tr.kid t j) = KT at *
                  generalize Tr.off t j = oj at *
                  generalize ML j = Y at *
                  have hq0 : (0 : Int) ≤ (oj : Int) := by omega
                  have hq1 : (oj : Int) ≤ (oj : Int) + (KT.length : Int) := by omega
                  have hq2 : (oj : Int) + (KT.length : Int) ≤ (c : Int) := by omega
                  have hd1 : decide ((oj : Int) ≤ (i : Int)) = false := by simp; omega
                  go_wp2_with fail
                  refine (HPT.out _).mono ?_
                  rintro e w2 ⟨rfl, hg2⟩
                  rw [hpv]
                  have hB2 := hB.trans hg2
                  go_wp2_with fail
                  refine (hEn.out _ hB2).mono ?_
                  rintro e w3 ⟨rfl, hg3⟩
                  have hk3 := hg2.trans hg3
                  have hB3 := hB.trans hk3
                  have hO3 := hO.grew hk3
                  have S3 := Lib.hid (by have hS := hSu.out _ hB3; rw [show KT.length = oj + KT.length - oj by omega] at hS; exact hS)
                  go_wp2_with (first | (at_builtin; refine wpList_appT (w0 := w) _ _ rfl rfl _ Y rfl hO3 hB3 _ KT rfl S3.out (by omega) ?_; intro v5 w5 hown5 hg5 hgr5))
                  go_roundw
                  case rel => exact ⟨j + 1, by omega, by go_num, by rw [HL2.out]; go_num, hg5, by rw [hst.out]; exact hown5⟩
                  case measure => simp [intOf]; omega
              | false =>
                have n8 : kk ≠ 8 := by simpa using h8
                have hbd : Tr.bd kk j = 0 := by unfold Tr.bd; rw [if_neg (by omega)]
                clear n8 n1
                clear hbd
                generalize Tr.enc (Tr.kid t j) = KT at *
                generalize Tr.off t j = oj at *
                generalize ML j = Y at *
                have hq0 : (0 : Int) ≤ (oj : Int) := by omega
                have hq1 : (oj : Int) ≤ (oj : Int) + (KT.length : Int) := by omega
                have hq2 : (oj : Int) + (KT.length : Int) ≤ (c : Int) := by omega
                have hd1 : decide ((oj : Int) ≤ (i : Int)) = false := by simp; omega
                go_wp2_with fail
                refine (HPT.out _).mono ?_
                rintro e w2 ⟨rfl, hg2⟩
                rw [hpv]
                have hB2 := hB.trans hg2
                go_wp2_with fail
                refine (hEn.out _ hB2).mono ?_
                rintro e w3 ⟨rfl, hg3⟩
                have hk3 := hg2.trans hg3
                have hB3 := hB.trans hk3
                have hO3 := hO.grew hk3
                have S3 := Lib.hid (by have hS := hSu.out _ hB3; rw [show KT.length = oj + KT.length - oj by omega] at hS; exact hS)
                go_wp2_with (first | (at_builtin; refine wpList_appT (w0 := w) _ _ rfl rfl _ Y rfl hO3 hB3 _ KT rfl S3.out (by omega) ?_; intro v5 w5 hown5 hg5 hgr5))
                go_roundw
                case rel => exact ⟨j + 1, by omega, by go_num, by rw [HL2.out]; go_num, hg5, by rw [hst.out]; exact hown5⟩
                case measure => simp [intOf]; omega
      · obtain rfl : j = m := by omega
        go_wp2_with fail
        refine (HPT.out _).mono ?_
        rintro e w2 ⟨rfl, hg2⟩
        rw [hpv]
        go_wp2_with fail
        go_ret
        exact ⟨_, rfl, hO.grew hg2, hB.trans hg2⟩
end Go.Proofs.YthofkdpmgjkgkaaGreat

/- ContractAt of both. -/
namespace Go.Proofs.YthofkdpmgjkgkaaGreat
open Go.RowKit
open Tr (Tm)

/-- What ContractAt gives. -/
noncomputable def ctF (xs : List Tn) (n i : Int) : List Tn × Int := if tmB xs then (if 0 ≤ n ∧ n ≤ 12 then (if 0 ≤ i ∧ i ≤ (xs.length : Int) - 1 then (if Tr.evN ltP (tmT xs) n then (if rdxAt xs i.toNat then limT (ctAt (tmT xs) n i.toNat) else ([], 4)) else ([], 5)) else ([], 2)) else ([], 2)) else ([], 1)
theorem ctF_len (xs : List Tn) (n i : Int) : (ctF xs n i).1.length ≤ 1048576 := by
  unfold ctF
  split
  · split
    · split
      · split
        · split
          · have := limT_len (xs := ctAt (tmT xs) n i.toNat); omega
          · simp
        · simp
      · simp
    · simp
  · simp

theorem sizeT_c (v : Value) (xs : List Tn) (w : World) (h : Tms w v xs) :
    Calls Tryz.prog 64 #[v] w fun e w' => e = .returned (.int .i64 xs.length) ∧ Grew w w' := by
  obtain ⟨A, c, rfl⟩ := tms_slice h
  have hn := h.len_le
  clear h
  generalize xs.length = n at *
  go_enter Tryz.func64, Tryz.ntmps64
  go_wp2_with fail
  go_ret
  exact ⟨rfl, Grew.refl _⟩

theorem implCt_c (va : Value) (xs : List Tn) (n i : Int) (w : World) (h : Tms w va xs) (hf1 : FitsT xs) (hn1 : xs.length ≤ 1048576) :
    Calls Tryz.prog 24 #[va, .int .i64 n, .int .i64 i] w (GivesT2 w (ctF xs n i)) := by
  unfold GivesT2 ctF
  have HI := fun W (hW : Grew w W) => isTerm_c va xs W (h.grew hW) hf1 hn1
  have HR1 := fun w => inRange_c n 0 12 w
  have HR2 := fun w => inRange_c i 0 ((xs.length : Int) - 1) w
  have HSZ := Lib.hid (fun W (hW : Grew w W) => sizeT_c va xs W (h.grew hW))
  cases hb1 : tmB xs with
  | false =>
    rw [hb1] at HI
    rw [if_neg (by simp)]
    replace HI := Lib.hid HI
    obtain ⟨A, c, rfl⟩ := tms_slice h
    clear h hf1 hb1 HR1 HR2
    generalize xs.length = nn at *
    go_enter Tryz.func24, Tryz.ntmps24
    go_wp2_with fail
    refine (HI.out _ (Grew.refl _)).mono ?_
    rintro e w1 ⟨rfl, hg1⟩
    have k1 : Grew w w1 := hg1
    go_wp2_with fail
    go_ret2
    exact ⟨.slice none 0 0, rfl, OwnT.nil_ _ _, k1⟩
  | true =>
    rw [hb1] at HI
    rw [if_pos rfl]
    replace HI := Lib.hid HI
    obtain ⟨a1, a2, a3⟩ := tmT_ok hb1
    have hpos : 1 ≤ xs.length := by have := Tr.enc_pos (tmT xs); rw [a2] at this; exact this
    rcases h.open_ with ⟨_, h0⟩ | ⟨b, o, c, rfl, hc, hm, hb, hcl⟩
    · rw [h0] at hpos; exact absurd hpos (by simp)
    by_cases hr : 0 ≤ n ∧ n ≤ 12
    · rw [decide_eq_true hr] at HR1
      replace HR1 := Lib.hid HR1
      rw [if_pos hr]
      by_cases hr2 : 0 ≤ i ∧ i ≤ (xs.length : Int) - 1
      · rw [decide_eq_true hr2] at HR2
        replace HR2 := Lib.hid HR2
        rw [if_pos hr2]
        obtain ⟨k, rfl⟩ : ∃ k : Nat, i = k := ⟨i.toNat, by omega⟩
        have hk : k < xs.length := by omega
        rw [Int.toNat_natCast]
        have HF := fun W (hW : Grew w W) => fitsContext_c (.slice (some ⟨b, o, none⟩) xs.length c) (tmT xs) n W (by rw [a2]; exact h.grew hW) a1 (by rw [a2]; omega) (by omega) (by rw [a2]; omega)
        have HX := fun W (hW : Grew w W) => isRedex_c (.slice (some ⟨b, o, none⟩) xs.length c) xs k W (h.grew hW) hk hn1
        obtain ⟨hr0, hr1⟩ := hr
        have hk1 : (k : Int) < (xs.length : Int) := by omega
        have hk0 : (0 : Int) ≤ (k : Int) := by omega
        have hck : ¬ c = k := by omega
        cases he1 : Tr.evN ltP (tmT xs) n with
        | false =>
          rw [he1] at HF
          rw [if_neg (by simp)]
          replace HF := Lib.hid HF
          clear he1 HX h hf1 hcl
          clear hb1 a1 a2 a3 hr2
          generalize xs.length = nn at *
          go_enter Tryz.func24, Tryz.ntmps24
          go_wp2_with fail
          refine (HI.out _ (Grew.refl _)).mono ?_
          rintro e w1 ⟨rfl, hg1⟩
          have k1 : Grew w w1 := hg1
          go_wp2_with fail
          refine (HR1.out _).mono ?_
          rintro e w2 ⟨rfl, hg2⟩
          have k2 : Grew w w2 := k1.trans hg2
          go_wp2_with fail
          refine (HSZ.out _ k2).mono ?_
          rintro e w3 ⟨rfl, hg3⟩
          have k3 : Grew w w3 := k2.trans hg3
          go_wp2_with fail
          refine (HR2.out _).mono ?_
          rintro e w4 ⟨rfl, hg4⟩
          have k4 : Grew w w4 := k3.trans hg4
          go_wp2_with fail
          refine (HF.out _ k4).mono ?_
          rintro e w5 ⟨rfl, hg5⟩
          have k5 : Grew w w5 := k4.trans hg5
          go_wp2_with fail
          go_ret2
          exact ⟨.slice none 0 0, rfl, OwnT.nil_ _ _, k5⟩
        | true =>
          rw [he1] at HF
          rw [if_pos rfl]
          replace HF := Lib.hid HF
          cases hx : rdxAt xs k with
          | false =>
            rw [hx] at HX
            rw [if_neg (by simp)]
            replace HX := Lib.hid HX
            clear he1 hx h hf1 hcl
            clear hb1 a1 a2 a3 hr2
            generalize xs.length = nn at *
            go_enter Tryz.func24, Tryz.ntmps24
            go_wp2_with fail
            refine (HI.out _ (Grew.refl _)).mono ?_
            rintro e w1 ⟨rfl, hg1⟩
            have k1 : Grew w w1 := hg1
            go_wp2_with fail
            refine (HR1.out _).mono ?_
            rintro e w2 ⟨rfl, hg2⟩
            have k2 : Grew w w2 := k1.trans hg2
            go_wp2_with fail
            refine (HSZ.out _ k2).mono ?_
            rintro e w3 ⟨rfl, hg3⟩
            have k3 : Grew w w3 := k2.trans hg3
            go_wp2_with fail
            refine (HR2.out _).mono ?_
            rintro e w4 ⟨rfl, hg4⟩
            have k4 : Grew w w4 := k3.trans hg4
            go_wp2_with fail
            refine (HF.out _ k4).mono ?_
            rintro e w5 ⟨rfl, hg5⟩
            have k5 : Grew w w5 := k4.trans hg5
            go_wp2_with fail
            refine (HX.out _ k5).mono ?_
            rintro e w6 ⟨rfl, hg6⟩
            have k6 : Grew w w6 := k5.trans hg6
            go_wp2_with fail
            go_ret2
            exact ⟨.slice none 0 0, rfl, OwnT.nil_ _ _, k6⟩
          | true =>
            rw [hx] at HX
            rw [if_pos rfl]
            replace HX := Lib.hid HX
            have HP := Lib.hid (fun W (hW : Grew w W) => contractAt_c (tmT xs) a1 (.slice (some ⟨b, o, none⟩) xs.length c) n k W (by rw [a2]; exact h.grew hW) (by rw [a2]; exact hx) (by rw [a2]; omega) (by omega) (by rw [a2]; omega))
            have hml := ctAt_len (M := 60) (tmT xs) a1 n k (by rw [a2]; exact hx) (by rw [a2]; omega)
            have hml2 : (Tr.enc (tmT xs)).length * 61 ≤ 60 * 61 := Nat.mul_le_mul_right 61 (by rw [a2]; omega)
            have hfm := ctAt_fits (n := n) a1 (show rdxAt (Tr.enc (tmT xs)) k = true by rw [a2]; exact hx) (by rw [a2]; exact hf1)
            have HCL := Lib.hid (fun u W (hu : Tms W u (ctAt (tmT xs) n k)) => cloneT_c u (ctAt (tmT xs) n k) W hu (by omega))
            have HL := Lib.hid (fun u W B (ho : OwnT W B u (ctAt (tmT xs) n k)) => by
              have hl := limitedTerm_c u (ctAt (tmT xs) n k) W B ho hfm (by omega)
              unfold LimG at hl
              exact hl)
            clear he1 hx h hf1 hcl hb1 a1 a2 a3 hr2 hfm hml hml2
            generalize limT (ctAt (tmT xs) n k) = rr at *
            generalize ctAt (tmT xs) n k = X at *
            generalize xs.length = nn at *
            go_enter Tryz.func24, Tryz.ntmps24
            go_wp2_with fail
            refine (HI.out _ (Grew.refl _)).mono ?_
            rintro e w1 ⟨rfl, hg1⟩
            have k1 : Grew w w1 := hg1
            go_wp2_with fail
            refine (HR1.out _).mono ?_
            rintro e w2 ⟨rfl, hg2⟩
            have k2 : Grew w w2 := k1.trans hg2
            go_wp2_with fail
            refine (HSZ.out _ k2).mono ?_
            rintro e w3 ⟨rfl, hg3⟩
            have k3 : Grew w w3 := k2.trans hg3
            go_wp2_with fail
            refine (HR2.out _).mono ?_
            rintro e w4 ⟨rfl, hg4⟩
            have k4 : Grew w w4 := k3.trans hg4
            go_wp2_with fail
            refine (HF.out _ k4).mono ?_
            rintro e w5 ⟨rfl, hg5⟩
            have k5 : Grew w w5 := k4.trans hg5
            go_wp2_with fail
            refine (HX.out _ k5).mono ?_
            rintro e w6 ⟨rfl, hg6⟩
            have k6 : Grew w w6 := k5.trans hg6
            go_wp2_with fail
            refine (HP.out _ k6).mono ?_
            rintro e w7 ⟨u7, rfl, hu, hg7⟩
            have k7 : Grew w w7 := k6.trans hg7
            go_wp2_with fail
            refine (HCL.out _ _ hu).mono ?_
            rintro e w8 ⟨u8, rfl, ho, hg8⟩
            have k8 : Grew w w8 := k7.trans hg8
            go_wp2_with fail
            refine (HL.out _ _ _ ho).mono ?_
            rintro e w9 ⟨u9, rfl, hoq, hg9⟩
            have k9 : Grew w w9 := k8.trans hg9
            go_wp2_with fail
            go_ret2
            exact ⟨_, rfl, hoq.base k7.size, k9⟩
      · rw [decide_eq_false hr2] at HR2
        replace HR2 := Lib.hid HR2
        rw [if_neg hr2]
        clear h hf1 hcl hb1 a1 a2 a3 hr2
        generalize xs.length = nn at *
        go_enter Tryz.func24, Tryz.ntmps24
        go_wp2_with fail
        refine (HI.out _ (Grew.refl _)).mono ?_
        rintro e w1 ⟨rfl, hg1⟩
        have k1 : Grew w w1 := hg1
        go_wp2_with fail
        refine (HR1.out _).mono ?_
        rintro e w2 ⟨rfl, hg2⟩
        have k2 : Grew w w2 := k1.trans hg2
        go_wp2_with fail
        refine (HSZ.out _ k2).mono ?_
        rintro e w3 ⟨rfl, hg3⟩
        have k3 : Grew w w3 := k2.trans hg3
        go_wp2_with fail
        refine (HR2.out _).mono ?_
        rintro e w4 ⟨rfl, hg4⟩
        have k4 : Grew w w4 := k3.trans hg4
        go_wp2_with fail
        go_ret2
        exact ⟨.slice none 0 0, rfl, OwnT.nil_ _ _, k4⟩
    · rw [decide_eq_false hr] at HR1
      replace HR1 := Lib.hid HR1
      rw [if_neg hr]
      clear h hf1 hcl hb1 a1 a2 a3 hr HR2
      generalize xs.length = nn at *
      go_enter Tryz.func24, Tryz.ntmps24
      go_wp2_with fail
      refine (HI.out _ (Grew.refl _)).mono ?_
      rintro e w1 ⟨rfl, hg1⟩
      have k1 : Grew w w1 := hg1
      go_wp2_with fail
      refine (HR1.out _).mono ?_
      rintro e w2 ⟨rfl, hg2⟩
      have k2 : Grew w w2 := k1.trans hg2
      go_wp2_with fail
      go_ret2
      exact ⟨.slice none 0 0, rfl, OwnT.nil_ _ _, k2⟩

theorem specCt_c (va : Value) (xs : List Tn) (n i : Int) (w : World) (h : Tms w va xs) (hf1 : FitsT xs) (hn1 : xs.length ≤ 1048576) :
    Calls Tryz.prog 23 #[va, .int .i64 n, .int .i64 i] w (GivesT2 w (ctF xs n i)) := by
  unfold GivesT2 ctF
  have HI := fun W (hW : Grew w W) => l26Is_c va xs W (h.grew hW) hf1 hn1
  have HR1 := fun w => l01In_c n 0 12 w
  have HR2 := fun w => l01In_c i 0 ((xs.length : Int) - 1) w
  cases hb1 : tmB xs with
  | false =>
    rw [hb1] at HI
    rw [if_neg (by simp)]
    replace HI := Lib.hid HI
    obtain ⟨A, c, rfl⟩ := tms_slice h
    clear h hf1 hb1 HR1 HR2
    generalize xs.length = nn at *
    go_enter Tryz.func23, Tryz.ntmps23
    go_wp2_with fail
    refine (HI.out _ (Grew.refl _)).mono ?_
    rintro e w1 ⟨rfl, hg1⟩
    have k1 : Grew w w1 := hg1
    go_wp2_with fail
    go_ret2
    exact ⟨.slice none 0 0, rfl, OwnT.nil_ _ _, k1⟩
  | true =>
    rw [hb1] at HI
    rw [if_pos rfl]
    replace HI := Lib.hid HI
    obtain ⟨a1, a2, a3⟩ := tmT_ok hb1
    have hpos : 1 ≤ xs.length := by have := Tr.enc_pos (tmT xs); rw [a2] at this; exact this
    rcases h.open_ with ⟨_, h0⟩ | ⟨b, o, c, rfl, hc, hm, hb, hcl⟩
    · rw [h0] at hpos; exact absurd hpos (by simp)
    by_cases hr : 0 ≤ n ∧ n ≤ 12
    · rw [decide_eq_true hr] at HR1
      replace HR1 := Lib.hid HR1
      rw [if_pos hr]
      by_cases hr2 : 0 ≤ i ∧ i ≤ (xs.length : Int) - 1
      · rw [decide_eq_true hr2] at HR2
        replace HR2 := Lib.hid HR2
        rw [if_pos hr2]
        obtain ⟨k, rfl⟩ : ∃ k : Nat, i = k := ⟨i.toNat, by omega⟩
        have hk : k < xs.length := by omega
        rw [Int.toNat_natCast]
        have HF := fun W (hW : Grew w W) => l26Fits_c (tmT xs) a1 (.slice (some ⟨b, o, none⟩) xs.length c) n W (by rw [a2]; exact h.grew hW) (by rw [a2]; omega) (by omega) (by rw [a2]; omega)
        have HX := fun u W (hW : Grew w W) hu => l26Redex_c u xs k b o c W (h.grew hW) hc hm hk hn1 hu
        obtain ⟨hr0, hr1⟩ := hr
        have hk1 : (k : Int) < (xs.length : Int) := by omega
        have hk0 : (0 : Int) ≤ (k : Int) := by omega
        have hck : ¬ c = k := by omega
        cases he1 : Tr.evN ltP (tmT xs) n with
        | false =>
          rw [he1] at HF
          rw [if_neg (by simp)]
          replace HF := Lib.hid HF
          clear he1 HX h hf1 hcl
          clear hb1 a1 a2 a3 hr2
          generalize xs.length = nn at *
          go_enter Tryz.func23, Tryz.ntmps23
          go_wp2_with fail
          refine (HI.out _ (Grew.refl _)).mono ?_
          rintro e w1 ⟨rfl, hg1⟩
          have k1 : Grew w w1 := hg1
          go_wp2_with fail
          refine (HR1.out _).mono ?_
          rintro e w2 ⟨rfl, hg2⟩
          have k2 : Grew w w2 := k1.trans hg2
          go_wp2_with fail
          refine (HR2.out _).mono ?_
          rintro e w3 ⟨rfl, hg3⟩
          have k3 : Grew w w3 := k2.trans hg3
          go_wp2_with fail
          refine (HF.out _ k3).mono ?_
          rintro e w4 ⟨rfl, hg4⟩
          have k4 : Grew w w4 := k3.trans hg4
          go_wp2_with fail
          go_ret2
          exact ⟨.slice none 0 0, rfl, OwnT.nil_ _ _, k4⟩
        | true =>
          rw [he1] at HF
          rw [if_pos rfl]
          replace HF := Lib.hid HF
          cases hx : rdxAt xs k with
          | false =>
            rw [hx] at HX
            rw [if_neg (by simp)]
            replace HX := Lib.hid HX
            clear he1 hx h hf1 hcl
            clear hb1 a1 a2 a3 hr2
            generalize xs.length = nn at *
            go_enter Tryz.func23, Tryz.ntmps23
            go_wp2_with fail
            refine (HI.out _ (Grew.refl _)).mono ?_
            rintro e w1 ⟨rfl, hg1⟩
            have k1 : Grew w w1 := hg1
            go_wp2_with fail
            refine (HR1.out _).mono ?_
            rintro e w2 ⟨rfl, hg2⟩
            have k2 : Grew w w2 := k1.trans hg2
            go_wp2_with fail
            refine (HR2.out _).mono ?_
            rintro e w3 ⟨rfl, hg3⟩
            have k3 : Grew w w3 := k2.trans hg3
            go_wp2_with fail
            refine (HF.out _ k3).mono ?_
            rintro e w4 ⟨rfl, hg4⟩
            have k4 : Grew w w4 := k3.trans hg4
            go_wp2_with fail
            refine (HX.out _ _ k4 rfl).mono ?_
            rintro e w5 ⟨rfl, hg5⟩
            have k5 : Grew w w5 := k4.trans hg5
            go_wp2_with fail
            go_ret2
            exact ⟨.slice none 0 0, rfl, OwnT.nil_ _ _, k5⟩
          | true =>
            rw [hx] at HX
            rw [if_pos rfl]
            replace HX := Lib.hid HX
            have HP := Lib.hid (fun W (hW : Grew w W) => l26At_c (tmT xs) a1 (.slice (some ⟨b, o, none⟩) xs.length c) n k W (by rw [a2]; exact h.grew hW) (by rw [a2]; exact hx) (by rw [a2]; omega) (by omega) (by rw [a2]; omega))
            have hml := ctAt_len (M := 60) (tmT xs) a1 n k (by rw [a2]; exact hx) (by rw [a2]; omega)
            have hml2 : (Tr.enc (tmT xs)).length * 61 ≤ 60 * 61 := Nat.mul_le_mul_right 61 (by rw [a2]; omega)
            have hfm := ctAt_fits (n := n) a1 (show rdxAt (Tr.enc (tmT xs)) k = true by rw [a2]; exact hx) (by rw [a2]; exact hf1)
            have HL := Lib.hid (fun u W B (ho : OwnT W B u (ctAt (tmT xs) n k)) => by
              have hl := l26Made_c u (ctAt (tmT xs) n k) W B ho (by omega)
              unfold LimG at hl
              exact hl)
            clear he1 hx h hf1 hcl hb1 a1 a2 a3 hr2 hfm hml hml2
            generalize limT (ctAt (tmT xs) n k) = rr at *
            generalize ctAt (tmT xs) n k = X at *
            generalize xs.length = nn at *
            go_enter Tryz.func23, Tryz.ntmps23
            go_wp2_with fail
            refine (HI.out _ (Grew.refl _)).mono ?_
            rintro e w1 ⟨rfl, hg1⟩
            have k1 : Grew w w1 := hg1
            go_wp2_with fail
            refine (HR1.out _).mono ?_
            rintro e w2 ⟨rfl, hg2⟩
            have k2 : Grew w w2 := k1.trans hg2
            go_wp2_with fail
            refine (HR2.out _).mono ?_
            rintro e w3 ⟨rfl, hg3⟩
            have k3 : Grew w w3 := k2.trans hg3
            go_wp2_with fail
            refine (HF.out _ k3).mono ?_
            rintro e w4 ⟨rfl, hg4⟩
            have k4 : Grew w w4 := k3.trans hg4
            go_wp2_with fail
            refine (HX.out _ _ k4 rfl).mono ?_
            rintro e w5 ⟨rfl, hg5⟩
            have k5 : Grew w w5 := k4.trans hg5
            go_wp2_with fail
            refine (HP.out _ k5).mono ?_
            rintro e w6 ⟨u6, rfl, ho, hg6⟩
            have k6 : Grew w w6 := k5.trans hg6
            go_wp2_with fail
            refine (HL.out _ _ _ ho).mono ?_
            rintro e w7 ⟨u7, rfl, hoq, hg7⟩
            have k7 : Grew w w7 := k6.trans hg7
            go_wp2_with fail
            go_ret2
            exact ⟨_, rfl, hoq.base k5.size, k7⟩
      · rw [decide_eq_false hr2] at HR2
        replace HR2 := Lib.hid HR2
        rw [if_neg hr2]
        clear h hf1 hcl hb1 a1 a2 a3 hr2
        generalize xs.length = nn at *
        go_enter Tryz.func23, Tryz.ntmps23
        go_wp2_with fail
        refine (HI.out _ (Grew.refl _)).mono ?_
        rintro e w1 ⟨rfl, hg1⟩
        have k1 : Grew w w1 := hg1
        go_wp2_with fail
        refine (HR1.out _).mono ?_
        rintro e w2 ⟨rfl, hg2⟩
        have k2 : Grew w w2 := k1.trans hg2
        go_wp2_with fail
        refine (HR2.out _).mono ?_
        rintro e w3 ⟨rfl, hg3⟩
        have k3 : Grew w w3 := k2.trans hg3
        go_wp2_with fail
        go_ret2
        exact ⟨.slice none 0 0, rfl, OwnT.nil_ _ _, k3⟩
    · rw [decide_eq_false hr] at HR1
      replace HR1 := Lib.hid HR1
      rw [if_neg hr]
      clear h hf1 hcl hb1 a1 a2 a3 hr HR2
      generalize xs.length = nn at *
      go_enter Tryz.func23, Tryz.ntmps23
      go_wp2_with fail
      refine (HI.out _ (Grew.refl _)).mono ?_
      rintro e w1 ⟨rfl, hg1⟩
      have k1 : Grew w w1 := hg1
      go_wp2_with fail
      refine (HR1.out _).mono ?_
      rintro e w2 ⟨rfl, hg2⟩
      have k2 : Grew w w2 := k1.trans hg2
      go_wp2_with fail
      go_ret2
      exact ⟨.slice none 0 0, rfl, OwnT.nil_ _ _, k2⟩
end Go.Proofs.YthofkdpmgjkgkaaGreat

/- Texts in one file: Parse1 Tree Draw NdTl Own Any Bx MnU MnV MnW MbY. -/
import Derived.Deep.RegionLaw
import Derived.OwnWalk
import Derived.Test.YtphljdhacbpkbaaGreatPa1
set_option linter.all false

/- The plain parser: how far it comes, how many nodes it makes, which byte is next. No program is in sight. -/
namespace Go.Proofs.YtphljdhacbpkbaaGreat
namespace Fm

theorem sees_eq {s : List UInt8} {st : St} {c : UInt8} (h : sees s st c = true) : st.2 = false ∧ s[st.1]? = some c := by
  unfold sees at h
  simp only [Bool.and_eq_true, Bool.not_eq_true', beq_iff_eq] at h
  exact h
theorem sees_lt {s : List UInt8} {st : St} {c : UInt8} (h : sees s st c = true) : st.1 < s.length := by
  have := (sees_eq h).2
  rcases Nat.lt_or_ge st.1 s.length with h1 | h1
  · exact h1
  · rw [List.getElem?_eq_none h1] at this; cases this
theorem sees_other {s : List UInt8} {st : St} {c d : UInt8} (h : sees s st c = true) (hne : c ≠ d) : sees s st d = false := by
  obtain ⟨h1, h2⟩ := sees_eq h
  unfold sees
  rw [h1, h2]
  simp [hne]
theorem letter_some {s : List UInt8} {st : St} {v : Nat} (h : letter s st = some v) : v < 6 ∧ sees s st (UInt8.ofNat (112 + v)) = true := by
  unfold letter at h
  split at h
  · cases h
  · rename_i hb
    have hb' : st.2 = false := by simpa using hb
    split at h
    · rename_i c hc
      split at h
      · rename_i hr
        injection h with h
        subst h
        refine ⟨by omega, ?_⟩
        unfold sees
        have e : UInt8.ofNat (112 + (c.toNat - 112)) = c := by
          apply UInt8.toNat_inj.1
          rw [UInt8.toNat_ofNat']
          omega
        rw [hb', hc, e]
        simp
      · cases h
    · cases h
theorem letter_of_sees {s : List UInt8} {st : St} {v : Nat} (hv : v < 6) (h : sees s st (UInt8.ofNat (112 + v)) = true) : letter s st = some v := by
  obtain ⟨h1, h2⟩ := sees_eq h
  unfold letter
  rw [h1, h2]
  have e : (UInt8.ofNat (112 + v)).toNat = 112 + v := by rw [UInt8.toNat_ofNat']; omega
  simp only [e]
  rw [if_neg (by simp), if_pos (by omega)]
  congr 1
  omega
theorem letter_none {s : List UInt8} {st : St} (h : letter s st = none) (v : Nat) (hv : v < 6) : sees s st (UInt8.ofNat (112 + v)) = false := by
  cases hs : sees s st (UInt8.ofNat (112 + v)) with
  | false => rfl
  | true => rw [letter_of_sees hv hs] at h; cases h
theorem letter_ne {s : List UInt8} {st : St} {v i : Nat} (h : letter s st = some v) (hi : i < 6) (hne : i ≠ v) : sees s st (UInt8.ofNat (112 + i)) = false := by
  cases hs : sees s st (UInt8.ofNat (112 + i)) with
  | false => rfl
  | true => rw [letter_of_sees hi hs] at h; injection h with h; exact absurd h hne
theorem letter_of_other {s : List UInt8} {st : St} {c : UInt8} (h : sees s st c = true) (hc : c.toNat < 112 ∨ 117 < c.toNat) : letter s st = none := by
  obtain ⟨h1, h2⟩ := sees_eq h
  unfold letter
  rw [h1, h2]
  simp only
  rw [if_neg (by simp), if_neg (by omega)]

/-- A result that does not run backwards or over the end, and is not too long. -/
def Ok (s : List UInt8) (st : St) (r : Res) : Prop := st.1 ≤ r.2.1 ∧ r.2.1 ≤ s.length ∧ r.1.length ≤ 3 * (r.2.1 - st.1) + 1

theorem need_pos {s : List UInt8} {st : St} {c : UInt8} (h : st.1 ≤ s.length) : st.1 ≤ (need s st c).1 ∧ (need s st c).1 ≤ s.length := by
  unfold need
  split
  · rename_i hs
    have := sees_lt hs
    simp only [step]
    omega
  · exact ⟨Nat.le_refl _, h⟩

theorem loop_ok {s : List UInt8} {k : Int} {c : UInt8} {sub : St → Res} (hsub : ∀ st, st.1 ≤ s.length → Ok s st (sub st)) : ∀ (m : Nat) (a : List Nd) (st st0 : St), st0.1 ≤ st.1 → st.1 ≤ s.length → a.length ≤ 3 * (st.1 - st0.1) + 1 → Ok s st0 (loop s k c sub m a st) := by
  intro m
  induction m with
  | zero => intro a st st0 h1 h2 h3; exact ⟨h1, h2, h3⟩
  | succ m ih =>
    intro a st st0 h1 h2 h3
    unfold loop
    split
    · rename_i hs
      have hlt := sees_lt hs
      have h := hsub (step st) (by simp only [step]; omega)
      obtain ⟨g1, g2, g3⟩ := h
      simp only [step] at g1 g2 g3
      refine ih _ _ st0 (by simp only [step]; omega) (by simp only [step]; omega) ?_
      simp only [join, List.length_cons, List.length_append, step]
      omega
    · exact ⟨h1, h2, h3⟩

theorem andF_ok {s : List UInt8} {m : Nat} {sub : St → Res} (hsub : ∀ st, st.1 ≤ s.length → Ok s st (sub st)) (st : St) (h : st.1 ≤ s.length) : Ok s st (andF s m sub st) := by
  obtain ⟨g1, g2, g3⟩ := hsub st h
  exact loop_ok hsub m _ _ st g1 g2 g3
theorem orF_ok {s : List UInt8} {m : Nat} {sub : St → Res} (hsub : ∀ st, st.1 ≤ s.length → Ok s st (sub st)) (st : St) (h : st.1 ≤ s.length) : Ok s st (orF s m sub st) := by
  obtain ⟨g1, g2, g3⟩ := andF_ok (m := m) hsub st h
  exact loop_ok (fun st h => andF_ok hsub st h) m _ _ st g1 g2 g3
theorem impF_ok {s : List UInt8} {m : Nat} {sub : St → Res} (hsub : ∀ st, st.1 ≤ s.length → Ok s st (sub st)) : ∀ (i : Nat) (st : St), st.1 ≤ s.length → Ok s st (impF s m sub i st) := by
  intro i
  induction i with
  | zero => intro st h; exact orF_ok hsub st h
  | succ i ih =>
    intro st h
    unfold impF
    obtain ⟨g1, g2, g3⟩ := orF_ok (m := m) hsub st h
    dsimp only
    split
    · rename_i hs
      have hlt := sees_lt hs
      obtain ⟨k1, k2, k3⟩ := ih (step (orF s m sub st).2) (by simp only [step]; omega)
      simp only [step] at k1 k2 k3
      refine ⟨by simp only [step]; omega, by simp only [step]; omega, ?_⟩
      simp only [join, List.length_cons, List.length_append, step]
      omega
    · exact ⟨g1, g2, g3⟩
theorem preF_ok {s : List UInt8} {m : Nat} : ∀ (f : Nat) (st : St), st.1 ≤ s.length → Ok s st (preF s m f st) := by
  intro f
  induction f with
  | zero => intro st h; exact ⟨Nat.le_refl _, h, by simp [preF, falsum]⟩
  | succ f ih =>
    intro st h
    unfold preF
    split
    · rename_i hs
      have hlt := sees_lt hs
      obtain ⟨k1, k2, k3⟩ := ih (step st) (by simp only [step]; omega)
      simp only [step] at k1 k2 k3
      refine ⟨by simp only [step]; omega, by simp only [step]; omega, ?_⟩
      simp only [neg, join, falsum, List.length_cons, List.length_append, List.length_nil, step]
      omega
    split
    · rename_i hs
      have hlt := sees_lt hs
      obtain ⟨n1, n2⟩ := need_pos (s := s) (st := step st) (c := 93) (by simp only [step]; omega)
      obtain ⟨k1, k2, k3⟩ := ih (need s (step st) 93) n2
      have e : (step st).1 = st.1 + 1 := rfl
      refine ⟨by simp only; omega, by simp only; omega, ?_⟩
      simp only [pre, List.length_cons]
      omega
    split
    · rename_i hs
      have hlt := sees_lt hs
      obtain ⟨n1, n2⟩ := need_pos (s := s) (st := step st) (c := 62) (by simp only [step]; omega)
      obtain ⟨k1, k2, k3⟩ := ih (need s (step st) 62) n2
      have e : (step st).1 = st.1 + 1 := rfl
      refine ⟨by simp only; omega, by simp only; omega, ?_⟩
      simp only [pre, List.length_cons]
      omega
    split
    · rename_i hs
      have hlt := sees_lt hs
      exact ⟨by simp only [step]; omega, by simp only [step]; omega, by simp [falsum]⟩
    split
    · rename_i hs
      have hlt := sees_lt hs
      exact ⟨by simp only [step]; omega, by simp only [step]; omega, by simp only [truth, step, List.length_cons, List.length_nil]; omega⟩
    split
    · rename_i hs
      have hlt := sees_lt hs
      obtain ⟨k1, k2, k3⟩ := impF_ok (m := m) ih m (step st) (by simp only [step]; omega)
      obtain ⟨n1, n2⟩ := need_pos (s := s) (st := (impF s m (preF s m f) m (step st)).2) (c := 41) k2
      have e : (step st).1 = st.1 + 1 := rfl
      refine ⟨by simp only; omega, n2, ?_⟩
      simp only
      omega
    split
    · rename_i v hv
      have hlt := sees_lt (letter_some hv).2
      exact ⟨by simp only [step]; omega, by simp only [step]; omega, by simp [vari]⟩
    · exact ⟨Nat.le_refl _, h, by simp [falsum]⟩

theorem parse_ok (s : List UInt8) (m : Nat) : Ok s (0, false) (parse s m) := impF_ok (fun st h => preF_ok m st h) m (0, false) (by simp)

theorem preF_not {s : List UInt8} {m f : Nat} {st : St} (h : sees s st 126 = true) : preF s m (f + 1) st = (neg (preF s m f (step st)).1, (preF s m f (step st)).2) := by
  rw [preF, if_pos h]
theorem preF_box {s : List UInt8} {m f : Nat} {st : St} (h : sees s st 91 = true) : preF s m (f + 1) st = (pre 5 (preF s m f (need s (step st) 93)).1, (preF s m f (need s (step st) 93)).2) := by
  rw [preF, if_neg (by rw [sees_other h (by decide)]; decide), if_pos h]
theorem preF_dia {s : List UInt8} {m f : Nat} {st : St} (h : sees s st 60 = true) : preF s m (f + 1) st = (pre 6 (preF s m f (need s (step st) 62)).1, (preF s m f (need s (step st) 62)).2) := by
  rw [preF, if_neg (by rw [sees_other h (by decide)]; decide), if_neg (by rw [sees_other h (by decide)]; decide), if_pos h]
theorem preF_fls {s : List UInt8} {m f : Nat} {st : St} (h : sees s st 70 = true) : preF s m (f + 1) st = (falsum, step st) := by
  rw [preF, if_neg (by rw [sees_other h (by decide)]; decide), if_neg (by rw [sees_other h (by decide)]; decide), if_neg (by rw [sees_other h (by decide)]; decide), if_pos h]
theorem preF_tru {s : List UInt8} {m f : Nat} {st : St} (h : sees s st 84 = true) : preF s m (f + 1) st = (truth, step st) := by
  rw [preF, if_neg (by rw [sees_other h (by decide)]; decide), if_neg (by rw [sees_other h (by decide)]; decide), if_neg (by rw [sees_other h (by decide)]; decide), if_neg (by rw [sees_other h (by decide)]; decide), if_pos h]
theorem preF_par {s : List UInt8} {m f : Nat} {st : St} (h : sees s st 40 = true) : preF s m (f + 1) st = ((impF s m (preF s m f) m (step st)).1, need s (impF s m (preF s m f) m (step st)).2 41) := by
  rw [preF, if_neg (by rw [sees_other h (by decide)]; decide), if_neg (by rw [sees_other h (by decide)]; decide), if_neg (by rw [sees_other h (by decide)]; decide), if_neg (by rw [sees_other h (by decide)]; decide), if_neg (by rw [sees_other h (by decide)]; decide), if_pos h]
theorem sees_low {s : List UInt8} {st : St} {v : Nat} {c : UInt8} (h : letter s st = some v) (hc : c.toNat < 112 ∨ 117 < c.toNat) : sees s st c = false := by
  refine sees_other (letter_some h).2 fun e => ?_
  have := (letter_some h).1
  have h2 : (UInt8.ofNat (112 + v)).toNat = 112 + v := by rw [UInt8.toNat_ofNat']; omega
  rw [e] at h2
  omega
theorem preF_var {s : List UInt8} {m f : Nat} {st : St} {v : Nat} (h : letter s st = some v) : preF s m (f + 1) st = (vari v, step st) := by
  rw [preF, if_neg (by rw [sees_low h (by decide)]; decide), if_neg (by rw [sees_low h (by decide)]; decide), if_neg (by rw [sees_low h (by decide)]; decide), if_neg (by rw [sees_low h (by decide)]; decide), if_neg (by rw [sees_low h (by decide)]; decide), if_neg (by rw [sees_low h (by decide)]; decide), h]
theorem preF_bad {s : List UInt8} {m f : Nat} {st : St} (h1 : sees s st 126 = false) (h2 : sees s st 91 = false) (h3 : sees s st 60 = false) (h4 : sees s st 70 = false) (h5 : sees s st 84 = false) (h6 : sees s st 40 = false) (h : letter s st = none) : preF s m (f + 1) st = (falsum, (st.1, true)) := by
  rw [preF, if_neg (by rw [h1]; decide), if_neg (by rw [h2]; decide), if_neg (by rw [h3]; decide), if_neg (by rw [h4]; decide), if_neg (by rw [h5]; decide), if_neg (by rw [h6]; decide), h]
theorem impF_yes {s : List UInt8} {m i : Nat} {sub : St → Res} {st : St} (h : sees s (orF s m sub st).2 62 = true) : impF s m sub (i + 1) st = (join 4 (orF s m sub st).1 (impF s m sub i (step (orF s m sub st).2)).1, (impF s m sub i (step (orF s m sub st).2)).2) := by
  rw [impF]; dsimp only; rw [if_pos h]
theorem impF_no {s : List UInt8} {m i : Nat} {sub : St → Res} {st : St} (h : sees s (orF s m sub st).2 62 = false) : impF s m sub (i + 1) st = orF s m sub st := by
  rw [impF]; dsimp only; rw [if_neg (by rw [h]; decide)]

end Fm
end Go.Proofs.YtphljdhacbpkbaaGreat

/- Formulas as trees, their lists of nodes and their texts. No program is in sight. -/
namespace Go.Proofs.YtphljdhacbpkbaaGreat
namespace Fm

inductive Tree where
  | var (v : Fin 6)
  | fls
  | and (a b : Tree)
  | or (a b : Tree)
  | imp (a b : Tree)
  | box (a : Tree)
  | dia (a : Tree)

/-- The list of the nodes. -/
def enc : Tree → List Nd
  | .var v => [(0, (v.val : Int))]
  | .fls => [(1, 0)]
  | .and a b => (2, 0) :: (enc a ++ enc b)
  | .or a b => (3, 0) :: (enc a ++ enc b)
  | .imp a b => (4, 0) :: (enc a ++ enc b)
  | .box a => (5, 0) :: enc a
  | .dia a => (6, 0) :: enc a

theorem enc_pos (t : Tree) : 1 ≤ (enc t).length := by cases t <;> simp [enc]

def isF : Tree → Bool
  | .fls => true
  | _ => false
theorem isF_eq {t : Tree} (h : isF t = true) : t = .fls := by cases t <;> simp_all [isF]

/-- How many parts the nodes of a kind have. -/
def arity (k : Int) : Nat := if k = 2 ∨ k = 3 ∨ k = 4 then 2 else if k = 5 ∨ k = 6 then 1 else 0
theorem arity_le (k : Int) : arity k ≤ 2 := by unfold arity; split; omega; split <;> omega

/-- How many nodes are read till no part is open. -/
def scan : List Nd → Nat → Option Nat
  | _, 0 => some 0
  | [], _ + 1 => none
  | x :: xs, o + 1 => (scan xs (o + arity x.1)).map (· + 1)

theorem scan_zero (xs : List Nd) : scan xs 0 = some 0 := by cases xs <;> rfl
theorem scan_nil (o : Nat) : scan [] (o + 1) = none := rfl
theorem scan_cons (x : Nd) (xs : List Nd) (o : Nat) : scan (x :: xs) (o + 1) = (scan xs (o + arity x.1)).map (· + 1) := rfl

theorem scan_enc (t : Tree) : ∀ (rest : List Nd) (o : Nat), scan (enc t ++ rest) (o + 1) = (scan rest o).map (· + (enc t).length) := by
  induction t with
  | var v => intro rest o; simp [enc, scan_cons, arity]
  | fls => intro rest o; simp [enc, scan_cons, arity]
  | and a b iha ihb =>
    intro rest o
    simp only [enc, List.cons_append, scan_cons, List.append_assoc]
    rw [show arity 2 = 2 from rfl, show o + 2 = (o + 1) + 1 from rfl, iha, ihb]
    cases scan rest o <;> simp; omega
  | or a b iha ihb =>
    intro rest o
    simp only [enc, List.cons_append, scan_cons, List.append_assoc]
    rw [show arity 3 = 2 from rfl, show o + 2 = (o + 1) + 1 from rfl, iha, ihb]
    cases scan rest o <;> simp; omega
  | imp a b iha ihb =>
    intro rest o
    simp only [enc, List.cons_append, scan_cons, List.append_assoc]
    rw [show arity 4 = 2 from rfl, show o + 2 = (o + 1) + 1 from rfl, iha, ihb]
    cases scan rest o <;> simp; omega
  | box a iha =>
    intro rest o
    simp only [enc, List.cons_append, scan_cons]
    rw [show arity 5 = 1 from rfl, iha]
    cases scan rest o <;> simp; omega
  | dia a iha =>
    intro rest o
    simp only [enc, List.cons_append, scan_cons]
    rw [show arity 6 = 1 from rfl, iha]
    cases scan rest o <;> simp; omega
theorem scan_one (t : Tree) (rest : List Nd) : scan (enc t ++ rest) 1 = some (enc t).length := by
  rw [scan_enc t rest 0, scan_zero]; simp
theorem scan_le : ∀ (xs : List Nd) (o n : Nat), scan xs o = some n → n ≤ xs.length := by
  intro xs
  induction xs with
  | nil => intro o n h; cases o with
    | zero => simp [scan_zero] at h; omega
    | succ o => simp [scan_nil] at h
  | cons x xs ih => intro o n h; cases o with
    | zero => simp [scan_zero] at h; omega
    | succ o =>
      rw [scan_cons] at h
      cases hs : scan xs (o + arity x.1) with
      | none => rw [hs] at h; simp at h
      | some m => rw [hs] at h; simp at h; have := ih _ _ hs; simp; omega

/-- The level of the grammar at which a text stands. -/
def own : Tree → Nat
  | .and _ _ => 2
  | .or _ _ => 1
  | .imp _ b => if isF b then 3 else 0
  | _ => 3
def wrap (l o : Nat) (s : List UInt8) : List UInt8 := if o < l then [40] ++ s ++ [41] else s
/-- The text at a level. -/
def txt : Tree → Nat → List UInt8
  | .var v, _ => [UInt8.ofNat (112 + v.val)]
  | .fls, _ => [70]
  | .and a b, l => wrap l 2 (txt a 2 ++ [38] ++ txt b 3)
  | .or a b, l => wrap l 1 (txt a 1 ++ [124] ++ txt b 2)
  | .imp a b, l => if isF b then (if isF a then [84] else [126] ++ txt a 3) else wrap l 0 (txt a 1 ++ [62] ++ txt b 0)
  | .box a, _ => [91, 93] ++ txt a 3
  | .dia a, _ => [60, 62] ++ txt a 3

theorem wrap_len (l o : Nat) (s : List UInt8) : (wrap l o s).length ≤ s.length + 2 := by
  unfold wrap; split <;> simp
theorem txt_len (t : Tree) : ∀ l, (txt t l).length ≤ 4 * (enc t).length := by
  induction t with
  | var v => intro l; simp [txt, enc]
  | fls => intro l; simp [txt, enc]
  | and a b iha ihb =>
    intro l
    have := wrap_len l 2 (txt a 2 ++ [38] ++ txt b 3)
    have h1 := iha 2
    have h2 := ihb 3
    simp only [txt, enc, List.length_cons, List.length_append, List.length_nil] at *
    omega
  | or a b iha ihb =>
    intro l
    have := wrap_len l 1 (txt a 1 ++ [124] ++ txt b 2)
    have h1 := iha 1
    have h2 := ihb 2
    simp only [txt, enc, List.length_cons, List.length_append, List.length_nil] at *
    omega
  | imp a b iha ihb =>
    intro l
    have := wrap_len l 0 (txt a 1 ++ [62] ++ txt b 0)
    have h1 := iha 1
    have h2 := ihb 0
    have h3 := iha 3
    have h4 := enc_pos a
    simp only [txt]
    split
    · split
      · simp [enc]; omega
      · simp only [enc, List.length_cons, List.length_append, List.length_nil]; omega
    · simp only [enc, List.length_cons, List.length_append, List.length_nil] at *; omega
  | box a iha =>
    intro l
    have h3 := iha 3
    simp only [txt, enc, List.length_cons, List.length_append, List.length_nil]; omega
  | dia a iha =>
    intro l
    have h3 := iha 3
    simp only [txt, enc, List.length_cons, List.length_append, List.length_nil]; omega

theorem arity_enc (t : Tree) : ∃ x rest, enc t = x :: rest := by cases t <;> exact ⟨_, _, rfl⟩

/-- Every list that the parser makes is that of a tree. -/
def IsEnc (xs : List Nd) : Prop := ∃ t, xs = enc t
theorem isEnc_join {k : Int} {a b : List Nd} (hk : k = 2 ∨ k = 3 ∨ k = 4) (ha : IsEnc a) (hb : IsEnc b) : IsEnc (join k a b) := by
  obtain ⟨s, rfl⟩ := ha
  obtain ⟨t, rfl⟩ := hb
  rcases hk with rfl | rfl | rfl
  · exact ⟨.and s t, rfl⟩
  · exact ⟨.or s t, rfl⟩
  · exact ⟨.imp s t, rfl⟩
theorem isEnc_pre {k : Int} {a : List Nd} (hk : k = 5 ∨ k = 6) (ha : IsEnc a) : IsEnc (pre k a) := by
  obtain ⟨s, rfl⟩ := ha
  rcases hk with rfl | rfl
  · exact ⟨.box s, rfl⟩
  · exact ⟨.dia s, rfl⟩
theorem isEnc_falsum : IsEnc falsum := ⟨.fls, rfl⟩
theorem loop_enc {s : List UInt8} {k : Int} {c : UInt8} {sub : St → Res} (hk : k = 2 ∨ k = 3 ∨ k = 4) (hsub : ∀ st, IsEnc (sub st).1) : ∀ (m : Nat) (a : List Nd) (st : St), IsEnc a → IsEnc (loop s k c sub m a st).1 := by
  intro m
  induction m with
  | zero => intro a st h; exact h
  | succ m ih =>
    intro a st h
    unfold loop
    split
    · exact ih _ _ (isEnc_join hk h (hsub _))
    · exact h
theorem andF_enc {s : List UInt8} {m : Nat} {sub : St → Res} (hsub : ∀ st, IsEnc (sub st).1) (st : St) : IsEnc (andF s m sub st).1 := loop_enc (.inl rfl) hsub _ _ _ (hsub st)
theorem orF_enc {s : List UInt8} {m : Nat} {sub : St → Res} (hsub : ∀ st, IsEnc (sub st).1) (st : St) : IsEnc (orF s m sub st).1 := loop_enc (.inr (.inl rfl)) (fun st => andF_enc hsub st) _ _ _ (andF_enc hsub st)
theorem impF_enc {s : List UInt8} {m : Nat} {sub : St → Res} (hsub : ∀ st, IsEnc (sub st).1) : ∀ (i : Nat) (st : St), IsEnc (impF s m sub i st).1 := by
  intro i
  induction i with
  | zero => intro st; exact orF_enc hsub st
  | succ i ih =>
    intro st
    unfold impF
    dsimp only
    split
    · exact isEnc_join (.inr (.inr rfl)) (orF_enc hsub st) (ih _)
    · exact orF_enc hsub st
theorem preF_enc {s : List UInt8} {m : Nat} : ∀ (f : Nat) (st : St), IsEnc (preF s m f st).1 := by
  intro f
  induction f with
  | zero => intro st; exact isEnc_falsum
  | succ f ih =>
    intro st
    unfold preF
    split
    · exact isEnc_join (.inr (.inr rfl)) (ih _) isEnc_falsum
    split
    · exact isEnc_pre (.inl rfl) (ih _)
    split
    · exact isEnc_pre (.inr rfl) (ih _)
    split
    · exact isEnc_falsum
    split
    · exact ⟨.imp .fls .fls, rfl⟩
    split
    · exact impF_enc ih _ _
    split
    · rename_i v hv
      exact ⟨.var ⟨v, (letter_some hv).1⟩, rfl⟩
    · exact isEnc_falsum
theorem parse_enc (s : List UInt8) (m : Nat) : IsEnc (parse s m).1 := impF_enc (fun st => preF_enc m st) m _

end Fm
end Go.Proofs.YtphljdhacbpkbaaGreat

/- The drawn formula: l02Draw gives a tree of at most as many nodes as told. -/
namespace Go.Proofs.YtphljdhacbpkbaaGreat
open Go.RowKit
open Fm (Nd)

theorem isEnc_vari {r : Int} (h0 : 0 ≤ r) (h1 : r < 6) : Fm.IsEnc (Fm.vari r) :=
  ⟨.var ⟨r.toNat, by omega⟩, by simp [Fm.vari, Fm.enc, Int.toNat_of_nonneg h0]⟩

/-- What the draw gives. -/
def Drawn (w : World) (g : Nat) (cv : Value) (N : Nat) (size : Int) (e : Ending) (w' : World) : Prop :=
  ∃ v xs, e = .returned v ∧ Own w' w.heap.size v xs ∧ Fm.IsEnc xs ∧ (xs.length : Int) ≤ size ∧ Src w' g cv N ∧ Only g w w'

theorem own_src {w w' : World} {B g : Nat} {v : Value} {xs : List Nd} (h : Own w B v xs) (hg : g < B) (ho : Only g w w') : Own w' B v xs :=
  own_only h ho (fun he => by have := own_of_ge h he; omega)

theorem l02Draw_g (g : Nat) (cv : Value) (N : Nat) (vs : Int) (hv0 : 1 ≤ vs) (hv1 : vs ≤ 6) : ∀ (m : Nat) (size : Int) (w : World), 1 ≤ size → size ≤ m → m ≤ 1000 → Src w g cv N →
    Calls Tryz.prog 78 #[.pointer (some ⟨g, 0, none⟩), .int .i64 size, .int .i64 vs, .bool true] w (Drawn w g cv N size) := by
  intro m
  induction m with
  | zero => intro size w h1 h2; omega
  | succ m ih =>
    intro size w h1 h2 hm hS
    have IH := Lib.hid (fun size w a b c => ih size w a b (by omega) c)
    clear ih
    have hgs := hS.lt
    by_cases hsz : size ≤ 2
    · have HSa := Lib.hid hS
      have hoa := Only.refl g w
      clear hS
      go_enter Tryz.func78, Tryz.ntmps78
      go_wp2_with fail
      refine (l01Next_c g cv N 8 _ HSa.out (by omega)).mono ?_
      rintro e wb ⟨r2, rfl, _, _, _, hSb, hob⟩
      have HSb := Lib.hid hSb
      have hab := hoa.trans hob
      clear hSb hob
      cases hr2 : (r2 == 0) with
      | true =>
        go_wp2_with fail
        refine (l02False_c _).mono ?_
        rintro e wc ⟨v, rfl, ho, hg⟩
        go_wp2_with fail
        go_ret
        exact ⟨_, _, rfl, ho.base hab.size, Fm.isEnc_falsum, by simp [Fm.falsum]; omega, HSb.out.grew hg, hab.grew hg⟩
      | false =>
        go_wp2_with fail
        refine (l01Next_c g cv N vs _ HSb.out (by omega)).mono ?_
        rintro e wc ⟨r3, rfl, hr30, hr31, _, hSc, hoc⟩
        have HSc := Lib.hid hSc
        have hac := hab.trans hoc
        clear hSc hoc
        go_wp2_with fail
        refine (l02Var_c r3 _).mono ?_
        rintro e wd ⟨v, rfl, ho, hg⟩
        go_wp2_with fail
        go_ret
        exact ⟨_, _, rfl, ho.base hac.size, isEnc_vari hr30 (by have := hr31 hv0; omega), by simp [Fm.vari]; omega, HSc.out.grew hg, hac.grew hg⟩
    have HS := Lib.hid hS
    clear hS
    go_enter Tryz.func78, Tryz.ntmps78
    go_wp2_with fail
    refine (l01Next_c g cv N 9 _ HS.out (by omega)).mono ?_
    rintro e wa ⟨r1, rfl, _, _, _, hSa, hoa⟩
    have HSa := Lib.hid hSa
    clear hSa HS
    cases hr1 : (r1 == 0) with
    | true =>
      go_wp2_with fail
      refine (l01Next_c g cv N 8 _ HSa.out (by omega)).mono ?_
      rintro e wb ⟨r2, rfl, _, _, _, hSb, hob⟩
      have HSb := Lib.hid hSb
      have hab := hoa.trans hob
      clear hSb hob
      cases hr2 : (r2 == 0) with
      | true =>
        go_wp2_with fail
        refine (l02False_c _).mono ?_
        rintro e wc ⟨v, rfl, ho, hg⟩
        go_wp2_with fail
        go_ret
        exact ⟨_, _, rfl, ho.base hab.size, Fm.isEnc_falsum, by simp [Fm.falsum]; omega, HSb.out.grew hg, hab.grew hg⟩
      | false =>
        go_wp2_with fail
        refine (l01Next_c g cv N vs _ HSb.out (by omega)).mono ?_
        rintro e wc ⟨r3, rfl, hr30, hr31, _, hSc, hoc⟩
        have HSc := Lib.hid hSc
        have hac := hab.trans hoc
        clear hSc hoc
        go_wp2_with fail
        refine (l02Var_c r3 _).mono ?_
        rintro e wd ⟨v, rfl, ho, hg⟩
        go_wp2_with fail
        go_ret
        exact ⟨_, _, rfl, ho.base hac.size, isEnc_vari hr30 (by have := hr31 hv0; omega), by simp [Fm.vari]; omega, HSc.out.grew hg, hac.grew hg⟩
    | false =>
    go_wp2_with fail
    refine (l01Next_c g cv N 3 _ HSa.out (by omega)).mono ?_
    rintro e wb ⟨r2, rfl, _, _, _, hSb, hob⟩
    have HSb := Lib.hid hSb
    have hab := hoa.trans hob
    clear hSb hob hoa HSa
    cases hr2 : (r2 == 0) with
    | true =>
      go_wp2_with fail
      refine (l01Next_c g cv N 2 _ HSb.out (by omega)).mono ?_
      rintro e wc ⟨r3, rfl, hr30, hr31, _, hSc, hoc⟩
      have HSc := Lib.hid hSc
      have hac := hab.trans hoc
      have hr32 := hr31 (by omega)
      clear hSc hoc hr31
      go_wp2_with fail
      refine (IH.out (size - 1) _ (by omega) (by omega) HSc.out).mono ?_
      rintro e wd ⟨v, xs, rfl, ho, he, hl, hSd, hod⟩
      have HSd := Lib.hid hSd
      clear hSd
      have HE := Lib.hid he
      clear he
      go_wp2_with fail
      refine (l02Pre_c _ v xs _ ho.nodes (by omega)).mono ?_
      rintro e we ⟨v2, rfl, ho2, hg2⟩
      go_wp2_with fail
      go_ret
      exact ⟨_, _, rfl, ho2.base (hac.trans hod).size, Fm.isEnc_pre (by omega) HE.out, by simp [Fm.pre]; omega, HSd.out.grew hg2, (hac.trans hod).grew hg2⟩
    | false =>
    go_wp2_with fail
    refine (l01Next_c g cv N 6 _ HSb.out (by omega)).mono ?_
    rintro e wc ⟨r3, rfl, _, _, _, hSc, hoc⟩
    have HSc := Lib.hid hSc
    have hac := hab.trans hoc
    clear hSc hoc hab HSb
    cases hr3 : (r3 == 0) with
    | true =>
      go_wp2_with fail
      refine (IH.out (size - 2) _ (by omega) (by omega) HSc.out).mono ?_
      rintro e wd ⟨v, xs, rfl, ho, he, hl, hSd, hod⟩
      have HSd := Lib.hid hSd
      clear hSd
      have HE := Lib.hid he
      clear he
      go_wp2_with fail
      refine (l02Not_c v xs _ ho.nodes (by omega)).mono ?_
      rintro e we ⟨v2, rfl, ho2, hg2⟩
      go_wp2_with fail
      go_ret
      exact ⟨_, _, rfl, ho2.base (hac.trans hod).size, Fm.isEnc_join (.inr (.inr rfl)) HE.out Fm.isEnc_falsum, by simp [Fm.neg, Fm.join, Fm.falsum]; omega, HSd.out.grew hg2, (hac.trans hod).grew hg2⟩
    | false =>
    go_wp2_with fail
    refine (l01Next_c g cv N (size - 2) _ HSc.out (by omega)).mono ?_
    rintro e wd ⟨r4, rfl, hr40, hr41, _, hSd, hod⟩
    have HSd := Lib.hid hSd
    have had := hac.trans hod
    have hr42 := hr41 (by omega)
    clear hSd hod hac HSc hr41
    go_wp2_with fail
    refine (IH.out (1 + r4) _ (by omega) (by omega) HSd.out).mono ?_
    rintro e we ⟨v1, xs, rfl, ho1, he1, hl1, hSe, hoe⟩
    have HSe := Lib.hid hSe
    have HE1 := Lib.hid he1
    have hsize := had.size
    have hae := had.trans hoe
    have HO1 := Lib.hid ho1
    clear hSe he1 hoe ho1
    go_wp2_with fail
    refine (l01Next_c g cv N 3 _ HSe.out (by omega)).mono ?_
    rintro e wf ⟨r5, rfl, hr50, hr51, _, hSf, hof⟩
    have HSf := Lib.hid hSf
    have HO2 := Lib.hid (own_src HO1.out (by omega) hof)
    have haf := hae.trans hof
    have hr52 := hr51 (by omega)
    clear hSf hof HO1 HSe hr51
    go_wp2_with fail
    refine (IH.out (size - 1 - (1 + r4)) _ (by omega) (by omega) HSf.out).mono ?_
    rintro e wg ⟨v2, ys, rfl, ho2, he2, hl2, hSg, hog⟩
    have HSg := Lib.hid hSg
    have HE2 := Lib.hid he2
    have hO3 := own_src HO2.out (by omega) hog
    have hag := haf.trans hog
    clear hSg he2 hog HSf HO2
    go_wp2_with fail
    refine (l02Pair_c _ v1 v2 xs ys _ hO3.nodes ho2.nodes (by omega)).mono ?_
    rintro e wh ⟨v3, rfl, ho3, hg3⟩
    go_wp2_with fail
    go_ret
    exact ⟨_, _, rfl, ho3.base hag.size, Fm.isEnc_join (by omega) HE1.out HE2.out, by simp [Fm.join]; omega, HSg.out.grew hg3, hag.grew hg3⟩
theorem l02Draw_c (g : Nat) (cv : Value) (N : Nat) : ∀ (m : Nat) (size : Int) (w : World), 1 ≤ size → size ≤ m → m ≤ 1000 → Src w g cv N →
    Calls Tryz.prog 78 #[.pointer (some ⟨g, 0, none⟩), .int .i64 size, .int .i64 6, .bool true] w (Drawn w g cv N size) := l02Draw_g g cv N 6 (by omega) (by omega)
end Go.Proofs.YtphljdhacbpkbaaGreat

/- The tail of a list of nodes. -/
namespace Go.Proofs.YtphljdhacbpkbaaGreat
open Go.RowKit
open Fm (Nd)

theorem nodes_tail {w : World} {b o n c : Nat} {xs : List Nd} (h : Nodes w (.slice (some ⟨b, o, none⟩) n c) xs) (i : Nat) (hi : i ≤ n) (hn : n ≤ c) (hx : xs.length = n) : Nodes w (.slice (if c = i then some ⟨b, o, none⟩ else some ⟨b, o + i * 2, none⟩) (n - i) (c - i)) (xs.drop i) := by
  obtain ⟨h1, h2, h3⟩ := h
  have hl : (xs.drop i).length = n - i := by rw [List.length_drop]; omega
  unfold Nodes
  rw [hl]
  refine ⟨by rw [cells_length, hl], by omega, ?_⟩
  rcases h3 with ⟨h4, _⟩ | ⟨b', o', c', h4, h5, h6, h7, h8⟩
  · cases h4
  · obtain ⟨⟨rfl, rfl⟩, _, rfl⟩ : (b = b' ∧ o = o') ∧ n = xs.length ∧ c = c' := by simpa using h4
    refine .inr ⟨b, if c = i then o else o + i * 2, c - i, by split <;> rfl, by omega, by omega, h7, fun j u hu => ?_⟩
    have hj : j < (cells (xs.drop i)).length := (List.getElem?_eq_some_iff.1 hu).1
    rw [cells_length, hl] at hj
    rw [if_neg (by omega)]
    have e : cells xs = cells (xs.take i) ++ cells (xs.drop i) := by rw [← cells_append, List.take_append_drop]
    have hk : (cells (xs.take i)).length = i * 2 := by rw [cells_length, List.length_take]; congr 1; omega
    have := h8 (i * 2 + j) u (by rw [e, List.getElem?_append_right (by omega), hk]; simpa using hu)
    rw [Nat.add_assoc]
    exact this

end Go.Proofs.YtphljdhacbpkbaaGreat

/- A copy: l02Own of the reference. -/
namespace Go.Proofs.YtphljdhacbpkbaaGreat
open Go.RowKit
open Fm (Nd)

theorem l02Own_c (v : Value) (xs : List Nd) (w : World) (h : Nodes w v xs) (hn : xs.length ≤ 1099511627775) :
    Calls Tryz.prog 136 #[v] w (Gives w xs) := by
  have he : Own (w.alloc (.cells #[] 76)) w.heap.size (.slice (some ⟨w.heap.size, 0, none⟩) 0 0) [] :=
    World.ownsRow_lit (e := 76) (size := 2) w #[] 0 (Nat.le_refl _) (by omega) rfl
  go_enter Tryz.func136, Tryz.ntmps136
  go_wp2_with (first
    | (at_builtin; refine wpList_app (w0 := w) _ _ rfl rfl _ [] rfl he ((Grew.refl w).alloc _) v xs rfl (h.grew ((Grew.refl w).alloc _)) (by simp; omega) ?_; intro v1 w1 hown1 hg1 _))
  go_ret
  exact ⟨_, rfl, by simpa using hown1, hg1⟩
end Go.Proofs.YtphljdhacbpkbaaGreat

/- Drawn lists of nodes: l01Pick, l02Bend, l02Any give an own row of nodes that isn't long; what it holds does not matter. -/
namespace Go.Proofs.YtphljdhacbpkbaaGreat
open Go.RowKit
open Fm (Nd)

theorem l01Pick_c (g : Nat) (cv : Value) (N : Nat) (b : Nat) (w : World) (h : Src w g cv N) (hb : b < w.heap.size) (hne : b ≠ g) (hc : ∀ j, j < 5 → ∃ x : Int, w.cell? ⟨b, j, none⟩ = some (.int .i64 x)) :
    Calls Tryz.prog 71 #[.pointer (some ⟨g, 0, none⟩), .slice (some ⟨b, 0, none⟩) 5 5] w fun e w' => ∃ r : Int, e = .returned (.int .i64 r) ∧ Src w' g cv N ∧ Only g w w' := by
  have HS := Lib.hid h
  have HC := Lib.hid hc
  clear h hc
  go_enter Tryz.func71, Tryz.ntmps71
  go_wp2_with fail
  refine (l01Next_c g cv N 5 _ HS.out (by omega)).mono ?_
  rintro e w1 ⟨r, rfl, hr0, hr1, _, hS1, ho1⟩
  have hr2 := hr1 (by omega)
  obtain ⟨k, rfl⟩ : ∃ k : Nat, r = (k : Int) := ⟨r.toNat, by omega⟩
  obtain ⟨x, hx⟩ := HC.out k (by omega)
  have hx1 := (ho1.cell (p := ⟨b, k, none⟩) hb hne).trans hx
  have HS1 := Lib.hid hS1
  clear hx hS1 hr1
  go_wp2_with fail
  go_ret
  exact ⟨_, rfl, HS1.out, ho1⟩

/-- Stores into an own row. -/
theorem cells_set0 {cur : Array Value} {xs : List Nd} {k : Nat} {a : Int} (hk : k < xs.length) (hs : xs.length * 2 ≤ cur.size)
    (h : ∀ i, i < xs.length → cur[i * 2]? = some (.int .i64 (kd xs i)) ∧ cur[i * 2 + 1]? = some (.int .i64 (sy xs i))) :
    ∀ i, i < (xs.set k (a, sy xs k)).length → (cur.setIfInBounds (k * 2) (.int .i64 a))[i * 2]? = some (.int .i64 (kd (xs.set k (a, sy xs k)) i)) ∧ (cur.setIfInBounds (k * 2) (.int .i64 a))[i * 2 + 1]? = some (.int .i64 (sy (xs.set k (a, sy xs k)) i)) := by
  intro i hi
  rw [List.length_set] at hi
  obtain ⟨h1, h2⟩ := h i hi
  simp only [Array.getElem?_setIfInBounds]
  by_cases he : k = i
  · subst he
    rw [if_pos rfl, if_pos (by omega), if_neg (by omega), h2]
    simp [kd, sy, List.getD, hk]
  · rw [if_neg (by omega), if_neg (by omega), h1, h2]
    simp [kd, sy, List.getD, he]
theorem cells_set1 {cur : Array Value} {xs : List Nd} {k : Nat} {a : Int} (hk : k < xs.length) (hs : xs.length * 2 ≤ cur.size)
    (h : ∀ i, i < xs.length → cur[i * 2]? = some (.int .i64 (kd xs i)) ∧ cur[i * 2 + 1]? = some (.int .i64 (sy xs i))) :
    ∀ i, i < (xs.set k (kd xs k, a)).length → (cur.setIfInBounds (k * 2 + 1) (.int .i64 a))[i * 2]? = some (.int .i64 (kd (xs.set k (kd xs k, a)) i)) ∧ (cur.setIfInBounds (k * 2 + 1) (.int .i64 a))[i * 2 + 1]? = some (.int .i64 (sy (xs.set k (kd xs k, a)) i)) := by
  intro i hi
  rw [List.length_set] at hi
  obtain ⟨h1, h2⟩ := h i hi
  simp only [Array.getElem?_setIfInBounds]
  by_cases he : k = i
  · subst he
    rw [if_neg (by omega), if_pos rfl, if_pos (by omega), h1]
    simp [kd, sy, List.getD, hk]
  · rw [if_neg (by omega), if_neg (by omega), h1, h2]
    simp [kd, sy, List.getD, he]

theorem step_apprdN {P : Program} (w : World) {ops : Array Oper} {o : Oper} {a : Act} {K : Act → World → Prop} {Q : Exit → Act → World → Prop} {E : Prop} (hgd : o.guard = none) (s x : Operand) (t : TypeId)
    (ho : o.op = .call { callee := .builtin .append, args := #[s, x], argTypes := #[t, t] })
    (base : Nat) (e : TypeId) (i : TypeInfo) (z : Value) (size bytes : Nat) (ht : P.underlying t = some (.slice e)) (hi : P.info? e = some i) (hz : i.zero = some z)
    (hsize : i.size = size) (hby : i.bytes = bytes) (hzs : z.cells.size = size) (hsz : 0 < size)
    (v : Value) (n : Nat) (xs : List Value) (hs : a.eval s = v) (hown : w.ownsRow base e size v n xs)
    (vx : Value) (m : Nat) (news : List Value) (hx : a.eval x = vx) (hr : Rd w size vx m news) (h1 : ∀ u ∈ news, u.oneCell' = true)
    (h63 : n + m ≤ maxLen) (hbytes : (n + m) * bytes ≤ 140737488355328) (hbase : base ≤ w.heap.size)
    (h : ∀ v' w', w'.ownsRow base e size v' (n + m) (xs ++ news) → w.grownBy w' v.ownBlock → K (a.put o.dst v') w') :
    if Region.wanted o (yielded ops a.tmps) = true then Oper.wp P o a w K Q else E := by
  have hw : Region.wanted o (yielded ops a.tmps) = true := by simp [Region.wanted, hgd]
  rw [if_pos hw]
  obtain ⟨hl, _, hr⟩ := hr
  rcases hr with ⟨rfl, rfl⟩ | ⟨b, of, c, rfl, _, _, _, hc⟩
  · have hnews : news = [] := List.eq_nil_of_length_eq_zero (by simpa using hl)
    subst hnews
    have hrun := run_append_owned_none (P := P) w base t o.type e i size ht hi v n xs hown
    unfold Oper.wp execOp
    simp only [ho, resolve, invoke, builtin, Sem.run_bind, Sem.run_pure, Result.andThen_ok, List.map_toArray, List.map_cons, List.map_nil, hs, hx, hrun]
    exact h v w (by simpa using hown) (World.grownBy.refl _ _)
  · obtain ⟨v', w', hrun, h2, h3, _, _⟩ := run_append_own_at (P := P) w base t o.type e i z size bytes ht hi hz hsize hby hzs hsz v n xs hown ⟨b, of, none⟩ m c news hl (fun j u hu => by rw [Addr.add_lit]; exact hc j u hu) h1 h63 hbytes hbase
    unfold Oper.wp execOp
    simp only [ho, resolve, invoke, builtin, Sem.run_bind, Sem.run_pure, Result.andThen_ok, List.map_toArray, List.map_cons, List.map_nil, hs, hx, hrun]
    exact h v' w' h2 h3
/-- 'append(out, xs...)' as one step of a region, out an own row of nodes from block B on. -/
theorem step_appN {ops : Array Oper} {o : Oper} {a : Act} {K : Act → World → Prop} {Q : Exit → Act → World → Prop} {E : Prop} {w : World} (B : Nat) (hgd : o.guard = none) (s x : Operand)
    (ho : o.op = .call { callee := .builtin .append, args := #[s, x], argTypes := #[27, 27] })
    (v : Value) (xs : List Nd) (hs : a.eval s = v) (hown : Own w B v xs) (hB : B ≤ w.heap.size) (vx : Value) (ys : List Nd) (hx : a.eval x = vx) (hr : Nodes w vx ys) (hn : xs.length + ys.length ≤ 1099511627776)
    (h : ∀ v' w', Own w' B v' (xs ++ ys) → w.grownBy w' v.ownBlock → K (a.put o.dst v') w') : if Region.wanted o (yielded ops a.tmps) = true then Oper.wp Tryz.prog o a w K Q else E := by
  obtain ⟨i0, hi0, hz0, hz1, hz2⟩ := info_parts Tryz.infoNd
  refine step_apprdN w hgd s x _ ho B 76 i0 _ 2 16 Tryz.underlying27 hi0 hz0 hz1 hz2 rfl (by omega) v xs.length (cells xs) hs hown vx ys.length (cells ys) hx hr (cells_one ys) (big2 hn).1 (big2 hn).2 hB ?_
  intro v' w' h1 h2
  refine h v' w' ?_ h2
  unfold Own
  rw [cells_append, List.length_append]
  exact h1
theorem wpList_appN {ops : Array Oper} {rest : List Oper} {o : Oper} {a : Act} {Q : Exit → Act → World → Prop} {w : World} (B : Nat) (s x : Operand) (hgd : o.guard = none)
    (ho : o.op = .call { callee := .builtin .append, args := #[s, x], argTypes := #[27, 27] })
    (v : Value) (xs : List Nd) (hs : a.eval s = v) (hown : Own w B v xs) (hB : B ≤ w.heap.size) (vx : Value) (ys : List Nd) (hx : a.eval x = vx) (hr : Nodes w vx ys) (hn : xs.length + ys.length ≤ 1099511627776)
    (h : ∀ v' w', Own w' B v' (xs ++ ys) → w.grownBy w' v.ownBlock → wpList Tryz.prog ops Q rest (a.put o.dst v') w') : wpList Tryz.prog ops Q (o :: rest) a w := by
  obtain ⟨i0, hi0, hz0, hz1, hz2⟩ := info_parts Tryz.infoNd
  refine wpList_append_rd w hgd s x _ ho B 76 i0 _ 2 16 Tryz.underlying27 hi0 hz0 hz1 hz2 rfl (by omega) v xs.length (cells xs) hs hown vx ys.length (cells ys) hx hr (cells_one ys) (big2 hn).1 (big2 hn).2 hB ?_
  intro v' w' h1 h2 _
  refine h v' w' ?_ h2
  unfold Own
  rw [cells_append, List.length_append]
  exact h1
theorem Src.other {w w' : World} {g gb : Nat} {v : Value} {N : Nat} (h : Src w g v N) (ho : Only gb w w') (hgb : g < gb) : Src w' g v N := by
  have hl := h.lt
  obtain ⟨⟨h1, h2, h3⟩, i, x, h4, h5, h6, h7⟩ := h
  refine ⟨⟨h1, h2, fun hp => ?_⟩, i, x, h4, h5, h6, (ho.block hl (by omega)).trans h7⟩
  obtain ⟨b, o, c, e, hb, hc, hm, hx⟩ := h3 hp
  refine ⟨b, o, c, e, hb, hc, hm, fun j hj => ?_⟩
  obtain ⟨y, y0, y1, hcell⟩ := hx j hj
  exact ⟨y, y0, y1, (ho.cell (p := ⟨b, o + j, none⟩) (by show b < _; omega) (by show b ≠ gb; omega)).trans hcell⟩
theorem Only.newer {g gb : Nat} {a b c : World} (h : Only g a b) (k : Only gb b c) (hgb : a.heap.size ≤ gb) : Only g a c :=
  ⟨k.os.trans h.os, k.tape.trans h.tape, k.output.trans h.output, Nat.le_trans h.size k.size, fun i hi hne => (k.block (Nat.lt_of_lt_of_le hi h.size) (by omega)).trans (World.grownBy.block h i hi hne)⟩

theorem Src.other2 {w w' : World} {g : Nat} {v : Value} {N : Nat} {r : Option Nat} (h : Src w g v N) (ho : w.grownBy w' r) (hr : ∀ b, r = some b → g < b) : Src w' g v N := by
  cases r with
  | none => exact h.other (gb := w.heap.size) ⟨ho.os, ho.tape, ho.output, ho.size, fun i hi _ => ho.block i hi (by simp)⟩ h.lt
  | some b => exact h.other (gb := b) ho (hr b rfl)
theorem Only.newer2 {g : Nat} {a b c : World} {r : Option Nat} (h : Only g a b) (ho : b.grownBy c r) (hr : ∀ k, r = some k → a.heap.size ≤ k) : Only g a c := by
  cases r with
  | none => exact h.newer (gb := b.heap.size) ⟨ho.os, ho.tape, ho.output, ho.size, fun i hi _ => ho.block i hi (by simp)⟩ h.size
  | some k => exact h.newer (gb := k) ho (hr k rfl)

/-- What the bending gives: an own row of at most as many nodes as told. -/
def Bent (w : World) (g : Nat) (cv : Value) (N : Nat) (n : Nat) (e : Ending) (w' : World) : Prop :=
  ∃ v xs, e = .returned v ∧ Own w' w.heap.size v xs ∧ xs.length ≤ n ∧ Src w' g cv N ∧ Only g w w'

theorem l02Bend_c (g : Nat) (cv : Value) (N : Nat) (v : Value) (xs : List Nd) (w : World) (h : Src w g cv N) (hv : Nodes w v xs) (h0 : 0 < xs.length) (hn : xs.length ≤ 1000) :
    Calls Tryz.prog 79 #[.pointer (some ⟨g, 0, none⟩), v] w (Bent w g cv N (xs.length + 1)) := by
  have HS := Lib.hid h
  have hgl := h.lt
  clear h
  go_enter Tryz.func79, Tryz.ntmps79
  go_wp2_with fail
  refine (l02Own_c _ _ _ hv (by omega)).mono ?_
  rintro e w1 ⟨v1, rfl, ho1, hg1⟩
  obtain ⟨A1, c1, rfl⟩ := nodes_slice ho1.nodes
  have HO1 := Lib.hid ho1
  clear ho1
  go_wp2_with fail
  refine (l01Next_c g cv N xs.length _ (HS.out.grew hg1) (by omega)).mono ?_
  rintro e w2 ⟨r2, rfl, hr20, hr21, _, hS2, ho2⟩
  have hr22 := hr21 (by omega)
  obtain ⟨k, rfl⟩ : ∃ k : Nat, r2 = (k : Int) := ⟨r2.toNat, by omega⟩
  have hk : k < xs.length := by omega
  have HS2 := Lib.hid hS2
  clear hS2 hr21
  go_wp2_with fail
  refine (l01Next_c g cv N 5 _ HS2.out (by omega)).mono ?_
  rintro e w3 ⟨r3, rfl, hr30, hr31, _, hS3, ho3⟩
  have HS3 := Lib.hid hS3
  have hO3 := own_src HO1.out hgl (ho2.trans ho3)
  have hw3 := (hg1.only.trans ho2).trans ho3 (g := g)
  have hr32 := hr31 (by omega)
  clear hS3 HS2 HO1 ho2 ho3 hr31
  cases b0 : (r3 == 0) with
  | true =>
    go_wp2_with fail
    refine (l01Next_c g cv N 9 _ HS3.out (by omega)).mono ?_
    rintro e w4 ⟨r4, rfl, hr40, hr41, _, hS4, ho4⟩
    have hO4 := own_src hO3 hgl ho4
    have HS4 := Lib.hid hS4
    have hr42 := hr41 (by omega)
    have hw4 := hw3.trans ho4
    rcases hO4.open_ with ⟨_, rfl⟩ | ⟨gb, cb, cur, hvb, hBg, hgl4, hblk, hnc, hcm, hcs, hcell⟩
    · simp at h0
    simp only [Value.slice.injEq] at hvb
    obtain ⟨rfl, -, rfl⟩ := hvb
    have hk2 := hcell k hk
    have hcl : w4.cell? ⟨gb, k * 2, none⟩ = some (.int .i64 (kd xs k)) := by rw [blk_cell hblk]; exact hk2.1
    have hfr := blk_frozen hblk (k * 2)
    have HB := Lib.hid hblk
    have HCE := Lib.hid hcell
    clear hblk hcell hO4 hO3 hS4 hr41 hk2
    go_wp2_with fail
    go_ret
    refine ⟨_, xs.set k (r4 - 1, sy xs k), rfl, ?_, by simp, ?_, ?_⟩
    · have := Own.mk_ (w := w4.setCell ⟨gb, k * 2, none⟩ (.int .i64 (r4 - 1))) (B := w.heap.size) (xs := xs.set k (r4 - 1, sy xs k)) (c := c1) hBg (blk_set HB.out (k * 2) _) (by simpa using hnc) hcm (by simpa using hcs) (cells_set0 hk (by omega) HCE.out)
      simpa using this
    · exact HS4.out.other ((Only.refl gb w4).setCell _) (by omega)
    · exact hw4.newer ((Only.refl gb w4).setCell _) hBg
  | false =>
  cases b1 : (r3 == 1) with
  | true =>
    have hnew := fun o => blk_new w3 o
    have hal := fun o => (Grew.refl w3).alloc o
    go_wp2_with fail
    refine (l01Pick_c g cv N w3.heap.size _ (HS3.out.grew (hal _)) (blk_lt (hnew _)) (by have := HS3.out.lt; omega) (fun j hj => ?_)).mono ?_
    · rw [blk_cell (hnew _)]
      rcases (by omega : j = 0 ∨ j = 1 ∨ j = 2 ∨ j = 3 ∨ j = 4) with rfl | rfl | rfl | rfl | rfl <;> exact ⟨_, rfl⟩
    rintro e w4 ⟨r4, rfl, hS4, ho4⟩
    have hO4 := own_src (hO3.grew (hal _)) hgl ho4
    have hw4 := (hw3.trans (hal _).only).trans ho4 (g := g)
    have HS4 := Lib.hid hS4
    rcases hO4.open_ with ⟨_, rfl⟩ | ⟨gb, cb, cur, hvb, hBg, hgl4, hblk, hnc, hcm, hcs, hcell⟩
    · simp at h0
    simp only [Value.slice.injEq] at hvb
    obtain ⟨rfl, -, rfl⟩ := hvb
    have hk2 := hcell k hk
    have hcl : w4.cell? ⟨gb, k * 2 + 1, none⟩ = some (.int .i64 (sy xs k)) := by rw [blk_cell hblk]; exact hk2.2
    have hfr := blk_frozen hblk (k * 2 + 1)
    have HB := Lib.hid hblk
    have HCE := Lib.hid hcell
    clear hblk hcell hO4 hO3 hS4 hk2 hnew hal ho4
    go_wp2_with fail
    go_ret
    refine ⟨_, xs.set k (kd xs k, r4), rfl, ?_, by simp, ?_, ?_⟩
    · have := Own.mk_ (w := w4.setCell ⟨gb, k * 2 + 1, none⟩ (.int .i64 r4)) (B := w.heap.size) (xs := xs.set k (kd xs k, r4)) (c := c1) hBg (blk_set HB.out (k * 2 + 1) _) (by simpa using hnc) hcm (by simpa using hcs) (cells_set1 hk (by omega) HCE.out)
      simpa using this
    · exact HS4.out.other ((Only.refl gb w4).setCell _) (by omega)
    · exact hw4.newer ((Only.refl gb w4).setCell _) hBg
  | false =>
  cases b2 : (r3 == 2) with
  | true =>
    go_wp2_with fail
    refine (l01Next_c g cv N 7 _ HS3.out (by omega)).mono ?_
    rintro e w4 ⟨r4, rfl, hr40, hr41, _, hS4, ho4⟩
    have hO4 := own_src hO3 hgl ho4
    have HS4 := Lib.hid hS4
    have HO4 := Lib.hid (hO4.grew ((Grew.refl w4).alloc (.cells #[.int .i64 r4, .int .i64 0] 76)))
    have hw4 := hw3.trans ho4
    have hone := Own.one w4 w4.heap.size r4 0 (Nat.le_refl _)
    clear hS4 ho4 hO3 hO4 hr41
    go_wp2_with (first
      | (at_builtin; refine wpList_appN w.heap.size _ _ rfl rfl _ xs rfl HO4.out (Nat.le_trans hw4.size ((Grew.refl w4).alloc _).size) _ [(r4, 0)] rfl hone.nodes (by simp; omega) ?_; intro v5 w5 hown5 hg5))
    go_ret
    refine ⟨_, _, rfl, hown5, by simp, ?_, ?_⟩
    · exact (HS4.out.grew ((Grew.refl w4).alloc _)).other2 hg5 (fun b hb => Nat.lt_of_lt_of_le hgl (own_of_ge HO4.out hb))
    · exact (hw4.grew ((Grew.refl w4).alloc _)).newer2 hg5 (fun b hb => own_of_ge HO4.out hb)
  | false =>
  cases b3 : (r3 == 3) with
  | true =>
    have i1 : (k : Int) ≤ (c1 : Int) := by
      have := hO3.nodes.open_
      rcases this with ⟨_, rfl⟩ | ⟨b, o, c, hv, hc, _⟩
      · simp at h0
      · simp only [Value.slice.injEq] at hv
        obtain ⟨-, -, rfl⟩ := hv
        omega
    rcases hO3.open_ with ⟨_, rfl⟩ | ⟨gb, cb, cur, hvb, hBg, hgl4, hblk, hnc, hcm, hcs, hcell⟩
    · simp at h0
    simp only [Value.slice.injEq] at hvb
    obtain ⟨rfl, -, rfl⟩ := hvb
    have HB := Lib.hid hblk
    have HCE := Lib.hid hcell
    clear hblk hcell hO3
    go_wp2_with fail
    go_ret
    refine ⟨_, xs.take k, rfl, ?_, by rw [List.length_take]; omega, HS3.out, hw3⟩
    have hl : (xs.take k).length = k := by rw [List.length_take]; omega
    have := Own.mk_ (w := w3) (B := w.heap.size) (xs := xs.take k) (c := c1) hBg HB.out (by omega) hcm hcs (fun i hi => ?_)
    · rw [hl] at this
      exact this
    · rw [hl] at hi
      have := HCE.out i (by omega)
      simpa [kd, sy, List.getD, hi] using this
  | false =>
  cases b4 : (r3 == 4) with
  | true =>
    rcases hO3.open_ with ⟨_, rfl⟩ | ⟨gb, cb, cur, hvb, hBg, hgl4, hblk, hnc, hcm, hcs, hcell⟩
    · simp at h0
    simp only [Value.slice.injEq] at hvb
    obtain ⟨rfl, -, rfl⟩ := hvb
    have i1 : (k : Int) ≤ (c1 : Int) := by omega
    have i2 : (k : Int) + 1 ≤ (xs.length : Int) := by omega
    have i3 : (0 : Int) ≤ (k : Int) + 1 := by omega
    have i4 : IntKind.i64.wrap ((k : Int) + 1) = (k : Int) + 1 := by rw [IntKind.wrap_i64]; omega
    have hl : (xs.take k).length = k := by rw [List.length_take]; omega
    have hown0 : Own w3 w.heap.size (.slice (some ⟨gb, 0, none⟩) k c1) (xs.take k) := by
      have := Own.mk_ (w := w3) (B := w.heap.size) (xs := xs.take k) (c := c1) hBg hblk (by omega) hcm hcs (fun i hi => ?_)
      · rw [hl] at this
        exact this
      · rw [hl] at hi
        have := hcell i (by omega)
        simpa [kd, sy, List.getD, hi] using this
    have R2 := nodes_tail hO3.nodes (k + 1) (by omega) hnc rfl
    have hr0 := Grew.refl w3
    have HOW := Lib.hid (fun W (hW : Grew w3 W) => hown0.grew hW)
    have HR2 := Lib.hid (fun W (hW : Grew w3 W) => R2.grew hW)
    clear hblk hcell hown0 R2 hO3
    go_wp2_with fail
    have hsz := Nat.le_trans hw3.size (Nat.le_refl _)
    have ho1 := HOW.out _ hr0.drew
    have ho2 := HR2.out _ hr0.drew
    have hlk : (xs.take k).length + (xs.drop (k + 1)).length ≤ 1099511627776 := by simp; omega
    go_region_law (refine step_appN (w := w3.drew) w.heap.size rfl (.tmp 50) (.tmp 54) rfl (.slice (some ⟨gb, 0, none⟩) k c1) (xs.take k) (by simp [Act.eval, Act.put]) ho1 hsz (.slice (if c1 = k + 1 then some ⟨gb, 0, none⟩ else some ⟨gb, 0 + (k + 1) * 2, none⟩) (xs.length - (k + 1)) (c1 - (k + 1))) (xs.drop (k + 1)) (by simp [Act.eval, Act.put]) ho2 hlk ?_; intro v4 w4 hown4 hg4)
    go_wp2_with fail
    all_goals
      go_ret
      exact ⟨_, _, rfl, hown4, by simp; omega, HS3.out.grew hr0.drew |>.other2 hg4 (fun b hb => by simp [Value.ownBlock] at hb; omega), (hw3.grew hr0.drew).newer2 hg4 (fun b hb => by simp [Value.ownBlock] at hb; omega)⟩
  | false =>
    simp only [beq_eq_false_iff_ne, ne_eq] at b0 b1 b2 b3 b4
    omega

theorem isEnc_pos {xs : List Nd} (h : Fm.IsEnc xs) : 0 < xs.length := by
  obtain ⟨t, rfl⟩ := h
  cases t <;> simp [Fm.enc]

def slen : Value → Nat
  | .slice _ n _ => n
  | _ => 0

theorem l02Any_g (g : Nat) (cv : Value) (N : Nat) (sz vs : Int) (hz0 : 1 ≤ sz) (hz1 : sz ≤ 20) (hv0 : 1 ≤ vs) (hv1 : vs ≤ 6) (w : World) (h : Src w g cv N) :
    Calls Tryz.prog 43 #[.pointer (some ⟨g, 0, none⟩), .int .i64 sz, .int .i64 vs, .bool true] w (Bent w g cv N 47) := by
  have HS := Lib.hid h
  have hgl := h.lt
  clear h
  go_enter Tryz.func43, Tryz.ntmps43
  go_wp2_with fail
  refine (l02Draw_g g cv N vs hv0 hv1 20 sz _ (by omega) (by omega) (by omega) HS.out).mono ?_
  rintro e w1 ⟨v1, xs, rfl, ho1, he1, hl1, hS1, hw1⟩
  have HO1 := Lib.hid ho1
  have HS1 := Lib.hid hS1
  have hp1 := isEnc_pos he1
  clear ho1 hS1 he1
  go_wp2_with fail
  refine (l01Next_c g cv N 40 _ HS1.out (by omega)).mono ?_
  rintro e w2 ⟨r, rfl, hr0, hr1, _, hS2, ho2⟩
  have HO2 := Lib.hid (own_src HO1.out hgl ho2)
  have HS2 := Lib.hid hS2
  have hw2 := hw1.trans ho2
  clear hS2 ho2 HO1 HS1 hr1
  cases b0 : (r == 0) with
  | true =>
    go_wp2_with fail
    refine (l02Bend_c g cv N v1 xs _ HS2.out HO2.out.nodes hp1 (by omega)).mono ?_
    rintro e w3 ⟨v3, ys, rfl, ho3, hl3, hS3, hw3⟩
    go_wp2_with fail
    go_ret
    exact ⟨_, _, rfl, ho3.base hw2.size, by omega, hS3, hw2.trans hw3⟩
  | false =>
  cases b1 : (r == 1) with
  | false =>
    go_wp2_with fail
    go_ret
    exact ⟨_, _, rfl, HO2.out, by omega, HS2.out, hw2⟩
  | true =>
    go_wp2_with fail
    go_loopw [9] (fun vv wr => ∃ ys, Own wr w.heap.size vv ys ∧ ys.length ≤ 47 ∧ Src wr g cv N ∧ Only g w wr) (fun vv _ => 48 - slen vv)
    case atStart => exact ⟨xs, HO2.out, by omega, HS2.out, hw2⟩
    case round =>
      obtain ⟨ys, hO, hl, hS, hB⟩ := hrel
      obtain ⟨A, c, rfl⟩ := nodes_slice hO.nodes
      have HS := Lib.hid hS
      have HO := Lib.hid hO
      clear hS hO
      cases h40 : decide ((ys.length : Int) ≤ 40) with
      | false =>
        go_wp2_with fail
        go_ret
        exact ⟨_, _, rfl, HO.out, hl, HS.out, hB⟩
      | true =>
        simp only [decide_eq_true_eq] at h40
        go_wp2_with fail
        refine (l01Next_c g cv N 60 _ HS.out (by omega)).mono ?_
        rintro e w3 ⟨r3, rfl, _, _, _, hS3, ho3⟩
        have HO3 := Lib.hid (own_src HO.out hgl ho3)
        have HS3 := Lib.hid hS3
        have hw3 := hB.trans ho3
        clear hS3 ho3 HO HS hB
        by_cases h3 : 0 < r3
        · go_wp2_with fail
          refine (l01Next_c g cv N 3 _ HS3.out (by omega)).mono ?_
          rintro e w4 ⟨r4, rfl, hr40, hr41, _, hS4, ho4⟩
          have HO4 := Lib.hid (own_src HO3.out hgl ho4)
          have HS4 := Lib.hid hS4
          have hw4 := hw3.trans ho4
          have hr42 := hr41 (by omega)
          clear hS4 ho4 HO3 HS3 hw3 hr41
          go_wp2_with fail
          refine (l02Draw_g g cv N vs hv0 hv1 6 6 _ (by omega) (by omega) (by omega) HS4.out).mono ?_
          rintro e w5 ⟨v5, zs, rfl, ho5, he5, hl5, hS5, hw5⟩
          have HO5 := Lib.hid (own_src HO4.out hgl hw5)
          have HS5 := Lib.hid hS5
          have hw6 := hw4.trans hw5
          have hp5 := isEnc_pos he5
          clear hS5 HO4 HS4 hw4 he5
          go_wp2_with fail
          refine (l02Pair_c _ _ v5 ys zs _ HO5.out.nodes ho5.nodes (by omega)).mono ?_
          rintro e w7 ⟨v7, rfl, ho7, hg7⟩
          obtain ⟨A7, c7, rfl⟩ := nodes_slice ho7.nodes
          have HL7 := Lib.hid (show (Fm.join (2 + r4) ys zs).length = 1 + ys.length + zs.length by simp [Fm.join]; omega)
          go_wp2_with fail
          go_roundw
          case rel => exact ⟨_, ho7.base hw6.size, by rw [HL7.out]; omega, HS5.out.grew hg7, hw6.grew hg7⟩
          case measure => simp only [slen]; rw [HL7.out]; omega
        · go_wp2_with fail
          go_ret
          exact ⟨_, _, rfl, HO3.out, hl, HS3.out, hw3⟩
theorem l02Any_c (g : Nat) (cv : Value) (N : Nat) (w : World) (h : Src w g cv N) :
    Calls Tryz.prog 43 #[.pointer (some ⟨g, 0, none⟩), .int .i64 20, .int .i64 6, .bool true] w (Bent w g cv N 47) := l02Any_g g cv N 20 6 (by omega) (by omega) (by omega) (by omega) w h
end Go.Proofs.YtphljdhacbpkbaaGreat

/- Boxes, full masks, implications of sets, plain. No program is in sight. -/
namespace Go.Proofs.YtphljdhacbpkbaaGreat
open Go.RowKit

/-- The elements among the first k that see members of m alone. -/
def bxK (A : List Nat) (m : Nat) : Nat → Nat
  | 0 => 0
  | k + 1 => if dif (nt A k) m = 0 then bxK A m k ||| 2 ^ k else bxK A m k
theorem bxK_yes {A : List Nat} {m k : Nat} (h : decide (dif (nt A k) m = 0) = true) : bxK A m (k + 1) = bxK A m k ||| 2 ^ k := by
  show (if _ then _ else _) = _
  rw [if_pos (of_decide_eq_true h)]
theorem bxK_no {A : List Nat} {m k : Nat} (h : decide (dif (nt A k) m = 0) = false) : bxK A m (k + 1) = bxK A m k := by
  show (if _ then _ else _) = _
  rw [if_neg (of_decide_eq_false h)]
theorem bxK_lt (A : List Nat) (m : Nat) : ∀ k, bxK A m k < 2 ^ k
  | 0 => by show 0 < _; omega
  | k + 1 => by
    have ih := bxK_lt A m k
    have h2 : 2 ^ (k + 1) = 2 * 2 ^ k := by rw [Nat.pow_succ]; omega
    unfold bxK
    split
    · exact or_n (by omega) (by omega)
    · omega
theorem bxK_sm {A : List Nat} {m k : Nat} (h : k ≤ 30) : bxK A m k < 1073741824 := Nat.lt_of_lt_of_le (bxK_lt _ _ _) (pow30' h)
theorem bxK_bit (A : List Nat) (m x : Nat) : ∀ k, (bxK A m k).testBit x = true ↔ x < k ∧ ∀ z, (nt A x).testBit z = true → m.testBit z = true
  | 0 => by show (0 : Nat).testBit x = true ↔ _; simp
  | k + 1 => by
    have ih := bxK_bit A m x k
    have hlt := bxK_lt A m k
    rw [show bxK A m (k + 1) = if dif (nt A k) m = 0 then bxK A m k ||| 2 ^ k else bxK A m k from rfl]
    by_cases hd : dif (nt A k) m = 0
    · rw [if_pos hd, Nat.testBit_or, Bool.or_eq_true, ih, Nat.testBit_two_pow]
      constructor
      · rintro (⟨h1, h2⟩ | h1)
        · exact ⟨by omega, h2⟩
        · obtain rfl : k = x := by simpa using h1
          exact ⟨by omega, dif_zero.1 hd⟩
      · rintro ⟨h1, h2⟩
        by_cases hx : k = x
        · exact .inr (by simp [hx])
        · exact .inl ⟨by omega, h2⟩
    · rw [if_neg hd, ih]
      constructor
      · rintro ⟨h1, h2⟩; exact ⟨by omega, h2⟩
      · rintro ⟨h1, h2⟩
        by_cases hx : x = k
        · exact absurd (dif_zero.2 (hx ▸ h2)) hd
        · exact ⟨by omega, h2⟩
/-- The elements that see members of m alone. -/
def bx (A : List Nat) (m : Nat) : Nat := bxK A m A.length
theorem bx_lt (A : List Nat) (m : Nat) : bx A m < 2 ^ A.length := bxK_lt A m A.length
theorem bx_bit {A : List Nat} {m x : Nat} : (bx A m).testBit x = true ↔ x < A.length ∧ ∀ z, (nt A x).testBit z = true → m.testBit z = true := bxK_bit A m x A.length
theorem and_dif {a m : Nat} : (a &&& m = a) ↔ dif a m = 0 := by
  rw [dif_zero]
  constructor
  · intro h z hz
    rw [← h, Nat.testBit_and] at hz
    simp only [Bool.and_eq_true] at hz
    exact hz.2
  · intro h
    apply Nat.eq_of_testBit_eq
    intro z
    rw [Nat.testBit_and]
    cases hz : a.testBit z with
    | false => rfl
    | true => rw [h z hz]; rfl
theorem dif_le {a b : Nat} : dif a b ≤ a := by
  have h : dif a b &&& a = dif a b := and_dif.2 (dif_zero.2 fun z hz => by rw [dif_bit] at hz; simp only [Bool.and_eq_true] at hz; exact hz.1)
  rw [← h]
  exact Nat.and_le_right
/-- All elements. -/
def full (n : Nat) : Nat := 2 ^ n - 1
theorem full_bit (n x : Nat) : (full n).testBit x = decide (x < n) := Nat.testBit_two_pow_sub_one n x
theorem full_lt (n : Nat) : full n < 2 ^ n := by
  have : 0 < 2 ^ n := Nat.pow_pos (by omega)
  unfold full; omega
theorem full_cast (n : Nat) : ((full n : Nat) : Int) = ((2 ^ n : Nat) : Int) - 1 := by
  have : 0 < 2 ^ n := Nat.pow_pos (by omega)
  unfold full
  generalize 2 ^ n = p at *
  omega
/-- The implication of two sets. -/
def ar (A : List Nat) (a b : Nat) : Nat := bx A (dif (full A.length) a ||| b)
theorem ar_bit {A : List Nat} (hA : Rl A) {a b x : Nat} : (ar A a b).testBit x = true ↔ x < A.length ∧ ∀ z, (nt A x).testBit z = true → a.testBit z = true → b.testBit z = true := by
  unfold ar
  rw [bx_bit]
  constructor
  · rintro ⟨h1, h2⟩
    refine ⟨h1, fun z hz ha => ?_⟩
    have h3 := h2 z hz
    rw [Nat.testBit_or, dif_bit, ha] at h3
    simpa using h3
  · rintro ⟨h1, h2⟩
    refine ⟨h1, fun z hz => ?_⟩
    rw [Nat.testBit_or, dif_bit, full_bit, decide_eq_true (hA.bit h1 hz)]
    cases ha : a.testBit z with
    | false => rfl
    | true => rw [h2 z hz ha]; simp
end Go.Proofs.YtphljdhacbpkbaaGreat

/- FnMonotone: the draw of a poset (l16Shuffle, l16Some); only its shape is told. -/
namespace Go.Proofs.YtphljdhacbpkbaaGreat
open Go.RowKit

/-- 'out = append(out, x)' onto a row of numbers from block B on. -/
theorem wpList_appIB {ops : Array Oper} {rest : List Oper} {o : Oper} {a : Act} {Q : Exit → Act → World → Prop} {w : World} (B : Nat) (s x : Operand) (hgd : o.guard = none)
    (ho : o.op = .call { callee := .builtin .append, args := #[s, x], argTypes := #[24, 24] })
    (v : Value) (L : List Int) (hs : a.eval s = v) (hown : OwnI w B v L) (hB : B ≤ w.heap.size) (vx : Value) (k : Int) (hx : a.eval x = vx) (hr : Rd w 1 vx 1 [.int .i64 k]) (hn : L.length ≤ 1048576)
    (h : ∀ v' w', OwnI w' B v' (L ++ [k]) → w.grownBy w' v.ownBlock → wpList Tryz.prog ops Q rest (a.put o.dst v') w') : wpList Tryz.prog ops Q (o :: rest) a w := by
  obtain ⟨i0, hi0, hz0, hz1, hz2⟩ := info_parts Tryz.infoI
  refine wpList_append_rd w hgd s x _ ho B 2 i0 _ 1 8 Tryz.underlying24 hi0 hz0 hz1 hz2 rfl (by omega) v L.length (icells L) hs hown vx 1 [.int .i64 k] hx hr (by simp [Value.oneCell']) (by unfold maxLen; omega) (by omega) hB ?_
  intro v' w' h1 h2 _
  refine h v' w' ?_ h2
  unfold OwnI
  rw [List.length_append, icells_append]
  exact h1
theorem own_srcI {w w' : World} {B g : Nat} {v : Value} {L : List Int} (h : OwnI w B v L) (hg : g < B) (ho : Only g w w') : OwnI w' B v L :=
  own_only h ho (fun he => by have := own_of_ge h he; omega)
theorem NRow.only {w w' : World} {g gs n c : Nat} {f : Nat → Nat} (h : NRow w g n c f) (ho : Only gs w w') (hne : g ≠ gs) : NRow w' g n c f := by
  have hl := h.lt
  obtain ⟨cur, h1, h2⟩ := h
  exact ⟨cur, (ho.block hl hne).trans h1, h2⟩

/-- The call returns an order of the numbers below n. -/
def GivesMO (g : Nat) (cv : Value) (N : Nat) (n : Nat) (w : World) (e : Ending) (w' : World) : Prop := ∃ v L, e = .returned v ∧ Ints w' v (zs L) ∧ L.length = n ∧ (∀ x ∈ L, x < n) ∧ Src w' g cv N ∧ Only g w w'
theorem l16Shuffle_c (g : Nat) (cv : Value) (N : Nat) (n : Nat) (hn : n ≤ 30) (w : World) (h : Src w g cv N) :
    Calls Tryz.prog 126 #[.pointer (some ⟨g, 0, none⟩), .int .i64 (n : Int)] w (GivesMO g cv N n w) := by
  have HS := Lib.hid h
  have hgl := h.lt
  clear h
  go_enter Tryz.func126, Tryz.ntmps126
  go_wp2_with fail
  go_loopw [5, 6] (fun s i wr => ∃ j : Nat, j ≤ n ∧ i = .int .i64 j ∧ OwnI wr w.heap.size s (zs (List.range j)) ∧ Grew w wr) (fun _ i _ => n - (intOf i).toNat)
  case atStart => exact ⟨0, by omega, rfl, own_emptyI w, (Grew.refl _).alloc _⟩
  case round =>
    obtain ⟨j, hj, rfl, hO, hB⟩ := hrel
    by_cases hlt : j < n
    · have hl : (zs (List.range j)).length ≤ 1048576 := by rw [zs_len, List.length_range]; omega
      have hx : Hid (zs (List.range (j + 1)) = zs (List.range j) ++ [(j : Int)]) := Lib.hid (by rw [List.range_succ, zs_append]; rfl)
      generalize zs (List.range j) = P at *
      go_wp2_with (first | (at_builtin; refine wpList_appI (w0 := w) _ _ rfl rfl _ P rfl (hO.grew (Grew.alloc (Grew.refl _) _)) (hB.alloc _) _ (j : Int) rfl (rd_litI _ _ _) hl ?_; intro v3 w3 hO3 hg3 _))
      go_roundw
      case rel => exact ⟨j + 1, by omega, by go_num, by rw [hx.out]; exact hO3, hg3⟩
      case measure => simp [intOf]; omega
    · obtain rfl : j = n := by omega
      obtain ⟨A, c, rfl⟩ := ints_sliceN hO.ints
      have hO' := hO
      rw [List.length_range] at hO' ⊢
      have HO := Lib.hid hO'
      have HX : Hid (∀ x ∈ List.range j, x < j) := Lib.hid (fun x hx => List.mem_range.1 hx)
      have HLr : Hid ((List.range j).length = j) := Lib.hid (List.length_range)
      generalize List.range j = L0 at *
      have hS1 := Lib.hid (HS.out.grew hB)
      clear hO hO'
      go_wp2_with fail
      go_loopw [7, 8, 9] (fun i _ _ wr => ∃ (k : Int) (L : List Nat), k ≤ (j : Int) - 1 ∧ i = .int .i64 k ∧ Hid (OwnI wr w.heap.size (.slice A j c) (zs L)) ∧ Hid (L.length = j) ∧ Hid (∀ x ∈ L, x < j) ∧ Hid (Src wr g cv N) ∧ Only g w wr) (fun i _ _ _ => (intOf i).toNat)
      case atStart => exact ⟨_, _, Int.le_refl _, rfl, HO, HLr, HX, hS1, hB.only⟩
      case round =>
        obtain ⟨k, L, hk, rfl, hR, hL, hX, hS, hU⟩ := hrel
        by_cases hlk : 0 < k
        · obtain ⟨q, rfl⟩ : ∃ q : Nat, k = q := ⟨k.toNat, by omega⟩
          obtain ⟨gb, rfl, hgb, hNR⟩ := own_nrow hR.out hL.out (by omega)
          have HNR := Lib.hid hNR
          clear hNR
          go_wp2_with fail
          refine (l01Next_c g cv N ((q : Int) + 1) _ hS.out (by omega)).mono ?_
          rintro e w2 ⟨r, rfl, hr0, hr1, _, hS2, ho2⟩
          obtain ⟨p, rfl⟩ : ∃ p : Nat, r = p := ⟨r.toNat, by omega⟩
          have hp := hr1 (by omega)
          have hN2 := HNR.out.only ho2 (by omega)
          have HN2 := Lib.hid hN2
          have HS2 := Lib.hid hS2
          have hU2 := hU.trans ho2
          have hq1 : q < j := by omega
          have hp1 : p < j := by omega
          have c1 := hN2.cell hq1
          have c2 := hN2.cell hp1
          have f1 := hN2.free q
          have f2 := hN2.free p
          have hx1 : Hid (nt L q < j) := Lib.hid (hX.out _ (nt_mem (by rw [hL.out]; exact hq1)))
          have hx2 : Hid (nt L p < j) := Lib.hid (hX.out _ (nt_mem (by rw [hL.out]; exact hp1)))
          have e1 : (fun z => if z = q then nt L p else nt L z) q = nt L p := if_pos rfl
          have e2 : ∀ z, z < j → z ≠ q → (fun z => if z = q then nt L p else nt L z) z = nt L z := fun z _ hz => if_neg hz
          have hN3 := HN2.out.set hq1 e1 e2
          have c3 := hN3.cell hp1
          have f3 := hN3.free p
          generalize (fun z => if z = q then nt L p else nt L z) p = y3 at c3
          have HN3 := Lib.hid hN3
          have E := Lib.hid (And.intro e1 e2)
          clear hS2 hr1 hN2 hN3 e1 e2
          go_wp2_with fail
          have hN3 := HN3.out
          have d1 : (fun z => if z = p then nt L q else (fun z => if z = q then nt L p else nt L z) z) p = nt L q := if_pos rfl
          have d2 : ∀ z, z < j → z ≠ p → (fun z => if z = p then nt L q else (fun z => if z = q then nt L p else nt L z) z) z = (fun z => if z = q then nt L p else nt L z) z := fun z _ hz => if_neg hz
          have hN4 := hN3.set hp1 d1 d2
          go_roundw
          case rel =>
            refine ⟨(q : Int) - 1, _, by omega, by go_num, Lib.hid (hN4.own hgb), Lib.hid (by simp), Lib.hid ?_, Lib.hid ((HS2.out.other (gb := gb) ((Only.refl _ _).setCell _) (by omega)).other (gb := gb) ((Only.refl _ _).setCell _) (by omega)), hU2.newer (gb := gb) (((Only.refl _ _).setCell _).setCell _) hgb⟩
            intro x hx
            rw [List.mem_map] at hx
            obtain ⟨z, hz, rfl⟩ := hx
            have hz2 := List.mem_range.1 hz
            show (if z = p then nt L q else if z = q then nt L p else nt L z) < j
            split
            · exact hx1.out
            · split
              · exact hx2.out
              · exact hX.out _ (nt_mem (by rw [hL.out]; exact hz2))
          case measure => simp [intOf]; omega
        · go_wp2_with fail
          go_ret
          exact ⟨_, L, rfl, hR.out.ints, hL.out, hX.out, hS.out, hU⟩

/-- A drawn poset: its shape. -/
def GivesD (g : Nat) (cv : Value) (N : Nat) (m : Nat) (w : World) (e : Ending) (w' : World) : Prop := ∃ v L, e = .returned (.agg #[.int .i64 (L.length : Int), v]) ∧ OwnI w' w.heap.size v (zs L) ∧ L.length ≤ m ∧ Sm L ∧ Src w' g cv N ∧ Only g w w'
theorem and_sm {a b : Nat} (ha : a < 1073741824) : a &&& b < 1073741824 := Nat.lt_of_le_of_lt Nat.and_le_left ha

set_option maxHeartbeats 1000000 in
theorem l16Some_c (g : Nat) (cv : Value) (N : Nat) (m : Nat) (hm : m ≤ 8) (w : World) (h : Src w g cv N) :
    Calls Tryz.prog 69 #[.pointer (some ⟨g, 0, none⟩), .int .i64 (m : Int)] w (GivesD g cv N m w) := by
  have hinfo := info2P
  have hgl := h.lt
  have HF := Lib.hid (fun (i : Nat) (hi : i ≤ 30) W => show Calls Tryz.prog 42 #[.int .i64 (i : Int)] W fun e w' => e = .returned (.int .i64 ((full i : Nat) : Int)) ∧ w' = W from by
    have h0 := l01Full_q i hi W
    rwa [← full_cast] at h0)
  have HFS := Lib.hid (fun (i : Nat) (hi : i ≤ 30) => show full i < 1073741824 from by
    have := pow30' hi
    have := Nat.pow_pos (n := i) (show 0 < 2 by omega)
    unfold full
    omega)
  have HAN := Lib.hid (fun a b (ha : a < 1073741824) (hb : b < 1073741824) => andNot_i64 a b (by omega) (by omega))
  have HAS := Lib.hid (fun a b (ha : a < 1073741824) => Nat.lt_of_le_of_lt (dif_le (a := a) (b := b)) ha)
  have HND := Lib.hid (fun a b (ha : a < 1073741824) (hb : b < 1073741824) => and_i64 a b (by omega) (by omega))
  have HNS := Lib.hid (fun a b (ha : a < 1073741824) => and_sm (a := a) (b := b) ha)
  have hS0 := h.grew ((Grew.refl w).alloc (.cells #[.int .i64 0, .slice none 0 0] 26))
  have HS := Lib.hid hS0
  have HB0 := Lib.hid (blk_new w (.cells #[.int .i64 0, .slice none 0 0] 26))
  have hU0 := ((Grew.refl w).alloc (.cells #[.int .i64 0, .slice none 0 0] 26)).only (g := g)
  have hsz0 : (w.alloc (.cells #[.int .i64 0, .slice none 0 0] 26)).heap.size = w.heap.size + 1 := by simp
  have HSZ := Lib.hid hsz0
  obtain ⟨w0, hw0⟩ : ∃ w0, w0 = w.alloc (.cells #[.int .i64 0, .slice none 0 0] 26) := ⟨_, rfl⟩
  rw [← hw0] at HS HB0 HSZ hU0
  clear h hS0 hsz0
  go_enter Tryz.func69, Tryz.ntmps69
  go_wp2_with fail
  simp only [← hw0]
  clear hw0
  refine (l01Next_c g cv N ((m : Int) + 1) _ HS.out (by omega)).mono ?_
  rintro e w1 ⟨r, rfl, hr0, hr1, _, hS1, ho1⟩
  obtain ⟨n, rfl⟩ : ∃ n : Nat, r = n := ⟨r.toNat, by omega⟩
  have hnm := hr1 (by omega)
  have HS1 := Lib.hid hS1
  have hs1 := ho1.size
  have HG1 := Lib.hid hs1
  clear hr1 hS1 hs1
  go_wp2_with fail
  refine (l01Next_c g cv N 3 _ (HS1.out.grew ((Grew.refl _).alloc _)) (by omega)).mono ?_
  rintro e w2 ⟨th, rfl, ht0, ht1, _, hS2, ho2⟩
  obtain ⟨th, rfl⟩ : ∃ n : Nat, th = n := ⟨th.toNat, by omega⟩
  have ht2 := ht1 (by omega)
  have HS2 := Lib.hid hS2
  have hU2 := (ho1.alloc (.cells #[] 2)).trans ho2
  have HO2 := Lib.hid (own_srcI (own_emptyI w1) (by have := HG1.out; have := HSZ.out; omega) ho2)
  have HFn := Lib.hid (HF.out n (by omega))
  have hfn := HFS.out n (by omega)
  have HFX := Lib.hid (fun j (hj : j < n) => HF.out (j + 1) (by omega))
  have HFY := Lib.hid (fun j (hj : j < n) => HFS.out (j + 1) (by omega))
  clear hS2 ht1 HS1 HS
  generalize full n = fn at *
  have hB1 : w0.heap.size ≤ w1.heap.size := HG1.out
  go_wp2_with fail
  go_loopw [6, 8, 9, 10] (fun s i _ _ wr => ∃ (j : Nat) (K : List Nat), j ≤ n ∧ i = .int .i64 j ∧ Hid (OwnI wr w1.heap.size s (zs K)) ∧ Hid (K.length = j) ∧ Hid (Sm K) ∧ Hid (Src wr g cv N) ∧ Only g w0 wr ∧ w1.heap.size ≤ wr.heap.size) (fun _ i _ _ _ => n - (intOf i).toNat)
  case atStart => exact ⟨0, [], by omega, rfl, HO2, Lib.hid rfl, Lib.hid Sm.nil_, HS2, hU2, by have := ho2.size; simp at this; omega⟩
  case round =>
    obtain ⟨j, K, hj, rfl, hO, hL, hX, hS, hU, hsz⟩ := hrel
    by_cases hlt : j < n
    · have hF2 := Lib.hid (HFX.out j hlt)
      have hf2 := HFY.out j hlt
      generalize full (j + 1) = fj at *
      go_wp2_with fail
      refine (HFn.out _).mono ?_
      rintro e w3 ⟨rfl, rfl⟩
      go_wp2_with fail
      refine (l01Next_c g cv N ((fn : Int) + 1) _ hS.out (by omega)).mono ?_
      rintro e w4 ⟨r4, rfl, hr40, hr41, _, hS4, ho4⟩
      obtain ⟨a, rfl⟩ : ∃ n : Nat, r4 = n := ⟨r4.toNat, by omega⟩
      have hr42 := hr41 (by omega)
      have ha : a < 1073741824 := by omega
      have hU4 := hU.trans ho4
      have hz4 := Nat.le_trans hsz ho4.size
      have HO4 := Lib.hid (own_srcI hO.out (by have := HSZ.out; omega) ho4)
      have HS4 := Lib.hid hS4
      have han := HAN.out a fj ha hf2
      have hd := HAS.out a fj ha
      generalize dif a fj = d at *
      clear hS4 hr41
      go_wp2_with fail
      refine (hF2.out _).mono ?_
      rintro e w5 ⟨rfl, rfl⟩
      go_wp2_with fail
      go_loopw [9, 10] (fun q i wr => ∃ (k b : Nat), k ≤ th ∧ i = .int .i64 k ∧ q = .int .i64 b ∧ b < 1073741824 ∧ Hid (OwnI wr w1.heap.size u6 (zs K)) ∧ Hid (Src wr g cv N) ∧ Only g w0 wr ∧ w1.heap.size ≤ wr.heap.size) (fun _ i _ => th - (intOf i).toNat)
      case atStart => exact ⟨0, d, by omega, rfl, rfl, hd, HO4, HS4, hU4, hz4⟩
      case round =>
        obtain ⟨k, b, hk, rfl, rfl, hb, hO5, hS5, hU5, hsz5⟩ := hrel
        by_cases hlk : k < th
        · go_wp2_with fail
          refine (HFn.out _).mono ?_
          rintro e w6 ⟨rfl, rfl⟩
          go_wp2_with fail
          refine (l01Next_c g cv N ((fn : Int) + 1) _ hS5.out (by omega)).mono ?_
          rintro e w7 ⟨r7, rfl, hr70, hr71, _, hS7, ho7⟩
          obtain ⟨x, rfl⟩ : ∃ n : Nat, r7 = n := ⟨r7.toNat, by omega⟩
          have hr72 := hr71 (by omega)
          have hnd := HND.out b x hb (by omega)
          have hns := HNS.out b x hb
          generalize b &&& x = y at *
          have HO7 := Lib.hid (own_srcI hO5.out (by have := HSZ.out; omega) ho7)
          have HS7 := Lib.hid hS7
          clear hS7 hr71
          go_wp2_with fail
          go_roundw
          case rel => exact ⟨k + 1, y, by omega, by go_num, rfl, hns, HO7, HS7, hU5.trans ho7, Nat.le_trans hsz5 ho7.size⟩
          case measure => simp [intOf]; omega
        · have hl : (zs K).length ≤ 1048576 := by rw [zs_len, hL.out]; omega
          obtain ⟨P, hP⟩ : ∃ P, P = zs K := ⟨_, rfl⟩
          have hO6 := hO5.out
          rw [← hP] at hO6 hl
          have HPK := Lib.hid hP
          clear hP
          have hg5 := (Grew.refl wr).alloc (.cells #[.int .i64 (b : Int)] 2)
          have hSs := hS5.out
          go_wp2_with (first | (at_builtin; refine wpList_appIB w1.heap.size _ _ rfl rfl _ P rfl (hO6.grew hg5) (Nat.le_trans hsz5 hg5.size) _ (b : Int) rfl (rd_litI _ _ _) hl ?_; intro v8 w8 hO8 hg8))
          have hge := fun k hk => own_of_ge (hO6.grew hg5) (g := k) hk
          have hU8 : Only g w0 w8 := (hU5.grew hg5).newer2 hg8 (fun k hk => Nat.le_trans hB1 (hge k hk))
          go_roundw
          case rel => exact ⟨j + 1, K ++ [b], by omega, by go_num, Lib.hid (by rw [zs_append, zs_one, ← HPK.out]; exact hO8), Lib.hid (by rw [List.length_append, hL.out]; rfl), Lib.hid (hX.out.app hb), Lib.hid ((hSs.grew hg5).other2 hg8 (fun k hk => by have := hge k hk; have := HSZ.out; omega)), hU8, Nat.le_trans (Nat.le_trans hsz5 hg5.size) hg8.size⟩
          case measure => simp [intOf]; omega
    · obtain rfl : j = n := by omega
      have hKR := Lib.hid (fun W (hW : Grew wr W) => l01Reflexive_c u6 K W (hO.out.ints.grew hW) hX.out (by rw [hL.out]; omega))
      rw [hL.out] at hKR
      clear HO2 HFn HFX HFY
      go_wp2_with fail
      refine (hKR.out _ (Grew.refl _)).mono ?_
      rintro e w3 ⟨v3, L3, rfl, hi3, hl3, hm3, hg3⟩
      have hKC := Lib.hid (fun W (hW : Grew w3 W) => l01Closure_c v3 L3 W (hi3.ints.grew hW) hm3 (by omega))
      clear hi3 hm3
      go_wp2_with fail
      refine (hKC.out _ (Grew.refl _)).mono ?_
      rintro e w4 ⟨v4, L4, rfl, hi4, hl4, hm4, hg4⟩
      obtain ⟨A4, c4, rfl⟩ := ints_sliceN hi4.ints
      have hU4 := (hU.grew hg3).grew hg4
      have hs4 := hg3.size
      have HI4 := Lib.hid hi4
      have HM4 := Lib.hid hm4
      have HL4 := Lib.hid (hl4.trans hl3)
      clear hi4 hm4 hl4 hl3 hKC hKR
      generalize hn4 : L4.length = n4 at *
      have HN4 := Lib.hid hn4
      clear hn4
      go_wp2_with fail
      refine (l01Next_c g cv N 2 _ ((hS.out.grew hg3).grew hg4) (by omega)).mono ?_
      rintro e w5 ⟨r, rfl, _, _, _, hS5, ho5⟩
      have hU5 := hU4.trans ho5
      have HI5 := Lib.hid (own_srcI HI4.out (by have := HSZ.out; omega) ho5)
      have HS5 := Lib.hid hS5
      clear hS5 HI4
      cases b0 : (r == 0) with
      | true =>
        have hM := Lib.hid (l16Make_c (.slice A4 n4 c4) (zs L4) w5 HI5.out.ints (by rw [zs_len, HN4.out, HL4.out]; omega))
        go_wp2_with fail
        refine hM.out.mono ?_
        rintro e w6 ⟨v6, rfl, hO6, hg6⟩
        obtain ⟨A6, c6, rfl⟩ := ints_slice hO6.ints
        have hU6 := hU5.grew hg6
        have hb6 : w6.heap[w.heap.size]? = some (.cells #[.int .i64 0, .slice none 0 0] 26 (0, 0)) := (hU6.block (by have := HSZ.out; omega) (by omega)).trans HB0.out
        have c0 : w6.cell? ⟨w.heap.size, 0, none⟩ = some (.int .i64 0) := by rw [blk_cell hb6]; rfl
        have c1 : w6.cell? ⟨w.heap.size, 1, none⟩ = some (.slice none 0 0) := by rw [blk_cell hb6]; rfl
        have f0 := blk_frozen hb6 0
        have f1 := blk_frozen hb6 1
        have HB6 := Lib.hid hb6
        have HO6 := Lib.hid hO6
        clear hb6 hO6
        go_wp2_with fail
        (try simp only [Exit.inBlock, Exit.then])
        refine bodyPost_ret (results_cell_row rfl _ _ w.heap.size _ _ _ _ rfl (blk_set (blk_set HB6.out 0 _) 1 _) Tryz.underlying26 rfl hinfo) rfl ?_
        have hk : Only w.heap.size w6 ((w6.setCell ⟨w.heap.size, 0, none⟩ (.int .i64 ((zs L4).length : Int))).setCell ⟨w.heap.size, 1, none⟩ (.slice A6 (zs L4).length c6)) := ((Only.refl _ _).setCell _).setCell _
        have hz6 : w.heap.size + 1 ≤ w5.heap.size := by have := HSZ.out; have := hU5.size; omega
        have hO7 := own_only HO6.out hk (fun hh => by have := own_of_ge HO6.out hh; omega)
        refine ⟨_, L4, by rw [← zs_len]; rfl, own_base hO7 (by omega), by rw [HN4.out, HL4.out]; omega, HM4.out, (HS5.out.grew hg6).other hk hgl, (hU0.trans hU6).newer hk (Nat.le_refl _)⟩
      | false =>
        go_wp2_with fail
        refine (l16Shuffle_c g cv N j (by omega) w5 HS5.out).mono ?_
        rintro e w5' ⟨v6, L6, rfl, hi6, hl6, hx6, hS6, ho6⟩
        have hU5' := hU5.trans ho6
        have HI6 := Lib.hid (own_srcI HI5.out (by have := HSZ.out; omega) ho6)
        have hR := Lib.hid (l05Renumber_c (.slice A4 n4 c4) v6 L4 L6 w5' HI6.out.ints hi6 HM4.out (fun x hx => by have := hx6 x hx; rw [HN4.out, HL4.out]; exact this) (by rw [HN4.out, HL4.out]; omega) (by omega))
        have HS6 := Lib.hid hS6
        obtain ⟨A6', c6', rfl⟩ := ints_sliceN hi6
        have HL6 := Lib.hid hl6
        clear hi6 hx6 hS6 hl6
        generalize L6.length = n6 at *
        go_wp2_with fail
        refine hR.out.mono ?_
        rintro e w7 ⟨v7, L7, rfl, hi7, hl7, hm7, hg7⟩
        obtain ⟨A7, c7, rfl⟩ := ints_sliceN hi7.ints
        have hU7 := hU5'.grew hg7
        have HM := Lib.hid (l16Make_c (.slice A7 L7.length c7) (zs L7) w7 hi7.ints (by rw [zs_len, hl7, HL6.out]; omega))
        have HM7 := Lib.hid hm7
        have HL7 := Lib.hid (hl7.trans HL6.out)
        clear hi7 hm7 hl7 hR
        generalize hn7 : L7.length = n7 at *
        have HN7 := Lib.hid hn7
        clear hn7
        go_wp2_with fail
        refine HM.out.mono ?_
        rintro e w6 ⟨v6, rfl, hO6, hg6⟩
        obtain ⟨A6, c6, rfl⟩ := ints_slice hO6.ints
        have hU6 := hU7.grew hg6
        have hb6 : w6.heap[w.heap.size]? = some (.cells #[.int .i64 0, .slice none 0 0] 26 (0, 0)) := (hU6.block (by have := HSZ.out; omega) (by omega)).trans HB0.out
        have c0 : w6.cell? ⟨w.heap.size, 0, none⟩ = some (.int .i64 0) := by rw [blk_cell hb6]; rfl
        have c1 : w6.cell? ⟨w.heap.size, 1, none⟩ = some (.slice none 0 0) := by rw [blk_cell hb6]; rfl
        have f0 := blk_frozen hb6 0
        have f1 := blk_frozen hb6 1
        have HB6 := Lib.hid hb6
        have HO6 := Lib.hid hO6
        clear hb6 hO6
        go_wp2_with fail
        (try simp only [Exit.inBlock, Exit.then])
        refine bodyPost_ret (results_cell_row rfl _ _ w.heap.size _ _ _ _ rfl (blk_set (blk_set HB6.out 0 _) 1 _) Tryz.underlying26 rfl hinfo) rfl ?_
        have hk : Only w.heap.size w6 ((w6.setCell ⟨w.heap.size, 0, none⟩ (.int .i64 ((zs L7).length : Int))).setCell ⟨w.heap.size, 1, none⟩ (.slice A6 (zs L7).length c6)) := ((Only.refl _ _).setCell _).setCell _
        have hz6 : w.heap.size + 1 ≤ w7.heap.size := by have := HSZ.out; have := hU7.size; omega
        have hO7 := own_only HO6.out hk (fun hh => by have := own_of_ge HO6.out hh; omega)
        refine ⟨_, L7, by rw [← zs_len]; rfl, own_base hO7 (by omega), by rw [HN7.out, HL7.out]; omega, HM7.out, ((HS6.out.grew hg7).grew hg6).other hk hgl, (hU0.trans hU6).newer hk (Nat.le_refl _)⟩
end Go.Proofs.YtphljdhacbpkbaaGreat

/- FnMonotone: the draws l16Join, l16Rooted; only their shape is told. -/
namespace Go.Proofs.YtphljdhacbpkbaaGreat
open Go.RowKit

/-- The call returns a poset of a row of n numbers. -/
def GivesJ (w : World) (n : Nat) (e : Ending) (w' : World) : Prop := ∃ v L, e = .returned (.agg #[.int .i64 (L.length : Int), v]) ∧ OwnI w' w.heap.size v L ∧ L.length = n ∧ Grew w w'
theorem alloc3 (w wa : World) (o1 o2 o3 : Obj) (h : wa = ((w.alloc o1).alloc o2).alloc o3) : Grew w wa ∧ wa.heap.size = w.heap.size + 3 ∧ wa.heap[w.heap.size]? = some o1 ∧ wa.heap[w.heap.size + 1]? = some o2 ∧ wa.heap[w.heap.size + 2]? = some o3 := by
  subst h
  have s1 : (w.alloc o1).heap.size = w.heap.size + 1 := by simp
  have s2 : ((w.alloc o1).alloc o2).heap.size = w.heap.size + 2 := by simp
  have b1 := blk_new w o1
  have b2 := blk_new (w.alloc o1) o2
  have b3 := blk_new ((w.alloc o1).alloc o2) o3
  rw [s1] at b2
  rw [s2] at b3
  have g2 := (Grew.refl (w.alloc o1)).alloc o2
  have g3 := (Grew.refl ((w.alloc o1).alloc o2)).alloc o3
  exact ⟨(((Grew.refl w).alloc _).alloc _).alloc _, by simp, ((g2.trans g3).block (by omega)).trans b1, (g3.block (by omega)).trans b2, b3⟩

set_option maxHeartbeats 1000000 in
theorem l16Join_c (v u : Value) (L K : List Int) (w : World) (h : Ints w v L) (hu : Ints w u K) (hL : L.length ≤ 8) (hK : K.length ≤ 8) :
    Calls Tryz.prog 127 #[.agg #[.int .i64 (L.length : Int), v], .agg #[.int .i64 (K.length : Int), u], .bool true] w (GivesJ w (L.length + K.length)) := by
  have hinfo := info2P
  have HF := Lib.hid (l01Full_q K.length (by omega))
  obtain ⟨A, c, rfl⟩ := ints_slice h
  obtain ⟨A2, c2, rfl⟩ := ints_slice hu
  have HC := Lib.hid (fun h0 => cellsI h h0)
  have HD := Lib.hid (fun h0 => cellsI hu h0)
  clear h hu
  generalize L.length = na at *
  generalize K.length = nk at *
  obtain ⟨w0, hw0⟩ : ∃ w0, w0 = ((w.alloc (.cells #[.int .i64 (na : Int), .slice A na c] 26)).alloc (.cells #[.int .i64 (nk : Int), .slice A2 nk c2] 26)).alloc (.cells #[.int .i64 0, .slice none 0 0] 26) := ⟨_, rfl⟩
  obtain ⟨hg0, hs0, b1, b2, b3⟩ := alloc3 _ _ _ _ _ hw0
  have Y0 := Lib.hid (fun W (hW : Grew w0 W) => (show W.cell? ⟨w.heap.size, 0, none⟩ = some (.int .i64 (na : Int)) by rw [blk_cell ((hW.block (by omega)).trans b1)]; rfl))
  have Y1 := Lib.hid (fun W (hW : Grew w0 W) => (show W.cell? ⟨w.heap.size, 1, none⟩ = some (.slice A na c) by rw [blk_cell ((hW.block (by omega)).trans b1)]; rfl))
  have Z0 := Lib.hid (fun W (hW : Grew w0 W) => (show W.cell? ⟨w.heap.size + 1, 0, none⟩ = some (.int .i64 (nk : Int)) by rw [blk_cell ((hW.block (by omega)).trans b2)]; rfl))
  have Z1 := Lib.hid (fun W (hW : Grew w0 W) => (show W.cell? ⟨w.heap.size + 1, 1, none⟩ = some (.slice A2 nk c2) by rw [blk_cell ((hW.block (by omega)).trans b2)]; rfl))
  have B3 := Lib.hid (fun W (hW : Grew w0 W) => (hW.block (by omega)).trans b3)
  have HG0 := Lib.hid hg0
  have HS0 := Lib.hid hs0
  clear hg0 hs0 b1 b2 b3
  go_enter Tryz.func127, Tryz.ntmps127
  go_wp2_with fail
  simp only [← hw0]
  clear hw0
  go_loopw [7, 8, 9] (fun s i _ wr => ∃ (j : Nat) (P : List Int), j ≤ na ∧ i = .int .i64 j ∧ Hid (P.length = j) ∧ Grew w0 wr ∧ OwnI wr w0.heap.size s P) (fun _ i _ _ => na - (intOf i).toNat)
  case atStart => exact ⟨0, [], by omega, rfl, Lib.hid rfl, (Grew.refl _).alloc _, by rw [show w.heap.size + 1 + 1 + 1 = w0.heap.size by have := HS0.out; omega]; exact own_emptyI w0⟩
  case round =>
    obtain ⟨j, P, hj, rfl, hP, hB, hO⟩ := hrel
    have y1 := fun W (hW : Grew wr W) => Y1.out W (hB.trans hW)
    have hr0 := Grew.refl wr
    by_cases hlt : j < na
    · obtain ⟨b, o, rfl, hcell⟩ := HC.out (by omega)
      have k1 := fun W (hW : Grew wr W) => hcell j hlt W ((HG0.out.trans hB).trans hW)
      have y0 := fun W (hW : Grew wr W) => Y0.out W (hB.trans hW)
      have z0 := fun W (hW : Grew wr W) => Z0.out W (hB.trans hW)
      generalize it L j = x at *
      have hF := Lib.hid HF.out
      clear hcell
      generalize (2 ^ nk : Nat) = p at *
      go_wp2_with fail
      go_quiet ((go_at_call 42; exact Calls.quiet_of_same (hF.out _)))
      generalize bits BinOp.or IntKind.i64 x (wrap64 (((p : Int) - 1) * 2 ^ na)) = z at *
      have hl : P.length ≤ 1048576 := by have := hP.out; omega
      have hB5 := hB.drewN nq
      have hO5 := hO.grew ((Grew.refl wr).drewN nq)
      have hr5 := (Grew.refl wr).drewN nq
      generalize wr.drewN nq = wq at *
      go_wp2_with (first
        | (at_builtin; refine wpList_appI (w0 := w0) _ _ rfl rfl _ P rfl (hO5.grew ((Grew.refl _).alloc _)) (hB5.alloc _) _ z rfl (rd_litI _ _ _) hl ?_; intro v6 w6 hown6 hB6 _))
      go_roundw
      case rel => exact ⟨j + 1, P ++ [z], by omega, by go_num, Lib.hid (by rw [List.length_append, hP.out]; rfl), hB6, hown6⟩
      case measure => simp [intOf]; omega
    · obtain rfl : j = na := by omega
      have hOj := Lib.hid hO
      clear HF HC hO
      go_wp2_with fail
      go_loopw [7, 10] (fun s i wr => ∃ (k : Nat) (P : List Int), k ≤ nk ∧ i = .int .i64 k ∧ Hid (P.length = j + k) ∧ Grew w0 wr ∧ OwnI wr w0.heap.size s P) (fun _ i _ => nk - (intOf i).toNat)
      case atStart => exact ⟨0, P, by omega, rfl, hP, hB, hOj.out⟩
      clear hOj y1 hr0 hB
      case round =>
        obtain ⟨k, P, hk, rfl, hP, hB, hO⟩ := hrel
        have z1 := fun W (hW : Grew wr W) => Z1.out W (hB.trans hW)
        have hr0 := Grew.refl wr
        have hrd := (Grew.refl wr).drew
        by_cases hlk : k < nk
        · obtain ⟨b, o, rfl, hcell⟩ := HD.out (by omega)
          have k1 := fun W (hW : Grew wr W) => hcell k hlk W ((HG0.out.trans hB).trans hW)
          have y0 := fun W (hW : Grew wr W) => Y0.out W (hB.trans hW)
          generalize it K k = x at *
          have hl : P.length ≤ 1048576 := by have := hP.out; omega
          clear hcell
          have hk5 := (hr0.alloc (.cells #[.int .i64 (IntKind.i64.wrap (x * 2 ^ min (IntKind.u64.wrap (j : Int)).toNat 64))] 2)).drew
          have hs5 := Nat.le_trans hB.size hk5.size
          have hO5 := hO.grew hk5
          have hrd5 := (rd_litI wr (IntKind.i64.wrap (x * 2 ^ min (IntKind.u64.wrap (j : Int)).toNat 64)) 2).grew (Grew.refl _).drew
          go_wp2_with fail
          go_region_law (refine step_appI w0.heap.size rfl (.tmp 45) (.tmp 55) rfl u7 P rfl hO5 hs5 _ _ rfl hrd5 hl ?_; intro v6 w6 hown6 hg6)
          all_goals
            have hB6 : Grew w0 w6 := (hB.trans hk5).grown hg6 (fun g hg => own_of_ge hO5 hg)
            go_wp2_with fail
            go_roundw
            case rel => exact ⟨k + 1, _, by omega, by go_num, Lib.hid (by rw [List.length_append, hP.out]; rfl), hB6, hown6⟩
            case measure => simp [intOf]; omega
        · obtain rfl : k = nk := by omega
          have hM := Lib.hid (l16Make_c u7 P wr hO.ints (by have := hP.out; omega))
          clear HD hO
          go_wp2_with fail
          refine hM.out.mono ?_
          rintro e w6 ⟨v6, rfl, hO6, hg6⟩
          obtain ⟨A6, c6, rfl⟩ := ints_slice hO6.ints
          have hb6 := B3.out w6 (hB.trans hg6)
          have c0 : w6.cell? ⟨w.heap.size + 1 + 1, 0, none⟩ = some (.int .i64 0) := by rw [blk_cell hb6]; rfl
          have c1 : w6.cell? ⟨w.heap.size + 1 + 1, 1, none⟩ = some (.slice none 0 0) := by rw [blk_cell hb6]; rfl
          have f0 := blk_frozen hb6 0
          have f1 := blk_frozen hb6 1
          have HB6 := Lib.hid hb6
          have HO6 := Lib.hid hO6
          clear hb6 hO6
          go_wp2_with fail
          (try simp only [Exit.inBlock, Exit.then])
          refine bodyPost_ret (results_cell_row rfl _ _ (w.heap.size + 1 + 1) _ _ _ _ rfl (blk_set (blk_set HB6.out 0 _) 1 _) Tryz.underlying26 rfl hinfo) rfl ?_
          have hk : Only (w.heap.size + 1 + 1) w6 ((w6.setCell ⟨w.heap.size + 1 + 1, 0, none⟩ (.int .i64 (P.length : Int))).setCell ⟨w.heap.size + 1 + 1, 1, none⟩ (.slice A6 P.length c6)) := ((Only.refl _ _).setCell _).setCell _
          have hz6 := hB.size
          have hz0 := HS0.out
          have hO7 := own_only HO6.out hk (fun hh => by have := own_of_ge HO6.out hh; omega)
          refine ⟨_, P, rfl, own_base hO7 (by omega), hP.out, hk.grew_of (HG0.out.trans (hB.trans hg6)) (by omega)⟩
end Go.Proofs.YtphljdhacbpkbaaGreat

/- FnMonotone: the draws l16Rooted, l16Draw; only their shape is told. -/
namespace Go.Proofs.YtphljdhacbpkbaaGreat
open Go.RowKit

/-- A drawn poset: a row of at most m numbers. -/
def GivesE (g : Nat) (cv : Value) (N : Nat) (m : Nat) (w : World) (e : Ending) (w' : World) : Prop := ∃ v L, e = .returned (.agg #[.int .i64 (L.length : Int), v]) ∧ OwnI w' w.heap.size v L ∧ L.length ≤ m ∧ Src w' g cv N ∧ Only g w w'
theorem litI (w : World) (k : Int) : Ints (w.alloc (.cells #[.int .i64 k] 2)) (.slice (some ⟨w.heap.size, 0, none⟩) 1 1) [k] := rd_litI w k _

theorem l16Rooted_c (g : Nat) (cv : Value) (N : Nat) (w : World) (h : Src w g cv N) :
    Calls Tryz.prog 70 #[.pointer (some ⟨g, 0, none⟩), .int .i64 8] w (GivesE g cv N 8 w) := by
  have hinfo := info2P
  have hgl := h.lt
  have hS0 := h.grew ((Grew.refl w).alloc (.cells #[.int .i64 0, .slice none 0 0] 26))
  have HS := Lib.hid hS0
  have HB0 := Lib.hid (blk_new w (.cells #[.int .i64 0, .slice none 0 0] 26))
  have hU0 := ((Grew.refl w).alloc (.cells #[.int .i64 0, .slice none 0 0] 26)).only (g := g)
  have hsz0 : (w.alloc (.cells #[.int .i64 0, .slice none 0 0] 26)).heap.size = w.heap.size + 1 := by simp
  have HSZ := Lib.hid hsz0
  obtain ⟨w0, hw0⟩ : ∃ w0, w0 = w.alloc (.cells #[.int .i64 0, .slice none 0 0] 26) := ⟨_, rfl⟩
  rw [← hw0] at HS HB0 HSZ hU0
  have HLT := Lib.hid (litI w0 1)
  have HSL : Hid (w.heap.size + 1 = w0.heap.size) := Lib.hid HSZ.out.symm
  clear h hS0 hsz0
  go_enter Tryz.func70, Tryz.ntmps70
  go_wp2_with fail
  simp only [← hw0]
  clear hw0
  rw [HSL.out]
  refine (l16Make_c _ [1] _ HLT.out (by simp)).mono ?_
  rintro e w1 ⟨v1, rfl, hO1, hg1⟩
  have hg1' := ((Grew.refl w0).alloc (.cells #[.int .i64 1] 2)).trans hg1
  have HO1 := Lib.hid hO1
  have hsa : (w0.alloc (.cells #[.int .i64 1] 2)).heap.size = w0.heap.size + 1 := by simp
  rw [hsa] at HO1
  clear hO1 hg1 hsa
  go_wp2_with fail
  refine (l16Some_c g cv N 7 (by omega) w1 (HS.out.grew hg1')).mono ?_
  rintro e w2 ⟨v2, L2, rfl, hO2, hl2, hm2, hS2, ho2⟩
  have hU2 := hg1'.only.trans ho2
  have HO1' := Lib.hid (own_srcI HO1.out (by have := HSZ.out; omega) ho2)
  have HS2 := Lib.hid hS2
  have HO2 := Lib.hid hO2.ints
  have hl2' : (zs L2).length ≤ 7 := by rw [zs_len]; exact hl2
  rw [← zs_len]
  clear hO2 hS2 hm2 hl2
  generalize zs L2 = K2 at *
  have HJ := Lib.hid (l16Join_c v1 v2 [1] K2 w2 HO1'.out.ints HO2.out (by simp) (by omega))
  obtain ⟨A2, c2, rfl⟩ := ints_slice HO2.out
  go_wp2_with fail
  refine HJ.out.mono ?_
  rintro e w6 ⟨v6, L6, rfl, hO6, hl6, hg6⟩
  obtain ⟨A6, c6, rfl⟩ := ints_slice hO6.ints
  have hU6 := hU2.grew hg6
  have hb6 : w6.heap[w.heap.size]? = some (.cells #[.int .i64 0, .slice none 0 0] 26 (0, 0)) := (hU6.block (by have := HSZ.out; omega) (by omega)).trans HB0.out
  have c0 : w6.cell? ⟨w.heap.size, 0, none⟩ = some (.int .i64 0) := by rw [blk_cell hb6]; rfl
  have c1 : w6.cell? ⟨w.heap.size, 1, none⟩ = some (.slice none 0 0) := by rw [blk_cell hb6]; rfl
  have f0 := blk_frozen hb6 0
  have f1 := blk_frozen hb6 1
  have HB6 := Lib.hid hb6
  have HO6 := Lib.hid hO6
  have hl6' : L6.length ≤ 8 := by simp at hl6; omega
  clear hb6 hO6 HJ hl6
  go_wp2_with fail
  (try simp only [Exit.inBlock, Exit.then])
  refine bodyPost_ret (results_cell_row rfl _ _ w.heap.size _ _ _ _ rfl (blk_set (blk_set HB6.out 0 _) 1 _) Tryz.underlying26 rfl hinfo) rfl ?_
  have hk : Only w.heap.size w6 ((w6.setCell ⟨w.heap.size, 0, none⟩ (.int .i64 (L6.length : Int))).setCell ⟨w.heap.size, 1, none⟩ (.slice A6 L6.length c6)) := ((Only.refl _ _).setCell _).setCell _
  have hz6 : w.heap.size + 1 ≤ w2.heap.size := by have := HSZ.out; have := hU2.size; omega
  have hO7 := own_only HO6.out hk (fun hh => by have := own_of_ge HO6.out hh; omega)
  exact ⟨_, L6, rfl, own_base hO7 (by omega), hl6', (HS2.out.grew hg6).other hk hgl, (hU0.trans hU6).newer hk (Nat.le_refl _)⟩

theorem l01Pick3_c (g : Nat) (cv : Value) (N : Nat) (b : Nat) (x0 x1 x2 : Int) (w : World) (h : Src w g cv N) (hb : b < w.heap.size) (hne : b ≠ g) (c0 : w.cell? ⟨b, 0, none⟩ = some (.int .i64 x0)) (c1 : w.cell? ⟨b, 1, none⟩ = some (.int .i64 x1)) (c2 : w.cell? ⟨b, 2, none⟩ = some (.int .i64 x2)) :
    Calls Tryz.prog 71 #[.pointer (some ⟨g, 0, none⟩), .slice (some ⟨b, 0, none⟩) 3 3] w fun e w' => ∃ r : Int, e = .returned (.int .i64 r) ∧ Src w' g cv N ∧ Only g w w' := by
  have HS := Lib.hid h
  have HC := Lib.hid (show ∀ j, j < 3 → ∃ x : Int, w.cell? ⟨b, j, none⟩ = some (.int .i64 x) from fun j hj => by
    match j, hj with
    | 0, _ => exact ⟨_, c0⟩
    | 1, _ => exact ⟨_, c1⟩
    | 2, _ => exact ⟨_, c2⟩)
  clear h c0 c1 c2
  go_enter Tryz.func71, Tryz.ntmps71
  go_wp2_with fail
  refine (l01Next_c g cv N 3 _ HS.out (by omega)).mono ?_
  rintro e w1 ⟨r, rfl, hr0, hr1, _, hS1, ho1⟩
  have hr2 := hr1 (by omega)
  obtain ⟨k, rfl⟩ : ∃ k : Nat, r = (k : Int) := ⟨r.toNat, by omega⟩
  obtain ⟨x, hx⟩ := HC.out k (by omega)
  have hx1 := (ho1.cell (p := ⟨b, k, none⟩) hb hne).trans hx
  have HS1 := Lib.hid hS1
  clear hx hS1 hr1
  go_wp2_with fail
  go_ret
  exact ⟨_, rfl, HS1.out, ho1⟩

/-- A drawn poset, or something like it: a number and a row of at most m numbers. -/
def GivesQ (g : Nat) (cv : Value) (N : Nat) (m : Nat) (w : World) (e : Ending) (w' : World) : Prop := ∃ v sz L, e = .returned (.agg #[.int .i64 sz, v]) ∧ OwnI w' w.heap.size v L ∧ L.length ≤ m ∧ Src w' g cv N ∧ Only g w w'

theorem blk_lt' {w : World} {k : Nat} {o : Obj} (h : w.heap[k]? = some o) : k < w.heap.size := (Array.getElem?_eq_some_iff.1 h).1
def SO (g : Nat) (cv : Value) (N : Nat) (w w' : World) : Prop := Src w' g cv N ∧ Only g w w'
theorem SO.drew {g : Nat} {cv : Value} {N : Nat} {w w' : World} (h : SO g cv N w w') : SO g cv N w w'.drew := ⟨h.1.grew (Grew.refl _).drew, h.2.drew⟩
theorem so_next (g : Nat) (cv : Value) (N : Nat) (w : World) (n : Int) (hn : 1 ≤ n ∧ n ≤ 100000) (W : World) (hW : SO g cv N w W) :
    Calls Tryz.prog 41 #[.pointer (some ⟨g, 0, none⟩), .int .i64 n] W fun e w' => ∃ r : Nat, e = .returned (.int .i64 (r : Int)) ∧ (r : Int) < n ∧ SO g cv N w w' ∧ Only g W w' := by
  refine (l01Next_c g cv N n W hW.1 (by omega)).mono ?_
  rintro e w' ⟨r, rfl, h0, h1, _, hS, ho⟩
  have h2 := h1 hn.1
  obtain ⟨k, rfl⟩ : ∃ k : Nat, r = k := ⟨r.toNat, by omega⟩
  exact ⟨k, rfl, h2, ⟨hS, hW.2.trans ho⟩, ho⟩
theorem own_irow {w : World} {B c : Nat} {A : Option Addr} {L : List Int} (h : OwnI w B (.slice A L.length c) L) (h0 : 0 < L.length) :
    ∃ g cur, A = some ⟨g, 0, none⟩ ∧ B ≤ g ∧ w.heap[g]? = some (.cells cur 2 (0, 0)) ∧ (L.length ≤ c ∧ c ≤ 9223372036854775807 ∧ cur.size = c) ∧ ∀ i, i < L.length → cur[i]? = some (.int .i64 (it L i)) := by
  have hI := h.ints
  rcases h.2 with ⟨he, _⟩ | ⟨g, c', cur, he, hB, hh, hnc, hcm, hcs, htk⟩
  · injection he with _ e2 _
    omega
  · injection he with e1 _ e3
    subst e1 e3
    refine ⟨g, cur, rfl, hB, hh, ⟨hnc, hcm, by omega⟩, fun i hi => ?_⟩
    rcases hI.open_ with ⟨he, _⟩ | ⟨b, o, c3, he, _, _, _, hcell⟩
    · cases he
    · injection he with e1 _ _
      injection e1 with e1
      injection e1 with e1 e2
      subst e1 e2
      have := hcell i hi w (Grew.refl _)
      rwa [Nat.zero_add, blk_cell hh] at this
theorem own_setI {w : World} {B g c k : Nat} {L : List Int} {cur : Array Value} {x : Int} (hB : B ≤ g) (hh : w.heap[g]? = some (.cells cur 2 (0, 0))) (hc : L.length ≤ c ∧ c ≤ 9223372036854775807 ∧ cur.size = c) (h : ∀ i, i < L.length → cur[i]? = some (.int .i64 (it L i))) (hk : k < L.length) :
    OwnI (w.setCell ⟨g, k, none⟩ (.int .i64 x)) B (.slice (some ⟨g, 0, none⟩) L.length c) (L.set k x) := by
  have hm := OwnI.mk_ (L := L.set k x) (c := c) hB (blk_set hh k (.int .i64 x)) (by rw [List.length_set]; exact hc.1) hc.2.1 (by simp [hc.2.2]) (fun i hi => by
    rw [List.length_set] at hi
    rw [Array.getElem?_setIfInBounds]
    by_cases hki : k = i
    · subst hki
      rw [if_pos rfl, if_pos (by omega)]
      simp [it, List.getD, hk]
    · rw [if_neg hki, h i hi]
      simp [it, List.getD, hki])
  rwa [List.length_set] at hm

/-- What stands through the region that changes one number of a drawn row: the source, a box, the row. -/
def SR (g : Nat) (cv : Value) (N : Nat) (w0 : World) (pb gr n c : Nat) (bx : Obj) (W : World) : Prop := Src W g cv N ∧ Only g w0 W ∧ W.heap[pb]? = some bx ∧ ∃ K : List Int, K.length = n ∧ OwnI W w0.heap.size (.slice (some ⟨gr, 0, none⟩) n c) K
theorem SR.drew {g : Nat} {cv : Value} {N : Nat} {w0 W : World} {pb gr n c : Nat} {bx : Obj} (h : SR g cv N w0 pb gr n c bx W) : SR g cv N w0 pb gr n c bx W.drew := by
  obtain ⟨h1, h2, h3, K, h4, h5⟩ := h
  exact ⟨h1.grew (Grew.refl _).drew, h2.drew, h3, K, h4, h5.grew (Grew.refl _).drew⟩
theorem SR.next {g : Nat} {cv : Value} {N : Nat} {w0 W W' : World} {pb gr n c : Nat} {bx : Obj} (h : SR g cv N w0 pb gr n c bx W) (hS : Src W' g cv N) (ho : Only g W W') (hg : g < w0.heap.size) (hgp : pb ≠ g) : SR g cv N w0 pb gr n c bx W' := by
  obtain ⟨h1, h2, h3, K, h4, h5⟩ := h
  exact ⟨hS, h2.trans ho, (ho.block (blk_lt' h3) hgp).trans h3, K, h4, own_srcI h5 hg ho⟩
theorem SR.store {g : Nat} {cv : Value} {N : Nat} {w0 W : World} {pb gr n c k : Nat} {x : Int} {bx : Obj} (h : SR g cv N w0 pb gr n c bx W) (hg : g < w0.heap.size) (hgr : w0.heap.size ≤ gr) (hp : pb ≠ gr) (hk : k < n) : SR g cv N w0 pb gr n c bx (W.setCell ⟨gr, k, none⟩ (.int .i64 x)) := by
  obtain ⟨h1, h2, h3, K, rfl, h5⟩ := h
  obtain ⟨g', cur, he, hB, hh, hc, hall⟩ := own_irow h5 (by omega)
  injection he with e1
  injection e1 with e1
  subst e1
  have hkb : Only gr W (W.setCell ⟨gr, k, none⟩ (.int .i64 x)) := (Only.refl _ _).setCell _
  exact ⟨h1.other hkb (by omega), h2.newer hkb hgr, (hkb.block (blk_lt' h3) hp).trans h3, K.set k x, by rw [List.length_set], own_setI hB hh hc hall hk⟩

set_option maxHeartbeats 1000000 in
theorem l16Draw_c (g : Nat) (cv : Value) (N : Nat) (w : World) (h : Src w g cv N) :
    Calls Tryz.prog 38 #[.pointer (some ⟨g, 0, none⟩), .int .i64 8] w (GivesQ g cv N 9 w) := by
  have hinfo := info2P
  have hgl := h.lt
  have hS0 := h.grew ((Grew.refl w).alloc (.cells #[.int .i64 0, .slice none 0 0] 26))
  have HS := Lib.hid hS0
  have HB0 := Lib.hid (blk_new w (.cells #[.int .i64 0, .slice none 0 0] 26))
  have hU0 := ((Grew.refl w).alloc (.cells #[.int .i64 0, .slice none 0 0] 26)).only (g := g)
  have hsz0 : (w.alloc (.cells #[.int .i64 0, .slice none 0 0] 26)).heap.size = w.heap.size + 1 := by simp
  have HSZ := Lib.hid hsz0
  obtain ⟨w0, hw0⟩ : ∃ w0, w0 = w.alloc (.cells #[.int .i64 0, .slice none 0 0] 26) := ⟨_, rfl⟩
  rw [← hw0] at HS HB0 HSZ hU0
  clear h hS0 hsz0
  go_enter Tryz.func38, Tryz.ntmps38
  go_wp2_with fail
  simp only [← hw0]
  clear hw0
  refine (l16Some_c g cv N 8 (by omega) w0 HS.out).mono ?_
  rintro e w1 ⟨v1, L1, rfl, hO1, hl1, hm1, hS1, ho1⟩
  have HO1 := Lib.hid hO1
  have hl1' : (zs L1).length ≤ 8 := by rw [zs_len]; exact hl1
  rw [← zs_len]
  clear hO1 hm1 hl1
  generalize zs L1 = K1 at *
  obtain ⟨A1, c1, rfl⟩ := ints_slice HO1.out.ints
  have HS1 := Lib.hid hS1
  clear hS1
  -- WALK
  have hga := (Grew.refl w1).alloc (.cells #[.int .i64 (K1.length : Int), .slice A1 K1.length c1] 26)
  have hbx := blk_new w1 (.cells #[.int .i64 (K1.length : Int), .slice A1 K1.length c1] 26)
  have hp0 := ho1.size
  have hsa : (w1.alloc (.cells #[.int .i64 (K1.length : Int), .slice A1 K1.length c1] 26)).heap.size = w1.heap.size + 1 := by simp
  have HP := Lib.hid (And.intro hga (And.intro hbx (And.intro hp0 hsa)))
  clear hga hbx hp0 hsa
  go_wp2_with fail
  obtain ⟨hga, hbx, hp0, hsa⟩ := HP.out
  refine (l01Next_c g cv N 3 _ (HS1.out.grew hga) (by omega)).mono ?_
  rintro e w2 ⟨r, rfl, _, _, _, hS2, ho2⟩
  have hU2 := (ho1.grew hga).trans ho2
  have hg1 : g ≠ w1.heap.size := by have := HSZ.out; omega
  have hbx2 := (ho2.block (k := w1.heap.size) (by omega) hg1.symm).trans hbx
  have hpb1 : w1.heap.size < w2.heap.size := by have := ho2.size; omega
  have HO2 := Lib.hid (own_srcI (HO1.out.grew hga) (by have := HSZ.out; omega) ho2)
  have hap : ∀ k, (Value.slice A1 K1.length c1).ownBlock = some k → k = w1.heap.size → False := fun k hk he => by have := (HO1.out.lt k hk).2; omega
  have HS2 := Lib.hid hS2
  have HBX := Lib.hid hbx2
  have hgp := hg1
  clear hga hbx hsa HP hS2 ho2 hbx2 HS1 HO1 hg1 ho1
  generalize w1.heap.size = pb at *
  have hpb0 : w0.heap.size ≤ pb := hp0
  clear hp0
  cases b0 : (r == 0) with
  | false =>
    obtain ⟨wk, hwk⟩ : ∃ wk, wk = w2 := ⟨_, rfl⟩
    obtain ⟨K, hK⟩ : ∃ K, K = K1 := ⟨_, rfl⟩
    obtain ⟨A, hA⟩ : ∃ A, A = A1 := ⟨_, rfl⟩
    obtain ⟨c, hc⟩ : ∃ c, c = c1 := ⟨_, rfl⟩
    rw [← hwk, ← hK, ← hA, ← hc] at HBX HO2
    rw [← hwk] at hU2 HS2 hpb1
    rw [← hK] at hl1'
    rw [← hK, ← hA, ← hc] at hap
    have HOK := HO2
    have HSK := HS2
    have hUk := hU2
    have hlk := hl1'
    clear HO2 HS2 hU2 hl1'
    rw [← hwk, ← hK, ← hA, ← hc]
    clear hwk hK hA hc
    go_wp2_with fail
    refine (l01Next_c g cv N 40 wk HSK.out (by omega)).mono ?_
    rintro e wn ⟨sw, rfl, hsw0, hsw1, _, hSn, hon⟩
    have hUn := hUk.trans hon
    have HBX := Lib.hid ((hon.block hpb1 (by omega)).trans HBX.out)
    have HOn := Lib.hid (own_srcI HOK.out (by have := HSZ.out; omega) hon)
    have HSn := Lib.hid hSn
    have hpb2 : pb < wn.heap.size := Nat.lt_of_lt_of_le hpb1 hon.size
    have hsn := hUn.size
    clear hSn hsw1 hon HOK HSK
    have d0 : wn.cell? ⟨pb, 0, none⟩ = some (.int .i64 (K.length : Int)) := by rw [blk_cell HBX.out]; rfl
    have d1 : wn.cell? ⟨pb, 1, none⟩ = some (.slice A K.length c) := by rw [blk_cell HBX.out]; rfl
    have df0 := blk_frozen HBX.out 0
    have df1 := blk_frozen HBX.out 1
    cases s0 : (sw == 0) with
    | true =>
      have hS3 := HSn.out.grew ((Grew.refl wn).alloc (.cells #[.int .i64 (-1), .int .i64 9, .int .i64 ((K.length : Int) + 1)] 2))
      have hPk := Lib.hid (l01Pick3_c g cv N wn.heap.size (-1) 9 ((K.length : Int) + 1) _ hS3 (by simp) (by have := HSZ.out; omega) (by simp) (by simp) (by simp))
      clear hS3
      go_wp2_with fail
      refine hPk.out.mono ?_
      rintro e wp ⟨rp, rfl, hSp, hop⟩
      have hga := (Grew.refl wn).alloc (.cells #[.int .i64 (-1), .int .i64 9, .int .i64 ((K.length : Int) + 1)] 2)
      have hUp := (hUn.grew hga).trans hop
      have hpb3 : pb < (wn.alloc (.cells #[.int .i64 (-1), .int .i64 9, .int .i64 ((K.length : Int) + 1)] 2)).heap.size := Nat.lt_of_lt_of_le hpb2 hga.size
      have HBX := Lib.hid ((hop.block hpb3 (by omega)).trans ((hga.block hpb2).trans HBX.out))
      have HOp := Lib.hid (own_srcI (HOn.out.grew hga) (by have := HSZ.out; omega) hop)
      have HSp := Lib.hid hSp
      clear hSp hPk d0 d1 df0 df1
      have d0 : wp.cell? ⟨pb, 0, none⟩ = some (.int .i64 (K.length : Int)) := by rw [blk_cell HBX.out]; rfl
      have d1 : wp.cell? ⟨pb, 1, none⟩ = some (.slice A K.length c) := by rw [blk_cell HBX.out]; rfl
      have df0 := blk_frozen HBX.out 0
      have df1 := blk_frozen HBX.out 1
      have HR := Lib.hid (show wp.heap[w.heap.size]? = some (.cells #[.int .i64 0, .slice none 0 0] 26 (0, 0)) from (hUp.block (by have := HSZ.out; omega) (by omega)).trans HB0.out)
      have q0 : wp.cell? ⟨w.heap.size, 0, none⟩ = some (.int .i64 0) := by rw [blk_cell HR.out]; rfl
      have q1 : wp.cell? ⟨w.heap.size, 1, none⟩ = some (.slice none 0 0) := by rw [blk_cell HR.out]; rfl
      have qf0 := blk_frozen HR.out 0
      have qf1 := blk_frozen HR.out 1
      have hkb : Only pb wp (wp.setCell ⟨pb, 0, none⟩ (.int .i64 rp)) := (Only.refl _ _).setCell _
      have HBX2 := Lib.hid (blk_set HBX.out 0 (.int .i64 rp))
      have HOf := Lib.hid (own_only HOp.out hkb (fun hh => hap _ hh rfl))
      have HSf := Lib.hid (HSp.out.other hkb (by have := HSZ.out; omega))
      have hUf := hUp.newer hkb hpb0
      have HR := Lib.hid ((hkb.block (k := w.heap.size) (by have := HSZ.out; have := hUp.size; omega) (by have := HSZ.out; omega)).trans HR.out)
      have e0 : (wp.setCell ⟨pb, 0, none⟩ (.int .i64 rp)).cell? ⟨pb, 0, none⟩ = some (.int .i64 rp) := by rw [blk_cell HBX2.out]; rfl
      have e1 : (wp.setCell ⟨pb, 0, none⟩ (.int .i64 rp)).cell? ⟨pb, 1, none⟩ = some (.slice A K.length c) := by rw [blk_cell HBX2.out]; rfl
      have r0 : (wp.setCell ⟨pb, 0, none⟩ (.int .i64 rp)).cell? ⟨w.heap.size, 0, none⟩ = some (.int .i64 0) := by rw [blk_cell HR.out]; rfl
      have r1 : (wp.setCell ⟨pb, 0, none⟩ (.int .i64 rp)).cell? ⟨w.heap.size, 1, none⟩ = some (.slice none 0 0) := by rw [blk_cell HR.out]; rfl
      have rf0 := blk_frozen HR.out 0
      have rf1 := blk_frozen HR.out 1
      clear q0 q1 qf0 qf1
      go_wp2_with fail
      (try simp only [Exit.inBlock, Exit.then])
      refine bodyPost_ret (results_cell_row rfl _ _ w.heap.size _ _ _ _ rfl (blk_set (blk_set HR.out 0 _) 1 _) Tryz.underlying26 rfl hinfo) rfl ?_
      have hk : Only w.heap.size (wp.setCell ⟨pb, 0, none⟩ (.int .i64 rp)) (((wp.setCell ⟨pb, 0, none⟩ (.int .i64 rp)).setCell ⟨w.heap.size, 0, none⟩ (.int .i64 rp)).setCell ⟨w.heap.size, 1, none⟩ (.slice A K.length c)) := ((Only.refl _ _).setCell _).setCell _
      have hz := HSZ.out
      have hO7 := own_only HOf.out hk (fun hh => by have := own_of_ge HOf.out hh; omega)
      exact ⟨_, _, K, rfl, own_base hO7 (by omega), by omega, HSf.out.other hk hgl, (hU0.trans hUf).newer hk (Nat.le_refl _)⟩
    | false =>
    cases s1 : (sw == 1) with
    | true =>
      have hWN := Lib.hid (ownR_c (.slice A K.length c) K wn HOn.out.ints (by omega))
      go_wp2_with fail
      refine hWN.out.mono ?_
      rintro e wp ⟨vp, rfl, hOp, hgp2⟩
      have hgl2 := hgp2.trans ((Grew.refl wp).alloc (.cells #[.int .i64 0] 2))
      have hOp2 := hOp.grew ((Grew.refl wp).alloc (.cells #[.int .i64 0] 2))
      have hpw : wn.heap.size ≤ (wp.alloc (.cells #[.int .i64 0] 2)).heap.size := hgl2.size
      have hge := fun k hk => own_of_ge hOp2 (g := k) hk
      have hrd2 := rd_litI wp 0 2
      obtain ⟨Ap, cp, rfl⟩ := ints_slice hOp.ints
      clear d0 d1 df0 df1 hWN
      go_wp2_with (first
        | (at_builtin
           refine wpList_appIB wn.heap.size _ _ rfl rfl _ K rfl hOp2 hpw _ 0 rfl hrd2 (by omega) ?_
           intro v6 w6 hO6 hg6
           have hU6 := (hUn.grew hgl2).newer2 hg6 (fun k hk => Nat.le_trans hsn (hge k hk))
           have hB6 := Grew.grown hgl2 hg6 hge
           have HBX := Lib.hid ((hB6.block hpb2).trans HBX.out)
           have hl6 : (K ++ [0]).length ≤ 9 := by rw [List.length_append]; show K.length + 1 ≤ 9; omega
           have hS6 := Lib.hid (HSn.out.grew hB6)
           generalize K ++ [0] = K6 at *
           obtain ⟨A6, c6, rfl⟩ := ints_slice hO6.ints
           have HO6 := Lib.hid hO6
           have d0 : w6.cell? ⟨pb, 0, none⟩ = some (.int .i64 (K.length : Int)) := by rw [blk_cell HBX.out]; rfl
           have d1 : w6.cell? ⟨pb, 1, none⟩ = some (.slice A K.length c) := by rw [blk_cell HBX.out]; rfl
           have df0 := blk_frozen HBX.out 0
           have df1 := blk_frozen HBX.out 1
           have HR := Lib.hid (show w6.heap[w.heap.size]? = some (.cells #[.int .i64 0, .slice none 0 0] 26 (0, 0)) from (hU6.block (by have := HSZ.out; omega) (by omega)).trans HB0.out)
           have q0 : w6.cell? ⟨w.heap.size, 0, none⟩ = some (.int .i64 0) := by rw [blk_cell HR.out]; rfl
           have q1 : w6.cell? ⟨w.heap.size, 1, none⟩ = some (.slice none 0 0) := by rw [blk_cell HR.out]; rfl
           have qf0 := blk_frozen HR.out 0
           have qf1 := blk_frozen HR.out 1
           have hapn : ∀ k, (Value.slice A6 K6.length c6).ownBlock = some k → k = pb → False := fun k hk he => by have := own_of_ge HO6.out hk; omega
           have hkb : Only pb w6 (w6.setCell ⟨pb, 1, none⟩ (.slice A6 K6.length c6)) := (Only.refl _ _).setCell _
           have HBX2 := Lib.hid (blk_set HBX.out 1 (.slice A6 K6.length c6))
           have HOf := Lib.hid (OwnI.base (B' := w0.heap.size) (own_only HO6.out hkb (fun hh => hapn _ hh rfl)) hsn)
           have HSf := Lib.hid (hS6.out.other hkb (by have := HSZ.out; omega))
           have hUf := Lib.hid (hU6.newer hkb hpb0)
           have HR := Lib.hid ((hkb.block (k := w.heap.size) (by have := HSZ.out; have := hU6.size; omega) (by have := HSZ.out; omega)).trans HR.out)
           have e0 : (w6.setCell ⟨pb, 1, none⟩ (.slice A6 K6.length c6)).cell? ⟨pb, 0, none⟩ = some (.int .i64 (K.length : Int)) := by rw [blk_cell HBX2.out]; rfl
           have e1 : (w6.setCell ⟨pb, 1, none⟩ (.slice A6 K6.length c6)).cell? ⟨pb, 1, none⟩ = some (.slice A6 K6.length c6) := by rw [blk_cell HBX2.out]; rfl
           have r0 : (w6.setCell ⟨pb, 1, none⟩ (.slice A6 K6.length c6)).cell? ⟨w.heap.size, 0, none⟩ = some (.int .i64 0) := by rw [blk_cell HR.out]; rfl
           have r1 : (w6.setCell ⟨pb, 1, none⟩ (.slice A6 K6.length c6)).cell? ⟨w.heap.size, 1, none⟩ = some (.slice none 0 0) := by rw [blk_cell HR.out]; rfl
           have rf0 := blk_frozen HR.out 0
           have rf1 := blk_frozen HR.out 1
           clear q0 q1 qf0 qf1 hO6 hkb hapn hB6 hU6))
      replace hUf := hUf.out
      (try simp only [Exit.inBlock, Exit.then])
      refine bodyPost_ret (results_cell_row rfl _ _ w.heap.size _ _ _ _ rfl (blk_set (blk_set HR.out 0 _) 1 _) Tryz.underlying26 rfl hinfo) rfl ?_
      have hk : Only w.heap.size (w6.setCell ⟨pb, 1, none⟩ (.slice A6 K6.length c6)) (((w6.setCell ⟨pb, 1, none⟩ (.slice A6 K6.length c6)).setCell ⟨w.heap.size, 0, none⟩ (.int .i64 (K.length : Int))).setCell ⟨w.heap.size, 1, none⟩ (.slice A6 K6.length c6)) := ((Only.refl _ _).setCell _).setCell _
      have hz := HSZ.out
      have hO7 := own_only HOf.out hk (fun hh => by have := own_of_ge HOf.out hh; omega)
      exact ⟨_, _, K6, rfl, own_base hO7 (by omega), by omega, HSf.out.other hk hgl, (hU0.trans hUf).newer hk (Nat.le_refl _)⟩
    | false =>
    cases s2 : (sw == 2) with
    | true =>
      by_cases h0 : 0 < K.length
      · obtain ⟨gr, cur, rfl, hgr, hcur, hcs, hall⟩ := own_irow HOn.out h0
        have HCU := Lib.hid hcur
        have HAL := Lib.hid hall
        have hFN0 := l01Full_q K.length (by omega)
        have hF0 : 0 < 2 ^ K.length := Nat.pow_pos (by omega)
        have hF9 : 2 ^ K.length ≤ 256 := Nat.le_trans (Nat.pow_le_pow_right (by omega) hlk) (by decide)
        rw [← full_cast] at hFN0
        have hff : full K.length ≤ 255 := by unfold full; omega
        have hFN := Lib.hid hFN0
        clear hFN0 hF0 hF9
        generalize full K.length = fn at *
        have hgz : g < w0.heap.size := by have := HSZ.out; omega
        have hpgr : pb ≠ gr := fun he => hap gr rfl he.symm
        have KN := Lib.hid (fun (n : Int) (hn : Hid (1 ≤ n ∧ n ≤ 100000)) W (hW : SO g cv N wn W) => so_next g cv N wn n hn.out W hW)
        have KR := Lib.hid (fun W W' (h : SR g cv N w0 pb gr K.length c (.cells #[.int .i64 (K.length : Int), .slice (some ⟨gr, 0, none⟩) K.length c] 26) W) (hS : SO g cv N wn W') (ho : Only g W W') => h.next hS.1 ho hgz hgp.symm)
        have hSR : SR g cv N w0 pb gr K.length c (.cells #[.int .i64 (K.length : Int), .slice (some ⟨gr, 0, none⟩) K.length c] 26) wn := ⟨HSn.out, hUn, HBX.out, K, rfl, HOn.out⟩
        have KA := Lib.hid (fun (n : Int) (hn : Hid (n ≤ 8 ∧ 1 ≤ n)) W (hW : SO g cv N wn W) => so_next g cv N wn n (by have := hn.out; omega) W hW)
        have HN1 : Hid ((K.length : Int) ≤ 8 ∧ 1 ≤ (K.length : Int)) := Lib.hid ⟨by omega, by omega⟩
        have HN2 : Hid (1 ≤ (fn : Int) + 2 ∧ (fn : Int) + 2 ≤ 100000) := Lib.hid ⟨by omega, by omega⟩
        have hSO : SO g cv N wn wn := ⟨HSn.out, Only.refl _ _⟩
        have hSOd := hSO.drew
        have hSRd := hSR.drew
        have hgrn : gr < wn.heap.size := blk_lt hcur
        have x0 : ∀ W, SR g cv N w0 pb gr K.length c (.cells #[.int .i64 (K.length : Int), .slice (some ⟨gr, 0, none⟩) K.length c] 26) W → W.cell? ⟨pb, 0, none⟩ = some (.int .i64 (K.length : Int)) := fun W hW => by rw [blk_cell hW.2.2.1]; rfl
        have x1 : ∀ W, SR g cv N w0 pb gr K.length c (.cells #[.int .i64 (K.length : Int), .slice (some ⟨gr, 0, none⟩) K.length c] 26) W → W.cell? ⟨pb, 1, none⟩ = some (.slice (some ⟨gr, 0, none⟩) K.length c) := fun W hW => by rw [blk_cell hW.2.2.1]; rfl
        have hgg : gr ≠ g := by have := HSZ.out; omega
        have xf : ∀ W k, SO g cv N wn W → W.frozen? ⟨gr, k, none⟩ = false := fun W k hW => blk_frozen ((hW.2.block hgrn hgg).trans HCU.out) k
        have xc := Lib.hid (fun k (hk : k < K.length) W (hW : SO g cv N wn W) => (hW.2.cell (p := ⟨gr, k, none⟩) hgrn hgg).trans (show wn.cell? ⟨gr, k, none⟩ = some (.int .i64 (it K k)) by rw [blk_cell HCU.out]; exact HAL.out k hk))
        have hwr : IntKind.i64.wrap ((fn : Int) + 2) = (fn : Int) + 2 := by rw [IntKind.wrap_i64]; omega
        clear hcur hall d0 d1 df0 df1
        go_wp2_with fail
        go_region_held3 (fun w' => SR g cv N w0 pb gr K.length c (.cells #[.int .i64 (K.length : Int), .slice (some ⟨gr, 0, none⟩) K.length c] 26) w') (first | assumption | exact SR.drew ‹_› | exact SR.store ‹_› hgz hgr hpgr (by omega)) (first
          | (go_at_call 42; refine (hFN.out _).mono ?_; rintro e w5 ⟨rfl, rfl⟩)
          | (go_at_call 41; refine Calls.mono (KA.out _ (by assumption) _ (by assumption)) ?_; rintro e wa ⟨rk, rfl, h61, hSOa, hoa⟩; have h60 : (0 : Int) ≤ (rk : Int) := Int.natCast_nonneg _; have hSRa := KR.out _ wa ‹_› hSOa hoa; have hc5 := xc.out rk (by omega))
          | (go_at_call 41; refine Calls.mono (KN.out _ (by assumption) _ (by assumption)) ?_; rintro e w5 ⟨r5, rfl, h51, hSO5, ho5⟩; have h50 : (0 : Int) ≤ (r5 : Int) := Int.natCast_nonneg _; have hSR5 := KR.out _ w5 ‹_› hSO5 ho5))
        · have hSRe := SR.store (k := rk) (x := IntKind.i64.wrap ((r5 : Int) - 1)) hSR5 hgz hgr hpgr (by omega)
          clear x0 x1 xf hc5 hSO5 hSOa hSR5 hSRa hSO hSOd hSRd
          generalize w5.setCell ⟨gr, rk, none⟩ (.int .i64 (IntKind.i64.wrap ((r5 : Int) - 1))) = wz at hSRe ⊢
          obtain ⟨hSz, hUz, hBz, Kz, hKz, hOz⟩ := hSRe
          have HBX := Lib.hid hBz
          have HSf := Lib.hid hSz
          have hUf := hUz
          rw [← hKz] at hOz HBX ⊢
          have HOf := Lib.hid hOz
          have hlz : Kz.length ≤ 8 := by omega
          clear hSz hBz hOz hKz
          have d0 : wz.cell? ⟨pb, 0, none⟩ = some (.int .i64 (Kz.length : Int)) := by rw [blk_cell HBX.out]; rfl
          have d1 : wz.cell? ⟨pb, 1, none⟩ = some (.slice (some ⟨gr, 0, none⟩) Kz.length c) := by rw [blk_cell HBX.out]; rfl
          have df0 := blk_frozen HBX.out 0
          have df1 := blk_frozen HBX.out 1
          have HR := Lib.hid (show wz.heap[w.heap.size]? = some (.cells #[.int .i64 0, .slice none 0 0] 26 (0, 0)) from (hUz.block (by have := HSZ.out; omega) (by omega)).trans HB0.out)
          have q0 : wz.cell? ⟨w.heap.size, 0, none⟩ = some (.int .i64 0) := by rw [blk_cell HR.out]; rfl
          have q1 : wz.cell? ⟨w.heap.size, 1, none⟩ = some (.slice none 0 0) := by rw [blk_cell HR.out]; rfl
          have qf0 := blk_frozen HR.out 0
          have qf1 := blk_frozen HR.out 1
          go_wp2_with fail
          (try simp only [Exit.inBlock, Exit.then])
          refine bodyPost_ret (results_cell_row rfl _ _ w.heap.size _ _ _ _ rfl (blk_set (blk_set HR.out 0 _) 1 _) Tryz.underlying26 rfl hinfo) rfl ?_
          have hk : Only w.heap.size wz ((wz.setCell ⟨w.heap.size, 0, none⟩ (.int .i64 (Kz.length : Int))).setCell ⟨w.heap.size, 1, none⟩ (.slice (some ⟨gr, 0, none⟩) Kz.length c)) := ((Only.refl _ _).setCell _).setCell _
          have hz := HSZ.out
          have hO7 := own_only HOf.out hk (fun hh => by have := own_of_ge HOf.out hh; omega)
          exact ⟨_, _, Kz, rfl, own_base hO7 (by omega), by omega, HSf.out.other hk hgl, (hU0.trans hUf).newer hk (Nat.le_refl _)⟩
      · have h00 : ¬ (0 : Int) < (K.length : Int) := by omega
        have HR := Lib.hid (show wn.heap[w.heap.size]? = some (.cells #[.int .i64 0, .slice none 0 0] 26 (0, 0)) from (hUn.block (by have := HSZ.out; omega) (by omega)).trans HB0.out)
        have q0 : wn.cell? ⟨w.heap.size, 0, none⟩ = some (.int .i64 0) := by rw [blk_cell HR.out]; rfl
        have q1 : wn.cell? ⟨w.heap.size, 1, none⟩ = some (.slice none 0 0) := by rw [blk_cell HR.out]; rfl
        have qf0 := blk_frozen HR.out 0
        have qf1 := blk_frozen HR.out 1
        have HOf := HOn
        have HSf := HSn
        have hUf := hUn
        go_wp2_with fail
        (try simp only [Exit.inBlock, Exit.then])
        refine bodyPost_ret (results_cell_row rfl _ _ w.heap.size _ _ _ _ rfl (blk_set (blk_set HR.out 0 _) 1 _) Tryz.underlying26 rfl hinfo) rfl ?_
        have hk : Only w.heap.size wn ((wn.setCell ⟨w.heap.size, 0, none⟩ (.int .i64 (K.length : Int))).setCell ⟨w.heap.size, 1, none⟩ (.slice A K.length c)) := ((Only.refl _ _).setCell _).setCell _
        have hz := HSZ.out
        have hO7 := own_only HOf.out hk (fun hh => by have := own_of_ge HOf.out hh; omega)
        exact ⟨_, _, K, rfl, own_base hO7 (by omega), by omega, HSf.out.other hk hgl, (hU0.trans hUf).newer hk (Nat.le_refl _)⟩
    | false =>
      have HR := Lib.hid (show wn.heap[w.heap.size]? = some (.cells #[.int .i64 0, .slice none 0 0] 26 (0, 0)) from (hUn.block (by have := HSZ.out; omega) (by omega)).trans HB0.out)
      have q0 : wn.cell? ⟨w.heap.size, 0, none⟩ = some (.int .i64 0) := by rw [blk_cell HR.out]; rfl
      have q1 : wn.cell? ⟨w.heap.size, 1, none⟩ = some (.slice none 0 0) := by rw [blk_cell HR.out]; rfl
      have qf0 := blk_frozen HR.out 0
      have qf1 := blk_frozen HR.out 1
      have HOf := HOn
      have HSf := HSn
      have hUf := hUn
      go_wp2_with fail
      (try simp only [Exit.inBlock, Exit.then])
      refine bodyPost_ret (results_cell_row rfl _ _ w.heap.size _ _ _ _ rfl (blk_set (blk_set HR.out 0 _) 1 _) Tryz.underlying26 rfl hinfo) rfl ?_
      have hk : Only w.heap.size wn ((wn.setCell ⟨w.heap.size, 0, none⟩ (.int .i64 (K.length : Int))).setCell ⟨w.heap.size, 1, none⟩ (.slice A K.length c)) := ((Only.refl _ _).setCell _).setCell _
      have hz := HSZ.out
      have hO7 := own_only HOf.out hk (fun hh => by have := own_of_ge HOf.out hh; omega)
      exact ⟨_, _, K, rfl, own_base hO7 (by omega), by omega, HSf.out.other hk hgl, (hU0.trans hUf).newer hk (Nat.le_refl _)⟩
  | true =>
    clear HO2 hap
    go_wp2_with fail
    refine (l16Rooted_c g cv N w2 HS2.out).mono ?_
    rintro e w3 ⟨v3, K, rfl, hO3, hlk, hS3, ho3⟩
    obtain ⟨A, c, rfl⟩ := ints_slice hO3.ints
    have HO3 := Lib.hid hO3
    have HS3 := Lib.hid hS3
    have hU3 := hU2.trans ho3
    have hbx3 := (ho3.block hpb1 hgp.symm).trans HBX.out
    have z0 : w3.cell? ⟨pb, 0, none⟩ = some (.int .i64 (K1.length : Int)) := by rw [blk_cell hbx3]; rfl
    have z1 : w3.cell? ⟨pb, 1, none⟩ = some (.slice A1 K1.length c1) := by rw [blk_cell hbx3]; rfl
    have zf0 := blk_frozen hbx3 0
    have zf1 := blk_frozen hbx3 1
    have HBX3 := Lib.hid (blk_set (blk_set hbx3 0 (.int .i64 (K.length : Int))) 1 (.slice A K.length c))
    have hkb : Only pb w3 ((w3.setCell ⟨pb, 0, none⟩ (.int .i64 (K.length : Int))).setCell ⟨pb, 1, none⟩ (.slice A K.length c)) := ((Only.refl _ _).setCell _).setCell _
    have hap : ∀ k, (Value.slice A K.length c).ownBlock = some k → k = pb → False := fun k hk he => by have := (HO3.out.lt k hk).1; omega
    have HOK := Lib.hid (OwnI.base (B' := w0.heap.size) (own_only HO3.out hkb (fun hh => hap _ hh rfl)) (by have := hU2.size; omega))
    have HSK := Lib.hid (HS3.out.other hkb (by have := HSZ.out; omega))
    have hUk := hU3.newer hkb hpb0
    have hpb1 : pb < ((w3.setCell ⟨pb, 0, none⟩ (.int .i64 (K.length : Int))).setCell ⟨pb, 1, none⟩ (.slice A K.length c)).heap.size := Nat.lt_of_lt_of_le (Nat.lt_of_lt_of_le hpb1 ho3.size) hkb.size
    have HBX := HBX3
    have HZ := Lib.hid (And.intro hUk hpb1)
    clear hO3 hS3 hbx3 HBX3 hkb HO3 HS3 hU3 HS2 hU2 hUk hpb1
    go_wp2_with fail
    obtain ⟨hUk, hpb1⟩ := HZ.out
    clear HZ z0 z1 zf0 zf1
    generalize ((w3.setCell ⟨pb, 0, none⟩ (.int .i64 (K.length : Int))).setCell ⟨pb, 1, none⟩ (.slice A K.length c)) = wk at *
    refine (l01Next_c g cv N 40 wk HSK.out (by omega)).mono ?_
    rintro e wn ⟨sw, rfl, hsw0, hsw1, _, hSn, hon⟩
    have hUn := hUk.trans hon
    have HBX := Lib.hid ((hon.block hpb1 (by omega)).trans HBX.out)
    have HOn := Lib.hid (own_srcI HOK.out (by have := HSZ.out; omega) hon)
    have HSn := Lib.hid hSn
    have hpb2 : pb < wn.heap.size := Nat.lt_of_lt_of_le hpb1 hon.size
    have hsn := hUn.size
    clear hSn hsw1 hon HOK HSK
    have d0 : wn.cell? ⟨pb, 0, none⟩ = some (.int .i64 (K.length : Int)) := by rw [blk_cell HBX.out]; rfl
    have d1 : wn.cell? ⟨pb, 1, none⟩ = some (.slice A K.length c) := by rw [blk_cell HBX.out]; rfl
    have df0 := blk_frozen HBX.out 0
    have df1 := blk_frozen HBX.out 1
    cases s0 : (sw == 0) with
    | true =>
      have hS3 := HSn.out.grew ((Grew.refl wn).alloc (.cells #[.int .i64 (-1), .int .i64 9, .int .i64 ((K.length : Int) + 1)] 2))
      have hPk := Lib.hid (l01Pick3_c g cv N wn.heap.size (-1) 9 ((K.length : Int) + 1) _ hS3 (by simp) (by have := HSZ.out; omega) (by simp) (by simp) (by simp))
      clear hS3
      go_wp2_with fail
      refine hPk.out.mono ?_
      rintro e wp ⟨rp, rfl, hSp, hop⟩
      have hga := (Grew.refl wn).alloc (.cells #[.int .i64 (-1), .int .i64 9, .int .i64 ((K.length : Int) + 1)] 2)
      have hUp := (hUn.grew hga).trans hop
      have hpb3 : pb < (wn.alloc (.cells #[.int .i64 (-1), .int .i64 9, .int .i64 ((K.length : Int) + 1)] 2)).heap.size := Nat.lt_of_lt_of_le hpb2 hga.size
      have HBX := Lib.hid ((hop.block hpb3 (by omega)).trans ((hga.block hpb2).trans HBX.out))
      have HOp := Lib.hid (own_srcI (HOn.out.grew hga) (by have := HSZ.out; omega) hop)
      have HSp := Lib.hid hSp
      clear hSp hPk d0 d1 df0 df1
      have d0 : wp.cell? ⟨pb, 0, none⟩ = some (.int .i64 (K.length : Int)) := by rw [blk_cell HBX.out]; rfl
      have d1 : wp.cell? ⟨pb, 1, none⟩ = some (.slice A K.length c) := by rw [blk_cell HBX.out]; rfl
      have df0 := blk_frozen HBX.out 0
      have df1 := blk_frozen HBX.out 1
      have HR := Lib.hid (show wp.heap[w.heap.size]? = some (.cells #[.int .i64 0, .slice none 0 0] 26 (0, 0)) from (hUp.block (by have := HSZ.out; omega) (by omega)).trans HB0.out)
      have q0 : wp.cell? ⟨w.heap.size, 0, none⟩ = some (.int .i64 0) := by rw [blk_cell HR.out]; rfl
      have q1 : wp.cell? ⟨w.heap.size, 1, none⟩ = some (.slice none 0 0) := by rw [blk_cell HR.out]; rfl
      have qf0 := blk_frozen HR.out 0
      have qf1 := blk_frozen HR.out 1
      have hkb : Only pb wp (wp.setCell ⟨pb, 0, none⟩ (.int .i64 rp)) := (Only.refl _ _).setCell _
      have HBX2 := Lib.hid (blk_set HBX.out 0 (.int .i64 rp))
      have HOf := Lib.hid (own_only HOp.out hkb (fun hh => hap _ hh rfl))
      have HSf := Lib.hid (HSp.out.other hkb (by have := HSZ.out; omega))
      have hUf := hUp.newer hkb hpb0
      have HR := Lib.hid ((hkb.block (k := w.heap.size) (by have := HSZ.out; have := hUp.size; omega) (by have := HSZ.out; omega)).trans HR.out)
      have e0 : (wp.setCell ⟨pb, 0, none⟩ (.int .i64 rp)).cell? ⟨pb, 0, none⟩ = some (.int .i64 rp) := by rw [blk_cell HBX2.out]; rfl
      have e1 : (wp.setCell ⟨pb, 0, none⟩ (.int .i64 rp)).cell? ⟨pb, 1, none⟩ = some (.slice A K.length c) := by rw [blk_cell HBX2.out]; rfl
      have r0 : (wp.setCell ⟨pb, 0, none⟩ (.int .i64 rp)).cell? ⟨w.heap.size, 0, none⟩ = some (.int .i64 0) := by rw [blk_cell HR.out]; rfl
      have r1 : (wp.setCell ⟨pb, 0, none⟩ (.int .i64 rp)).cell? ⟨w.heap.size, 1, none⟩ = some (.slice none 0 0) := by rw [blk_cell HR.out]; rfl
      have rf0 := blk_frozen HR.out 0
      have rf1 := blk_frozen HR.out 1
      clear q0 q1 qf0 qf1
      go_wp2_with fail
      (try simp only [Exit.inBlock, Exit.then])
      refine bodyPost_ret (results_cell_row rfl _ _ w.heap.size _ _ _ _ rfl (blk_set (blk_set HR.out 0 _) 1 _) Tryz.underlying26 rfl hinfo) rfl ?_
      have hk : Only w.heap.size (wp.setCell ⟨pb, 0, none⟩ (.int .i64 rp)) (((wp.setCell ⟨pb, 0, none⟩ (.int .i64 rp)).setCell ⟨w.heap.size, 0, none⟩ (.int .i64 rp)).setCell ⟨w.heap.size, 1, none⟩ (.slice A K.length c)) := ((Only.refl _ _).setCell _).setCell _
      have hz := HSZ.out
      have hO7 := own_only HOf.out hk (fun hh => by have := own_of_ge HOf.out hh; omega)
      exact ⟨_, _, K, rfl, own_base hO7 (by omega), by omega, HSf.out.other hk hgl, (hU0.trans hUf).newer hk (Nat.le_refl _)⟩
    | false =>
    cases s1 : (sw == 1) with
    | true =>
      have hWN := Lib.hid (ownR_c (.slice A K.length c) K wn HOn.out.ints (by omega))
      go_wp2_with fail
      refine hWN.out.mono ?_
      rintro e wp ⟨vp, rfl, hOp, hgp2⟩
      have hgl2 := hgp2.trans ((Grew.refl wp).alloc (.cells #[.int .i64 0] 2))
      have hOp2 := hOp.grew ((Grew.refl wp).alloc (.cells #[.int .i64 0] 2))
      have hpw : wn.heap.size ≤ (wp.alloc (.cells #[.int .i64 0] 2)).heap.size := hgl2.size
      have hge := fun k hk => own_of_ge hOp2 (g := k) hk
      have hrd2 := rd_litI wp 0 2
      obtain ⟨Ap, cp, rfl⟩ := ints_slice hOp.ints
      clear d0 d1 df0 df1 hWN
      go_wp2_with (first
        | (at_builtin
           refine wpList_appIB wn.heap.size _ _ rfl rfl _ K rfl hOp2 hpw _ 0 rfl hrd2 (by omega) ?_
           intro v6 w6 hO6 hg6
           have hU6 := (hUn.grew hgl2).newer2 hg6 (fun k hk => Nat.le_trans hsn (hge k hk))
           have hB6 := Grew.grown hgl2 hg6 hge
           have HBX := Lib.hid ((hB6.block hpb2).trans HBX.out)
           have hl6 : (K ++ [0]).length ≤ 9 := by rw [List.length_append]; show K.length + 1 ≤ 9; omega
           have hS6 := Lib.hid (HSn.out.grew hB6)
           generalize K ++ [0] = K6 at *
           obtain ⟨A6, c6, rfl⟩ := ints_slice hO6.ints
           have HO6 := Lib.hid hO6
           have d0 : w6.cell? ⟨pb, 0, none⟩ = some (.int .i64 (K.length : Int)) := by rw [blk_cell HBX.out]; rfl
           have d1 : w6.cell? ⟨pb, 1, none⟩ = some (.slice A K.length c) := by rw [blk_cell HBX.out]; rfl
           have df0 := blk_frozen HBX.out 0
           have df1 := blk_frozen HBX.out 1
           have HR := Lib.hid (show w6.heap[w.heap.size]? = some (.cells #[.int .i64 0, .slice none 0 0] 26 (0, 0)) from (hU6.block (by have := HSZ.out; omega) (by omega)).trans HB0.out)
           have q0 : w6.cell? ⟨w.heap.size, 0, none⟩ = some (.int .i64 0) := by rw [blk_cell HR.out]; rfl
           have q1 : w6.cell? ⟨w.heap.size, 1, none⟩ = some (.slice none 0 0) := by rw [blk_cell HR.out]; rfl
           have qf0 := blk_frozen HR.out 0
           have qf1 := blk_frozen HR.out 1
           have hapn : ∀ k, (Value.slice A6 K6.length c6).ownBlock = some k → k = pb → False := fun k hk he => by have := own_of_ge HO6.out hk; omega
           have hkb : Only pb w6 (w6.setCell ⟨pb, 1, none⟩ (.slice A6 K6.length c6)) := (Only.refl _ _).setCell _
           have HBX2 := Lib.hid (blk_set HBX.out 1 (.slice A6 K6.length c6))
           have HOf := Lib.hid (OwnI.base (B' := w0.heap.size) (own_only HO6.out hkb (fun hh => hapn _ hh rfl)) hsn)
           have HSf := Lib.hid (hS6.out.other hkb (by have := HSZ.out; omega))
           have hUf := Lib.hid (hU6.newer hkb hpb0)
           have HR := Lib.hid ((hkb.block (k := w.heap.size) (by have := HSZ.out; have := hU6.size; omega) (by have := HSZ.out; omega)).trans HR.out)
           have e0 : (w6.setCell ⟨pb, 1, none⟩ (.slice A6 K6.length c6)).cell? ⟨pb, 0, none⟩ = some (.int .i64 (K.length : Int)) := by rw [blk_cell HBX2.out]; rfl
           have e1 : (w6.setCell ⟨pb, 1, none⟩ (.slice A6 K6.length c6)).cell? ⟨pb, 1, none⟩ = some (.slice A6 K6.length c6) := by rw [blk_cell HBX2.out]; rfl
           have r0 : (w6.setCell ⟨pb, 1, none⟩ (.slice A6 K6.length c6)).cell? ⟨w.heap.size, 0, none⟩ = some (.int .i64 0) := by rw [blk_cell HR.out]; rfl
           have r1 : (w6.setCell ⟨pb, 1, none⟩ (.slice A6 K6.length c6)).cell? ⟨w.heap.size, 1, none⟩ = some (.slice none 0 0) := by rw [blk_cell HR.out]; rfl
           have rf0 := blk_frozen HR.out 0
           have rf1 := blk_frozen HR.out 1
           clear q0 q1 qf0 qf1 hO6 hkb hapn hB6 hU6))
      replace hUf := hUf.out
      (try simp only [Exit.inBlock, Exit.then])
      refine bodyPost_ret (results_cell_row rfl _ _ w.heap.size _ _ _ _ rfl (blk_set (blk_set HR.out 0 _) 1 _) Tryz.underlying26 rfl hinfo) rfl ?_
      have hk : Only w.heap.size (w6.setCell ⟨pb, 1, none⟩ (.slice A6 K6.length c6)) (((w6.setCell ⟨pb, 1, none⟩ (.slice A6 K6.length c6)).setCell ⟨w.heap.size, 0, none⟩ (.int .i64 (K.length : Int))).setCell ⟨w.heap.size, 1, none⟩ (.slice A6 K6.length c6)) := ((Only.refl _ _).setCell _).setCell _
      have hz := HSZ.out
      have hO7 := own_only HOf.out hk (fun hh => by have := own_of_ge HOf.out hh; omega)
      exact ⟨_, _, K6, rfl, own_base hO7 (by omega), by omega, HSf.out.other hk hgl, (hU0.trans hUf).newer hk (Nat.le_refl _)⟩
    | false =>
    cases s2 : (sw == 2) with
    | true =>
      by_cases h0 : 0 < K.length
      · obtain ⟨gr, cur, rfl, hgr, hcur, hcs, hall⟩ := own_irow HOn.out h0
        have HCU := Lib.hid hcur
        have HAL := Lib.hid hall
        have hFN0 := l01Full_q K.length (by omega)
        have hF0 : 0 < 2 ^ K.length := Nat.pow_pos (by omega)
        have hF9 : 2 ^ K.length ≤ 256 := Nat.le_trans (Nat.pow_le_pow_right (by omega) hlk) (by decide)
        rw [← full_cast] at hFN0
        have hff : full K.length ≤ 255 := by unfold full; omega
        have hFN := Lib.hid hFN0
        clear hFN0 hF0 hF9
        generalize full K.length = fn at *
        have hgz : g < w0.heap.size := by have := HSZ.out; omega
        have hpgr : pb ≠ gr := fun he => hap gr rfl he.symm
        have KN := Lib.hid (fun (n : Int) (hn : Hid (1 ≤ n ∧ n ≤ 100000)) W (hW : SO g cv N wn W) => so_next g cv N wn n hn.out W hW)
        have KR := Lib.hid (fun W W' (h : SR g cv N w0 pb gr K.length c (.cells #[.int .i64 (K.length : Int), .slice (some ⟨gr, 0, none⟩) K.length c] 26) W) (hS : SO g cv N wn W') (ho : Only g W W') => h.next hS.1 ho hgz hgp.symm)
        have hSR : SR g cv N w0 pb gr K.length c (.cells #[.int .i64 (K.length : Int), .slice (some ⟨gr, 0, none⟩) K.length c] 26) wn := ⟨HSn.out, hUn, HBX.out, K, rfl, HOn.out⟩
        have KA := Lib.hid (fun (n : Int) (hn : Hid (n ≤ 8 ∧ 1 ≤ n)) W (hW : SO g cv N wn W) => so_next g cv N wn n (by have := hn.out; omega) W hW)
        have HN1 : Hid ((K.length : Int) ≤ 8 ∧ 1 ≤ (K.length : Int)) := Lib.hid ⟨by omega, by omega⟩
        have HN2 : Hid (1 ≤ (fn : Int) + 2 ∧ (fn : Int) + 2 ≤ 100000) := Lib.hid ⟨by omega, by omega⟩
        have hSO : SO g cv N wn wn := ⟨HSn.out, Only.refl _ _⟩
        have hSOd := hSO.drew
        have hSRd := hSR.drew
        have hgrn : gr < wn.heap.size := blk_lt hcur
        have x0 : ∀ W, SR g cv N w0 pb gr K.length c (.cells #[.int .i64 (K.length : Int), .slice (some ⟨gr, 0, none⟩) K.length c] 26) W → W.cell? ⟨pb, 0, none⟩ = some (.int .i64 (K.length : Int)) := fun W hW => by rw [blk_cell hW.2.2.1]; rfl
        have x1 : ∀ W, SR g cv N w0 pb gr K.length c (.cells #[.int .i64 (K.length : Int), .slice (some ⟨gr, 0, none⟩) K.length c] 26) W → W.cell? ⟨pb, 1, none⟩ = some (.slice (some ⟨gr, 0, none⟩) K.length c) := fun W hW => by rw [blk_cell hW.2.2.1]; rfl
        have hgg : gr ≠ g := by have := HSZ.out; omega
        have xf : ∀ W k, SO g cv N wn W → W.frozen? ⟨gr, k, none⟩ = false := fun W k hW => blk_frozen ((hW.2.block hgrn hgg).trans HCU.out) k
        have xc := Lib.hid (fun k (hk : k < K.length) W (hW : SO g cv N wn W) => (hW.2.cell (p := ⟨gr, k, none⟩) hgrn hgg).trans (show wn.cell? ⟨gr, k, none⟩ = some (.int .i64 (it K k)) by rw [blk_cell HCU.out]; exact HAL.out k hk))
        have hwr : IntKind.i64.wrap ((fn : Int) + 2) = (fn : Int) + 2 := by rw [IntKind.wrap_i64]; omega
        clear hcur hall d0 d1 df0 df1
        go_wp2_with fail
        go_region_held3 (fun w' => SR g cv N w0 pb gr K.length c (.cells #[.int .i64 (K.length : Int), .slice (some ⟨gr, 0, none⟩) K.length c] 26) w') (first | assumption | exact SR.drew ‹_› | exact SR.store ‹_› hgz hgr hpgr (by omega)) (first
          | (go_at_call 42; refine (hFN.out _).mono ?_; rintro e w5 ⟨rfl, rfl⟩)
          | (go_at_call 41; refine Calls.mono (KA.out _ (by assumption) _ (by assumption)) ?_; rintro e wa ⟨rk, rfl, h61, hSOa, hoa⟩; have h60 : (0 : Int) ≤ (rk : Int) := Int.natCast_nonneg _; have hSRa := KR.out _ wa ‹_› hSOa hoa; have hc5 := xc.out rk (by omega))
          | (go_at_call 41; refine Calls.mono (KN.out _ (by assumption) _ (by assumption)) ?_; rintro e w5 ⟨r5, rfl, h51, hSO5, ho5⟩; have h50 : (0 : Int) ≤ (r5 : Int) := Int.natCast_nonneg _; have hSR5 := KR.out _ w5 ‹_› hSO5 ho5))
        · have hSRe := SR.store (k := rk) (x := IntKind.i64.wrap ((r5 : Int) - 1)) hSR5 hgz hgr hpgr (by omega)
          clear x0 x1 xf hc5 hSO5 hSOa hSR5 hSRa hSO hSOd hSRd
          generalize w5.setCell ⟨gr, rk, none⟩ (.int .i64 (IntKind.i64.wrap ((r5 : Int) - 1))) = wz at hSRe ⊢
          obtain ⟨hSz, hUz, hBz, Kz, hKz, hOz⟩ := hSRe
          have HBX := Lib.hid hBz
          have HSf := Lib.hid hSz
          have hUf := hUz
          rw [← hKz] at hOz HBX ⊢
          have HOf := Lib.hid hOz
          have hlz : Kz.length ≤ 8 := by omega
          clear hSz hBz hOz hKz
          have d0 : wz.cell? ⟨pb, 0, none⟩ = some (.int .i64 (Kz.length : Int)) := by rw [blk_cell HBX.out]; rfl
          have d1 : wz.cell? ⟨pb, 1, none⟩ = some (.slice (some ⟨gr, 0, none⟩) Kz.length c) := by rw [blk_cell HBX.out]; rfl
          have df0 := blk_frozen HBX.out 0
          have df1 := blk_frozen HBX.out 1
          have HR := Lib.hid (show wz.heap[w.heap.size]? = some (.cells #[.int .i64 0, .slice none 0 0] 26 (0, 0)) from (hUz.block (by have := HSZ.out; omega) (by omega)).trans HB0.out)
          have q0 : wz.cell? ⟨w.heap.size, 0, none⟩ = some (.int .i64 0) := by rw [blk_cell HR.out]; rfl
          have q1 : wz.cell? ⟨w.heap.size, 1, none⟩ = some (.slice none 0 0) := by rw [blk_cell HR.out]; rfl
          have qf0 := blk_frozen HR.out 0
          have qf1 := blk_frozen HR.out 1
          go_wp2_with fail
          (try simp only [Exit.inBlock, Exit.then])
          refine bodyPost_ret (results_cell_row rfl _ _ w.heap.size _ _ _ _ rfl (blk_set (blk_set HR.out 0 _) 1 _) Tryz.underlying26 rfl hinfo) rfl ?_
          have hk : Only w.heap.size wz ((wz.setCell ⟨w.heap.size, 0, none⟩ (.int .i64 (Kz.length : Int))).setCell ⟨w.heap.size, 1, none⟩ (.slice (some ⟨gr, 0, none⟩) Kz.length c)) := ((Only.refl _ _).setCell _).setCell _
          have hz := HSZ.out
          have hO7 := own_only HOf.out hk (fun hh => by have := own_of_ge HOf.out hh; omega)
          exact ⟨_, _, Kz, rfl, own_base hO7 (by omega), by omega, HSf.out.other hk hgl, (hU0.trans hUf).newer hk (Nat.le_refl _)⟩
      · have h00 : ¬ (0 : Int) < (K.length : Int) := by omega
        have HR := Lib.hid (show wn.heap[w.heap.size]? = some (.cells #[.int .i64 0, .slice none 0 0] 26 (0, 0)) from (hUn.block (by have := HSZ.out; omega) (by omega)).trans HB0.out)
        have q0 : wn.cell? ⟨w.heap.size, 0, none⟩ = some (.int .i64 0) := by rw [blk_cell HR.out]; rfl
        have q1 : wn.cell? ⟨w.heap.size, 1, none⟩ = some (.slice none 0 0) := by rw [blk_cell HR.out]; rfl
        have qf0 := blk_frozen HR.out 0
        have qf1 := blk_frozen HR.out 1
        have HOf := HOn
        have HSf := HSn
        have hUf := hUn
        go_wp2_with fail
        (try simp only [Exit.inBlock, Exit.then])
        refine bodyPost_ret (results_cell_row rfl _ _ w.heap.size _ _ _ _ rfl (blk_set (blk_set HR.out 0 _) 1 _) Tryz.underlying26 rfl hinfo) rfl ?_
        have hk : Only w.heap.size wn ((wn.setCell ⟨w.heap.size, 0, none⟩ (.int .i64 (K.length : Int))).setCell ⟨w.heap.size, 1, none⟩ (.slice A K.length c)) := ((Only.refl _ _).setCell _).setCell _
        have hz := HSZ.out
        have hO7 := own_only HOf.out hk (fun hh => by have := own_of_ge HOf.out hh; omega)
        exact ⟨_, _, K, rfl, own_base hO7 (by omega), by omega, HSf.out.other hk hgl, (hU0.trans hUf).newer hk (Nat.le_refl _)⟩
    | false =>
      have HR := Lib.hid (show wn.heap[w.heap.size]? = some (.cells #[.int .i64 0, .slice none 0 0] 26 (0, 0)) from (hUn.block (by have := HSZ.out; omega) (by omega)).trans HB0.out)
      have q0 : wn.cell? ⟨w.heap.size, 0, none⟩ = some (.int .i64 0) := by rw [blk_cell HR.out]; rfl
      have q1 : wn.cell? ⟨w.heap.size, 1, none⟩ = some (.slice none 0 0) := by rw [blk_cell HR.out]; rfl
      have qf0 := blk_frozen HR.out 0
      have qf1 := blk_frozen HR.out 1
      have HOf := HOn
      have HSf := HSn
      have hUf := hUn
      go_wp2_with fail
      (try simp only [Exit.inBlock, Exit.then])
      refine bodyPost_ret (results_cell_row rfl _ _ w.heap.size _ _ _ _ rfl (blk_set (blk_set HR.out 0 _) 1 _) Tryz.underlying26 rfl hinfo) rfl ?_
      have hk : Only w.heap.size wn ((wn.setCell ⟨w.heap.size, 0, none⟩ (.int .i64 (K.length : Int))).setCell ⟨w.heap.size, 1, none⟩ (.slice A K.length c)) := ((Only.refl _ _).setCell _).setCell _
      have hz := HSZ.out
      have hO7 := own_only HOf.out hk (fun hh => by have := own_of_ge HOf.out hh; omega)
      exact ⟨_, _, K, rfl, own_base hO7 (by omega), by omega, HSf.out.other hk hgl, (hU0.trans hUf).newer hk (Nat.le_refl _)⟩
end Go.Proofs.YtphljdhacbpkbaaGreat

/- l01Image: it only reads. -/
namespace Go.Proofs.YtphljdhacbpkbaaGreat
open Go.RowKit
theorem l01Image_q (v : Value) (A : List Nat) (m : Nat) (w : World) (h : Ints w v (zs A)) (hA : Sm A) (hn30 : A.length ≤ 30) (hm : m < 2 ^ A.length) :
    Calls Tryz.prog 129 #[v, .int .i64 (m : Int)] w fun e w' => e = .returned (.int .i64 ((img A m : Nat) : Int)) ∧ w' = w := by
  have hm' : m < 1073741824 := Nat.lt_of_lt_of_le hm (pow30' hn30)
  have HH := Lib.hid (fun i (hi : i < 64) => l01Bit_q m i (by omega) hi)
  have HR := Lib.hid (img_imK hm hn30)
  have HY := Lib.hid (fun k => @imK_yes A m k)
  have HN := Lib.hid (fun k => @imK_no A m k)
  have HS := Lib.hid (fun k hk => imK_sm (m := m) hA k hk)
  have HT := Lib.hid (fun i (hi : i < A.length) => hA.at_ hi)
  have HO := Lib.hid (fun a b (ha : a < 1073741824) (hb : b < 1073741824) => or_i64 a b (by omega) (by omega))
  obtain ⟨A', c, rfl⟩ := ints_sliceN h
  have HC := Lib.hid (fun h0 => cellsN h h0)
  clear hm hm' h hA
  generalize img A m = R at *
  generalize hNA : A.length = n at *
  clear hNA
  go_enter Tryz.func129, Tryz.ntmps129
  go_wp2_with fail
  go_loopw [5, 6] (fun q i wr => ∃ j : Nat, j ≤ n ∧ i = .int .i64 j ∧ q = .int .i64 ((imK A m j : Nat) : Int) ∧ wr = w) (fun _ i _ => n - (intOf i).toNat)
  case atStart => exact ⟨0, by omega, rfl, rfl, rfl⟩
  case round =>
    obtain ⟨j, hj, rfl, rfl, rfl⟩ := hrel
    by_cases hlt : j < n
    · obtain ⟨b2, o2, rfl, hcell2⟩ := HC.out (by omega)
      have hH := Lib.hid (HH.out j (by omega))
      have ho := HO.out _ _ (HS.out j (by omega)) (HT.out j hlt)
      have hY := Lib.hid (HY.out j)
      have hN := Lib.hid (HN.out j)
      have hcell := Lib.hid (hcell2 j hlt)
      clear hcell2
      generalize nt A j = y at *
      generalize m.testBit j = t at *
      generalize hsj : imK A m j = sj at *
      clear hsj
      go_wp2_with fail
      refine (hH.out _).mono ?_
      rintro e w2 ⟨rfl, rfl⟩
      have k1 := hcell.out _ (Grew.refl _)
      cases t with
      | true =>
        have hy := Lib.hid (hY.out rfl)
        go_wp2_with fail
        go_roundw
        case rel => exact ⟨j + 1, by omega, by go_num, by rw [hy.out], trivial⟩
        case measure => simp [intOf]; omega
      | false =>
        have hn := Lib.hid (hN.out rfl)
        go_wp2_with fail
        go_roundw
        case rel => exact ⟨j + 1, by omega, by go_num, by rw [hn.out], trivial⟩
        case measure => simp [intOf]; omega
    · obtain rfl : j = n := by omega
      have hr := Lib.hid HR.out
      go_wp2_with fail
      go_ret
      exact ⟨by rw [hr.out]; rfl, rfl⟩
end Go.Proofs.YtphljdhacbpkbaaGreat

/- Formulas as trees, their lists of nodes and their texts. No program is in sight. -/
import Derived.Test.YthofkdpmgjkgkaaGreatParse1
namespace Go.Proofs.YthofkdpmgjkgkaaGreat
namespace Fm

inductive Tree where
  | var (v : Fin 6)
  | fls
  | and (a b : Tree)
  | or (a b : Tree)
  | imp (a b : Tree)
  | box (a : Tree)
  | dia (a : Tree)

/-- The list of the nodes. -/
def enc : Tree → List Nd
  | .var v => [(0, (v.val : Int))]
  | .fls => [(1, 0)]
  | .and a b => (2, 0) :: (enc a ++ enc b)
  | .or a b => (3, 0) :: (enc a ++ enc b)
  | .imp a b => (4, 0) :: (enc a ++ enc b)
  | .box a => (5, 0) :: enc a
  | .dia a => (6, 0) :: enc a

theorem enc_pos (t : Tree) : 1 ≤ (enc t).length := by cases t <;> simp [enc]

def isF : Tree → Bool
  | .fls => true
  | _ => false
theorem isF_eq {t : Tree} (h : isF t = true) : t = .fls := by cases t <;> simp_all [isF]

/-- How many parts the nodes of a kind have. -/
def arity (k : Int) : Nat := if k = 2 ∨ k = 3 ∨ k = 4 then 2 else if k = 5 ∨ k = 6 then 1 else 0
theorem arity_le (k : Int) : arity k ≤ 2 := by unfold arity; split; omega; split <;> omega

/-- How many nodes are read till no part is open. -/
def scan : List Nd → Nat → Option Nat
  | _, 0 => some 0
  | [], _ + 1 => none
  | x :: xs, o + 1 => (scan xs (o + arity x.1)).map (· + 1)

theorem scan_zero (xs : List Nd) : scan xs 0 = some 0 := by cases xs <;> rfl
theorem scan_nil (o : Nat) : scan [] (o + 1) = none := rfl
theorem scan_cons (x : Nd) (xs : List Nd) (o : Nat) : scan (x :: xs) (o + 1) = (scan xs (o + arity x.1)).map (· + 1) := rfl

theorem scan_enc (t : Tree) : ∀ (rest : List Nd) (o : Nat), scan (enc t ++ rest) (o + 1) = (scan rest o).map (· + (enc t).length) := by
  induction t with
  | var v => intro rest o; simp [enc, scan_cons, arity]
  | fls => intro rest o; simp [enc, scan_cons, arity]
  | and a b iha ihb =>
    intro rest o
    simp only [enc, List.cons_append, scan_cons, List.append_assoc]
    rw [show arity 2 = 2 from rfl, show o + 2 = (o + 1) + 1 from rfl, iha, ihb]
    cases scan rest o <;> simp; omega
  | or a b iha ihb =>
    intro rest o
    simp only [enc, List.cons_append, scan_cons, List.append_assoc]
    rw [show arity 3 = 2 from rfl, show o + 2 = (o + 1) + 1 from rfl, iha, ihb]
    cases scan rest o <;> simp; omega
  | imp a b iha ihb =>
    intro rest o
    simp only [enc, List.cons_append, scan_cons, List.append_assoc]
    rw [show arity 4 = 2 from rfl, show o + 2 = (o + 1) + 1 from rfl, iha, ihb]
    cases scan rest o <;> simp; omega
  | box a iha =>
    intro rest o
    simp only [enc, List.cons_append, scan_cons]
    rw [show arity 5 = 1 from rfl, iha]
    cases scan rest o <;> simp; omega
  | dia a iha =>
    intro rest o
    simp only [enc, List.cons_append, scan_cons]
    rw [show arity 6 = 1 from rfl, iha]
    cases scan rest o <;> simp; omega
theorem scan_one (t : Tree) (rest : List Nd) : scan (enc t ++ rest) 1 = some (enc t).length := by
  rw [scan_enc t rest 0, scan_zero]; simp
theorem scan_le : ∀ (xs : List Nd) (o n : Nat), scan xs o = some n → n ≤ xs.length := by
  intro xs
  induction xs with
  | nil => intro o n h; cases o with
    | zero => simp [scan_zero] at h; omega
    | succ o => simp [scan_nil] at h
  | cons x xs ih => intro o n h; cases o with
    | zero => simp [scan_zero] at h; omega
    | succ o =>
      rw [scan_cons] at h
      cases hs : scan xs (o + arity x.1) with
      | none => rw [hs] at h; simp at h
      | some m => rw [hs] at h; simp at h; have := ih _ _ hs; simp; omega

/-- The level of the grammar at which a text stands. -/
def own : Tree → Nat
  | .and _ _ => 2
  | .or _ _ => 1
  | .imp _ b => if isF b then 3 else 0
  | _ => 3
def wrap (l o : Nat) (s : List UInt8) : List UInt8 := if o < l then [40] ++ s ++ [41] else s
/-- The text at a level. -/
def txt : Tree → Nat → List UInt8
  | .var v, _ => [UInt8.ofNat (112 + v.val)]
  | .fls, _ => [70]
  | .and a b, l => wrap l 2 (txt a 2 ++ [38] ++ txt b 3)
  | .or a b, l => wrap l 1 (txt a 1 ++ [124] ++ txt b 2)
  | .imp a b, l => if isF b then (if isF a then [84] else [126] ++ txt a 3) else wrap l 0 (txt a 1 ++ [62] ++ txt b 0)
  | .box a, _ => [91, 93] ++ txt a 3
  | .dia a, _ => [60, 62] ++ txt a 3

theorem wrap_len (l o : Nat) (s : List UInt8) : (wrap l o s).length ≤ s.length + 2 := by
  unfold wrap; split <;> simp
theorem txt_len (t : Tree) : ∀ l, (txt t l).length ≤ 4 * (enc t).length := by
  induction t with
  | var v => intro l; simp [txt, enc]
  | fls => intro l; simp [txt, enc]
  | and a b iha ihb =>
    intro l
    have := wrap_len l 2 (txt a 2 ++ [38] ++ txt b 3)
    have h1 := iha 2
    have h2 := ihb 3
    simp only [txt, enc, List.length_cons, List.length_append, List.length_nil] at *
    omega
  | or a b iha ihb =>
    intro l
    have := wrap_len l 1 (txt a 1 ++ [124] ++ txt b 2)
    have h1 := iha 1
    have h2 := ihb 2
    simp only [txt, enc, List.length_cons, List.length_append, List.length_nil] at *
    omega
  | imp a b iha ihb =>
    intro l
    have := wrap_len l 0 (txt a 1 ++ [62] ++ txt b 0)
    have h1 := iha 1
    have h2 := ihb 0
    have h3 := iha 3
    have h4 := enc_pos a
    simp only [txt]
    split
    · split
      · simp [enc]; omega
      · simp only [enc, List.length_cons, List.length_append, List.length_nil]; omega
    · simp only [enc, List.length_cons, List.length_append, List.length_nil] at *; omega
  | box a iha =>
    intro l
    have h3 := iha 3
    simp only [txt, enc, List.length_cons, List.length_append, List.length_nil]; omega
  | dia a iha =>
    intro l
    have h3 := iha 3
    simp only [txt, enc, List.length_cons, List.length_append, List.length_nil]; omega

theorem arity_enc (t : Tree) : ∃ x rest, enc t = x :: rest := by cases t <;> exact ⟨_, _, rfl⟩

/-- Every list that the parser makes is that of a tree. -/
def IsEnc (xs : List Nd) : Prop := ∃ t, xs = enc t
theorem isEnc_join {k : Int} {a b : List Nd} (hk : k = 2 ∨ k = 3 ∨ k = 4) (ha : IsEnc a) (hb : IsEnc b) : IsEnc (join k a b) := by
  obtain ⟨s, rfl⟩ := ha
  obtain ⟨t, rfl⟩ := hb
  rcases hk with rfl | rfl | rfl
  · exact ⟨.and s t, rfl⟩
  · exact ⟨.or s t, rfl⟩
  · exact ⟨.imp s t, rfl⟩
theorem isEnc_pre {k : Int} {a : List Nd} (hk : k = 5 ∨ k = 6) (ha : IsEnc a) : IsEnc (pre k a) := by
  obtain ⟨s, rfl⟩ := ha
  rcases hk with rfl | rfl
  · exact ⟨.box s, rfl⟩
  · exact ⟨.dia s, rfl⟩
theorem isEnc_falsum : IsEnc falsum := ⟨.fls, rfl⟩
theorem loop_enc {s : List UInt8} {k : Int} {c : UInt8} {sub : St → Res} (hk : k = 2 ∨ k = 3 ∨ k = 4) (hsub : ∀ st, IsEnc (sub st).1) : ∀ (m : Nat) (a : List Nd) (st : St), IsEnc a → IsEnc (loop s k c sub m a st).1 := by
  intro m
  induction m with
  | zero => intro a st h; exact h
  | succ m ih =>
    intro a st h
    unfold loop
    split
    · exact ih _ _ (isEnc_join hk h (hsub _))
    · exact h
theorem andF_enc {s : List UInt8} {m : Nat} {sub : St → Res} (hsub : ∀ st, IsEnc (sub st).1) (st : St) : IsEnc (andF s m sub st).1 := loop_enc (.inl rfl) hsub _ _ _ (hsub st)
theorem orF_enc {s : List UInt8} {m : Nat} {sub : St → Res} (hsub : ∀ st, IsEnc (sub st).1) (st : St) : IsEnc (orF s m sub st).1 := loop_enc (.inr (.inl rfl)) (fun st => andF_enc hsub st) _ _ _ (andF_enc hsub st)
theorem impF_enc {s : List UInt8} {m : Nat} {sub : St → Res} (hsub : ∀ st, IsEnc (sub st).1) : ∀ (i : Nat) (st : St), IsEnc (impF s m sub i st).1 := by
  intro i
  induction i with
  | zero => intro st; exact orF_enc hsub st
  | succ i ih =>
    intro st
    unfold impF
    dsimp only
    split
    · exact isEnc_join (.inr (.inr rfl)) (orF_enc hsub st) (ih _)
    · exact orF_enc hsub st
theorem preF_enc {s : List UInt8} {m : Nat} : ∀ (f : Nat) (st : St), IsEnc (preF s m f st).1 := by
  intro f
  induction f with
  | zero => intro st; exact isEnc_falsum
  | succ f ih =>
    intro st
    unfold preF
    split
    · exact isEnc_join (.inr (.inr rfl)) (ih _) isEnc_falsum
    split
    · exact isEnc_pre (.inl rfl) (ih _)
    split
    · exact isEnc_pre (.inr rfl) (ih _)
    split
    · exact isEnc_falsum
    split
    · exact ⟨.imp .fls .fls, rfl⟩
    split
    · exact impF_enc ih _ _
    split
    · rename_i v hv
      exact ⟨.var ⟨v, (letter_some hv).1⟩, rfl⟩
    · exact isEnc_falsum
theorem parse_enc (s : List UInt8) (m : Nat) : IsEnc (parse s m).1 := impF_enc (fun st => preF_enc m st) m _

end Fm
end Go.Proofs.YthofkdpmgjkgkaaGreat

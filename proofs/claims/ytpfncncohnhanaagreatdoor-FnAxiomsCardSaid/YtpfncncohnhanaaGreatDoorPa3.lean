/- Texts in one file: MoT Corr FlT Fv EncI Part Agree Equal Write Good PartP Text Parsed IsText Cont Plain Gp TxP Fo KrT MvT RfP Vm FvP FaT FlE FlC FlP FaP EqN Eq LawAxiom FaQ. -/
import Derived.Lib.SlicesS
import Derived.Deep.QuietTactic
import Derived.BigQuiet
import Derived.Deep.LoopGhost
import Derived.Outline
import Derived.Deep.RegionHeld3
import Derived.WalkSpells
import Derived.WalkLawsBesides
import Derived.Shelf.Abstract
import Derived.Laws.EntriesVeiled
import Derived.Test.YtpfncncohnhanaaGreatDoorPa1
import Derived.Test.YtpfncncohnhanaaGreatDoorPa2
set_option linter.all false

/- Modal truth on finite frames, plain: the sets of worlds at which formulas are true; truth at a world by a relation. No program is in sight. -/
namespace Go.Proofs.YtpfncncohnhanaaGreatDoor
open Go.RowKit
open Fm (Nd Tree)

/-- The worlds at which a formula is true. -/
def mv (A V : List Nat) : Tree → Nat
  | .var v => nt V v.val
  | .fls => 0
  | .and a b => mv A V a &&& mv A V b
  | .or a b => mv A V a ||| mv A V b
  | .imp a b => dif (full A.length) (mv A V a) ||| mv A V b
  | .box a => bx A (mv A V a)
  | .dia a => dif (full A.length) (bx A (dif (full A.length) (mv A V a)))

/-- Truth at a world. -/
def tr (R : Nat → Nat → Prop) (V : Nat → Nat → Prop) : Tree → Nat → Prop
  | .var v, x => V v.val x
  | .fls, _ => False
  | .and a b, x => tr R V a x ∧ tr R V b x
  | .or a b, x => tr R V a x ∨ tr R V b x
  | .imp a b, x => tr R V a x → tr R V b x
  | .box a, x => ∀ y, R x y → tr R V a y
  | .dia a, x => ∃ y, R x y ∧ tr R V a y

/-- The relation of a row of masks; the values of a row of masks. -/
def rl (A : List Nat) (x y : Nat) : Prop := (nt A x).testBit y = true
def vl (V : List Nat) (v x : Nat) : Prop := (nt V v).testBit x = true

theorem dif_lt {n a b : Nat} (h : a < 2 ^ n) : dif a b < 2 ^ n := Nat.lt_of_le_of_lt dif_le h
theorem nt_lt {V : List Nat} {n v : Nat} (hV : ∀ m ∈ V, m < 2 ^ n) : nt V v < 2 ^ n := by
  by_cases h : v < V.length
  · exact hV _ (nt_mem h)
  · unfold nt; rw [List.getD_eq_getElem?_getD, List.getElem?_eq_none (by omega)]; exact Nat.pow_pos (by omega)
theorem mv_lt {A V : List Nat} (hV : ∀ m ∈ V, m < 2 ^ A.length) : ∀ t : Tree, mv A V t < 2 ^ A.length
  | .var v => nt_lt hV
  | .fls => Nat.pow_pos (by omega)
  | .and a b => Nat.and_lt_two_pow _ (mv_lt hV b)
  | .or a b => Nat.or_lt_two_pow (mv_lt hV a) (mv_lt hV b)
  | .imp a b => Nat.or_lt_two_pow (dif_lt (full_lt _)) (mv_lt hV b)
  | .box a => bx_lt _ _
  | .dia a => dif_lt (full_lt _)

theorem mv_bit {A V : List Nat} (hA : Rl A) : ∀ (t : Tree) (x : Nat), x < A.length → ((mv A V t).testBit x = true ↔ tr (rl A) (vl V) t x)
  | .var v, x, _ => Iff.rfl
  | .fls, x, _ => by show (0 : Nat).testBit x = true ↔ False; simp
  | .and a b, x, hx => by
    show (mv A V a &&& mv A V b).testBit x = true ↔ _ ∧ _
    rw [Nat.testBit_and, Bool.and_eq_true, mv_bit hA a x hx, mv_bit hA b x hx]
  | .or a b, x, hx => by
    show (mv A V a ||| mv A V b).testBit x = true ↔ _ ∨ _
    rw [Nat.testBit_or, Bool.or_eq_true, mv_bit hA a x hx, mv_bit hA b x hx]
  | .imp a b, x, hx => by
    show (dif (full A.length) (mv A V a) ||| mv A V b).testBit x = true ↔ (_ → _)
    rw [Nat.testBit_or, dif_bit, full_bit, decide_eq_true hx, Bool.true_and, ← mv_bit hA a x hx, ← mv_bit hA b x hx]
    cases (mv A V a).testBit x <;> cases (mv A V b).testBit x <;> simp
  | .box a, x, hx => by
    show (bx A (mv A V a)).testBit x = true ↔ ∀ y, rl A x y → _
    rw [bx_bit]
    exact ⟨fun ⟨_, h⟩ y hy => (mv_bit hA a y (hA.bit hx hy)).1 (h y hy), fun h => ⟨hx, fun y hy => (mv_bit hA a y (hA.bit hx hy)).2 (h y hy)⟩⟩
  | .dia a, x, hx => by
    show (dif (full A.length) (bx A (dif (full A.length) (mv A V a)))).testBit x = true ↔ ∃ y, rl A x y ∧ _
    rw [dif_bit, full_bit, decide_eq_true hx, Bool.true_and, Bool.not_eq_true']
    constructor
    · intro h
      apply Classical.byContradiction
      intro hn
      have : (bx A (dif (full A.length) (mv A V a))).testBit x = true := bx_bit.2 ⟨hx, fun y hy => by
        have hy' := hA.bit hx hy
        rw [dif_bit, full_bit, decide_eq_true hy', Bool.true_and, Bool.not_eq_true']
        cases hb : (mv A V a).testBit y with
        | false => rfl
        | true => exact absurd ⟨y, hy, (mv_bit hA a y hy').1 hb⟩ hn⟩
      rw [h] at this
      cases this
    · rintro ⟨y, hy, ht⟩
      cases hb : (bx A (dif (full A.length) (mv A V a))).testBit x with
      | false => rfl
      | true =>
        have hy' := hA.bit hx hy
        have h2 := (bx_bit.1 hb).2 y hy
        rw [dif_bit, full_bit, decide_eq_true hy', Bool.true_and, (mv_bit hA a y hy').2 ht] at h2
        cases h2

/-- A mask is full if all worlds stand in it. -/
theorem eq_full {n m : Nat} (hm : m < 2 ^ n) : m = full n ↔ ∀ x, x < n → m.testBit x = true := by
  constructor
  · intro h x hx; rw [h, full_bit, decide_eq_true hx]
  · intro h
    apply Nat.eq_of_testBit_eq
    intro x
    rw [full_bit]
    by_cases hx : x < n
    · rw [h x hx, decide_eq_true hx]
    · rw [decide_eq_false hx]
      cases hb : m.testBit x with
      | false => rfl
      | true => exact absurd (bit_lt hm hb) hx
/-- A mask for a property of the worlds. -/
theorem mask_of (n : Nat) (P : Nat → Prop) : ∃ m, m < 2 ^ n ∧ ∀ x, x < n → (m.testBit x = true ↔ P x) := by
  induction n with
  | zero => exact ⟨0, by omega, fun x hx => absurd hx (by omega)⟩
  | succ n ih =>
    obtain ⟨m, hm, h⟩ := ih
    have h2 : 2 ^ (n + 1) = 2 * 2 ^ n := by rw [Nat.pow_succ]; omega
    by_cases hp : P n
    · refine ⟨m ||| 2 ^ n, or_n (by omega) (by omega), fun x hx => ?_⟩
      rw [Nat.testBit_or, Nat.testBit_two_pow, Bool.or_eq_true]
      by_cases hx' : x = n
      · subst hx'; simp [hp]
      · rw [h x (by omega)]
        have hne : ¬ n = x := fun e => hx' e.symm
        simp [hne]
    · refine ⟨m, by omega, fun x hx => ?_⟩
      by_cases hx' : x = n
      · subst hx'
        constructor
        · intro hb; exact absurd (bit_lt hm hb) (by omega)
        · intro hb; exact absurd hb hp
      · exact h x (by omega)
/-- The variables of a formula. -/
def hasV (v : Nat) : Tree → Prop
  | .var u => u.val = v
  | .fls => False
  | .and a b => hasV v a ∨ hasV v b
  | .or a b => hasV v a ∨ hasV v b
  | .imp a b => hasV v a ∨ hasV v b
  | .box a => hasV v a
  | .dia a => hasV v a
/-- Truth depends on the worlds in sight and on the formula's variables alone. -/
theorem tr_congr {R : Nat → Nat → Prop} {n : Nat} (hR : ∀ x y, x < n → R x y → y < n) {V W : Nat → Nat → Prop} : ∀ (t : Tree), (∀ v, hasV v t → ∀ x, x < n → (V v x ↔ W v x)) → ∀ x, x < n → (tr R V t x ↔ tr R W t x)
  | .var v, h, x, hx => h v.val rfl x hx
  | .fls, _, _, _ => Iff.rfl
  | .and a b, h, x, hx => by
    have ha := tr_congr hR a (fun v hv => h v (.inl hv)) x hx
    have hb := tr_congr hR b (fun v hv => h v (.inr hv)) x hx
    show _ ∧ _ ↔ _ ∧ _
    rw [ha, hb]
  | .or a b, h, x, hx => by
    have ha := tr_congr hR a (fun v hv => h v (.inl hv)) x hx
    have hb := tr_congr hR b (fun v hv => h v (.inr hv)) x hx
    show _ ∨ _ ↔ _ ∨ _
    rw [ha, hb]
  | .imp a b, h, x, hx => by
    have ha := tr_congr hR a (fun v hv => h v (.inl hv)) x hx
    have hb := tr_congr hR b (fun v hv => h v (.inr hv)) x hx
    show (_ → _) ↔ (_ → _)
    rw [ha, hb]
  | .box a, h, x, hx => by
    have ha := fun y (hy : R x y) => tr_congr hR a h y (hR x y hx hy)
    exact ⟨fun k y hy => (ha y hy).1 (k y hy), fun k y hy => (ha y hy).2 (k y hy)⟩
  | .dia a, h, x, hx => by
    have ha := fun y (hy : R x y) => tr_congr hR a h y (hR x y hx hy)
    exact ⟨fun ⟨y, hy, k⟩ => ⟨y, hy, (ha y hy).1 k⟩, fun ⟨y, hy, k⟩ => ⟨y, hy, (ha y hy).2 k⟩⟩
end Go.Proofs.YtpfncncohnhanaaGreatDoor

/- The thirteen axioms and what they ask of a finite frame, plain: correspondence. No program is in sight. -/
namespace Go.Proofs.YtpfncncohnhanaaGreatDoor
open Fm (Tree)

/-- Valid: true at all worlds below n for all values. -/
def Vd (R : Nat → Nat → Prop) (n : Nat) (t : Tree) : Prop := ∀ V x, x < n → tr R V t x
abbrev pp : Tree := .var 0
abbrev qq : Tree := .var 1
section
variable {R : Nat → Nat → Prop} {n : Nat}
theorem cor_4 : Vd R n (.imp (.box pp) (.box (.box pp))) ↔ ∀ x y z, x < n → R x y → R y z → R x z := by
  constructor
  · intro h x y z hx hy hz
    exact h (fun _ w => R x w) x hx (fun _ h => h) y hy z hz
  · intro h V x hx hb y hy z hz
    exact hb z (h x y z hx hy hz)
theorem cor_5 : Vd R n (.imp (.dia pp) (.box (.dia pp))) ↔ ∀ x y z, x < n → R x y → R x z → R y z := by
  constructor
  · intro h x y z hx hy hz
    obtain ⟨u, hu, e⟩ := h (fun _ w => w = z) x hx ⟨z, hz, rfl⟩ y hy
    have e : u = z := e
    exact e ▸ hu
  · rintro h V x hx ⟨z, hz, hp⟩ y hy
    exact ⟨z, h x y z hx hy hz, hp⟩
theorem cor_B : Vd R n (.imp pp (.box (.dia pp))) ↔ ∀ x y, x < n → R x y → R y x := by
  constructor
  · intro h x y hx hy
    obtain ⟨u, hu, e⟩ := h (fun _ w => w = x) x hx rfl y hy
    have e : u = x := e
    exact e ▸ hu
  · intro h V x hx hp y hy
    exact ⟨x, h x y hx hy, hp⟩
theorem cor_C : Vd R n (.imp (.box (.box pp)) (.box pp)) ↔ ∀ x y, x < n → R x y → ∃ z, R x z ∧ R z y := by
  constructor
  · intro h x y hx hy
    exact h (fun _ w => ∃ z, R x z ∧ R z w) x hx (fun u hu v hv => ⟨u, hu, hv⟩) y hy
  · intro h V x hx hb y hy
    obtain ⟨z, h1, h2⟩ := h x y hx hy
    exact hb z h1 y h2
theorem cor_D : Vd R n (.imp (.box pp) (.dia pp)) ↔ ∀ x, x < n → ∃ y, R x y := by
  constructor
  · intro h x hx
    obtain ⟨y, hy, _⟩ := h (fun _ _ => True) x hx (fun _ _ => trivial)
    exact ⟨y, hy⟩
  · intro h V x hx hb
    obtain ⟨y, hy⟩ := h x hx
    exact ⟨y, hy, hb y hy⟩
theorem cor_F : Vd R n (.imp (.dia pp) (.box pp)) ↔ ∀ x y z, x < n → R x y → R x z → y = z := by
  constructor
  · intro h x y z hx hy hz
    exact h (fun _ w => w = z) x hx ⟨z, hz, rfl⟩ y hy
  · rintro h V x hx ⟨z, hz, hp⟩ y hy
    exact h x y z hx hy hz ▸ hp
theorem cor_G : Vd R n (.imp (.dia (.box pp)) (.box (.dia pp))) ↔ ∀ x y z, x < n → R x y → R x z → ∃ u, R y u ∧ R z u := by
  constructor
  · intro h x y z hx hy hz
    obtain ⟨u, hu, hp⟩ := h (fun _ w => R y w) x hx ⟨y, hy, fun _ h => h⟩ z hz
    exact ⟨u, hp, hu⟩
  · rintro h V x hx ⟨y, hy, hb⟩ z hz
    obtain ⟨u, h1, h2⟩ := h x y z hx hy hz
    exact ⟨u, h2, hb u h1⟩
theorem cor_H : Vd R n (.or (.box (.imp (.box pp) qq)) (.box (.imp (.box qq) pp))) ↔ ∀ x y z, x < n → R x y → R x z → R y z ∨ R z y := by
  constructor
  · intro h x y z hx hy hz
    rcases h (fun v w => if v = 0 then R y w else R z w) x hx with h1 | h1
    · exact .inr (h1 y hy (fun _ h => h))
    · exact .inl (h1 z hz (fun _ h => h))
  · intro h V x hx
    apply Classical.byContradiction
    intro hn
    have h1 : ¬ tr R V (.box (.imp (.box pp) qq)) x := fun h => hn (.inl h)
    have h2 : ¬ tr R V (.box (.imp (.box qq) pp)) x := fun h => hn (.inr h)
    apply h1
    intro y hy hbp
    apply Classical.byContradiction
    intro hq
    apply h2
    intro z hz hbq
    rcases h x y z hx hy hz with h3 | h3
    · exact hbp z h3
    · exact absurd (hbq y h3) hq
theorem cor_T : Vd R n (.imp (.box pp) pp) ↔ ∀ x, x < n → R x x := by
  constructor
  · intro h x hx
    exact h (fun _ w => R x w) x hx (fun _ h => h)
  · intro h V x hx hb
    exact hb x (h x hx)
theorem cor_V : Vd R n (.box .fls) ↔ ∀ x y, x < n → ¬ R x y := by
  constructor
  · intro h x y hx hy
    exact h (fun _ _ => True) x hx y hy
  · intro h V x hx y hy
    exact absurd hy (h x y hx)
theorem cor_X : Vd R n (.imp pp (.box pp)) ↔ ∀ x y, x < n → R x y → y = x := by
  constructor
  · intro h x y hx hy
    exact h (fun _ w => w = x) x hx rfl y hy
  · intro h V x hx hp y hy
    exact h x y hx hy ▸ hp

/-- How many worlds below n x sees, besides itself. -/
theorem above_ind (n : Nat) (S : Nat → Nat → Prop) (hS : ∀ x y, x < n → S x y → y < n) (htr : ∀ x y z, x < n → S x y → S y z → S x z) (hir : ∀ x, x < n → ¬ S x x) (P : Nat → Prop) (h : ∀ x, x < n → (∀ y, S x y → P y) → P x) : ∀ x, x < n → P x := by
  have key : ∀ (k : Nat) (l : List Nat), l.length ≤ k → ∀ x, x < n → (∀ y, S x y → y ∈ l) → P x := by
    intro k
    induction k with
    | zero =>
      intro l hl x hx hm
      have hl0 : l = [] := List.eq_nil_of_length_eq_zero (by omega)
      exact h x hx (fun y hy => absurd (hm y hy) (by rw [hl0]; simp))
    | succ k ih =>
      intro l hl x hx hm
      refine h x hx (fun y hy => ?_)
      have hy' := hS x y hx hy
      refine ih (l.erase y) ?_ y hy' (fun z hz => ?_)
      · rw [List.length_erase_of_mem (hm y hy)]; omega
      · have hne : z ≠ y := fun e => hir y hy' (e ▸ hz)
        exact (List.mem_erase_of_ne hne).2 (hm z (htr x y z hx hy hz))
  intro x hx
  exact key n (List.range n) (by simp) x hx (fun y hy => List.mem_range.2 (hS x y hx hy))
theorem cor_L (hR : ∀ x y, x < n → R x y → y < n) : Vd R n (.imp (.box (.imp (.box pp) pp)) (.box pp)) ↔ (∀ x y z, x < n → R x y → R y z → R x z) ∧ ∀ x, x < n → ¬ R x x := by
  constructor
  · intro h
    refine ⟨fun x y z hx hy hz => ?_, fun x hx hxx => ?_⟩
    · have h1 := h (fun _ w => R x w ∧ ∀ v, R w v → R x v) x hx (fun u hu hb => ⟨hu, fun v hv => (hb v hv).1⟩)
      exact (h1 y hy).2 z hz
    · have h1 := h (fun _ w => w ≠ x) x hx (fun u hu hb => fun e => by
        have e : u = x := e
        subst e
        exact hb u hxx rfl)
      exact h1 x hxx rfl
  · rintro ⟨ht, hi⟩ V x hx hb
    have key : ∀ y, y < n → R x y → tr R V pp y := above_ind n R hR ht hi (fun y => R x y → tr R V pp y) (fun y hy ih hxy => hb y hxy (fun z hz => ih z hz (ht x y z hx hxy hz)))
    exact fun y hy => key y (hR x y hx hy) hy
theorem cor_Z (hR : ∀ x y, x < n → R x y → y < n) : Vd R n (.imp (.box (.imp (.box (.imp pp (.box pp))) pp)) pp) ↔ (∀ x, x < n → R x x) ∧ (∀ x y z, x < n → R x y → R y z → R x z) ∧ ∀ x y, x < n → R x y → R y x → x = y := by
  constructor
  · intro h
    have hr : ∀ x, x < n → R x x := by
      intro x hx
      apply Classical.byContradiction
      intro hn
      exact h (fun _ w => w ≠ x) x hx (fun u hu _ e => by
        have e : u = x := e
        exact hn (e ▸ hu)) rfl
    refine ⟨hr, fun x y z hx hy hz => ?_, fun x y hx hy hyx => ?_⟩
    · apply Classical.byContradiction
      intro hn
      refine h (fun _ w => w ≠ x ∧ w ≠ z) x hx (fun u hu hb => ?_) |>.1 rfl
      refine ⟨fun e => ?_, fun e => hn (e ▸ hu)⟩
      subst e
      exact (hb y hy ⟨fun e => hn (e ▸ hz), fun e => hn (e ▸ hy)⟩ z hz).2 rfl
    · apply Classical.byContradiction
      intro hn
      refine h (fun _ w => w ≠ x) x hx (fun u hu hb => ?_) rfl
      intro e
      have e : u = x := e
      subst e
      exact hb y hy (fun e => hn e.symm) u hyx rfl
  · rintro ⟨hr, ht, ha⟩ V x hx hb
    have key : ∀ y, y < n → R x y → tr R V pp y := by
      refine above_ind n (fun a b => R a b ∧ b ≠ a) (fun a b hx h => hR a b hx h.1) (fun a b c hx h1 h2 => ⟨ht a b c hx h1.1 h2.1, fun e => ?_⟩) (fun a _ h => h.2 rfl) (fun y => R x y → tr R V pp y) (fun y hy ih hxy => ?_)
      · subst e
        exact h1.2 (ha b c (hR c b hx h1.1) h2.1 h1.1)
      · refine hb y hxy (fun z hz hp v hv => ?_)
        by_cases he : v = y
        · subst he
          have := ha z v (hR v z hy hz) hv hz
          exact this ▸ hp
        · exact ih v ⟨ht y z v hy hz hv, he⟩ (ht x y v hx hxy (ht y z v hy hz hv))
    exact key x hx (hr x hx)
end
end Go.Proofs.YtpfncncohnhanaaGreatDoor

/- The properties of frames and the conditions of the axioms, plain. No program is in sight. -/
namespace Go.Proofs.YtpfncncohnhanaaGreatDoor
open Go.RowKit
open Fm (Tree)

/-- A condition for all pairs of worlds that a world sees. -/
def pairB (A : List Nat) (p : Nat → Nat → Nat → Bool) : Bool := allB A.length fun x => allB (mbs (nt A x)).length fun i => allB (mbs (nt A x)).length fun j => p x (nt (mbs (nt A x)) i) (nt (mbs (nt A x)) j)
theorem pairB_iff {A : List Nat} (hA : Rl A) {p : Nat → Nat → Nat → Bool} : pairB A p = true ↔ ∀ x y z, x < A.length → rl A x y → rl A x z → p x y z = true := by
  unfold pairB
  rw [allB_iff]
  constructor
  · intro h x y z hx hy hz
    have h1 := h x hx
    rw [allB_iff] at h1
    obtain ⟨i, hi, rfl⟩ := mem_nt ((mbs_mem (hA.sm.at_ hx)).2 hy)
    obtain ⟨j, hj, rfl⟩ := mem_nt ((mbs_mem (hA.sm.at_ hx)).2 hz)
    have h2 := h1 i hi
    rw [allB_iff] at h2
    exact h2 j hj
  · intro h x hx
    rw [allB_iff]
    intro i hi
    rw [allB_iff]
    intro j hj
    exact h x _ _ hx ((mbs_mem (hA.sm.at_ hx)).1 (nt_mem hi)) ((mbs_mem (hA.sm.at_ hx)).1 (nt_mem hj))
def serB (A : List Nat) : Bool := allB A.length fun x => !decide (nt A x = 0)
def symB (A : List Nat) : Bool := allB A.length fun x => allB A.length fun y => !(nt A x).testBit y || (nt A y).testBit x
def eucB (A : List Nat) : Bool := pairB A fun _ y z => (nt A y).testBit z
def dirB (A : List Nat) : Bool := pairB A fun _ y z => !decide (nt A y &&& nt A z = 0)
def conB (A : List Nat) : Bool := pairB A fun _ y z => (nt A y).testBit z || (nt A z).testBit y
/-- The worlds below n that see a world. -/
def invN (A : List Nat) : Nat → Nat → Nat
  | 0, _ => 0
  | k + 1, y => if (nt A k).testBit y = true then invN A k y ||| 2 ^ k else invN A k y
def denB (A : List Nat) : Bool := pairB A fun x y _ => !decide (nt A x &&& invN A A.length y = 0)
def irrB (A : List Nat) : Bool := allB A.length fun x => !(nt A x).testBit x
def funB (A : List Nat) : Bool := allB A.length fun x => decide ((mbs (nt A x)).length ≤ 1)
def verB (A : List Nat) : Bool := allB A.length fun x => decide (nt A x = 0)
def triB (A : List Nat) : Bool := allB A.length fun x => decide (dif (nt A x) (2 ^ x) = 0)

theorem invN_bit (A : List Nat) (y x : Nat) : ∀ k, (invN A k y).testBit x = true ↔ x < k ∧ (nt A x).testBit y = true
  | 0 => by show (0 : Nat).testBit x = true ↔ _; simp
  | k + 1 => by
    have ih := invN_bit A y x k
    show (if (nt A k).testBit y = true then invN A k y ||| 2 ^ k else invN A k y).testBit x = true ↔ _
    split
    · rename_i h
      rw [Nat.testBit_or, Bool.or_eq_true, ih, Nat.testBit_two_pow, decide_eq_true_eq]
      constructor
      · rintro (⟨h1, h2⟩ | rfl)
        · exact ⟨by omega, h2⟩
        · exact ⟨by omega, h⟩
      · rintro ⟨h1, h2⟩
        by_cases hx : k = x
        · exact .inr hx
        · exact .inl ⟨by omega, h2⟩
    · rename_i h
      rw [ih]
      constructor
      · rintro ⟨h1, h2⟩; exact ⟨by omega, h2⟩
      · rintro ⟨h1, h2⟩
        by_cases hx : x = k
        · subst hx; exact absurd h2 h
        · exact ⟨by omega, h2⟩
theorem invN_lt (A : List Nat) (y : Nat) : ∀ k, invN A k y < 2 ^ k
  | 0 => by show 0 < _; omega
  | k + 1 => by
    have ih := invN_lt A y k
    have h2 : 2 ^ (k + 1) = 2 * 2 ^ k := by rw [Nat.pow_succ]; omega
    unfold invN
    split
    · exact or_n (by omega) (by omega)
    · omega
theorem zero_iff {m : Nat} : m = 0 ↔ ∀ z, m.testBit z = false := by
  constructor
  · rintro rfl z; simp
  · intro h
    apply Nat.eq_of_testBit_eq
    intro z
    rw [h z]; simp
theorem not_zero {m : Nat} : (!decide (m = 0)) = true ↔ ∃ z, m.testBit z = true := by
  rw [Bool.not_eq_true', decide_eq_false_iff_not, zero_iff]
  constructor
  · intro h
    apply Classical.byContradiction
    intro hn
    exact h fun z => by
      cases hb : m.testBit z with
      | false => rfl
      | true => exact absurd ⟨z, hb⟩ hn
  · rintro ⟨z, hz⟩ h
    rw [h z] at hz
    cases hz
theorem reflB_iff {A : List Nat} : reflB A = true ↔ ∀ x, x < A.length → rl A x x := allB_iff
theorem irrB_iff {A : List Nat} : irrB A = true ↔ ∀ x, x < A.length → ¬ rl A x x := by
  unfold irrB rl
  rw [allB_iff]
  simp
theorem serB_iff {A : List Nat} : serB A = true ↔ ∀ x, x < A.length → ∃ y, rl A x y := by
  unfold serB
  rw [allB_iff]
  exact ⟨fun h x hx => not_zero.1 (h x hx), fun h x hx => not_zero.2 (h x hx)⟩
theorem symB_iff {A : List Nat} (hA : Rl A) : symB A = true ↔ ∀ x y, x < A.length → rl A x y → rl A y x := by
  unfold symB rl
  rw [allB_iff]
  constructor
  · intro h x y hx hy
    have h1 := h x hx
    rw [allB_iff] at h1
    have h2 := h1 y (hA.bit hx hy)
    rw [hy] at h2
    simpa using h2
  · intro h x hx
    rw [allB_iff]
    intro y _
    cases hb : (nt A x).testBit y with
    | false => rfl
    | true => rw [h x y hx hb]; rfl
theorem trnB_iff {A : List Nat} (hA : Rl A) : transB A = true ↔ ∀ x y z, x < A.length → rl A x y → rl A y z → rl A x z := transB_iff hA
theorem antB_iff {A : List Nat} (hA : Rl A) : antiB A = true ↔ ∀ x y, x < A.length → rl A x y → rl A y x → x = y := by
  unfold antiB rl
  rw [allB_iff]
  constructor
  · intro h x y hx hy hyx
    have h1 := h x hx
    rw [allB_iff] at h1
    have h2 := h1 y (hA.bit hx hy)
    unfold antiX at h2
    rw [hy, hyx] at h2
    simpa using h2
  · intro h x hx
    rw [allB_iff]
    intro y _
    unfold antiX
    cases hb : (nt A x).testBit y with
    | false => rfl
    | true =>
      cases hc : (nt A y).testBit x with
      | false => simp
      | true => simp [h x y hx hb hc]
theorem eucB_iff {A : List Nat} (hA : Rl A) : eucB A = true ↔ ∀ x y z, x < A.length → rl A x y → rl A x z → rl A y z := pairB_iff hA
theorem dirB_iff {A : List Nat} (hA : Rl A) : dirB A = true ↔ ∀ x y z, x < A.length → rl A x y → rl A x z → ∃ u, rl A y u ∧ rl A z u := by
  unfold dirB
  rw [pairB_iff hA]
  have e : ∀ y z, (!decide (nt A y &&& nt A z = 0)) = true ↔ ∃ u, rl A y u ∧ rl A z u := by
    intro y z
    rw [not_zero]
    simp only [Nat.testBit_and, Bool.and_eq_true, rl]
  exact ⟨fun h x y z hx hy hz => (e y z).1 (h x y z hx hy hz), fun h x y z hx hy hz => (e y z).2 (h x y z hx hy hz)⟩
theorem conB_iff {A : List Nat} (hA : Rl A) : conB A = true ↔ ∀ x y z, x < A.length → rl A x y → rl A x z → rl A y z ∨ rl A z y := by
  unfold conB
  rw [pairB_iff hA]
  simp only [Bool.or_eq_true, rl]
theorem denX {A : List Nat} (hA : Rl A) {x y : Nat} (hx : x < A.length) : (!decide (nt A x &&& invN A A.length y = 0)) = true ↔ ∃ z, rl A x z ∧ rl A z y := by
  rw [not_zero]
  constructor
  · rintro ⟨z, hz⟩
    rw [Nat.testBit_and, Bool.and_eq_true, invN_bit] at hz
    exact ⟨z, hz.1, hz.2.2⟩
  · rintro ⟨z, h1, h2⟩
    refine ⟨z, ?_⟩
    rw [Nat.testBit_and, Bool.and_eq_true, invN_bit]
    exact ⟨h1, hA.bit hx h1, h2⟩
theorem denB_iff {A : List Nat} (hA : Rl A) : denB A = true ↔ ∀ x y, x < A.length → rl A x y → ∃ z, rl A x z ∧ rl A z y := by
  unfold denB
  rw [pairB_iff hA]
  exact ⟨fun h x y hx hy => (denX hA hx).1 (h x y y hx hy hy), fun h x y z hx hy _ => (denX hA hx).2 (h x y hx hy)⟩
theorem funB_iff {A : List Nat} (hA : Rl A) : funB A = true ↔ ∀ x y z, x < A.length → rl A x y → rl A x z → y = z := by
  unfold funB
  rw [allB_iff]
  have hnd : ∀ m, (mbs m).Nodup := fun m => List.Nodup.sublist List.filter_sublist List.nodup_range
  constructor
  · intro h x y z hx hy hz
    have h1 := of_decide_eq_true (h x hx)
    have h2 := (mbs_mem (hA.sm.at_ hx)).2 hy
    have h3 := (mbs_mem (hA.sm.at_ hx)).2 hz
    obtain ⟨i, hi, rfl⟩ := mem_nt h2
    obtain ⟨j, hj, rfl⟩ := mem_nt h3
    rw [show i = j by omega]
  · intro h x hx
    rw [decide_eq_true_eq]
    apply Classical.byContradiction
    intro hn
    have h0 : 0 < (mbs (nt A x)).length := by omega
    have h1 : 1 < (mbs (nt A x)).length := by omega
    have h2 := h x _ _ hx ((mbs_mem (hA.sm.at_ hx)).1 (nt_mem h0)) ((mbs_mem (hA.sm.at_ hx)).1 (nt_mem h1))
    have h3 := hnd (nt A x)
    rw [← nt_get h0, ← nt_get h1] at h2
    have := (List.getElem_inj h3).1 h2
    omega
theorem verB_iff {A : List Nat} : verB A = true ↔ ∀ x y, x < A.length → ¬ rl A x y := by
  unfold verB rl
  rw [allB_iff]
  constructor
  · intro h x y hx hy
    rw [zero_iff.1 (of_decide_eq_true (h x hx)) y] at hy
    cases hy
  · intro h x hx
    rw [decide_eq_true_eq, zero_iff]
    intro z
    cases hb : (nt A x).testBit z with
    | false => rfl
    | true => exact absurd hb (h x z hx)
theorem triB_iff {A : List Nat} : triB A = true ↔ ∀ x y, x < A.length → rl A x y → y = x := by
  unfold triB rl
  rw [allB_iff]
  constructor
  · intro h x y hx hy
    have h1 := dif_zero.1 (of_decide_eq_true (h x hx)) y hy
    rw [Nat.testBit_two_pow, decide_eq_true_eq] at h1
    exact h1.symm
  · intro h x hx
    rw [decide_eq_true_eq, dif_zero]
    intro z hz
    rw [Nat.testBit_two_pow, decide_eq_true_eq]
    exact (h x z hx hz).symm

/-- The condition of an axiom. -/
def axB (A : List Nat) : Nat → Bool
  | 0 => transB A
  | 1 => eucB A
  | 2 => symB A
  | 3 => denB A
  | 4 => serB A
  | 5 => funB A
  | 6 => dirB A
  | 7 => conB A
  | 8 => transB A && irrB A
  | 9 => reflB A
  | 10 => verB A
  | 11 => triB A
  | _ => reflB A && (transB A && antiB A)
/-- The axiom's formula. -/
def axT : Nat → Tree
  | 0 => .imp (.box pp) (.box (.box pp))
  | 1 => .imp (.dia pp) (.box (.dia pp))
  | 2 => .imp pp (.box (.dia pp))
  | 3 => .imp (.box (.box pp)) (.box pp)
  | 4 => .imp (.box pp) (.dia pp)
  | 5 => .imp (.dia pp) (.box pp)
  | 6 => .imp (.dia (.box pp)) (.box (.dia pp))
  | 7 => .or (.box (.imp (.box pp) qq)) (.box (.imp (.box qq) pp))
  | 8 => .imp (.box (.imp (.box pp) pp)) (.box pp)
  | 9 => .imp (.box pp) pp
  | 10 => .box .fls
  | 11 => .imp pp (.box pp)
  | _ => .imp (.box (.imp (.box (.imp pp (.box pp))) pp)) pp
/-- An axiom is valid on a frame exactly if its condition holds. -/
theorem axB_iff {A : List Nat} (hA : Rl A) (i : Nat) : axB A i = true ↔ Vd (rl A) A.length (axT i) := by
  have hR : ∀ x y, x < A.length → rl A x y → y < A.length := fun x y hx hy => hA.bit hx hy
  unfold axB axT
  split
  · rw [cor_4, trnB_iff hA]
  · rw [cor_5, eucB_iff hA]
  · rw [cor_B, symB_iff hA]
  · rw [cor_C, denB_iff hA]
  · rw [cor_D, serB_iff]
  · rw [cor_F, funB_iff hA]
  · rw [cor_G, dirB_iff hA]
  · rw [cor_H, conB_iff hA]
  · rw [cor_L hR, Bool.and_eq_true, trnB_iff hA, irrB_iff]
  · rw [cor_T, reflB_iff]
  · rw [cor_V, verB_iff]
  · rw [cor_X, triB_iff]
  · rw [cor_Z hR, Bool.and_eq_true, Bool.and_eq_true, reflB_iff, trnB_iff hA, antB_iff hA]
end Go.Proofs.YtpfncncohnhanaaGreatDoor

/- The value of a plain formula on a poset. No program is in sight. -/
namespace Go.Proofs.YtpfncncohnhanaaGreatDoor
open Go.RowKit
open Fm (Nd Tree)

/-- The value of a plain formula. -/
def fv (A V : List Nat) : Tree → Nat
  | .var v => nt V v.val
  | .fls => 0
  | .and a b => fv A V a &&& fv A V b
  | .or a b => fv A V a ||| fv A V b
  | .imp a b => ar A (fv A V a) (fv A V b)
  | .box _ => 0
  | .dia _ => 0
theorem fv_lt {A V : List Nat} (hV : ∀ m ∈ V, m < 2 ^ A.length) : ∀ t : Tree, fv A V t < 2 ^ A.length
  | .var v => by
    show nt V v.val < _
    by_cases h : v.val < V.length
    · exact hV _ (nt_mem h)
    · unfold nt; rw [List.getD_eq_getElem?_getD, List.getElem?_eq_none (by omega)]; exact Nat.pow_pos (by omega)
  | .fls => Nat.pow_pos (by omega)
  | .and a b => Nat.and_lt_two_pow _ (fv_lt hV b)
  | .or a b => Nat.or_lt_two_pow (fv_lt hV a) (fv_lt hV b)
  | .imp a b => bx_lt _ _
  | .box _ => Nat.pow_pos (by omega)
  | .dia _ => Nat.pow_pos (by omega)
end Go.Proofs.YtpfncncohnhanaaGreatDoor

/- A list of nodes is that of one formula at most. No program is in sight. -/
namespace Go.Proofs.YtpfncncohnhanaaGreatDoor
open Fm (Nd)

theorem enc_pre (t : Fm.Tree) : ∀ (u : Fm.Tree) (a b : List Nd), Fm.enc t ++ a = Fm.enc u ++ b → t = u ∧ a = b := by
  induction t with
  | var v =>
    intro u a b h
    cases u <;> simp [Fm.enc] at h
    exact ⟨congrArg Fm.Tree.var (Fin.ext (by have := h.1; omega)), h.2⟩
  | fls =>
    intro u a b h
    cases u <;> simp [Fm.enc] at h
    exact ⟨rfl, h⟩
  | and x y hx hy =>
    intro u a b h
    cases u <;> simp [Fm.enc] at h
    obtain ⟨e1, h1⟩ := hx _ _ _ h
    obtain ⟨e2, h2⟩ := hy _ _ _ h1
    exact ⟨by rw [e1, e2], h2⟩
  | or x y hx hy =>
    intro u a b h
    cases u <;> simp [Fm.enc] at h
    obtain ⟨e1, h1⟩ := hx _ _ _ h
    obtain ⟨e2, h2⟩ := hy _ _ _ h1
    exact ⟨by rw [e1, e2], h2⟩
  | imp x y hx hy =>
    intro u a b h
    cases u <;> simp [Fm.enc] at h
    obtain ⟨e1, h1⟩ := hx _ _ _ h
    obtain ⟨e2, h2⟩ := hy _ _ _ h1
    exact ⟨by rw [e1, e2], h2⟩
  | box x hx =>
    intro u a b h
    cases u <;> simp [Fm.enc] at h
    obtain ⟨e1, h1⟩ := hx _ _ _ h
    exact ⟨by rw [e1], h1⟩
  | dia x hx =>
    intro u a b h
    cases u <;> simp [Fm.enc] at h
    obtain ⟨e1, h1⟩ := hx _ _ _ h
    exact ⟨by rw [e1], h1⟩
theorem enc_inj {t u : Fm.Tree} (h : Fm.enc t = Fm.enc u) : t = u := (enc_pre t u [] [] (by simpa using h)).1

end Go.Proofs.YtpfncncohnhanaaGreatDoor

/- Where the part at an index ends; the parts of a formula. -/
namespace Go.Proofs.YtpfncncohnhanaaGreatDoor
open Go.RowKit
open Fm (Nd Tree)

theorem partsOf_c (k : Int) (w : World) :
    Calls Tryz.prog 119 #[.int .i64 k] w fun e w' => e = .returned (.int .i64 (Fm.arity k)) ∧ Grew w w' := by
  by_cases h2 : k = 2 ∨ k = 3 ∨ k = 4
  · have ha : Fm.arity k = 2 := by unfold Fm.arity; rw [if_pos h2]
    rw [ha]
    rcases h2 with rfl | rfl | rfl
    all_goals
      go_enter Tryz.func119, Tryz.ntmps119
      go_wp2_with fail
      go_ret
      exact ⟨rfl, Grew.refl _⟩
  by_cases h1 : k = 5 ∨ k = 6
  · have ha : Fm.arity k = 1 := by unfold Fm.arity; rw [if_neg h2, if_pos h1]
    rw [ha]
    rcases h1 with rfl | rfl
    all_goals
      go_enter Tryz.func119, Tryz.ntmps119
      go_wp2_with fail
      go_ret
      exact ⟨rfl, Grew.refl _⟩
  · have ha : Fm.arity k = 0 := by unfold Fm.arity; rw [if_neg h2, if_neg h1]
    rw [ha]
    have n2 : (k == 2) = false := by simp; omega
    have n3 : (k == 3) = false := by simp; omega
    have n4 : (k == 4) = false := by simp; omega
    have n5 : (k == 5) = false := by simp; omega
    have n6 : (k == 6) = false := by simp; omega
    clear h1 h2 ha
    go_enter Tryz.func119, Tryz.ntmps119
    go_wp2_with fail
    go_ret
    exact ⟨rfl, Grew.refl _⟩

/-- What 'partEnd' gives. -/
def pval (j : Nat) : Option Nat → Int
  | some n => (j : Int) + n
  | none => -1
theorem pval_succ (j : Nat) (o : Option Nat) : pval j (o.map (· + 1)) = pval (j + 1) o := by
  cases o with
  | none => rfl
  | some n => show (j : Int) + ((n + 1 : Nat) : Int) = ((j + 1 : Nat) : Int) + n; omega
def pend (xs : List Nd) (i : Nat) : Int := pval i (Fm.scan (xs.drop i) 1)

theorem scan_step {xs : List Nd} {j o : Nat} (hj : j < xs.length) : Fm.scan (xs.drop j) (o + 1) = (Fm.scan (xs.drop (j + 1)) (o + Fm.arity (kd xs j))).map (· + 1) := by
  rw [List.drop_eq_getElem_cons hj, Fm.scan_cons, kd_lt hj]

theorem partEnd_c (v : Value) (xs : List Nd) (i : Nat) (w : World) (h : Nodes w v xs) (hn : xs.length ≤ 1099511627776) (hi : i ≤ 1099511627776) :
    Calls Tryz.prog 73 #[v, .int .i64 i] w fun e w' => e = .returned (.int .i64 (pend xs i)) ∧ Grew w w' := by
  rcases h.open_ with ⟨rfl, rfl⟩ | ⟨b, o, c, rfl, hc, hm, hb, hf⟩
  · have hp : pend [] i = -1 := by simp [pend, Fm.scan_nil, pval]
    rw [hp]
    clear hp
    go_enter Tryz.func73, Tryz.ntmps73
    go_wp2_with fail
    refine wp_loop_rounds 1 ?_; rw [rounds_succ]
    go_wp2_with fail
    go_ret
    exact ⟨rfl, Grew.refl _⟩
  · clear h
    obtain ⟨P, hP⟩ : ∃ P, P = pend xs i := ⟨_, rfl⟩
    rw [← hP]
    -- the rest of the scan decides the result
    have hstart : Hid (P = pval i (Fm.scan (xs.drop i) 1)) := hP
    have hstep := fun j o hj => @scan_step xs j o hj
    have HS := Lib.hid hstep
    have HL : Hid (∀ j, xs.length ≤ j → xs.drop j = []) := Lib.hid fun j hj => List.drop_eq_nil_of_le hj
    clear hP hstep
    have HF := Lib.hid hf
    clear hf
    generalize hN : xs.length = n at *
    clear hN
    go_enter Tryz.func73, Tryz.ntmps73
    go_wp2_with fail
    go_loopg [1, 5] (n + 1 - i) (fun k x y wr => ∃ j op : Nat, x = .int .i64 j ∧ y = .int .i64 op ∧ Grew w wr ∧ i ≤ j ∧ op ≤ j - i + 1 ∧ k = n + 1 - j ∧ j ≤ i + n ∧ Hid (P = pval j (Fm.scan (xs.drop j) op)))
    case atStart => exact ⟨i, 1, rfl, rfl, Grew.refl _, Nat.le_refl _, by omega, rfl, by omega, hstart⟩
    case round =>
      obtain ⟨j, op, rfl, rfl, hB, hij, hop, rfl, hjn, HP⟩ := hrel
      by_cases hz : op = 0
      · subst hz
        have hv : Hid (P = (j : Int)) := Lib.hid (by rw [HP.out, Fm.scan_zero]; simp [pval])
        clear HP
        go_wp2_with fail
        go_ret
        rw [hv.out]
        exact ⟨rfl, hB⟩
      · obtain ⟨q, rfl⟩ : ∃ q, op = q + 1 := ⟨op - 1, by omega⟩
        by_cases hlt : j < n
        · have k1 : ∀ W, Grew w W → W.cell? ⟨b, o + j * 2, none⟩ = some (.int .i64 (kd xs j)) := fun W hW => (HF.out j hlt W hW).1
          have hv : Hid (P = pval (j + 1) (Fm.scan (xs.drop (j + 1)) (q + Fm.arity (kd xs j)))) := Lib.hid (by rw [HP.out, HS.out j q hlt, pval_succ])
          have har := Fm.arity_le (kd xs j)
          clear HP hz
          go_wp2_with fail
          refine (partsOf_c _ _).mono ?_
          rintro e w1 ⟨rfl, hg1⟩
          generalize Fm.arity (kd xs j) = ar at *
          go_wp2_with fail
          go_roundg (n + 1 - (j + 1))
          case measure => omega
          case rel => exact ⟨j + 1, q + ar, by go_num, by go_num, hB.trans hg1, by omega, by omega, rfl, by omega, hv⟩
        · have hv : Hid (P = -1) := Lib.hid (by rw [HP.out, HL.out j (by omega), Fm.scan_nil]; rfl)
          clear HP
          go_wp2_with fail
          go_ret
          rw [hv.out]
          exact ⟨rfl, hB⟩
theorem l02Parts_c (k : Int) (w : World) :
    Calls Tryz.prog 157 #[.int .i64 k] w fun e w' => e = .returned (.int .i64 (Fm.arity k)) ∧ Grew w w' := by
  by_cases h2 : k = 2 ∨ k = 3 ∨ k = 4
  · have ha : Fm.arity k = 2 := by unfold Fm.arity; rw [if_pos h2]
    rw [ha]
    rcases h2 with rfl | rfl | rfl
    all_goals
      go_enter Tryz.func157, Tryz.ntmps157
      go_wp2_with fail
      go_ret
      exact ⟨rfl, Grew.refl _⟩
  by_cases h1 : k = 5 ∨ k = 6
  · have ha : Fm.arity k = 1 := by unfold Fm.arity; rw [if_neg h2, if_pos h1]
    rw [ha]
    rcases h1 with rfl | rfl
    all_goals
      go_enter Tryz.func157, Tryz.ntmps157
      go_wp2_with fail
      go_ret
      exact ⟨rfl, Grew.refl _⟩
  · have ha : Fm.arity k = 0 := by unfold Fm.arity; rw [if_neg h2, if_neg h1]
    rw [ha]
    have n2 : (k == 2) = false := by simp; omega
    have n3 : (k == 3) = false := by simp; omega
    have n4 : (k == 4) = false := by simp; omega
    have n5 : (k == 5) = false := by simp; omega
    have n6 : (k == 6) = false := by simp; omega
    clear h1 h2 ha
    go_enter Tryz.func157, Tryz.ntmps157
    go_wp2_with fail
    go_ret
    exact ⟨rfl, Grew.refl _⟩

theorem l02Part_c (v : Value) (xs : List Nd) (i : Nat) (w : World) (h : Nodes w v xs) (hn : xs.length ≤ 1099511627776) (hi : i ≤ 1099511627776) :
    Calls Tryz.prog 109 #[v, .int .i64 i] w fun e w' => e = .returned (.int .i64 (pend xs i)) ∧ Grew w w' := by
  rcases h.open_ with ⟨rfl, rfl⟩ | ⟨b, o, c, rfl, hc, hm, hb, hf⟩
  · have hp : pend [] i = -1 := by simp [pend, Fm.scan_nil, pval]
    rw [hp]
    clear hp
    go_enter Tryz.func109, Tryz.ntmps109
    go_wp2_with fail
    refine wp_loop_rounds 1 ?_; rw [rounds_succ]
    go_wp2_with fail
    go_ret
    exact ⟨rfl, Grew.refl _⟩
  · clear h
    obtain ⟨P, hP⟩ : ∃ P, P = pend xs i := ⟨_, rfl⟩
    rw [← hP]
    -- the rest of the scan decides the result
    have hstart : Hid (P = pval i (Fm.scan (xs.drop i) 1)) := hP
    have hstep := fun j o hj => @scan_step xs j o hj
    have HS := Lib.hid hstep
    have HL : Hid (∀ j, xs.length ≤ j → xs.drop j = []) := Lib.hid fun j hj => List.drop_eq_nil_of_le hj
    clear hP hstep
    have HF := Lib.hid hf
    clear hf
    generalize hN : xs.length = n at *
    clear hN
    go_enter Tryz.func109, Tryz.ntmps109
    go_wp2_with fail
    go_loopg [1, 5] (n + 1 - i) (fun k x y wr => ∃ j op : Nat, x = .int .i64 j ∧ y = .int .i64 op ∧ Grew w wr ∧ i ≤ j ∧ op ≤ j - i + 1 ∧ k = n + 1 - j ∧ j ≤ i + n ∧ Hid (P = pval j (Fm.scan (xs.drop j) op)))
    case atStart => exact ⟨i, 1, rfl, rfl, Grew.refl _, Nat.le_refl _, by omega, rfl, by omega, hstart⟩
    case round =>
      obtain ⟨j, op, rfl, rfl, hB, hij, hop, rfl, hjn, HP⟩ := hrel
      by_cases hz : op = 0
      · subst hz
        have hv : Hid (P = (j : Int)) := Lib.hid (by rw [HP.out, Fm.scan_zero]; simp [pval])
        clear HP
        go_wp2_with fail
        go_ret
        rw [hv.out]
        exact ⟨rfl, hB⟩
      · obtain ⟨q, rfl⟩ : ∃ q, op = q + 1 := ⟨op - 1, by omega⟩
        by_cases hlt : j < n
        · have k1 : ∀ W, Grew w W → W.cell? ⟨b, o + j * 2, none⟩ = some (.int .i64 (kd xs j)) := fun W hW => (HF.out j hlt W hW).1
          have hv : Hid (P = pval (j + 1) (Fm.scan (xs.drop (j + 1)) (q + Fm.arity (kd xs j)))) := Lib.hid (by rw [HP.out, HS.out j q hlt, pval_succ])
          have har := Fm.arity_le (kd xs j)
          clear HP hz
          go_wp2_with fail
          refine (l02Parts_c _ _).mono ?_
          rintro e w1 ⟨rfl, hg1⟩
          generalize Fm.arity (kd xs j) = ar at *
          go_wp2_with fail
          go_roundg (n + 1 - (j + 1))
          case measure => omega
          case rel => exact ⟨j + 1, q + ar, by go_num, by go_num, hB.trans hg1, by omega, by omega, rfl, by omega, hv⟩
        · have hv : Hid (P = -1) := Lib.hid (by rw [HP.out, HL.out j (by omega), Fm.scan_nil]; rfl)
          clear HP
          go_wp2_with fail
          go_ret
          rw [hv.out]
          exact ⟨rfl, hB⟩

theorem cells_drop (xs : List Nd) : ∀ i, cells (xs.drop i) = (cells xs).drop (i * 2) := by
  induction xs with
  | nil => intro i; simp [cells]
  | cons x xs ih =>
    intro i
    cases i with
    | zero => simp
    | succ i =>
      rw [List.drop_succ_cons, ih, cells_cons, show (i + 1) * 2 = i * 2 + 1 + 1 by omega]
      rfl
theorem cells_take (xs : List Nd) : ∀ i, cells (xs.take i) = (cells xs).take (i * 2) := by
  induction xs with
  | nil => intro i; simp [cells]
  | cons x xs ih =>
    intro i
    cases i with
    | zero => simp [cells]
    | succ i =>
      rw [List.take_succ_cons, cells_cons, ih, cells_cons, show (i + 1) * 2 = i * 2 + 1 + 1 by omega]
      rfl
/-- A cut of a slice of nodes. -/
theorem Nodes.sub {w : World} {b o n c : Nat} {xs : List Nd} (h : Nodes w (.slice (some ⟨b, o, none⟩) n c) xs) (i m c' : Nat) (him : i + m ≤ xs.length) (hc : m ≤ c') (hc' : c' ≤ 9223372036854775807) :
    Nodes w (.slice (some ⟨b, o + i * 2, none⟩) m c') ((xs.drop i).take m) := by
  obtain ⟨h1, h2, h3⟩ := h
  have hl : ((xs.drop i).take m).length = m := by simp; omega
  refine ⟨cells_length _, by omega, .inr ?_⟩
  rcases h3 with ⟨h4, _⟩ | ⟨b', o', c0, h4, h5, h6, h7, h8⟩
  · cases h4
  · simp only [Value.slice.injEq, Option.some.injEq, Addr.mk.injEq, and_true] at h4
    obtain ⟨⟨rfl, rfl⟩, rfl, rfl⟩ := h4
    refine ⟨b, o + i * 2, c', by rw [hl], by omega, hc', h7, fun j u hu => ?_⟩
    rw [cells_take, List.getElem?_take] at hu
    split at hu
    · rw [cells_drop, List.getElem?_drop] at hu
      have := h8 _ _ hu
      rw [show o + i * 2 + j = o + (i * 2 + j) by omega]
      exact this
    · cases hu

/-- A list that stands in another one from i on. -/
def At (xs : List Nd) (i : Nat) (t : Tree) : Prop := ∃ rest, xs.drop i = Fm.enc t ++ rest
theorem At.pend {xs : List Nd} {i : Nat} {t : Tree} (h : At xs i t) : pend xs i = (i : Int) + (Fm.enc t).length := by
  obtain ⟨rest, h⟩ := h
  rw [Go.Proofs.YtpfncncohnhanaaGreatDoor.pend, h, Fm.scan_one]; rfl
theorem At.take {xs : List Nd} {i : Nat} {t : Tree} (h : At xs i t) : (xs.drop i).take (Fm.enc t).length = Fm.enc t := by
  obtain ⟨rest, h⟩ := h
  rw [h, List.take_left']; rfl
theorem At.le {xs : List Nd} {i : Nat} {t : Tree} (h : At xs i t) : i + (Fm.enc t).length ≤ xs.length := by
  obtain ⟨rest, h⟩ := h
  have h1 := congrArg List.length h
  have h2 := Fm.enc_pos t
  simp only [List.length_drop, List.length_append] at h1
  omega

/-- The call returns a slice that reads as the list, and changes nothing. -/
def Cuts (w : World) (xs : List Nd) (e : Ending) (w' : World) : Prop := ∃ v, e = .returned v ∧ Nodes w' v xs ∧ Grew w w'

theorem partEnd_at (v : Value) (xs : List Nd) (i : Nat) (t : Tree) (w : World) (h : Nodes w v xs) (hn : xs.length ≤ 1099511627776) (ht : At xs i t) :
    Calls Tryz.prog 73 #[v, .int .i64 i] w fun e w' => e = .returned (.int .i64 ((i : Int) + (Fm.enc t).length)) ∧ Grew w w' := by
  have := partEnd_c v xs i w h hn (by have := ht.le; omega)
  rw [ht.pend] at this
  exact this
theorem l02Part_at (v : Value) (xs : List Nd) (i : Nat) (t : Tree) (w : World) (h : Nodes w v xs) (hn : xs.length ≤ 1099511627776) (ht : At xs i t) :
    Calls Tryz.prog 109 #[v, .int .i64 i] w fun e w' => e = .returned (.int .i64 ((i : Int) + (Fm.enc t).length)) ∧ Grew w w' := by
  have := l02Part_c v xs i w h hn (by have := ht.le; omega)
  rw [ht.pend] at this
  exact this

/-- The kind of the first node. -/
def kindOf : Tree → Int
  | .var _ => 0
  | .fls => 1
  | .and _ _ => 2
  | .or _ _ => 3
  | .imp _ _ => 4
  | .box _ => 5
  | .dia _ => 6

theorem kd_enc (t : Tree) : kd (Fm.enc t) 0 = kindOf t := by cases t <;> rfl
theorem isF_kind (t : Tree) : Fm.isF t = (kindOf t == 1) := by cases t <;> rfl

/-- Is the formula a negation? -/
def isNeg : Tree → Bool
  | .imp _ b => Fm.isF b
  | _ => false

theorem at_first {xs : List Nd} {k : Nd} {a : Tree} {rest : List Nd} (h : xs = k :: (Fm.enc a ++ rest)) : At xs 1 a := ⟨rest, by rw [h]; rfl⟩
theorem at_second {xs : List Nd} {k : Nd} {a b : Tree} (h : xs = k :: (Fm.enc a ++ Fm.enc b)) : At xs (1 + (Fm.enc a).length) b :=
  ⟨[], by rw [h, Nat.add_comm, List.drop_succ_cons, List.drop_left', List.append_nil]; rfl⟩

/-- The call returns the text and changes nothing. -/
def Says (w : World) (s : List UInt8) (e : Ending) (w' : World) : Prop := e = .returned (.string (bs s)) ∧ Grew w w'

theorem nodes_head {w : World} {v : Value} {t : Tree} (h : Nodes w v (Fm.enc t)) : ∃ b o c, v = .slice (some ⟨b, o, none⟩) (Fm.enc t).length c ∧ (Fm.enc t).length ≤ c ∧ c ≤ 9223372036854775807 ∧ ∀ W, Grew w W → W.cell? ⟨b, o, none⟩ = some (.int .i64 (kindOf t)) := by
  have hpos := Fm.enc_pos t
  rcases h.open_ with ⟨rfl, h0⟩ | ⟨b, o, c, rfl, hc, hm, hb, hf⟩
  · rw [h0] at hpos; simp at hpos
  · refine ⟨b, o, c, rfl, hc, hm, fun W hW => ?_⟩
    have := (hf 0 (by omega) W hW).1
    rw [kd_enc] at this
    simpa using this

theorem letter_cut {q : Nat} (h : q < 6) : ByteArray.extract ⟨#[112, 113, 114, 115, 116, 117]⟩ q (q + 1) = bs [UInt8.ofNat (112 + q)] := by
  have h6 : q = 0 ∨ q = 1 ∨ q = 2 ∨ q = 3 ∨ q = 4 ∨ q = 5 := by omega
  rcases h6 with rfl | rfl | rfl | rfl | rfl | rfl <;> decide
end Go.Proofs.YtpfncncohnhanaaGreatDoor

/- Two lists of nodes that agree as far as k. -/
namespace Go.Proofs.YtpfncncohnhanaaGreatDoor
open Go.RowKit
open Fm (Nd)

/-- Two lists that agree as far as k. -/
def Agree (xs ys : List Nd) (k : Nat) : Prop := ∀ i, i < k → kd xs i = kd ys i ∧ sy xs i = sy ys i
theorem Agree.zero (xs ys : List Nd) : Agree xs ys 0 := fun i hi => absurd hi (by omega)
theorem Agree.succ {xs ys : List Nd} {k : Nat} (h : Agree xs ys k) (h1 : kd xs k = kd ys k) (h2 : sy xs k = sy ys k) : Agree xs ys (k + 1) := by
  intro i hi
  rcases Nat.lt_or_ge i k with hk | hk
  · exact h i hk
  · obtain rfl : i = k := by omega
    exact ⟨h1, h2⟩
end Go.Proofs.YtpfncncohnhanaaGreatDoor

/- The reference's l02Equal on lists of nodes. -/
namespace Go.Proofs.YtpfncncohnhanaaGreatDoor
open Go.RowKit
open Fm (Nd)

theorem agree_all {xs ys : List Nd} (hl : xs.length = ys.length) (h : Agree xs ys xs.length) : xs = ys := nd_ext hl h

end Go.Proofs.YtpfncncohnhanaaGreatDoor

/- The text of a formula: the reference's l02Write. -/
namespace Go.Proofs.YtpfncncohnhanaaGreatDoor
open Go.RowKit
open Fm (Nd Tree)

theorem l02Left_c (v : Value) (xs : List Nd) (a : Tree) (w : World) (h : Nodes w v xs) (hn : xs.length ≤ 1099511627776) (ha : At xs 1 a) :
    Calls Tryz.prog 162 #[v] w (Cuts w (Fm.enc a)) := by
  have hle := ha.le
  have hpos := Fm.enc_pos a
  rcases h.open_ with ⟨rfl, rfl⟩ | ⟨b, o, c, rfl, hc, hm, hb, hf⟩
  · simp only [List.length_nil] at hle; omega
  · have hsub := h.sub 1 (Fm.enc a).length (c - 1) hle (by omega) (by omega)
    rw [ha.take] at hsub
    have HH := Lib.hid h
    have HS := Lib.hid hsub
    have HT := Lib.hid ha
    clear h hf hsub ha
    go_enter Tryz.func162, Tryz.ntmps162
    go_wp2_with fail
    refine (l02Part_at _ xs 1 a _ HH.out hn HT.out).mono ?_
    rintro e w1 ⟨rfl, hg1⟩
    go_wp2_with fail
    go_ret
    refine ⟨_, rfl, ?_, hg1⟩
    rw [Nat.add_sub_cancel_left]
    exact HS.out.grew hg1

theorem l02Right_c (v : Value) (xs : List Nd) (a t : Tree) (w : World) (h : Nodes w v xs) (hn : xs.length ≤ 1099511627776) (ha : At xs 1 a) (ht : At xs (1 + (Fm.enc a).length) t) (hl : xs.length = 1 + (Fm.enc a).length + (Fm.enc t).length) :
    Calls Tryz.prog 163 #[v] w (Cuts w (Fm.enc t)) := by
  have hle := ha.le
  have hpos := Fm.enc_pos t
  rcases h.open_ with ⟨rfl, rfl⟩ | ⟨b, o, c, rfl, hc, hm, hb, hf⟩
  · simp only [List.length_nil] at hle; omega
  · have hsub := h.sub (1 + (Fm.enc a).length) (Fm.enc t).length (c - (1 + (Fm.enc a).length)) (by omega) (by omega) (by omega)
    rw [ht.take] at hsub
    have HH := Lib.hid h
    have HS := Lib.hid hsub
    have HA := Lib.hid ha
    have hk : (Fm.enc t).length = xs.length - (1 + (Fm.enc a).length) := by omega
    rw [hk] at HS
    have hlt : 1 + (Fm.enc a).length < xs.length := by omega
    clear h hf hsub ha ht hl hk hpos
    go_enter Tryz.func163, Tryz.ntmps163
    go_wp2_with fail
    refine (l02Part_at _ xs 1 a _ HH.out hn HA.out).mono ?_
    rintro e w1 ⟨rfl, hg1⟩
    go_wp2_with fail
    go_ret
    exact ⟨_, rfl, HS.out.grew hg1, hg1⟩

theorem enc_fls {t : Tree} (h : Fm.enc t = [(1, 0)]) : t = .fls := by
  cases t <;> simp_all [Fm.enc]
theorem enc_truth {x y : Tree} (h : Fm.enc (.imp x y) = Fm.truth) : x = .fls ∧ y = .fls := by
  have hx := Fm.enc_pos x
  have hy := Fm.enc_pos y
  have h1 : Fm.enc x ++ Fm.enc y = [(1, 0), (1, 0)] := by
    have : (4, 0) :: (Fm.enc x ++ Fm.enc y) = ((4, 0) : Nd) :: [(1, 0), (1, 0)] := h
    injection this
  have hl := congrArg List.length h1
  simp only [List.length_append, List.length_cons, List.length_nil] at hl
  have h2 : Fm.enc x = [(1, 0)] := by
    have := congrArg (List.take 1) h1
    rw [List.take_append_of_le_length hx, List.take_of_length_le (by omega)] at this
    exact this
  have h3 : Fm.enc y = [(1, 0)] := by
    rw [h2] at h1
    simpa using h1
  exact ⟨enc_fls h2, enc_fls h3⟩

end Go.Proofs.YtpfncncohnhanaaGreatDoor

/- A text that reads to a tree whose text it is. -/
namespace Go.Proofs.YtpfncncohnhanaaGreatDoor
open Go.RowKit
open Fm (Nd)

/-- The text is the text of a formula. -/
def IsGood (s : ByteArray) : Prop := ∃ t, Fm.pf s = (Fm.enc t, 0, 0) ∧ bs (Fm.txt t 0) = s
noncomputable def gd (s : ByteArray) : Bool := @decide (IsGood s) (Classical.propDecidable _)
theorem gd_true {s : ByteArray} (h : IsGood s) : gd s = true := by
  unfold gd
  exact @decide_eq_true _ (Classical.propDecidable _) h
theorem gd_false {s : ByteArray} (h : ¬ IsGood s) : gd s = false := by
  unfold gd
  exact @decide_eq_false _ (Classical.propDecidable _) h

theorem pf_cases (s : ByteArray) : (∃ t, Fm.pf s = (Fm.enc t, 0, 0)) ∨ ∃ p c, Fm.pf s = ([], p, c) ∧ (c == 0) = false := by
  unfold Fm.pf
  split
  · exact .inr ⟨_, _, rfl, by decide⟩
  · split
    · exact .inr ⟨_, _, rfl, by decide⟩
    · split
      · exact .inr ⟨_, _, rfl, by decide⟩
      · obtain ⟨t, ht⟩ := Fm.parse_enc s.data.toList Fm.fuel
        refine .inl ⟨t, ?_⟩
        rw [← ht]
        rfl
theorem gd_bad {s : ByteArray} {p : Nat} {c : Int} (h : Fm.pf s = ([], p, c)) (hc : (c == 0) = false) : gd s = false := by
  apply gd_false
  rintro ⟨t, ht, _⟩
  rw [h] at ht
  simp only [Prod.mk.injEq] at ht
  rw [ht.2.2] at hc
  cases hc
theorem gd_tree {s : ByteArray} {t : Fm.Tree} (h : Fm.pf s = (Fm.enc t, 0, 0)) : gd s = ((bs (Fm.txt t 0)).toList == s.toList) := by
  have e : ((bs (Fm.txt t 0)).toList == s.toList) = true ↔ bs (Fm.txt t 0) = s := by
    exact Lib.bytes_beq_iff _ _
  cases hb : ((bs (Fm.txt t 0)).toList == s.toList) with
  | true => exact gd_true ⟨t, h, e.1 hb⟩
  | false =>
    apply gd_false
    rintro ⟨u, hu, hs⟩
    rw [h] at hu
    simp only [Prod.mk.injEq, and_true] at hu
    have := enc_inj hu
    subst this
    rw [e.2 hs] at hb
    cases hb

/-- What the reference's test of a text gives. -/
def GivesG (w : World) (s : ByteArray) (e : Ending) (w' : World) : Prop := ∃ v, e = .returned (.tuple #[v, .bool (gd s)]) ∧ Own w' w.heap.size v (Fm.pf s).1 ∧ Grew w w'

end Go.Proofs.YtpfncncohnhanaaGreatDoor

/- The parts of a formula, as the program's text needs them. -/
namespace Go.Proofs.YtpfncncohnhanaaGreatDoor
open Go.RowKit
open Fm (Nd Tree)

end Go.Proofs.YtpfncncohnhanaaGreatDoor

/- The text of a formula: the program's textAt. -/
namespace Go.Proofs.YtpfncncohnhanaaGreatDoor
open Go.RowKit
open Fm (Nd Tree)

end Go.Proofs.YtpfncncohnhanaaGreatDoor

/- The program's 'parsed'. -/
namespace Go.Proofs.YtpfncncohnhanaaGreatDoor
open Go.RowKit
open Fm (Nd)

/-- A new list, nil where it is empty. -/
def GivesN (w : World) (xs : List Nd) (e : Ending) (w' : World) : Prop := ∃ v, e = .returned v ∧ Own w' w.heap.size v xs ∧ Grew w w' ∧ (xs = [] → v = .slice none 0 0)

theorem parsed_c (s : ByteArray) (w : World) (hs : s.size ≤ 140737488355328) :
    Calls Tryz.prog 52 #[.string s] w (GivesN w (Fm.pf s).1) := by
  have HP := Lib.hid (fun w => parse_c s w hs)
  generalize Fm.pf s = r at *
  go_enter Tryz.func52, Tryz.ntmps52
  go_wp2_with fail
  refine (HP.out _).mono ?_
  rintro e w1 ⟨v1, rfl, ho1, hg1, hz1⟩
  have HZ := Lib.hid hz1
  clear hz1
  go_wp2_with fail
  go_ret
  exact ⟨_, rfl, ho1, hg1, HZ.out⟩
end Go.Proofs.YtpfncncohnhanaaGreatDoor

/- isText of the program. -/
namespace Go.Proofs.YtpfncncohnhanaaGreatDoor
open Go.RowKit
open Fm (Nd)

end Go.Proofs.YtpfncncohnhanaaGreatDoor

/- A predicate on nodes: IndexFunc, ContainsFunc. -/
namespace Go.Proofs.YtpfncncohnhanaaGreatDoor
open Go.RowKit
open Fm (Nd)

/-- None of the first k nodes meets the predicate. -/
def NoneP (p : Int → Int → Bool) (xs : List Nd) (k : Nat) : Prop := ∀ i, i < k → p (kd xs i) (sy xs i) = false
theorem NoneP.zero (p : Int → Int → Bool) (xs : List Nd) : NoneP p xs 0 := fun i hi => absurd hi (by omega)
theorem NoneP.succ {p : Int → Int → Bool} {xs : List Nd} {k : Nat} (h : NoneP p xs k) (h1 : p (kd xs k) (sy xs k) = false) : NoneP p xs (k + 1) := by
  intro i hi
  rcases Nat.lt_or_ge i k with hk | hk
  · exact h i hk
  · obtain rfl : i = k := by omega
    exact h1
/-- Some node meets the predicate. -/
noncomputable def anyP (p : Int → Int → Bool) (xs : List Nd) : Bool := !@decide (NoneP p xs xs.length) (Classical.propDecidable _)
theorem anyP_no {p : Int → Int → Bool} {xs : List Nd} (h : NoneP p xs xs.length) : anyP p xs = false := by
  unfold anyP
  rw [@decide_eq_true _ (Classical.propDecidable _) h]
  rfl
theorem anyP_at {p : Int → Int → Bool} {xs : List Nd} {k : Nat} (hk : k < xs.length) (h : p (kd xs k) (sy xs k) = true) : anyP p xs = true := by
  unfold anyP
  rw [@decide_eq_false _ (Classical.propDecidable _) fun H => by rw [H k hk] at h; cases h]
  rfl

/-- What the function value gives at a node. -/
def PredOk (f : Nat) (p : Int → Int → Bool) : Prop := ∀ a b W, Calls Tryz.prog f #[.agg #[.int .i64 a, .int .i64 b]] W fun e w' => e = .returned (.bool (p a b)) ∧ Grew W w'

theorem indexFunc_c (v : Value) (xs : List Nd) (f : Nat) (p : Int → Int → Bool) (w : World) (h : Nodes w v xs) (hn : xs.length ≤ 1099511627776) (hf : PredOk f p) (eg : ∀ args w, (callFunc f args).run Tryz.prog w = .ok (.enter f args) w) :
    Calls Tryz.prog 117 #[v, .func (.func f) #[] #[]] w fun e w' => ∃ r : Int, e = .returned (.int .i64 r) ∧ Grew w w' ∧ decide (0 ≤ r) = anyP p xs := by
  rcases h.open_ with ⟨rfl, rfl⟩ | ⟨b, o, c, rfl, hc, hm, hb, hcell⟩
  · rw [anyP_no (NoneP.zero _ _)]
    clear h hf
    go_enter Tryz.func117, Tryz.ntmps117
    go_wp2_with fail
    refine wp_loop_rounds 1 ?_; rw [rounds_succ]
    go_wp2_with fail
    go_ret
    exact ⟨_, rfl, Grew.refl _, rfl⟩
  obtain ⟨R, hR⟩ : ∃ R, R = anyP p xs := ⟨_, rfl⟩
  rw [← hR]
  have HA := Lib.hid (fun k hk h => hR.trans (@anyP_at p xs k hk h))
  have HZ := Lib.hid (fun h => hR.trans (@anyP_no p xs h))
  have HC := Lib.hid hcell
  have HF := Lib.hid hf
  clear hcell h hf hR
  generalize hN : xs.length = n at *
  clear hN
  go_enter Tryz.func117, Tryz.ntmps117
  go_wp2_with fail
  go_loopw [5, 8] (fun _ i wr => ∃ j : Nat, j ≤ n ∧ i = .int .i64 j ∧ Grew w wr ∧ Hid (NoneP p xs j)) (fun _ i _ => n - (intOf i).toNat)
  case atStart => exact ⟨0, Nat.zero_le _, rfl, Grew.refl _, NoneP.zero _ _⟩
  case round =>
    obtain ⟨j, hj, rfl, hB, HJ⟩ := hrel
    by_cases hlt : j < n
    · have k1 := (HC.out j hlt _ hB).1
      have k2 := (HC.out j hlt _ hB).2
      have hA := Lib.hid (HA.out j hlt)
      have hS := Lib.hid (fun h => HJ.out.succ (k := j) h)
      generalize kd xs j = x at *
      generalize sy xs j = y at *
      go_wp2_with fail
      go_at_fn f
      refine (HF.out x y _).mono ?_
      rintro e w1 ⟨rfl, hg1⟩
      have hB1 := hB.trans hg1
      cases hp : p x y with
      | true =>
        have hv := hA.out hp
        go_wp2_with fail
        go_ret
        exact ⟨_, rfl, hB1, by rw [hv]; simp⟩
      | false =>
        have hs := Lib.hid (hS.out hp)
        go_wp2_with fail
        go_roundw
        case rel => exact ⟨j + 1, by omega, by go_num, hB1, hs⟩
        case measure => simp [intOf]; omega
    · obtain rfl : j = n := by omega
      have hv := Lib.hid (HZ.out HJ.out)
      go_wp2_with fail
      go_ret
      exact ⟨_, rfl, hB, by rw [hv.out]; rfl⟩

theorem containsFunc_c (v : Value) (xs : List Nd) (f : Nat) (p : Int → Int → Bool) (w : World) (h : Nodes w v xs) (hn : xs.length ≤ 1099511627776) (hf : PredOk f p) (eg : ∀ args w, (callFunc f args).run Tryz.prog w = .ok (.enter f args) w) :
    Calls Tryz.prog 70 #[v, .func (.func f) #[] #[]] w fun e w' => e = .returned (.bool (anyP p xs)) ∧ Grew w w' := by
  have HI := Lib.hid (indexFunc_c v xs f p w h hn hf eg)
  clear h hf eg
  generalize anyP p xs = R at *
  go_enter Tryz.func70, Tryz.ntmps70
  go_wp2_with fail
  refine HI.out.mono ?_
  rintro e w1 ⟨r, rfl, hg1, hr⟩
  go_wp2_with fail
  go_ret
  exact ⟨by rw [← hr]; rfl, hg1⟩

end Go.Proofs.YtpfncncohnhanaaGreatDoor

/- isPlain of the program, l02Plain of the reference. -/
namespace Go.Proofs.YtpfncncohnhanaaGreatDoor
open Go.RowKit
open Fm (Nd)

def isBD (a _b : Int) : Bool := a == 5 || a == 6
end Go.Proofs.YtpfncncohnhanaaGreatDoor

/- Is a text that of a plain formula? -/
namespace Go.Proofs.YtpfncncohnhanaaGreatDoor
open Go.RowKit
open Fm (Nd)

/-- The text is the text of a plain formula. -/
noncomputable def gp (s : ByteArray) : Bool := gd s && !anyP isBD (Fm.pf s).1

def GivesP (w : World) (s : ByteArray) (e : Ending) (w' : World) : Prop := ∃ v, e = .returned (.tuple #[v, .bool (gp s)]) ∧ Own w' w.heap.size v (Fm.pf s).1 ∧ Grew w w'

end Go.Proofs.YtpfncncohnhanaaGreatDoor

/- The texts of formulas. No program is in sight. -/
namespace Go.Proofs.YtpfncncohnhanaaGreatDoor
open Go.RowKit

/-- The text of a formula. -/
def tx (A : Fm.Tree) : ByteArray := bs (Fm.txt A 0)
theorem tx_pf {A : Fm.Tree} (h : (Fm.enc A).length ≤ 40) : Fm.pf (tx A) = (Fm.enc A, 0, 0) := Fm.pf_txt A (by have := Fm.txt_len A 0; omega) h
theorem tx_size {A : Fm.Tree} (h : (Fm.enc A).length ≤ 40) : (tx A).size ≤ 160 := by
  unfold tx
  rw [bs_size]
  have := Fm.txt_len A 0
  omega
theorem tx_inj {A B : Fm.Tree} (ha : (Fm.enc A).length ≤ 40) (hb : (Fm.enc B).length ≤ 40) (h : tx A = tx B) : A = B := by
  have h1 := tx_pf ha
  rw [h, tx_pf hb] at h1
  simp only [Prod.mk.injEq, and_true] at h1
  exact (enc_inj h1).symm
theorem tx_ne (A : Fm.Tree) : (tx A).toList.isEmpty = false := by
  have h1 := Fm.txt_pos A 0
  unfold tx
  cases he : Fm.txt A 0 with
  | nil => rw [he] at h1; simp at h1
  | cons x xs =>
    have := Lib.bytes_beq_iff (bs (x :: xs)) ByteArray.empty
    cases hq : (bs (x :: xs)).toList.isEmpty with
    | false => rfl
    | true =>
      exfalso
      have h2 : (bs (x :: xs)).toList = ByteArray.empty.toList := by
        rw [List.isEmpty_iff] at hq
        rw [hq]; exact (by unfold ByteArray.toList ByteArray.toList.loop; rfl : ([] : List UInt8) = ByteArray.empty.toList)
      have h3 := this.1 (by rw [h2]; simp)
      have h4 := congrArg ByteArray.size h3
      rw [bs_size] at h4
      simp at h4

end Go.Proofs.YtpfncncohnhanaaGreatDoor

/- Plain formulas of the size of a text, and their texts. No program is in sight. -/
namespace Go.Proofs.YtpfncncohnhanaaGreatDoor
open Go.RowKit

/-- A formula of the size of a text. -/
def FmOk (A : Fm.Tree) : Prop := (Fm.enc A).length ≤ 40 ∧ anyP isBD (Fm.enc A) = false
theorem gp_tx {A : Fm.Tree} (h : FmOk A) : gp (tx A) = true := by
  unfold gp
  rw [gd_true ⟨A, tx_pf h.1, rfl⟩, tx_pf h.1]
  simp [h.2]
theorem gp_tree {s : ByteArray} (h : gp s = true) : ∃ A, FmOk A ∧ tx A = s := by
  unfold gp at h
  simp only [Bool.and_eq_true, Bool.not_eq_true'] at h
  have hg : IsGood s := by
    by_cases hg : IsGood s
    · exact hg
    · rw [gd_false hg] at h; exact absurd h.1 (by simp)
  obtain ⟨A, h1, h2⟩ := hg
  have hl := Fm.pf_len s
  rw [h1] at hl h
  exact ⟨A, ⟨hl, h.2⟩, h2⟩
/-- The formula that a text is the text of. -/
noncomputable def fo (s : ByteArray) : Fm.Tree := @dite _ (gp s = true) (Classical.propDecidable _) (fun h => Classical.choose (gp_tree h)) (fun _ => .fls)
theorem fo_ok {s : ByteArray} (h : gp s = true) : FmOk (fo s) ∧ tx (fo s) = s := by
  unfold fo
  rw [dif_pos h]
  exact Classical.choose_spec (gp_tree h)

/-- The formula, if it has not too many nodes. -/
def smallF (A : Fm.Tree) : Option Fm.Tree := if (Fm.enc A).length ≤ 40 then some A else none
theorem anyP_mem {p : Int → Int → Bool} {xs : List Fm.Nd} : anyP p xs = false ↔ ∀ x ∈ xs, p x.1 x.2 = false := by
  constructor
  · intro h x hx
    obtain ⟨i, hi, rfl⟩ := List.getElem_of_mem hx
    cases hq : p xs[i].1 xs[i].2 with
    | false => rfl
    | true =>
      have := anyP_at (p := p) hi (by simpa [kd, sy, List.getD, hi] using hq)
      rw [this] at h; cases h
  · intro h
    apply anyP_no
    intro i hi
    have := h xs[i] (List.getElem_mem hi)
    simpa [kd, sy, List.getD, hi] using this
theorem FmOk.bin {k : Int} {A B : Fm.Tree} {C : Fm.Tree} (he : Fm.enc C = (k, 0) :: (Fm.enc A ++ Fm.enc B)) (h : FmOk C) : FmOk A ∧ FmOk B := by
  obtain ⟨h1, h2⟩ := h
  rw [he] at h1 h2
  rw [anyP_mem] at h2
  simp only [List.length_cons, List.length_append] at h1
  exact ⟨⟨by omega, anyP_mem.2 fun x hx => h2 x (by simp [hx])⟩, ⟨by omega, anyP_mem.2 fun x hx => h2 x (by simp [hx])⟩⟩
theorem FmOk.join {k : Int} {A B : Fm.Tree} {C : Fm.Tree} (he : Fm.enc C = (k, 0) :: (Fm.enc A ++ Fm.enc B)) (hk : k ≠ 5 ∧ k ≠ 6) (hA : FmOk A) (hB : FmOk B) (hl : (Fm.enc C).length ≤ 40) : FmOk C := by
  refine ⟨hl, anyP_mem.2 ?_⟩
  rw [he]
  intro x hx
  simp only [List.mem_cons, List.mem_append] at hx
  rcases hx with rfl | hx | hx
  · unfold isBD
    have h5 : (k == 5) = false := by simpa using hk.1
    have h6 : (k == 6) = false := by simpa using hk.2
    show (k == 5 || k == 6) = false
    rw [h5, h6]; rfl
  · exact anyP_mem.1 hA.2 x hx
  · exact anyP_mem.1 hB.2 x hx
theorem smallF_ok {A B : Fm.Tree} (h : smallF A = some B) : A = B ∧ (Fm.enc B).length ≤ 40 := by
  unfold smallF at h
  split at h
  · simp at h; subst h; exact ⟨rfl, ‹_›⟩
  · cases h
theorem fmOk_and {p q : Fm.Tree} (h : FmOk (.and p q)) : FmOk p ∧ FmOk q := FmOk.bin (k := 2) rfl h
theorem fmOk_or {p q : Fm.Tree} (h : FmOk (.or p q)) : FmOk p ∧ FmOk q := FmOk.bin (k := 3) rfl h
theorem fmOk_imp {p q : Fm.Tree} (h : FmOk (.imp p q)) : FmOk p ∧ FmOk q := FmOk.bin (k := 4) rfl h
theorem small_and {p q B : Fm.Tree} (hp : FmOk p) (hq : FmOk q) (h : smallF (.and p q) = some B) : FmOk B := by
  obtain ⟨rfl, hl⟩ := smallF_ok h
  exact FmOk.join (k := 2) rfl (by decide) hp hq hl
theorem small_or {p q B : Fm.Tree} (hp : FmOk p) (hq : FmOk q) (h : smallF (.or p q) = some B) : FmOk B := by
  obtain ⟨rfl, hl⟩ := smallF_ok h
  exact FmOk.join (k := 3) rfl (by decide) hp hq hl
theorem small_imp {p q B : Fm.Tree} (hp : FmOk p) (hq : FmOk q) (h : smallF (.imp p q) = some B) : FmOk B := by
  obtain ⟨rfl, hl⟩ := smallF_ok h
  exact FmOk.join (k := 4) rfl (by decide) hp hq hl
/-- A formula without modalities is of one of five kinds. -/
theorem fm_five {A : Fm.Tree} (h : FmOk A) : (∃ v, A = .var v) ∨ A = .fls ∨ (∃ x y, A = .and x y) ∨ (∃ x y, A = .or x y) ∨ ∃ x y, A = .imp x y := by
  cases A with
  | var v => exact .inl ⟨v, rfl⟩
  | fls => exact .inr (.inl rfl)
  | and x y => exact .inr (.inr (.inl ⟨x, y, rfl⟩))
  | or x y => exact .inr (.inr (.inr (.inl ⟨x, y, rfl⟩)))
  | imp x y => exact .inr (.inr (.inr (.inr ⟨x, y, rfl⟩)))
  | box x => exact absurd (anyP_mem.1 h.2 (5, 0) (by simp [Fm.enc])) (by simp [isBD])
  | dia x => exact absurd (anyP_mem.1 h.2 (6, 0) (by simp [Fm.enc])) (by simp [isBD])
end Go.Proofs.YtpfncncohnhanaaGreatDoor

/- Forcing, plain: boxes, implications, the values of plain formulas; the values reckoned over a list of nodes from its end. No program is in sight. -/
namespace Go.Proofs.YtpfncncohnhanaaGreatDoor
open Go.RowKit
open Fm (Nd Tree)

/-- One node more, ahead of the values: what it does to the stack (the top stands first). -/
def evs (A V : List Nat) (k s : Int) (st : List Nat) : List Nat :=
  if k = 0 then nt V s.toNat :: st
  else if k = 2 then (st.getD 0 0 &&& st.getD 1 0) :: st.drop 2
  else if k = 3 then (st.getD 0 0 ||| st.getD 1 0) :: st.drop 2
  else if k = 4 then ar A (st.getD 0 0) (st.getD 1 0) :: st.drop 2
  else 0 :: st
/-- The stack behind a list of nodes, reckoned from the end. -/
def ev (A V : List Nat) : List Nd → List Nat
  | [] => []
  | x :: xs => evs A V x.1 x.2 (ev A V xs)
theorem ev_enc (A V : List Nat) : ∀ (t : Tree) (r : List Nd), anyP isBD (Fm.enc t) = false → ev A V (Fm.enc t ++ r) = fv A V t :: ev A V r := by
  intro t
  have bin : ∀ {k : Int} {a b : Tree} {r : List Nd} {f : Nat → Nat → Nat}, (∀ r : List Nd, anyP isBD (Fm.enc a) = false → ev A V (Fm.enc a ++ r) = fv A V a :: ev A V r) → (∀ r : List Nd, anyP isBD (Fm.enc b) = false → ev A V (Fm.enc b ++ r) = fv A V b :: ev A V r) →
      anyP isBD ((k, 0) :: (Fm.enc a ++ Fm.enc b)) = false → (∀ x y st, evs A V k 0 (x :: y :: st) = f x y :: st) → ev A V ((k, 0) :: (Fm.enc a ++ Fm.enc b) ++ r) = f (fv A V a) (fv A V b) :: ev A V r := by
    intro k a b r f ha hb h hf
    rw [anyP_mem] at h
    show evs A V k 0 (ev A V (Fm.enc a ++ Fm.enc b ++ r)) = _
    rw [List.append_assoc, ha _ (anyP_mem.2 fun x hx => h x (by simp [hx])), hb _ (anyP_mem.2 fun x hx => h x (by simp [hx])), hf]
  induction t with
  | var v => intro r _; show evs A V 0 (v.val : Int) _ = _; unfold evs; rw [if_pos rfl]; rfl
  | fls => intro r _; rfl
  | and a b iha ihb => intro r h; exact bin (f := fun x y => x &&& y) iha ihb h (fun _ _ _ => rfl)
  | or a b iha ihb => intro r h; exact bin (f := fun x y => x ||| y) iha ihb h (fun _ _ _ => rfl)
  | imp a b iha ihb => intro r h; exact bin (f := ar A) iha ihb h (fun _ _ _ => rfl)
  | box a => intro r h; exact absurd (anyP_mem.1 h (5, 0) (by simp [Fm.enc])) (by simp [isBD])
  | dia a => intro r h; exact absurd (anyP_mem.1 h (6, 0) (by simp [Fm.enc])) (by simp [isBD])
/-- Each node finds its parts on the stack. -/
def Fed (A V : List Nat) (xs : List Nd) : Prop := ∀ i, i < xs.length → (kd xs i = 2 ∨ kd xs i = 3 ∨ kd xs i = 4) → 2 ≤ (ev A V (xs.drop (i + 1))).length
theorem Fed.nil_ (A V : List Nat) : Fed A V [] := fun i hi => absurd hi (by simp)
theorem Fed.cons {A V : List Nat} {x : Nd} {xs : List Nd} (h : Fed A V xs) (h1 : (x.1 = 2 ∨ x.1 = 3 ∨ x.1 = 4) → 2 ≤ (ev A V xs).length) : Fed A V (x :: xs) := by
  intro i hi hk
  cases i with
  | zero => exact h1 hk
  | succ i => exact h i (by simpa using hi) hk
theorem fed_enc (A V : List Nat) : ∀ (t : Tree) (r : List Nd), anyP isBD (Fm.enc t) = false → Fed A V r → Fed A V (Fm.enc t ++ r) := by
  intro t
  have bin : ∀ {k : Int} {a b : Tree} {r : List Nd}, (∀ r : List Nd, anyP isBD (Fm.enc a) = false → Fed A V r → Fed A V (Fm.enc a ++ r)) → (∀ r : List Nd, anyP isBD (Fm.enc b) = false → Fed A V r → Fed A V (Fm.enc b ++ r)) →
      anyP isBD ((k, 0) :: (Fm.enc a ++ Fm.enc b)) = false → Fed A V r → Fed A V ((k, 0) :: (Fm.enc a ++ Fm.enc b) ++ r) := by
    intro k a b r ha hb h hr
    rw [anyP_mem] at h
    have h1 : anyP isBD (Fm.enc a) = false := anyP_mem.2 fun x hx => h x (by simp [hx])
    have h2 : anyP isBD (Fm.enc b) = false := anyP_mem.2 fun x hx => h x (by simp [hx])
    rw [List.cons_append, List.append_assoc]
    refine (ha _ h1 (hb _ h2 hr)).cons fun _ => ?_
    rw [ev_enc A V a _ h1, ev_enc A V b _ h2]
    simp
  have zero : ∀ {x : Nd} {r : List Nd}, ¬ (x.1 = 2 ∨ x.1 = 3 ∨ x.1 = 4) → Fed A V r → Fed A V ([x] ++ r) := fun hx hr => hr.cons fun h => absurd h hx
  induction t with
  | var v => intro r _ hr; exact zero (by show ¬ ((0 : Int) = 2 ∨ (0 : Int) = 3 ∨ (0 : Int) = 4); decide) hr
  | fls => intro r _ hr; exact zero (by decide) hr
  | and a b iha ihb => intro r h hr; exact bin iha ihb h hr
  | or a b iha ihb => intro r h hr; exact bin iha ihb h hr
  | imp a b iha ihb => intro r h hr; exact bin iha ihb h hr
  | box a => intro r h; exact absurd (anyP_mem.1 h (5, 0) (by simp [Fm.enc])) (by simp [isBD])
  | dia a => intro r h; exact absurd (anyP_mem.1 h (6, 0) (by simp [Fm.enc])) (by simp [isBD])
theorem fed_of {A V : List Nat} {t : Tree} (h : anyP isBD (Fm.enc t) = false) : Fed A V (Fm.enc t) := by
  have := fed_enc A V t [] h (Fed.nil_ A V)
  rwa [List.append_nil] at this
theorem ev_of {A V : List Nat} {t : Tree} (h : anyP isBD (Fm.enc t) = false) : ev A V (Fm.enc t) = [fv A V t] := by
  have := ev_enc A V t [] h
  rwa [List.append_nil] at this
theorem ev_drop {A V : List Nat} {xs : List Nd} {i : Nat} (h : i < xs.length) : ev A V (xs.drop i) = evs A V (kd xs i) (sy xs i) (ev A V (xs.drop (i + 1))) := by
  rw [List.drop_eq_getElem_cons h]
  show evs A V (xs[i]).1 (xs[i]).2 _ = _
  simp [kd, sy, List.getD, h]
/-- All values on the stack are sets of elements. -/
theorem ev_sm {A V : List Nat} (hV : ∀ m ∈ V, m < 2 ^ A.length) : ∀ xs : List Nd, ∀ m ∈ ev A V xs, m < 2 ^ A.length
  | [] => fun m h => absurd h (by simp [ev])
  | x :: xs => by
    have ih := ev_sm hV xs
    have hp : 0 < 2 ^ A.length := Nat.pow_pos (by omega)
    have hg : ∀ i, (ev A V xs).getD i 0 < 2 ^ A.length := by
      intro i
      by_cases h : i < (ev A V xs).length
      · simp only [List.getD_eq_getElem?_getD, List.getElem?_eq_getElem h, Option.getD_some]; exact ih _ (List.getElem_mem h)
      · rw [List.getD_eq_getElem?_getD, List.getElem?_eq_none (by omega)]; exact hp
    intro m hm
    have hm : m ∈ evs A V x.1 x.2 (ev A V xs) := hm
    unfold evs at hm
    repeat' split at hm
    all_goals rcases List.mem_cons.1 hm with rfl | hm
    · unfold nt
      by_cases h : x.2.toNat < V.length
      · simp only [List.getD_eq_getElem?_getD, List.getElem?_eq_getElem h, Option.getD_some]; exact hV _ (List.getElem_mem h)
      · rw [List.getD_eq_getElem?_getD, List.getElem?_eq_none (by omega)]; exact hp
    · exact ih _ hm
    · exact Nat.and_lt_two_pow _ (hg 1)
    · exact ih _ (List.mem_of_mem_drop hm)
    · exact Nat.or_lt_two_pow (hg 0) (hg 1)
    · exact ih _ (List.mem_of_mem_drop hm)
    · exact bx_lt _ _
    · exact ih _ (List.mem_of_mem_drop hm)
    · exact hp
    · exact ih _ hm
theorem enc_nd : ∀ (t : Tree), ∀ x ∈ Fm.enc t, (x.1 = 0 ∧ ∃ v : Nat, x.2 = (v : Int) ∧ v < 6) ∨ x.1 = 1 ∨ x.1 = 2 ∨ x.1 = 3 ∨ x.1 = 4 ∨ x.1 = 5 ∨ x.1 = 6 := by
  intro t
  induction t with
  | var v => intro x hx; simp [Fm.enc] at hx; subst hx; exact .inl ⟨rfl, v.val, rfl, v.isLt⟩
  | fls => intro x hx; simp [Fm.enc] at hx; subst hx; exact .inr (.inl rfl)
  | and a b iha ihb =>
    intro x hx; simp [Fm.enc] at hx; rcases hx with rfl | hx | hx
    · exact .inr (.inr (.inl rfl))
    · exact iha x hx
    · exact ihb x hx
  | or a b iha ihb =>
    intro x hx; simp [Fm.enc] at hx; rcases hx with rfl | hx | hx
    · exact .inr (.inr (.inr (.inl rfl)))
    · exact iha x hx
    · exact ihb x hx
  | imp a b iha ihb =>
    intro x hx; simp [Fm.enc] at hx; rcases hx with rfl | hx | hx
    · exact .inr (.inr (.inr (.inr (.inl rfl))))
    · exact iha x hx
    · exact ihb x hx
  | box a iha =>
    intro x hx; simp [Fm.enc] at hx; rcases hx with rfl | hx
    · exact .inr (.inr (.inr (.inr (.inr (.inl rfl)))))
    · exact iha x hx
  | dia a iha =>
    intro x hx; simp [Fm.enc] at hx; rcases hx with rfl | hx
    · exact .inr (.inr (.inr (.inr (.inr (.inr rfl)))))
    · exact iha x hx
theorem enc_kinds {t : Tree} (h : anyP isBD (Fm.enc t) = false) {i : Nat} (hi : i < (Fm.enc t).length) :
    (kd (Fm.enc t) i = 0 ∧ ∃ v : Nat, sy (Fm.enc t) i = (v : Int) ∧ v < 6) ∨ kd (Fm.enc t) i = 1 ∨ kd (Fm.enc t) i = 2 ∨ kd (Fm.enc t) i = 3 ∨ kd (Fm.enc t) i = 4 := by
  have h1 : kd (Fm.enc t) i = ((Fm.enc t)[i]).1 := by simp [kd, List.getD, hi]
  have h2 : sy (Fm.enc t) i = ((Fm.enc t)[i]).2 := by simp [sy, List.getD, hi]
  rw [h1, h2]
  have hb := anyP_mem.1 h _ (List.getElem_mem hi)
  rcases enc_nd t _ (List.getElem_mem hi) with h3 | h3 | h3 | h3 | h3 | h3 | h3
  · exact .inl h3
  · exact .inr (.inl h3)
  · exact .inr (.inr (.inl h3))
  · exact .inr (.inr (.inr (.inl h3)))
  · exact .inr (.inr (.inr (.inr h3)))
  · rw [h3] at hb; simp [isBD] at hb
  · rw [h3] at hb; simp [isBD] at hb
end Go.Proofs.YtpfncncohnhanaaGreatDoor

/- Modal truth, plain: the sets of worlds reckoned over a list of nodes from its end. No program is in sight. -/
namespace Go.Proofs.YtpfncncohnhanaaGreatDoor
open Go.RowKit
open Fm (Nd Tree)

/-- One node more, ahead of the others: what it does to the stack (the top stands first). -/
def mvs (A V : List Nat) (k s : Int) (st : List Nat) : List Nat :=
  if k = 0 then nt V s.toNat :: st
  else if k = 2 then (st.getD 0 0 &&& st.getD 1 0) :: st.drop 2
  else if k = 3 then (st.getD 0 0 ||| st.getD 1 0) :: st.drop 2
  else if k = 4 then (dif (full A.length) (st.getD 0 0) ||| st.getD 1 0) :: st.drop 2
  else if k = 5 then bx A (st.getD 0 0) :: st.drop 1
  else if k = 6 then dif (full A.length) (bx A (dif (full A.length) (st.getD 0 0))) :: st.drop 1
  else 0 :: st
/-- The stack behind a list of nodes, reckoned from the end. -/
def mve (A V : List Nat) : List Nd → List Nat
  | [] => []
  | x :: xs => mvs A V x.1 x.2 (mve A V xs)
theorem mvs_var {A V : List Nat} {k s : Int} {v : Nat} {st : List Nat} (h : k = 0) (hs : s = (v : Int)) : mvs A V k s st = nt V v :: st := by unfold mvs; rw [if_pos h, hs]; rfl
theorem mvs_fls {A V : List Nat} {k s : Int} {st : List Nat} (h : k = 1) : mvs A V k s st = 0 :: st := by subst h; rfl
theorem mvs_and {A V : List Nat} {k s : Int} {x y : Nat} {st : List Nat} (h : k = 2) : mvs A V k s (x :: y :: st) = (x &&& y) :: st := by subst h; rfl
theorem mvs_or {A V : List Nat} {k s : Int} {x y : Nat} {st : List Nat} (h : k = 3) : mvs A V k s (x :: y :: st) = (x ||| y) :: st := by subst h; rfl
theorem mvs_imp {A V : List Nat} {k s : Int} {x y : Nat} {st : List Nat} (h : k = 4) : mvs A V k s (x :: y :: st) = (dif (full A.length) x ||| y) :: st := by subst h; rfl
theorem mvs_box {A V : List Nat} {k s : Int} {x : Nat} {st : List Nat} (h : k = 5) : mvs A V k s (x :: st) = bx A x :: st := by subst h; rfl
theorem mvs_dia {A V : List Nat} {k s : Int} {x : Nat} {st : List Nat} (h : k = 6) : mvs A V k s (x :: st) = dif (full A.length) (bx A (dif (full A.length) x)) :: st := by subst h; rfl
theorem mve_enc (A V : List Nat) : ∀ (t : Tree) (r : List Nd), mve A V (Fm.enc t ++ r) = mv A V t :: mve A V r := by
  intro t
  have bin : ∀ {k : Int} {a b : Tree} {r : List Nd} {f : Nat → Nat → Nat}, (∀ r : List Nd, mve A V (Fm.enc a ++ r) = mv A V a :: mve A V r) → (∀ r : List Nd, mve A V (Fm.enc b ++ r) = mv A V b :: mve A V r) →
      (∀ x y st, mvs A V k 0 (x :: y :: st) = f x y :: st) → mve A V ((k, 0) :: (Fm.enc a ++ Fm.enc b) ++ r) = f (mv A V a) (mv A V b) :: mve A V r := by
    intro k a b r f ha hb hf
    show mvs A V k 0 (mve A V (Fm.enc a ++ Fm.enc b ++ r)) = _
    rw [List.append_assoc, ha, hb, hf]
  have one : ∀ {k : Int} {a : Tree} {r : List Nd} {f : Nat → Nat}, (∀ r : List Nd, mve A V (Fm.enc a ++ r) = mv A V a :: mve A V r) →
      (∀ x st, mvs A V k 0 (x :: st) = f x :: st) → mve A V ((k, 0) :: Fm.enc a ++ r) = f (mv A V a) :: mve A V r := by
    intro k a r f ha hf
    show mvs A V k 0 (mve A V (Fm.enc a ++ r)) = _
    rw [ha, hf]
  induction t with
  | var v => intro r; exact mvs_var rfl rfl
  | fls => intro r; rfl
  | and a b iha ihb => intro r; exact bin (f := fun x y => x &&& y) iha ihb (fun _ _ _ => rfl)
  | or a b iha ihb => intro r; exact bin (f := fun x y => x ||| y) iha ihb (fun _ _ _ => rfl)
  | imp a b iha ihb => intro r; exact bin (f := fun x y => dif (full A.length) x ||| y) iha ihb (fun _ _ _ => rfl)
  | box a iha => intro r; exact one (f := fun x => bx A x) iha (fun _ _ => rfl)
  | dia a iha => intro r; exact one (f := fun x => dif (full A.length) (bx A (dif (full A.length) x))) iha (fun _ _ => rfl)
/-- Each node finds its parts on the stack. -/
def Mfed (A V : List Nat) (xs : List Nd) : Prop := ∀ i, i < xs.length → ((kd xs i = 2 ∨ kd xs i = 3 ∨ kd xs i = 4) → 2 ≤ (mve A V (xs.drop (i + 1))).length) ∧ ((kd xs i = 5 ∨ kd xs i = 6) → 1 ≤ (mve A V (xs.drop (i + 1))).length)
theorem Mfed.nil_ (A V : List Nat) : Mfed A V [] := fun i hi => absurd hi (by simp)
theorem Mfed.cons {A V : List Nat} {x : Nd} {xs : List Nd} (h : Mfed A V xs) (h1 : (x.1 = 2 ∨ x.1 = 3 ∨ x.1 = 4) → 2 ≤ (mve A V xs).length) (h2 : (x.1 = 5 ∨ x.1 = 6) → 1 ≤ (mve A V xs).length) : Mfed A V (x :: xs) := by
  intro i hi
  cases i with
  | zero => exact ⟨h1, h2⟩
  | succ i => exact h i (by simpa using hi)
theorem mfed_enc (A V : List Nat) : ∀ (t : Tree) (r : List Nd), Mfed A V r → Mfed A V (Fm.enc t ++ r) := by
  intro t
  have bin : ∀ {k : Int} {a b : Tree} {r : List Nd}, (∀ r : List Nd, Mfed A V r → Mfed A V (Fm.enc a ++ r)) → (∀ r : List Nd, Mfed A V r → Mfed A V (Fm.enc b ++ r)) → Mfed A V r → Mfed A V ((k, 0) :: (Fm.enc a ++ Fm.enc b) ++ r) := by
    intro k a b r ha hb hr
    rw [List.cons_append, List.append_assoc]
    refine (ha _ (hb _ hr)).cons (fun _ => ?_) (fun _ => ?_) <;> rw [mve_enc A V a, mve_enc A V b] <;> simp
  have one : ∀ {k : Int} {a : Tree} {r : List Nd}, ¬ (k = 2 ∨ k = 3 ∨ k = 4) → (∀ r : List Nd, Mfed A V r → Mfed A V (Fm.enc a ++ r)) → Mfed A V r → Mfed A V ((k, 0) :: Fm.enc a ++ r) := by
    intro k a r hk ha hr
    rw [List.cons_append]
    refine (ha _ hr).cons (fun h => absurd h hk) (fun _ => ?_)
    rw [mve_enc A V a]; simp
  have zero : ∀ {x : Nd} {r : List Nd}, ¬ (x.1 = 2 ∨ x.1 = 3 ∨ x.1 = 4) → ¬ (x.1 = 5 ∨ x.1 = 6) → Mfed A V r → Mfed A V ([x] ++ r) := fun hx hy hr => hr.cons (fun h => absurd h hx) (fun h => absurd h hy)
  induction t with
  | var v => intro r hr; exact zero (by show ¬ ((0 : Int) = 2 ∨ (0 : Int) = 3 ∨ (0 : Int) = 4); decide) (by show ¬ ((0 : Int) = 5 ∨ (0 : Int) = 6); decide) hr
  | fls => intro r hr; exact zero (by decide) (by decide) hr
  | and a b iha ihb => intro r hr; exact bin iha ihb hr
  | or a b iha ihb => intro r hr; exact bin iha ihb hr
  | imp a b iha ihb => intro r hr; exact bin iha ihb hr
  | box a iha => intro r hr; exact one (by decide) iha hr
  | dia a iha => intro r hr; exact one (by decide) iha hr
theorem mfed_of {A V : List Nat} {t : Tree} : Mfed A V (Fm.enc t) := by
  have := mfed_enc A V t [] (Mfed.nil_ A V)
  rwa [List.append_nil] at this
theorem mve_of {A V : List Nat} {t : Tree} : mve A V (Fm.enc t) = [mv A V t] := by
  have := mve_enc A V t []
  rwa [List.append_nil] at this
theorem mve_drop {A V : List Nat} {xs : List Nd} {i : Nat} (h : i < xs.length) : mve A V (xs.drop i) = mvs A V (kd xs i) (sy xs i) (mve A V (xs.drop (i + 1))) := by
  rw [List.drop_eq_getElem_cons h]
  show mvs A V (xs[i]).1 (xs[i]).2 _ = _
  simp [kd, sy, List.getD, h]
/-- All values on the stack are sets of worlds. -/
theorem mve_sm {A V : List Nat} (hV : ∀ m ∈ V, m < 2 ^ A.length) : ∀ xs : List Nd, ∀ m ∈ mve A V xs, m < 2 ^ A.length
  | [] => fun m h => absurd h (by simp [mve])
  | x :: xs => by
    have ih := mve_sm hV xs
    have hp : 0 < 2 ^ A.length := Nat.pow_pos (by omega)
    have hg : ∀ i, (mve A V xs).getD i 0 < 2 ^ A.length := by
      intro i
      by_cases h : i < (mve A V xs).length
      · simp only [List.getD_eq_getElem?_getD, List.getElem?_eq_getElem h, Option.getD_some]; exact ih _ (List.getElem_mem h)
      · rw [List.getD_eq_getElem?_getD, List.getElem?_eq_none (by omega)]; exact hp
    intro m hm
    have hm : m ∈ mvs A V x.1 x.2 (mve A V xs) := hm
    unfold mvs at hm
    repeat' split at hm
    all_goals rcases List.mem_cons.1 hm with rfl | hm
    · exact nt_lt hV
    · exact ih _ hm
    · exact Nat.and_lt_two_pow _ (hg 1)
    · exact ih _ (List.mem_of_mem_drop hm)
    · exact Nat.or_lt_two_pow (hg 0) (hg 1)
    · exact ih _ (List.mem_of_mem_drop hm)
    · exact Nat.or_lt_two_pow (dif_lt (full_lt _)) (hg 1)
    · exact ih _ (List.mem_of_mem_drop hm)
    · exact bx_lt _ _
    · exact ih _ (List.mem_of_mem_drop hm)
    · exact dif_lt (full_lt _)
    · exact ih _ (List.mem_of_mem_drop hm)
    · exact hp
    · exact ih _ hm
theorem enc_kinds_m (t : Tree) {i : Nat} (hi : i < (Fm.enc t).length) :
    (kd (Fm.enc t) i = 0 ∧ ∃ v : Nat, sy (Fm.enc t) i = (v : Int) ∧ v < 6) ∨ kd (Fm.enc t) i = 1 ∨ kd (Fm.enc t) i = 2 ∨ kd (Fm.enc t) i = 3 ∨ kd (Fm.enc t) i = 4 ∨ kd (Fm.enc t) i = 5 ∨ kd (Fm.enc t) i = 6 := by
  have h1 : kd (Fm.enc t) i = ((Fm.enc t)[i]).1 := by simp [kd, List.getD, hi]
  have h2 : sy (Fm.enc t) i = ((Fm.enc t)[i]).2 := by simp [sy, List.getD, hi]
  rw [h1, h2]
  exact enc_nd t _ (List.getElem_mem hi)
end Go.Proofs.YtpfncncohnhanaaGreatDoor

/- Valuations, plain: the lists that give each of some variables a value of a list, in ascending order. No program is in sight. -/
namespace Go.Proofs.YtpfncncohnhanaaGreatDoor

/-- The lists that differ from cur at the variables vs alone, where they have values out of U, in order. -/
def fs (U : List Nat) : List Nat → List Nat → List (List Nat)
  | [], cur => [cur]
  | v :: vs, cur => U.flatMap fun u => fs U vs (cur.set v u)
theorem fs_congr (U : List Nat) : ∀ (vs cur cur' : List Nat), cur.length = cur'.length → (∀ i, i ∉ vs → cur[i]? = cur'[i]?) → fs U vs cur = fs U vs cur'
  | [], cur, cur', hl, h => by
    have : cur = cur' := List.ext_getElem? fun i => h i (by simp)
    rw [this]
  | v :: vs, cur, cur', hl, h => by
    show (U.flatMap fun u => fs U vs (cur.set v u)) = U.flatMap fun u => fs U vs (cur'.set v u)
    refine congrArg (fun f => U.flatMap f) (funext fun u => fs_congr U vs _ _ (by simp [hl]) fun i hi => ?_)
    by_cases hiv : v = i
    · subst hiv
      simp [List.getElem?_set, hl]
    · rw [List.getElem?_set_ne hiv, List.getElem?_set_ne hiv]
      exact h i (by simp [hi]; omega)
def lf (f : Nat → Nat) : List Nat := (List.range 6).map f
theorem lf_len (f : Nat → Nat) : (lf f).length = 6 := by simp [lf]
theorem lf_get (f : Nat → Nat) {i : Nat} (h : i < 6) : (lf f)[i]? = some (f i) := by simp [lf, h]
theorem lf_set (f : Nat → Nat) (v u : Nat) : (lf f).set v u = lf (fun i => if i = v then u else f i) := by
  apply List.ext_getElem?
  intro i
  by_cases hi : i < 6
  · rw [lf_get _ hi]
    by_cases hv : v = i
    · subst hv
      rw [List.getElem?_set_self (by rw [lf_len]; exact hi), if_pos rfl]
    · rw [List.getElem?_set_ne hv, lf_get _ hi, if_neg (fun h => hv h.symm)]
  · rw [List.getElem?_eq_none (by rw [List.length_set, lf_len]; omega), List.getElem?_eq_none (by rw [lf_len]; omega)]
/-- Two rows agree off the variables. -/
def Off (vs : List Nat) (f f' : Nat → Nat) : Prop := ∀ i, i < 6 → i ∉ vs → f' i = f i
theorem fs_off {U vs : List Nat} {f f' : Nat → Nat} (h : Off vs f f') : fs U vs (lf f') = fs U vs (lf f) := by
  refine fs_congr U vs _ _ (by simp [lf_len]) fun i hi => ?_
  by_cases h6 : i < 6
  · rw [lf_get _ h6, lf_get _ h6, h i h6 hi]
  · rw [List.getElem?_eq_none (by rw [lf_len]; omega), List.getElem?_eq_none (by rw [lf_len]; omega)]
theorem Off.set {v u : Nat} {vs : List Nat} {f f' : Nat → Nat} (h : Off (v :: vs) f f') : Off vs (fun i => if i = v then u else f i) (fun i => if i = v then u else f' i) := by
  intro i h6 hi
  by_cases hv : i = v
  · show (if i = v then u else f' i) = (if i = v then u else f i)
    rw [if_pos hv, if_pos hv]
  · show (if i = v then u else f' i) = (if i = v then u else f i)
    rw [if_neg hv, if_neg hv]
    exact h i h6 (by simp [hv, hi])
theorem Off.back {v u : Nat} {vs : List Nat} {f f' f'' : Nat → Nat} (h : Off (v :: vs) f f') (k : Off vs (fun i => if i = v then u else f' i) f'') : Off (v :: vs) f f'' := by
  intro i h6 hi
  rw [List.mem_cons, not_or] at hi
  have := k i h6 hi.2
  rw [this]
  show (if i = v then u else f' i) = f i
  rw [if_neg hi.1]
  exact h i h6 (by simp [hi.1, hi.2])
theorem Off.refl (vs : List Nat) (f : Nat → Nat) : Off vs f f := fun _ _ _ => rfl
theorem fs_good {P : Nat → Prop} {U : List Nat} (hU : ∀ u ∈ U, P u) : ∀ (vs cur : List Nat), cur.length = 6 → (∀ m ∈ cur, P m) → ∀ x ∈ fs U vs cur, x.length = 6 ∧ ∀ m ∈ x, P m
  | [], cur, hl, h, x, hx => by
    rw [List.mem_singleton.1 hx]
    exact ⟨hl, h⟩
  | v :: vs, cur, hl, h, x, hx => by
    obtain ⟨u, hu, hx⟩ := List.mem_flatMap.1 hx
    refine fs_good hU vs (cur.set v u) (by simp [hl]) (fun m hm => ?_) x hx
    rcases List.mem_or_eq_of_mem_set hm with h1 | h1
    · exact h m h1
    · rw [h1]; exact hU u hu
end Go.Proofs.YtpfncncohnhanaaGreatDoor

/- The variables of a formula: variableMask of the program, l02Variables of the reference. -/
namespace Go.Proofs.YtpfncncohnhanaaGreatDoor
open Go.RowKit
open Fm (Nd Tree)

/-- The mask of the variables among the first k nodes. -/
def vmK (xs : List Nd) : Nat → Nat
  | 0 => 0
  | k + 1 => if kd xs k = 0 then vmK xs k ||| 2 ^ (sy xs k).toNat else vmK xs k
theorem vmK_yes {xs : List Nd} {k : Nat} (h : kd xs k = 0) : vmK xs (k + 1) = vmK xs k ||| 2 ^ (sy xs k).toNat := by
  show (if _ then _ else _) = _
  rw [if_pos h]
theorem vmK_no {xs : List Nd} {k : Nat} (h : ¬ kd xs k = 0) : vmK xs (k + 1) = vmK xs k := by
  show (if _ then _ else _) = _
  rw [if_neg h]
def vm (xs : List Nd) : Nat := vmK xs xs.length
/-- The variables' numbers are less than 6. -/
def Vs (xs : List Nd) : Prop := ∀ i, i < xs.length → kd xs i = 0 → 0 ≤ sy xs i ∧ sy xs i < 6
theorem vmK_lt {xs : List Nd} (h : Vs xs) : ∀ k, k ≤ xs.length → vmK xs k < 2 ^ 6 := by
  intro k
  induction k with
  | zero => intro _; show 0 < 2 ^ 6; decide
  | succ k ih =>
    intro hk
    by_cases h0 : kd xs k = 0
    · rw [vmK_yes h0]
      have h1 := h k (by omega) h0
      refine or_n (ih (by omega)) ?_
      exact Nat.pow_lt_pow_right (by omega) (by omega)
    · rw [vmK_no h0]; exact ih (by omega)
theorem vmK_bit (xs : List Nd) (v : Nat) : ∀ k, (vmK xs k).testBit v = true ↔ ∃ i, i < k ∧ kd xs i = 0 ∧ (sy xs i).toNat = v := by
  intro k
  induction k with
  | zero =>
    show (0 : Nat).testBit v = true ↔ _
    simp
  | succ k ih =>
    by_cases h0 : kd xs k = 0
    · rw [vmK_yes h0, Nat.testBit_or, Bool.or_eq_true, ih, Nat.testBit_two_pow, decide_eq_true_eq]
      constructor
      · rintro (⟨i, hi, h1, h2⟩ | h1)
        · exact ⟨i, by omega, h1, h2⟩
        · exact ⟨k, by omega, h0, h1⟩
      · rintro ⟨i, hi, h1, h2⟩
        by_cases he : i = k
        · subst he; exact .inr h2
        · exact .inl ⟨i, by omega, h1, h2⟩
    · rw [vmK_no h0, ih]
      constructor
      · rintro ⟨i, hi, h1, h2⟩; exact ⟨i, by omega, h1, h2⟩
      · rintro ⟨i, hi, h1, h2⟩
        by_cases he : i = k
        · subst he; exact absurd h1 h0
        · exact ⟨i, by omega, h1, h2⟩
theorem wrap_sh {k : Nat} (h : k ≤ 30) : IntKind.i64.wrap (1 * 2 ^ k) = ((2 ^ k : Nat) : Int) := pow63 h

set_option maxHeartbeats 1000000 in
theorem variableMask_c (v : Value) (xs : List Nd) (w : World) (h : Nodes w v xs) (hv : Vs xs) (hn : xs.length ≤ 1048576) :
    Calls Tryz.prog 76 #[v] w fun e w' => e = .returned (.int .i64 ((vm xs : Nat) : Int)) ∧ Grew w w' := by
  have HY := Lib.hid (fun k => @vmK_yes xs k)
  have HN := Lib.hid (fun k => @vmK_no xs k)
  have HL := Lib.hid (fun k (hk : k ≤ xs.length) => vmK_lt hv k hk)
  have HV := Lib.hid hv
  have HZ : Hid (vmK xs 0 = 0) := Lib.hid rfl
  have HE : Hid (vm xs = vmK xs xs.length) := Lib.hid rfl
  have HO := Lib.hid (fun a b (ha : a < 2 ^ 6) (hb : b < 2 ^ 6) => or_i64 a b (by omega) (by omega))
  rcases h.open_ with ⟨rfl, rfl⟩ | ⟨b, o, c, rfl, hc, hm, hb, hcell⟩
  · clear h
    go_enter Tryz.func76, Tryz.ntmps76
    go_wp2_with fail
    refine wp_loop_rounds 1 ?_; rw [rounds_succ]
    go_wp2_with fail
    go_ret
    exact ⟨rfl, Grew.refl _⟩
  have HC := Lib.hid hcell
  clear hcell h hv
  generalize vm xs = R at *
  generalize hN : xs.length = n at *
  have HXN := Lib.hid hN
  clear hN
  go_enter Tryz.func76, Tryz.ntmps76
  go_wp2_with fail
  go_loopw [3, 5, 8] (fun q _ i wr => ∃ k : Nat, k ≤ n ∧ i = .int .i64 (k : Int) ∧ q = .int .i64 ((vmK xs k : Nat) : Int) ∧ Grew w wr) (fun _ _ i _ => n - (intOf i).toNat)
  case atStart => exact ⟨0, Nat.zero_le _, rfl, by rw [HZ.out]; rfl, Grew.refl _⟩
  case round =>
    obtain ⟨k, hk, rfl, rfl, hB⟩ := hrel
    by_cases hlt : k < n
    · obtain ⟨c0, c1⟩ := HC.out k hlt _ hB
      have hy := Lib.hid (HY.out k)
      have hno := Lib.hid (HN.out k)
      have hq := HL.out k hk
      by_cases h0 : kd xs k = 0
      · have hvs := HV.out k (by rw [HXN.out]; exact hlt) h0
        have hyk := hy.out h0
        rw [h0] at c0
        clear h0
        obtain ⟨s, hs⟩ : ∃ s : Nat, sy xs k = (s : Int) := ⟨(sy xs k).toNat, by omega⟩
        rw [hs] at c1 hyk hvs
        rw [Int.toNat_natCast] at hyk
        have hp := wrap_pow (k := s) (by omega)
        have hp64 : 2 ^ s < 2 ^ 6 := Nat.pow_lt_pow_right (by omega) (by omega)
        have ho := HO.out (vmK xs k) (2 ^ s) hq hp64
        have HYK := Lib.hid hyk
        have hs6 : (s : Int) < 6 := hvs.2
        clear hyk hs hy hno hvs
        generalize vmK xs k = q at *
        generalize (2 ^ s : Nat) = p at *
        go_wp2_with fail
        go_roundw
        case rel => exact ⟨k + 1, by omega, by go_num, by rw [HYK.out], hB.trans ((Grew.refl _).alloc _)⟩
        case measure => simp [intOf]; omega
      · have hyk := hno.out h0
        have HYK := Lib.hid hyk
        clear hyk hy hno
        generalize kd xs k = kk at *
        generalize vmK xs k = q at *
        go_wp2_with fail
        go_roundw
        case rel => exact ⟨k + 1, by omega, by go_num, by rw [HYK.out], hB.trans ((Grew.refl _).alloc _)⟩
        case measure => simp [intOf]; omega
    · obtain rfl : k = n := by omega
      have he := HE.out
      go_wp2_with fail
      go_ret
      exact ⟨by rw [he]; rfl, hB⟩
set_option maxHeartbeats 1000000 in
theorem l02Variables_c (v : Value) (xs : List Nd) (w : World) (h : Nodes w v xs) (hv : Vs xs) (hn : xs.length ≤ 1048576) :
    Calls Tryz.prog 29 #[v] w (GivesI w (zs (mbs (vm xs)))) := by
  have HY := Lib.hid (fun k => @vmK_yes xs k)
  have HN := Lib.hid (fun k => @vmK_no xs k)
  have HL := Lib.hid (fun k (hk : k ≤ xs.length) => vmK_lt hv k hk)
  have HV := Lib.hid hv
  have HZ : Hid (vmK xs 0 = 0) := Lib.hid rfl
  have HE : Hid (vm xs = vmK xs xs.length) := Lib.hid rfl
  have HO := Lib.hid (fun a b (ha : a < 2 ^ 6) (hb : b < 2 ^ 6) => or_i64 a b (by omega) (by omega))
  have HR := Lib.hid (fun W => l01List_c (vm xs) (by have := vmK_lt hv xs.length (Nat.le_refl _); unfold vm; omega) W)
  rcases h.open_ with ⟨rfl, rfl⟩ | ⟨b, o, c, rfl, hc, hm, hb, hcell⟩
  · clear h
    have hz : vm [] = 0 := rfl
    rw [hz] at HR ⊢
    generalize zs (mbs 0) = L at *
    go_enter Tryz.func29, Tryz.ntmps29
    go_wp2_with fail
    refine wp_loop_rounds 1 ?_; rw [rounds_succ]
    go_wp2_with fail
    refine (HR.out _).mono ?_
    rintro e w1 ⟨v1, rfl, hO1, hg1⟩
    go_wp2_with fail
    go_ret
    exact ⟨_, rfl, hO1, hg1⟩
  have HC := Lib.hid hcell
  clear hcell h hv
  generalize zs (mbs (vm xs)) = L at *
  generalize vm xs = R at *
  generalize hN : xs.length = n at *
  have HXN := Lib.hid hN
  clear hN
  go_enter Tryz.func29, Tryz.ntmps29
  go_wp2_with fail
  go_loopw [3, 4] (fun q i wr => ∃ k : Nat, k ≤ n ∧ i = .int .i64 (k : Int) ∧ q = .int .i64 ((vmK xs k : Nat) : Int) ∧ Grew w wr) (fun _ i _ => n - (intOf i).toNat)
  case atStart => exact ⟨0, Nat.zero_le _, rfl, by rw [HZ.out]; rfl, Grew.refl _⟩
  case round =>
    obtain ⟨k, hk, rfl, rfl, hB⟩ := hrel
    by_cases hlt : k < n
    · obtain ⟨c0, c1⟩ := HC.out k hlt _ hB
      have hy := Lib.hid (HY.out k)
      have hno := Lib.hid (HN.out k)
      have hq := HL.out k hk
      by_cases h0 : kd xs k = 0
      · have hvs := HV.out k (by rw [HXN.out]; exact hlt) h0
        have hyk := hy.out h0
        rw [h0] at c0
        clear h0
        obtain ⟨s, hs⟩ : ∃ s : Nat, sy xs k = (s : Int) := ⟨(sy xs k).toNat, by omega⟩
        rw [hs] at c1 hyk hvs
        rw [Int.toNat_natCast] at hyk
        have KO := Lib.hid (fun W => l01One_q s (by omega) W)
        have hp64 : 2 ^ s < 2 ^ 6 := Nat.pow_lt_pow_right (by omega) (by omega)
        have ho := HO.out (vmK xs k) (2 ^ s) hq hp64
        have HYK := Lib.hid hyk
        have hs6 : (s : Int) < 6 := hvs.2
        clear hyk hs hy hno hvs
        generalize vmK xs k = q at *
        generalize (2 ^ s : Nat) = p at *
        have hr1 := Grew.refl wr
        have hd1 := (Grew.refl wr).drew
        go_wp2_with fail
        refine (KO.out _).mono ?_
        rintro e w1 ⟨rfl, rfl⟩
        go_wp2_with fail
        go_roundw
        case rel => exact ⟨k + 1, by omega, by go_num, by rw [HYK.out], hB⟩
        case measure => simp [intOf]; omega
      · have hyk := hno.out h0
        have HYK := Lib.hid hyk
        clear hyk hy hno
        generalize kd xs k = kk at *
        generalize vmK xs k = q at *
        go_wp2_with fail
        go_roundw
        case rel => exact ⟨k + 1, by omega, by go_num, by rw [HYK.out], hB⟩
        case measure => simp [intOf]; omega
    · obtain rfl : k = n := by omega
      rw [← HE.out]
      go_wp2_with fail
      refine (HR.out _).mono ?_
      rintro e w1 ⟨v1, rfl, hO1, hg1⟩
      go_wp2_with fail
      go_ret
      exact ⟨_, rfl, own_base hO1 hB.size, hB.trans hg1⟩
end Go.Proofs.YtpfncncohnhanaaGreatDoor

/- The values of all models on a frame, plain: a number's values for some variables; validity on a frame is truth for all numbers. No program is in sight. -/
namespace Go.Proofs.YtpfncncohnhanaaGreatDoor
open Go.RowKit
open Fm (Nd Tree)

/-- The p-th of c values of n bits in a number. -/
def dg (n c num p : Nat) : Nat := num / 2 ^ (n * (c - 1 - p)) % 2 ^ n
theorem dg_lt (n c num p : Nat) : dg n c num p < 2 ^ n := Nat.mod_lt _ (Nat.pow_pos (by omega))
theorem dg_and (n c num p : Nat) : num / 2 ^ (n * (c - 1 - p)) &&& full n = dg n c num p := by
  unfold full dg
  exact Nat.and_two_pow_sub_one_eq_mod _ _
/-- The values with a number. -/
def vals (n : Nat) (vars : List Nat) (num : Nat) : List Nat := lf fun i => if i ∈ vars then dg n vars.length num (vars.idxOf i) else 0
theorem vals_len (n : Nat) (vars : List Nat) (num : Nat) : (vals n vars num).length = 6 := lf_len _
theorem vals_lt (n : Nat) (vars : List Nat) (num : Nat) : ∀ m ∈ vals n vars num, m < 2 ^ n := by
  intro m hm
  unfold vals lf at hm
  obtain ⟨i, _, rfl⟩ := List.mem_map.1 hm
  by_cases h : i ∈ vars
  · simp only [if_pos h]; exact dg_lt _ _ _ _
  · simp only [if_neg h]; exact Nat.pow_pos (by omega)
/-- All values in order. -/
def allV (n : Nat) (vars : List Nat) : List (List Nat) := (List.range (2 ^ (n * vars.length))).map (vals n vars)
theorem allV_len (n : Nat) (vars : List Nat) : (allV n vars).length = 2 ^ (n * vars.length) := by simp [allV]
theorem allV_good {n : Nat} {vars : List Nat} : ∀ x ∈ allV n vars, x.length = 6 ∧ ∀ m ∈ x, m < 2 ^ n := by
  intro x hx
  obtain ⟨k, _, rfl⟩ := List.mem_map.1 hx
  exact ⟨vals_len _ _ _, vals_lt _ _ _⟩
theorem allV_take {n : Nat} {vars : List Nat} {k : Nat} (h : k < 2 ^ (n * vars.length)) : (allV n vars).take (k + 1) = (allV n vars).take k ++ [vals n vars k] := by
  unfold allV
  rw [← List.map_take, ← List.map_take, List.take_range, List.take_range, Nat.min_eq_left (by omega), Nat.min_eq_left (by omega), List.range_succ, List.map_append]
  rfl
/-- The first j variables have their values, what is no variable is 0. -/
def PG (n : Nat) (vars : List Nat) (num j : Nat) (f : Nat → Nat) : Prop := (∀ p, p < j → f (nt vars p) = dg n vars.length num p) ∧ ∀ i, i < 6 → i ∉ vars → f i = 0
/-- The variables from the k-th on have their values, what is no variable is 0. -/
def QG (n : Nat) (vars : List Nat) (num k : Nat) (f : Nat → Nat) : Prop := (∀ p, k ≤ p → p < vars.length → f (nt vars p) = dg n vars.length num p) ∧ ∀ i, i < 6 → i ∉ vars → f i = 0
theorem nt_inj {vars : List Nat} (hn : vars.Nodup) {i j : Nat} (hi : i < vars.length) (hj : j < vars.length) (h : nt vars i = nt vars j) : i = j := by
  unfold nt at h
  simp only [List.getD_eq_getElem?_getD, List.getElem?_eq_getElem hi, List.getElem?_eq_getElem hj, Option.getD_some] at h
  exact (List.getElem_inj hn).1 h
theorem nt_idxOf {vars : List Nat} {i : Nat} (h : i ∈ vars) : vars.idxOf i < vars.length ∧ nt vars (vars.idxOf i) = i := by
  have h1 := List.idxOf_lt_length_of_mem h
  refine ⟨h1, ?_⟩
  unfold nt
  rw [List.getD_eq_getElem?_getD, List.getElem?_eq_getElem h1, Option.getD_some]
  exact List.getElem_idxOf h1
theorem PG.zero {n : Nat} {vars : List Nat} {num : Nat} {f : Nat → Nat} (h : ∀ i, i < 6 → i ∉ vars → f i = 0) : PG n vars num 0 f := ⟨fun p hp => absurd hp (by omega), h⟩
theorem PG.set {n : Nat} {vars : List Nat} (hn : vars.Nodup) {num j : Nat} {f f' : Nat → Nat} (h : PG n vars num j f) (hj : j < vars.length) (h1 : f' (nt vars j) = dg n vars.length num j) (h2 : ∀ i, i ≠ nt vars j → f' i = f i) : PG n vars num (j + 1) f' := by
  refine ⟨fun p hp => ?_, fun i hi hv => ?_⟩
  · by_cases hpj : p = j
    · subst hpj; exact h1
    · rw [h2 _ (fun e => hpj (nt_inj hn (by omega) hj e))]
      exact h.1 p (by omega)
  · rw [h2 i (fun e => hv (by rw [e]; exact nt_mem hj))]
    exact h.2 i hi hv
theorem QG.set {n : Nat} {vars : List Nat} (hn : vars.Nodup) {num k : Nat} {f f' : Nat → Nat} (h : QG n vars num (k + 1) f) (hj : k < vars.length) (h1 : f' (nt vars k) = dg n vars.length num k) (h2 : ∀ i, i ≠ nt vars k → f' i = f i) : QG n vars num k f' := by
  refine ⟨fun p hp hpl => ?_, fun i hi hv => ?_⟩
  · by_cases hpj : p = k
    · subst hpj; exact h1
    · rw [h2 _ (fun e => hpj (nt_inj hn hpl hj e))]
      exact h.1 p (by omega) hpl
  · rw [h2 i (fun e => hv (by rw [e]; exact nt_mem hj))]
    exact h.2 i hi hv
theorem QG.pg {n : Nat} {vars : List Nat} {num : Nat} {f : Nat → Nat} (h : QG n vars num 0 f) : PG n vars num vars.length f := ⟨fun p hp => h.1 p (by omega) hp, h.2⟩
theorem PG.vals {n : Nat} {vars : List Nat} {num : Nat} {f : Nat → Nat} (h : PG n vars num vars.length f) : (List.range 6).map f = vals n vars num := by
  unfold Go.Proofs.YtpfncncohnhanaaGreatDoor.vals lf
  refine List.map_congr_left fun i hi => ?_
  rw [List.mem_range] at hi
  by_cases hv : i ∈ vars
  · rw [if_pos hv]
    obtain ⟨h1, h2⟩ := nt_idxOf hv
    have := h.1 _ h1
    rwa [h2] at this
  · rw [if_neg hv]
    exact h.2 i hi hv
/-- The formula is true everywhere for all values of its variables. -/
def vldB (A vars : List Nat) (t : Tree) : Bool := (allV A.length vars).all fun x => mv A x t == full A.length
theorem vldB_yes {A vars : List Nat} {t : Tree} (h : ∀ x ∈ allV A.length vars, mv A x t = full A.length) : vldB A vars t = true := by
  unfold vldB
  rw [List.all_eq_true]
  intro x hx
  simp [h x hx]
theorem vldB_no {A vars : List Nat} {t : Tree} {x : List Nat} (hx : x ∈ allV A.length vars) (h : mv A x t ≠ full A.length) : vldB A vars t = false := by
  unfold vldB
  rw [List.all_eq_false]
  exact ⟨x, hx, by simp [h]⟩
/-- Values of n bits are the values of a number. -/
theorem dg_all (n : Nat) (g : Nat → Nat) (hg : ∀ p, g p < 2 ^ n) : ∀ c : Nat, ∃ num, num < 2 ^ (n * c) ∧ ∀ p, p < c → dg n c num p = g p
  | 0 => ⟨0, by simp, fun p hp => absurd hp (by omega)⟩
  | c + 1 => by
    obtain ⟨m, hm, h⟩ := dg_all n g hg c
    have hp2 : (0 : Nat) < 2 ^ n := Nat.pow_pos (by omega)
    have hgc := hg c
    refine ⟨m * 2 ^ n + g c, ?_, fun p hp => ?_⟩
    · rw [Nat.mul_add, Nat.mul_one, Nat.pow_add]
      have h1 : (m + 1) * 2 ^ n ≤ 2 ^ (n * c) * 2 ^ n := Nat.mul_le_mul_right _ hm
      rw [Nat.add_mul, Nat.one_mul] at h1
      omega
    · unfold dg
      have hdiv : (m * 2 ^ n + g c) / 2 ^ n = m := by
        rw [Nat.mul_comm, Nat.mul_add_div hp2, Nat.div_eq_of_lt hgc, Nat.add_zero]
      by_cases hpc : p = c
      · subst hpc
        rw [show p + 1 - 1 - p = 0 by omega, Nat.mul_zero, Nat.pow_zero, Nat.div_one, Nat.mul_comm, Nat.mul_add_mod, Nat.mod_eq_of_lt hgc]
      · have h2 := h p (by omega)
        unfold dg at h2
        have e : n * (c + 1 - 1 - p) = n + n * (c - 1 - p) := by
          rw [show c + 1 - 1 - p = 1 + (c - 1 - p) by omega, Nat.mul_add, Nat.mul_one]
        rw [e, Nat.pow_add, ← Nat.div_div_eq_div_mul, hdiv]
        exact h2
theorem vals_nt {n : Nat} {vars : List Nat} (hn : vars.Nodup) (h6 : ∀ v ∈ vars, v < 6) {num p : Nat} (hp : p < vars.length) : nt (vals n vars num) (nt vars p) = dg n vars.length num p := by
  have hm := nt_mem hp
  have h1 := h6 _ hm
  unfold nt at h1 ⊢
  rw [List.getD_eq_getElem?_getD (l := vals n vars num)]
  unfold vals
  rw [lf_get _ h1]
  show (if _ then _ else _) = _
  have hm' : vars.getD p 0 ∈ vars := hm
  rw [if_pos hm']
  congr 1
  obtain ⟨h3, h4⟩ := nt_idxOf hm'
  exact nt_inj hn h3 hp h4
/-- Validity on a frame: true at all worlds for all values. -/
theorem vldB_iff {A vars : List Nat} {t : Tree} (hA : Rl A) (hn : vars.Nodup) (h6 : ∀ v ∈ vars, v < 6) (hv : ∀ v, hasV v t → v ∈ vars) :
    vldB A vars t = true ↔ ∀ (V : Nat → Nat → Prop) (x : Nat), x < A.length → tr (rl A) V t x := by
  have hR : ∀ x y, x < A.length → rl A x y → y < A.length := fun x y hx hy => hA.bit hx hy
  have key : ∀ num, mv A (vals A.length vars num) t = full A.length ↔ ∀ x, x < A.length → tr (rl A) (vl (vals A.length vars num)) t x := by
    intro num
    rw [eq_full (mv_lt (vals_lt _ _ _) t)]
    exact ⟨fun h x hx => (mv_bit hA t x hx).1 (h x hx), fun h x hx => (mv_bit hA t x hx).2 (h x hx)⟩
  constructor
  · intro h V x hx
    obtain ⟨g, hg⟩ : ∃ g : Nat → Nat, ∀ p, g p < 2 ^ A.length ∧ ∀ y, y < A.length → ((g p).testBit y = true ↔ V (nt vars p) y) :=
      ⟨fun p => Classical.choose (mask_of A.length (V (nt vars p))), fun p => Classical.choose_spec (mask_of A.length (V (nt vars p)))⟩
    obtain ⟨num, hnum, hd⟩ := dg_all A.length g (fun p => (hg p).1) vars.length
    have h1 : mv A (vals A.length vars num) t = full A.length := by
      apply Classical.byContradiction
      intro hne
      have := vldB_no (List.mem_map.2 ⟨num, List.mem_range.2 hnum, rfl⟩) hne
      rw [this] at h
      cases h
    refine (tr_congr hR t (fun v hvt y hy => ?_) x hx).1 ((key num).1 h1 x hx)
    obtain ⟨h3, h4⟩ := nt_idxOf (hv v hvt)
    have h5 : nt (vals A.length vars num) v = g (vars.idxOf v) := by
      have := vals_nt (n := A.length) hn h6 (num := num) h3
      rw [h4] at this
      rw [this, hd _ h3]
    unfold vl
    rw [h5, (hg _).2 y hy, h4]
  · intro h
    refine vldB_yes fun x hx => ?_
    obtain ⟨num, _, rfl⟩ := List.mem_map.1 hx
    exact (key num).2 fun x hx => h _ x hx
end Go.Proofs.YtpfncncohnhanaaGreatDoor

/- The axioms' trees: the formula of an axiom is valid on a frame exactly if its condition holds. -/
namespace Go.Proofs.YtpfncncohnhanaaGreatDoor
open Go.RowKit
open Fm (Nd Tree)

theorem axTree_axT {k : Nat} (h : k < 13) : axTree k = axT k := by
  have hk : k = 0 ∨ k = 1 ∨ k = 2 ∨ k = 3 ∨ k = 4 ∨ k = 5 ∨ k = 6 ∨ k = 7 ∨ k = 8 ∨ k = 9 ∨ k = 10 ∨ k = 11 ∨ k = 12 := by omega
  rcases hk with rfl | rfl | rfl | rfl | rfl | rfl | rfl | rfl | rfl | rfl | rfl | rfl | rfl <;> rfl
def axV : Nat → List Nat
  | 7 => [0, 1]
  | 10 => []
  | _ => [0]
set_option maxRecDepth 100000 in
theorem axTree_mbs {k : Nat} (h : k < 13) : mbs (vm (Fm.enc (axTree k))) = axV k := by
  have : ∀ j : Fin 13, mbs (vm (Fm.enc (axTree j.val))) = axV j.val := by decide +kernel
  exact this ⟨k, h⟩
set_option maxRecDepth 100000 in
theorem axTree_vs {k : Nat} (h : k < 13) : Vs (Fm.enc (axTree k)) := by
  have : ∀ j : Fin 13, ∀ i : Fin 40, i.val < (Fm.enc (axTree j.val)).length → kd (Fm.enc (axTree j.val)) i.val = 0 → 0 ≤ sy (Fm.enc (axTree j.val)) i.val ∧ sy (Fm.enc (axTree j.val)) i.val < 6 := by decide +kernel
  intro i hi h0
  exact this ⟨k, h⟩ ⟨i, by have := (axTree_len h).1; omega⟩ hi h0
theorem axTree_hasV {k : Nat} (h : k < 13) (v : Nat) (hv : hasV v (axTree k)) : v ∈ axV k := by
  have hk : k = 0 ∨ k = 1 ∨ k = 2 ∨ k = 3 ∨ k = 4 ∨ k = 5 ∨ k = 6 ∨ k = 7 ∨ k = 8 ∨ k = 9 ∨ k = 10 ∨ k = 11 ∨ k = 12 := by omega
  rw [axTree_axT h] at hv
  rcases hk with rfl | rfl | rfl | rfl | rfl | rfl | rfl | rfl | rfl | rfl | rfl | rfl | rfl <;> (simp only [axT, hasV, pp, qq, or_self] at hv) <;> (simp only [axV, List.mem_cons, List.not_mem_nil, or_false]) <;> (try exact hv) <;> omega
theorem ax_valid {A : List Nat} (hA : Rl A) {k : Nat} (h : k < 13) : vldB A (mbs (vm (Fm.enc (axTree k)))) (axTree k) = axB A k := by
  rw [Bool.eq_iff_iff, axB_iff hA, axTree_mbs h, vldB_iff hA (by unfold axV; split <;> decide) (by unfold axV; split <;> decide) (axTree_hasV h), axTree_axT h]
  exact Iff.rfl
end Go.Proofs.YtpfncncohnhanaaGreatDoor

/- everyPair of the program. -/
namespace Go.Proofs.YtpfncncohnhanaaGreatDoor
open Go.RowKit

/-- What a condition on three worlds gives. -/
def PredP (w : World) (f : Nat) (caps : Array Value) (n : Nat) (p : Nat → Nat → Nat → Bool) : Prop := ∀ x y z W, x < n → y < n → z < n → Grew w W → Calls Tryz.prog f (#[.int .i64 (x : Int), .int .i64 (y : Int), .int .i64 (z : Int)] ++ caps) W fun e W' => e = .returned (.bool (p x y z)) ∧ Grew W W'
set_option maxHeartbeats 1000000 in
theorem everyPair_c (v : Value) (A : List Nat) (f : Nat) (caps : Array Value) (p : Nat → Nat → Nat → Bool) (w : World) (h : Ints w v (zs A)) (hA : Rl A) (hf : PredP (w.alloc (.cells #[.int .i64 (A.length : Int), v] 26)) f caps A.length p) (eg : ∀ args w, (callFunc f args).run Tryz.prog w = .ok (.enter f args) w) :
    Calls Tryz.prog 186 #[.agg #[.int .i64 (A.length : Int), v], .func (.func f) #[] caps] w fun e w' => e = .returned (.bool (pairB A p)) ∧ Grew w w' := by
  have hn30 := hA.1
  obtain ⟨A1, c1, rfl⟩ := ints_sliceN h
  obtain ⟨R, hR⟩ : ∃ R, R = pairB A p := ⟨_, rfl⟩
  rw [← hR]
  unfold pairB at hR
  have HA := Lib.hid (fun k hk h => hR.trans (@allB_no A.length (fun x => allB (mbs (nt A x)).length fun i => allB (mbs (nt A x)).length fun j => p x (nt (mbs (nt A x)) i) (nt (mbs (nt A x)) j)) k hk h))
  have HZ := Lib.hid (fun h => hR.trans (@allB_of A.length (fun x => allB (mbs (nt A x)).length fun i => allB (mbs (nt A x)).length fun j => p x (nt (mbs (nt A x)) i) (nt (mbs (nt A x)) j)) h))
  have HF := Lib.hid hf
  have hal := (Grew.refl w).alloc (.cells #[.int .i64 (A.length : Int), .slice A1 A.length c1] 26)
  have HC := Lib.hid (fun h0 => cellsN (h.grew hal) h0)
  have HM := Lib.hid (fun i (hi : i < A.length) => membersOf_c (nt A i) (hA.sm.at_ hi))
  have HLT := Lib.hid (fun i (hi : i < A.length) k (hk : k < (mbs (nt A i)).length) => mbs_lt (hA.lt hi) (nt_mem hk))
  have HL30 := Lib.hid mbs_len
  obtain ⟨w0, hw0⟩ : ∃ w0, w0 = w.alloc (.cells #[.int .i64 (A.length : Int), .slice A1 A.length c1] 26) := ⟨_, rfl⟩
  rw [← hw0] at HF HC hal
  have HG := Lib.hid hal
  clear h hA hf hR hal
  generalize A.length = n at *
  go_enter Tryz.func186, Tryz.ntmps186
  go_wp2_with fail
  simp only [← hw0]
  clear hw0
  go_loopw [5, 6, 8, 10, 14, 22, 29] (fun _ _ _ _ i _ _ wr => ∃ j : Nat, j ≤ n ∧ i = .int .i64 j ∧ Grew w0 wr ∧ Hid (AllK (fun x => allB (mbs (nt A x)).length fun i => allB (mbs (nt A x)).length fun j => p x (nt (mbs (nt A x)) i) (nt (mbs (nt A x)) j)) j)) (fun _ _ _ _ i _ _ _ => n - (intOf i).toNat)
  case atStart => exact ⟨0, Nat.zero_le _, rfl, Grew.refl _, AllK.zero _⟩
  case round =>
    obtain ⟨x, hx, rfl, hB, HJ⟩ := hrel
    by_cases hlt : x < n
    · obtain ⟨b, o, rfl, hcell⟩ := HC.out (by omega)
      have k1 := hcell x hlt _ hB
      have hA1 := Lib.hid (HA.out x hlt)
      have hS1 := Lib.hid (fun h => HJ.out.succ (k := x) h)
      have hM := Lib.hid (HM.out x hlt)
      have hLT := Lib.hid (HLT.out x hlt)
      have hl30 := HL30.out (nt A x)
      have hF := Lib.hid (fun y z W hy hz hW => HF.out x y z W hlt hy hz hW)
      clear hcell
      generalize nt A x = m at *
      generalize hL : mbs m = L at *
      clear hL
      go_wp2_with fail
      refine (hM.out _).mono ?_
      rintro e w1 ⟨v1, rfl, hO1, hg1⟩
      obtain ⟨A2, c2, rfl⟩ := ints_sliceN hO1.ints
      have HD := Lib.hid (fun h0 => cellsN hO1.ints h0)
      have hB1 := hB.trans hg1
      clear hO1 k1
      go_wp2_with fail
      go_loopw [8, 10, 22, 29] (fun _ _ i _ wy => ∃ j : Nat, j ≤ L.length ∧ i = .int .i64 j ∧ Grew w1 wy ∧ Hid (AllK (fun i => allB L.length fun j => p x (nt L i) (nt L j)) j)) (fun _ _ i _ _ => L.length - (intOf i).toNat)
      case atStart => exact ⟨0, Nat.zero_le _, rfl, Grew.refl _, AllK.zero _⟩
      case round =>
        obtain ⟨y, hy, rfl, hY, HY⟩ := hrel
        by_cases hly : y < L.length
        · obtain ⟨b2, o2, rfl, hcell2⟩ := HD.out (by omega)
          have k2 := hcell2 y hly _ hY
          have hA2 := Lib.hid (fun h => hA1.out (@allB_no L.length (fun i => allB L.length fun j => p x (nt L i) (nt L j)) y hly h))
          have hS2 := Lib.hid (fun h => HY.out.succ (k := y) h)
          have hyn := hLT.out y hly
          have hF2 := Lib.hid (fun z W hz hW => hF.out (nt L y) z W hyn hz hW)
          clear hcell2
          generalize nt L y = ly at *
          go_wp2_with fail
          refine (hM.out _).mono ?_
          rintro e w2 ⟨v2, rfl, hO2, hg2⟩
          obtain ⟨A3, c3, rfl⟩ := ints_sliceN hO2.ints
          have HE := Lib.hid (fun h0 => cellsN hO2.ints h0)
          have hY2 := hY.trans hg2
          clear hO2 k2
          go_wp2_with fail
          go_loopw [10, 29] (fun _ i wz => ∃ j : Nat, j ≤ L.length ∧ i = .int .i64 j ∧ Grew w2 wz ∧ Hid (AllK (fun j => p x ly (nt L j)) j)) (fun _ i _ => L.length - (intOf i).toNat)
          case atStart => exact ⟨0, Nat.zero_le _, rfl, Grew.refl _, AllK.zero _⟩
          case round =>
            obtain ⟨z, hz, rfl, hZ, HZ3⟩ := hrel
            by_cases hlz : z < L.length
            · obtain ⟨b3, o3, rfl, hcell3⟩ := HE.out (by omega)
              have k3 := hcell3 z hlz _ hZ
              have hA3 := Lib.hid (fun h => hA2.out (@allB_no L.length (fun j => p x ly (nt L j)) z hlz h))
              have hS3 := Lib.hid (fun h => HZ3.out.succ (k := z) h)
              have hzn := hLT.out z hlz
              have hB3 := (hB1.trans hY2).trans hZ
              have hF3 := Lib.hid (hF2.out (nt L z) _ hzn hB3)
              clear hcell3
              generalize nt L z = lz at *
              go_wp2_with fail
              refine (hF3.out).mono ?_
              rintro e w3 ⟨rfl, hg3⟩
              have hZ3 := hZ.trans hg3
              have hB4 := hB3.trans hg3
              cases hp : p x ly lz with
              | true =>
                have hs := Lib.hid (hS3.out hp)
                go_wp2_with fail
                go_roundw
                case rel => exact ⟨z + 1, by omega, by go_num, hZ3, hs⟩
                case measure => simp [intOf]; omega
              | false =>
                have hv := Lib.hid (hA3.out hp)
                go_wp2_with fail
                go_ret
                exact ⟨by rw [hv.out]; rfl, HG.out.trans hB4⟩
            · obtain rfl : z = L.length := by omega
              have hs := Lib.hid (hS2.out (allB_of HZ3.out))
              have hYZ := hY2.trans hZ
              go_wp2_with fail
              go_roundw
              case rel => exact ⟨y + 1, by omega, by go_num, hYZ, hs⟩
              case measure => simp [intOf]; omega
        · obtain rfl : y = L.length := by omega
          have hs := Lib.hid (hS1.out (allB_of HY.out))
          have hBY := hB1.trans hY
          go_wp2_with fail
          go_roundw
          case rel => exact ⟨x + 1, by omega, by go_num, hBY, hs⟩
          case measure => simp [intOf]; omega
    · obtain rfl : x = n := by omega
      have hv := Lib.hid (HZ.out HJ.out)
      go_wp2_with fail
      go_ret
      exact ⟨by rw [hv.out]; rfl, HG.out.trans hB⟩
end Go.Proofs.YtpfncncohnhanaaGreatDoor

/- Counting members: OnesCount64, countMembers of the program, l01Bits of the reference. -/
namespace Go.Proofs.YtpfncncohnhanaaGreatDoor
open Go.RowKit

def oc1 (m : Int) : Int := IntKind.u64.wrap (bits .and .u64 (m / 2) 6148914691236517205 + bits .and .u64 m 6148914691236517205)
def oc2 (m : Int) : Int := IntKind.u64.wrap (bits .and .u64 (m / 4) 3689348814741910323 + bits .and .u64 m 3689348814741910323)
def oc3 (m : Int) : Int := bits .and .u64 (IntKind.u64.wrap (m / 16 + m)) 1085102592571150095
def oc4 (m : Int) : Int := IntKind.u64.wrap (m + m / 256)
def oc5 (m : Int) : Int := IntKind.u64.wrap (m + m / 65536)
def oc6 (m : Int) : Int := IntKind.u64.wrap (m + m / 4294967296)
def ocA (m : Nat) : Int := oc6 (oc5 (oc4 (oc3 (oc2 (oc1 (m : Int))))))
theorem oc_all : (List.range 256).all (fun m => decide (bits .and .i64 (wrap64 (ocA m)) 127 = ((mbs m).length : Int)) && decide (bits .and .i64 (ocA m) 127 = ((mbs m).length : Int))) = true := by kernel_rfl
theorem oc_at {m : Nat} (hm : m < 256) : bits .and .i64 (wrap64 (ocA m)) 127 = ((mbs m).length : Int) ∧ bits .and .i64 (ocA m) 127 = ((mbs m).length : Int) := by
  have := List.all_eq_true.1 oc_all m (List.mem_range.2 hm)
  simpa using this
theorem ones_c (m : Nat) (hm : m < 256) (w : World) :
    Calls Tryz.prog 211 #[.int .u64 (m : Int)] w fun e w' => e = .returned (.int .i64 ((mbs m).length : Int)) ∧ w' = w := by
  obtain ⟨h1, h2⟩ := oc_at hm
  have H := Lib.hid (And.intro h1 h2)
  clear h1 h2
  go_enter Tryz.func211, Tryz.ntmps211
  go_wp2_with fail
  go_ret
  refine ⟨?_, rfl⟩
  first
    | exact congrArg (fun x => Ending.returned (.int .i64 x)) H.out.1
    | exact congrArg (fun x => Ending.returned (.int .i64 x)) H.out.2
theorem countMembers_c (m : Nat) (hm : m < 256) (w : World) :
    Calls Tryz.prog 194 #[.int .i64 (m : Int)] w fun e w' => e = .returned (.int .i64 ((mbs m).length : Int)) ∧ w' = w := by
  have H := Lib.hid (ones_c m hm)
  go_enter Tryz.func194, Tryz.ntmps194
  go_wp2_with fail
  refine (H.out _).mono ?_
  rintro e w1 ⟨rfl, rfl⟩
  go_wp2_with fail
  go_ret
  exact ⟨rfl, rfl⟩
theorem mb_succ_len (m k : Nat) : (mb m (k + 1)).length = (mb m k).length + m / 2 ^ k % 2 := by
  have hb : m.testBit k = decide (m / 2 ^ k % 2 = 1) := by rw [Nat.testBit_eq_decide_div_mod_eq]
  cases h : m.testBit k with
  | true =>
    rw [mb_yes h, List.length_append, List.length_singleton]
    rw [h] at hb
    have := of_decide_eq_true hb.symm
    omega
  | false =>
    rw [mb_no h]
    rw [h] at hb
    have := of_decide_eq_false hb.symm
    have h2 := Nat.mod_two_eq_zero_or_one (m / 2 ^ k)
    omega
theorem l01Bits_c (m : Nat) (hm : m < 1073741824) (w : World) :
    Calls Tryz.prog 141 #[.int .i64 (m : Int)] w fun e w' => e = .returned (.int .i64 ((mbs m).length : Int)) ∧ w' = w := by
  have HS := Lib.hid (mb_succ_len m)
  have HT := Lib.hid (fun k (hk : k ≤ 30) h => @mbs_of m k hm h hk)
  have HD := Lib.hid (fun k => show m / 2 ^ (k + 1) = m / 2 ^ k / 2 from by rw [Nat.pow_succ, Nat.div_div_eq_div_mul])
  have HLE := Lib.hid (fun k (hk : 30 ≤ k) => show m / 2 ^ k = 0 from Nat.div_eq_of_lt (Nat.lt_of_lt_of_le (show m < 2 ^ 30 by omega) (Nat.pow_le_pow_right (by omega) hk)))
  have HB := Lib.hid (fun k => mb_len m k)
  have H0 : Hid (m / 2 ^ 0 = m) := Lib.hid (by rw [Nat.pow_zero, Nat.div_one])
  have HDL := Lib.hid (fun k => Nat.div_le_self m (2 ^ k))
  go_enter Tryz.func141, Tryz.ntmps141
  go_wp2_with fail
  go_loopw [0, 3] (fun x q wr => ∃ k : Nat, k ≤ 30 ∧ x = .int .i64 ((m / 2 ^ k : Nat) : Int) ∧ q = .int .i64 ((mb m k).length : Int) ∧ wr = w) (fun x _ _ => (intOf x).toNat)
  case atStart => exact ⟨0, by omega, by rw [H0.out], rfl, rfl⟩
  case round =>
    obtain ⟨k, hk, rfl, rfl, rfl⟩ := hrel
    have hs := HS.out k
    have hd := HD.out k
    have hdl := HDL.out k
    have hb := HB.out k
    have hle := HLE.out k
    have ht := Lib.hid (HT.out k hk)
    generalize hY : m / 2 ^ k = Y at *
    by_cases h0 : Y = 0
    · have hr := Lib.hid (ht.out h0)
      have hn : ¬ (0 : Int) < (Y : Int) := by omega
      clear hs hd hle hdl hY
      go_wp2_with fail
      go_ret
      exact ⟨by rw [← hr.out]; rfl, rfl⟩
    · have hp : (0 : Int) < (Y : Int) := by omega
      have hk30 : k < 30 := by
        apply Classical.byContradiction
        intro hc
        exact h0 (hle (by omega))
      have e1 : (Y : Int).tmod 2 = ((Y % 2 : Nat) : Int) := by rw [Int.tmod_eq_emod_of_nonneg (by omega)]; omega
      have hm2 : Y % 2 < 2 := Nat.mod_lt _ (by omega)
      have hy2 : Y / 2 < Y := by omega
      generalize Y % 2 = r2 at *
      have e3 : (Y : Int) / 2 = ((Y / 2 : Nat) : Int) := by omega
      have HSD := Lib.hid (And.intro hs hd)
      clear hs hd hY
      generalize Y / 2 = y2 at *
      have hlen : (mb m k).length ≤ 30 := by omega
      clear hle
      go_wp2_with fail
      go_roundw
      case rel => exact ⟨k + 1, by omega, by rw [HSD.out.2], by rw [HSD.out.1]; rfl, trivial⟩
      case measure => simp only [intOf]; omega
end Go.Proofs.YtpfncncohnhanaaGreatDoor

/- hasFlag of the program: serial, symmetric, Euclidean, directed, connected, acyclic (transitive frames), dense, functional. -/
namespace Go.Proofs.YtpfncncohnhanaaGreatDoor
open Go.RowKit

theorem inv_eq {A : List Nat} {f : Nat → Nat} (h : Bk (nt A) A.length A.length 0 f) {y : Nat} (hy : y < A.length) : f y = invN A A.length y := by
  apply Nat.eq_of_testBit_eq
  intro x
  rw [Bool.eq_iff_iff, h.bit hy x, invN_bit]
theorem sym_eq {A : List Nat} (hA : Rl A) {f : Nat → Nat} (h : Bk (nt A) A.length A.length 0 f) : decide (zs ((List.range A.length).map f) = zs A) = symB A := by
  rw [Bool.eq_iff_iff, decide_eq_true_eq, symB_iff hA]
  have hL : (List.range A.length).map f = A ↔ ∀ x, x < A.length → f x = nt A x := by
    constructor
    · intro he x hx
      have := congrArg (fun L => nt L x) he
      simpa [nt, List.getD, hx] using this
    · intro he
      apply List.ext_getElem (by simp)
      intro x h1 h2
      rw [nt_get h2]
      simpa using he x h2
  constructor
  · intro he x y hx hy
    have hf := hL.1 (zs_inj he)
    have hyn := hA.bit hx hy
    unfold rl
    rw [← hf y hyn, h.bit hyn x]
    exact ⟨hx, hy⟩
  · intro hs
    refine congrArg zs (hL.2 fun y hy => ?_)
    apply Nat.eq_of_testBit_eq
    intro x
    rw [Bool.eq_iff_iff, h.bit hy x]
    exact ⟨fun ⟨hx, hb⟩ => hs x y hx hb, fun hb => ⟨hA.bit hy hb, hs y x hy hb⟩⟩
theorem ne_zero_b (m : Nat) : (((m : Nat) : Int) != 0) = !decide (m = 0) := by
  rw [Bool.eq_iff_iff]
  simp
theorem le_one_b (k : Nat) : decide (((k : Nat) : Int) ≤ 1) = decide (k ≤ 1) := by
  rw [Bool.eq_iff_iff, decide_eq_true_eq, decide_eq_true_eq]
  omega
theorem ser_k (v : Value) (A : List Nat) (bf : Nat) (w : World) (h : Ints w v (zs A)) (hA : Rl A) (k0 : ∀ W, Grew w W → W.cell? ⟨bf, 0, none⟩ = some (.int .i64 (A.length : Int))) (k1 : ∀ W, Grew w W → W.cell? ⟨bf, 1, none⟩ = some v) :
    PredW w 184 #[.pointer (some ⟨bf, 0, none⟩)] A.length (fun x => !decide (nt A x = 0)) := by
  intro x W hx hW
  have y1 := k1 W hW
  have hb := ne_zero_b (nt A x)
  show Calls Tryz.prog 184 #[.int .i64 (x : Int), .pointer (some ⟨bf, 0, none⟩)] W fun e W' => e = .returned (.bool (!decide (nt A x = 0))) ∧ Grew W W'
  obtain ⟨A', c, rfl⟩ := ints_sliceN h
  obtain ⟨b, o, rfl, hc1⟩ := cellsN h (by omega)
  have z1 := hc1 x hx W hW
  clear h k0 k1 hA hc1
  generalize (!decide (nt A x = 0)) = t at *
  generalize nt A x = m at *
  generalize A.length = n at *
  go_enter Tryz.func184, Tryz.ntmps184
  go_wp2_with fail
  go_ret
  exact ⟨by first | rfl | rw [hb], Grew.refl _⟩
theorem fun_k (v : Value) (A : List Nat) (bf : Nat) (w : World) (h : Ints w v (zs A)) (hA : Rl A) (h8 : A.length ≤ 8) (k0 : ∀ W, Grew w W → W.cell? ⟨bf, 0, none⟩ = some (.int .i64 (A.length : Int))) (k1 : ∀ W, Grew w W → W.cell? ⟨bf, 1, none⟩ = some v) :
    PredW w 193 #[.pointer (some ⟨bf, 0, none⟩)] A.length (fun x => decide ((mbs (nt A x)).length ≤ 1)) := by
  intro x W hx hW
  have y1 := k1 W hW
  have hlt : nt A x < 256 := Nat.lt_of_lt_of_le (hA.lt hx) (Nat.le_trans (Nat.pow_le_pow_right (by omega) h8) (by decide))
  have KC := Lib.hid (countMembers_c (nt A x) hlt)
  have hb := le_one_b (mbs (nt A x)).length
  show Calls Tryz.prog 193 #[.int .i64 (x : Int), .pointer (some ⟨bf, 0, none⟩)] W fun e W' => e = .returned (.bool (decide ((mbs (nt A x)).length ≤ 1))) ∧ Grew W W'
  obtain ⟨A', c, rfl⟩ := ints_sliceN h
  obtain ⟨b, o, rfl, hc1⟩ := cellsN h (by omega)
  have z1 := hc1 x hx W hW
  clear h k0 k1 hA hc1 hlt
  generalize (mbs (nt A x)).length = k at *
  generalize nt A x = m at *
  generalize A.length = n at *
  go_enter Tryz.func193, Tryz.ntmps193
  go_wp2_with fail
  refine (KC.out _).mono ?_
  rintro e w1 ⟨rfl, hw1⟩
  rw [hw1]
  clear hw1
  go_wp2_with fail
  go_ret
  exact ⟨by first | rfl | rw [← hb], Grew.refl _⟩
theorem irr_k (u : Value) (A : List Nat) (f : Nat → Nat) (br : Nat) (w : World) (hA : Rl A) (hu : Ints w u (zs ((List.range A.length).map f))) (hf : ∀ x, x < A.length → f x = nt A x)
    (k0 : ∀ W, Grew w W → W.cell? ⟨br, 0, none⟩ = some u) :
    PredW w 190 #[.pointer (some ⟨br, 0, none⟩)] A.length (fun x => !(nt A x).testBit x) := by
  intro x W hx hW
  have y0 := k0 W hW
  have hn := hA.1
  have KH := Lib.hid (has_q (nt A x) x (by have := hA.sm.at_ hx; omega) (by omega))
  have hlm : ((List.range A.length).map f).length = A.length := by simp
  have hfx : nt ((List.range A.length).map f) x = nt A x := by rw [← hf x hx]; simp [nt, List.getD, hx]
  show Calls Tryz.prog 190 #[.int .i64 (x : Int), .pointer (some ⟨br, 0, none⟩)] W fun e W' => e = .returned (.bool (!(nt A x).testBit x)) ∧ Grew W W'
  obtain ⟨A', c, rfl⟩ := ints_sliceN hu
  obtain ⟨b, o, rfl, hc1⟩ := cellsN hu (by omega)
  have z1 := hc1 x (by omega) W hW
  rw [hfx] at z1
  rw [hlm] at y0
  clear hu k0 hA hc1 hf hfx hlm
  generalize (nt A x).testBit x = t at *
  generalize nt A x = m at *
  generalize A.length = n at *
  go_enter Tryz.func190, Tryz.ntmps190
  go_wp2_with fail
  refine (KH.out _).mono ?_
  rintro e w1 ⟨rfl, hw1⟩
  rw [hw1]
  clear hw1
  go_wp2_with fail
  go_ret
  exact ⟨rfl, Grew.refl _⟩
theorem euc_k (v : Value) (A : List Nat) (bf : Nat) (w : World) (h : Ints w v (zs A)) (hA : Rl A) (k0 : ∀ W, Grew w W → W.cell? ⟨bf, 0, none⟩ = some (.int .i64 (A.length : Int))) (k1 : ∀ W, Grew w W → W.cell? ⟨bf, 1, none⟩ = some v) :
    PredP w 187 #[.pointer (some ⟨bf, 0, none⟩)] A.length (fun _ y z => (nt A y).testBit z) := by
  intro x y z W hx hy hz hW
  have y0 := k0 W hW
  have y1 := k1 W hW
  have hn := hA.1
  have KS := Lib.hid (sees_c A.length v A y z W (h.grew hW) hA.sm hy hn (by omega))
  show Calls Tryz.prog 187 #[.int .i64 (x : Int), .int .i64 (y : Int), .int .i64 (z : Int), .pointer (some ⟨bf, 0, none⟩)] W fun e W' => e = .returned (.bool ((nt A y).testBit z)) ∧ Grew W W'
  obtain ⟨A', c, rfl⟩ := ints_sliceN h
  clear h k0 k1 hA
  generalize (nt A y).testBit z = t at *
  generalize A.length = n at *
  go_enter Tryz.func187, Tryz.ntmps187
  go_wp2_with fail
  refine (KS.out).mono ?_
  rintro e w1 ⟨rfl, hg1⟩
  go_wp2_with fail
  go_ret
  exact ⟨rfl, hg1⟩
theorem con_k (v : Value) (A : List Nat) (bf : Nat) (w : World) (h : Ints w v (zs A)) (hA : Rl A) (k0 : ∀ W, Grew w W → W.cell? ⟨bf, 0, none⟩ = some (.int .i64 (A.length : Int))) (k1 : ∀ W, Grew w W → W.cell? ⟨bf, 1, none⟩ = some v) :
    PredP w 189 #[.pointer (some ⟨bf, 0, none⟩)] A.length (fun _ y z => (nt A y).testBit z || (nt A z).testBit y) := by
  intro x y z W hx hy hz hW
  have y0 := k0 W hW
  have y1 := k1 W hW
  have x0 := fun V (hV : Grew W V) => k0 V (hW.trans hV)
  have x1 := fun V (hV : Grew W V) => k1 V (hW.trans hV)
  have hn := hA.1
  have KS := Lib.hid (sees_c A.length v A y z W (h.grew hW) hA.sm hy hn (by omega))
  have KT := Lib.hid (fun V (hV : Grew W V) => sees_c A.length v A z y V (h.grew (hW.trans hV)) hA.sm hz hn (by omega))
  show Calls Tryz.prog 189 #[.int .i64 (x : Int), .int .i64 (y : Int), .int .i64 (z : Int), .pointer (some ⟨bf, 0, none⟩)] W fun e W' => e = .returned (.bool ((nt A y).testBit z || (nt A z).testBit y)) ∧ Grew W W'
  obtain ⟨A', c, rfl⟩ := ints_sliceN h
  clear h k0 k1 hA
  generalize (nt A z).testBit y = s at *
  generalize (nt A y).testBit z = t at *
  generalize A.length = n at *
  cases t with
  | true =>
    go_enter Tryz.func189, Tryz.ntmps189
    go_wp2_with fail
    refine (KS.out).mono ?_
    rintro e w1 ⟨rfl, hg1⟩
    go_wp2_with fail
    go_ret
    exact ⟨rfl, hg1⟩
  | false =>
    go_enter Tryz.func189, Tryz.ntmps189
    go_wp2_with fail
    refine (KS.out).mono ?_
    rintro e w1 ⟨rfl, hg1⟩
    have d0 := x0 w1 hg1
    have d1 := x1 w1 hg1
    go_wp2_with fail
    refine (KT.out _ hg1).mono ?_
    rintro e w2 ⟨rfl, hg2⟩
    go_wp2_with fail
    go_ret
    exact ⟨rfl, hg1.trans hg2⟩
theorem dir_k (v : Value) (A : List Nat) (bf : Nat) (w : World) (h : Ints w v (zs A)) (hA : Rl A) (k0 : ∀ W, Grew w W → W.cell? ⟨bf, 0, none⟩ = some (.int .i64 (A.length : Int))) (k1 : ∀ W, Grew w W → W.cell? ⟨bf, 1, none⟩ = some v) :
    PredP w 188 #[.pointer (some ⟨bf, 0, none⟩)] A.length (fun _ y z => !decide (nt A y &&& nt A z = 0)) := by
  intro x y z W hx hy hz hW
  have y0 := fun V (hV : Grew W V) => k0 V (hW.trans hV)
  have y1 := fun V (hV : Grew W V) => k1 V (hW.trans hV)
  have hb := ne_zero_b (nt A y &&& nt A z)
  have ha := and_i64 (nt A y) (nt A z) (by have := hA.sm.at_ hy; omega) (by have := hA.sm.at_ hz; omega)
  show Calls Tryz.prog 188 #[.int .i64 (x : Int), .int .i64 (y : Int), .int .i64 (z : Int), .pointer (some ⟨bf, 0, none⟩)] W fun e W' => e = .returned (.bool (!decide (nt A y &&& nt A z = 0))) ∧ Grew W W'
  rw [← hb]
  obtain ⟨A', c, rfl⟩ := ints_sliceN h
  obtain ⟨b, o, rfl, hc1⟩ := cellsN h (by omega)
  have z1 := fun V (hV : Grew W V) => hc1 y hy V (hW.trans hV)
  have z2 := fun V (hV : Grew W V) => hc1 z hz V (hW.trans hV)
  clear h k0 k1 hA hc1 hb
  generalize nt A y &&& nt A z = m at *
  generalize nt A y = p1 at *
  generalize nt A z = p2 at *
  generalize A.length = n at *
  have hi0 : (0 : Int) ≤ (y : Int) := by omega
  have hi6 : (y : Int) < (n : Int) := by omega
  have hj0 : (0 : Int) ≤ (z : Int) := by omega
  have hj6 : (z : Int) < (n : Int) := by omega
  have hr1 := Grew.refl W
  have hd1 := (Grew.refl W).drew
  go_enter Tryz.func188, Tryz.ntmps188
  go_wp2_with fail
  go_quiet (fail)
  go_wp2_with fail
  go_ret
  exact ⟨rfl, (Grew.refl _).drewN _⟩
theorem den_k (v u : Value) (A : List Nat) (f : Nat → Nat) (bf bb : Nat) (w : World) (h : Ints w v (zs A)) (hA : Rl A) (hu : Ints w u (zs ((List.range A.length).map f))) (hf : ∀ y, y < A.length → f y = invN A A.length y)
    (k0 : ∀ W, Grew w W → W.cell? ⟨bf, 0, none⟩ = some (.int .i64 (A.length : Int))) (k1 : ∀ W, Grew w W → W.cell? ⟨bf, 1, none⟩ = some v) (k2 : ∀ W, Grew w W → W.cell? ⟨bb, 0, none⟩ = some u) :
    PredP w 192 #[.pointer (some ⟨bf, 0, none⟩), .pointer (some ⟨bb, 0, none⟩)] A.length (fun x y _ => !decide (nt A x &&& invN A A.length y = 0)) := by
  intro x y z W hx hy hz hW
  have y0 := fun V (hV : Grew W V) => k0 V (hW.trans hV)
  have y1 := fun V (hV : Grew W V) => k1 V (hW.trans hV)
  have y2 := fun V (hV : Grew W V) => k2 V (hW.trans hV)
  have hil := Nat.lt_of_lt_of_le (invN_lt A y A.length) (pow30' hA.1)
  have hb := ne_zero_b (nt A x &&& invN A A.length y)
  have ha := and_i64 (nt A x) (invN A A.length y) (by have := hA.sm.at_ hx; omega) (by omega)
  have hlm : ((List.range A.length).map f).length = A.length := by simp
  have hfx : nt ((List.range A.length).map f) y = invN A A.length y := by rw [← hf y hy]; simp [nt, List.getD, hy]
  show Calls Tryz.prog 192 #[.int .i64 (x : Int), .int .i64 (y : Int), .int .i64 (z : Int), .pointer (some ⟨bf, 0, none⟩), .pointer (some ⟨bb, 0, none⟩)] W fun e W' => e = .returned (.bool (!decide (nt A x &&& invN A A.length y = 0))) ∧ Grew W W'
  rw [← hb]
  obtain ⟨A', c, rfl⟩ := ints_sliceN h
  obtain ⟨A2, c2, rfl⟩ := ints_sliceN hu
  obtain ⟨b, o, rfl, hc1⟩ := cellsN h (by omega)
  obtain ⟨b2, o2, rfl, hc2⟩ := cellsN hu (by omega)
  have z1 := fun V (hV : Grew W V) => hc1 x hx V (hW.trans hV)
  have z2 := fun V (hV : Grew W V) => hc2 y (by omega) V (hW.trans hV)
  rw [hfx] at z2
  rw [hlm] at y2
  clear h hu k0 k1 k2 hA hc1 hc2 hb hf hfx hlm hil
  generalize nt A x &&& invN A A.length y = m at *
  generalize invN A A.length y = p2 at *
  generalize nt A x = p1 at *
  generalize A.length = n at *
  have hi0 : (0 : Int) ≤ (x : Int) := by omega
  have hi6 : (x : Int) < (n : Int) := by omega
  have hj0 : (0 : Int) ≤ (y : Int) := by omega
  have hj6 : (y : Int) < (n : Int) := by omega
  have hr1 := Grew.refl W
  have hd1 := (Grew.refl W).drew
  go_enter Tryz.func192, Tryz.ntmps192
  go_wp2_with fail
  go_quiet (fail)
  go_wp2_with fail
  go_ret
  exact ⟨rfl, (Grew.refl _).drewN _⟩
theorem hasFlag1_c (v : Value) (A : List Nat) (w : World) (h : Ints w v (zs A)) (hA : Rl A) :
    Calls Tryz.prog 168 #[.agg #[.int .i64 (A.length : Int), v], .int .i64 1] w fun e w' => e = .returned (.bool (serB A)) ∧ Grew w w' := by
  have hal := (Grew.refl w).alloc (.cells #[.int .i64 (A.length : Int), v] 26)
  have HI := Lib.hid (inverse_c v A _ (h.grew hal) hA)
  have HG := Lib.hid hal
  have eg := enters_of Tryz.func184 (by kernel_rfl) rfl
  have y0 : ∀ W, Grew (w.alloc (.cells #[.int .i64 (A.length : Int), v] 26)) W → W.cell? ⟨w.heap.size, 0, none⟩ = some (.int .i64 (A.length : Int)) := fun W hW => (hW.cell (p := ⟨w.heap.size, 0, none⟩) (by simp)).trans (by simp)
  have y1 : ∀ W, Grew (w.alloc (.cells #[.int .i64 (A.length : Int), v] 26)) W → W.cell? ⟨w.heap.size, 1, none⟩ = some v := fun W hW => (hW.cell (p := ⟨w.heap.size, 1, none⟩) (by simp)).trans (by simp)
  have KE := Lib.hid (fun W (hW : Grew (w.alloc (.cells #[.int .i64 (A.length : Int), v] 26)) W) => everyWorld_c v A.length 184 #[.pointer (some ⟨w.heap.size, 0, none⟩)] _ W hA.1 (by obtain ⟨A', c, e⟩ := ints_slice h; exact ⟨_, _, _, e⟩) (ser_k v A w.heap.size _ (h.grew (hal.trans (hW.alloc _))) hA (fun V hV => y0 V ((hW.alloc _).trans hV)) (fun V hV => y1 V ((hW.alloc _).trans hV))) eg)
  rw [show allB A.length (fun x => !decide (nt A x = 0)) = serB A from rfl] at KE
  obtain ⟨A', c, rfl⟩ := ints_sliceN h
  clear h hA hal eg
  generalize serB A = R at *
  generalize A.length = n at *
  go_enter Tryz.func168, Tryz.ntmps168
  go_wp2_with fail
  refine (HI.out).mono ?_
  rintro e w1 ⟨g, cc, f, rfl, hR, hK, hgg, hg1⟩
  clear hK hR
  have hg2 := hg1.alloc (.cells #[.slice (some ⟨g, 0, none⟩) n cc] 24)
  go_wp2_with fail
  refine (KE.out _ hg2).mono ?_
  rintro e w2 ⟨rfl, hg3⟩
  go_wp2_with fail
  go_ret
  exact ⟨rfl, HG.out.trans (hg2.trans hg3)⟩
theorem hasFlag10_c (v : Value) (A : List Nat) (w : World) (h : Ints w v (zs A)) (hA : Rl A) (h8 : A.length ≤ 8) :
    Calls Tryz.prog 168 #[.agg #[.int .i64 (A.length : Int), v], .int .i64 10] w fun e w' => e = .returned (.bool (funB A)) ∧ Grew w w' := by
  have hal := (Grew.refl w).alloc (.cells #[.int .i64 (A.length : Int), v] 26)
  have HI := Lib.hid (inverse_c v A _ (h.grew hal) hA)
  have HG := Lib.hid hal
  have eg := enters_of Tryz.func193 (by kernel_rfl) rfl
  have y0 : ∀ W, Grew (w.alloc (.cells #[.int .i64 (A.length : Int), v] 26)) W → W.cell? ⟨w.heap.size, 0, none⟩ = some (.int .i64 (A.length : Int)) := fun W hW => (hW.cell (p := ⟨w.heap.size, 0, none⟩) (by simp)).trans (by simp)
  have y1 : ∀ W, Grew (w.alloc (.cells #[.int .i64 (A.length : Int), v] 26)) W → W.cell? ⟨w.heap.size, 1, none⟩ = some v := fun W hW => (hW.cell (p := ⟨w.heap.size, 1, none⟩) (by simp)).trans (by simp)
  have KE := Lib.hid (fun W (hW : Grew (w.alloc (.cells #[.int .i64 (A.length : Int), v] 26)) W) => everyWorld_c v A.length 193 #[.pointer (some ⟨w.heap.size, 0, none⟩)] _ W hA.1 (by obtain ⟨A', c, e⟩ := ints_slice h; exact ⟨_, _, _, e⟩) (fun_k v A w.heap.size _ (h.grew (hal.trans (hW.alloc _))) hA h8 (fun V hV => y0 V ((hW.alloc _).trans hV)) (fun V hV => y1 V ((hW.alloc _).trans hV))) eg)
  rw [show allB A.length (fun x => decide ((mbs (nt A x)).length ≤ 1)) = funB A from rfl] at KE
  obtain ⟨A', c, rfl⟩ := ints_sliceN h
  clear h hA hal eg
  generalize funB A = R at *
  generalize A.length = n at *
  go_enter Tryz.func168, Tryz.ntmps168
  go_wp2_with fail
  refine (HI.out).mono ?_
  rintro e w1 ⟨g, cc, f, rfl, hR, hK, hgg, hg1⟩
  clear hK hR
  have hg2 := hg1.alloc (.cells #[.slice (some ⟨g, 0, none⟩) n cc] 24)
  go_wp2_with fail
  refine (KE.out _ hg2).mono ?_
  rintro e w2 ⟨rfl, hg3⟩
  go_wp2_with fail
  go_ret
  exact ⟨rfl, HG.out.trans (hg2.trans hg3)⟩
theorem hasFlag4_c (v : Value) (A : List Nat) (w : World) (h : Ints w v (zs A)) (hA : Rl A) :
    Calls Tryz.prog 168 #[.agg #[.int .i64 (A.length : Int), v], .int .i64 4] w fun e w' => e = .returned (.bool (eucB A)) ∧ Grew w w' := by
  have hal := (Grew.refl w).alloc (.cells #[.int .i64 (A.length : Int), v] 26)
  have HI := Lib.hid (inverse_c v A _ (h.grew hal) hA)
  have HG := Lib.hid hal
  have eg := enters_of Tryz.func187 (by kernel_rfl) rfl
  have y0 : ∀ W, Grew (w.alloc (.cells #[.int .i64 (A.length : Int), v] 26)) W → W.cell? ⟨w.heap.size, 0, none⟩ = some (.int .i64 (A.length : Int)) := fun W hW => (hW.cell (p := ⟨w.heap.size, 0, none⟩) (by simp)).trans (by simp)
  have y1 : ∀ W, Grew (w.alloc (.cells #[.int .i64 (A.length : Int), v] 26)) W → W.cell? ⟨w.heap.size, 1, none⟩ = some v := fun W hW => (hW.cell (p := ⟨w.heap.size, 1, none⟩) (by simp)).trans (by simp)
  have KE := Lib.hid (fun W (hW : Grew (w.alloc (.cells #[.int .i64 (A.length : Int), v] 26)) W) => everyPair_c v A 187 #[.pointer (some ⟨w.heap.size, 0, none⟩)] (fun _ y z => (nt A y).testBit z) W (h.grew (hal.trans hW)) hA (euc_k v A w.heap.size _ (h.grew (hal.trans (hW.alloc _))) hA (fun V hV => y0 V ((hW.alloc _).trans hV)) (fun V hV => y1 V ((hW.alloc _).trans hV))) eg)
  rw [show pairB A (fun _ y z => (nt A y).testBit z) = eucB A from rfl] at KE
  obtain ⟨A', c, rfl⟩ := ints_sliceN h
  clear h hA hal eg
  generalize eucB A = R at *
  generalize A.length = n at *
  go_enter Tryz.func168, Tryz.ntmps168
  go_wp2_with fail
  refine (HI.out).mono ?_
  rintro e w1 ⟨g, cc, f, rfl, hR, hK, hgg, hg1⟩
  clear hK hR
  have hg2 := hg1.alloc (.cells #[.slice (some ⟨g, 0, none⟩) n cc] 24)
  go_wp2_with fail
  refine (KE.out _ hg2).mono ?_
  rintro e w2 ⟨rfl, hg3⟩
  go_wp2_with fail
  go_ret
  exact ⟨rfl, HG.out.trans (hg2.trans hg3)⟩
theorem hasFlag5_c (v : Value) (A : List Nat) (w : World) (h : Ints w v (zs A)) (hA : Rl A) :
    Calls Tryz.prog 168 #[.agg #[.int .i64 (A.length : Int), v], .int .i64 5] w fun e w' => e = .returned (.bool (dirB A)) ∧ Grew w w' := by
  have hal := (Grew.refl w).alloc (.cells #[.int .i64 (A.length : Int), v] 26)
  have HI := Lib.hid (inverse_c v A _ (h.grew hal) hA)
  have HG := Lib.hid hal
  have eg := enters_of Tryz.func188 (by kernel_rfl) rfl
  have y0 : ∀ W, Grew (w.alloc (.cells #[.int .i64 (A.length : Int), v] 26)) W → W.cell? ⟨w.heap.size, 0, none⟩ = some (.int .i64 (A.length : Int)) := fun W hW => (hW.cell (p := ⟨w.heap.size, 0, none⟩) (by simp)).trans (by simp)
  have y1 : ∀ W, Grew (w.alloc (.cells #[.int .i64 (A.length : Int), v] 26)) W → W.cell? ⟨w.heap.size, 1, none⟩ = some v := fun W hW => (hW.cell (p := ⟨w.heap.size, 1, none⟩) (by simp)).trans (by simp)
  have KE := Lib.hid (fun W (hW : Grew (w.alloc (.cells #[.int .i64 (A.length : Int), v] 26)) W) => everyPair_c v A 188 #[.pointer (some ⟨w.heap.size, 0, none⟩)] (fun _ y z => !decide (nt A y &&& nt A z = 0)) W (h.grew (hal.trans hW)) hA (dir_k v A w.heap.size _ (h.grew (hal.trans (hW.alloc _))) hA (fun V hV => y0 V ((hW.alloc _).trans hV)) (fun V hV => y1 V ((hW.alloc _).trans hV))) eg)
  rw [show pairB A (fun _ y z => !decide (nt A y &&& nt A z = 0)) = dirB A from rfl] at KE
  obtain ⟨A', c, rfl⟩ := ints_sliceN h
  clear h hA hal eg
  generalize dirB A = R at *
  generalize A.length = n at *
  go_enter Tryz.func168, Tryz.ntmps168
  go_wp2_with fail
  refine (HI.out).mono ?_
  rintro e w1 ⟨g, cc, f, rfl, hR, hK, hgg, hg1⟩
  clear hK hR
  have hg2 := hg1.alloc (.cells #[.slice (some ⟨g, 0, none⟩) n cc] 24)
  go_wp2_with fail
  refine (KE.out _ hg2).mono ?_
  rintro e w2 ⟨rfl, hg3⟩
  go_wp2_with fail
  go_ret
  exact ⟨rfl, HG.out.trans (hg2.trans hg3)⟩
theorem hasFlag6_c (v : Value) (A : List Nat) (w : World) (h : Ints w v (zs A)) (hA : Rl A) :
    Calls Tryz.prog 168 #[.agg #[.int .i64 (A.length : Int), v], .int .i64 6] w fun e w' => e = .returned (.bool (conB A)) ∧ Grew w w' := by
  have hal := (Grew.refl w).alloc (.cells #[.int .i64 (A.length : Int), v] 26)
  have HI := Lib.hid (inverse_c v A _ (h.grew hal) hA)
  have HG := Lib.hid hal
  have eg := enters_of Tryz.func189 (by kernel_rfl) rfl
  have y0 : ∀ W, Grew (w.alloc (.cells #[.int .i64 (A.length : Int), v] 26)) W → W.cell? ⟨w.heap.size, 0, none⟩ = some (.int .i64 (A.length : Int)) := fun W hW => (hW.cell (p := ⟨w.heap.size, 0, none⟩) (by simp)).trans (by simp)
  have y1 : ∀ W, Grew (w.alloc (.cells #[.int .i64 (A.length : Int), v] 26)) W → W.cell? ⟨w.heap.size, 1, none⟩ = some v := fun W hW => (hW.cell (p := ⟨w.heap.size, 1, none⟩) (by simp)).trans (by simp)
  have KE := Lib.hid (fun W (hW : Grew (w.alloc (.cells #[.int .i64 (A.length : Int), v] 26)) W) => everyPair_c v A 189 #[.pointer (some ⟨w.heap.size, 0, none⟩)] (fun _ y z => (nt A y).testBit z || (nt A z).testBit y) W (h.grew (hal.trans hW)) hA (con_k v A w.heap.size _ (h.grew (hal.trans (hW.alloc _))) hA (fun V hV => y0 V ((hW.alloc _).trans hV)) (fun V hV => y1 V ((hW.alloc _).trans hV))) eg)
  rw [show pairB A (fun _ y z => (nt A y).testBit z || (nt A z).testBit y) = conB A from rfl] at KE
  obtain ⟨A', c, rfl⟩ := ints_sliceN h
  clear h hA hal eg
  generalize conB A = R at *
  generalize A.length = n at *
  go_enter Tryz.func168, Tryz.ntmps168
  go_wp2_with fail
  refine (HI.out).mono ?_
  rintro e w1 ⟨g, cc, f, rfl, hR, hK, hgg, hg1⟩
  clear hK hR
  have hg2 := hg1.alloc (.cells #[.slice (some ⟨g, 0, none⟩) n cc] 24)
  go_wp2_with fail
  refine (KE.out _ hg2).mono ?_
  rintro e w2 ⟨rfl, hg3⟩
  go_wp2_with fail
  go_ret
  exact ⟨rfl, HG.out.trans (hg2.trans hg3)⟩
theorem hasFlag9_c (v : Value) (A : List Nat) (w : World) (h : Ints w v (zs A)) (hA : Rl A) :
    Calls Tryz.prog 168 #[.agg #[.int .i64 (A.length : Int), v], .int .i64 9] w fun e w' => e = .returned (.bool (denB A)) ∧ Grew w w' := by
  have hal := (Grew.refl w).alloc (.cells #[.int .i64 (A.length : Int), v] 26)
  have HI := Lib.hid (inverse_c v A _ (h.grew hal) hA)
  have HG := Lib.hid hal
  have eg := enters_of Tryz.func192 (by kernel_rfl) rfl
  have y0 : ∀ W, Grew (w.alloc (.cells #[.int .i64 (A.length : Int), v] 26)) W → W.cell? ⟨w.heap.size, 0, none⟩ = some (.int .i64 (A.length : Int)) := fun W hW => (hW.cell (p := ⟨w.heap.size, 0, none⟩) (by simp)).trans (by simp)
  have y1 : ∀ W, Grew (w.alloc (.cells #[.int .i64 (A.length : Int), v] 26)) W → W.cell? ⟨w.heap.size, 1, none⟩ = some v := fun W hW => (hW.cell (p := ⟨w.heap.size, 1, none⟩) (by simp)).trans (by simp)
  have KE := Lib.hid (fun w1 (hg1 : Grew (w.alloc (.cells #[.int .i64 (A.length : Int), v] 26)) w1) g cc f (hR : NRow w1 g A.length cc f) (hK : Bk (nt A) A.length A.length 0 f) W (hW : Grew (w1.alloc (.cells #[.slice (some ⟨g, 0, none⟩) A.length cc] 24)) W) => by
    have hga := hg1.alloc (.cells #[.slice (some ⟨g, 0, none⟩) A.length cc] 24)
    have y2 : ∀ V, Grew W V → V.cell? ⟨w1.heap.size, 0, none⟩ = some (.slice (some ⟨g, 0, none⟩) A.length cc) := fun V hV => ((hW.trans hV).cell (p := ⟨w1.heap.size, 0, none⟩) (by simp)).trans (by simp)
    have K := everyPair_c v A 192 #[.pointer (some ⟨w.heap.size, 0, none⟩), .pointer (some ⟨w1.heap.size, 0, none⟩)] (fun x y _ => !decide (nt A x &&& invN A A.length y = 0)) W (h.grew (hal.trans (hga.trans hW))) hA
      (den_k v _ A f w.heap.size w1.heap.size _ (h.grew (hal.trans ((hga.trans hW).alloc _))) hA ((hR.ints.grew (((Grew.refl w1).alloc _).trans hW)).grew ((Grew.refl W).alloc _)) (fun y hy => inv_eq hK hy) (fun V hV => y0 V (((hga.trans hW).alloc _).trans hV)) (fun V hV => y1 V (((hga.trans hW).alloc _).trans hV)) (fun V hV => y2 V (((Grew.refl W).alloc _).trans hV))) eg
    rw [show pairB A (fun x y _ => !decide (nt A x &&& invN A A.length y = 0)) = denB A from rfl] at K
    exact K)
  obtain ⟨A', c, rfl⟩ := ints_sliceN h
  clear h hA hal eg
  generalize denB A = R at *
  generalize A.length = n at *
  go_enter Tryz.func168, Tryz.ntmps168
  go_wp2_with fail
  refine (HI.out).mono ?_
  rintro e w1 ⟨g, cc, f, rfl, hR, hK, hgg, hg1⟩
  have KF := Lib.hid (KE.out w1 hg1 g cc f hR hK)
  clear hK hR KE
  have hg2 := hg1.alloc (.cells #[.slice (some ⟨g, 0, none⟩) n cc] 24)
  go_wp2_with fail
  refine (KF.out _ (Grew.refl _)).mono ?_
  rintro e w2 ⟨rfl, hg3⟩
  go_wp2_with fail
  go_ret
  exact ⟨rfl, HG.out.trans (hg2.trans hg3)⟩
theorem hasFlag3_c (v : Value) (A : List Nat) (w : World) (h : Ints w v (zs A)) (hA : Rl A) :
    Calls Tryz.prog 168 #[.agg #[.int .i64 (A.length : Int), v], .int .i64 3] w fun e w' => e = .returned (.bool (symB A)) ∧ Grew w w' := by
  have hal := (Grew.refl w).alloc (.cells #[.int .i64 (A.length : Int), v] 26)
  have HI := Lib.hid (inverse_c v A _ (h.grew hal) hA)
  have HG := Lib.hid hal
  have y1 : ∀ W, Grew (w.alloc (.cells #[.int .i64 (A.length : Int), v] 26)) W → W.cell? ⟨w.heap.size, 1, none⟩ = some v := fun W hW => (hW.cell (p := ⟨w.heap.size, 1, none⟩) (by simp)).trans (by simp)
  have KQ := Lib.hid (fun W (hW : Grew w W) u L (hu : Ints W u L) (hl : L.length = (zs A).length) => equalR_c u v L (zs A) W hu (h.grew hW) hl)
  have HSE := Lib.hid (fun f h => @sym_eq A hA f h)
  obtain ⟨A', c, rfl⟩ := ints_sliceN h
  clear h hA hal
  rw [zs_len] at KQ
  generalize symB A = R at *
  generalize A.length = n at *
  go_enter Tryz.func168, Tryz.ntmps168
  go_wp2_with fail
  refine (HI.out).mono ?_
  rintro e w1 ⟨g, cc, f, rfl, hR, hK, hgg, hg1⟩
  have hg2 := hg1.alloc (.cells #[.slice (some ⟨g, 0, none⟩) n cc] 24)
  have hi2 := hR.ints.grew ((Grew.refl w1).alloc (.cells #[.slice (some ⟨g, 0, none⟩) n cc] 24))
  have KE := Lib.hid (KQ.out _ (HG.out.trans hg2) _ _ hi2 (by rw [zs_len]; simp))
  rw [HSE.out f hK] at KE
  have z1 := y1 _ hg2
  clear hK hR hi2
  go_wp2_with fail
  refine (KE.out).mono ?_
  rintro e w2 ⟨rfl, hg3⟩
  go_wp2_with fail
  go_ret
  exact ⟨rfl, HG.out.trans (hg2.trans hg3)⟩
theorem hasFlag7_c (v : Value) (A : List Nat) (w : World) (h : Ints w v (zs A)) (hA : Rl A) (hT : Trn A) :
    Calls Tryz.prog 168 #[.agg #[.int .i64 (A.length : Int), v], .int .i64 7] w fun e w' => e = .returned (.bool (irrB A)) ∧ Grew w w' := by
  have hal := (Grew.refl w).alloc (.cells #[.int .i64 (A.length : Int), v] 26)
  have HI := Lib.hid (inverse_c v A _ (h.grew hal) hA)
  have HG := Lib.hid hal
  have eg := enters_of Tryz.func190 (by kernel_rfl) rfl
  have y0 : ∀ W, Grew (w.alloc (.cells #[.int .i64 (A.length : Int), v] 26)) W → W.cell? ⟨w.heap.size, 0, none⟩ = some (.int .i64 (A.length : Int)) := fun W hW => (hW.cell (p := ⟨w.heap.size, 0, none⟩) (by simp)).trans (by simp)
  have y1 : ∀ W, Grew (w.alloc (.cells #[.int .i64 (A.length : Int), v] 26)) W → W.cell? ⟨w.heap.size, 1, none⟩ = some v := fun W hW => (hW.cell (p := ⟨w.heap.size, 1, none⟩) (by simp)).trans (by simp)
  have hvs : ∃ X m c, v = .slice X m c := by obtain ⟨A', c, e⟩ := ints_slice h; exact ⟨_, _, _, e⟩
  have KT : Hid (∀ W, Grew w W → Calls Tryz.prog 185 #[v] W fun e w' => ∃ u f, e = .returned u ∧ (∃ X m c, u = .slice X m c) ∧ Ints w' u (zs ((List.range A.length).map f)) ∧ (∀ x, x < A.length → f x = nt A x) ∧ Grew W w') := Lib.hid (fun W hW => by
    rcases Nat.eq_zero_or_pos A.length with h0 | h0
    · refine (transitive_t v A W (h.grew hW) hA).mono ?_
      rintro e w' ⟨u, L, rfl, hu, hl, _, hg⟩
      obtain ⟨X, c, e2⟩ := ints_slice hu
      have hL : L = [] := List.eq_nil_of_length_eq_zero (by rw [hl, zs_len, h0])
      exact ⟨u, fun _ => 0, rfl, ⟨_, _, _, e2⟩, by rw [show zs ((List.range A.length).map fun _ => 0) = L from by rw [hL, h0]; rfl]; exact hu, fun x hx => absurd hx (by omega), hg⟩
    · refine (transitive_c v A W (h.grew hW) hA h0).mono ?_
      rintro e w' ⟨g, c, f, rfl, hR, hK, _, hg⟩
      exact ⟨_, f, rfl, ⟨_, _, _, rfl⟩, hR.ints, hK.2.2 hT, hg⟩)
  have KE := Lib.hid (fun w1 (u : Value) (f : Nat → Nat) (hu : Ints w1 u (zs ((List.range A.length).map f))) (hf : ∀ x, x < A.length → f x = nt A x) W (hW : Grew (w1.alloc (.cells #[u] 24)) W) => by
    have y2 : ∀ V, Grew W V → V.cell? ⟨w1.heap.size, 0, none⟩ = some u := fun V hV => ((hW.trans hV).cell (p := ⟨w1.heap.size, 0, none⟩) (by simp)).trans (by simp)
    have K := everyWorld_c v A.length 190 #[.pointer (some ⟨w1.heap.size, 0, none⟩)] _ W hA.1 hvs
      (irr_k u A f w1.heap.size _ hA ((hu.grew (((Grew.refl w1).alloc _).trans hW)).grew ((Grew.refl W).alloc _)) hf (fun V hV => y2 V (((Grew.refl W).alloc _).trans hV))) eg
    rw [show allB A.length (fun x => !(nt A x).testBit x) = irrB A from rfl] at K
    exact K)
  obtain ⟨A', c, rfl⟩ := ints_sliceN h
  clear h hA hal eg hvs
  generalize irrB A = R at *
  generalize A.length = n at *
  go_enter Tryz.func168, Tryz.ntmps168
  go_wp2_with fail
  refine (HI.out).mono ?_
  rintro e w1 ⟨g, cc, f, rfl, hR, hK, hgg, hg1⟩
  clear hK hR
  have hg2 := hg1.alloc (.cells #[.slice (some ⟨g, 0, none⟩) n cc] 24)
  have z1 := y1 _ hg2
  generalize hw2 : w1.alloc (.cells #[.slice (some ⟨g, 0, none⟩) n cc] 24) = w2 at *
  go_wp2_with fail
  (try simp only [hw2])
  clear hw2
  refine (KT.out _ (HG.out.trans hg2)).mono ?_
  rintro e w3 ⟨u, f3, rfl, ⟨X, m, c3, rfl⟩, hu, hf, hg3⟩
  have hga := (hg2.trans hg3).alloc (.cells #[.slice X m c3] 24)
  have KF := Lib.hid (KE.out w3 _ f3 hu hf)
  have q0 := y0 _ hga
  have q1 := y1 _ hga
  clear hu hf KE
  go_wp2_with fail
  refine (KF.out _ (Grew.refl _)).mono ?_
  rintro e w4 ⟨rfl, hg4⟩
  go_wp2_with fail
  go_ret
  exact ⟨rfl, HG.out.trans (hga.trans hg4)⟩
end Go.Proofs.YtpfncncohnhanaaGreatDoor

/- The conditions of the axioms in the program: flagCondition and its closures. -/
namespace Go.Proofs.YtpfncncohnhanaaGreatDoor
open Go.RowKit

theorem indexHead_c (v : Value) (x : Int) (L : List Int) (f : Nat) (caps : Array Value) (w : World) (h : Ints w v (x :: L)) (hf : ∀ W, Grew w W → Calls Tryz.prog f (#[.int .i64 x] ++ caps) W fun e W' => e = .returned (.bool true) ∧ Grew W W') (eg : ∀ args w, (callFunc f args).run Tryz.prog w = .ok (.enter f args) w) :
    Calls Tryz.prog 165 #[v, .func (.func f) #[] caps] w fun e w' => e = .returned (.int .i64 0) ∧ Grew w w' := by
  obtain ⟨A, c, rfl⟩ := ints_slice h
  have HC := Lib.hid (fun h0 => cellsI h h0)
  have HF := Lib.hid (hf w (Grew.refl w))
  obtain ⟨b, o, rfl, hcell⟩ := HC.out (by simp)
  have k1 := hcell 0 (by simp) w (Grew.refl w)
  have k1 : w.cell? ⟨b, o, none⟩ = some (.int .i64 x) := k1
  have hl : 0 < (x :: L).length := by simp
  clear h hf HC hcell
  generalize (x :: L).length = n at *
  have hn : (0 : Int) < (n : Int) := by omega
  go_enter Tryz.func165, Tryz.ntmps165
  go_wp2_with fail
  refine wp_loop_rounds 1 ?_; rw [rounds_succ]
  go_wp2_with fail
  refine (HF.out).mono ?_
  rintro e w1 ⟨rfl, hg1⟩
  go_wp2_with fail
  go_ret
  exact ⟨rfl, hg1⟩
theorem containsHead_c (v : Value) (x : Int) (L : List Int) (f : Nat) (caps : Array Value) (w : World) (h : Ints w v (x :: L)) (hf : ∀ W, Grew w W → Calls Tryz.prog f (#[.int .i64 x] ++ caps) W fun e W' => e = .returned (.bool true) ∧ Grew W W') (eg : ∀ args w, (callFunc f args).run Tryz.prog w = .ok (.enter f args) w) :
    Calls Tryz.prog 129 #[v, .func (.func f) #[] caps] w fun e w' => e = .returned (.bool true) ∧ Grew w w' := by
  have HI := Lib.hid (indexHead_c v x L f caps w h hf eg)
  obtain ⟨A, c, rfl⟩ := ints_slice h
  clear h hf eg
  generalize (x :: L).length = n at *
  go_enter Tryz.func129, Tryz.ntmps129
  go_wp2_with fail
  refine HI.out.mono ?_
  rintro e w1 ⟨rfl, hg1⟩
  go_wp2_with fail
  go_ret
  exact ⟨rfl, hg1⟩
/-- A condition on flags, as the program keeps it. -/
theorem flagCondition_c (v : Value) (w : World) (hv : ∃ A m c, v = .slice A m c) :
    Calls Tryz.prog 132 #[v] w fun e w' => ∃ bl, e = .returned (.func (.func 166) #[] #[.pointer (some ⟨bl, 0, none⟩)]) ∧ w'.cell? ⟨bl, 0, none⟩ = some v ∧ w.heap.size ≤ bl ∧ bl < w'.heap.size ∧ Grew w w' := by
  obtain ⟨A, m, c, rfl⟩ := hv
  have hb := blk_new w (.cells #[.slice A m c] 24)
  have hg := (Grew.refl w).alloc (.cells #[.slice A m c] 24)
  have H := Lib.hid (And.intro hb hg)
  clear hb hg
  go_enter Tryz.func132, Tryz.ntmps132
  go_wp2_with fail
  go_ret
  exact ⟨_, rfl, by rw [blk_cell H.out.1]; rfl, Nat.le_refl _, blk_lt H.out.1, H.out.2⟩
theorem flag11_k (v : Value) (n : Int) (b : Bool) (x : Int) (bf : Nat) (w : World) (hv : ∃ A m c, v = .slice A m c) (k0 : w.cell? ⟨bf, 0, none⟩ = some (.int .i64 n)) (k1 : w.cell? ⟨bf, 1, none⟩ = some v)
    (hf : Calls Tryz.prog 168 #[.agg #[.int .i64 n, v], .int .i64 x] w fun e w' => e = .returned (.bool b) ∧ Grew w w') :
    Calls Tryz.prog 167 #[.int .i64 x, .pointer (some ⟨bf, 0, none⟩)] w fun e w' => e = .returned (.bool (!b)) ∧ Grew w w' := by
  obtain ⟨A, m, c, rfl⟩ := hv
  have HF := Lib.hid hf
  clear hf
  go_enter Tryz.func167, Tryz.ntmps167
  go_wp2_with fail
  refine HF.out.mono ?_
  rintro e w1 ⟨rfl, hg1⟩
  go_wp2_with fail
  go_ret
  exact ⟨rfl, hg1⟩
theorem any_not {L : List Int} {p : Int → Bool} : (!L.any fun x => !p x) = L.all p := not_any p L
/-- All flags of a list hold, where each can be asked. -/
theorem flag1_all (v u : Value) (n : Int) (L : List Int) (p : Int → Bool) (bl : Nat) (w : World) (hv : ∃ A m c, v = .slice A m c) (hl : w.cell? ⟨bl, 0, none⟩ = some u) (hbl : bl < w.heap.size) (hu : Ints w u L)
    (hp : ∀ x ∈ L, ∀ W, Grew w W → Calls Tryz.prog 168 #[.agg #[.int .i64 n, v], .int .i64 x] W fun e W' => e = .returned (.bool (p x)) ∧ Grew W W') :
    Calls Tryz.prog 166 #[.agg #[.int .i64 n, v], .pointer (some ⟨bl, 0, none⟩)] w fun e w' => e = .returned (.bool (L.all p)) ∧ Grew w w' := by
  have hvs := hv
  obtain ⟨A, m, c, rfl⟩ := hv
  obtain ⟨w1, hw1⟩ : ∃ w1, w1 = w.alloc (.cells #[.int .i64 n, .slice A m c] 26) := ⟨_, rfl⟩
  have hal : Grew w w1 := by rw [hw1]; exact (Grew.refl w).alloc _
  have hb0 : w1.heap[w.heap.size]? = some (.cells #[.int .i64 n, .slice A m c] 26 (0, 0)) := by rw [hw1]; exact blk_new w _
  have eg := enters_of Tryz.func167 (by kernel_rfl) rfl
  have HC := Lib.hid (containsFuncI_c u L 167 #[.pointer (some ⟨w.heap.size, 0, none⟩)] (fun x => !p x) w1 (hu.grew hal) (fun x W hx hW => flag11_k _ n (p x) x w.heap.size W hvs (by rw [blk_cell ((hW.block (blk_lt hb0)).trans hb0)]; rfl) (by rw [blk_cell ((hW.block (blk_lt hb0)).trans hb0)]; rfl) (hp x hx W (hal.trans hW))) eg)
  have k1 := (hal.cell (p := ⟨bl, 0, none⟩) hbl).trans hl
  have HN := Lib.hid (@any_not L p)
  have HAL := Lib.hid hal
  obtain ⟨X, cx, rfl⟩ := ints_slice hu
  clear hu hp hb0 hvs hl hal eg
  generalize L.any (fun x => !p x) = R at *
  generalize L.length = l at *
  rw [hw1] at k1
  go_enter Tryz.func166, Tryz.ntmps166
  go_wp2_with fail
  simp only [← hw1]
  clear hw1 k1
  refine HC.out.mono ?_
  rintro e w2 ⟨rfl, hg2⟩
  go_wp2_with fail
  go_ret
  exact ⟨by rw [← HN.out]; rfl, HAL.out.trans hg2⟩
/-- The first flag of a list does not hold. -/
theorem flag1_head (v u : Value) (n : Int) (x : Int) (L : List Int) (bl : Nat) (w : World) (hv : ∃ A m c, v = .slice A m c) (hl : w.cell? ⟨bl, 0, none⟩ = some u) (hbl : bl < w.heap.size) (hu : Ints w u (x :: L))
    (hp : ∀ W, Grew w W → Calls Tryz.prog 168 #[.agg #[.int .i64 n, v], .int .i64 x] W fun e W' => e = .returned (.bool false) ∧ Grew W W') :
    Calls Tryz.prog 166 #[.agg #[.int .i64 n, v], .pointer (some ⟨bl, 0, none⟩)] w fun e w' => e = .returned (.bool false) ∧ Grew w w' := by
  have hvs := hv
  obtain ⟨A, m, c, rfl⟩ := hv
  obtain ⟨w1, hw1⟩ : ∃ w1, w1 = w.alloc (.cells #[.int .i64 n, .slice A m c] 26) := ⟨_, rfl⟩
  have hal : Grew w w1 := by rw [hw1]; exact (Grew.refl w).alloc _
  have hb0 : w1.heap[w.heap.size]? = some (.cells #[.int .i64 n, .slice A m c] 26 (0, 0)) := by rw [hw1]; exact blk_new w _
  have eg := enters_of Tryz.func167 (by kernel_rfl) rfl
  have HC := Lib.hid (containsHead_c u x L 167 #[.pointer (some ⟨w.heap.size, 0, none⟩)] w1 (hu.grew hal) (fun W hW => flag11_k _ n false x w.heap.size W hvs (by rw [blk_cell ((hW.block (blk_lt hb0)).trans hb0)]; rfl) (by rw [blk_cell ((hW.block (blk_lt hb0)).trans hb0)]; rfl) (hp W (hal.trans hW))) eg)
  have k1 := (hal.cell (p := ⟨bl, 0, none⟩) hbl).trans hl
  have HAL := Lib.hid hal
  obtain ⟨X, cx, rfl⟩ := ints_slice hu
  clear hu hp hb0 hvs hl hal eg
  generalize (x :: L).length = l at *
  rw [hw1] at k1
  go_enter Tryz.func166, Tryz.ntmps166
  go_wp2_with fail
  simp only [← hw1]
  clear hw1 k1
  refine HC.out.mono ?_
  rintro e w2 ⟨rfl, hg2⟩
  go_wp2_with fail
  go_ret
  exact ⟨rfl, HAL.out.trans hg2⟩
theorem ints_lit1 (B : Nat) (w : World) (a : Int) (hB : B ≤ w.heap.size) : OwnI (w.alloc (.cells #[.int .i64 a] 2)) B (.slice (some ⟨w.heap.size, 0, none⟩) 1 1) [a] :=
  (OwnI.mk_ hB (blk_new w _) (by simp) (by simp) (by simp) (fun i hi => by
    have : i = 0 := by simp at hi; omega
    subst this; rfl))
theorem ints_lit2 (B : Nat) (w : World) (a b : Int) (hB : B ≤ w.heap.size) : OwnI (w.alloc (.cells #[.int .i64 a, .int .i64 b] 2)) B (.slice (some ⟨w.heap.size, 0, none⟩) 2 2) [a, b] :=
  (OwnI.mk_ hB (blk_new w _) (by simp) (by simp) (by simp) (fun i hi => by
    have : i = 0 ∨ i = 1 := by simp at hi; omega
    rcases this with rfl | rfl <;> rfl))
theorem ints_lit3 (B : Nat) (w : World) (a b c : Int) (hB : B ≤ w.heap.size) : OwnI (w.alloc (.cells #[.int .i64 a, .int .i64 b, .int .i64 c] 2)) B (.slice (some ⟨w.heap.size, 0, none⟩) 3 3) [a, b, c] :=
  (OwnI.mk_ hB (blk_new w _) (by simp) (by simp) (by simp) (fun i hi => by
    have : i = 0 ∨ i = 1 ∨ i = 2 := by simp at hi; omega
    rcases this with rfl | rfl | rfl <;> rfl))
/-- A cell that holds a list of flags. -/
def FlagsAt (w : World) (B bl : Nat) (L : List Int) : Prop := ∃ u, w.cell? ⟨bl, 0, none⟩ = some u ∧ B ≤ bl ∧ bl < w.heap.size ∧ OwnI w B u L
theorem FlagsAt.grew {w w' : World} {B bl : Nat} {L : List Int} (h : FlagsAt w B bl L) (hg : Grew w w') : FlagsAt w' B bl L := by
  obtain ⟨u, h1, hB, h2, h3⟩ := h
  exact ⟨u, (hg.cell (p := ⟨bl, 0, none⟩) h2).trans h1, hB, Nat.lt_of_lt_of_le h2 hg.size, h3.grew hg⟩
theorem FlagsAt.only {w w' : World} {B bl g : Nat} {L : List Int} (h : FlagsAt w B bl L) (hg : Only g w w') (hB : g < B) : FlagsAt w' B bl L := by
  obtain ⟨u, h1, hB2, h2, h3⟩ := h
  exact ⟨u, (hg.cell (p := ⟨bl, 0, none⟩) h2 (by show bl ≠ g; omega)).trans h1, hB2, Nat.lt_of_lt_of_le h2 hg.size, own_only h3 hg (fun he => by have := own_of_ge h3 he; omega)⟩
theorem FlagsAt.base {w : World} {B bl : Nat} {L : List Int} (h : FlagsAt w (B + 1) bl L) : FlagsAt w B bl L := by
  obtain ⟨u, h1, hB2, h2, h3⟩ := h
  exact ⟨u, h1, by omega, h2, OwnI.base h3 (by omega)⟩
theorem only_setRow (w : World) (g : Nat) (cs : Array Value) : Only g w (w.setRow g cs) := ⟨rfl, rfl, rfl, by simp, fun i _ hne => setRow_other w g i cs (fun e => hne (by rw [e]))⟩
set_option maxHeartbeats 1000000 in
set_option maxRecDepth 10000 in
theorem conditions_c (w : World) : Calls Tryz.prog 91 #[] w fun e w' => ∃ b0 b1 b2 b3 b4 b5 b6 b7 b8 b9 b10, e = .returned (.agg #[.func (.func 166) #[] #[.pointer (some ⟨b0, 0, none⟩)], .func (.func 166) #[] #[.pointer (some ⟨b1, 0, none⟩)], .func (.func 166) #[] #[.pointer (some ⟨b2, 0, none⟩)], .func (.func 166) #[] #[.pointer (some ⟨b3, 0, none⟩)], .func (.func 166) #[] #[.pointer (some ⟨b4, 0, none⟩)], .func (.func 166) #[] #[.pointer (some ⟨b5, 0, none⟩)], .func (.func 166) #[] #[.pointer (some ⟨b6, 0, none⟩)], .func (.func 166) #[] #[.pointer (some ⟨b7, 0, none⟩)], .func (.func 166) #[] #[.pointer (some ⟨b8, 0, none⟩)], .func (.func 166) #[] #[.pointer (some ⟨b9, 0, none⟩)], .func (.func 133) #[] #[], .func (.func 136) #[] #[], .func (.func 166) #[] #[.pointer (some ⟨b10, 0, none⟩)]]) ∧ FlagsAt w' w.heap.size b0 [2] ∧ FlagsAt w' w.heap.size b1 [4] ∧ FlagsAt w' w.heap.size b2 [3] ∧ FlagsAt w' w.heap.size b3 [9] ∧ FlagsAt w' w.heap.size b4 [1] ∧ FlagsAt w' w.heap.size b5 [10] ∧ FlagsAt w' w.heap.size b6 [5] ∧ FlagsAt w' w.heap.size b7 [6] ∧ FlagsAt w' w.heap.size b8 [2, 7] ∧ FlagsAt w' w.heap.size b9 [0] ∧ FlagsAt w' w.heap.size b10 [0, 2, 8] ∧ Grew w w' := by
  obtain ⟨w0, hw0⟩ : ∃ w0, w0 = w.alloc (.cells #[.nilFunc, .nilFunc, .nilFunc, .nilFunc, .nilFunc, .nilFunc, .nilFunc, .nilFunc, .nilFunc, .nilFunc, .nilFunc, .nilFunc, .nilFunc] 109) := ⟨_, rfl⟩
  have g0 : Grew w0 w0 := Grew.refl w0
  have hgw : Grew w w0 := by rw [hw0]; exact (Grew.refl w).alloc _
  have hs0 : w0.heap.size = w.heap.size + 1 := by rw [hw0]; simp
  have HB := Lib.hid (show w0.heap[w.heap.size]? = some (.cells #[.nilFunc, .nilFunc, .nilFunc, .nilFunc, .nilFunc, .nilFunc, .nilFunc, .nilFunc, .nilFunc, .nilFunc, .nilFunc, .nilFunc, .nilFunc] 109 (0, 0)) by rw [hw0]; exact blk_new w _)
  have HL0 := Lib.hid (ints_lit1 (w.heap.size + 1) w0 2 (by omega))
  rw [hs0] at HL0
  go_enter Tryz.func91, Tryz.ntmps91
  go_wp2_with fail
  simp only [← hw0]
  clear hw0
  refine (flagCondition_c _ _ ⟨_, _, _, rfl⟩).mono ?_
  rintro e w1 ⟨b0, rfl, hc, hbl, hl, hg⟩
  simp only [World.size_alloc] at hbl
  have f0 := Lib.hid (show FlagsAt w1 (w.heap.size + 1) b0 [2] from ⟨_, hc, by omega, hl, (HL0.out).grew hg⟩)
  have g1 : Grew w0 w1 := g0.trans (((Grew.refl _).alloc _).trans hg)
  clear hc hbl hl hg g0
  go_wp2_with fail
  refine (flagCondition_c _ _ ⟨_, _, _, rfl⟩).mono ?_
  rintro e w2 ⟨b1, rfl, hc, hbl, hl, hg⟩
  simp only [World.size_alloc] at hbl
  have f1 := Lib.hid (show FlagsAt w2 (w.heap.size + 1) b1 [4] from ⟨_, hc, by have := g1.size; omega, hl, (ints_lit1 (w.heap.size + 1) w1 4 (by have := g1.size; omega)).grew hg⟩)
  replace f0 := Lib.hid (f0.out.grew (((Grew.refl w1).alloc _).trans hg))
  have g2 : Grew w0 w2 := g1.trans (((Grew.refl _).alloc _).trans hg)
  clear hc hbl hl hg g1
  go_wp2_with fail
  refine (flagCondition_c _ _ ⟨_, _, _, rfl⟩).mono ?_
  rintro e w3 ⟨b2, rfl, hc, hbl, hl, hg⟩
  simp only [World.size_alloc] at hbl
  have f2 := Lib.hid (show FlagsAt w3 (w.heap.size + 1) b2 [3] from ⟨_, hc, by have := g2.size; omega, hl, (ints_lit1 (w.heap.size + 1) w2 3 (by have := g2.size; omega)).grew hg⟩)
  replace f0 := Lib.hid (f0.out.grew (((Grew.refl w2).alloc _).trans hg))
  replace f1 := Lib.hid (f1.out.grew (((Grew.refl w2).alloc _).trans hg))
  have g3 : Grew w0 w3 := g2.trans (((Grew.refl _).alloc _).trans hg)
  clear hc hbl hl hg g2
  go_wp2_with fail
  refine (flagCondition_c _ _ ⟨_, _, _, rfl⟩).mono ?_
  rintro e w4 ⟨b3, rfl, hc, hbl, hl, hg⟩
  simp only [World.size_alloc] at hbl
  have f3 := Lib.hid (show FlagsAt w4 (w.heap.size + 1) b3 [9] from ⟨_, hc, by have := g3.size; omega, hl, (ints_lit1 (w.heap.size + 1) w3 9 (by have := g3.size; omega)).grew hg⟩)
  replace f0 := Lib.hid (f0.out.grew (((Grew.refl w3).alloc _).trans hg))
  replace f1 := Lib.hid (f1.out.grew (((Grew.refl w3).alloc _).trans hg))
  replace f2 := Lib.hid (f2.out.grew (((Grew.refl w3).alloc _).trans hg))
  have g4 : Grew w0 w4 := g3.trans (((Grew.refl _).alloc _).trans hg)
  clear hc hbl hl hg g3
  go_wp2_with fail
  refine (flagCondition_c _ _ ⟨_, _, _, rfl⟩).mono ?_
  rintro e w5 ⟨b4, rfl, hc, hbl, hl, hg⟩
  simp only [World.size_alloc] at hbl
  have f4 := Lib.hid (show FlagsAt w5 (w.heap.size + 1) b4 [1] from ⟨_, hc, by have := g4.size; omega, hl, (ints_lit1 (w.heap.size + 1) w4 1 (by have := g4.size; omega)).grew hg⟩)
  replace f0 := Lib.hid (f0.out.grew (((Grew.refl w4).alloc _).trans hg))
  replace f1 := Lib.hid (f1.out.grew (((Grew.refl w4).alloc _).trans hg))
  replace f2 := Lib.hid (f2.out.grew (((Grew.refl w4).alloc _).trans hg))
  replace f3 := Lib.hid (f3.out.grew (((Grew.refl w4).alloc _).trans hg))
  have g5 : Grew w0 w5 := g4.trans (((Grew.refl _).alloc _).trans hg)
  clear hc hbl hl hg g4
  go_wp2_with fail
  refine (flagCondition_c _ _ ⟨_, _, _, rfl⟩).mono ?_
  rintro e w6 ⟨b5, rfl, hc, hbl, hl, hg⟩
  simp only [World.size_alloc] at hbl
  have f5 := Lib.hid (show FlagsAt w6 (w.heap.size + 1) b5 [10] from ⟨_, hc, by have := g5.size; omega, hl, (ints_lit1 (w.heap.size + 1) w5 10 (by have := g5.size; omega)).grew hg⟩)
  replace f0 := Lib.hid (f0.out.grew (((Grew.refl w5).alloc _).trans hg))
  replace f1 := Lib.hid (f1.out.grew (((Grew.refl w5).alloc _).trans hg))
  replace f2 := Lib.hid (f2.out.grew (((Grew.refl w5).alloc _).trans hg))
  replace f3 := Lib.hid (f3.out.grew (((Grew.refl w5).alloc _).trans hg))
  replace f4 := Lib.hid (f4.out.grew (((Grew.refl w5).alloc _).trans hg))
  have g6 : Grew w0 w6 := g5.trans (((Grew.refl _).alloc _).trans hg)
  clear hc hbl hl hg g5
  go_wp2_with fail
  refine (flagCondition_c _ _ ⟨_, _, _, rfl⟩).mono ?_
  rintro e w7 ⟨b6, rfl, hc, hbl, hl, hg⟩
  simp only [World.size_alloc] at hbl
  have f6 := Lib.hid (show FlagsAt w7 (w.heap.size + 1) b6 [5] from ⟨_, hc, by have := g6.size; omega, hl, (ints_lit1 (w.heap.size + 1) w6 5 (by have := g6.size; omega)).grew hg⟩)
  replace f0 := Lib.hid (f0.out.grew (((Grew.refl w6).alloc _).trans hg))
  replace f1 := Lib.hid (f1.out.grew (((Grew.refl w6).alloc _).trans hg))
  replace f2 := Lib.hid (f2.out.grew (((Grew.refl w6).alloc _).trans hg))
  replace f3 := Lib.hid (f3.out.grew (((Grew.refl w6).alloc _).trans hg))
  replace f4 := Lib.hid (f4.out.grew (((Grew.refl w6).alloc _).trans hg))
  replace f5 := Lib.hid (f5.out.grew (((Grew.refl w6).alloc _).trans hg))
  have g7 : Grew w0 w7 := g6.trans (((Grew.refl _).alloc _).trans hg)
  clear hc hbl hl hg g6
  go_wp2_with fail
  refine (flagCondition_c _ _ ⟨_, _, _, rfl⟩).mono ?_
  rintro e w8 ⟨b7, rfl, hc, hbl, hl, hg⟩
  simp only [World.size_alloc] at hbl
  have f7 := Lib.hid (show FlagsAt w8 (w.heap.size + 1) b7 [6] from ⟨_, hc, by have := g7.size; omega, hl, (ints_lit1 (w.heap.size + 1) w7 6 (by have := g7.size; omega)).grew hg⟩)
  replace f0 := Lib.hid (f0.out.grew (((Grew.refl w7).alloc _).trans hg))
  replace f1 := Lib.hid (f1.out.grew (((Grew.refl w7).alloc _).trans hg))
  replace f2 := Lib.hid (f2.out.grew (((Grew.refl w7).alloc _).trans hg))
  replace f3 := Lib.hid (f3.out.grew (((Grew.refl w7).alloc _).trans hg))
  replace f4 := Lib.hid (f4.out.grew (((Grew.refl w7).alloc _).trans hg))
  replace f5 := Lib.hid (f5.out.grew (((Grew.refl w7).alloc _).trans hg))
  replace f6 := Lib.hid (f6.out.grew (((Grew.refl w7).alloc _).trans hg))
  have g8 : Grew w0 w8 := g7.trans (((Grew.refl _).alloc _).trans hg)
  clear hc hbl hl hg g7
  go_wp2_with fail
  refine (flagCondition_c _ _ ⟨_, _, _, rfl⟩).mono ?_
  rintro e w9 ⟨b8, rfl, hc, hbl, hl, hg⟩
  simp only [World.size_alloc] at hbl
  have f8 := Lib.hid (show FlagsAt w9 (w.heap.size + 1) b8 [2, 7] from ⟨_, hc, by have := g8.size; omega, hl, (ints_lit2 (w.heap.size + 1) w8 2 7 (by have := g8.size; omega)).grew hg⟩)
  replace f0 := Lib.hid (f0.out.grew (((Grew.refl w8).alloc _).trans hg))
  replace f1 := Lib.hid (f1.out.grew (((Grew.refl w8).alloc _).trans hg))
  replace f2 := Lib.hid (f2.out.grew (((Grew.refl w8).alloc _).trans hg))
  replace f3 := Lib.hid (f3.out.grew (((Grew.refl w8).alloc _).trans hg))
  replace f4 := Lib.hid (f4.out.grew (((Grew.refl w8).alloc _).trans hg))
  replace f5 := Lib.hid (f5.out.grew (((Grew.refl w8).alloc _).trans hg))
  replace f6 := Lib.hid (f6.out.grew (((Grew.refl w8).alloc _).trans hg))
  replace f7 := Lib.hid (f7.out.grew (((Grew.refl w8).alloc _).trans hg))
  have g9 : Grew w0 w9 := g8.trans (((Grew.refl _).alloc _).trans hg)
  clear hc hbl hl hg g8
  go_wp2_with fail
  refine (flagCondition_c _ _ ⟨_, _, _, rfl⟩).mono ?_
  rintro e w10 ⟨b9, rfl, hc, hbl, hl, hg⟩
  simp only [World.size_alloc] at hbl
  have f9 := Lib.hid (show FlagsAt w10 (w.heap.size + 1) b9 [0] from ⟨_, hc, by have := g9.size; omega, hl, (ints_lit1 (w.heap.size + 1) w9 0 (by have := g9.size; omega)).grew hg⟩)
  replace f0 := Lib.hid (f0.out.grew (((Grew.refl w9).alloc _).trans hg))
  replace f1 := Lib.hid (f1.out.grew (((Grew.refl w9).alloc _).trans hg))
  replace f2 := Lib.hid (f2.out.grew (((Grew.refl w9).alloc _).trans hg))
  replace f3 := Lib.hid (f3.out.grew (((Grew.refl w9).alloc _).trans hg))
  replace f4 := Lib.hid (f4.out.grew (((Grew.refl w9).alloc _).trans hg))
  replace f5 := Lib.hid (f5.out.grew (((Grew.refl w9).alloc _).trans hg))
  replace f6 := Lib.hid (f6.out.grew (((Grew.refl w9).alloc _).trans hg))
  replace f7 := Lib.hid (f7.out.grew (((Grew.refl w9).alloc _).trans hg))
  replace f8 := Lib.hid (f8.out.grew (((Grew.refl w9).alloc _).trans hg))
  have g10 : Grew w0 w10 := g9.trans (((Grew.refl _).alloc _).trans hg)
  clear hc hbl hl hg g9
  go_wp2_with fail
  refine (flagCondition_c _ _ ⟨_, _, _, rfl⟩).mono ?_
  rintro e w11 ⟨b10, rfl, hc, hbl, hl, hg⟩
  simp only [World.size_alloc] at hbl
  have f10 := Lib.hid (show FlagsAt w11 (w.heap.size + 1) b10 [0, 2, 8] from ⟨_, hc, by have := g10.size; omega, hl, (ints_lit3 (w.heap.size + 1) w10 0 2 8 (by have := g10.size; omega)).grew hg⟩)
  replace f0 := Lib.hid (f0.out.grew (((Grew.refl w10).alloc _).trans hg))
  replace f1 := Lib.hid (f1.out.grew (((Grew.refl w10).alloc _).trans hg))
  replace f2 := Lib.hid (f2.out.grew (((Grew.refl w10).alloc _).trans hg))
  replace f3 := Lib.hid (f3.out.grew (((Grew.refl w10).alloc _).trans hg))
  replace f4 := Lib.hid (f4.out.grew (((Grew.refl w10).alloc _).trans hg))
  replace f5 := Lib.hid (f5.out.grew (((Grew.refl w10).alloc _).trans hg))
  replace f6 := Lib.hid (f6.out.grew (((Grew.refl w10).alloc _).trans hg))
  replace f7 := Lib.hid (f7.out.grew (((Grew.refl w10).alloc _).trans hg))
  replace f8 := Lib.hid (f8.out.grew (((Grew.refl w10).alloc _).trans hg))
  replace f9 := Lib.hid (f9.out.grew (((Grew.refl w10).alloc _).trans hg))
  have g11 : Grew w0 w11 := g10.trans (((Grew.refl _).alloc _).trans hg)
  clear hc hbl hl hg g10
  have hb := (g11.block (by omega)).trans HB.out
  have hinfo : (Tryz.prog.info? 109).map (·.size) = some 13 := by kernel_rfl
  have hO0 : Only w.heap.size w11 w11 := Only.refl _ _
  have hb0 := hb
  have k0 : w11.cell? ⟨w.heap.size, 0, none⟩ = some .nilFunc := by rw [blk_cell hb]; rfl
  have r0 := blk_frozen hb 0
  have k1 : w11.cell? ⟨w.heap.size, 1, none⟩ = some .nilFunc := by rw [blk_cell hb]; rfl
  have r1 := blk_frozen hb 1
  have k2 : w11.cell? ⟨w.heap.size, 2, none⟩ = some .nilFunc := by rw [blk_cell hb]; rfl
  have r2 := blk_frozen hb 2
  have k3 : w11.cell? ⟨w.heap.size, 3, none⟩ = some .nilFunc := by rw [blk_cell hb]; rfl
  have r3 := blk_frozen hb 3
  have k4 : w11.cell? ⟨w.heap.size, 4, none⟩ = some .nilFunc := by rw [blk_cell hb]; rfl
  have r4 := blk_frozen hb 4
  have k5 : w11.cell? ⟨w.heap.size, 5, none⟩ = some .nilFunc := by rw [blk_cell hb]; rfl
  have r5 := blk_frozen hb 5
  have k6 : w11.cell? ⟨w.heap.size, 6, none⟩ = some .nilFunc := by rw [blk_cell hb]; rfl
  have r6 := blk_frozen hb 6
  have k7 : w11.cell? ⟨w.heap.size, 7, none⟩ = some .nilFunc := by rw [blk_cell hb]; rfl
  have r7 := blk_frozen hb 7
  have k8 : w11.cell? ⟨w.heap.size, 8, none⟩ = some .nilFunc := by rw [blk_cell hb]; rfl
  have r8 := blk_frozen hb 8
  have k9 : w11.cell? ⟨w.heap.size, 9, none⟩ = some .nilFunc := by rw [blk_cell hb]; rfl
  have r9 := blk_frozen hb 9
  have k10 : w11.cell? ⟨w.heap.size, 10, none⟩ = some .nilFunc := by rw [blk_cell hb]; rfl
  have r10 := blk_frozen hb 10
  have k11 : w11.cell? ⟨w.heap.size, 11, none⟩ = some .nilFunc := by rw [blk_cell hb]; rfl
  have r11 := blk_frozen hb 11
  have k12 : w11.cell? ⟨w.heap.size, 12, none⟩ = some .nilFunc := by rw [blk_cell hb]; rfl
  have r12 := blk_frozen hb 12
  obtain ⟨X1, hX1⟩ : ∃ X, X = w11.setCell ⟨w.heap.size, 0, none⟩ (.func (.func 166) #[] #[.pointer (some ⟨b0, 0, none⟩)]) := ⟨_, rfl⟩
  have hb1 : X1.heap[w.heap.size]? = some (.cells #[.func (.func 166) #[] #[.pointer (some ⟨b0, 0, none⟩)], .nilFunc, .nilFunc, .nilFunc, .nilFunc, .nilFunc, .nilFunc, .nilFunc, .nilFunc, .nilFunc, .nilFunc, .nilFunc, .nilFunc] 109 (0, 0)) := by rw [hX1]; exact blk_set hb0 0 _
  have hO1 : Only w.heap.size w11 X1 := by rw [hX1]; exact hO0.setCell _
  clear hb0 hO0
  obtain ⟨X2, hX2⟩ : ∃ X, X = X1.setCell ⟨w.heap.size, 1, none⟩ (.func (.func 166) #[] #[.pointer (some ⟨b1, 0, none⟩)]) := ⟨_, rfl⟩
  have hb2 : X2.heap[w.heap.size]? = some (.cells #[.func (.func 166) #[] #[.pointer (some ⟨b0, 0, none⟩)], .func (.func 166) #[] #[.pointer (some ⟨b1, 0, none⟩)], .nilFunc, .nilFunc, .nilFunc, .nilFunc, .nilFunc, .nilFunc, .nilFunc, .nilFunc, .nilFunc, .nilFunc, .nilFunc] 109 (0, 0)) := by rw [hX2]; exact blk_set hb1 1 _
  have hO2 : Only w.heap.size w11 X2 := by rw [hX2]; exact hO1.setCell _
  clear hb1 hO1
  obtain ⟨X3, hX3⟩ : ∃ X, X = X2.setCell ⟨w.heap.size, 2, none⟩ (.func (.func 166) #[] #[.pointer (some ⟨b2, 0, none⟩)]) := ⟨_, rfl⟩
  have hb3 : X3.heap[w.heap.size]? = some (.cells #[.func (.func 166) #[] #[.pointer (some ⟨b0, 0, none⟩)], .func (.func 166) #[] #[.pointer (some ⟨b1, 0, none⟩)], .func (.func 166) #[] #[.pointer (some ⟨b2, 0, none⟩)], .nilFunc, .nilFunc, .nilFunc, .nilFunc, .nilFunc, .nilFunc, .nilFunc, .nilFunc, .nilFunc, .nilFunc] 109 (0, 0)) := by rw [hX3]; exact blk_set hb2 2 _
  have hO3 : Only w.heap.size w11 X3 := by rw [hX3]; exact hO2.setCell _
  clear hb2 hO2
  obtain ⟨X4, hX4⟩ : ∃ X, X = X3.setCell ⟨w.heap.size, 3, none⟩ (.func (.func 166) #[] #[.pointer (some ⟨b3, 0, none⟩)]) := ⟨_, rfl⟩
  have hb4 : X4.heap[w.heap.size]? = some (.cells #[.func (.func 166) #[] #[.pointer (some ⟨b0, 0, none⟩)], .func (.func 166) #[] #[.pointer (some ⟨b1, 0, none⟩)], .func (.func 166) #[] #[.pointer (some ⟨b2, 0, none⟩)], .func (.func 166) #[] #[.pointer (some ⟨b3, 0, none⟩)], .nilFunc, .nilFunc, .nilFunc, .nilFunc, .nilFunc, .nilFunc, .nilFunc, .nilFunc, .nilFunc] 109 (0, 0)) := by rw [hX4]; exact blk_set hb3 3 _
  have hO4 : Only w.heap.size w11 X4 := by rw [hX4]; exact hO3.setCell _
  clear hb3 hO3
  obtain ⟨X5, hX5⟩ : ∃ X, X = X4.setCell ⟨w.heap.size, 4, none⟩ (.func (.func 166) #[] #[.pointer (some ⟨b4, 0, none⟩)]) := ⟨_, rfl⟩
  have hb5 : X5.heap[w.heap.size]? = some (.cells #[.func (.func 166) #[] #[.pointer (some ⟨b0, 0, none⟩)], .func (.func 166) #[] #[.pointer (some ⟨b1, 0, none⟩)], .func (.func 166) #[] #[.pointer (some ⟨b2, 0, none⟩)], .func (.func 166) #[] #[.pointer (some ⟨b3, 0, none⟩)], .func (.func 166) #[] #[.pointer (some ⟨b4, 0, none⟩)], .nilFunc, .nilFunc, .nilFunc, .nilFunc, .nilFunc, .nilFunc, .nilFunc, .nilFunc] 109 (0, 0)) := by rw [hX5]; exact blk_set hb4 4 _
  have hO5 : Only w.heap.size w11 X5 := by rw [hX5]; exact hO4.setCell _
  clear hb4 hO4
  obtain ⟨X6, hX6⟩ : ∃ X, X = X5.setCell ⟨w.heap.size, 5, none⟩ (.func (.func 166) #[] #[.pointer (some ⟨b5, 0, none⟩)]) := ⟨_, rfl⟩
  have hb6 : X6.heap[w.heap.size]? = some (.cells #[.func (.func 166) #[] #[.pointer (some ⟨b0, 0, none⟩)], .func (.func 166) #[] #[.pointer (some ⟨b1, 0, none⟩)], .func (.func 166) #[] #[.pointer (some ⟨b2, 0, none⟩)], .func (.func 166) #[] #[.pointer (some ⟨b3, 0, none⟩)], .func (.func 166) #[] #[.pointer (some ⟨b4, 0, none⟩)], .func (.func 166) #[] #[.pointer (some ⟨b5, 0, none⟩)], .nilFunc, .nilFunc, .nilFunc, .nilFunc, .nilFunc, .nilFunc, .nilFunc] 109 (0, 0)) := by rw [hX6]; exact blk_set hb5 5 _
  have hO6 : Only w.heap.size w11 X6 := by rw [hX6]; exact hO5.setCell _
  clear hb5 hO5
  obtain ⟨X7, hX7⟩ : ∃ X, X = X6.setCell ⟨w.heap.size, 6, none⟩ (.func (.func 166) #[] #[.pointer (some ⟨b6, 0, none⟩)]) := ⟨_, rfl⟩
  have hb7 : X7.heap[w.heap.size]? = some (.cells #[.func (.func 166) #[] #[.pointer (some ⟨b0, 0, none⟩)], .func (.func 166) #[] #[.pointer (some ⟨b1, 0, none⟩)], .func (.func 166) #[] #[.pointer (some ⟨b2, 0, none⟩)], .func (.func 166) #[] #[.pointer (some ⟨b3, 0, none⟩)], .func (.func 166) #[] #[.pointer (some ⟨b4, 0, none⟩)], .func (.func 166) #[] #[.pointer (some ⟨b5, 0, none⟩)], .func (.func 166) #[] #[.pointer (some ⟨b6, 0, none⟩)], .nilFunc, .nilFunc, .nilFunc, .nilFunc, .nilFunc, .nilFunc] 109 (0, 0)) := by rw [hX7]; exact blk_set hb6 6 _
  have hO7 : Only w.heap.size w11 X7 := by rw [hX7]; exact hO6.setCell _
  clear hb6 hO6
  obtain ⟨X8, hX8⟩ : ∃ X, X = X7.setCell ⟨w.heap.size, 7, none⟩ (.func (.func 166) #[] #[.pointer (some ⟨b7, 0, none⟩)]) := ⟨_, rfl⟩
  have hb8 : X8.heap[w.heap.size]? = some (.cells #[.func (.func 166) #[] #[.pointer (some ⟨b0, 0, none⟩)], .func (.func 166) #[] #[.pointer (some ⟨b1, 0, none⟩)], .func (.func 166) #[] #[.pointer (some ⟨b2, 0, none⟩)], .func (.func 166) #[] #[.pointer (some ⟨b3, 0, none⟩)], .func (.func 166) #[] #[.pointer (some ⟨b4, 0, none⟩)], .func (.func 166) #[] #[.pointer (some ⟨b5, 0, none⟩)], .func (.func 166) #[] #[.pointer (some ⟨b6, 0, none⟩)], .func (.func 166) #[] #[.pointer (some ⟨b7, 0, none⟩)], .nilFunc, .nilFunc, .nilFunc, .nilFunc, .nilFunc] 109 (0, 0)) := by rw [hX8]; exact blk_set hb7 7 _
  have hO8 : Only w.heap.size w11 X8 := by rw [hX8]; exact hO7.setCell _
  clear hb7 hO7
  obtain ⟨X9, hX9⟩ : ∃ X, X = X8.setCell ⟨w.heap.size, 8, none⟩ (.func (.func 166) #[] #[.pointer (some ⟨b8, 0, none⟩)]) := ⟨_, rfl⟩
  have hb9 : X9.heap[w.heap.size]? = some (.cells #[.func (.func 166) #[] #[.pointer (some ⟨b0, 0, none⟩)], .func (.func 166) #[] #[.pointer (some ⟨b1, 0, none⟩)], .func (.func 166) #[] #[.pointer (some ⟨b2, 0, none⟩)], .func (.func 166) #[] #[.pointer (some ⟨b3, 0, none⟩)], .func (.func 166) #[] #[.pointer (some ⟨b4, 0, none⟩)], .func (.func 166) #[] #[.pointer (some ⟨b5, 0, none⟩)], .func (.func 166) #[] #[.pointer (some ⟨b6, 0, none⟩)], .func (.func 166) #[] #[.pointer (some ⟨b7, 0, none⟩)], .func (.func 166) #[] #[.pointer (some ⟨b8, 0, none⟩)], .nilFunc, .nilFunc, .nilFunc, .nilFunc] 109 (0, 0)) := by rw [hX9]; exact blk_set hb8 8 _
  have hO9 : Only w.heap.size w11 X9 := by rw [hX9]; exact hO8.setCell _
  clear hb8 hO8
  obtain ⟨X10, hX10⟩ : ∃ X, X = X9.setCell ⟨w.heap.size, 9, none⟩ (.func (.func 166) #[] #[.pointer (some ⟨b9, 0, none⟩)]) := ⟨_, rfl⟩
  have hb10 : X10.heap[w.heap.size]? = some (.cells #[.func (.func 166) #[] #[.pointer (some ⟨b0, 0, none⟩)], .func (.func 166) #[] #[.pointer (some ⟨b1, 0, none⟩)], .func (.func 166) #[] #[.pointer (some ⟨b2, 0, none⟩)], .func (.func 166) #[] #[.pointer (some ⟨b3, 0, none⟩)], .func (.func 166) #[] #[.pointer (some ⟨b4, 0, none⟩)], .func (.func 166) #[] #[.pointer (some ⟨b5, 0, none⟩)], .func (.func 166) #[] #[.pointer (some ⟨b6, 0, none⟩)], .func (.func 166) #[] #[.pointer (some ⟨b7, 0, none⟩)], .func (.func 166) #[] #[.pointer (some ⟨b8, 0, none⟩)], .func (.func 166) #[] #[.pointer (some ⟨b9, 0, none⟩)], .nilFunc, .nilFunc, .nilFunc] 109 (0, 0)) := by rw [hX10]; exact blk_set hb9 9 _
  have hO10 : Only w.heap.size w11 X10 := by rw [hX10]; exact hO9.setCell _
  clear hb9 hO9
  obtain ⟨X11, hX11⟩ : ∃ X, X = X10.setCell ⟨w.heap.size, 10, none⟩ (.func (.func 133) #[] #[]) := ⟨_, rfl⟩
  have hb11 : X11.heap[w.heap.size]? = some (.cells #[.func (.func 166) #[] #[.pointer (some ⟨b0, 0, none⟩)], .func (.func 166) #[] #[.pointer (some ⟨b1, 0, none⟩)], .func (.func 166) #[] #[.pointer (some ⟨b2, 0, none⟩)], .func (.func 166) #[] #[.pointer (some ⟨b3, 0, none⟩)], .func (.func 166) #[] #[.pointer (some ⟨b4, 0, none⟩)], .func (.func 166) #[] #[.pointer (some ⟨b5, 0, none⟩)], .func (.func 166) #[] #[.pointer (some ⟨b6, 0, none⟩)], .func (.func 166) #[] #[.pointer (some ⟨b7, 0, none⟩)], .func (.func 166) #[] #[.pointer (some ⟨b8, 0, none⟩)], .func (.func 166) #[] #[.pointer (some ⟨b9, 0, none⟩)], .func (.func 133) #[] #[], .nilFunc, .nilFunc] 109 (0, 0)) := by rw [hX11]; exact blk_set hb10 10 _
  have hO11 : Only w.heap.size w11 X11 := by rw [hX11]; exact hO10.setCell _
  clear hb10 hO10
  obtain ⟨X12, hX12⟩ : ∃ X, X = X11.setCell ⟨w.heap.size, 11, none⟩ (.func (.func 136) #[] #[]) := ⟨_, rfl⟩
  have hb12 : X12.heap[w.heap.size]? = some (.cells #[.func (.func 166) #[] #[.pointer (some ⟨b0, 0, none⟩)], .func (.func 166) #[] #[.pointer (some ⟨b1, 0, none⟩)], .func (.func 166) #[] #[.pointer (some ⟨b2, 0, none⟩)], .func (.func 166) #[] #[.pointer (some ⟨b3, 0, none⟩)], .func (.func 166) #[] #[.pointer (some ⟨b4, 0, none⟩)], .func (.func 166) #[] #[.pointer (some ⟨b5, 0, none⟩)], .func (.func 166) #[] #[.pointer (some ⟨b6, 0, none⟩)], .func (.func 166) #[] #[.pointer (some ⟨b7, 0, none⟩)], .func (.func 166) #[] #[.pointer (some ⟨b8, 0, none⟩)], .func (.func 166) #[] #[.pointer (some ⟨b9, 0, none⟩)], .func (.func 133) #[] #[], .func (.func 136) #[] #[], .nilFunc] 109 (0, 0)) := by rw [hX12]; exact blk_set hb11 11 _
  have hO12 : Only w.heap.size w11 X12 := by rw [hX12]; exact hO11.setCell _
  clear hb11 hO11
  obtain ⟨X13, hX13⟩ : ∃ X, X = X12.setCell ⟨w.heap.size, 12, none⟩ (.func (.func 166) #[] #[.pointer (some ⟨b10, 0, none⟩)]) := ⟨_, rfl⟩
  have hb13 : X13.heap[w.heap.size]? = some (.cells #[.func (.func 166) #[] #[.pointer (some ⟨b0, 0, none⟩)], .func (.func 166) #[] #[.pointer (some ⟨b1, 0, none⟩)], .func (.func 166) #[] #[.pointer (some ⟨b2, 0, none⟩)], .func (.func 166) #[] #[.pointer (some ⟨b3, 0, none⟩)], .func (.func 166) #[] #[.pointer (some ⟨b4, 0, none⟩)], .func (.func 166) #[] #[.pointer (some ⟨b5, 0, none⟩)], .func (.func 166) #[] #[.pointer (some ⟨b6, 0, none⟩)], .func (.func 166) #[] #[.pointer (some ⟨b7, 0, none⟩)], .func (.func 166) #[] #[.pointer (some ⟨b8, 0, none⟩)], .func (.func 166) #[] #[.pointer (some ⟨b9, 0, none⟩)], .func (.func 133) #[] #[], .func (.func 136) #[] #[], .func (.func 166) #[] #[.pointer (some ⟨b10, 0, none⟩)]] 109 (0, 0)) := by rw [hX13]; exact blk_set hb12 12 _
  have hO13 : Only w.heap.size w11 X13 := by rw [hX13]; exact hO12.setCell _
  clear hb12 hO12
  have HF := Lib.hid hb13
  have HO := Lib.hid hO13
  have HG := Lib.hid (hO13.grew_of (hgw.trans g11) (Nat.le_refl _))
  clear hb13 hO13 hb hgw g11 HB HL0 hs0
  go_wp2_with fail
  rw [← hX1, ← hX2, ← hX3, ← hX4, ← hX5, ← hX6, ← hX7, ← hX8, ← hX9, ← hX10, ← hX11, ← hX12, ← hX13]
  (try simp only [Exit.inBlock, Exit.then])
  refine bodyPost_ret (results_cell_row rfl _ _ w.heap.size _ _ _ _ rfl HF.out Tryz.underlying109 rfl hinfo) rfl ?_
  exact ⟨_, _, _, _, _, _, _, _, _, _, _, rfl, (f0.out.only HO.out (by omega)).base, (f1.out.only HO.out (by omega)).base, (f2.out.only HO.out (by omega)).base, (f3.out.only HO.out (by omega)).base, (f4.out.only HO.out (by omega)).base, (f5.out.only HO.out (by omega)).base, (f6.out.only HO.out (by omega)).base, (f7.out.only HO.out (by omega)).base, (f8.out.only HO.out (by omega)).base, (f9.out.only HO.out (by omega)).base, (f10.out.only HO.out (by omega)).base, HG.out⟩
end Go.Proofs.YtpfncncohnhanaaGreatDoor

/- The laws' own helpers on slices of nodes: eqNode, eqNodeS. -/
namespace Go.Proofs.YtpfncncohnhanaaGreatDoor
open Go.RowKit
open Fm (Nd)

theorem eqNode_c (a b c d : Int) (w : World) :
    Calls Tryz.prog 40 #[.agg #[.int .i64 a, .int .i64 b], .agg #[.int .i64 c, .int .i64 d]] w fun e w' => e = .returned (.bool (a == c && b == d)) ∧ Grew w w' := by
  have hz : ∀ o1 o2, Grew w ((w.alloc o1).alloc o2) := fun o1 o2 => ((Grew.refl _).alloc _).alloc _
  go_enter Tryz.func40, Tryz.ntmps40
  go_wp2
  · have h1 : (a != c) = true := by assumption
    go_ret
    exact ⟨by have : (a == c) = false := by simpa using h1
              simp [this], hz _ _⟩
  · have h1 : (a != c) = false := by assumption
    have h2 : (b != d) = true := by assumption
    go_ret
    exact ⟨by have : (b == d) = false := by simpa using h2
              simp [this], hz _ _⟩
  · have h1 : (a != c) = false := by assumption
    have h2 : (b != d) = false := by assumption
    go_ret
    exact ⟨by simp at h1 h2; simp [h1, h2], hz _ _⟩

/-- Two lists that are equal, at any two values. -/
theorem eqNodeS_yes (v1 v2 : Value) (xs : List Nd) (w : World) (h1 : Nodes w v1 xs) (h2 : Nodes w v2 xs) (hn : xs.length ≤ 4611686018427387904) :
    Calls Tryz.prog 11 #[v1, v2] w fun e w' => e = .returned (.bool true) ∧ Grew w w' := by
  rcases h1.open_ with ⟨rfl, rfl⟩ | ⟨b1, o1, c1, rfl, hc1, hm1, hb1, hf⟩
  · rcases h2.open_ with ⟨rfl, _⟩ | ⟨b2, o2, c2, rfl, _⟩
    all_goals
      go_enter Tryz.func11, Tryz.ntmps11
      go_wp2_with fail
      refine wp_loop_rounds 1 ?_; rw [rounds_succ]
      go_wp2_with fail
      go_ret
      exact ⟨rfl, Grew.refl _⟩
  · rcases h2.open_ with ⟨rfl, rfl⟩ | ⟨b2, o2, c2, rfl, hc2, hm2, hb2, hh⟩
    · go_enter Tryz.func11, Tryz.ntmps11
      go_wp2_with fail
      refine wp_loop_rounds 1 ?_; rw [rounds_succ]
      go_wp2_with fail
      go_ret
      exact ⟨rfl, Grew.refl _⟩
    · clear h1 h2
      generalize hN : xs.length = n at *
      clear hN
      go_enter Tryz.func11, Tryz.ntmps11
      go_wp2_with fail
      go_loopw [5] (fun i wr => ∃ j : Nat, j ≤ n ∧ i = .int .i64 j ∧ Grew w wr) (fun i _ => n - (intOf i).toNat)
      case atStart => exact ⟨0, Nat.zero_le _, rfl, Grew.refl _⟩
      case round =>
        obtain ⟨j, hj, rfl, hB⟩ := hrel
        by_cases hlt : j < n
        · have k1 : ∀ W, Grew w W → W.cell? ⟨b1, o1 + j * 2, none⟩ = some (.int .i64 (kd xs j)) := fun W hW => (hf j hlt W hW).1
          have k2 : ∀ W, Grew w W → W.cell? ⟨b1, o1 + j * 2 + 1, none⟩ = some (.int .i64 (sy xs j)) := fun W hW => (hf j hlt W hW).2
          have k3 : ∀ W, Grew w W → W.cell? ⟨b2, o2 + j * 2, none⟩ = some (.int .i64 (kd xs j)) := fun W hW => (hh j hlt W hW).1
          have k4 : ∀ W, Grew w W → W.cell? ⟨b2, o2 + j * 2 + 1, none⟩ = some (.int .i64 (sy xs j)) := fun W hW => (hh j hlt W hW).2
          clear hf hh
          go_wp2_with fail
          go_region_held3 (fun w' => Grew w w') (first | assumption | exact Grew.drew ‹_› | exact Grew.trans ‹_› ‹_›)
            (first | (go_at_call 40; refine (eqNode_c _ _ _ _ _).mono ?_; rintro e w' ⟨rfl, hB1⟩))
          go_wp2_with fail
          go_roundw
          case rel => exact ⟨j + 1, by omega, by go_num, by assumption⟩
          case measure => simp [intOf]; omega
        · go_wp2_with fail
          go_ret
          exact ⟨rfl, by assumption⟩

end Go.Proofs.YtpfncncohnhanaaGreatDoor

/- The laws' own helpers on slices of nodes: markNodeS, heldNodeS. -/
namespace Go.Proofs.YtpfncncohnhanaaGreatDoor
open Go.RowKit
open Fm (Nd)

/-- The numbers that markNodeS lays. -/
def marks (k : Int) (n : Nat) : List Nd := (List.range n).map fun i : Nat => ((k + (i : Int) * 2, k + (i : Int) * 2 + 1) : Nd)
theorem marks_length (k : Int) (n : Nat) : (marks k n).length = n := by simp [marks]
theorem marks_kd {k : Int} {n i : Nat} (h : i < n) : kd (marks k n) i = k + i * 2 := by simp [marks, kd, List.getD, h]
theorem marks_sy {k : Int} {n i : Nat} (h : i < n) : sy (marks k n) i = k + i * 2 + 1 := by simp [marks, sy, List.getD, h]

/-- markNodeS lays its numbers into a row of the call's own. -/
theorem markNodeS_c (v : Value) (xs : List Nd) (B : Nat) (k : Int) (w : World) (h : Own w B v xs) (hk0 : 0 ≤ k) (hk : k ≤ 4611686018427387904) (hn : xs.length ≤ 1099511627776) :
    Calls Tryz.prog 12 #[v, .int .i64 k] w fun e w' => e = .returned (.int .i64 (k + xs.length * 2)) ∧ Own w' B v (marks k xs.length) ∧ (∀ g, v.ownBlock = some g → Only g w w') ∧ (v.ownBlock = none → Grew w w') := by
  rcases h.open_ with ⟨rfl, rfl⟩ | ⟨g, c, cur0, rfl, hB, hg, hh0, hnc, hcm, hcs0, hc0⟩
  · go_enter Tryz.func12, Tryz.ntmps12
    go_wp2_with fail
    refine wp_loop_rounds 1 ?_; rw [rounds_succ]
    go_wp2_with fail
    go_ret
    exact ⟨by simp, by simpa [marks] using Own.nil_ _ _, fun _ _ => Only.refl _ _, fun _ => Grew.refl _⟩
  · have hend : ∀ cur w', w'.heap[g]? = some (.cells cur 59 (0, 0)) → cur.size = c * 2 → (∀ i, i < xs.length → cur[i * 2]? = some (.int .i64 (k + (i : Int) * 2)) ∧ cur[i * 2 + 1]? = some (.int .i64 (k + (i : Int) * 2 + 1))) → Own w' B (.slice (some ⟨g, 0, none⟩) xs.length c) (marks k xs.length) := by
      intro cur w' h1 h2 h3
      have := Own.mk_ (w := w') (B := B) (xs := marks k xs.length) (g := g) (c := c) (cur := cur) hB h1 (by rw [marks_length]; exact hnc) hcm h2 (fun i hi => by
        rw [marks_length] at hi
        rw [marks_kd hi, marks_sy hi]
        exact h3 i hi)
      rw [marks_length] at this
      exact this
    generalize hN : xs.length = n at *
    clear hN hc0 h
    have HE := Lib.hid hend
    clear hend
    go_enter Tryz.func12, Tryz.ntmps12
    go_wp2_with fail
    go_loopw [1, 5] (fun kk i wr => ∃ (j : Nat) (cur : Array Value), j ≤ n ∧ i = .int .i64 j ∧ kk = .int .i64 (k + (j : Int) * 2) ∧ wr.heap[g]? = some (.cells cur 59 (0, 0)) ∧ cur.size = c * 2 ∧ Only g w wr ∧ (∀ i, i < j → cur[i * 2]? = some (.int .i64 (k + (i : Int) * 2)) ∧ cur[i * 2 + 1]? = some (.int .i64 (k + (i : Int) * 2 + 1)))) (fun _ i _ => n - (intOf i).toNat)
    case atStart => exact ⟨0, cur0, Nat.zero_le _, rfl, by simp, hh0, hcs0, Only.refl _ _, fun i hi => absurd hi (by omega)⟩
    case round =>
      obtain ⟨j, cur, hj, rfl, rfl, hh, hcs, ho, hc⟩ := hrel
      have HC := Lib.hid hc
      clear hc
      by_cases hlt : j < n
      · have f1 : ∀ i, wr.frozen? ⟨g, i, none⟩ = false := fun i => by simp [World.frozen?, hh]
        have f2 : ∀ i u, (wr.setCell ⟨g, i, none⟩ u).frozen? ⟨g, i + 1, none⟩ = false := fun i u => by simp [World.frozen?, World.setCell, Array.getElem?_modify, hh]
        obtain ⟨u1, hu1⟩ : ∃ u, wr.cell? ⟨g, 0 + j * 2, none⟩ = some u := by
          rw [cell_of_row wr g _ cur _ (0, 0) hh]
          exact ⟨_, Array.getElem?_eq_getElem (by omega)⟩
        obtain ⟨u2, hu2⟩ : ∃ u, wr.cell? ⟨g, 0 + j * 2 + 1, none⟩ = some u := by
          rw [cell_of_row wr g _ cur _ (0, 0) hh]
          exact ⟨_, Array.getElem?_eq_getElem (by omega)⟩
        simp only [Nat.zero_add] at hu1 hu2
        have HH := Lib.hid hh
        clear hh
        go_wp2_with fail
        go_roundw
        case rel =>
          exact ⟨j + 1, _, by omega, by go_num, by go_num, blk_set (blk_set HH.out _ _) _ _, by simp [hcs], (ho.setCell _).setCell _, pair_step (F := fun i => .int .i64 (k + (i : Int) * 2)) (G := fun i => .int .i64 (k + (i : Int) * 2 + 1)) (by omega) HC.out⟩
        case measure => simp [intOf]; omega
      · obtain rfl : j = n := by omega
        have HH := Lib.hid hh
        clear hh
        go_wp2_with fail
        go_ret
        exact ⟨rfl, HE.out _ _ HH.out hcs HC.out, fun g' hg' => by simp [Value.ownBlock] at hg'; subst hg'; exact ho, fun hg' => by simp [Value.ownBlock] at hg'⟩

/-- What markNodeS leaves: every world that was there before the row was made has not changed. -/
def Marks (w : World) (B : Nat) (v : Value) (k : Int) (n : Nat) (e : Ending) (w' : World) : Prop :=
  e = .returned (.int .i64 (k + n * 2)) ∧ Own w' B v (marks k n) ∧ ∀ w0 : World, w0.heap.size ≤ B → Grew w0 w → Grew w0 w'
theorem markNodeS_g (v : Value) (xs : List Nd) (B : Nat) (k : Int) (w : World) (h : Own w B v xs) (hk0 : 0 ≤ k) (hk : k ≤ 4611686018427387904) (hn : xs.length ≤ 1099511627776) :
    Calls Tryz.prog 12 #[v, .int .i64 k] w (Marks w B v k xs.length) :=
  (markNodeS_c v xs B k w h hk0 hk hn).mono fun e w' ⟨h1, h2, h3, h4⟩ => ⟨h1, h2, fun w0 hB hg => by
    cases hv : v.ownBlock with
    | none => exact hg.trans (h4 hv)
    | some g => exact (h3 g hv).grew_of hg (Nat.le_trans hB (h.lt g hv).1)⟩

end Go.Proofs.YtpfncncohnhanaaGreatDoor

/- The law FnExactAxiomFormula, walked. -/
namespace Go.Proofs.YtpfncncohnhanaaGreatDoor
open Go.RowKit
open Fm (Nd)

/-- A new list and a code, the list nil where it is empty. -/
def GivesC (w : World) (r : List Nd × Int) (e : Ending) (w' : World) : Prop := ∃ v, e = .returned (.tuple #[v, .int .i64 r.2]) ∧ Own w' w.heap.size v r.1 ∧ Grew w w'

theorem axF_none {s : ByteArray} (h : findS axNames s = -1) : axF s = ([], 4) := by rw [axF, h]; rfl
theorem axF_some {s : ByteArray} {k : Nat} (h : findS axNames s = (k : Int)) : axF s = (Fm.enc (axTree k), 0) := by
  rw [axF, h, if_neg (by omega)]; rfl

set_option maxRecDepth 100000 in
theorem axiomAt_c (s : ByteArray) (w : World) (hT : TabAt w 1 axNames) :
    Calls Tryz.prog 47 #[.string s] w fun e w' => e = .returned (.int .i64 (findS axNames s)) ∧ Grew w w' := by
  obtain ⟨t, hT⟩ := hT
  obtain ⟨R, hR⟩ : ∃ R, R = findS axNames s := ⟨_, rfl⟩
  rw [← hR]
  have HA := Lib.hid (fun k hk h1 h2 => hR.trans (@findS_at axNames s k hk h1 h2))
  have HZ := Lib.hid (fun h => hR.trans (@findS_none axNames s h))
  have HI := Lib.hid index_names
  have hinfo : (Tryz.prog.info? 76).map (·.size) = some (scells axNames).toArray.size := by kernel_rfl
  have HF := Lib.hid hinfo
  have HT := Lib.hid hT
  rw [axNames_len] at HA HZ
  clear hR hinfo hT
  generalize hC : (scells axNames).toArray = C at *
  clear hC
  go_enter Tryz.func47, Tryz.ntmps47
  go_wp2_with (with_reducible refine wpList_load_row rfl 76 _ rfl 1 rfl t C _ _ HT.out Tryz.underlying76 rfl HF.out ?_)
  go_loopg [3, 4, 6] 13 (fun k _ _ i wr => ∃ j : Nat, j ≤ 13 ∧ k = 13 - j ∧ i = .int .i64 j ∧ Grew w wr ∧ Hid (NotIn axNames s j))
  case atStart => exact ⟨0, by omega, by omega, rfl, Grew.refl _, NotIn.zero _ _⟩
  case round =>
    obtain ⟨j, hj, rfl, rfl, hB, HJ⟩ := hrel
    by_cases hlt : j < 13
    · have hix := fun W => HI.out j hlt W
      cases he : ((st axNames j).toList == s.toList) with
      | true =>
        have hv := Lib.hid (HA.out j hlt HJ.out he)
        generalize st axNames j = x at *
        go_wp2_with fail
        go_ret
        rw [hv.out]
        exact ⟨rfl, hB⟩
      | false =>
        have HS := Lib.hid (HJ.out.succ he)
        generalize st axNames j = x at *
        go_wp2_with fail
        go_roundg (13 - (j + 1))
        case measure => omega
        case rel => exact ⟨j + 1, by omega, rfl, by go_num, hB, HS⟩
    · have hjn : j = 13 := by omega
      subst hjn
      have hv := Lib.hid (HZ.out HJ.out)
      go_wp2_with fail
      go_ret
      rw [hv.out]
      exact ⟨rfl, hB⟩

theorem implAxiom_c (s : ByteArray) (w : World) (hN : TabAt w 1 axNames) (hX : TabAt w 0 axTexts) :
    Calls Tryz.prog 19 #[.string s] w (GivesC w (axF s)) := by
  have hF := axiomAt_c s w hN
  rcases findS_range axNames s with hf | ⟨k, hk, hf⟩
  · rw [axF_none hf]
    rw [hf] at hF
    have HF := Lib.hid hF
    clear hF hf
    go_enter Tryz.func19, Tryz.ntmps19
    go_wp2_with fail
    refine HF.out.mono ?_
    rintro e w1 ⟨rfl, hg1⟩
    go_wp2_with fail
    go_ret2
    exact ⟨_, rfl, Own.nil_ _ _, hg1⟩
  · rw [axF_some hf]
    have hP := fun w => parsed_c (st axTexts k) w (by have := axTexts_small hk; omega)
    rw [ax_pf hk] at hP
    have k1 : ∀ W, Grew w W → W.cell? ⟨0, k, none⟩ = some (.string (st axTexts k)) := fun W hW => (hX.grew hW).cell hk
    rw [hf] at hF
    have HF := Lib.hid hF
    have HP := Lib.hid hP
    have hk13 : k < 13 := hk
    clear hF hf hP
    generalize st axTexts k = tx at *
    go_enter Tryz.func19, Tryz.ntmps19
    go_wp2_with fail
    refine HF.out.mono ?_
    rintro e w1 ⟨rfl, hg1⟩
    go_wp2_with fail
    refine (HP.out _).mono ?_
    rintro e w3 ⟨v3, rfl, ho3, hg3, _⟩
    go_wp2_with fail
    go_ret2
    exact ⟨_, rfl, ho3.base hg1.size, hg1.trans hg3⟩

theorem axF_len (s : ByteArray) : (axF s).1.length ≤ 40 := by
  rcases findS_range axNames s with hf | ⟨k, hk, hf⟩
  · rw [axF_none hf]; simp
  · rw [axF_some hf]; exact (axTree_len hk).1

end Go.Proofs.YtpfncncohnhanaaGreatDoor

/- axiomHolds of the program, axiom by axiom. -/
namespace Go.Proofs.YtpfncncohnhanaaGreatDoor
open Go.RowKit

theorem eq_zero_b (m : Nat) : (((m : Nat) : Int) == 0) = decide (m = 0) := by
  rw [Bool.eq_iff_iff]
  simp
theorem ver_k (v : Value) (A : List Nat) (bf : Nat) (w : World) (h : Ints w v (zs A)) (_k0 : ∀ W, Grew w W → W.cell? ⟨bf, 0, none⟩ = some (.int .i64 (A.length : Int))) (k1 : ∀ W, Grew w W → W.cell? ⟨bf, 1, none⟩ = some v) :
    PredW w 135 #[.pointer (some ⟨bf, 0, none⟩)] A.length (fun x => decide (nt A x = 0)) := by
  intro x W hx hW
  have y1 := k1 W hW
  have hb := eq_zero_b (nt A x)
  show Calls Tryz.prog 135 #[.int .i64 (x : Int), .pointer (some ⟨bf, 0, none⟩)] W fun e W' => e = .returned (.bool (decide (nt A x = 0))) ∧ Grew W W'
  rw [← hb]
  obtain ⟨A', c, rfl⟩ := ints_sliceN h
  obtain ⟨b, o, rfl, hc1⟩ := cellsN h (by omega)
  have z1 := hc1 x hx W hW
  clear h _k0 k1 hc1 hb
  generalize nt A x = m at *
  generalize A.length = n at *
  go_enter Tryz.func135, Tryz.ntmps135
  go_wp2_with fail
  go_ret
  exact ⟨rfl, Grew.refl _⟩
theorem tri_k (v : Value) (A : List Nat) (bf : Nat) (w : World) (h : Ints w v (zs A)) (hA : Rl A) (k0 : ∀ W, Grew w W → W.cell? ⟨bf, 0, none⟩ = some (.int .i64 (A.length : Int))) (k1 : ∀ W, Grew w W → W.cell? ⟨bf, 1, none⟩ = some v) :
    PredW w 137 #[.pointer (some ⟨bf, 0, none⟩)] A.length (fun x => decide (dif (nt A x) (2 ^ x) = 0)) := by
  intro x W hx hW
  have y0 := fun V (hV : Grew W V) => k0 V (hW.trans hV)
  have y1 := fun V (hV : Grew W V) => k1 V (hW.trans hV)
  have hn := hA.1
  have hlA := hA.sm.at_ hx
  have hp := wrap_pow (k := x) (by omega)
  have hlp := pow30' (k := x) (by omega)
  have KW := Lib.hid (within_q (nt A x) (2 ^ x) (by omega) (by omega))
  show Calls Tryz.prog 137 #[.int .i64 (x : Int), .pointer (some ⟨bf, 0, none⟩)] W fun e W' => e = .returned (.bool (decide (dif (nt A x) (2 ^ x) = 0))) ∧ Grew W W'
  obtain ⟨A', c, rfl⟩ := ints_sliceN h
  obtain ⟨b, o, rfl, hc1⟩ := cellsN h (by omega)
  have z1 := fun V (hV : Grew W V) => hc1 x hx V (hW.trans hV)
  clear h hc1 k0 k1 hA
  generalize nt A x = p1 at *
  generalize (2 ^ x : Nat) = p at *
  generalize decide (dif p1 p = 0) = R at *
  generalize A.length = n at *
  have hi0 : (0 : Int) ≤ (x : Int) := by omega
  have hi6 : (x : Int) < (n : Int) := by omega
  have hr1 := Grew.refl W
  have hd1 := (Grew.refl W).drew
  go_enter Tryz.func137, Tryz.ntmps137
  go_wp2_with fail
  go_quiet (first | (go_at_call 138; exact Calls.quiet_of_same (KW.out _)))
  go_wp2_with fail
  go_ret
  exact ⟨rfl, (Grew.refl _).drewN _⟩
theorem ver_c (v : Value) (A : List Nat) (w : World) (h : Ints w v (zs A)) (hA : Rl A) :
    Calls Tryz.prog 133 #[.agg #[.int .i64 (A.length : Int), v]] w fun e w' => e = .returned (.bool (verB A)) ∧ Grew w w' := by
  have hal := (Grew.refl w).alloc (.cells #[.int .i64 (A.length : Int), v] 26)
  have HG := Lib.hid hal
  have eg := enters_of Tryz.func135 (by kernel_rfl) rfl
  have y0 : ∀ W, Grew (w.alloc (.cells #[.int .i64 (A.length : Int), v] 26)) W → W.cell? ⟨w.heap.size, 0, none⟩ = some (.int .i64 (A.length : Int)) := fun W hW => (hW.cell (p := ⟨w.heap.size, 0, none⟩) (by simp)).trans (by simp)
  have y1 : ∀ W, Grew (w.alloc (.cells #[.int .i64 (A.length : Int), v] 26)) W → W.cell? ⟨w.heap.size, 1, none⟩ = some v := fun W hW => (hW.cell (p := ⟨w.heap.size, 1, none⟩) (by simp)).trans (by simp)
  have KE := Lib.hid (everyWorld_c v A.length 135 #[.pointer (some ⟨w.heap.size, 0, none⟩)] _ (w.alloc (.cells #[.int .i64 (A.length : Int), v] 26)) hA.1 (by obtain ⟨A', c, e⟩ := ints_slice h; exact ⟨_, _, _, e⟩) (ver_k v A w.heap.size _ (h.grew (hal.alloc _)) (fun V hV => y0 V (((Grew.refl _).alloc _).trans hV)) (fun V hV => y1 V (((Grew.refl _).alloc _).trans hV))) eg)
  rw [show allB A.length (fun x => decide (nt A x = 0)) = verB A from rfl] at KE
  obtain ⟨A', c, rfl⟩ := ints_sliceN h
  clear h hA hal eg
  generalize verB A = R at *
  generalize A.length = n at *
  go_enter Tryz.func133, Tryz.ntmps133
  go_wp2_with fail
  refine (KE.out).mono ?_
  rintro e w2 ⟨rfl, hg3⟩
  go_wp2_with fail
  go_ret
  exact ⟨rfl, HG.out.trans hg3⟩
theorem tri_c (v : Value) (A : List Nat) (w : World) (h : Ints w v (zs A)) (hA : Rl A) :
    Calls Tryz.prog 136 #[.agg #[.int .i64 (A.length : Int), v]] w fun e w' => e = .returned (.bool (triB A)) ∧ Grew w w' := by
  have hal := (Grew.refl w).alloc (.cells #[.int .i64 (A.length : Int), v] 26)
  have HG := Lib.hid hal
  have eg := enters_of Tryz.func137 (by kernel_rfl) rfl
  have y0 : ∀ W, Grew (w.alloc (.cells #[.int .i64 (A.length : Int), v] 26)) W → W.cell? ⟨w.heap.size, 0, none⟩ = some (.int .i64 (A.length : Int)) := fun W hW => (hW.cell (p := ⟨w.heap.size, 0, none⟩) (by simp)).trans (by simp)
  have y1 : ∀ W, Grew (w.alloc (.cells #[.int .i64 (A.length : Int), v] 26)) W → W.cell? ⟨w.heap.size, 1, none⟩ = some v := fun W hW => (hW.cell (p := ⟨w.heap.size, 1, none⟩) (by simp)).trans (by simp)
  have KE := Lib.hid (everyWorld_c v A.length 137 #[.pointer (some ⟨w.heap.size, 0, none⟩)] _ (w.alloc (.cells #[.int .i64 (A.length : Int), v] 26)) hA.1 (by obtain ⟨A', c, e⟩ := ints_slice h; exact ⟨_, _, _, e⟩) (tri_k v A w.heap.size _ (h.grew (hal.alloc _)) hA (fun V hV => y0 V (((Grew.refl _).alloc _).trans hV)) (fun V hV => y1 V (((Grew.refl _).alloc _).trans hV))) eg)
  rw [show allB A.length (fun x => decide (dif (nt A x) (2 ^ x) = 0)) = triB A from rfl] at KE
  obtain ⟨A', c, rfl⟩ := ints_sliceN h
  clear h hA hal eg
  generalize triB A = R at *
  generalize A.length = n at *
  go_enter Tryz.func136, Tryz.ntmps136
  go_wp2_with fail
  refine (KE.out).mono ?_
  rintro e w2 ⟨rfl, hg3⟩
  go_wp2_with fail
  go_ret
  exact ⟨rfl, HG.out.trans hg3⟩
theorem cond0_c (v : Value) (A : List Nat) (B bl : Nat) (w : World) (h : Ints w v (zs A)) (hA : Rl A) (_h8 : A.length ≤ 8) (hf : FlagsAt w B bl [2]) :
    Calls Tryz.prog 166 #[.agg #[.int .i64 (A.length : Int), v], .pointer (some ⟨bl, 0, none⟩)] w fun e w' => e = .returned (.bool (axB A 0)) ∧ Grew w w' := by
  have hvs : ∃ X m c, v = .slice X m c := by obtain ⟨A', c, e⟩ := ints_slice h; exact ⟨_, _, _, e⟩
  obtain ⟨u, h1, _, h2, h3⟩ := hf
  have K := flag1_all v u (A.length : Int) [2] (fun _ => transB A) bl w hvs h1 h2 h3.ints (fun x hx W hW => by rw [List.mem_singleton.1 hx]; exact hasFlag2_c v A W (h.grew hW) hA)
  rw [show ([2] : List Int).all (fun _ => transB A) = axB A 0 from Bool.and_true _] at K
  exact K
theorem cond1_c (v : Value) (A : List Nat) (B bl : Nat) (w : World) (h : Ints w v (zs A)) (hA : Rl A) (_h8 : A.length ≤ 8) (hf : FlagsAt w B bl [4]) :
    Calls Tryz.prog 166 #[.agg #[.int .i64 (A.length : Int), v], .pointer (some ⟨bl, 0, none⟩)] w fun e w' => e = .returned (.bool (axB A 1)) ∧ Grew w w' := by
  have hvs : ∃ X m c, v = .slice X m c := by obtain ⟨A', c, e⟩ := ints_slice h; exact ⟨_, _, _, e⟩
  obtain ⟨u, h1, _, h2, h3⟩ := hf
  have K := flag1_all v u (A.length : Int) [4] (fun _ => eucB A) bl w hvs h1 h2 h3.ints (fun x hx W hW => by rw [List.mem_singleton.1 hx]; exact hasFlag4_c v A W (h.grew hW) hA)
  rw [show ([4] : List Int).all (fun _ => eucB A) = axB A 1 from Bool.and_true _] at K
  exact K
theorem cond2_c (v : Value) (A : List Nat) (B bl : Nat) (w : World) (h : Ints w v (zs A)) (hA : Rl A) (_h8 : A.length ≤ 8) (hf : FlagsAt w B bl [3]) :
    Calls Tryz.prog 166 #[.agg #[.int .i64 (A.length : Int), v], .pointer (some ⟨bl, 0, none⟩)] w fun e w' => e = .returned (.bool (axB A 2)) ∧ Grew w w' := by
  have hvs : ∃ X m c, v = .slice X m c := by obtain ⟨A', c, e⟩ := ints_slice h; exact ⟨_, _, _, e⟩
  obtain ⟨u, h1, _, h2, h3⟩ := hf
  have K := flag1_all v u (A.length : Int) [3] (fun _ => symB A) bl w hvs h1 h2 h3.ints (fun x hx W hW => by rw [List.mem_singleton.1 hx]; exact hasFlag3_c v A W (h.grew hW) hA)
  rw [show ([3] : List Int).all (fun _ => symB A) = axB A 2 from Bool.and_true _] at K
  exact K
theorem cond3_c (v : Value) (A : List Nat) (B bl : Nat) (w : World) (h : Ints w v (zs A)) (hA : Rl A) (_h8 : A.length ≤ 8) (hf : FlagsAt w B bl [9]) :
    Calls Tryz.prog 166 #[.agg #[.int .i64 (A.length : Int), v], .pointer (some ⟨bl, 0, none⟩)] w fun e w' => e = .returned (.bool (axB A 3)) ∧ Grew w w' := by
  have hvs : ∃ X m c, v = .slice X m c := by obtain ⟨A', c, e⟩ := ints_slice h; exact ⟨_, _, _, e⟩
  obtain ⟨u, h1, _, h2, h3⟩ := hf
  have K := flag1_all v u (A.length : Int) [9] (fun _ => denB A) bl w hvs h1 h2 h3.ints (fun x hx W hW => by rw [List.mem_singleton.1 hx]; exact hasFlag9_c v A W (h.grew hW) hA)
  rw [show ([9] : List Int).all (fun _ => denB A) = axB A 3 from Bool.and_true _] at K
  exact K
theorem cond4_c (v : Value) (A : List Nat) (B bl : Nat) (w : World) (h : Ints w v (zs A)) (hA : Rl A) (_h8 : A.length ≤ 8) (hf : FlagsAt w B bl [1]) :
    Calls Tryz.prog 166 #[.agg #[.int .i64 (A.length : Int), v], .pointer (some ⟨bl, 0, none⟩)] w fun e w' => e = .returned (.bool (axB A 4)) ∧ Grew w w' := by
  have hvs : ∃ X m c, v = .slice X m c := by obtain ⟨A', c, e⟩ := ints_slice h; exact ⟨_, _, _, e⟩
  obtain ⟨u, h1, _, h2, h3⟩ := hf
  have K := flag1_all v u (A.length : Int) [1] (fun _ => serB A) bl w hvs h1 h2 h3.ints (fun x hx W hW => by rw [List.mem_singleton.1 hx]; exact hasFlag1_c v A W (h.grew hW) hA)
  rw [show ([1] : List Int).all (fun _ => serB A) = axB A 4 from Bool.and_true _] at K
  exact K
theorem cond5_c (v : Value) (A : List Nat) (B bl : Nat) (w : World) (h : Ints w v (zs A)) (hA : Rl A) (h8 : A.length ≤ 8) (hf : FlagsAt w B bl [10]) :
    Calls Tryz.prog 166 #[.agg #[.int .i64 (A.length : Int), v], .pointer (some ⟨bl, 0, none⟩)] w fun e w' => e = .returned (.bool (axB A 5)) ∧ Grew w w' := by
  have hvs : ∃ X m c, v = .slice X m c := by obtain ⟨A', c, e⟩ := ints_slice h; exact ⟨_, _, _, e⟩
  obtain ⟨u, h1, _, h2, h3⟩ := hf
  have K := flag1_all v u (A.length : Int) [10] (fun _ => funB A) bl w hvs h1 h2 h3.ints (fun x hx W hW => by rw [List.mem_singleton.1 hx]; exact hasFlag10_c v A W (h.grew hW) hA h8)
  rw [show ([10] : List Int).all (fun _ => funB A) = axB A 5 from Bool.and_true _] at K
  exact K
theorem cond6_c (v : Value) (A : List Nat) (B bl : Nat) (w : World) (h : Ints w v (zs A)) (hA : Rl A) (_h8 : A.length ≤ 8) (hf : FlagsAt w B bl [5]) :
    Calls Tryz.prog 166 #[.agg #[.int .i64 (A.length : Int), v], .pointer (some ⟨bl, 0, none⟩)] w fun e w' => e = .returned (.bool (axB A 6)) ∧ Grew w w' := by
  have hvs : ∃ X m c, v = .slice X m c := by obtain ⟨A', c, e⟩ := ints_slice h; exact ⟨_, _, _, e⟩
  obtain ⟨u, h1, _, h2, h3⟩ := hf
  have K := flag1_all v u (A.length : Int) [5] (fun _ => dirB A) bl w hvs h1 h2 h3.ints (fun x hx W hW => by rw [List.mem_singleton.1 hx]; exact hasFlag5_c v A W (h.grew hW) hA)
  rw [show ([5] : List Int).all (fun _ => dirB A) = axB A 6 from Bool.and_true _] at K
  exact K
theorem cond7_c (v : Value) (A : List Nat) (B bl : Nat) (w : World) (h : Ints w v (zs A)) (hA : Rl A) (_h8 : A.length ≤ 8) (hf : FlagsAt w B bl [6]) :
    Calls Tryz.prog 166 #[.agg #[.int .i64 (A.length : Int), v], .pointer (some ⟨bl, 0, none⟩)] w fun e w' => e = .returned (.bool (axB A 7)) ∧ Grew w w' := by
  have hvs : ∃ X m c, v = .slice X m c := by obtain ⟨A', c, e⟩ := ints_slice h; exact ⟨_, _, _, e⟩
  obtain ⟨u, h1, _, h2, h3⟩ := hf
  have K := flag1_all v u (A.length : Int) [6] (fun _ => conB A) bl w hvs h1 h2 h3.ints (fun x hx W hW => by rw [List.mem_singleton.1 hx]; exact hasFlag6_c v A W (h.grew hW) hA)
  rw [show ([6] : List Int).all (fun _ => conB A) = axB A 7 from Bool.and_true _] at K
  exact K
theorem cond8_c (v : Value) (A : List Nat) (B bl : Nat) (w : World) (h : Ints w v (zs A)) (hA : Rl A) (_h8 : A.length ≤ 8) (hf : FlagsAt w B bl [2, 7]) :
    Calls Tryz.prog 166 #[.agg #[.int .i64 (A.length : Int), v], .pointer (some ⟨bl, 0, none⟩)] w fun e w' => e = .returned (.bool (axB A 8)) ∧ Grew w w' := by
  have hvs : ∃ X m c, v = .slice X m c := by obtain ⟨A', c, e⟩ := ints_slice h; exact ⟨_, _, _, e⟩
  obtain ⟨u, h1, _, h2, h3⟩ := hf
  cases ht : transB A with
  | false =>
    have K := flag1_head v u (A.length : Int) 2 [7] bl w hvs h1 h2 h3.ints (fun W hW => by have := hasFlag2_c v A W (h.grew hW) hA; rwa [ht] at this)
    rw [show axB A 8 = (transB A && irrB A) from rfl, ht]
    exact K
  | true =>
    have K := flag1_all v u (A.length : Int) [2, 7] (fun x => if x = 2 then transB A else irrB A) bl w hvs h1 h2 h3.ints (fun x hx W hW => by
      rcases List.mem_cons.1 hx with rfl | hx
      · exact hasFlag2_c v A W (h.grew hW) hA
      · rw [List.mem_singleton.1 hx]; exact hasFlag7_c v A W (h.grew hW) hA ((transB_iff hA).1 ht))
    rw [show ([2, 7] : List Int).all (fun x => if x = 2 then transB A else irrB A) = axB A 8 from by
      show (transB A && (irrB A && true)) = _
      rw [Bool.and_true]; rfl] at K
    exact K
theorem cond9_c (v : Value) (A : List Nat) (B bl : Nat) (w : World) (h : Ints w v (zs A)) (hA : Rl A) (_h8 : A.length ≤ 8) (hf : FlagsAt w B bl [0]) :
    Calls Tryz.prog 166 #[.agg #[.int .i64 (A.length : Int), v], .pointer (some ⟨bl, 0, none⟩)] w fun e w' => e = .returned (.bool (axB A 9)) ∧ Grew w w' := by
  have hvs : ∃ X m c, v = .slice X m c := by obtain ⟨A', c, e⟩ := ints_slice h; exact ⟨_, _, _, e⟩
  obtain ⟨u, h1, _, h2, h3⟩ := hf
  have K := flag1_all v u (A.length : Int) [0] (fun _ => reflB A) bl w hvs h1 h2 h3.ints (fun x hx W hW => by rw [List.mem_singleton.1 hx]; exact hasFlag0_c v A W (h.grew hW) hA)
  rw [show ([0] : List Int).all (fun _ => reflB A) = axB A 9 from Bool.and_true _] at K
  exact K
theorem cond12_c (v : Value) (A : List Nat) (B bl : Nat) (w : World) (h : Ints w v (zs A)) (hA : Rl A) (_h8 : A.length ≤ 8) (hf : FlagsAt w B bl [0, 2, 8]) :
    Calls Tryz.prog 166 #[.agg #[.int .i64 (A.length : Int), v], .pointer (some ⟨bl, 0, none⟩)] w fun e w' => e = .returned (.bool (axB A 12)) ∧ Grew w w' := by
  have hvs : ∃ X m c, v = .slice X m c := by obtain ⟨A', c, e⟩ := ints_slice h; exact ⟨_, _, _, e⟩
  obtain ⟨u, h1, _, h2, h3⟩ := hf
  have K := flag1_all v u (A.length : Int) [0, 2, 8] (fun x => if x = 0 then reflB A else if x = 2 then transB A else antiB A) bl w hvs h1 h2 h3.ints (fun x hx W hW => by
    rcases List.mem_cons.1 hx with rfl | hx
    · exact hasFlag0_c v A W (h.grew hW) hA
    rcases List.mem_cons.1 hx with rfl | hx
    · exact hasFlag2_c v A W (h.grew hW) hA
    · rw [List.mem_singleton.1 hx]; exact hasFlag8_c v A W (h.grew hW) hA)
  rw [show ([0, 2, 8] : List Int).all (fun x => if x = 0 then reflB A else if x = 2 then transB A else antiB A) = axB A 12 from by
    show (reflB A && (transB A && (antiB A && true))) = _
    rw [Bool.and_true]; rfl] at K
  exact K
set_option maxRecDepth 100000 in
theorem condIx_0 (a0 a1 a2 a3 a4 a5 a6 a7 a8 a9 a10 a11 a12 : Value) (w : World) : (Instr.index 109 (.agg #[a0, a1, a2, a3, a4, a5, a6, a7, a8, a9, a10, a11, a12]) (.int .i64 0)).run Tryz.prog w = .ok a0 w := rfl
set_option maxRecDepth 100000 in
theorem condIx_1 (a0 a1 a2 a3 a4 a5 a6 a7 a8 a9 a10 a11 a12 : Value) (w : World) : (Instr.index 109 (.agg #[a0, a1, a2, a3, a4, a5, a6, a7, a8, a9, a10, a11, a12]) (.int .i64 1)).run Tryz.prog w = .ok a1 w := rfl
set_option maxRecDepth 100000 in
theorem condIx_2 (a0 a1 a2 a3 a4 a5 a6 a7 a8 a9 a10 a11 a12 : Value) (w : World) : (Instr.index 109 (.agg #[a0, a1, a2, a3, a4, a5, a6, a7, a8, a9, a10, a11, a12]) (.int .i64 2)).run Tryz.prog w = .ok a2 w := rfl
set_option maxRecDepth 100000 in
theorem condIx_3 (a0 a1 a2 a3 a4 a5 a6 a7 a8 a9 a10 a11 a12 : Value) (w : World) : (Instr.index 109 (.agg #[a0, a1, a2, a3, a4, a5, a6, a7, a8, a9, a10, a11, a12]) (.int .i64 3)).run Tryz.prog w = .ok a3 w := rfl
set_option maxRecDepth 100000 in
theorem condIx_4 (a0 a1 a2 a3 a4 a5 a6 a7 a8 a9 a10 a11 a12 : Value) (w : World) : (Instr.index 109 (.agg #[a0, a1, a2, a3, a4, a5, a6, a7, a8, a9, a10, a11, a12]) (.int .i64 4)).run Tryz.prog w = .ok a4 w := rfl
set_option maxRecDepth 100000 in
theorem condIx_5 (a0 a1 a2 a3 a4 a5 a6 a7 a8 a9 a10 a11 a12 : Value) (w : World) : (Instr.index 109 (.agg #[a0, a1, a2, a3, a4, a5, a6, a7, a8, a9, a10, a11, a12]) (.int .i64 5)).run Tryz.prog w = .ok a5 w := rfl
set_option maxRecDepth 100000 in
theorem condIx_6 (a0 a1 a2 a3 a4 a5 a6 a7 a8 a9 a10 a11 a12 : Value) (w : World) : (Instr.index 109 (.agg #[a0, a1, a2, a3, a4, a5, a6, a7, a8, a9, a10, a11, a12]) (.int .i64 6)).run Tryz.prog w = .ok a6 w := rfl
set_option maxRecDepth 100000 in
theorem condIx_7 (a0 a1 a2 a3 a4 a5 a6 a7 a8 a9 a10 a11 a12 : Value) (w : World) : (Instr.index 109 (.agg #[a0, a1, a2, a3, a4, a5, a6, a7, a8, a9, a10, a11, a12]) (.int .i64 7)).run Tryz.prog w = .ok a7 w := rfl
set_option maxRecDepth 100000 in
theorem condIx_8 (a0 a1 a2 a3 a4 a5 a6 a7 a8 a9 a10 a11 a12 : Value) (w : World) : (Instr.index 109 (.agg #[a0, a1, a2, a3, a4, a5, a6, a7, a8, a9, a10, a11, a12]) (.int .i64 8)).run Tryz.prog w = .ok a8 w := rfl
set_option maxRecDepth 100000 in
theorem condIx_9 (a0 a1 a2 a3 a4 a5 a6 a7 a8 a9 a10 a11 a12 : Value) (w : World) : (Instr.index 109 (.agg #[a0, a1, a2, a3, a4, a5, a6, a7, a8, a9, a10, a11, a12]) (.int .i64 9)).run Tryz.prog w = .ok a9 w := rfl
set_option maxRecDepth 100000 in
theorem condIx_10 (a0 a1 a2 a3 a4 a5 a6 a7 a8 a9 a10 a11 a12 : Value) (w : World) : (Instr.index 109 (.agg #[a0, a1, a2, a3, a4, a5, a6, a7, a8, a9, a10, a11, a12]) (.int .i64 10)).run Tryz.prog w = .ok a10 w := rfl
set_option maxRecDepth 100000 in
theorem condIx_11 (a0 a1 a2 a3 a4 a5 a6 a7 a8 a9 a10 a11 a12 : Value) (w : World) : (Instr.index 109 (.agg #[a0, a1, a2, a3, a4, a5, a6, a7, a8, a9, a10, a11, a12]) (.int .i64 11)).run Tryz.prog w = .ok a11 w := rfl
set_option maxRecDepth 100000 in
theorem condIx_12 (a0 a1 a2 a3 a4 a5 a6 a7 a8 a9 a10 a11 a12 : Value) (w : World) : (Instr.index 109 (.agg #[a0, a1, a2, a3, a4, a5, a6, a7, a8, a9, a10, a11, a12]) (.int .i64 12)).run Tryz.prog w = .ok a12 w := rfl
set_option maxHeartbeats 1000000 in
set_option maxRecDepth 100000 in
theorem axiomHolds_0 (v : Value) (A : List Nat) (w : World) (h : Ints w v (zs A)) (hA : Rl A) (h8 : A.length ≤ 8) (hN : TabAt w 1 axNames) (hf : findS axNames ⟨#[52]⟩ = 0) :
    Calls Tryz.prog 48 #[.agg #[.int .i64 (A.length : Int), v], .string ⟨#[52]⟩] w fun e w' => e = .returned (.bool (axB A 0)) ∧ Grew w w' := by
  have HT := Lib.hid (fun W (hW : Grew w W) => axiomAt_c ⟨#[52]⟩ W (hN.grew hW))
  rw [hf] at HT
  have HD := Lib.hid (fun W (hW : Grew w W) (B bl : Nat) (hf : FlagsAt W B bl [2]) => cond0_c _ A B bl W (h.grew hW) hA h8 hf)
  have hal := (Grew.refl w).alloc (.cells #[.int .i64 (A.length : Int), v] 26)
  obtain ⟨w1, hw1⟩ : ∃ w1, w1 = w.alloc (.cells #[.int .i64 (A.length : Int), v] 26) := ⟨_, rfl⟩
  rw [← hw1] at hal
  have hb0 : w1.heap[w.heap.size]? = some (.cells #[.int .i64 (A.length : Int), v] 26 (0, 0)) := by rw [hw1]; exact blk_new w _
  have p0 : ∀ W, Grew w1 W → W.cell? ⟨w.heap.size, 0, none⟩ = some (.int .i64 (A.length : Int)) := fun W hW => by rw [blk_cell ((hW.block (blk_lt hb0)).trans hb0)]; rfl
  have p1 : ∀ W, Grew w1 W → W.cell? ⟨w.heap.size, 1, none⟩ = some v := fun W hW => by rw [blk_cell ((hW.block (blk_lt hb0)).trans hb0)]; rfl
  have HAL := Lib.hid hal
  obtain ⟨A1, c1, rfl⟩ := ints_sliceN h
  have r1 := Grew.refl w1
  have d1 := r1.drew
  have hix := condIx_0
  clear h hA hb0 hal h8
  generalize axB A 0 = R at *
  generalize A.length = n at *
  go_enter Tryz.func48, Tryz.ntmps48
  go_wp2_with fail
  simp only [← hw1]
  clear hw1
  go_region_held3 (fun w' => Grew w1 w') (first | assumption | exact Grew.drew ‹_›) (first
    | (go_at_call 166; refine (HD.out _ (HAL.out.trans h3) _ _ (f0.out.grew hg3)).mono ?_; rintro e w4 ⟨rfl, hg4⟩; have h4 := h3.trans hg4)
    | (go_at_call 47; refine (HT.out _ (HAL.out.trans h2)).mono ?_; rintro e w3 ⟨rfl, hg3⟩; have h3 := h2.trans hg3)
    | (go_at_call 91; refine (conditions_c _).mono ?_; rintro e w2 ⟨b0, b1, b2, b3, b4, b5, b6, b7, b8, b9, b10, rfl, f0, -, -, -, -, -, -, -, -, -, -, hg2⟩; have f0 := Lib.hid f0; have h2 := d1.trans hg2))
  go_wp2_with fail
  go_ret
  exact ⟨rfl, HAL.out.trans h4⟩
set_option maxHeartbeats 1000000 in
set_option maxRecDepth 100000 in
theorem axiomHolds_1 (v : Value) (A : List Nat) (w : World) (h : Ints w v (zs A)) (hA : Rl A) (h8 : A.length ≤ 8) (hN : TabAt w 1 axNames) (hf : findS axNames ⟨#[53]⟩ = 1) :
    Calls Tryz.prog 48 #[.agg #[.int .i64 (A.length : Int), v], .string ⟨#[53]⟩] w fun e w' => e = .returned (.bool (axB A 1)) ∧ Grew w w' := by
  have HT := Lib.hid (fun W (hW : Grew w W) => axiomAt_c ⟨#[53]⟩ W (hN.grew hW))
  rw [hf] at HT
  have HD := Lib.hid (fun W (hW : Grew w W) (B bl : Nat) (hf : FlagsAt W B bl [4]) => cond1_c _ A B bl W (h.grew hW) hA h8 hf)
  have hal := (Grew.refl w).alloc (.cells #[.int .i64 (A.length : Int), v] 26)
  obtain ⟨w1, hw1⟩ : ∃ w1, w1 = w.alloc (.cells #[.int .i64 (A.length : Int), v] 26) := ⟨_, rfl⟩
  rw [← hw1] at hal
  have hb0 : w1.heap[w.heap.size]? = some (.cells #[.int .i64 (A.length : Int), v] 26 (0, 0)) := by rw [hw1]; exact blk_new w _
  have p0 : ∀ W, Grew w1 W → W.cell? ⟨w.heap.size, 0, none⟩ = some (.int .i64 (A.length : Int)) := fun W hW => by rw [blk_cell ((hW.block (blk_lt hb0)).trans hb0)]; rfl
  have p1 : ∀ W, Grew w1 W → W.cell? ⟨w.heap.size, 1, none⟩ = some v := fun W hW => by rw [blk_cell ((hW.block (blk_lt hb0)).trans hb0)]; rfl
  have HAL := Lib.hid hal
  obtain ⟨A1, c1, rfl⟩ := ints_sliceN h
  have r1 := Grew.refl w1
  have d1 := r1.drew
  have hix := condIx_1
  clear h hA hb0 hal h8
  generalize axB A 1 = R at *
  generalize A.length = n at *
  go_enter Tryz.func48, Tryz.ntmps48
  go_wp2_with fail
  simp only [← hw1]
  clear hw1
  go_region_held3 (fun w' => Grew w1 w') (first | assumption | exact Grew.drew ‹_›) (first
    | (go_at_call 166; refine (HD.out _ (HAL.out.trans h3) _ _ (f1.out.grew hg3)).mono ?_; rintro e w4 ⟨rfl, hg4⟩; have h4 := h3.trans hg4)
    | (go_at_call 47; refine (HT.out _ (HAL.out.trans h2)).mono ?_; rintro e w3 ⟨rfl, hg3⟩; have h3 := h2.trans hg3)
    | (go_at_call 91; refine (conditions_c _).mono ?_; rintro e w2 ⟨b0, b1, b2, b3, b4, b5, b6, b7, b8, b9, b10, rfl, -, f1, -, -, -, -, -, -, -, -, -, hg2⟩; have f1 := Lib.hid f1; have h2 := d1.trans hg2))
  go_wp2_with fail
  go_ret
  exact ⟨rfl, HAL.out.trans h4⟩
set_option maxHeartbeats 1000000 in
set_option maxRecDepth 100000 in
theorem axiomHolds_2 (v : Value) (A : List Nat) (w : World) (h : Ints w v (zs A)) (hA : Rl A) (h8 : A.length ≤ 8) (hN : TabAt w 1 axNames) (hf : findS axNames ⟨#[66]⟩ = 2) :
    Calls Tryz.prog 48 #[.agg #[.int .i64 (A.length : Int), v], .string ⟨#[66]⟩] w fun e w' => e = .returned (.bool (axB A 2)) ∧ Grew w w' := by
  have HT := Lib.hid (fun W (hW : Grew w W) => axiomAt_c ⟨#[66]⟩ W (hN.grew hW))
  rw [hf] at HT
  have HD := Lib.hid (fun W (hW : Grew w W) (B bl : Nat) (hf : FlagsAt W B bl [3]) => cond2_c _ A B bl W (h.grew hW) hA h8 hf)
  have hal := (Grew.refl w).alloc (.cells #[.int .i64 (A.length : Int), v] 26)
  obtain ⟨w1, hw1⟩ : ∃ w1, w1 = w.alloc (.cells #[.int .i64 (A.length : Int), v] 26) := ⟨_, rfl⟩
  rw [← hw1] at hal
  have hb0 : w1.heap[w.heap.size]? = some (.cells #[.int .i64 (A.length : Int), v] 26 (0, 0)) := by rw [hw1]; exact blk_new w _
  have p0 : ∀ W, Grew w1 W → W.cell? ⟨w.heap.size, 0, none⟩ = some (.int .i64 (A.length : Int)) := fun W hW => by rw [blk_cell ((hW.block (blk_lt hb0)).trans hb0)]; rfl
  have p1 : ∀ W, Grew w1 W → W.cell? ⟨w.heap.size, 1, none⟩ = some v := fun W hW => by rw [blk_cell ((hW.block (blk_lt hb0)).trans hb0)]; rfl
  have HAL := Lib.hid hal
  obtain ⟨A1, c1, rfl⟩ := ints_sliceN h
  have r1 := Grew.refl w1
  have d1 := r1.drew
  have hix := condIx_2
  clear h hA hb0 hal h8
  generalize axB A 2 = R at *
  generalize A.length = n at *
  go_enter Tryz.func48, Tryz.ntmps48
  go_wp2_with fail
  simp only [← hw1]
  clear hw1
  go_region_held3 (fun w' => Grew w1 w') (first | assumption | exact Grew.drew ‹_›) (first
    | (go_at_call 166; refine (HD.out _ (HAL.out.trans h3) _ _ (f2.out.grew hg3)).mono ?_; rintro e w4 ⟨rfl, hg4⟩; have h4 := h3.trans hg4)
    | (go_at_call 47; refine (HT.out _ (HAL.out.trans h2)).mono ?_; rintro e w3 ⟨rfl, hg3⟩; have h3 := h2.trans hg3)
    | (go_at_call 91; refine (conditions_c _).mono ?_; rintro e w2 ⟨b0, b1, b2, b3, b4, b5, b6, b7, b8, b9, b10, rfl, -, -, f2, -, -, -, -, -, -, -, -, hg2⟩; have f2 := Lib.hid f2; have h2 := d1.trans hg2))
  go_wp2_with fail
  go_ret
  exact ⟨rfl, HAL.out.trans h4⟩
set_option maxHeartbeats 1000000 in
set_option maxRecDepth 100000 in
theorem axiomHolds_3 (v : Value) (A : List Nat) (w : World) (h : Ints w v (zs A)) (hA : Rl A) (h8 : A.length ≤ 8) (hN : TabAt w 1 axNames) (hf : findS axNames ⟨#[67]⟩ = 3) :
    Calls Tryz.prog 48 #[.agg #[.int .i64 (A.length : Int), v], .string ⟨#[67]⟩] w fun e w' => e = .returned (.bool (axB A 3)) ∧ Grew w w' := by
  have HT := Lib.hid (fun W (hW : Grew w W) => axiomAt_c ⟨#[67]⟩ W (hN.grew hW))
  rw [hf] at HT
  have HD := Lib.hid (fun W (hW : Grew w W) (B bl : Nat) (hf : FlagsAt W B bl [9]) => cond3_c _ A B bl W (h.grew hW) hA h8 hf)
  have hal := (Grew.refl w).alloc (.cells #[.int .i64 (A.length : Int), v] 26)
  obtain ⟨w1, hw1⟩ : ∃ w1, w1 = w.alloc (.cells #[.int .i64 (A.length : Int), v] 26) := ⟨_, rfl⟩
  rw [← hw1] at hal
  have hb0 : w1.heap[w.heap.size]? = some (.cells #[.int .i64 (A.length : Int), v] 26 (0, 0)) := by rw [hw1]; exact blk_new w _
  have p0 : ∀ W, Grew w1 W → W.cell? ⟨w.heap.size, 0, none⟩ = some (.int .i64 (A.length : Int)) := fun W hW => by rw [blk_cell ((hW.block (blk_lt hb0)).trans hb0)]; rfl
  have p1 : ∀ W, Grew w1 W → W.cell? ⟨w.heap.size, 1, none⟩ = some v := fun W hW => by rw [blk_cell ((hW.block (blk_lt hb0)).trans hb0)]; rfl
  have HAL := Lib.hid hal
  obtain ⟨A1, c1, rfl⟩ := ints_sliceN h
  have r1 := Grew.refl w1
  have d1 := r1.drew
  have hix := condIx_3
  clear h hA hb0 hal h8
  generalize axB A 3 = R at *
  generalize A.length = n at *
  go_enter Tryz.func48, Tryz.ntmps48
  go_wp2_with fail
  simp only [← hw1]
  clear hw1
  go_region_held3 (fun w' => Grew w1 w') (first | assumption | exact Grew.drew ‹_›) (first
    | (go_at_call 166; refine (HD.out _ (HAL.out.trans h3) _ _ (f3.out.grew hg3)).mono ?_; rintro e w4 ⟨rfl, hg4⟩; have h4 := h3.trans hg4)
    | (go_at_call 47; refine (HT.out _ (HAL.out.trans h2)).mono ?_; rintro e w3 ⟨rfl, hg3⟩; have h3 := h2.trans hg3)
    | (go_at_call 91; refine (conditions_c _).mono ?_; rintro e w2 ⟨b0, b1, b2, b3, b4, b5, b6, b7, b8, b9, b10, rfl, -, -, -, f3, -, -, -, -, -, -, -, hg2⟩; have f3 := Lib.hid f3; have h2 := d1.trans hg2))
  go_wp2_with fail
  go_ret
  exact ⟨rfl, HAL.out.trans h4⟩
set_option maxHeartbeats 1000000 in
set_option maxRecDepth 100000 in
theorem axiomHolds_4 (v : Value) (A : List Nat) (w : World) (h : Ints w v (zs A)) (hA : Rl A) (h8 : A.length ≤ 8) (hN : TabAt w 1 axNames) (hf : findS axNames ⟨#[68]⟩ = 4) :
    Calls Tryz.prog 48 #[.agg #[.int .i64 (A.length : Int), v], .string ⟨#[68]⟩] w fun e w' => e = .returned (.bool (axB A 4)) ∧ Grew w w' := by
  have HT := Lib.hid (fun W (hW : Grew w W) => axiomAt_c ⟨#[68]⟩ W (hN.grew hW))
  rw [hf] at HT
  have HD := Lib.hid (fun W (hW : Grew w W) (B bl : Nat) (hf : FlagsAt W B bl [1]) => cond4_c _ A B bl W (h.grew hW) hA h8 hf)
  have hal := (Grew.refl w).alloc (.cells #[.int .i64 (A.length : Int), v] 26)
  obtain ⟨w1, hw1⟩ : ∃ w1, w1 = w.alloc (.cells #[.int .i64 (A.length : Int), v] 26) := ⟨_, rfl⟩
  rw [← hw1] at hal
  have hb0 : w1.heap[w.heap.size]? = some (.cells #[.int .i64 (A.length : Int), v] 26 (0, 0)) := by rw [hw1]; exact blk_new w _
  have p0 : ∀ W, Grew w1 W → W.cell? ⟨w.heap.size, 0, none⟩ = some (.int .i64 (A.length : Int)) := fun W hW => by rw [blk_cell ((hW.block (blk_lt hb0)).trans hb0)]; rfl
  have p1 : ∀ W, Grew w1 W → W.cell? ⟨w.heap.size, 1, none⟩ = some v := fun W hW => by rw [blk_cell ((hW.block (blk_lt hb0)).trans hb0)]; rfl
  have HAL := Lib.hid hal
  obtain ⟨A1, c1, rfl⟩ := ints_sliceN h
  have r1 := Grew.refl w1
  have d1 := r1.drew
  have hix := condIx_4
  clear h hA hb0 hal h8
  generalize axB A 4 = R at *
  generalize A.length = n at *
  go_enter Tryz.func48, Tryz.ntmps48
  go_wp2_with fail
  simp only [← hw1]
  clear hw1
  go_region_held3 (fun w' => Grew w1 w') (first | assumption | exact Grew.drew ‹_›) (first
    | (go_at_call 166; refine (HD.out _ (HAL.out.trans h3) _ _ (f4.out.grew hg3)).mono ?_; rintro e w4 ⟨rfl, hg4⟩; have h4 := h3.trans hg4)
    | (go_at_call 47; refine (HT.out _ (HAL.out.trans h2)).mono ?_; rintro e w3 ⟨rfl, hg3⟩; have h3 := h2.trans hg3)
    | (go_at_call 91; refine (conditions_c _).mono ?_; rintro e w2 ⟨b0, b1, b2, b3, b4, b5, b6, b7, b8, b9, b10, rfl, -, -, -, -, f4, -, -, -, -, -, -, hg2⟩; have f4 := Lib.hid f4; have h2 := d1.trans hg2))
  go_wp2_with fail
  go_ret
  exact ⟨rfl, HAL.out.trans h4⟩
set_option maxHeartbeats 1000000 in
set_option maxRecDepth 100000 in
theorem axiomHolds_5 (v : Value) (A : List Nat) (w : World) (h : Ints w v (zs A)) (hA : Rl A) (h8 : A.length ≤ 8) (hN : TabAt w 1 axNames) (hf : findS axNames ⟨#[70]⟩ = 5) :
    Calls Tryz.prog 48 #[.agg #[.int .i64 (A.length : Int), v], .string ⟨#[70]⟩] w fun e w' => e = .returned (.bool (axB A 5)) ∧ Grew w w' := by
  have HT := Lib.hid (fun W (hW : Grew w W) => axiomAt_c ⟨#[70]⟩ W (hN.grew hW))
  rw [hf] at HT
  have HD := Lib.hid (fun W (hW : Grew w W) (B bl : Nat) (hf : FlagsAt W B bl [10]) => cond5_c _ A B bl W (h.grew hW) hA h8 hf)
  have hal := (Grew.refl w).alloc (.cells #[.int .i64 (A.length : Int), v] 26)
  obtain ⟨w1, hw1⟩ : ∃ w1, w1 = w.alloc (.cells #[.int .i64 (A.length : Int), v] 26) := ⟨_, rfl⟩
  rw [← hw1] at hal
  have hb0 : w1.heap[w.heap.size]? = some (.cells #[.int .i64 (A.length : Int), v] 26 (0, 0)) := by rw [hw1]; exact blk_new w _
  have p0 : ∀ W, Grew w1 W → W.cell? ⟨w.heap.size, 0, none⟩ = some (.int .i64 (A.length : Int)) := fun W hW => by rw [blk_cell ((hW.block (blk_lt hb0)).trans hb0)]; rfl
  have p1 : ∀ W, Grew w1 W → W.cell? ⟨w.heap.size, 1, none⟩ = some v := fun W hW => by rw [blk_cell ((hW.block (blk_lt hb0)).trans hb0)]; rfl
  have HAL := Lib.hid hal
  obtain ⟨A1, c1, rfl⟩ := ints_sliceN h
  have r1 := Grew.refl w1
  have d1 := r1.drew
  have hix := condIx_5
  clear h hA hb0 hal h8
  generalize axB A 5 = R at *
  generalize A.length = n at *
  go_enter Tryz.func48, Tryz.ntmps48
  go_wp2_with fail
  simp only [← hw1]
  clear hw1
  go_region_held3 (fun w' => Grew w1 w') (first | assumption | exact Grew.drew ‹_›) (first
    | (go_at_call 166; refine (HD.out _ (HAL.out.trans h3) _ _ (f5.out.grew hg3)).mono ?_; rintro e w4 ⟨rfl, hg4⟩; have h4 := h3.trans hg4)
    | (go_at_call 47; refine (HT.out _ (HAL.out.trans h2)).mono ?_; rintro e w3 ⟨rfl, hg3⟩; have h3 := h2.trans hg3)
    | (go_at_call 91; refine (conditions_c _).mono ?_; rintro e w2 ⟨b0, b1, b2, b3, b4, b5, b6, b7, b8, b9, b10, rfl, -, -, -, -, -, f5, -, -, -, -, -, hg2⟩; have f5 := Lib.hid f5; have h2 := d1.trans hg2))
  go_wp2_with fail
  go_ret
  exact ⟨rfl, HAL.out.trans h4⟩
set_option maxHeartbeats 1000000 in
set_option maxRecDepth 100000 in
theorem axiomHolds_6 (v : Value) (A : List Nat) (w : World) (h : Ints w v (zs A)) (hA : Rl A) (h8 : A.length ≤ 8) (hN : TabAt w 1 axNames) (hf : findS axNames ⟨#[71]⟩ = 6) :
    Calls Tryz.prog 48 #[.agg #[.int .i64 (A.length : Int), v], .string ⟨#[71]⟩] w fun e w' => e = .returned (.bool (axB A 6)) ∧ Grew w w' := by
  have HT := Lib.hid (fun W (hW : Grew w W) => axiomAt_c ⟨#[71]⟩ W (hN.grew hW))
  rw [hf] at HT
  have HD := Lib.hid (fun W (hW : Grew w W) (B bl : Nat) (hf : FlagsAt W B bl [5]) => cond6_c _ A B bl W (h.grew hW) hA h8 hf)
  have hal := (Grew.refl w).alloc (.cells #[.int .i64 (A.length : Int), v] 26)
  obtain ⟨w1, hw1⟩ : ∃ w1, w1 = w.alloc (.cells #[.int .i64 (A.length : Int), v] 26) := ⟨_, rfl⟩
  rw [← hw1] at hal
  have hb0 : w1.heap[w.heap.size]? = some (.cells #[.int .i64 (A.length : Int), v] 26 (0, 0)) := by rw [hw1]; exact blk_new w _
  have p0 : ∀ W, Grew w1 W → W.cell? ⟨w.heap.size, 0, none⟩ = some (.int .i64 (A.length : Int)) := fun W hW => by rw [blk_cell ((hW.block (blk_lt hb0)).trans hb0)]; rfl
  have p1 : ∀ W, Grew w1 W → W.cell? ⟨w.heap.size, 1, none⟩ = some v := fun W hW => by rw [blk_cell ((hW.block (blk_lt hb0)).trans hb0)]; rfl
  have HAL := Lib.hid hal
  obtain ⟨A1, c1, rfl⟩ := ints_sliceN h
  have r1 := Grew.refl w1
  have d1 := r1.drew
  have hix := condIx_6
  clear h hA hb0 hal h8
  generalize axB A 6 = R at *
  generalize A.length = n at *
  go_enter Tryz.func48, Tryz.ntmps48
  go_wp2_with fail
  simp only [← hw1]
  clear hw1
  go_region_held3 (fun w' => Grew w1 w') (first | assumption | exact Grew.drew ‹_›) (first
    | (go_at_call 166; refine (HD.out _ (HAL.out.trans h3) _ _ (f6.out.grew hg3)).mono ?_; rintro e w4 ⟨rfl, hg4⟩; have h4 := h3.trans hg4)
    | (go_at_call 47; refine (HT.out _ (HAL.out.trans h2)).mono ?_; rintro e w3 ⟨rfl, hg3⟩; have h3 := h2.trans hg3)
    | (go_at_call 91; refine (conditions_c _).mono ?_; rintro e w2 ⟨b0, b1, b2, b3, b4, b5, b6, b7, b8, b9, b10, rfl, -, -, -, -, -, -, f6, -, -, -, -, hg2⟩; have f6 := Lib.hid f6; have h2 := d1.trans hg2))
  go_wp2_with fail
  go_ret
  exact ⟨rfl, HAL.out.trans h4⟩
set_option maxHeartbeats 1000000 in
set_option maxRecDepth 100000 in
theorem axiomHolds_7 (v : Value) (A : List Nat) (w : World) (h : Ints w v (zs A)) (hA : Rl A) (h8 : A.length ≤ 8) (hN : TabAt w 1 axNames) (hf : findS axNames ⟨#[72]⟩ = 7) :
    Calls Tryz.prog 48 #[.agg #[.int .i64 (A.length : Int), v], .string ⟨#[72]⟩] w fun e w' => e = .returned (.bool (axB A 7)) ∧ Grew w w' := by
  have HT := Lib.hid (fun W (hW : Grew w W) => axiomAt_c ⟨#[72]⟩ W (hN.grew hW))
  rw [hf] at HT
  have HD := Lib.hid (fun W (hW : Grew w W) (B bl : Nat) (hf : FlagsAt W B bl [6]) => cond7_c _ A B bl W (h.grew hW) hA h8 hf)
  have hal := (Grew.refl w).alloc (.cells #[.int .i64 (A.length : Int), v] 26)
  obtain ⟨w1, hw1⟩ : ∃ w1, w1 = w.alloc (.cells #[.int .i64 (A.length : Int), v] 26) := ⟨_, rfl⟩
  rw [← hw1] at hal
  have hb0 : w1.heap[w.heap.size]? = some (.cells #[.int .i64 (A.length : Int), v] 26 (0, 0)) := by rw [hw1]; exact blk_new w _
  have p0 : ∀ W, Grew w1 W → W.cell? ⟨w.heap.size, 0, none⟩ = some (.int .i64 (A.length : Int)) := fun W hW => by rw [blk_cell ((hW.block (blk_lt hb0)).trans hb0)]; rfl
  have p1 : ∀ W, Grew w1 W → W.cell? ⟨w.heap.size, 1, none⟩ = some v := fun W hW => by rw [blk_cell ((hW.block (blk_lt hb0)).trans hb0)]; rfl
  have HAL := Lib.hid hal
  obtain ⟨A1, c1, rfl⟩ := ints_sliceN h
  have r1 := Grew.refl w1
  have d1 := r1.drew
  have hix := condIx_7
  clear h hA hb0 hal h8
  generalize axB A 7 = R at *
  generalize A.length = n at *
  go_enter Tryz.func48, Tryz.ntmps48
  go_wp2_with fail
  simp only [← hw1]
  clear hw1
  go_region_held3 (fun w' => Grew w1 w') (first | assumption | exact Grew.drew ‹_›) (first
    | (go_at_call 166; refine (HD.out _ (HAL.out.trans h3) _ _ (f7.out.grew hg3)).mono ?_; rintro e w4 ⟨rfl, hg4⟩; have h4 := h3.trans hg4)
    | (go_at_call 47; refine (HT.out _ (HAL.out.trans h2)).mono ?_; rintro e w3 ⟨rfl, hg3⟩; have h3 := h2.trans hg3)
    | (go_at_call 91; refine (conditions_c _).mono ?_; rintro e w2 ⟨b0, b1, b2, b3, b4, b5, b6, b7, b8, b9, b10, rfl, -, -, -, -, -, -, -, f7, -, -, -, hg2⟩; have f7 := Lib.hid f7; have h2 := d1.trans hg2))
  go_wp2_with fail
  go_ret
  exact ⟨rfl, HAL.out.trans h4⟩
set_option maxHeartbeats 1000000 in
set_option maxRecDepth 100000 in
theorem axiomHolds_8 (v : Value) (A : List Nat) (w : World) (h : Ints w v (zs A)) (hA : Rl A) (h8 : A.length ≤ 8) (hN : TabAt w 1 axNames) (hf : findS axNames ⟨#[76]⟩ = 8) :
    Calls Tryz.prog 48 #[.agg #[.int .i64 (A.length : Int), v], .string ⟨#[76]⟩] w fun e w' => e = .returned (.bool (axB A 8)) ∧ Grew w w' := by
  have HT := Lib.hid (fun W (hW : Grew w W) => axiomAt_c ⟨#[76]⟩ W (hN.grew hW))
  rw [hf] at HT
  have HD := Lib.hid (fun W (hW : Grew w W) (B bl : Nat) (hf : FlagsAt W B bl [2, 7]) => cond8_c _ A B bl W (h.grew hW) hA h8 hf)
  have hal := (Grew.refl w).alloc (.cells #[.int .i64 (A.length : Int), v] 26)
  obtain ⟨w1, hw1⟩ : ∃ w1, w1 = w.alloc (.cells #[.int .i64 (A.length : Int), v] 26) := ⟨_, rfl⟩
  rw [← hw1] at hal
  have hb0 : w1.heap[w.heap.size]? = some (.cells #[.int .i64 (A.length : Int), v] 26 (0, 0)) := by rw [hw1]; exact blk_new w _
  have p0 : ∀ W, Grew w1 W → W.cell? ⟨w.heap.size, 0, none⟩ = some (.int .i64 (A.length : Int)) := fun W hW => by rw [blk_cell ((hW.block (blk_lt hb0)).trans hb0)]; rfl
  have p1 : ∀ W, Grew w1 W → W.cell? ⟨w.heap.size, 1, none⟩ = some v := fun W hW => by rw [blk_cell ((hW.block (blk_lt hb0)).trans hb0)]; rfl
  have HAL := Lib.hid hal
  obtain ⟨A1, c1, rfl⟩ := ints_sliceN h
  have r1 := Grew.refl w1
  have d1 := r1.drew
  have hix := condIx_8
  clear h hA hb0 hal h8
  generalize axB A 8 = R at *
  generalize A.length = n at *
  go_enter Tryz.func48, Tryz.ntmps48
  go_wp2_with fail
  simp only [← hw1]
  clear hw1
  go_region_held3 (fun w' => Grew w1 w') (first | assumption | exact Grew.drew ‹_›) (first
    | (go_at_call 166; refine (HD.out _ (HAL.out.trans h3) _ _ (f8.out.grew hg3)).mono ?_; rintro e w4 ⟨rfl, hg4⟩; have h4 := h3.trans hg4)
    | (go_at_call 47; refine (HT.out _ (HAL.out.trans h2)).mono ?_; rintro e w3 ⟨rfl, hg3⟩; have h3 := h2.trans hg3)
    | (go_at_call 91; refine (conditions_c _).mono ?_; rintro e w2 ⟨b0, b1, b2, b3, b4, b5, b6, b7, b8, b9, b10, rfl, -, -, -, -, -, -, -, -, f8, -, -, hg2⟩; have f8 := Lib.hid f8; have h2 := d1.trans hg2))
  go_wp2_with fail
  go_ret
  exact ⟨rfl, HAL.out.trans h4⟩
set_option maxHeartbeats 1000000 in
set_option maxRecDepth 100000 in
theorem axiomHolds_9 (v : Value) (A : List Nat) (w : World) (h : Ints w v (zs A)) (hA : Rl A) (h8 : A.length ≤ 8) (hN : TabAt w 1 axNames) (hf : findS axNames ⟨#[84]⟩ = 9) :
    Calls Tryz.prog 48 #[.agg #[.int .i64 (A.length : Int), v], .string ⟨#[84]⟩] w fun e w' => e = .returned (.bool (axB A 9)) ∧ Grew w w' := by
  have HT := Lib.hid (fun W (hW : Grew w W) => axiomAt_c ⟨#[84]⟩ W (hN.grew hW))
  rw [hf] at HT
  have HD := Lib.hid (fun W (hW : Grew w W) (B bl : Nat) (hf : FlagsAt W B bl [0]) => cond9_c _ A B bl W (h.grew hW) hA h8 hf)
  have hal := (Grew.refl w).alloc (.cells #[.int .i64 (A.length : Int), v] 26)
  obtain ⟨w1, hw1⟩ : ∃ w1, w1 = w.alloc (.cells #[.int .i64 (A.length : Int), v] 26) := ⟨_, rfl⟩
  rw [← hw1] at hal
  have hb0 : w1.heap[w.heap.size]? = some (.cells #[.int .i64 (A.length : Int), v] 26 (0, 0)) := by rw [hw1]; exact blk_new w _
  have p0 : ∀ W, Grew w1 W → W.cell? ⟨w.heap.size, 0, none⟩ = some (.int .i64 (A.length : Int)) := fun W hW => by rw [blk_cell ((hW.block (blk_lt hb0)).trans hb0)]; rfl
  have p1 : ∀ W, Grew w1 W → W.cell? ⟨w.heap.size, 1, none⟩ = some v := fun W hW => by rw [blk_cell ((hW.block (blk_lt hb0)).trans hb0)]; rfl
  have HAL := Lib.hid hal
  obtain ⟨A1, c1, rfl⟩ := ints_sliceN h
  have r1 := Grew.refl w1
  have d1 := r1.drew
  have hix := condIx_9
  clear h hA hb0 hal h8
  generalize axB A 9 = R at *
  generalize A.length = n at *
  go_enter Tryz.func48, Tryz.ntmps48
  go_wp2_with fail
  simp only [← hw1]
  clear hw1
  go_region_held3 (fun w' => Grew w1 w') (first | assumption | exact Grew.drew ‹_›) (first
    | (go_at_call 166; refine (HD.out _ (HAL.out.trans h3) _ _ (f9.out.grew hg3)).mono ?_; rintro e w4 ⟨rfl, hg4⟩; have h4 := h3.trans hg4)
    | (go_at_call 47; refine (HT.out _ (HAL.out.trans h2)).mono ?_; rintro e w3 ⟨rfl, hg3⟩; have h3 := h2.trans hg3)
    | (go_at_call 91; refine (conditions_c _).mono ?_; rintro e w2 ⟨b0, b1, b2, b3, b4, b5, b6, b7, b8, b9, b10, rfl, -, -, -, -, -, -, -, -, -, f9, -, hg2⟩; have f9 := Lib.hid f9; have h2 := d1.trans hg2))
  go_wp2_with fail
  go_ret
  exact ⟨rfl, HAL.out.trans h4⟩
set_option maxHeartbeats 1000000 in
set_option maxRecDepth 100000 in
theorem axiomHolds_10 (v : Value) (A : List Nat) (w : World) (h : Ints w v (zs A)) (hA : Rl A) (_h8 : A.length ≤ 8) (hN : TabAt w 1 axNames) (hf : findS axNames ⟨#[86]⟩ = 10) :
    Calls Tryz.prog 48 #[.agg #[.int .i64 (A.length : Int), v], .string ⟨#[86]⟩] w fun e w' => e = .returned (.bool (axB A 10)) ∧ Grew w w' := by
  have HT := Lib.hid (fun W (hW : Grew w W) => axiomAt_c ⟨#[86]⟩ W (hN.grew hW))
  rw [hf] at HT
  have HD := Lib.hid (fun W (hW : Grew w W)  => ver_c _ A _ (h.grew hW) hA)
  rw [show verB A = axB A 10 from rfl] at HD
  have hal := (Grew.refl w).alloc (.cells #[.int .i64 (A.length : Int), v] 26)
  obtain ⟨w1, hw1⟩ : ∃ w1, w1 = w.alloc (.cells #[.int .i64 (A.length : Int), v] 26) := ⟨_, rfl⟩
  rw [← hw1] at hal
  have hb0 : w1.heap[w.heap.size]? = some (.cells #[.int .i64 (A.length : Int), v] 26 (0, 0)) := by rw [hw1]; exact blk_new w _
  have p0 : ∀ W, Grew w1 W → W.cell? ⟨w.heap.size, 0, none⟩ = some (.int .i64 (A.length : Int)) := fun W hW => by rw [blk_cell ((hW.block (blk_lt hb0)).trans hb0)]; rfl
  have p1 : ∀ W, Grew w1 W → W.cell? ⟨w.heap.size, 1, none⟩ = some v := fun W hW => by rw [blk_cell ((hW.block (blk_lt hb0)).trans hb0)]; rfl
  have HAL := Lib.hid hal
  obtain ⟨A1, c1, rfl⟩ := ints_sliceN h
  have r1 := Grew.refl w1
  have d1 := r1.drew
  have hix := condIx_10
  clear h hA hb0 hal _h8
  generalize axB A 10 = R at *
  generalize A.length = n at *
  go_enter Tryz.func48, Tryz.ntmps48
  go_wp2_with fail
  simp only [← hw1]
  clear hw1
  go_region_held3 (fun w' => Grew w1 w') (first | assumption | exact Grew.drew ‹_›) (first
    | (go_at_call 133; refine (HD.out _ (HAL.out.trans h3)).mono ?_; rintro e w4 ⟨rfl, hg4⟩; have h4 := h3.trans hg4)
    | (go_at_call 47; refine (HT.out _ (HAL.out.trans h2)).mono ?_; rintro e w3 ⟨rfl, hg3⟩; have h3 := h2.trans hg3)
    | (go_at_call 91; refine (conditions_c _).mono ?_; rintro e w2 ⟨b0, b1, b2, b3, b4, b5, b6, b7, b8, b9, b10, rfl, -, -, -, -, -, -, -, -, -, -, -, hg2⟩; have h2 := d1.trans hg2))
  go_wp2_with fail
  go_ret
  exact ⟨rfl, HAL.out.trans h4⟩
set_option maxHeartbeats 1000000 in
set_option maxRecDepth 100000 in
theorem axiomHolds_11 (v : Value) (A : List Nat) (w : World) (h : Ints w v (zs A)) (hA : Rl A) (_h8 : A.length ≤ 8) (hN : TabAt w 1 axNames) (hf : findS axNames ⟨#[88]⟩ = 11) :
    Calls Tryz.prog 48 #[.agg #[.int .i64 (A.length : Int), v], .string ⟨#[88]⟩] w fun e w' => e = .returned (.bool (axB A 11)) ∧ Grew w w' := by
  have HT := Lib.hid (fun W (hW : Grew w W) => axiomAt_c ⟨#[88]⟩ W (hN.grew hW))
  rw [hf] at HT
  have HD := Lib.hid (fun W (hW : Grew w W)  => tri_c _ A _ (h.grew hW) hA)
  rw [show triB A = axB A 11 from rfl] at HD
  have hal := (Grew.refl w).alloc (.cells #[.int .i64 (A.length : Int), v] 26)
  obtain ⟨w1, hw1⟩ : ∃ w1, w1 = w.alloc (.cells #[.int .i64 (A.length : Int), v] 26) := ⟨_, rfl⟩
  rw [← hw1] at hal
  have hb0 : w1.heap[w.heap.size]? = some (.cells #[.int .i64 (A.length : Int), v] 26 (0, 0)) := by rw [hw1]; exact blk_new w _
  have p0 : ∀ W, Grew w1 W → W.cell? ⟨w.heap.size, 0, none⟩ = some (.int .i64 (A.length : Int)) := fun W hW => by rw [blk_cell ((hW.block (blk_lt hb0)).trans hb0)]; rfl
  have p1 : ∀ W, Grew w1 W → W.cell? ⟨w.heap.size, 1, none⟩ = some v := fun W hW => by rw [blk_cell ((hW.block (blk_lt hb0)).trans hb0)]; rfl
  have HAL := Lib.hid hal
  obtain ⟨A1, c1, rfl⟩ := ints_sliceN h
  have r1 := Grew.refl w1
  have d1 := r1.drew
  have hix := condIx_11
  clear h hA hb0 hal _h8
  generalize axB A 11 = R at *
  generalize A.length = n at *
  go_enter Tryz.func48, Tryz.ntmps48
  go_wp2_with fail
  simp only [← hw1]
  clear hw1
  go_region_held3 (fun w' => Grew w1 w') (first | assumption | exact Grew.drew ‹_›) (first
    | (go_at_call 136; refine (HD.out _ (HAL.out.trans h3)).mono ?_; rintro e w4 ⟨rfl, hg4⟩; have h4 := h3.trans hg4)
    | (go_at_call 47; refine (HT.out _ (HAL.out.trans h2)).mono ?_; rintro e w3 ⟨rfl, hg3⟩; have h3 := h2.trans hg3)
    | (go_at_call 91; refine (conditions_c _).mono ?_; rintro e w2 ⟨b0, b1, b2, b3, b4, b5, b6, b7, b8, b9, b10, rfl, -, -, -, -, -, -, -, -, -, -, -, hg2⟩; have h2 := d1.trans hg2))
  go_wp2_with fail
  go_ret
  exact ⟨rfl, HAL.out.trans h4⟩
set_option maxHeartbeats 1000000 in
set_option maxRecDepth 100000 in
theorem axiomHolds_12 (v : Value) (A : List Nat) (w : World) (h : Ints w v (zs A)) (hA : Rl A) (h8 : A.length ≤ 8) (hN : TabAt w 1 axNames) (hf : findS axNames ⟨#[90]⟩ = 12) :
    Calls Tryz.prog 48 #[.agg #[.int .i64 (A.length : Int), v], .string ⟨#[90]⟩] w fun e w' => e = .returned (.bool (axB A 12)) ∧ Grew w w' := by
  have HT := Lib.hid (fun W (hW : Grew w W) => axiomAt_c ⟨#[90]⟩ W (hN.grew hW))
  rw [hf] at HT
  have HD := Lib.hid (fun W (hW : Grew w W) (B bl : Nat) (hf : FlagsAt W B bl [0, 2, 8]) => cond12_c _ A B bl W (h.grew hW) hA h8 hf)
  have hal := (Grew.refl w).alloc (.cells #[.int .i64 (A.length : Int), v] 26)
  obtain ⟨w1, hw1⟩ : ∃ w1, w1 = w.alloc (.cells #[.int .i64 (A.length : Int), v] 26) := ⟨_, rfl⟩
  rw [← hw1] at hal
  have hb0 : w1.heap[w.heap.size]? = some (.cells #[.int .i64 (A.length : Int), v] 26 (0, 0)) := by rw [hw1]; exact blk_new w _
  have p0 : ∀ W, Grew w1 W → W.cell? ⟨w.heap.size, 0, none⟩ = some (.int .i64 (A.length : Int)) := fun W hW => by rw [blk_cell ((hW.block (blk_lt hb0)).trans hb0)]; rfl
  have p1 : ∀ W, Grew w1 W → W.cell? ⟨w.heap.size, 1, none⟩ = some v := fun W hW => by rw [blk_cell ((hW.block (blk_lt hb0)).trans hb0)]; rfl
  have HAL := Lib.hid hal
  obtain ⟨A1, c1, rfl⟩ := ints_sliceN h
  have r1 := Grew.refl w1
  have d1 := r1.drew
  have hix := condIx_12
  clear h hA hb0 hal h8
  generalize axB A 12 = R at *
  generalize A.length = n at *
  go_enter Tryz.func48, Tryz.ntmps48
  go_wp2_with fail
  simp only [← hw1]
  clear hw1
  go_region_held3 (fun w' => Grew w1 w') (first | assumption | exact Grew.drew ‹_›) (first
    | (go_at_call 166; refine (HD.out _ (HAL.out.trans h3) _ _ (f10.out.grew hg3)).mono ?_; rintro e w4 ⟨rfl, hg4⟩; have h4 := h3.trans hg4)
    | (go_at_call 47; refine (HT.out _ (HAL.out.trans h2)).mono ?_; rintro e w3 ⟨rfl, hg3⟩; have h3 := h2.trans hg3)
    | (go_at_call 91; refine (conditions_c _).mono ?_; rintro e w2 ⟨b0, b1, b2, b3, b4, b5, b6, b7, b8, b9, b10, rfl, -, -, -, -, -, -, -, -, -, -, f10, hg2⟩; have f10 := Lib.hid f10; have h2 := d1.trans hg2))
  go_wp2_with fail
  go_ret
  exact ⟨rfl, HAL.out.trans h4⟩
end Go.Proofs.YtpfncncohnhanaaGreatDoor

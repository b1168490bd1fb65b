/- Texts in one file: Round ParseI Take WalkQ WalkB ParseF Part Agree Equal Write Good PartP Text Parsed Strs IsText Cont Plain Gp TxP Fo KrT KrB KrI KrF NisA IsF FmTree NisP OwnV FitS Hold ListsI Above Side Lists Own All JoinAll StrLaw Modal ModalB SF NisB NisC MbEl MbN MbL TwoF TwoT. -/
import Derived.Deep.QuietTactic
import Derived.BigQuiet
import Derived.Deep.LoopGhost
import Derived.Outline
import Derived.Deep.RegionHeld3
import Derived.Lib.SlicesS
import Derived.Test.YtefkgomecpnpbaaGreatProg
import Derived.WalkSpells
import Derived.WalkLawsBesides
import Derived.Shelf.Abstract
import Derived.OwnWalk
import Derived.Deep.OwnRows
import Derived.Deep.RegionLaw
import Derived.Test.YtefkgomecpnpbaaGreatPa1
set_option linter.all false

/- The text of a formula is parsed to the formula. No program is in sight. -/
namespace Go.Proofs.YtefkgomecpnpbaaGreat
namespace Fm

theorem sees_drop {s : List UInt8} {i : Nat} {c : UInt8} {r : List UInt8} (h : s.drop i = c :: r) (d : UInt8) : sees s (i, false) d = (c == d) := by
  have h1 : s[i]? = some c := by
    have := congrArg List.head? h
    simpa using this
  unfold sees
  rw [h1]
  rw [Bool.eq_iff_iff]
  simp
theorem sees_none {s : List UInt8} {i : Nat} {r : List UInt8} {d : UInt8} (h : s.drop i = r) (hd : r.head? ≠ some d) : sees s (i, false) d = false := by
  have h1 : s[i]? = r.head? := by rw [← h]; simp
  unfold sees
  rw [h1]
  cases hr : r.head? with
  | none => rfl
  | some c =>
    rw [hr] at hd
    have : c ≠ d := fun e => hd (by rw [e])
    simp [this]
theorem drop_tail {s : List UInt8} {i : Nat} {x r : List UInt8} (h : s.drop i = x ++ r) : s.drop (i + x.length) = r := by
  rw [← List.drop_drop, h, List.drop_left]
theorem drop_len {s : List UInt8} {i : Nat} {x r : List UInt8} (h : s.drop i = x ++ r) (hx : 1 ≤ x.length) : i + x.length ≤ s.length := by
  have := congrArg List.length h
  simp only [List.length_drop, List.length_append] at this
  omega
theorem txt_pos (t : Tree) (l : Nat) : 1 ≤ (txt t l).length := by
  cases t with
  | var v => simp [txt]
  | fls => simp [txt]
  | and a b => simp only [txt, wrap]; split <;> simp <;> omega
  | or a b => simp only [txt, wrap]; split <;> simp <;> omega
  | imp a b => simp only [txt, wrap]; split <;> split <;> simp <;> omega
  | box a => simp only [txt, List.length_append, List.length_cons]; omega
  | dia a => simp only [txt, List.length_append, List.length_cons]; omega

section
variable (s : List UInt8) (m : Nat)
/-- The text at level 3 is read by the lowest level of the parser. -/
def P3 (t : Tree) : Prop := ∀ (f i : Nat) (r : List UInt8), s.drop i = txt t 3 ++ r → s.length - i < f → preF s m f (i, false) = (enc t, (i + (txt t 3).length, false))
def P2 (t : Tree) : Prop := ∀ (f i : Nat) (r : List UInt8), s.drop i = txt t 2 ++ r → s.length - i < f →
  ∃ k, s.length - (i + (txt t 2).length) < k ∧ andF s m (preF s m f) (i, false) = loop s 2 38 (preF s m f) k (enc t) (i + (txt t 2).length, false)
def P1 (t : Tree) : Prop := ∀ (f i : Nat) (r : List UInt8), s.drop i = txt t 1 ++ r → s.length - i < f → r.head? ≠ some 38 →
  ∃ k, s.length - (i + (txt t 1).length) < k ∧ orF s m (preF s m f) (i, false) = loop s 3 124 (andF s m (preF s m f)) k (enc t) (i + (txt t 1).length, false)
def P0 (t : Tree) : Prop := ∀ (f n i : Nat) (r : List UInt8), s.drop i = txt t 0 ++ r → s.length - i < f → s.length - i < n → r.head? ≠ some 38 → r.head? ≠ some 124 → r.head? ≠ some 62 →
  impF s m (preF s m f) n (i, false) = (enc t, (i + (txt t 0).length, false))
end

section
variable {s : List UInt8} {m : Nat}

theorem loop_stop {k : Int} {c : UInt8} {sub : St → Res} {n : Nat} {a : List Nd} {st : St} (h : sees s st c = false) : loop s k c sub n a st = (a, st) := by
  cases n with
  | zero => rfl
  | succ n => rw [loop, if_neg (by rw [h]; decide)]

/-- From the lowest level to the next one, where the text is the same. -/
theorem up2 (hm : s.length < m) {t : Tree} (ht : txt t 2 = txt t 3) (h : P3 s m t) : P2 s m t := by
  intro f i r hd hf
  rw [ht] at hd ⊢
  refine ⟨m, by omega, ?_⟩
  have := h f i r hd hf
  rw [andF, this]
theorem up1 (hm : s.length < m) {t : Tree} (ht : txt t 1 = txt t 2) (h : P2 s m t) : P1 s m t := by
  intro f i r hd hf hr
  rw [ht] at hd ⊢
  obtain ⟨k, hk, he⟩ := h f i r hd hf
  have hs := sees_none (drop_tail hd) hr
  rw [loop_stop hs] at he
  refine ⟨m, by omega, ?_⟩
  rw [orF, he]
theorem up0 {t : Tree} (ht : txt t 0 = txt t 1) (h : P1 s m t) : P0 s m t := by
  intro f n i r hd hf hn h1 h2 h3
  rw [ht] at hd ⊢
  obtain ⟨k, hk, he⟩ := h f i r hd hf h1
  rw [loop_stop (sees_none (drop_tail hd) h2)] at he
  cases n with
  | zero => omega
  | succ n =>
    rw [impF_no (by rw [he]; exact sees_none (drop_tail hd) h3), he]
/-- Brackets. -/
theorem down3 (hm : s.length < m) {t : Tree} (ht : txt t 3 = [40] ++ txt t 0 ++ [41]) (h : P0 s m t) : P3 s m t := by
  intro f i r hd hf
  have hp := txt_pos t 0
  rw [ht] at hd ⊢
  have hlen := drop_len hd (by simp)
  simp only [List.length_append, List.length_cons, List.length_nil] at hlen
  simp only [List.append_assoc, List.cons_append, List.nil_append] at hd
  have h1 : s.drop (i + 1) = txt t 0 ++ (41 :: r) := drop_tail (x := [40]) (r := txt t 0 ++ (41 :: r)) hd
  have h2 : s.drop (i + 1 + (txt t 0).length) = 41 :: r := drop_tail h1
  cases f with
  | zero => omega
  | succ f =>
    have h40 : sees s (i, false) 40 = true := by rw [sees_drop hd]; rfl
    rw [preF_par h40, show step (i, false) = (i + 1, false) from rfl]
    rw [h f m (i + 1) (41 :: r) h1 (by omega) (by omega) (by simp) (by simp) (by simp)]
    have h41 : sees s (i + 1 + (txt t 0).length, false) 41 = true := by rw [sees_drop h2]; rfl
    simp only [need, h41, if_true, step, List.length_append, List.length_cons, List.length_nil]
    congr 2
    omega

theorem all_fls (hm : s.length < m) : P3 s m .fls ∧ P2 s m .fls ∧ P1 s m .fls ∧ P0 s m .fls := by
  have h3 : P3 s m .fls := by
    intro f i r hd hf
    have hd' : s.drop i = 70 :: r := hd
    have hlen := drop_len hd (by simp [txt])
    simp only [txt, List.length_cons, List.length_nil] at hlen
    cases f with
    | zero => omega
    | succ f => rw [preF_fls (by rw [sees_drop hd']; rfl)]; rfl
  have h2 := up2 hm rfl h3
  have h1 := up1 hm rfl h2
  exact ⟨h3, h2, h1, up0 rfl h1⟩
theorem all_tru (hm : s.length < m) : P3 s m (.imp .fls .fls) ∧ P2 s m (.imp .fls .fls) ∧ P1 s m (.imp .fls .fls) ∧ P0 s m (.imp .fls .fls) := by
  have h3 : P3 s m (.imp .fls .fls) := by
    intro f i r hd hf
    have hd' : s.drop i = 84 :: r := hd
    have hlen := drop_len hd (by simp [txt, isF])
    simp only [txt, isF, if_true, List.length_cons, List.length_nil] at hlen
    cases f with
    | zero => omega
    | succ f => rw [preF_tru (by rw [sees_drop hd']; rfl)]; rfl
  have h2 := up2 hm rfl h3
  have h1 := up1 hm rfl h2
  exact ⟨h3, h2, h1, up0 rfl h1⟩
theorem all_var (hm : s.length < m) (v : Fin 6) : P3 s m (.var v) ∧ P2 s m (.var v) ∧ P1 s m (.var v) ∧ P0 s m (.var v) := by
  have h3 : P3 s m (.var v) := by
    intro f i r hd hf
    have hd' : s.drop i = UInt8.ofNat (112 + v.val) :: r := hd
    have hlen := drop_len hd (by simp [txt])
    simp only [txt, List.length_cons, List.length_nil] at hlen
    cases f with
    | zero => omega
    | succ f =>
      have hl : letter s (i, false) = some v.val := letter_of_sees v.isLt (by rw [sees_drop hd']; simp)
      rw [preF_var hl]; rfl
  have h2 := up2 hm rfl h3
  have h1 := up1 hm rfl h2
  exact ⟨h3, h2, h1, up0 rfl h1⟩
theorem all_not (hm : s.length < m) {x : Tree} (hx : isF x = false) (h : P3 s m x) : P3 s m (.imp x .fls) ∧ P2 s m (.imp x .fls) ∧ P1 s m (.imp x .fls) ∧ P0 s m (.imp x .fls) := by
  have ht : ∀ l, txt (.imp x .fls) l = [126] ++ txt x 3 := by intro l; rw [txt, if_pos (show isF .fls = true from rfl), if_neg (by rw [hx]; decide)]
  have h3 : P3 s m (.imp x .fls) := by
    intro f i r hd hf
    rw [ht] at hd ⊢
    have hlen := drop_len hd (by simp)
    simp only [List.length_append, List.length_cons, List.length_nil] at hlen
    have hd' : s.drop i = 126 :: (txt x 3 ++ r) := by simpa using hd
    have h1 : s.drop (i + 1) = txt x 3 ++ r := drop_tail (x := [126]) (r := txt x 3 ++ r) hd'
    cases f with
    | zero => omega
    | succ f =>
      rw [preF_not (by rw [sees_drop hd']; rfl), show step (i, false) = (i + 1, false) from rfl, h f (i + 1) r h1 (by omega)]
      simp only [List.length_append, List.length_cons, List.length_nil]
      refine Prod.ext rfl (Prod.ext (by simp only; omega) rfl)
  have h2 := up2 hm (by rw [ht, ht]) h3
  have h1 := up1 hm (by rw [ht, ht]) h2
  exact ⟨h3, h2, h1, up0 (by rw [ht, ht]) h1⟩
theorem all_box (hm : s.length < m) {x : Tree} (h : P3 s m x) : P3 s m (.box x) ∧ P2 s m (.box x) ∧ P1 s m (.box x) ∧ P0 s m (.box x) := by
  have h3 : P3 s m (.box x) := by
    intro f i r hd hf
    have hd' : s.drop i = 91 :: (93 :: (txt x 3 ++ r)) := by simpa [txt] using hd
    have hlen := drop_len hd (by simp [txt])
    simp only [txt, List.length_append, List.length_cons, List.length_nil] at hlen
    have h1 : s.drop (i + 1) = 93 :: (txt x 3 ++ r) := drop_tail (x := [91]) (r := 93 :: (txt x 3 ++ r)) hd'
    have h2 : s.drop (i + 2) = txt x 3 ++ r := drop_tail (x := [91, 93]) (r := txt x 3 ++ r) hd'
    cases f with
    | zero => omega
    | succ f =>
      have h93 : sees s (i + 1, false) 93 = true := by rw [sees_drop h1]; rfl
      rw [preF_box (by rw [sees_drop hd']; rfl), show step (i, false) = (i + 1, false) from rfl, show need s (i + 1, false) 93 = (i + 2, false) by simp [need, h93, step], h f (i + 2) r h2 (by omega)]
      simp only [txt, List.length_append, List.length_cons, List.length_nil]
      refine Prod.ext rfl (Prod.ext (by simp only; omega) rfl)
  have h2 := up2 hm rfl h3
  have h1 := up1 hm rfl h2
  exact ⟨h3, h2, h1, up0 rfl h1⟩
theorem all_dia (hm : s.length < m) {x : Tree} (h : P3 s m x) : P3 s m (.dia x) ∧ P2 s m (.dia x) ∧ P1 s m (.dia x) ∧ P0 s m (.dia x) := by
  have h3 : P3 s m (.dia x) := by
    intro f i r hd hf
    have hd' : s.drop i = 60 :: (62 :: (txt x 3 ++ r)) := by simpa [txt] using hd
    have hlen := drop_len hd (by simp [txt])
    simp only [txt, List.length_append, List.length_cons, List.length_nil] at hlen
    have h1 : s.drop (i + 1) = 62 :: (txt x 3 ++ r) := drop_tail (x := [60]) (r := 62 :: (txt x 3 ++ r)) hd'
    have h2 : s.drop (i + 2) = txt x 3 ++ r := drop_tail (x := [60, 62]) (r := txt x 3 ++ r) hd'
    cases f with
    | zero => omega
    | succ f =>
      have h93 : sees s (i + 1, false) 62 = true := by rw [sees_drop h1]; rfl
      rw [preF_dia (by rw [sees_drop hd']; rfl), show step (i, false) = (i + 1, false) from rfl, show need s (i + 1, false) 62 = (i + 2, false) by simp [need, h93, step], h f (i + 2) r h2 (by omega)]
      simp only [txt, List.length_append, List.length_cons, List.length_nil]
      refine Prod.ext rfl (Prod.ext (by simp only; omega) rfl)
  have h2 := up2 hm rfl h3
  have h1 := up1 hm rfl h2
  exact ⟨h3, h2, h1, up0 rfl h1⟩

theorem all_and (hm : s.length < m) {x y : Tree} (hx : P2 s m x) (hy : P3 s m y) : P3 s m (.and x y) ∧ P2 s m (.and x y) ∧ P1 s m (.and x y) ∧ P0 s m (.and x y) := by
  have ht : ∀ l, l ≤ 2 → txt (.and x y) l = txt x 2 ++ [38] ++ txt y 3 := by intro l hl; rw [txt, wrap, if_neg (by omega)]
  have h2 : P2 s m (.and x y) := by
    intro f i r hd hf
    rw [ht 2 (by omega)] at hd ⊢
    simp only [List.append_assoc, List.cons_append, List.nil_append] at hd
    obtain ⟨k, hk, he⟩ := hx f i _ hd hf
    have d1 := drop_tail hd
    have d2 : s.drop (i + (txt x 2).length + 1) = txt y 3 ++ r := drop_tail (x := [38]) (r := txt y 3 ++ r) d1
    have hp := txt_pos y 3
    have hlen := drop_len d2 hp
    obtain ⟨q, rfl⟩ : ∃ q, k = q + 1 := ⟨k - 1, by omega⟩
    refine ⟨q, ?_, ?_⟩
    · simp only [List.length_append, List.length_cons, List.length_nil]; omega
    · rw [he, loop, if_pos (by rw [sees_drop d1]; rfl), show step (i + (txt x 2).length, false) = (i + (txt x 2).length + 1, false) from rfl, hy f _ r d2 (by omega)]
      simp only [List.length_append, List.length_cons, List.length_nil]
      rw [show i + (txt x 2).length + 1 + (txt y 3).length = i + ((txt x 2).length + (0 + 1) + (txt y 3).length) by omega]
      rfl
  have h1 := up1 hm (by rw [ht 1 (by omega), ht 2 (by omega)]) h2
  have h0 := up0 (by rw [ht 0 (by omega), ht 1 (by omega)]) h1
  exact ⟨down3 hm (by rw [ht 0 (by omega), txt, wrap, if_pos (by omega)]) h0, h2, h1, h0⟩
theorem all_or (hm : s.length < m) {x y : Tree} (hx : P1 s m x) (hy : P2 s m y) : P3 s m (.or x y) ∧ P2 s m (.or x y) ∧ P1 s m (.or x y) ∧ P0 s m (.or x y) := by
  have ht : ∀ l, l ≤ 1 → txt (.or x y) l = txt x 1 ++ [124] ++ txt y 2 := by intro l hl; rw [txt, wrap, if_neg (by omega)]
  have hw : ∀ l, 2 ≤ l → txt (.or x y) l = [40] ++ txt (.or x y) 0 ++ [41] := by intro l hl; rw [ht 0 (by omega), txt, wrap, if_pos (by omega)]
  have h1 : P1 s m (.or x y) := by
    intro f i r hd hf hr
    rw [ht 1 (by omega)] at hd ⊢
    simp only [List.append_assoc, List.cons_append, List.nil_append] at hd
    obtain ⟨k, hk, he⟩ := hx f i _ hd hf (by simp)
    have d1 := drop_tail hd
    have d2 : s.drop (i + (txt x 1).length + 1) = txt y 2 ++ r := drop_tail (x := [124]) (r := txt y 2 ++ r) d1
    have hp := txt_pos y 2
    have hlen := drop_len d2 hp
    obtain ⟨q, rfl⟩ : ∃ q, k = q + 1 := ⟨k - 1, by omega⟩
    refine ⟨q, ?_, ?_⟩
    · simp only [List.length_append, List.length_cons, List.length_nil]; omega
    · obtain ⟨k2, hk2, he2⟩ := hy f _ r d2 (by omega)
      rw [loop_stop (sees_none (drop_tail d2) hr)] at he2
      rw [he, loop, if_pos (by rw [sees_drop d1]; rfl), show step (i + (txt x 1).length, false) = (i + (txt x 1).length + 1, false) from rfl, he2]
      simp only [List.length_append, List.length_cons, List.length_nil]
      rw [show i + (txt x 1).length + 1 + (txt y 2).length = i + ((txt x 1).length + (0 + 1) + (txt y 2).length) by omega]
      rfl
  have h0 := up0 (by rw [ht 0 (by omega), ht 1 (by omega)]) h1
  have h3 := down3 hm (hw 3 (by omega)) h0
  exact ⟨h3, up2 hm (by rw [hw 2 (by omega), hw 3 (by omega)]) h3, h1, h0⟩
theorem all_imp (hm : s.length < m) {x y : Tree} (hf : isF y = false) (hx : P1 s m x) (hy : P0 s m y) : P3 s m (.imp x y) ∧ P2 s m (.imp x y) ∧ P1 s m (.imp x y) ∧ P0 s m (.imp x y) := by
  have ht : txt (.imp x y) 0 = txt x 1 ++ [62] ++ txt y 0 := by rw [txt, if_neg (by rw [hf]; decide), wrap, if_neg (by omega)]
  have hw : ∀ l, 1 ≤ l → txt (.imp x y) l = [40] ++ txt (.imp x y) 0 ++ [41] := by intro l hl; rw [ht, txt, if_neg (by rw [hf]; decide), wrap, if_pos (by omega)]
  have h0 : P0 s m (.imp x y) := by
    intro f n i r hd hf hn q1 q2 q3
    rw [ht] at hd ⊢
    simp only [List.append_assoc, List.cons_append, List.nil_append] at hd
    obtain ⟨k, hk, he⟩ := hx f i _ hd hf (by simp)
    have d1 := drop_tail hd
    have d2 : s.drop (i + (txt x 1).length + 1) = txt y 0 ++ r := drop_tail (x := [62]) (r := txt y 0 ++ r) d1
    have hp := txt_pos y 0
    have hlen := drop_len d2 hp
    rw [loop_stop (by rw [sees_drop d1]; rfl)] at he
    cases n with
    | zero => omega
    | succ n =>
      have hsee : sees s (orF s m (preF s m f) (i, false)).2 62 = true := by rw [he, sees_drop d1]; rfl
      rw [impF_yes hsee, he]
      dsimp only
      rw [show step (i + (txt x 1).length, false) = (i + (txt x 1).length + 1, false) from rfl, hy f n _ r d2 (by omega) (by omega) q1 q2 q3]
      simp only [List.length_append, List.length_cons, List.length_nil]
      refine Prod.ext rfl (Prod.ext (by simp only; omega) rfl)
  have h3 := down3 hm (hw 3 (by omega)) h0
  have h2 := up2 hm (by rw [hw 2 (by omega), hw 3 (by omega)]) h3
  exact ⟨h3, h2, up1 hm (by rw [hw 1 (by omega), hw 2 (by omega)]) h2, h0⟩

theorem all_levels (hm : s.length < m) (t : Tree) : P3 s m t ∧ P2 s m t ∧ P1 s m t ∧ P0 s m t := by
  induction t with
  | var v => exact all_var hm v
  | fls => exact all_fls hm
  | and x y hx hy => exact all_and hm hx.2.1 hy.1
  | or x y hx hy => exact all_or hm hx.2.2.1 hy.2.1
  | imp x y hx hy =>
    cases hf : isF y with
    | true =>
      obtain rfl := isF_eq hf
      cases hg : isF x with
      | true => obtain rfl := isF_eq hg; exact all_tru hm
      | false => exact all_not hm hg hx.1
    | false => exact all_imp hm hf hx.2.2.1 hy.2.2.2
  | box x hx => exact all_box hm hx.1
  | dia x hx => exact all_dia hm hx.1
end

/-- The text of a formula reads as it. -/
theorem parse_txt (t : Tree) (m : Nat) (hm : (txt t 0).length < m) : parse (txt t 0) m = (enc t, ((txt t 0).length, false)) := by
  have h := (all_levels (s := txt t 0) hm t).2.2.2 m m 0 [] (by simp) (by omega) (by omega) (by simp) (by simp) (by simp)
  rw [parse, h]
  simp

end Fm

/-- A string of bytes. -/
def bs (l : List UInt8) : ByteArray := ⟨l.toArray⟩
theorem bs_append (a b : List UInt8) : bs a ++ bs b = bs (a ++ b) := by
  apply ByteArray.ext
  simp [bs]
theorem bs_size (a : List UInt8) : (bs a).size = a.length := by simp [bs, ByteArray.size]
theorem bs_list (a : List UInt8) : (bs a).data.toList = a := by simp [bs]
theorem bs_eq (s : ByteArray) : bs s.data.toList = s := by
  apply ByteArray.ext
  simp [bs]

namespace Fm
def fuel : Nat := 1048577
/-- What a text reads as. -/
def read (s : ByteArray) : Res := parse s.data.toList fuel
/-- The whole text is a formula of whatever size. -/
def whole (s : ByteArray) : Bool := !(read s).2.2 && decide (s.size ≤ (read s).2.1)
/-- The results of ParseFormula. -/
def pf (s : ByteArray) : List Nd × Nat × Int :=
  if 200 < s.size then ([], 0, 3) else if whole s = false then ([], (read s).2.1, 6) else if 40 < (read s).1.length then ([], 0, 3) else ((read s).1, 0, 0)
theorem read_ok (s : ByteArray) : (read s).2.1 ≤ s.size ∧ (read s).1.length ≤ 3 * s.size + 1 := by
  obtain ⟨h1, h2, h3⟩ := parse_ok s.data.toList fuel
  rw [show s.data.toList.length = s.size from by simp] at h2
  exact ⟨h2, by unfold read; omega⟩
theorem read_ne (s : ByteArray) : (read s).1 ≠ [] := by
  obtain ⟨t, h⟩ := parse_enc s.data.toList fuel
  have := enc_pos t
  unfold read
  rw [h]
  intro h0
  rw [h0] at this
  simp at this
theorem pf_len (s : ByteArray) : (pf s).1.length ≤ 40 := by
  unfold pf
  split
  · simp
  split
  · simp
  split
  · simp
  · simp only; omega
end Fm

/-- What l02Read gives. -/
def Fm.rd (s : ByteArray) : List Nd × Int := if Fm.whole s = false then ([], ((Fm.read s).2.1 : Int)) else ((Fm.read s).1, -1)


namespace Fm
theorem read_txt (t : Tree) (h : (txt t 0).length < fuel) : read (bs (txt t 0)) = (enc t, ((txt t 0).length, false)) := by
  rw [read, bs_list, parse_txt t fuel h]
theorem whole_txt (t : Tree) (h : (txt t 0).length < fuel) : whole (bs (txt t 0)) = true := by
  rw [whole, read_txt t h, bs_size]
  simp
theorem pf_txt (t : Tree) (h : (txt t 0).length ≤ 200) (hn : (enc t).length ≤ 40) : pf (bs (txt t 0)) = (enc t, 0, 0) := by
  have hf : (txt t 0).length < fuel := by unfold fuel; omega
  rw [pf, if_neg (by rw [bs_size]; omega), if_neg (by rw [whole_txt t hf]; decide), read_txt t hf, if_neg (by simp only; omega)]
theorem rd_txt (t : Tree) (h : (txt t 0).length < fuel) : rd (bs (txt t 0)) = (enc t, -1) := by
  rw [rd, if_neg (by rw [whole_txt t h]; decide), read_txt t h]
end Fm
end Go.Proofs.YtefkgomecpnpbaaGreat

/- ParseFormula, of the program and of the reference: both give what the plain parser gives. -/
namespace Go.Proofs.YtefkgomecpnpbaaGreat
open Go.RowKit
open Fm (Nd)

/-- The call returns a new list and two numbers. -/
def Gives3 (w : World) (r : List Nd × Nat × Int) (e : Ending) (w' : World) : Prop := ∃ v, e = .returned (.tuple #[v, .int .i64 r.2.1, .int .i64 r.2.2]) ∧ Own w' w.heap.size v r.1 ∧ Grew w w' ∧ (r.1 = [] → v = .slice none 0 0)

theorem Rdr.new (w : World) (T : TypeId) (s : ByteArray) : Rdr (w.alloc (.cells #[.string s, .int .i64 0, .bool false] T)) w.heap.size T s (0, false) := blk_new w _

/-- A new list and one number: what l02Read returns. -/
def Gives2 (w : World) (xs : List Nd) (n : Int) (e : Ending) (w' : World) : Prop := ∃ v, e = .returned (.tuple #[v, .int .i64 n]) ∧ Own w' w.heap.size v xs ∧ Grew w w'

end Go.Proofs.YtefkgomecpnpbaaGreat

/- The reference's reader: l02Take, l02Need. -/
namespace Go.Proofs.YtefkgomecpnpbaaGreat
open Go.RowKit

end Go.Proofs.YtefkgomecpnpbaaGreat

/- The reference's reader: what l02Imply, l02Or, l02And read is what the plain parser gives. -/
namespace Go.Proofs.YtefkgomecpnpbaaGreat
open Go.RowKit
open Fm (Nd)

end Go.Proofs.YtefkgomecpnpbaaGreat

/- The reference's reader: l02Prefix and l02Imply. -/
namespace Go.Proofs.YtefkgomecpnpbaaGreat
open Go.RowKit
open Fm (Nd)

theorem index_letter (w : World) (i : Nat) (hi : i < 6) :
    (Instr.index 9 (.string ⟨#[112, 113, 114, 115, 116, 117]⟩) (.int .i64 i)).run Tryz.prog w = .ok (.int .u8 (112 + (i : Int))) w := by
  have h6 : i = 0 ∨ i = 1 ∨ i = 2 ∨ i = 3 ∨ i = 4 ∨ i = 5 := by omega
  rcases h6 with rfl | rfl | rfl | rfl | rfl | rfl <;> (simp [Instr.index, run_underlying Tryz.underlying9, go_sem]; rfl)
theorem letter_byte2 {i : Nat} (hi : i < 6) : 112 + (i : Int) = ((UInt8.ofNat (112 + i)).toNat : Int) := by
  rw [UInt8.toNat_ofNat']; omega

end Go.Proofs.YtefkgomecpnpbaaGreat

/- The readers of whole texts: ParseFormula of the reference. -/
namespace Go.Proofs.YtefkgomecpnpbaaGreat
open Go.RowKit
open Fm (Nd)

end Go.Proofs.YtefkgomecpnpbaaGreat

/- Where the part at an index ends; the parts of a formula. -/
namespace Go.Proofs.YtefkgomecpnpbaaGreat
open Go.RowKit
open Fm (Nd Tree)

theorem partsOf_c (k : Int) (w : World) :
    Calls Tryz.prog 102 #[.int .i64 k] w fun e w' => e = .returned (.int .i64 (Fm.arity k)) ∧ Grew w w' := by
  by_cases h2 : k = 2 ∨ k = 3 ∨ k = 4
  · have ha : Fm.arity k = 2 := by unfold Fm.arity; rw [if_pos h2]
    rw [ha]
    rcases h2 with rfl | rfl | rfl
    all_goals
      go_enter Tryz.func102, Tryz.ntmps102
      go_wp2_with fail
      go_ret
      exact ⟨rfl, Grew.refl _⟩
  by_cases h1 : k = 5 ∨ k = 6
  · have ha : Fm.arity k = 1 := by unfold Fm.arity; rw [if_neg h2, if_pos h1]
    rw [ha]
    rcases h1 with rfl | rfl
    all_goals
      go_enter Tryz.func102, Tryz.ntmps102
      go_wp2_with fail
      go_ret
      exact ⟨rfl, Grew.refl _⟩
  · have ha : Fm.arity k = 0 := by unfold Fm.arity; rw [if_neg h2, if_neg h1]
    rw [ha]
    have n2 : (k == 2) = false := by simp; omega
    have n3 : (k == 3) = false := by simp; omega
    have n4 : (k == 4) = false := by simp; omega
    have n5 : (k == 5) = false := by simp; omega
    have n6 : (k == 6) = false := by simp; omega
    clear h1 h2 ha
    go_enter Tryz.func102, Tryz.ntmps102
    go_wp2_with fail
    go_ret
    exact ⟨rfl, Grew.refl _⟩

/-- What 'partEnd' gives. -/
def pval (j : Nat) : Option Nat → Int
  | some n => (j : Int) + n
  | none => -1
theorem pval_succ (j : Nat) (o : Option Nat) : pval j (o.map (· + 1)) = pval (j + 1) o := by
  cases o with
  | none => rfl
  | some n => show (j : Int) + ((n + 1 : Nat) : Int) = ((j + 1 : Nat) : Int) + n; omega
def pend (xs : List Nd) (i : Nat) : Int := pval i (Fm.scan (xs.drop i) 1)

theorem scan_step {xs : List Nd} {j o : Nat} (hj : j < xs.length) : Fm.scan (xs.drop j) (o + 1) = (Fm.scan (xs.drop (j + 1)) (o + Fm.arity (kd xs j))).map (· + 1) := by
  rw [List.drop_eq_getElem_cons hj, Fm.scan_cons, kd_lt hj]

theorem partEnd_c (v : Value) (xs : List Nd) (i : Nat) (w : World) (h : Nodes w v xs) (hn : xs.length ≤ 1099511627776) (hi : i ≤ 1099511627776) :
    Calls Tryz.prog 78 #[v, .int .i64 i] w fun e w' => e = .returned (.int .i64 (pend xs i)) ∧ Grew w w' := by
  rcases h.open_ with ⟨rfl, rfl⟩ | ⟨b, o, c, rfl, hc, hm, hb, hf⟩
  · have hp : pend [] i = -1 := by simp [pend, Fm.scan_nil, pval]
    rw [hp]
    clear hp
    go_enter Tryz.func78, Tryz.ntmps78
    go_wp2_with fail
    refine wp_loop_rounds 1 ?_; rw [rounds_succ]
    go_wp2_with fail
    go_ret
    exact ⟨rfl, Grew.refl _⟩
  · clear h
    obtain ⟨P, hP⟩ : ∃ P, P = pend xs i := ⟨_, rfl⟩
    rw [← hP]
    -- the rest of the scan decides the result
    have hstart : Hid (P = pval i (Fm.scan (xs.drop i) 1)) := hP
    have hstep := fun j o hj => @scan_step xs j o hj
    have HS := Lib.hid hstep
    have HL : Hid (∀ j, xs.length ≤ j → xs.drop j = []) := Lib.hid fun j hj => List.drop_eq_nil_of_le hj
    clear hP hstep
    have HF := Lib.hid hf
    clear hf
    generalize hN : xs.length = n at *
    clear hN
    go_enter Tryz.func78, Tryz.ntmps78
    go_wp2_with fail
    go_loopg [1, 5] (n + 1 - i) (fun k x y wr => ∃ j op : Nat, x = .int .i64 j ∧ y = .int .i64 op ∧ Grew w wr ∧ i ≤ j ∧ op ≤ j - i + 1 ∧ k = n + 1 - j ∧ j ≤ i + n ∧ Hid (P = pval j (Fm.scan (xs.drop j) op)))
    case atStart => exact ⟨i, 1, rfl, rfl, Grew.refl _, Nat.le_refl _, by omega, rfl, by omega, hstart⟩
    case round =>
      obtain ⟨j, op, rfl, rfl, hB, hij, hop, rfl, hjn, HP⟩ := hrel
      by_cases hz : op = 0
      · subst hz
        have hv : Hid (P = (j : Int)) := Lib.hid (by rw [HP.out, Fm.scan_zero]; simp [pval])
        clear HP
        go_wp2_with fail
        go_ret
        rw [hv.out]
        exact ⟨rfl, hB⟩
      · obtain ⟨q, rfl⟩ : ∃ q, op = q + 1 := ⟨op - 1, by omega⟩
        by_cases hlt : j < n
        · have k1 : ∀ W, Grew w W → W.cell? ⟨b, o + j * 2, none⟩ = some (.int .i64 (kd xs j)) := fun W hW => (HF.out j hlt W hW).1
          have hv : Hid (P = pval (j + 1) (Fm.scan (xs.drop (j + 1)) (q + Fm.arity (kd xs j)))) := Lib.hid (by rw [HP.out, HS.out j q hlt, pval_succ])
          have har := Fm.arity_le (kd xs j)
          clear HP hz
          go_wp2_with fail
          refine (partsOf_c _ _).mono ?_
          rintro e w1 ⟨rfl, hg1⟩
          generalize Fm.arity (kd xs j) = ar at *
          go_wp2_with fail
          go_roundg (n + 1 - (j + 1))
          case measure => omega
          case rel => exact ⟨j + 1, q + ar, by go_num, by go_num, hB.trans hg1, by omega, by omega, rfl, by omega, hv⟩
        · have hv : Hid (P = -1) := Lib.hid (by rw [HP.out, HL.out j (by omega), Fm.scan_nil]; rfl)
          clear HP
          go_wp2_with fail
          go_ret
          rw [hv.out]
          exact ⟨rfl, hB⟩
theorem l02Parts_c (k : Int) (w : World) :
    Calls Tryz.prog 114 #[.int .i64 k] w fun e w' => e = .returned (.int .i64 (Fm.arity k)) ∧ Grew w w' := by
  by_cases h2 : k = 2 ∨ k = 3 ∨ k = 4
  · have ha : Fm.arity k = 2 := by unfold Fm.arity; rw [if_pos h2]
    rw [ha]
    rcases h2 with rfl | rfl | rfl
    all_goals
      go_enter Tryz.func114, Tryz.ntmps114
      go_wp2_with fail
      go_ret
      exact ⟨rfl, Grew.refl _⟩
  by_cases h1 : k = 5 ∨ k = 6
  · have ha : Fm.arity k = 1 := by unfold Fm.arity; rw [if_neg h2, if_pos h1]
    rw [ha]
    rcases h1 with rfl | rfl
    all_goals
      go_enter Tryz.func114, Tryz.ntmps114
      go_wp2_with fail
      go_ret
      exact ⟨rfl, Grew.refl _⟩
  · have ha : Fm.arity k = 0 := by unfold Fm.arity; rw [if_neg h2, if_neg h1]
    rw [ha]
    have n2 : (k == 2) = false := by simp; omega
    have n3 : (k == 3) = false := by simp; omega
    have n4 : (k == 4) = false := by simp; omega
    have n5 : (k == 5) = false := by simp; omega
    have n6 : (k == 6) = false := by simp; omega
    clear h1 h2 ha
    go_enter Tryz.func114, Tryz.ntmps114
    go_wp2_with fail
    go_ret
    exact ⟨rfl, Grew.refl _⟩

theorem l02Part_c (v : Value) (xs : List Nd) (i : Nat) (w : World) (h : Nodes w v xs) (hn : xs.length ≤ 1099511627776) (hi : i ≤ 1099511627776) :
    Calls Tryz.prog 97 #[v, .int .i64 i] w fun e w' => e = .returned (.int .i64 (pend xs i)) ∧ Grew w w' := by
  rcases h.open_ with ⟨rfl, rfl⟩ | ⟨b, o, c, rfl, hc, hm, hb, hf⟩
  · have hp : pend [] i = -1 := by simp [pend, Fm.scan_nil, pval]
    rw [hp]
    clear hp
    go_enter Tryz.func97, Tryz.ntmps97
    go_wp2_with fail
    refine wp_loop_rounds 1 ?_; rw [rounds_succ]
    go_wp2_with fail
    go_ret
    exact ⟨rfl, Grew.refl _⟩
  · clear h
    obtain ⟨P, hP⟩ : ∃ P, P = pend xs i := ⟨_, rfl⟩
    rw [← hP]
    -- the rest of the scan decides the result
    have hstart : Hid (P = pval i (Fm.scan (xs.drop i) 1)) := hP
    have hstep := fun j o hj => @scan_step xs j o hj
    have HS := Lib.hid hstep
    have HL : Hid (∀ j, xs.length ≤ j → xs.drop j = []) := Lib.hid fun j hj => List.drop_eq_nil_of_le hj
    clear hP hstep
    have HF := Lib.hid hf
    clear hf
    generalize hN : xs.length = n at *
    clear hN
    go_enter Tryz.func97, Tryz.ntmps97
    go_wp2_with fail
    go_loopg [1, 5] (n + 1 - i) (fun k x y wr => ∃ j op : Nat, x = .int .i64 j ∧ y = .int .i64 op ∧ Grew w wr ∧ i ≤ j ∧ op ≤ j - i + 1 ∧ k = n + 1 - j ∧ j ≤ i + n ∧ Hid (P = pval j (Fm.scan (xs.drop j) op)))
    case atStart => exact ⟨i, 1, rfl, rfl, Grew.refl _, Nat.le_refl _, by omega, rfl, by omega, hstart⟩
    case round =>
      obtain ⟨j, op, rfl, rfl, hB, hij, hop, rfl, hjn, HP⟩ := hrel
      by_cases hz : op = 0
      · subst hz
        have hv : Hid (P = (j : Int)) := Lib.hid (by rw [HP.out, Fm.scan_zero]; simp [pval])
        clear HP
        go_wp2_with fail
        go_ret
        rw [hv.out]
        exact ⟨rfl, hB⟩
      · obtain ⟨q, rfl⟩ : ∃ q, op = q + 1 := ⟨op - 1, by omega⟩
        by_cases hlt : j < n
        · have k1 : ∀ W, Grew w W → W.cell? ⟨b, o + j * 2, none⟩ = some (.int .i64 (kd xs j)) := fun W hW => (HF.out j hlt W hW).1
          have hv : Hid (P = pval (j + 1) (Fm.scan (xs.drop (j + 1)) (q + Fm.arity (kd xs j)))) := Lib.hid (by rw [HP.out, HS.out j q hlt, pval_succ])
          have har := Fm.arity_le (kd xs j)
          clear HP hz
          go_wp2_with fail
          refine (l02Parts_c _ _).mono ?_
          rintro e w1 ⟨rfl, hg1⟩
          generalize Fm.arity (kd xs j) = ar at *
          go_wp2_with fail
          go_roundg (n + 1 - (j + 1))
          case measure => omega
          case rel => exact ⟨j + 1, q + ar, by go_num, by go_num, hB.trans hg1, by omega, by omega, rfl, by omega, hv⟩
        · have hv : Hid (P = -1) := Lib.hid (by rw [HP.out, HL.out j (by omega), Fm.scan_nil]; rfl)
          clear HP
          go_wp2_with fail
          go_ret
          rw [hv.out]
          exact ⟨rfl, hB⟩

theorem cells_drop (xs : List Nd) : ∀ i, cells (xs.drop i) = (cells xs).drop (i * 2) := by
  induction xs with
  | nil => intro i; simp [cells]
  | cons x xs ih =>
    intro i
    cases i with
    | zero => simp
    | succ i =>
      rw [List.drop_succ_cons, ih, cells_cons, show (i + 1) * 2 = i * 2 + 1 + 1 by omega]
      rfl
theorem cells_take (xs : List Nd) : ∀ i, cells (xs.take i) = (cells xs).take (i * 2) := by
  induction xs with
  | nil => intro i; simp [cells]
  | cons x xs ih =>
    intro i
    cases i with
    | zero => simp [cells]
    | succ i =>
      rw [List.take_succ_cons, cells_cons, ih, cells_cons, show (i + 1) * 2 = i * 2 + 1 + 1 by omega]
      rfl
/-- A cut of a slice of nodes. -/
theorem Nodes.sub {w : World} {b o n c : Nat} {xs : List Nd} (h : Nodes w (.slice (some ⟨b, o, none⟩) n c) xs) (i m c' : Nat) (him : i + m ≤ xs.length) (hc : m ≤ c') (hc' : c' ≤ 9223372036854775807) :
    Nodes w (.slice (some ⟨b, o + i * 2, none⟩) m c') ((xs.drop i).take m) := by
  obtain ⟨h1, h2, h3⟩ := h
  have hl : ((xs.drop i).take m).length = m := by simp; omega
  refine ⟨cells_length _, by omega, .inr ?_⟩
  rcases h3 with ⟨h4, _⟩ | ⟨b', o', c0, h4, h5, h6, h7, h8⟩
  · cases h4
  · simp only [Value.slice.injEq, Option.some.injEq, Addr.mk.injEq, and_true] at h4
    obtain ⟨⟨rfl, rfl⟩, rfl, rfl⟩ := h4
    refine ⟨b, o + i * 2, c', by rw [hl], by omega, hc', h7, fun j u hu => ?_⟩
    rw [cells_take, List.getElem?_take] at hu
    split at hu
    · rw [cells_drop, List.getElem?_drop] at hu
      have := h8 _ _ hu
      rw [show o + i * 2 + j = o + (i * 2 + j) by omega]
      exact this
    · cases hu

/-- A list that stands in another one from i on. -/
def At (xs : List Nd) (i : Nat) (t : Tree) : Prop := ∃ rest, xs.drop i = Fm.enc t ++ rest
theorem At.pend {xs : List Nd} {i : Nat} {t : Tree} (h : At xs i t) : pend xs i = (i : Int) + (Fm.enc t).length := by
  obtain ⟨rest, h⟩ := h
  rw [Go.Proofs.YtefkgomecpnpbaaGreat.pend, h, Fm.scan_one]; rfl
theorem At.take {xs : List Nd} {i : Nat} {t : Tree} (h : At xs i t) : (xs.drop i).take (Fm.enc t).length = Fm.enc t := by
  obtain ⟨rest, h⟩ := h
  rw [h, List.take_left']; rfl
theorem At.le {xs : List Nd} {i : Nat} {t : Tree} (h : At xs i t) : i + (Fm.enc t).length ≤ xs.length := by
  obtain ⟨rest, h⟩ := h
  have h1 := congrArg List.length h
  have h2 := Fm.enc_pos t
  simp only [List.length_drop, List.length_append] at h1
  omega

/-- The call returns a slice that reads as the list, and changes nothing. -/
def Cuts (w : World) (xs : List Nd) (e : Ending) (w' : World) : Prop := ∃ v, e = .returned v ∧ Nodes w' v xs ∧ Grew w w'

theorem partEnd_at (v : Value) (xs : List Nd) (i : Nat) (t : Tree) (w : World) (h : Nodes w v xs) (hn : xs.length ≤ 1099511627776) (ht : At xs i t) :
    Calls Tryz.prog 78 #[v, .int .i64 i] w fun e w' => e = .returned (.int .i64 ((i : Int) + (Fm.enc t).length)) ∧ Grew w w' := by
  have := partEnd_c v xs i w h hn (by have := ht.le; omega)
  rw [ht.pend] at this
  exact this
theorem l02Part_at (v : Value) (xs : List Nd) (i : Nat) (t : Tree) (w : World) (h : Nodes w v xs) (hn : xs.length ≤ 1099511627776) (ht : At xs i t) :
    Calls Tryz.prog 97 #[v, .int .i64 i] w fun e w' => e = .returned (.int .i64 ((i : Int) + (Fm.enc t).length)) ∧ Grew w w' := by
  have := l02Part_c v xs i w h hn (by have := ht.le; omega)
  rw [ht.pend] at this
  exact this

theorem part_c (v : Value) (xs : List Nd) (i : Nat) (t : Tree) (w : World) (h : Nodes w v xs) (hn : xs.length ≤ 1099511627776) (ht : At xs i t) :
    Calls Tryz.prog 113 #[v, .int .i64 i] w (Cuts w (Fm.enc t)) := by
  have hle := ht.le
  have hpos := Fm.enc_pos t
  rcases h.open_ with ⟨rfl, rfl⟩ | ⟨b, o, c, rfl, hc, hm, hb, hf⟩
  · simp only [List.length_nil] at hle; omega
  · have hsub := h.sub i (Fm.enc t).length (Fm.enc t).length hle (Nat.le_refl _) (by omega)
    rw [ht.take] at hsub
    have HH := Lib.hid h
    have HS := Lib.hid hsub
    have HT := Lib.hid ht
    clear h hf hsub ht
    go_enter Tryz.func113, Tryz.ntmps113
    go_wp2_with fail
    refine (partEnd_at _ xs i t _ HH.out hn HT.out).mono ?_
    rintro e w1 ⟨rfl, hg1⟩
    go_wp2_with fail
    refine (partEnd_at _ xs i t _ (HH.out.grew hg1) hn HT.out).mono ?_
    rintro e w2 ⟨rfl, hg2⟩
    go_wp2_with fail
    go_ret
    refine ⟨_, rfl, ?_, hg1.trans hg2⟩
    rw [Nat.add_sub_cancel_left]
    exact HS.out.grew (hg1.trans hg2)

/-- The kind of the first node. -/
def kindOf : Tree → Int
  | .var _ => 0
  | .fls => 1
  | .and _ _ => 2
  | .or _ _ => 3
  | .imp _ _ => 4
  | .box _ => 5
  | .dia _ => 6

theorem kd_enc (t : Tree) : kd (Fm.enc t) 0 = kindOf t := by cases t <;> rfl
theorem isF_kind (t : Tree) : Fm.isF t = (kindOf t == 1) := by cases t <;> rfl

/-- Is the formula a negation? -/
def isNeg : Tree → Bool
  | .imp _ b => Fm.isF b
  | _ => false

theorem at_first {xs : List Nd} {k : Nd} {a : Tree} {rest : List Nd} (h : xs = k :: (Fm.enc a ++ rest)) : At xs 1 a := ⟨rest, by rw [h]; rfl⟩
theorem at_second {xs : List Nd} {k : Nd} {a b : Tree} (h : xs = k :: (Fm.enc a ++ Fm.enc b)) : At xs (1 + (Fm.enc a).length) b :=
  ⟨[], by rw [h, Nat.add_comm, List.drop_succ_cons, List.drop_left', List.append_nil]; rfl⟩

/-- The call returns the text and changes nothing. -/
def Says (w : World) (s : List UInt8) (e : Ending) (w' : World) : Prop := e = .returned (.string (bs s)) ∧ Grew w w'

theorem nodes_head {w : World} {v : Value} {t : Tree} (h : Nodes w v (Fm.enc t)) : ∃ b o c, v = .slice (some ⟨b, o, none⟩) (Fm.enc t).length c ∧ (Fm.enc t).length ≤ c ∧ c ≤ 9223372036854775807 ∧ ∀ W, Grew w W → W.cell? ⟨b, o, none⟩ = some (.int .i64 (kindOf t)) := by
  have hpos := Fm.enc_pos t
  rcases h.open_ with ⟨rfl, h0⟩ | ⟨b, o, c, rfl, hc, hm, hb, hf⟩
  · rw [h0] at hpos; simp at hpos
  · refine ⟨b, o, c, rfl, hc, hm, fun W hW => ?_⟩
    have := (hf 0 (by omega) W hW).1
    rw [kd_enc] at this
    simpa using this

theorem letter_cut {q : Nat} (h : q < 6) : ByteArray.extract ⟨#[112, 113, 114, 115, 116, 117]⟩ q (q + 1) = bs [UInt8.ofNat (112 + q)] := by
  have h6 : q = 0 ∨ q = 1 ∨ q = 2 ∨ q = 3 ∨ q = 4 ∨ q = 5 := by omega
  rcases h6 with rfl | rfl | rfl | rfl | rfl | rfl <;> decide
end Go.Proofs.YtefkgomecpnpbaaGreat

/- Two lists of nodes that agree as far as k. -/
namespace Go.Proofs.YtefkgomecpnpbaaGreat
open Go.RowKit
open Fm (Nd)

/-- Two lists that agree as far as k. -/
def Agree (xs ys : List Nd) (k : Nat) : Prop := ∀ i, i < k → kd xs i = kd ys i ∧ sy xs i = sy ys i
theorem Agree.zero (xs ys : List Nd) : Agree xs ys 0 := fun i hi => absurd hi (by omega)
theorem Agree.succ {xs ys : List Nd} {k : Nat} (h : Agree xs ys k) (h1 : kd xs k = kd ys k) (h2 : sy xs k = sy ys k) : Agree xs ys (k + 1) := by
  intro i hi
  rcases Nat.lt_or_ge i k with hk | hk
  · exact h i hk
  · obtain rfl : i = k := by omega
    exact ⟨h1, h2⟩
end Go.Proofs.YtefkgomecpnpbaaGreat

/- The reference's l02Equal on lists of nodes. -/
namespace Go.Proofs.YtefkgomecpnpbaaGreat
open Go.RowKit
open Fm (Nd)

theorem agree_all {xs ys : List Nd} (hl : xs.length = ys.length) (h : Agree xs ys xs.length) : xs = ys := nd_ext hl h

end Go.Proofs.YtefkgomecpnpbaaGreat

/- The text of a formula: the reference's l02Write. -/
namespace Go.Proofs.YtefkgomecpnpbaaGreat
open Go.RowKit
open Fm (Nd Tree)

theorem l02Left_c (v : Value) (xs : List Nd) (a : Tree) (w : World) (h : Nodes w v xs) (hn : xs.length ≤ 1099511627776) (ha : At xs 1 a) :
    Calls Tryz.prog 71 #[v] w (Cuts w (Fm.enc a)) := by
  have hle := ha.le
  have hpos := Fm.enc_pos a
  rcases h.open_ with ⟨rfl, rfl⟩ | ⟨b, o, c, rfl, hc, hm, hb, hf⟩
  · simp only [List.length_nil] at hle; omega
  · have hsub := h.sub 1 (Fm.enc a).length (c - 1) hle (by omega) (by omega)
    rw [ha.take] at hsub
    have HH := Lib.hid h
    have HS := Lib.hid hsub
    have HT := Lib.hid ha
    clear h hf hsub ha
    go_enter Tryz.func71, Tryz.ntmps71
    go_wp2_with fail
    refine (l02Part_at _ xs 1 a _ HH.out hn HT.out).mono ?_
    rintro e w1 ⟨rfl, hg1⟩
    go_wp2_with fail
    go_ret
    refine ⟨_, rfl, ?_, hg1⟩
    rw [Nat.add_sub_cancel_left]
    exact HS.out.grew hg1

theorem l02Right_c (v : Value) (xs : List Nd) (a t : Tree) (w : World) (h : Nodes w v xs) (hn : xs.length ≤ 1099511627776) (ha : At xs 1 a) (ht : At xs (1 + (Fm.enc a).length) t) (hl : xs.length = 1 + (Fm.enc a).length + (Fm.enc t).length) :
    Calls Tryz.prog 72 #[v] w (Cuts w (Fm.enc t)) := by
  have hle := ha.le
  have hpos := Fm.enc_pos t
  rcases h.open_ with ⟨rfl, rfl⟩ | ⟨b, o, c, rfl, hc, hm, hb, hf⟩
  · simp only [List.length_nil] at hle; omega
  · have hsub := h.sub (1 + (Fm.enc a).length) (Fm.enc t).length (c - (1 + (Fm.enc a).length)) (by omega) (by omega) (by omega)
    rw [ht.take] at hsub
    have HH := Lib.hid h
    have HS := Lib.hid hsub
    have HA := Lib.hid ha
    have hk : (Fm.enc t).length = xs.length - (1 + (Fm.enc a).length) := by omega
    rw [hk] at HS
    have hlt : 1 + (Fm.enc a).length < xs.length := by omega
    clear h hf hsub ha ht hl hk hpos
    go_enter Tryz.func72, Tryz.ntmps72
    go_wp2_with fail
    refine (l02Part_at _ xs 1 a _ HH.out hn HA.out).mono ?_
    rintro e w1 ⟨rfl, hg1⟩
    go_wp2_with fail
    go_ret
    exact ⟨_, rfl, HS.out.grew hg1, hg1⟩

theorem enc_fls {t : Tree} (h : Fm.enc t = [(1, 0)]) : t = .fls := by
  cases t <;> simp_all [Fm.enc]
theorem enc_truth {x y : Tree} (h : Fm.enc (.imp x y) = Fm.truth) : x = .fls ∧ y = .fls := by
  have hx := Fm.enc_pos x
  have hy := Fm.enc_pos y
  have h1 : Fm.enc x ++ Fm.enc y = [(1, 0), (1, 0)] := by
    have : (4, 0) :: (Fm.enc x ++ Fm.enc y) = ((4, 0) : Nd) :: [(1, 0), (1, 0)] := h
    injection this
  have hl := congrArg List.length h1
  simp only [List.length_append, List.length_cons, List.length_nil] at hl
  have h2 : Fm.enc x = [(1, 0)] := by
    have := congrArg (List.take 1) h1
    rw [List.take_append_of_le_length hx, List.take_of_length_le (by omega)] at this
    exact this
  have h3 : Fm.enc y = [(1, 0)] := by
    rw [h2] at h1
    simpa using h1
  exact ⟨enc_fls h2, enc_fls h3⟩

end Go.Proofs.YtefkgomecpnpbaaGreat

/- A text that reads to a tree whose text it is. -/
namespace Go.Proofs.YtefkgomecpnpbaaGreat
open Go.RowKit
open Fm (Nd)

/-- The text is the text of a formula. -/
def IsGood (s : ByteArray) : Prop := ∃ t, Fm.pf s = (Fm.enc t, 0, 0) ∧ bs (Fm.txt t 0) = s
noncomputable def gd (s : ByteArray) : Bool := @decide (IsGood s) (Classical.propDecidable _)
theorem gd_true {s : ByteArray} (h : IsGood s) : gd s = true := by
  unfold gd
  exact @decide_eq_true _ (Classical.propDecidable _) h
theorem gd_false {s : ByteArray} (h : ¬ IsGood s) : gd s = false := by
  unfold gd
  exact @decide_eq_false _ (Classical.propDecidable _) h

theorem pf_cases (s : ByteArray) : (∃ t, Fm.pf s = (Fm.enc t, 0, 0)) ∨ ∃ p c, Fm.pf s = ([], p, c) ∧ (c == 0) = false := by
  unfold Fm.pf
  split
  · exact .inr ⟨_, _, rfl, by decide⟩
  · split
    · exact .inr ⟨_, _, rfl, by decide⟩
    · split
      · exact .inr ⟨_, _, rfl, by decide⟩
      · obtain ⟨t, ht⟩ := Fm.parse_enc s.data.toList Fm.fuel
        refine .inl ⟨t, ?_⟩
        rw [← ht]
        rfl
theorem gd_bad {s : ByteArray} {p : Nat} {c : Int} (h : Fm.pf s = ([], p, c)) (hc : (c == 0) = false) : gd s = false := by
  apply gd_false
  rintro ⟨t, ht, _⟩
  rw [h] at ht
  simp only [Prod.mk.injEq] at ht
  rw [ht.2.2] at hc
  cases hc
theorem gd_tree {s : ByteArray} {t : Fm.Tree} (h : Fm.pf s = (Fm.enc t, 0, 0)) : gd s = ((bs (Fm.txt t 0)).toList == s.toList) := by
  have e : ((bs (Fm.txt t 0)).toList == s.toList) = true ↔ bs (Fm.txt t 0) = s := by
    exact Lib.bytes_beq_iff _ _
  cases hb : ((bs (Fm.txt t 0)).toList == s.toList) with
  | true => exact gd_true ⟨t, h, e.1 hb⟩
  | false =>
    apply gd_false
    rintro ⟨u, hu, hs⟩
    rw [h] at hu
    simp only [Prod.mk.injEq, and_true] at hu
    have := enc_inj hu
    subst this
    rw [e.2 hs] at hb
    cases hb

/-- What the reference's test of a text gives. -/
def GivesG (w : World) (s : ByteArray) (e : Ending) (w' : World) : Prop := ∃ v, e = .returned (.tuple #[v, .bool (gd s)]) ∧ Own w' w.heap.size v (Fm.pf s).1 ∧ Grew w w'

end Go.Proofs.YtefkgomecpnpbaaGreat

/- The parts of a formula, as the program's text needs them. -/
namespace Go.Proofs.YtefkgomecpnpbaaGreat
open Go.RowKit
open Fm (Nd Tree)

theorem first_c (v : Value) (xs : List Nd) (t : Tree) (w : World) (h : Nodes w v xs) (hn : xs.length ≤ 1099511627776) (ht : At xs 1 t) :
    Calls Tryz.prog 90 #[v] w (Cuts w (Fm.enc t)) := by
  have HT := Lib.hid ht
  clear ht
  go_enter Tryz.func90, Tryz.ntmps90
  go_wp2_with fail
  refine (part_c _ xs 1 t _ h hn HT.out).mono ?_
  rintro e w1 ⟨v1, rfl, hN1, hg1⟩
  go_wp2_with fail
  go_ret
  exact ⟨_, rfl, hN1, hg1⟩

theorem second_c (v : Value) (xs : List Nd) (a t : Tree) (w : World) (h : Nodes w v xs) (hn : xs.length ≤ 1099511627776) (ha : At xs 1 a) (ht : At xs (1 + (Fm.enc a).length) t) :
    Calls Tryz.prog 91 #[v] w (Cuts w (Fm.enc t)) := by
  have HA := Lib.hid ha
  have HT := Lib.hid ht
  clear ha ht
  go_enter Tryz.func91, Tryz.ntmps91
  go_wp2_with fail
  refine (partEnd_at _ xs 1 a _ h hn HA.out).mono ?_
  rintro e w1 ⟨rfl, hg1⟩
  go_wp2_with fail
  refine (part_c _ xs (1 + (Fm.enc a).length) t _ (h.grew hg1) hn HT.out).mono ?_
  rintro e w2 ⟨v2, rfl, hN2, hg2⟩
  go_wp2_with fail
  go_ret
  exact ⟨_, rfl, hN2, hg1.trans hg2⟩

theorem isFalsum_c (v : Value) (t : Tree) (w : World) (h : Nodes w v (Fm.enc t)) :
    Calls Tryz.prog 93 #[v] w fun e w' => e = .returned (.bool (Fm.isF t)) ∧ Grew w w' := by
  have hpos := Fm.enc_pos t
  rcases h.open_ with ⟨rfl, h0⟩ | ⟨b, o, c, rfl, hc, hm, hb, hf⟩
  · rw [h0] at hpos; simp at hpos
  · have k1 := (hf 0 (by omega) w (Grew.refl _)).1
    rw [kd_enc] at k1
    rw [isF_kind]
    simp only [Nat.zero_mul, Nat.add_zero] at k1
    clear hf h
    go_enter Tryz.func93, Tryz.ntmps93
    go_wp2_with fail
    go_ret
    exact ⟨rfl, Grew.refl _⟩

theorem isNegation_c (v : Value) (t : Tree) (w : World) (h : Nodes w v (Fm.enc t)) (hn : (Fm.enc t).length ≤ 1099511627776) :
    Calls Tryz.prog 92 #[v] w fun e w' => e = .returned (.bool (isNeg t)) ∧ Grew w w' := by
  have hpos := Fm.enc_pos t
  rcases h.open_ with ⟨rfl, h0⟩ | ⟨b, o, c, rfl, hc, hm, hb, hf⟩
  · rw [h0] at hpos; simp at hpos
  · have k1 := (hf 0 (by omega) w (Grew.refl _)).1
    rw [kd_enc] at k1
    simp only [Nat.zero_mul, Nat.add_zero] at k1
    clear hf
    by_cases hk : kindOf t = 4
    · obtain ⟨x, y, rfl⟩ : ∃ x y, t = .imp x y := by cases t <;> simp_all [kindOf]
      have ha := at_first (xs := Fm.enc (.imp x y)) (k := (4, 0)) (a := x) (rest := Fm.enc y) rfl
      have hb2 := at_second (xs := Fm.enc (.imp x y)) (k := (4, 0)) (a := x) (b := y) rfl
      have HA := Lib.hid ha
      have HB := Lib.hid hb2
      have HH := Lib.hid h
      have hE : isNeg (.imp x y) = Fm.isF y := rfl
      rw [hE]
      rw [hk] at k1
      clear ha hb2 h hE hk
      generalize Fm.enc (.imp x y) = T at *
      go_enter Tryz.func92, Tryz.ntmps92
      go_wp2_with fail
      refine (second_c _ T x y _ HH.out hn HA.out HB.out).mono ?_
      rintro e w1 ⟨v1, rfl, hN1, hg1⟩
      go_wp2_with fail
      refine (isFalsum_c _ y _ hN1).mono ?_
      rintro e w2 ⟨rfl, hg2⟩
      go_wp2_with fail
      go_ret
      exact ⟨by simp, hg1.trans hg2⟩
    · have hE : isNeg t = false := by cases t <;> simp_all [isNeg, kindOf]
      rw [hE]
      have hk' : (kindOf t == 4) = false := by simpa using hk
      clear hE hk h
      generalize kindOf t = K at *
      go_enter Tryz.func92, Tryz.ntmps92
      go_wp2_with fail
      go_ret
      exact ⟨rfl, Grew.refl _⟩

theorem levelOf_c (v : Value) (t : Tree) (w : World) (h : Nodes w v (Fm.enc t)) (hn : (Fm.enc t).length ≤ 1099511627776) :
    Calls Tryz.prog 89 #[v] w fun e w' => e = .returned (.int .i64 (Fm.own t)) ∧ Grew w w' := by
  have hpos := Fm.enc_pos t
  rcases h.open_ with ⟨rfl, h0⟩ | ⟨b, o, c, rfl, hc, hm, hb, hf⟩
  · rw [h0] at hpos; simp at hpos
  · have k1 := fun W hW => (hf 0 (by omega) W hW).1
    rw [kd_enc] at k1
    simp only [Nat.zero_mul, Nat.add_zero] at k1
    have HN := Lib.hid (fun w h => isNegation_c (.slice (some ⟨b, o, none⟩) (Fm.enc t).length c) t w h hn)
    have HH := Lib.hid h
    have hg0 := Grew.refl w
    clear hf h
    by_cases hk : kindOf t = 4
    · rw [hk] at k1
      cases hng : isNeg t with
      | true =>
        have hE : Fm.own t = 3 := by cases t <;> simp_all [isNeg, kindOf, Fm.own]
        rw [hE]
        rw [hng] at HN
        clear hE hk hng
        go_enter Tryz.func89, Tryz.ntmps89
        go_wp2_with fail
        refine (HN.out _ HH.out).mono ?_
        rintro e w1 ⟨rfl, hg1⟩
        go_wp2_with fail
        go_ret
        exact ⟨rfl, hg1⟩
      | false =>
        have hE : Fm.own t = 0 := by cases t <;> simp_all [isNeg, kindOf, Fm.own]
        rw [hE]
        rw [hng] at HN
        clear hE hk hng
        go_enter Tryz.func89, Tryz.ntmps89
        go_wp2_with fail
        refine (HN.out _ HH.out).mono ?_
        rintro e w1 ⟨rfl, hg1⟩
        go_wp2_with fail
        go_ret
        exact ⟨rfl, hg1⟩
    · have hk4 : (kindOf t == 4) = false := by simpa using hk
      by_cases hk3 : kindOf t = 3
      · have hE : Fm.own t = 1 := by cases t <;> simp_all [kindOf, Fm.own]
        rw [hE]
        rw [hk3] at k1
        clear hE hk hk4 hk3
        go_enter Tryz.func89, Tryz.ntmps89
        go_wp2_with fail
        go_ret
        exact ⟨rfl, Grew.refl _⟩
      by_cases hk2 : kindOf t = 2
      · have hE : Fm.own t = 2 := by cases t <;> simp_all [kindOf, Fm.own]
        rw [hE]
        rw [hk2] at k1
        clear hE hk hk4 hk3 hk2
        go_enter Tryz.func89, Tryz.ntmps89
        go_wp2_with fail
        go_ret
        exact ⟨rfl, Grew.refl _⟩
      · have hE : Fm.own t = 3 := by cases t <;> simp_all [kindOf, Fm.own]
        rw [hE]
        have hk3' : (kindOf t == 3) = false := by simpa using hk3
        have hk2' : (kindOf t == 2) = false := by simpa using hk2
        clear hE hk hk3 hk2 HN HH
        generalize kindOf t = K at *
        go_enter Tryz.func89, Tryz.ntmps89
        go_wp2_with fail
        go_ret
        exact ⟨rfl, Grew.refl _⟩
end Go.Proofs.YtefkgomecpnpbaaGreat

/- The text of a formula: the program's textAt. -/
namespace Go.Proofs.YtefkgomecpnpbaaGreat
open Go.RowKit
open Fm (Nd Tree)

def TextOk (t : Tree) : Prop := ∀ (l : Nat) (v : Value) (w : World), l ≤ 3 → Nodes w v (Fm.enc t) → (Fm.enc t).length ≤ 1048576 →
  Calls Tryz.prog 65 #[v, .int .i64 l] w (Says w (Fm.txt t l))
/-- The same where no brackets are needed. -/
def BodyOk (t : Tree) : Prop := ∀ (l : Nat) (v : Value) (w : World), l ≤ Fm.own t → Nodes w v (Fm.enc t) → (Fm.enc t).length ≤ 1048576 →
  Calls Tryz.prog 65 #[v, .int .i64 l] w (Says w (Fm.txt t l))

theorem body_and (x y : Tree) (hx : TextOk x) (hy : TextOk y) : BodyOk (.and x y) := by
  intro l v w hl h hn
  have hown : Fm.own (.and x y) = 2 := by rfl
  have hE : Fm.txt (.and x y) l = Fm.txt x 2 ++ [38] ++ Fm.txt y 3 := by
    rw [Fm.txt, Fm.wrap, if_neg (by omega)]
  rw [hE]
  rw [hown] at hl
  obtain ⟨b, o, c, rfl, hc, hm, k1⟩ := nodes_head h
  have hpos := Fm.enc_pos (.and x y)
  have HL := Lib.hid (levelOf_c _ _ w h (by omega))
  have HH := Lib.hid h
  have hg0 := Grew.refl w
  rw [hown] at HL
  rw [show kindOf (.and x y) = 2 from rfl] at k1
  have HA := Lib.hid (at_first (xs := Fm.enc (.and x y)) (k := (2, 0)) (a := x) (rest := Fm.enc y) rfl)
  have HB := Lib.hid (at_second (xs := Fm.enc (.and x y)) (k := (2, 0)) (a := x) (b := y) rfl)
  have hlen : (Fm.enc (.and x y)).length = 1 + ((Fm.enc x).length + (Fm.enc y).length) := by simp [Fm.enc]; omega
  have h1 := Fm.txt_len x 2
  have h2 := Fm.txt_len y 3
  have HX := Lib.hid hx
  have HY := Lib.hid hy
  have hn1 : (Fm.enc x).length ≤ 1048576 := by omega
  have hn2 : (Fm.enc y).length ≤ 1048576 := by omega
  clear hE h hx hy hlen hown
  generalize Fm.enc (.and x y) = T at *
  have s1 := bs_size (Fm.txt x 2)
  have s2 := bs_size (Fm.txt y 3)
  have z1 : (bs (Fm.txt x 2)).size ≤ 4194304 := by omega
  have z2 : (bs (Fm.txt y 3)).size ≤ 4194304 := by omega
  have HE : Hid (bs (Fm.txt x 2) ++ bs [38] ++ bs (Fm.txt y 3) = bs (Fm.txt x 2 ++ [38] ++ Fm.txt y 3)) := by unfold Hid; rw [bs_append, bs_append]
  clear s1 s2 h1 h2
  generalize Fm.txt x 2 ++ [38] ++ Fm.txt y 3 = Z at *
  go_enter Tryz.func65, Tryz.ntmps65
  go_wp2_with fail
  refine HL.out.mono ?_
  rintro e w1 ⟨rfl, hg1⟩
  go_wp2_with fail
  refine (first_c _ T x _ (HH.out.grew hg1) (by omega) HA.out).mono ?_
  rintro e w2 ⟨v2, rfl, hN2, hg2⟩
  go_wp2_with fail
  refine (HX.out 2 _ _ (by omega) hN2 hn1).mono ?_
  rintro e w3 ⟨rfl, hg3⟩
  go_wp2_with fail
  refine (second_c _ T x y _ (HH.out.grew ((hg1.trans hg2).trans hg3)) (by omega) HA.out HB.out).mono ?_
  rintro e w4 ⟨v4, rfl, hN4, hg4⟩
  go_wp2_with fail
  refine (HY.out 3 _ _ (by omega) hN4 hn2).mono ?_
  rintro e w5 ⟨rfl, hg5⟩
  go_wp2_with fail
  go_ret
  exact ⟨congrArg (fun z => Ending.returned (.string z)) HE.out, (((hg1.trans hg2).trans hg3).trans hg4).trans hg5⟩

theorem body_or (x y : Tree) (hx : TextOk x) (hy : TextOk y) : BodyOk (.or x y) := by
  intro l v w hl h hn
  have hown : Fm.own (.or x y) = 1 := by rfl
  have hE : Fm.txt (.or x y) l = Fm.txt x 1 ++ [124] ++ Fm.txt y 2 := by
    rw [Fm.txt, Fm.wrap, if_neg (by omega)]
  rw [hE]
  rw [hown] at hl
  obtain ⟨b, o, c, rfl, hc, hm, k1⟩ := nodes_head h
  have hpos := Fm.enc_pos (.or x y)
  have HL := Lib.hid (levelOf_c _ _ w h (by omega))
  have HH := Lib.hid h
  have hg0 := Grew.refl w
  rw [hown] at HL
  rw [show kindOf (.or x y) = 3 from rfl] at k1
  have HA := Lib.hid (at_first (xs := Fm.enc (.or x y)) (k := (3, 0)) (a := x) (rest := Fm.enc y) rfl)
  have HB := Lib.hid (at_second (xs := Fm.enc (.or x y)) (k := (3, 0)) (a := x) (b := y) rfl)
  have hlen : (Fm.enc (.or x y)).length = 1 + ((Fm.enc x).length + (Fm.enc y).length) := by simp [Fm.enc]; omega
  have h1 := Fm.txt_len x 1
  have h2 := Fm.txt_len y 2
  have HX := Lib.hid hx
  have HY := Lib.hid hy
  have hn1 : (Fm.enc x).length ≤ 1048576 := by omega
  have hn2 : (Fm.enc y).length ≤ 1048576 := by omega
  clear hE h hx hy hlen hown
  generalize Fm.enc (.or x y) = T at *
  have s1 := bs_size (Fm.txt x 1)
  have s2 := bs_size (Fm.txt y 2)
  have z1 : (bs (Fm.txt x 1)).size ≤ 4194304 := by omega
  have z2 : (bs (Fm.txt y 2)).size ≤ 4194304 := by omega
  have HE : Hid (bs (Fm.txt x 1) ++ bs [124] ++ bs (Fm.txt y 2) = bs (Fm.txt x 1 ++ [124] ++ Fm.txt y 2)) := by unfold Hid; rw [bs_append, bs_append]
  clear s1 s2 h1 h2
  generalize Fm.txt x 1 ++ [124] ++ Fm.txt y 2 = Z at *
  go_enter Tryz.func65, Tryz.ntmps65
  go_wp2_with fail
  refine HL.out.mono ?_
  rintro e w1 ⟨rfl, hg1⟩
  go_wp2_with fail
  refine (first_c _ T x _ (HH.out.grew hg1) (by omega) HA.out).mono ?_
  rintro e w2 ⟨v2, rfl, hN2, hg2⟩
  go_wp2_with fail
  refine (HX.out 1 _ _ (by omega) hN2 hn1).mono ?_
  rintro e w3 ⟨rfl, hg3⟩
  go_wp2_with fail
  refine (second_c _ T x y _ (HH.out.grew ((hg1.trans hg2).trans hg3)) (by omega) HA.out HB.out).mono ?_
  rintro e w4 ⟨v4, rfl, hN4, hg4⟩
  go_wp2_with fail
  refine (HY.out 2 _ _ (by omega) hN4 hn2).mono ?_
  rintro e w5 ⟨rfl, hg5⟩
  go_wp2_with fail
  go_ret
  exact ⟨congrArg (fun z => Ending.returned (.string z)) HE.out, (((hg1.trans hg2).trans hg3).trans hg4).trans hg5⟩

theorem body_imp (x y : Tree) (hf : Fm.isF y = false) (hx : TextOk x) (hy : TextOk y) : BodyOk (.imp x y) := by
  intro l v w hl h hn
  have hown : Fm.own (.imp x y) = 0 := by simp [Fm.own, hf]
  have hE : Fm.txt (.imp x y) l = Fm.txt x 1 ++ [62] ++ Fm.txt y 0 := by
    rw [Fm.txt, if_neg (by simp [hf]), Fm.wrap, if_neg (by omega)]
  rw [hE]
  rw [hown] at hl
  obtain ⟨b, o, c, rfl, hc, hm, k1⟩ := nodes_head h
  have hpos := Fm.enc_pos (.imp x y)
  have HL := Lib.hid (levelOf_c _ _ w h (by omega))
  have HH := Lib.hid h
  have hg0 := Grew.refl w
  have hng : isNeg (.imp x y) = false := hf
  have HG := Lib.hid (fun w h => isNegation_c (.slice (some ⟨b, o, none⟩) (Fm.enc (.imp x y)).length c) (.imp x y) w h (by omega))
  rw [hng] at HG
  rw [hown] at HL
  rw [show kindOf (.imp x y) = 4 from rfl] at k1
  have HA := Lib.hid (at_first (xs := Fm.enc (.imp x y)) (k := (4, 0)) (a := x) (rest := Fm.enc y) rfl)
  have HB := Lib.hid (at_second (xs := Fm.enc (.imp x y)) (k := (4, 0)) (a := x) (b := y) rfl)
  have hlen : (Fm.enc (.imp x y)).length = 1 + ((Fm.enc x).length + (Fm.enc y).length) := by simp [Fm.enc]; omega
  have h1 := Fm.txt_len x 1
  have h2 := Fm.txt_len y 0
  have HX := Lib.hid hx
  have HY := Lib.hid hy
  have hn1 : (Fm.enc x).length ≤ 1048576 := by omega
  have hn2 : (Fm.enc y).length ≤ 1048576 := by omega
  clear hE h hx hy hlen hown hng hf
  generalize Fm.enc (.imp x y) = T at *
  have s1 := bs_size (Fm.txt x 1)
  have s2 := bs_size (Fm.txt y 0)
  have z1 : (bs (Fm.txt x 1)).size ≤ 4194304 := by omega
  have z2 : (bs (Fm.txt y 0)).size ≤ 4194304 := by omega
  have HE : Hid (bs (Fm.txt x 1) ++ bs [62] ++ bs (Fm.txt y 0) = bs (Fm.txt x 1 ++ [62] ++ Fm.txt y 0)) := by unfold Hid; rw [bs_append, bs_append]
  clear s1 s2 h1 h2
  generalize Fm.txt x 1 ++ [62] ++ Fm.txt y 0 = Z at *
  go_enter Tryz.func65, Tryz.ntmps65
  go_wp2_with fail
  refine HL.out.mono ?_
  rintro e w1 ⟨rfl, hg1⟩
  go_wp2_with fail
  refine (HG.out _ (HH.out.grew hg1)).mono ?_
  rintro e w11 ⟨rfl, hg11⟩
  have hg1 := hg1.trans hg11
  go_wp2_with fail
  refine (first_c _ T x _ (HH.out.grew hg1) (by omega) HA.out).mono ?_
  rintro e w2 ⟨v2, rfl, hN2, hg2⟩
  go_wp2_with fail
  refine (HX.out 1 _ _ (by omega) hN2 hn1).mono ?_
  rintro e w3 ⟨rfl, hg3⟩
  go_wp2_with fail
  refine (second_c _ T x y _ (HH.out.grew ((hg1.trans hg2).trans hg3)) (by omega) HA.out HB.out).mono ?_
  rintro e w4 ⟨v4, rfl, hN4, hg4⟩
  go_wp2_with fail
  refine (HY.out 0 _ _ (by omega) hN4 hn2).mono ?_
  rintro e w5 ⟨rfl, hg5⟩
  go_wp2_with fail
  go_ret
  exact ⟨congrArg (fun z => Ending.returned (.string z)) HE.out, (((hg1.trans hg2).trans hg3).trans hg4).trans hg5⟩

theorem body_box (x : Tree) (hx : TextOk x) : BodyOk (.box x) := by
  intro l v w hl h hn
  have hown : Fm.own (.box x) = 3 := rfl
  have hE : Fm.txt (.box x) l = [91, 93] ++ Fm.txt x 3 := rfl
  rw [hE]
  rw [hown] at hl
  obtain ⟨b, o, c, rfl, hc, hm, k1⟩ := nodes_head h
  have hpos := Fm.enc_pos (.box x)
  have HL := Lib.hid (levelOf_c _ _ w h (by omega))
  have HH := Lib.hid h
  have hg0 := Grew.refl w
  rw [hown] at HL
  rw [show kindOf (.box x) = 5 from rfl] at k1
  have HA := Lib.hid (at_first (xs := Fm.enc (.box x)) (k := (5, 0)) (a := x) (rest := []) (by simp [Fm.enc]))
  have hlen : (Fm.enc (.box x)).length = 1 + (Fm.enc x).length := by simp [Fm.enc]; omega
  have h1 := Fm.txt_len x 3
  have HX := Lib.hid hx
  have hn1 : (Fm.enc x).length ≤ 1048576 := by omega
  clear hE h hx hlen hown
  generalize Fm.enc (.box x) = T at *
  have s1 := bs_size (Fm.txt x 3)
  have z1 : (bs (Fm.txt x 3)).size ≤ 4194304 := by omega
  have HE : Hid (bs [91, 93] ++ bs (Fm.txt x 3) = bs ([91, 93] ++ Fm.txt x 3)) := by unfold Hid; rw [bs_append]
  clear s1 h1
  generalize [91, 93] ++ Fm.txt x 3 = Z at *
  go_enter Tryz.func65, Tryz.ntmps65
  go_wp2_with fail
  refine HL.out.mono ?_
  rintro e w1 ⟨rfl, hg1⟩
  go_wp2_with fail
  refine (first_c _ T x _ (HH.out.grew hg1) (by omega) HA.out).mono ?_
  rintro e w2 ⟨v2, rfl, hN2, hg2⟩
  go_wp2_with fail
  refine (HX.out 3 _ _ (by omega) hN2 hn1).mono ?_
  rintro e w3 ⟨rfl, hg3⟩
  go_wp2_with fail
  go_ret
  exact ⟨congrArg (fun z => Ending.returned (.string z)) HE.out, (hg1.trans hg2).trans hg3⟩

theorem body_dia (x : Tree) (hx : TextOk x) : BodyOk (.dia x) := by
  intro l v w hl h hn
  have hown : Fm.own (.dia x) = 3 := rfl
  have hE : Fm.txt (.dia x) l = [60, 62] ++ Fm.txt x 3 := rfl
  rw [hE]
  rw [hown] at hl
  obtain ⟨b, o, c, rfl, hc, hm, k1⟩ := nodes_head h
  have hpos := Fm.enc_pos (.dia x)
  have HL := Lib.hid (levelOf_c _ _ w h (by omega))
  have HH := Lib.hid h
  have hg0 := Grew.refl w
  rw [hown] at HL
  rw [show kindOf (.dia x) = 6 from rfl] at k1
  have HA := Lib.hid (at_first (xs := Fm.enc (.dia x)) (k := (6, 0)) (a := x) (rest := []) (by simp [Fm.enc]))
  have hlen : (Fm.enc (.dia x)).length = 1 + (Fm.enc x).length := by simp [Fm.enc]; omega
  have h1 := Fm.txt_len x 3
  have HX := Lib.hid hx
  have hn1 : (Fm.enc x).length ≤ 1048576 := by omega
  clear hE h hx hlen hown
  generalize Fm.enc (.dia x) = T at *
  have s1 := bs_size (Fm.txt x 3)
  have z1 : (bs (Fm.txt x 3)).size ≤ 4194304 := by omega
  have HE : Hid (bs [60, 62] ++ bs (Fm.txt x 3) = bs ([60, 62] ++ Fm.txt x 3)) := by unfold Hid; rw [bs_append]
  clear s1 h1
  generalize [60, 62] ++ Fm.txt x 3 = Z at *
  go_enter Tryz.func65, Tryz.ntmps65
  go_wp2_with fail
  refine HL.out.mono ?_
  rintro e w1 ⟨rfl, hg1⟩
  go_wp2_with fail
  refine (first_c _ T x _ (HH.out.grew hg1) (by omega) HA.out).mono ?_
  rintro e w2 ⟨v2, rfl, hN2, hg2⟩
  go_wp2_with fail
  refine (HX.out 3 _ _ (by omega) hN2 hn1).mono ?_
  rintro e w3 ⟨rfl, hg3⟩
  go_wp2_with fail
  go_ret
  exact ⟨congrArg (fun z => Ending.returned (.string z)) HE.out, (hg1.trans hg2).trans hg3⟩

theorem body_tru (x : Tree) (hf : Fm.isF x = true) : BodyOk (.imp x .fls) := by
  intro l v w hl h hn
  have hown : Fm.own (.imp x .fls) = 3 := rfl
  have hE : Fm.txt (.imp x .fls) l = [84] := by
    rw [Fm.txt, if_pos (show Fm.isF .fls = true from rfl), if_pos hf]
  rw [hE]
  rw [hown] at hl
  obtain ⟨b, o, c, rfl, hc, hm, k1⟩ := nodes_head h
  have hpos := Fm.enc_pos (.imp x .fls)
  have HL := Lib.hid (levelOf_c _ _ w h (by omega))
  have HH := Lib.hid h
  have hg0 := Grew.refl w
  have HG := Lib.hid (fun w h => isNegation_c (.slice (some ⟨b, o, none⟩) (Fm.enc (.imp x .fls)).length c) (.imp x .fls) w h (by omega))
  rw [show isNeg (.imp x .fls) = true from rfl] at HG
  rw [hown] at HL
  rw [show kindOf (.imp x .fls) = 4 from rfl] at k1
  have HA := Lib.hid (at_first (xs := Fm.enc (.imp x .fls)) (k := (4, 0)) (a := x) (rest := Fm.enc .fls) rfl)
  have hlen : (Fm.enc (.imp x .fls)).length = 2 + (Fm.enc x).length := by simp [Fm.enc]; omega
  have hn1 : (Fm.enc x).length ≤ 1048576 := by omega
  have HI := Lib.hid (fun v w h => isFalsum_c v x w h)
  rw [hf] at HI
  clear hE h hlen hown hf
  generalize Fm.enc (.imp x .fls) = T at *
  go_enter Tryz.func65, Tryz.ntmps65
  go_wp2_with fail
  refine HL.out.mono ?_
  rintro e w1 ⟨rfl, hg1⟩
  go_wp2_with fail
  refine (HG.out _ (HH.out.grew hg1)).mono ?_
  rintro e w11 ⟨rfl, hg11⟩
  have hg1 := hg1.trans hg11
  go_wp2_with fail
  refine (first_c _ T x _ (HH.out.grew hg1) (by omega) HA.out).mono ?_
  rintro e w2 ⟨v2, rfl, hN2, hg2⟩
  go_wp2_with fail
  refine (HI.out _ _ hN2).mono ?_
  rintro e w3 ⟨rfl, hg3⟩
  go_wp2_with fail
  go_ret
  exact ⟨rfl, (hg1.trans hg2).trans hg3⟩

theorem body_not (x : Tree) (hf : Fm.isF x = false) (hx : TextOk x) : BodyOk (.imp x .fls) := by
  intro l v w hl h hn
  have hown : Fm.own (.imp x .fls) = 3 := rfl
  have hE : Fm.txt (.imp x .fls) l = [126] ++ Fm.txt x 3 := by
    rw [Fm.txt, if_pos (show Fm.isF .fls = true from rfl), if_neg (by simp [hf])]
  rw [hE]
  rw [hown] at hl
  obtain ⟨b, o, c, rfl, hc, hm, k1⟩ := nodes_head h
  have hpos := Fm.enc_pos (.imp x .fls)
  have HL := Lib.hid (levelOf_c _ _ w h (by omega))
  have HH := Lib.hid h
  have hg0 := Grew.refl w
  have HG := Lib.hid (fun w h => isNegation_c (.slice (some ⟨b, o, none⟩) (Fm.enc (.imp x .fls)).length c) (.imp x .fls) w h (by omega))
  rw [show isNeg (.imp x .fls) = true from rfl] at HG
  rw [hown] at HL
  rw [show kindOf (.imp x .fls) = 4 from rfl] at k1
  have HA := Lib.hid (at_first (xs := Fm.enc (.imp x .fls)) (k := (4, 0)) (a := x) (rest := Fm.enc .fls) rfl)
  have hlen : (Fm.enc (.imp x .fls)).length = 2 + (Fm.enc x).length := by simp [Fm.enc]; omega
  have hn1 : (Fm.enc x).length ≤ 1048576 := by omega
  have HI := Lib.hid (fun v w h => isFalsum_c v x w h)
  rw [hf] at HI
  have h1 := Fm.txt_len x 3
  have HX := Lib.hid hx
  have s1 := bs_size (Fm.txt x 3)
  have z1 : (bs (Fm.txt x 3)).size ≤ 4194304 := by omega
  have HE : Hid (bs [126] ++ bs (Fm.txt x 3) = bs ([126] ++ Fm.txt x 3)) := by unfold Hid; rw [bs_append]
  clear s1 h1 hx
  generalize [126] ++ Fm.txt x 3 = Z at *
  clear hE h hlen hown hf
  generalize Fm.enc (.imp x .fls) = T at *
  go_enter Tryz.func65, Tryz.ntmps65
  go_wp2_with fail
  refine HL.out.mono ?_
  rintro e w1 ⟨rfl, hg1⟩
  go_wp2_with fail
  refine (HG.out _ (HH.out.grew hg1)).mono ?_
  rintro e w11 ⟨rfl, hg11⟩
  have hg1 := hg1.trans hg11
  go_wp2_with fail
  refine (first_c _ T x _ (HH.out.grew hg1) (by omega) HA.out).mono ?_
  rintro e w2 ⟨v2, rfl, hN2, hg2⟩
  go_wp2_with fail
  refine (HI.out _ _ hN2).mono ?_
  rintro e w3 ⟨rfl, hg3⟩
  go_wp2_with fail
  refine (first_c _ T x _ (HH.out.grew ((hg1.trans hg2).trans hg3)) (by omega) HA.out).mono ?_
  rintro e w4 ⟨v4, rfl, hN4, hg4⟩
  go_wp2_with fail
  refine (HX.out 3 _ _ (by omega) hN4 hn1).mono ?_
  rintro e w5 ⟨rfl, hg5⟩
  go_wp2_with fail
  go_ret
  exact ⟨congrArg (fun z => Ending.returned (.string z)) HE.out, (((hg1.trans hg2).trans hg3).trans hg4).trans hg5⟩

theorem body_fls : BodyOk .fls := by
  intro l v w hl h hn
  have hE : Fm.txt .fls l = [70] := rfl
  rw [hE]
  rw [show Fm.own .fls = 3 from rfl] at hl
  obtain ⟨b, o, c, rfl, hc, hm, k1⟩ := nodes_head h
  have hpos := Fm.enc_pos (.fls)
  have HL := Lib.hid (levelOf_c _ _ w h (by omega))
  have HH := Lib.hid h
  have hg0 := Grew.refl w
  rw [show Fm.own .fls = 3 from rfl] at HL
  rw [show kindOf .fls = 1 from rfl] at k1
  clear hE h
  generalize Fm.enc .fls = T at *
  go_enter Tryz.func65, Tryz.ntmps65
  go_wp2_with fail
  refine HL.out.mono ?_
  rintro e w1 ⟨rfl, hg1⟩
  go_wp2_with fail
  go_ret
  exact ⟨rfl, hg1⟩

theorem body_var (n : Fin 6) : BodyOk (.var n) := by
  intro l v w hl h hn
  have hE : Fm.txt (.var n) l = [UInt8.ofNat (112 + n.val)] := rfl
  rw [hE]
  rw [show Fm.own (.var n) = 3 from rfl] at hl
  have k2 : ∃ b o c, v = .slice (some ⟨b, o, none⟩) (Fm.enc (.var n)).length c ∧ ∀ W, Grew w W → W.cell? ⟨b, o + 1, none⟩ = some (.int .i64 (n.val : Int)) := by
    rcases h.open_ with ⟨_, h0⟩ | ⟨b, o, c, hv, _, _, _, hf⟩
    · simp [Fm.enc] at h0
    · refine ⟨b, o, c, hv, fun W hW => ?_⟩
      have := (hf 0 (by simp [Fm.enc]) W hW).2
      rw [show sy (Fm.enc (.var n)) 0 = (n.val : Int) from rfl] at this
      simpa using this
  obtain ⟨b, o, c, rfl, hc, hm, k1⟩ := nodes_head h
  have hpos := Fm.enc_pos (.var n)
  have HL := Lib.hid (levelOf_c _ _ w h (by omega))
  have HH := Lib.hid h
  have hg0 := Grew.refl w
  obtain ⟨b', o', c', hv', k2⟩ := k2
  simp only [Value.slice.injEq, Option.some.injEq, Addr.mk.injEq, and_true, true_and] at hv'
  obtain ⟨⟨rfl, rfl⟩, rfl⟩ := hv'
  rw [show Fm.own (.var n) = 3 from rfl] at HL
  rw [show kindOf (.var n) = 0 from rfl] at k1
  have hn6 := n.isLt
  clear hE h
  generalize Fm.enc (.var n) = T at *
  generalize n.val = q at *
  go_enter Tryz.func65, Tryz.ntmps65
  go_wp2_with fail
  refine HL.out.mono ?_
  rintro e w1 ⟨rfl, hg1⟩
  go_wp2_with fail
  go_quiet (fail)
  go_wp2_with fail
  go_ret
  exact ⟨congrArg (fun z => Ending.returned (.string z)) (letter_cut hn6), hg1.drewN _⟩

theorem textOk_of (t : Tree) (hb : BodyOk t) : TextOk t := by
  intro l v w hl h hn
  by_cases hw : Fm.own t < l
  · have hE : Fm.txt t l = [40] ++ Fm.txt t 0 ++ [41] := by
      cases t with
      | var n => simp [Fm.own] at hw; omega
      | fls => simp [Fm.own] at hw; omega
      | and x y => simp only [Fm.own] at hw; simp [Fm.txt, Fm.wrap, hw]
      | or x y => simp only [Fm.own] at hw; simp [Fm.txt, Fm.wrap, hw]
      | imp x y =>
        cases hf : Fm.isF y with
        | true => simp [Fm.own, hf] at hw; omega
        | false => simp [Fm.own, hf] at hw; simp [Fm.txt, Fm.wrap, hf, hw]
      | box x => simp [Fm.own] at hw; omega
      | dia x => simp [Fm.own] at hw; omega
    rw [hE]
    have h1 := Fm.txt_len t 0
    have s1 := bs_size (Fm.txt t 0)
    have z1 : (bs (Fm.txt t 0)).size ≤ 4194304 := by omega
    have HL := Lib.hid (levelOf_c _ _ w h (by omega))
    have HB := Lib.hid (fun w h => hb 0 v w (Nat.zero_le _) h hn)
    have HH := Lib.hid h
    have HE : Hid (bs [40] ++ bs (Fm.txt t 0) ++ bs [41] = bs ([40] ++ Fm.txt t 0 ++ [41])) := by unfold Hid; rw [bs_append, bs_append]
    clear hE h1 s1 hb h
    generalize Fm.own t = q at *
    generalize [40] ++ Fm.txt t 0 ++ [41] = Z at *
    go_enter Tryz.func65, Tryz.ntmps65
    go_wp2_with fail
    refine HL.out.mono ?_
    rintro e w1 ⟨rfl, hg1⟩
    go_wp2_with fail
    refine (HB.out _ (HH.out.grew hg1)).mono ?_
    rintro e w2 ⟨rfl, hg2⟩
    go_wp2_with fail
    go_ret
    exact ⟨congrArg (fun z => Ending.returned (.string z)) HE.out, hg1.trans hg2⟩
  · exact hb l v w (by omega) h hn

theorem text_ok (t : Tree) : TextOk t := by
  induction t with
  | var n => exact textOk_of _ (body_var n)
  | fls => exact textOk_of _ body_fls
  | and x y hx hy => exact textOk_of _ (body_and x y hx hy)
  | or x y hx hy => exact textOk_of _ (body_or x y hx hy)
  | imp x y hx hy =>
    cases hf : Fm.isF y with
    | true =>
      obtain rfl := Fm.isF_eq hf
      cases hg : Fm.isF x with
      | true => exact textOk_of _ (body_tru x hg)
      | false => exact textOk_of _ (body_not x hg hx)
    | false => exact textOk_of _ (body_imp x y hf hx hy)
  | box x hx => exact textOk_of _ (body_box x hx)
  | dia x hx => exact textOk_of _ (body_dia x hx)

theorem text_c (t : Tree) (v : Value) (w : World) (h : Nodes w v (Fm.enc t)) (hn : (Fm.enc t).length ≤ 1048576) :
    Calls Tryz.prog 35 #[v] w (Says w (Fm.txt t 0)) := by
  have HT := Lib.hid (text_ok t 0 v w (by omega) h hn)
  go_enter Tryz.func35, Tryz.ntmps35
  go_wp2_with fail
  refine HT.out.mono ?_
  rintro e w1 ⟨rfl, hg1⟩
  go_wp2_with fail
  go_ret
  exact ⟨rfl, hg1⟩
end Go.Proofs.YtefkgomecpnpbaaGreat

/- The program's 'parsed'. -/
namespace Go.Proofs.YtefkgomecpnpbaaGreat
open Go.RowKit
open Fm (Nd)

/-- A new list, nil where it is empty. -/
def GivesN (w : World) (xs : List Nd) (e : Ending) (w' : World) : Prop := ∃ v, e = .returned v ∧ Own w' w.heap.size v xs ∧ Grew w w' ∧ (xs = [] → v = .slice none 0 0)

end Go.Proofs.YtefkgomecpnpbaaGreat

/- Slices of strings. -/
namespace Go.Proofs.YtefkgomecpnpbaaGreat
open Go.RowKit

def st (L : List ByteArray) (i : Nat) : ByteArray := L.getD i ByteArray.empty
def scells (L : List ByteArray) : List Value := L.map Value.string
theorem scells_length (L : List ByteArray) : (scells L).length = L.length * 1 := by simp [scells]
theorem scells_one (L : List ByteArray) : ∀ u ∈ scells L, u.oneCell' = true := by
  intro u hu
  simp only [scells, List.mem_map] at hu
  obtain ⟨x, _, rfl⟩ := hu
  rfl
theorem scells_at {L : List ByteArray} {i : Nat} (h : i < L.length) : (scells L)[i]? = some (.string (st L i)) := by simp [scells, st, List.getD, h]
theorem scells_append (K L : List ByteArray) : scells (K ++ L) = scells K ++ scells L := by simp [scells]
theorem st_get {L : List ByteArray} {i : Nat} (h : i < L.length) : L[i] = st L i := by simp [st, List.getD, h]

/-- The value reads as the list of strings. -/
def Strs (w : World) (v : Value) (L : List ByteArray) : Prop := Rd w 1 v L.length (scells L)
/-- A row of the call's own that holds the strings. -/
def OwnS (w : World) (B : Nat) (v : Value) (L : List ByteArray) : Prop := w.ownsRow B 9 1 v L.length (scells L)
theorem Strs.grew {w w' : World} {v : Value} {L : List ByteArray} (h : Strs w v L) (hb : Grew w w') : Strs w' v L := Rd.grew h hb
theorem Strs.nil_ (w : World) : Strs w (.slice none 0 0) [] := Rd.nil_ w 1
theorem OwnS.strs {w : World} {B : Nat} {v : Value} {L : List ByteArray} (h : OwnS w B v L) : Strs w v L := Rd.of_own h
theorem OwnS.nil_ (w : World) (B : Nat) : OwnS w B (.slice none 0 0) [] := World.ownsRow_nil w B _ 1
theorem OwnS.grew {w w' : World} {B : Nat} {v : Value} {L : List ByteArray} (h : OwnS w B v L) (hb : Grew w w') : OwnS w' B v L := own_grew h hb
theorem OwnS.base {w : World} {B B' : Nat} {v : Value} {L : List ByteArray} (h : OwnS w B v L) (hb : B' ≤ B) : OwnS w B' v L := own_base h hb

theorem Strs.open_ {w : World} {v : Value} {L : List ByteArray} (h : Strs w v L) :
    (v = .slice none 0 0 ∧ L = []) ∨ ∃ b o c, v = .slice (some ⟨b, o, none⟩) L.length c ∧ L.length ≤ c ∧ c ≤ 9223372036854775807 ∧ b < w.heap.size ∧
      ∀ i, i < L.length → ∀ W, Grew w W → W.cell? ⟨b, o + i, none⟩ = some (.string (st L i)) := by
  obtain ⟨_, _, h3⟩ := h
  rcases h3 with ⟨h4, h5⟩ | ⟨b, o, c, h4, h5, h6, h7, h8⟩
  · exact .inl ⟨h4, List.eq_nil_of_length_eq_zero h5⟩
  · exact .inr ⟨b, o, c, h4, h5, h6, h7, fun i hi W hW => (hW.cell (p := ⟨b, o + i, none⟩) h7).trans (h8 _ _ (scells_at hi))⟩
theorem strs_slice {w : World} {v : Value} {L : List ByteArray} (h : Strs w v L) : ∃ A c, v = .slice A L.length c := by
  rcases h.open_ with ⟨rfl, rfl⟩ | ⟨b, o, c, rfl, _⟩
  · exact ⟨_, _, rfl⟩
  · exact ⟨_, _, rfl⟩
/-- A literal of strings in a new block. -/
theorem OwnS.lit (w : World) (B : Nat) (L : List ByteArray) (cs : Array Value) (hB : B ≤ w.heap.size) (hn : L.length ≤ 9223372036854775807) (hc : cs.toList = scells L) :
    OwnS (w.alloc (.cells cs 9)) B (.slice (some ⟨w.heap.size, 0, none⟩) L.length L.length) L := by
  have hl : cs.size = L.length * 1 := by rw [← Array.length_toList, hc, scells_length]
  have h := World.ownsRow_lit (e := 9) (size := 1) w cs L.length hB hn hl
  rw [hc] at h
  exact h
theorem OwnS.mk_ {w : World} {B : Nat} {L : List ByteArray} {g c : Nat} {cur : Array Value} (hB : B ≤ g) (hg : w.heap[g]? = some (.cells cur 9 (0, 0))) (hnc : L.length ≤ c) (hcm : c ≤ 9223372036854775807) (hcs : cur.size = c)
    (hc : ∀ i, i < L.length → cur[i]? = some (.string (st L i))) : OwnS w B (.slice (some ⟨g, 0, none⟩) L.length c) L := by
  refine ⟨scells_length L, .inr ⟨g, c, cur, rfl, hB, hg, hnc, hcm, by omega, ?_⟩⟩
  apply List.ext_getElem?
  intro j
  rw [List.getElem?_take]
  by_cases hj : j < L.length
  · rw [if_pos (by omega), scells_at hj]
    simpa using hc j hj
  · rw [if_neg (by omega), List.getElem?_eq_none (by rw [scells_length]; omega)]

theorem Tryz.infoStr : (Tryz.prog.info? 9).map (fun i => (i.zero, i.size, i.bytes)) = some (some (.string ByteArray.empty), 1, 16) := by kernel_rfl

/-- The call returns a new list of strings. -/
def GivesS (w : World) (L : List ByteArray) (e : Ending) (w' : World) : Prop := ∃ v, e = .returned v ∧ OwnS w' w.heap.size v L ∧ Grew w w'

end Go.Proofs.YtefkgomecpnpbaaGreat

/- isText of the program. -/
namespace Go.Proofs.YtefkgomecpnpbaaGreat
open Go.RowKit
open Fm (Nd)

theorem text0_c (t : Fm.Tree) (v : Value) (w : World) (h : Nodes w v (Fm.enc t)) (hn : (Fm.enc t).length ≤ 1048576) :
    Calls Tryz.prog 35 #[v] w (Says w (Fm.txt t 0)) := text_c t v w h hn

end Go.Proofs.YtefkgomecpnpbaaGreat

/- A predicate on nodes: IndexFunc, ContainsFunc. -/
namespace Go.Proofs.YtefkgomecpnpbaaGreat
open Go.RowKit
open Fm (Nd)

/-- None of the first k nodes meets the predicate. -/
def NoneP (p : Int → Int → Bool) (xs : List Nd) (k : Nat) : Prop := ∀ i, i < k → p (kd xs i) (sy xs i) = false
theorem NoneP.zero (p : Int → Int → Bool) (xs : List Nd) : NoneP p xs 0 := fun i hi => absurd hi (by omega)
theorem NoneP.succ {p : Int → Int → Bool} {xs : List Nd} {k : Nat} (h : NoneP p xs k) (h1 : p (kd xs k) (sy xs k) = false) : NoneP p xs (k + 1) := by
  intro i hi
  rcases Nat.lt_or_ge i k with hk | hk
  · exact h i hk
  · obtain rfl : i = k := by omega
    exact h1
/-- Some node meets the predicate. -/
noncomputable def anyP (p : Int → Int → Bool) (xs : List Nd) : Bool := !@decide (NoneP p xs xs.length) (Classical.propDecidable _)
theorem anyP_no {p : Int → Int → Bool} {xs : List Nd} (h : NoneP p xs xs.length) : anyP p xs = false := by
  unfold anyP
  rw [@decide_eq_true _ (Classical.propDecidable _) h]
  rfl
theorem anyP_at {p : Int → Int → Bool} {xs : List Nd} {k : Nat} (hk : k < xs.length) (h : p (kd xs k) (sy xs k) = true) : anyP p xs = true := by
  unfold anyP
  rw [@decide_eq_false _ (Classical.propDecidable _) fun H => by rw [H k hk] at h; cases h]
  rfl

/-- What the function value gives at a node. -/
def PredOk (f : Nat) (p : Int → Int → Bool) : Prop := ∀ a b W, Calls Tryz.prog f #[.agg #[.int .i64 a, .int .i64 b]] W fun e w' => e = .returned (.bool (p a b)) ∧ Grew W w'

theorem indexFunc_c (v : Value) (xs : List Nd) (f : Nat) (p : Int → Int → Bool) (w : World) (h : Nodes w v xs) (hn : xs.length ≤ 1099511627776) (hf : PredOk f p) (eg : ∀ args w, (callFunc f args).run Tryz.prog w = .ok (.enter f args) w) :
    Calls Tryz.prog 100 #[v, .func (.func f) #[] #[]] w fun e w' => ∃ r : Int, e = .returned (.int .i64 r) ∧ Grew w w' ∧ decide (0 ≤ r) = anyP p xs := by
  rcases h.open_ with ⟨rfl, rfl⟩ | ⟨b, o, c, rfl, hc, hm, hb, hcell⟩
  · rw [anyP_no (NoneP.zero _ _)]
    clear h hf
    go_enter Tryz.func100, Tryz.ntmps100
    go_wp2_with fail
    refine wp_loop_rounds 1 ?_; rw [rounds_succ]
    go_wp2_with fail
    go_ret
    exact ⟨_, rfl, Grew.refl _, rfl⟩
  obtain ⟨R, hR⟩ : ∃ R, R = anyP p xs := ⟨_, rfl⟩
  rw [← hR]
  have HA := Lib.hid (fun k hk h => hR.trans (@anyP_at p xs k hk h))
  have HZ := Lib.hid (fun h => hR.trans (@anyP_no p xs h))
  have HC := Lib.hid hcell
  have HF := Lib.hid hf
  clear hcell h hf hR
  generalize hN : xs.length = n at *
  clear hN
  go_enter Tryz.func100, Tryz.ntmps100
  go_wp2_with fail
  go_loopw [5, 8] (fun _ i wr => ∃ j : Nat, j ≤ n ∧ i = .int .i64 j ∧ Grew w wr ∧ Hid (NoneP p xs j)) (fun _ i _ => n - (intOf i).toNat)
  case atStart => exact ⟨0, Nat.zero_le _, rfl, Grew.refl _, NoneP.zero _ _⟩
  case round =>
    obtain ⟨j, hj, rfl, hB, HJ⟩ := hrel
    by_cases hlt : j < n
    · have k1 := (HC.out j hlt _ hB).1
      have k2 := (HC.out j hlt _ hB).2
      have hA := Lib.hid (HA.out j hlt)
      have hS := Lib.hid (fun h => HJ.out.succ (k := j) h)
      generalize kd xs j = x at *
      generalize sy xs j = y at *
      go_wp2_with fail
      go_at_fn f
      refine (HF.out x y _).mono ?_
      rintro e w1 ⟨rfl, hg1⟩
      have hB1 := hB.trans hg1
      cases hp : p x y with
      | true =>
        have hv := hA.out hp
        go_wp2_with fail
        go_ret
        exact ⟨_, rfl, hB1, by rw [hv]; simp⟩
      | false =>
        have hs := Lib.hid (hS.out hp)
        go_wp2_with fail
        go_roundw
        case rel => exact ⟨j + 1, by omega, by go_num, hB1, hs⟩
        case measure => simp [intOf]; omega
    · obtain rfl : j = n := by omega
      have hv := Lib.hid (HZ.out HJ.out)
      go_wp2_with fail
      go_ret
      exact ⟨_, rfl, hB, by rw [hv.out]; rfl⟩

theorem containsFunc_c (v : Value) (xs : List Nd) (f : Nat) (p : Int → Int → Bool) (w : World) (h : Nodes w v xs) (hn : xs.length ≤ 1099511627776) (hf : PredOk f p) (eg : ∀ args w, (callFunc f args).run Tryz.prog w = .ok (.enter f args) w) :
    Calls Tryz.prog 75 #[v, .func (.func f) #[] #[]] w fun e w' => e = .returned (.bool (anyP p xs)) ∧ Grew w w' := by
  have HI := Lib.hid (indexFunc_c v xs f p w h hn hf eg)
  clear h hf eg
  generalize anyP p xs = R at *
  go_enter Tryz.func75, Tryz.ntmps75
  go_wp2_with fail
  refine HI.out.mono ?_
  rintro e w1 ⟨r, rfl, hg1, hr⟩
  go_wp2_with fail
  go_ret
  exact ⟨by rw [← hr]; rfl, hg1⟩

end Go.Proofs.YtefkgomecpnpbaaGreat

/- isPlain of the program, l02Plain of the reference. -/
namespace Go.Proofs.YtefkgomecpnpbaaGreat
open Go.RowKit
open Fm (Nd)

def isBD (a _b : Int) : Bool := a == 5 || a == 6
theorem isModal_c (a : Int) (w : World) : Calls Tryz.prog 80 #[.int .i64 a] w fun e w' => e = .returned (.bool (a == 5 || a == 6)) ∧ Grew w w' := by
  cases h : (a == 5) with
  | true =>
    go_enter Tryz.func80, Tryz.ntmps80
    go_wp2_with fail
    go_ret
    exact ⟨rfl, Grew.refl _⟩
  | false =>
    go_enter Tryz.func80, Tryz.ntmps80
    go_wp2_with fail
    go_ret
    exact ⟨by simp, Grew.refl _⟩
theorem isPlain1_ok : PredOk 79 isBD := by
  intro a b w
  go_enter Tryz.func79, Tryz.ntmps79
  go_wp2_with fail
  refine (isModal_c _ _).mono ?_
  rintro e w1 ⟨rfl, hg1⟩
  go_wp2_with fail
  go_ret
  exact ⟨rfl, Grew.of_alloc hg1⟩
theorem isPlain_c (v : Value) (xs : List Nd) (w : World) (h : Nodes w v xs) (hn : xs.length ≤ 1099511627776) :
    Calls Tryz.prog 55 #[v] w fun e w' => e = .returned (.bool (!anyP isBD xs)) ∧ Grew w w' := by
  have HI := Lib.hid (containsFunc_c v xs _ _ w h hn isPlain1_ok (enters_of Tryz.func79 (by kernel_rfl) rfl))
  clear h
  generalize anyP isBD xs = R at *
  go_enter Tryz.func55, Tryz.ntmps55
  go_wp2_with fail
  refine HI.out.mono ?_
  rintro e w1 ⟨rfl, hg1⟩
  go_wp2_with fail
  go_ret
  exact ⟨rfl, hg1⟩

theorem l02Plain_c (v : Value) (xs : List Nd) (w : World) (h : Nodes w v xs) (hn : xs.length ≤ 1099511627776) :
    Calls Tryz.prog 46 #[v] w fun e w' => e = .returned (.bool (!anyP isBD xs)) ∧ Grew w w' := by
  rcases h.open_ with ⟨rfl, rfl⟩ | ⟨b, o, c, rfl, hc, hm, hb, hcell⟩
  · rw [anyP_no (NoneP.zero _ _)]
    clear h
    go_enter Tryz.func46, Tryz.ntmps46
    go_wp2_with fail
    refine wp_loop_rounds 1 ?_; rw [rounds_succ]
    go_wp2_with fail
    go_ret
    exact ⟨rfl, Grew.refl _⟩
  obtain ⟨R, hR⟩ : ∃ R, R = anyP isBD xs := ⟨_, rfl⟩
  rw [← hR]
  have HA := Lib.hid (fun k hk h => hR.trans (@anyP_at isBD xs k hk h))
  have HZ := Lib.hid (fun h => hR.trans (@anyP_no isBD xs h))
  have HC := Lib.hid hcell
  clear hcell h hR
  generalize hN : xs.length = n at *
  clear hN
  go_enter Tryz.func46, Tryz.ntmps46
  go_wp2_with fail
  go_loopw [3] (fun i wr => ∃ j : Nat, j ≤ n ∧ i = .int .i64 j ∧ Grew w wr ∧ Hid (NoneP isBD xs j)) (fun i _ => n - (intOf i).toNat)
  case atStart => exact ⟨0, Nat.zero_le _, rfl, Grew.refl _, NoneP.zero _ _⟩
  case round =>
    obtain ⟨j, hj, rfl, hB, HJ⟩ := hrel
    by_cases hlt : j < n
    · have k1 := (HC.out j hlt _ hB).1
      have hA := Lib.hid (HA.out j hlt)
      have hS := Lib.hid (fun h => HJ.out.succ (k := j) h)
      generalize kd xs j = x at *
      generalize sy xs j = y at *
      cases h5 : (x == 5) with
      | true =>
        have hv := Lib.hid (hA.out (by simp [isBD, h5]))
        go_wp2_with fail
        go_ret
        rw [hv.out]
        exact ⟨rfl, hB⟩
      | false =>
        cases h6 : (x == 6) with
        | true =>
          have hv := Lib.hid (hA.out (by simp [isBD, h6]))
          go_wp2_with fail
          go_ret
          rw [hv.out]
          exact ⟨rfl, hB⟩
        | false =>
          have hs := Lib.hid (hS.out (by simp [isBD, h5, h6]))
          go_wp2_with fail
          go_roundw
          case rel => exact ⟨j + 1, by omega, by go_num, hB, hs⟩
          case measure => simp [intOf]; omega
    · obtain rfl : j = n := by omega
      have hv := Lib.hid (HZ.out HJ.out)
      go_wp2_with fail
      go_ret
      rw [hv.out]
      exact ⟨rfl, hB⟩
end Go.Proofs.YtefkgomecpnpbaaGreat

/- Is a text that of a plain formula? -/
namespace Go.Proofs.YtefkgomecpnpbaaGreat
open Go.RowKit
open Fm (Nd)

/-- The text is the text of a plain formula. -/
noncomputable def gp (s : ByteArray) : Bool := gd s && !anyP isBD (Fm.pf s).1

def GivesP (w : World) (s : ByteArray) (e : Ending) (w' : World) : Prop := ∃ v, e = .returned (.tuple #[v, .bool (gp s)]) ∧ Own w' w.heap.size v (Fm.pf s).1 ∧ Grew w w'

end Go.Proofs.YtefkgomecpnpbaaGreat

/- The texts of formulas. No program is in sight. -/
namespace Go.Proofs.YtefkgomecpnpbaaGreat
open Go.RowKit

/-- The text of a formula. -/
def tx (A : Fm.Tree) : ByteArray := bs (Fm.txt A 0)
theorem tx_pf {A : Fm.Tree} (h : (Fm.enc A).length ≤ 40) : Fm.pf (tx A) = (Fm.enc A, 0, 0) := Fm.pf_txt A (by have := Fm.txt_len A 0; omega) h
theorem tx_size {A : Fm.Tree} (h : (Fm.enc A).length ≤ 40) : (tx A).size ≤ 160 := by
  unfold tx
  rw [bs_size]
  have := Fm.txt_len A 0
  omega
theorem tx_inj {A B : Fm.Tree} (ha : (Fm.enc A).length ≤ 40) (hb : (Fm.enc B).length ≤ 40) (h : tx A = tx B) : A = B := by
  have h1 := tx_pf ha
  rw [h, tx_pf hb] at h1
  simp only [Prod.mk.injEq, and_true] at h1
  exact (enc_inj h1).symm
theorem tx_ne (A : Fm.Tree) : (tx A).toList.isEmpty = false := by
  have h1 := Fm.txt_pos A 0
  unfold tx
  cases he : Fm.txt A 0 with
  | nil => rw [he] at h1; simp at h1
  | cons x xs =>
    have := Lib.bytes_beq_iff (bs (x :: xs)) ByteArray.empty
    cases hq : (bs (x :: xs)).toList.isEmpty with
    | false => rfl
    | true =>
      exfalso
      have h2 : (bs (x :: xs)).toList = ByteArray.empty.toList := by
        rw [List.isEmpty_iff] at hq
        rw [hq]; exact (by unfold ByteArray.toList ByteArray.toList.loop; rfl : ([] : List UInt8) = ByteArray.empty.toList)
      have h3 := this.1 (by rw [h2]; simp)
      have h4 := congrArg ByteArray.size h3
      rw [bs_size] at h4
      simp at h4

end Go.Proofs.YtefkgomecpnpbaaGreat

/- Plain formulas of the size of a text, and their texts. No program is in sight. -/
namespace Go.Proofs.YtefkgomecpnpbaaGreat
open Go.RowKit

/-- A formula of the size of a text. -/
def FmOk (A : Fm.Tree) : Prop := (Fm.enc A).length ≤ 40 ∧ anyP isBD (Fm.enc A) = false
theorem gp_tx {A : Fm.Tree} (h : FmOk A) : gp (tx A) = true := by
  unfold gp
  rw [gd_true ⟨A, tx_pf h.1, rfl⟩, tx_pf h.1]
  simp [h.2]
theorem gp_tree {s : ByteArray} (h : gp s = true) : ∃ A, FmOk A ∧ tx A = s := by
  unfold gp at h
  simp only [Bool.and_eq_true, Bool.not_eq_true'] at h
  have hg : IsGood s := by
    by_cases hg : IsGood s
    · exact hg
    · rw [gd_false hg] at h; exact absurd h.1 (by simp)
  obtain ⟨A, h1, h2⟩ := hg
  have hl := Fm.pf_len s
  rw [h1] at hl h
  exact ⟨A, ⟨hl, h.2⟩, h2⟩
/-- The formula that a text is the text of. -/
noncomputable def fo (s : ByteArray) : Fm.Tree := @dite _ (gp s = true) (Classical.propDecidable _) (fun h => Classical.choose (gp_tree h)) (fun _ => .fls)
theorem fo_ok {s : ByteArray} (h : gp s = true) : FmOk (fo s) ∧ tx (fo s) = s := by
  unfold fo
  rw [dif_pos h]
  exact Classical.choose_spec (gp_tree h)

/-- The formula, if it has not too many nodes. -/
def smallF (A : Fm.Tree) : Option Fm.Tree := if (Fm.enc A).length ≤ 40 then some A else none
theorem anyP_mem {p : Int → Int → Bool} {xs : List Fm.Nd} : anyP p xs = false ↔ ∀ x ∈ xs, p x.1 x.2 = false := by
  constructor
  · intro h x hx
    obtain ⟨i, hi, rfl⟩ := List.getElem_of_mem hx
    cases hq : p xs[i].1 xs[i].2 with
    | false => rfl
    | true =>
      have := anyP_at (p := p) hi (by simpa [kd, sy, List.getD, hi] using hq)
      rw [this] at h; cases h
  · intro h
    apply anyP_no
    intro i hi
    have := h xs[i] (List.getElem_mem hi)
    simpa [kd, sy, List.getD, hi] using this
theorem FmOk.bin {k : Int} {A B : Fm.Tree} {C : Fm.Tree} (he : Fm.enc C = (k, 0) :: (Fm.enc A ++ Fm.enc B)) (h : FmOk C) : FmOk A ∧ FmOk B := by
  obtain ⟨h1, h2⟩ := h
  rw [he] at h1 h2
  rw [anyP_mem] at h2
  simp only [List.length_cons, List.length_append] at h1
  exact ⟨⟨by omega, anyP_mem.2 fun x hx => h2 x (by simp [hx])⟩, ⟨by omega, anyP_mem.2 fun x hx => h2 x (by simp [hx])⟩⟩
theorem FmOk.join {k : Int} {A B : Fm.Tree} {C : Fm.Tree} (he : Fm.enc C = (k, 0) :: (Fm.enc A ++ Fm.enc B)) (hk : k ≠ 5 ∧ k ≠ 6) (hA : FmOk A) (hB : FmOk B) (hl : (Fm.enc C).length ≤ 40) : FmOk C := by
  refine ⟨hl, anyP_mem.2 ?_⟩
  rw [he]
  intro x hx
  simp only [List.mem_cons, List.mem_append] at hx
  rcases hx with rfl | hx | hx
  · unfold isBD
    have h5 : (k == 5) = false := by simpa using hk.1
    have h6 : (k == 6) = false := by simpa using hk.2
    show (k == 5 || k == 6) = false
    rw [h5, h6]; rfl
  · exact anyP_mem.1 hA.2 x hx
  · exact anyP_mem.1 hB.2 x hx
theorem smallF_ok {A B : Fm.Tree} (h : smallF A = some B) : A = B ∧ (Fm.enc B).length ≤ 40 := by
  unfold smallF at h
  split at h
  · simp at h; subst h; exact ⟨rfl, ‹_›⟩
  · cases h
theorem fmOk_and {p q : Fm.Tree} (h : FmOk (.and p q)) : FmOk p ∧ FmOk q := FmOk.bin (k := 2) rfl h
theorem fmOk_or {p q : Fm.Tree} (h : FmOk (.or p q)) : FmOk p ∧ FmOk q := FmOk.bin (k := 3) rfl h
theorem fmOk_imp {p q : Fm.Tree} (h : FmOk (.imp p q)) : FmOk p ∧ FmOk q := FmOk.bin (k := 4) rfl h
theorem small_and {p q B : Fm.Tree} (hp : FmOk p) (hq : FmOk q) (h : smallF (.and p q) = some B) : FmOk B := by
  obtain ⟨rfl, hl⟩ := smallF_ok h
  exact FmOk.join (k := 2) rfl (by decide) hp hq hl
theorem small_or {p q B : Fm.Tree} (hp : FmOk p) (hq : FmOk q) (h : smallF (.or p q) = some B) : FmOk B := by
  obtain ⟨rfl, hl⟩ := smallF_ok h
  exact FmOk.join (k := 3) rfl (by decide) hp hq hl
theorem small_imp {p q B : Fm.Tree} (hp : FmOk p) (hq : FmOk q) (h : smallF (.imp p q) = some B) : FmOk B := by
  obtain ⟨rfl, hl⟩ := smallF_ok h
  exact FmOk.join (k := 4) rfl (by decide) hp hq hl
/-- A formula without modalities is of one of five kinds. -/
theorem fm_five {A : Fm.Tree} (h : FmOk A) : (∃ v, A = .var v) ∨ A = .fls ∨ (∃ x y, A = .and x y) ∨ (∃ x y, A = .or x y) ∨ ∃ x y, A = .imp x y := by
  cases A with
  | var v => exact .inl ⟨v, rfl⟩
  | fls => exact .inr (.inl rfl)
  | and x y => exact .inr (.inr (.inl ⟨x, y, rfl⟩))
  | or x y => exact .inr (.inr (.inr (.inl ⟨x, y, rfl⟩)))
  | imp x y => exact .inr (.inr (.inr (.inr ⟨x, y, rfl⟩)))
  | box x => exact absurd (anyP_mem.1 h.2 (5, 0) (by simp [Fm.enc])) (by simp [isBD])
  | dia x => exact absurd (anyP_mem.1 h.2 (6, 0) (by simp [Fm.enc])) (by simp [isBD])
end Go.Proofs.YtefkgomecpnpbaaGreat

/- Forcing, plain: boxes, implications, the values of plain formulas; the values reckoned over a list of nodes from its end. No program is in sight. -/
namespace Go.Proofs.YtefkgomecpnpbaaGreat
open Go.RowKit
open Fm (Nd Tree)

/-- One node more, ahead of the values: what it does to the stack (the top stands first). -/
def evs (A V : List Nat) (k s : Int) (st : List Nat) : List Nat :=
  if k = 0 then nt V s.toNat :: st
  else if k = 2 then (st.getD 0 0 &&& st.getD 1 0) :: st.drop 2
  else if k = 3 then (st.getD 0 0 ||| st.getD 1 0) :: st.drop 2
  else if k = 4 then ar A (st.getD 0 0) (st.getD 1 0) :: st.drop 2
  else 0 :: st
/-- The stack behind a list of nodes, reckoned from the end. -/
def ev (A V : List Nat) : List Nd → List Nat
  | [] => []
  | x :: xs => evs A V x.1 x.2 (ev A V xs)
theorem ev_enc (A V : List Nat) : ∀ (t : Tree) (r : List Nd), anyP isBD (Fm.enc t) = false → ev A V (Fm.enc t ++ r) = fv A V t :: ev A V r := by
  intro t
  have bin : ∀ {k : Int} {a b : Tree} {r : List Nd} {f : Nat → Nat → Nat}, (∀ r : List Nd, anyP isBD (Fm.enc a) = false → ev A V (Fm.enc a ++ r) = fv A V a :: ev A V r) → (∀ r : List Nd, anyP isBD (Fm.enc b) = false → ev A V (Fm.enc b ++ r) = fv A V b :: ev A V r) →
      anyP isBD ((k, 0) :: (Fm.enc a ++ Fm.enc b)) = false → (∀ x y st, evs A V k 0 (x :: y :: st) = f x y :: st) → ev A V ((k, 0) :: (Fm.enc a ++ Fm.enc b) ++ r) = f (fv A V a) (fv A V b) :: ev A V r := by
    intro k a b r f ha hb h hf
    rw [anyP_mem] at h
    show evs A V k 0 (ev A V (Fm.enc a ++ Fm.enc b ++ r)) = _
    rw [List.append_assoc, ha _ (anyP_mem.2 fun x hx => h x (by simp [hx])), hb _ (anyP_mem.2 fun x hx => h x (by simp [hx])), hf]
  induction t with
  | var v => intro r _; show evs A V 0 (v.val : Int) _ = _; unfold evs; rw [if_pos rfl]; rfl
  | fls => intro r _; rfl
  | and a b iha ihb => intro r h; exact bin (f := fun x y => x &&& y) iha ihb h (fun _ _ _ => rfl)
  | or a b iha ihb => intro r h; exact bin (f := fun x y => x ||| y) iha ihb h (fun _ _ _ => rfl)
  | imp a b iha ihb => intro r h; exact bin (f := ar A) iha ihb h (fun _ _ _ => rfl)
  | box a => intro r h; exact absurd (anyP_mem.1 h (5, 0) (by simp [Fm.enc])) (by simp [isBD])
  | dia a => intro r h; exact absurd (anyP_mem.1 h (6, 0) (by simp [Fm.enc])) (by simp [isBD])
/-- Each node finds its parts on the stack. -/
def Fed (A V : List Nat) (xs : List Nd) : Prop := ∀ i, i < xs.length → (kd xs i = 2 ∨ kd xs i = 3 ∨ kd xs i = 4) → 2 ≤ (ev A V (xs.drop (i + 1))).length
theorem Fed.nil_ (A V : List Nat) : Fed A V [] := fun i hi => absurd hi (by simp)
theorem Fed.cons {A V : List Nat} {x : Nd} {xs : List Nd} (h : Fed A V xs) (h1 : (x.1 = 2 ∨ x.1 = 3 ∨ x.1 = 4) → 2 ≤ (ev A V xs).length) : Fed A V (x :: xs) := by
  intro i hi hk
  cases i with
  | zero => exact h1 hk
  | succ i => exact h i (by simpa using hi) hk
theorem fed_enc (A V : List Nat) : ∀ (t : Tree) (r : List Nd), anyP isBD (Fm.enc t) = false → Fed A V r → Fed A V (Fm.enc t ++ r) := by
  intro t
  have bin : ∀ {k : Int} {a b : Tree} {r : List Nd}, (∀ r : List Nd, anyP isBD (Fm.enc a) = false → Fed A V r → Fed A V (Fm.enc a ++ r)) → (∀ r : List Nd, anyP isBD (Fm.enc b) = false → Fed A V r → Fed A V (Fm.enc b ++ r)) →
      anyP isBD ((k, 0) :: (Fm.enc a ++ Fm.enc b)) = false → Fed A V r → Fed A V ((k, 0) :: (Fm.enc a ++ Fm.enc b) ++ r) := by
    intro k a b r ha hb h hr
    rw [anyP_mem] at h
    have h1 : anyP isBD (Fm.enc a) = false := anyP_mem.2 fun x hx => h x (by simp [hx])
    have h2 : anyP isBD (Fm.enc b) = false := anyP_mem.2 fun x hx => h x (by simp [hx])
    rw [List.cons_append, List.append_assoc]
    refine (ha _ h1 (hb _ h2 hr)).cons fun _ => ?_
    rw [ev_enc A V a _ h1, ev_enc A V b _ h2]
    simp
  have zero : ∀ {x : Nd} {r : List Nd}, ¬ (x.1 = 2 ∨ x.1 = 3 ∨ x.1 = 4) → Fed A V r → Fed A V ([x] ++ r) := fun hx hr => hr.cons fun h => absurd h hx
  induction t with
  | var v => intro r _ hr; exact zero (by show ¬ ((0 : Int) = 2 ∨ (0 : Int) = 3 ∨ (0 : Int) = 4); decide) hr
  | fls => intro r _ hr; exact zero (by decide) hr
  | and a b iha ihb => intro r h hr; exact bin iha ihb h hr
  | or a b iha ihb => intro r h hr; exact bin iha ihb h hr
  | imp a b iha ihb => intro r h hr; exact bin iha ihb h hr
  | box a => intro r h; exact absurd (anyP_mem.1 h (5, 0) (by simp [Fm.enc])) (by simp [isBD])
  | dia a => intro r h; exact absurd (anyP_mem.1 h (6, 0) (by simp [Fm.enc])) (by simp [isBD])
theorem fed_of {A V : List Nat} {t : Tree} (h : anyP isBD (Fm.enc t) = false) : Fed A V (Fm.enc t) := by
  have := fed_enc A V t [] h (Fed.nil_ A V)
  rwa [List.append_nil] at this
theorem ev_of {A V : List Nat} {t : Tree} (h : anyP isBD (Fm.enc t) = false) : ev A V (Fm.enc t) = [fv A V t] := by
  have := ev_enc A V t [] h
  rwa [List.append_nil] at this
theorem ev_drop {A V : List Nat} {xs : List Nd} {i : Nat} (h : i < xs.length) : ev A V (xs.drop i) = evs A V (kd xs i) (sy xs i) (ev A V (xs.drop (i + 1))) := by
  rw [List.drop_eq_getElem_cons h]
  show evs A V (xs[i]).1 (xs[i]).2 _ = _
  simp [kd, sy, List.getD, h]
/-- All values on the stack are sets of elements. -/
theorem ev_sm {A V : List Nat} (hV : ∀ m ∈ V, m < 2 ^ A.length) : ∀ xs : List Nd, ∀ m ∈ ev A V xs, m < 2 ^ A.length
  | [] => fun m h => absurd h (by simp [ev])
  | x :: xs => by
    have ih := ev_sm hV xs
    have hp : 0 < 2 ^ A.length := Nat.pow_pos (by omega)
    have hg : ∀ i, (ev A V xs).getD i 0 < 2 ^ A.length := by
      intro i
      by_cases h : i < (ev A V xs).length
      · simp only [List.getD_eq_getElem?_getD, List.getElem?_eq_getElem h, Option.getD_some]; exact ih _ (List.getElem_mem h)
      · rw [List.getD_eq_getElem?_getD, List.getElem?_eq_none (by omega)]; exact hp
    intro m hm
    have hm : m ∈ evs A V x.1 x.2 (ev A V xs) := hm
    unfold evs at hm
    repeat' split at hm
    all_goals rcases List.mem_cons.1 hm with rfl | hm
    · unfold nt
      by_cases h : x.2.toNat < V.length
      · simp only [List.getD_eq_getElem?_getD, List.getElem?_eq_getElem h, Option.getD_some]; exact hV _ (List.getElem_mem h)
      · rw [List.getD_eq_getElem?_getD, List.getElem?_eq_none (by omega)]; exact hp
    · exact ih _ hm
    · exact Nat.and_lt_two_pow _ (hg 1)
    · exact ih _ (List.mem_of_mem_drop hm)
    · exact Nat.or_lt_two_pow (hg 0) (hg 1)
    · exact ih _ (List.mem_of_mem_drop hm)
    · exact bx_lt _ _
    · exact ih _ (List.mem_of_mem_drop hm)
    · exact hp
    · exact ih _ hm
theorem enc_nd : ∀ (t : Tree), ∀ x ∈ Fm.enc t, (x.1 = 0 ∧ ∃ v : Nat, x.2 = (v : Int) ∧ v < 6) ∨ x.1 = 1 ∨ x.1 = 2 ∨ x.1 = 3 ∨ x.1 = 4 ∨ x.1 = 5 ∨ x.1 = 6 := by
  intro t
  induction t with
  | var v => intro x hx; simp [Fm.enc] at hx; subst hx; exact .inl ⟨rfl, v.val, rfl, v.isLt⟩
  | fls => intro x hx; simp [Fm.enc] at hx; subst hx; exact .inr (.inl rfl)
  | and a b iha ihb =>
    intro x hx; simp [Fm.enc] at hx; rcases hx with rfl | hx | hx
    · exact .inr (.inr (.inl rfl))
    · exact iha x hx
    · exact ihb x hx
  | or a b iha ihb =>
    intro x hx; simp [Fm.enc] at hx; rcases hx with rfl | hx | hx
    · exact .inr (.inr (.inr (.inl rfl)))
    · exact iha x hx
    · exact ihb x hx
  | imp a b iha ihb =>
    intro x hx; simp [Fm.enc] at hx; rcases hx with rfl | hx | hx
    · exact .inr (.inr (.inr (.inr (.inl rfl))))
    · exact iha x hx
    · exact ihb x hx
  | box a iha =>
    intro x hx; simp [Fm.enc] at hx; rcases hx with rfl | hx
    · exact .inr (.inr (.inr (.inr (.inr (.inl rfl)))))
    · exact iha x hx
  | dia a iha =>
    intro x hx; simp [Fm.enc] at hx; rcases hx with rfl | hx
    · exact .inr (.inr (.inr (.inr (.inr (.inr rfl)))))
    · exact iha x hx
theorem enc_kinds {t : Tree} (h : anyP isBD (Fm.enc t) = false) {i : Nat} (hi : i < (Fm.enc t).length) :
    (kd (Fm.enc t) i = 0 ∧ ∃ v : Nat, sy (Fm.enc t) i = (v : Int) ∧ v < 6) ∨ kd (Fm.enc t) i = 1 ∨ kd (Fm.enc t) i = 2 ∨ kd (Fm.enc t) i = 3 ∨ kd (Fm.enc t) i = 4 := by
  have h1 : kd (Fm.enc t) i = ((Fm.enc t)[i]).1 := by simp [kd, List.getD, hi]
  have h2 : sy (Fm.enc t) i = ((Fm.enc t)[i]).2 := by simp [sy, List.getD, hi]
  rw [h1, h2]
  have hb := anyP_mem.1 h _ (List.getElem_mem hi)
  rcases enc_nd t _ (List.getElem_mem hi) with h3 | h3 | h3 | h3 | h3 | h3 | h3
  · exact .inl h3
  · exact .inr (.inl h3)
  · exact .inr (.inr (.inl h3))
  · exact .inr (.inr (.inr (.inl h3)))
  · exact .inr (.inr (.inr (.inr h3)))
  · rw [h3] at hb; simp [isBD] at hb
  · rw [h3] at hb; simp [isBD] at hb
end Go.Proofs.YtefkgomecpnpbaaGreat

/- Boxes: box of the program, l01Box of the reference. -/
namespace Go.Proofs.YtefkgomecpnpbaaGreat
open Go.RowKit

theorem box_q (v : Value) (A : List Nat) (m : Nat) (w : World) (h : Ints w v (zs A)) (hA : Sm A) (hn30 : A.length ≤ 30) (hm : m < 9223372036854775808) :
    Calls Tryz.prog 116 #[v, .int .i64 (m : Int)] w fun e w' => e = .returned (.int .i64 ((bx A m : Nat) : Int)) ∧ w' = w := by
  have HW := Lib.hid (fun a (ha : a < 1073741824) W => within_q a m (by omega) hm W)
  have HR := Lib.hid (show bxK A m A.length = bx A m from rfl)
  have HY := Lib.hid (fun k => @bxK_yes A m k)
  have HN := Lib.hid (fun k => @bxK_no A m k)
  have HS := Lib.hid (fun k (hk : k ≤ 30) => bxK_sm (A := A) (m := m) hk)
  have HT := Lib.hid (fun i (hi : i < A.length) => hA.at_ hi)
  have HO := Lib.hid (fun a b (ha : a < 1073741824) (hb : b < 1073741824) => or_i64 a b (by omega) (by omega))
  have HP := Lib.hid (fun k (hk : k ≤ 30) => wrap_pow hk)
  have HP2 := Lib.hid (fun k (hk : k < 30) => pow30 hk)
  obtain ⟨A', c, rfl⟩ := ints_sliceN h
  have HC := Lib.hid (fun h0 => cellsN h h0)
  clear hm h hA
  generalize bx A m = R at *
  generalize hNA : A.length = n at *
  clear hNA
  go_enter Tryz.func116, Tryz.ntmps116
  go_wp2_with fail
  go_loopw [5, 6, 7, 10] (fun q _ _ i wr => ∃ j : Nat, j ≤ n ∧ i = .int .i64 j ∧ q = .int .i64 ((bxK A m j : Nat) : Int) ∧ wr = w) (fun _ _ _ i _ => n - (intOf i).toNat)
  case atStart => exact ⟨0, by omega, rfl, rfl, rfl⟩
  case round =>
    obtain ⟨j, hj, rfl, rfl, rfl⟩ := hrel
    by_cases hlt : j < n
    · obtain ⟨b2, o2, rfl, hcell2⟩ := HC.out (by omega)
      have hH := Lib.hid (HW.out _ (HT.out j hlt))
      have ho := HO.out _ _ (HS.out j (by omega)) (HP2.out j (by omega))
      have hp := HP.out j (by omega)
      have hY := Lib.hid (HY.out j)
      have hN := Lib.hid (HN.out j)
      have k1 := hcell2 j hlt _ (Grew.refl _)
      clear hcell2
      generalize nt A j = y at *
      generalize decide (dif y m = 0) = t at *
      generalize hsj : bxK A m j = sj at *
      clear hsj
      generalize hpj : (2 ^ j : Nat) = pj at *
      clear hpj
      go_wp2_with fail
      refine (hH.out _).mono ?_
      rintro e w2 ⟨rfl, rfl⟩
      cases t with
      | true =>
        have hy := Lib.hid (hY.out rfl)
        go_wp2_with fail
        go_roundw
        case rel => exact ⟨j + 1, by omega, by go_num, by rw [hy.out], by trivial⟩
        case measure => simp [intOf]; omega
      | false =>
        have hn := Lib.hid (hN.out rfl)
        go_wp2_with fail
        go_roundw
        case rel => exact ⟨j + 1, by omega, by go_num, by rw [hn.out], by trivial⟩
        case measure => simp [intOf]; omega
    · obtain rfl : j = n := by omega
      have hr := Lib.hid HR.out
      go_wp2_with fail
      go_ret
      exact ⟨by rw [hr.out]; rfl, rfl⟩
theorem l01Box_q (v : Value) (A : List Nat) (m : Nat) (w : World) (h : Ints w v (zs A)) (hA : Sm A) (hn30 : A.length ≤ 30) (hm : m < 9223372036854775808) :
    Calls Tryz.prog 98 #[v, .int .i64 (m : Int)] w fun e w' => e = .returned (.int .i64 ((bx A m : Nat) : Int)) ∧ ∃ d, w' = w.drewN d := by
  have HR := Lib.hid (show bxK A m A.length = bx A m from rfl)
  have HY := Lib.hid (fun k => @bxK_yes A m k)
  have HN := Lib.hid (fun k => @bxK_no A m k)
  have HS := Lib.hid (fun k (hk : k ≤ 30) => bxK_sm (A := A) (m := m) hk)
  have HT := Lib.hid (fun i (hi : i < A.length) => hA.at_ hi)
  have HO := Lib.hid (fun a b (ha : a < 1073741824) (hb : b < 1073741824) => or_i64 a b (by omega) (by omega))
  have HA := Lib.hid (fun a (ha : a < 1073741824) => and_i64 a m (by omega) hm)
  have HE := Lib.hid (fun a : Nat => show (((a &&& m : Nat) : Int) == (a : Int)) = decide (dif a m = 0) from by
    rw [Bool.eq_iff_iff, decide_eq_true_eq, ← and_dif, beq_iff_eq]
    omega)
  have HOne := Lib.hid (fun i (hi : i ≤ 30) W => l01One_q i hi W)
  have HP2 := Lib.hid (fun k (hk : k < 30) => pow30 hk)
  obtain ⟨A', c, rfl⟩ := ints_sliceN h
  have HC := Lib.hid (fun h0 => cellsN h h0)
  clear hm h hA
  generalize bx A m = R at *
  generalize hNA : A.length = n at *
  clear hNA
  go_enter Tryz.func98, Tryz.ntmps98
  go_wp2_with fail
  go_loopw [5, 6] (fun q i wr => ∃ j d : Nat, j ≤ n ∧ i = .int .i64 j ∧ q = .int .i64 ((bxK A m j : Nat) : Int) ∧ wr = w.drewN d) (fun _ i _ => n - (intOf i).toNat)
  case atStart => exact ⟨0, 0, by omega, rfl, rfl, rfl⟩
  case round =>
    obtain ⟨j, d, hj, rfl, rfl, rfl⟩ := hrel
    by_cases hlt : j < n
    · obtain ⟨b2, o2, rfl, hcell2⟩ := HC.out (by omega)
      have hH := Lib.hid (HOne.out j (by omega))
      have ho := HO.out _ _ (HS.out j (by omega)) (HP2.out j (by omega))
      have ha := HA.out _ (HT.out j hlt)
      have he := HE.out (nt A j)
      have hY := Lib.hid (HY.out j)
      have hN := Lib.hid (HN.out j)
      have k1 := hcell2 j hlt _ (Grew.refl _)
      have hgd : Grew w (w.drewN d) := (Grew.refl w).drewN d
      clear hcell2
      generalize nt A j = y at *
      generalize y &&& m = ym at *
      generalize decide (dif y m = 0) = t at *
      generalize hsj : bxK A m j = sj at *
      clear hsj
      generalize hpj : (2 ^ j : Nat) = pj at *
      clear hpj
      go_wp2_with fail
      go_region
      cases t with
      | true =>
        have hy := Lib.hid (hY.out rfl)
        go_wp2_with fail
        refine (hH.out _).mono ?_
        rintro e w2 ⟨rfl, rfl⟩
        go_wp2_with fail
        go_roundw
        case rel => exact ⟨j + 1, _, by omega, by go_num, by rw [hy.out], by trivial⟩
        case measure => simp [intOf]; omega
      | false =>
        have hn := Lib.hid (hN.out rfl)
        go_wp2_with fail
        go_roundw
        case rel => exact ⟨j + 1, _, by omega, by go_num, by rw [hn.out], by trivial⟩
        case measure => simp [intOf]; omega
    · obtain rfl : j = n := by omega
      have hr := Lib.hid HR.out
      go_wp2_with fail
      go_ret
      exact ⟨by rw [hr.out]; rfl, d, rfl⟩
end Go.Proofs.YtefkgomecpnpbaaGreat

/- Implications of sets: all, imply of the program, l17Arrow of the reference. -/
namespace Go.Proofs.YtefkgomecpnpbaaGreat
open Go.RowKit

theorem posAll_c (n : Nat) (v : Value) (w : World) (hv : ∃ A m c, v = .slice A m c) (hn : n ≤ 30) :
    Calls Tryz.prog 117 #[.agg #[.int .i64 (n : Int), v]] w fun e w' => e = .returned (.int .i64 ((full n : Nat) : Int)) ∧ Grew w w' := by
  have h1 := wrap_pow hn
  have h2 := pow30' hn
  have h3 : 0 < 2 ^ n := Nat.pow_pos (by omega)
  have hf := Lib.hid (full_cast n)
  have hg := (Grew.refl w).alloc (.cells #[.int .i64 (n : Int), v] 63)
  obtain ⟨A, m, c, rfl⟩ := hv
  generalize full n = F at *
  generalize (2 ^ n : Nat) = p at *
  go_enter Tryz.func117, Tryz.ntmps117
  go_wp2_with fail
  go_ret
  refine ⟨?_, hg⟩
  have hf := hf.out
  rw [hf]
  rfl
theorem posImply_c (v : Value) (A : List Nat) (a b : Nat) (w : World) (h : Ints w v (zs A)) (hA : Rl A) (ha : a < 1073741824) (hb : b < 1073741824) :
    Calls Tryz.prog 105 #[.agg #[.int .i64 (A.length : Int), v], .int .i64 (a : Int), .int .i64 (b : Int)] w fun e w' => e = .returned (.int .i64 ((ar A a b : Nat) : Int)) ∧ Grew w w' := by
  have hf := full_lt A.length
  have hf2 := pow30' hA.1
  have hd := dif_le (a := full A.length) (b := a)
  have h1 := andNot_i64 (full A.length) a (by omega) (by omega)
  have h2 := or_i64 (dif (full A.length) a) b (by omega) (by omega)
  have h3 := Nat.or_lt_two_pow (n := 30) (x := dif (full A.length) a) (y := b) (by omega) (by omega)
  have KA := Lib.hid (fun W hv => posAll_c A.length v W hv hA.1)
  have KB := Lib.hid (fun W hW => box_q v A (dif (full A.length) a ||| b) W (h.grew hW) hA.sm hA.1 (by omega))
  have hr : Hid (bx A (dif (full A.length) a ||| b) = ar A a b) := Lib.hid rfl
  have hal := (Grew.refl w).alloc (.cells #[.int .i64 (A.length : Int), v] 63)
  obtain ⟨A', c, rfl⟩ := ints_sliceN h
  have KA := Lib.hid (fun W => KA.out W ⟨_, _, _, rfl⟩)
  clear hf hf2 hd h hA ha hb h3
  generalize bx A (dif (full A.length) a ||| b) = R at *
  generalize dif (full A.length) a ||| b = D at *
  generalize dif (full A.length) a = C at *
  generalize full A.length = F at *
  generalize A.length = n at *
  obtain ⟨w1, hw1⟩ : ∃ w1, w1 = w.alloc (.cells #[.int .i64 (n : Int), .slice A' n c] 63) := ⟨_, rfl⟩
  rw [← hw1] at hal
  have HG := Lib.hid hal
  have hk0 : w1.heap[w.heap.size]? = some (.cells #[.int .i64 (n : Int), .slice A' n c] 63 (0, 0)) := by rw [hw1]; exact blk_new w _
  have k0 : ∀ W, Grew w1 W → W.cell? ⟨w.heap.size, 0, none⟩ = some (.int .i64 (n : Int)) := fun W hW => by rw [blk_cell ((hW.block (blk_lt hk0)).trans hk0)]; rfl
  have k1 : ∀ W, Grew w1 W → W.cell? ⟨w.heap.size, 1, none⟩ = some (.slice A' n c) := fun W hW => by rw [blk_cell ((hW.block (blk_lt hk0)).trans hk0)]; rfl
  have hr1 := Grew.refl w1
  have hd1 := hr1.drew
  clear hal hk0
  go_enter Tryz.func105, Tryz.ntmps105
  go_wp2_with fail
  simp only [← hw1]
  clear hw1
  go_region_held3 (fun w' => Grew w1 w') (with_reducible assumption)
    (first | (go_at_call 116; refine (KB.out _ (HG.out.trans hk2)).mono ?_; rintro e w3 ⟨rfl, rfl⟩) | (go_at_call 117; refine (KA.out _).mono ?_; rintro e w2 ⟨rfl, hg2⟩; have hk2 := hd1.trans hg2))
  go_wp2_with fail
  go_ret
  exact ⟨by rw [hr.out]; rfl, HG.out.trans hk2⟩
theorem l17Arrow_c (v : Value) (A : List Nat) (a b : Nat) (w : World) (h : Ints w v (zs A)) (hA : Rl A) (ha : a < 1073741824) (hb : b < 1073741824) :
    Calls Tryz.prog 73 #[.agg #[.int .i64 (A.length : Int), v], .int .i64 (a : Int), .int .i64 (b : Int)] w fun e w' => e = .returned (.int .i64 ((ar A a b : Nat) : Int)) ∧ Grew w w' := by
  have hf := full_lt A.length
  have hf2 := pow30' hA.1
  have hd := dif_le (a := full A.length) (b := a)
  have h1 := andNot_i64 (full A.length) a (by omega) (by omega)
  have h2 := or_i64 (dif (full A.length) a) b (by omega) (by omega)
  have h3 := Nat.or_lt_two_pow (n := 30) (x := dif (full A.length) a) (y := b) (by omega) (by omega)
  have KA := Lib.hid (fun W => (l01Full_q A.length hA.1 W).mono fun e w' (h : _ ∧ _) => (⟨h.1.trans (by rw [full_cast]), h.2⟩ : e = .returned (.int .i64 ((full A.length : Nat) : Int)) ∧ w' = W))
  have KB := Lib.hid (fun W hW => l01Box_q v A (dif (full A.length) a ||| b) W (h.grew hW) hA.sm hA.1 (by omega))
  have hr : Hid (bx A (dif (full A.length) a ||| b) = ar A a b) := Lib.hid rfl
  have hal := (Grew.refl w).alloc (.cells #[.int .i64 (A.length : Int), v] 63)
  obtain ⟨A', c, rfl⟩ := ints_sliceN h
  clear hf hf2 hd h hA ha hb h3
  generalize bx A (dif (full A.length) a ||| b) = R at *
  generalize dif (full A.length) a ||| b = D at *
  generalize dif (full A.length) a = C at *
  generalize full A.length = F at *
  generalize A.length = n at *
  obtain ⟨w1, hw1⟩ : ∃ w1, w1 = w.alloc (.cells #[.int .i64 (n : Int), .slice A' n c] 63) := ⟨_, rfl⟩
  rw [← hw1] at hal
  have HG := Lib.hid hal
  have hk0 : w1.heap[w.heap.size]? = some (.cells #[.int .i64 (n : Int), .slice A' n c] 63 (0, 0)) := by rw [hw1]; exact blk_new w _
  have k0 : ∀ W, Grew w1 W → W.cell? ⟨w.heap.size, 0, none⟩ = some (.int .i64 (n : Int)) := fun W hW => by rw [blk_cell ((hW.block (blk_lt hk0)).trans hk0)]; rfl
  have k1 : ∀ W, Grew w1 W → W.cell? ⟨w.heap.size, 1, none⟩ = some (.slice A' n c) := fun W hW => by rw [blk_cell ((hW.block (blk_lt hk0)).trans hk0)]; rfl
  have hr1 := Grew.refl w1
  have hd1 := hr1.drew
  clear hal hk0
  go_enter Tryz.func73, Tryz.ntmps73
  go_wp2_with fail
  simp only [← hw1]
  clear hw1
  go_region_held3 (fun w' => Grew w1 w') (first | with_reducible assumption | exact Grew.drewN (Grew.refl _) _)
    (first | (go_at_call 98; refine (KB.out _ (HG.out.trans hk2)).mono ?_; rintro e w3 ⟨rfl, d3, rfl⟩) | (go_at_call 47; refine (KA.out _).mono ?_; rintro e w2 ⟨rfl, rfl⟩; have hk2 := hd1))
  go_wp2_with fail
  go_ret
  exact ⟨by rw [hr.out]; rfl, HG.out.trans ((Grew.refl _).drewN _)⟩
end Go.Proofs.YtefkgomecpnpbaaGreat

/- forced of the program: a stack of values. -/
namespace Go.Proofs.YtefkgomecpnpbaaGreat
open Go.RowKit
open Fm (Nd Tree)

/-- The stack: the top stands last. -/
def sk (st : List Nat) : List Int := zs st.reverse
theorem sk_len (st : List Nat) : (sk st).length = st.length := by unfold sk; rw [zs_len, List.length_reverse]
theorem sk_cons (x : Nat) (st : List Nat) : sk (x :: st) = sk st ++ [(x : Int)] := by unfold sk; rw [List.reverse_cons, zs_append]; rfl
/-- A row of the call's own without its last number. -/
theorem OwnI.pop {w : World} {B : Nat} {A : Option Addr} {n c : Nat} {L : List Int} {x : Int} (h : OwnI w B (.slice A n c) (L ++ [x])) : n = L.length + 1 ∧ ∃ g, A = some ⟨g, 0, none⟩ ∧ n ≤ c ∧ c ≤ 9223372036854775807 ∧ B ≤ g ∧ g < w.heap.size ∧ w.cell? ⟨g, L.length, none⟩ = some (.int .i64 x) ∧ OwnI w B (.slice (some ⟨g, 0, none⟩) L.length c) L := by
  obtain ⟨h1, h2⟩ := h
  rcases h2 with ⟨h3, h4⟩ | ⟨g, cap, cur, h3, h4, h5, h6, h7, h8, h9⟩
  · rw [List.length_append] at h4; simp at h4
  · rw [List.length_append, List.length_singleton] at h3 h6 h9
    simp only [Value.slice.injEq] at h3
    obtain ⟨rfl, rfl, rfl⟩ := h3
    have hsz : cur.size = c := by omega
    have hcell : ∀ j, j < L.length + 1 → cur[j]? = (icells (L ++ [x]))[j]? := fun j hj => by
      have := congrArg (fun l => l[j]?) h9
      simp only [List.getElem?_take] at this
      rw [if_pos (by omega)] at this
      simpa using this
    refine ⟨rfl, g, rfl, h6, h7, h4, (Array.getElem?_eq_some_iff.1 h5).1, ?_, ?_⟩
    · rw [cell_of_row w g _ cur _ (0, 0) h5, hcell _ (by omega)]
      have := icells_at (L := L ++ [x]) (i := L.length) (by simp)
      rw [this]
      simp [it, List.getD]
    · refine OwnI.mk_ h4 h5 (by omega) h7 hsz fun i hi => ?_
      rw [hcell i (by omega), icells_at (by simp; omega)]
      congr 1
      simp [it, List.getD, List.getElem?_append_left hi]
/-- The stack of the call lies in block b. -/
def Stk (w : World) (b B : Nat) (st : List Nat) : Prop := ∃ A n c, w.heap[b]? = some (.cells #[.slice A n c] 47 (0, 0)) ∧ OwnI w B (.slice A n c) (sk st)
theorem pop_c (b : Nat) (x : Nat) (st : List Nat) (B : Nat) (w : World) (h : Stk w b B (x :: st)) (hb : b < B) :
    Calls Tryz.prog 104 #[.pointer (some ⟨b, 0, none⟩)] w fun e w' => e = .returned (.int .i64 (x : Int)) ∧ Stk w' b B st ∧ Only b w w' := by
  obtain ⟨A, n, c, h1, h2⟩ := h
  rw [sk_cons] at h2
  obtain ⟨rfl, g, rfl, h3, h4, h5, h6, h7, h8⟩ := h2.pop
  have HE := Lib.hid (show ∀ v, w.heap[b]? = some (.cells #[v] 47 (0, 0)) → (Only b w (w.setCell ⟨b, 0, none⟩ (.slice (some ⟨g, 0, none⟩) (sk st).length c)) ∧ Stk (w.setCell ⟨b, 0, none⟩ (.slice (some ⟨g, 0, none⟩) (sk st).length c)) b B st) from fun v hv =>
    ⟨(Only.refl b w).setCell _, _, _, _, blk_set hv 0 _, own_only h8 ((Only.refl b w).setCell _) (fun he => by have := own_of_ge h8 he; omega)⟩)
  have HE := HE.out _ h1
  have HE := Lib.hid HE
  have k0 : w.cell? ⟨b, 0, none⟩ = some (.slice (some ⟨g, 0, none⟩) ((sk st).length + 1) c) := by rw [blk_cell h1]; rfl
  have f0 := blk_frozen h1 0
  clear h1 h2 h8
  generalize (sk st).length = m at *
  go_enter Tryz.func104, Tryz.ntmps104
  go_wp2_with fail
  go_ret
  exact ⟨rfl, HE.out.2, HE.out.1⟩
/-- An append onto a row of the call's own above block B. -/
theorem wpList_appB {ops : Array Oper} {rest : List Oper} {o : Oper} {a : Act} {Q : Exit → Act → World → Prop} {w : World} (B : Nat) (s x : Operand) (hgd : o.guard = none)
    (ho : o.op = .call { callee := .builtin .append, args := #[s, x], argTypes := #[47, 47] })
    (v : Value) (L : List Int) (hs : a.eval s = v) (hown : OwnI w B v L) (hB : B ≤ w.heap.size) (vx : Value) (k : Int) (hx : a.eval x = vx) (hr : Rd w 1 vx 1 [.int .i64 k]) (hn : L.length ≤ 1048576)
    (h : ∀ v' w', OwnI w' B v' (L ++ [k]) → w.grownBy w' v.ownBlock → wpList Tryz.prog ops Q rest (a.put o.dst v') w') : wpList Tryz.prog ops Q (o :: rest) a w := by
  obtain ⟨i0, hi0, hz0, hz1, hz2⟩ := info_parts Tryz.infoI
  refine wpList_append_rd w hgd s x _ ho B 2 i0 _ 1 8 Tryz.underlying47 hi0 hz0 hz1 hz2 rfl (by omega) v L.length (icells L) hs hown vx 1 [.int .i64 k] hx hr (by simp [Value.oneCell']) (by unfold maxLen; omega) (by omega) hB ?_
  intro v' w' h1 h2 h3
  refine h v' w' ?_ h2
  unfold OwnI
  rw [List.length_append, icells_append]
  exact h1
theorem evs_var {A V : List Nat} {k s : Int} {v : Nat} {st : List Nat} (h : k = 0) (hs : s = (v : Int)) : evs A V k s st = nt V v :: st := by unfold evs; rw [if_pos h, hs]; rfl
theorem evs_fls {A V : List Nat} {k s : Int} {st : List Nat} (h : k = 1) : evs A V k s st = 0 :: st := by subst h; rfl
theorem evs_and {A V : List Nat} {k s : Int} {x y : Nat} {st : List Nat} (h : k = 2) : evs A V k s (x :: y :: st) = (x &&& y) :: st := by subst h; rfl
theorem evs_or {A V : List Nat} {k s : Int} {x y : Nat} {st : List Nat} (h : k = 3) : evs A V k s (x :: y :: st) = (x ||| y) :: st := by subst h; rfl
theorem evs_imp {A V : List Nat} {k s : Int} {x y : Nat} {st : List Nat} (h : k = 4) : evs A V k s (x :: y :: st) = ar A x y :: st := by subst h; rfl
theorem two_at {st : List Nat} (h : 2 ≤ st.length) : ∃ x y r, st = x :: y :: r := by
  match st, h with
  | x :: y :: r, _ => exact ⟨x, y, r, rfl⟩
theorem Stk.grew {w w' : World} {b B : Nat} {st : List Nat} (h : Stk w b B st) (hg : Grew w w') : Stk w' b B st := by
  obtain ⟨A, n, c, h1, h2⟩ := h
  exact ⟨A, n, c, (hg.block (blk_lt h1)).trans h1, h2.grew hg⟩

theorem enc_kinds_v {t : Tree} {n : Nat} (h : anyP isBD (Fm.enc t) = false) {i : Nat} (hi : i < (Fm.enc t).length) (hn : kd (Fm.enc t) i = 0 → sy (Fm.enc t) i < (n : Int)) :
    (kd (Fm.enc t) i = 0 ∧ ∃ v : Nat, sy (Fm.enc t) i = (v : Int) ∧ v < n) ∨ kd (Fm.enc t) i = 1 ∨ kd (Fm.enc t) i = 2 ∨ kd (Fm.enc t) i = 3 ∨ kd (Fm.enc t) i = 4 := by
  rcases enc_kinds h hi with ⟨h1, v, h2, _⟩ | h1
  · have := hn h1
    exact .inl ⟨h1, v, h2, by omega⟩
  · exact .inr h1
set_option maxHeartbeats 4000000 in
set_option maxRecDepth 4096 in
theorem forced_g (v u va : Value) (A V : List Nat) (t : Tree) (w : World) (h : Ints w v (zs A)) (hu : Ints w u (zs V)) (ha : Nodes w va (Fm.enc t)) (hA : Rl A) (hV : ∀ m ∈ V, m < 2 ^ A.length) (hl0 : 0 < V.length) (hl6 : V.length ≤ 6) (hsm6 : ∀ i, i < (Fm.enc t).length → kd (Fm.enc t) i = 0 → sy (Fm.enc t) i < (V.length : Int)) (ht : FmOk t) :
    Calls Tryz.prog 82 #[.agg #[.int .i64 (A.length : Int), v], u, va] w fun e w' => e = .returned (.int .i64 ((fv A V t : Nat) : Int)) ∧ Grew w w' := by
  have hbd := ht.2
  have hsm : ∀ m, m < 2 ^ A.length → m < 1073741824 := fun m hm => Nat.lt_of_lt_of_le hm (pow30' hA.1)
  have HSM := Lib.hid (fun i m (hm : m ∈ ev A V ((Fm.enc t).drop i)) => hsm m (ev_sm hV _ m hm))
  have HFED := Lib.hid (fed_of (A := A) (V := V) hbd)
  have HEND := Lib.hid (ev_of (A := A) (V := V) hbd)
  have HDR := Lib.hid (fun i (hi : i < (Fm.enc t).length) => ev_drop (A := A) (V := V) hi)
  have HK := Lib.hid (fun i (hi : i < (Fm.enc t).length) => enc_kinds_v hbd hi (hsm6 i hi))
  have HLEN := Lib.hid (fun i => show (ev A V ((Fm.enc t).drop i)).length ≤ 1048576 from by
    have h40 := ht.1
    have hle : ∀ xs : List Nd, (ev A V xs).length ≤ xs.length := by
      intro xs
      induction xs with
      | nil => simp [ev]
      | cons x xs ih =>
        show (evs A V x.1 x.2 (ev A V xs)).length ≤ _
        unfold evs
        repeat' split
        all_goals simp only [List.length_cons, List.length_drop]; omega
    have := hle ((Fm.enc t).drop i)
    rw [List.length_drop] at this
    omega)
  have hend0 : ev A V ((Fm.enc t).drop (Fm.enc t).length) = [] := by rw [List.drop_length]; rfl
  have KI := Lib.hid (fun a b W (hW : Grew w W) ha hb => posImply_c v A a b W (h.grew hW) hA ha hb)
  have HVR := Lib.hid hu
  have hpos := Fm.enc_pos t
  have h40 := ht.1
  obtain ⟨A', c, rfl⟩ := ints_sliceN h
  obtain ⟨AU, cu, rfl⟩ := ints_sliceN hu
  have HCU := Lib.hid (cellsN hu (by omega))
  clear h hu hA hV hbd ht hsm
  rcases ha.open_ with ⟨rfl, h0⟩ | ⟨ba, oa, ca, rfl, hca, hcm, hbl, hcell⟩
  · rw [h0] at hpos; simp at hpos
  have HNC := Lib.hid hcell
  clear hcell ha
  have HEND0 := Lib.hid hend0
  clear hend0
  clear hsm6
  generalize V.length = nv at *
  generalize fv A V t = R at *
  generalize Fm.enc t = xs at *
  generalize A.length = NA at *
  generalize hnx : xs.length = n at *
  replace hnx := Lib.hid hnx
  obtain ⟨bu, ou, rfl, hcu⟩ := HCU.out
  have HCU := Lib.hid hcu
  clear hcu
  obtain ⟨w1, hw1⟩ : ∃ w1, w1 = (w.alloc (.cells #[.int .i64 (NA : Int), .slice A' NA c] 63)).alloc (.cells #[.slice none 0 0] 47) := ⟨_, rfl⟩
  have hg1 : Grew w w1 := by rw [hw1]; exact ((Grew.refl w).alloc _).alloc _
  have hs1 : w1.heap.size = w.heap.size + 2 := by rw [hw1]; simp
  have hb0 : w1.heap[w.heap.size]? = some (.cells #[.int .i64 (NA : Int), .slice A' NA c] 63 (0, 0)) := by
    rw [hw1]
    exact (((Grew.refl _).alloc _).block (by simp)).trans (blk_new w _)
  have hb1 : w1.heap[w.heap.size + 1]? = some (.cells #[.slice none 0 0] 47 (0, 0)) := by
    rw [hw1]
    have h := blk_new (w.alloc (.cells #[.int .i64 (NA : Int), .slice A' NA c] 63)) (.cells #[.slice none 0 0] 47)
    have e : (w.alloc (.cells #[.int .i64 (NA : Int), .slice A' NA c] 63)).heap.size = w.heap.size + 1 := by simp
    rwa [e] at h
  have hstk : Stk w1 (w.heap.size + 1) (w.heap.size + 2) (ev A V (xs.drop n)) := by rw [HEND0.out]; exact ⟨_, _, _, hb1, OwnI.nil_ _ _⟩
  have HST := Lib.hid hstk
  have HB0 := Lib.hid hb0
  have HG1 := Lib.hid hg1
  have HS1 := Lib.hid hs1
  clear hb0 hb1 hg1 hstk hs1
  have npos : (1 : Int) ≤ n := by omega
  go_enter Tryz.func82, Tryz.ntmps82
  go_wp2_with fail
  simp only [← hw1]
  clear hw1
  go_loopw [9, 10, 11] (fun i _ _ wr => ∃ k : Nat, k ≤ n ∧ i = .int .i64 ((k : Int) - 1) ∧ Hid (wr.heap[w.heap.size]? = some (.cells #[.int .i64 (NA : Int), .slice A' NA c] 63 (0, 0))) ∧ Hid (Stk wr (w.heap.size + 1) (w.heap.size + 2) (ev A V (xs.drop k))) ∧ Hid (Grew w wr) ∧ Hid (w.heap.size + 2 ≤ wr.heap.size)) (fun i _ _ _ => ((intOf i) + 1).toNat)
  case atStart => exact ⟨n, Nat.le_refl _, rfl, HB0, HST, HG1, Lib.hid (by rw [HS1.out]; omega)⟩
  case round =>
    obtain ⟨k, hk, rfl, HP, HK0, HG, HZ⟩ := hrel
    cases k with
    | zero =>
      obtain ⟨AS, nS, cS, hb, hO⟩ := HK0.out
      have hO2 : OwnI wr (w.heap.size + 2) (.slice AS nS cS) ([] ++ [((R : Nat) : Int)]) := by
        have e : sk (ev A V (xs.drop 0)) = [] ++ [((R : Nat) : Int)] := by rw [List.drop_zero, HEND.out]; rfl
        rw [e] at hO; exact hO
      obtain ⟨rfl, g, rfl, q1, q2, q3, q4, q5, q6⟩ := hO2.pop
      have k0 : wr.cell? ⟨w.heap.size + 1, 0, none⟩ = some (.slice (some ⟨g, 0, none⟩) 1 cS) := by rw [blk_cell hb]; rfl
      have q5 : wr.cell? ⟨g, 0, none⟩ = some (.int .i64 ((R : Nat) : Int)) := q5
      clear hb hO hO2 q6 q3
      go_wp2_with fail
      go_ret
      exact ⟨rfl, HG.out⟩
    | succ k =>
      have ei : (((k + 1 : Nat) : Int) - 1) = (k : Int) := by omega
      rw [ei]
      have hkx : k < xs.length := by rw [hnx.out]; omega
      have hlt : (k : Int) < (n : Int) := by omega
      obtain ⟨c0, c1⟩ := HNC.out k (by omega) _ HG.out
      have hdr := HDR.out k (by omega)
      have hbS := HK0.out
      have hL1 := HLEN.out (k + 1)
      have hF := HFED.out k hkx
      have hSM := fun m hm => HSM.out (k + 1) m hm
      clear hkx
      generalize ev A V (xs.drop (k + 1)) = st at *
      have HDRK := Lib.hid hdr
      have HL1 := Lib.hid hL1
      have HF := Lib.hid hF
      have HSMK := Lib.hid hSM
      have HBS := Lib.hid hbS
      clear hdr hL1 hF hSM hbS
      rcases HK.out k (by omega) with ⟨hkd, s, hsy, hs6⟩ | hkd | hkd | hkd | hkd
      · have he : ev A V (xs.drop k) = nt V s :: st := HDRK.out.trans (evs_var hkd hsy)
        have hu1 := HCU.out s (by omega) _ HG.out
        rw [hkd] at c0
        rw [hsy] at c1
        clear hkd hsy
        have HEK := Lib.hid he
        clear he
        generalize nt V s = y at *
        obtain ⟨AS, nS, cS, hb, hO⟩ := HBS.out
        have k7 : wr.cell? ⟨w.heap.size + 1, 0, none⟩ = some (.slice AS nS cS) := by rw [blk_cell hb]; rfl
        have k7' : ∀ o, (wr.alloc o).cell? ⟨w.heap.size + 1, 0, none⟩ = some (.slice AS nS cS) := fun o => by rw [blk_cell ((((Grew.refl wr).alloc o).block (blk_lt hb)).trans hb)]; rfl
        have HBT := Lib.hid hb
        have HOT := Lib.hid hO
        have HZA := Lib.hid (fun o : Obj => (Nat.le_trans HZ.out (((Grew.refl wr).alloc o).size) : w.heap.size + 2 ≤ (wr.alloc o).heap.size))
        have HOA := Lib.hid (fun o : Obj => (hO.grew ((Grew.refl wr).alloc o) : OwnI (wr.alloc o) (w.heap.size + 2) (.slice AS nS cS) (sk st)))
        clear hb hO
        go_wp2_with (first
          | (at_builtin
             refine wpList_appB (w.heap.size + 2) _ _ rfl rfl (.slice AS nS cS) (sk st) rfl (HOA.out _) (HZA.out _) (.slice (some ⟨wr.heap.size, 0, none⟩) 1 1) ((y : Nat) : Int) rfl (rd_litI wr _ _) (by rw [sk_len]; exact HL1.out) ?_
             intro v8 w8 hown8 hg8
             obtain ⟨A8, c8, rfl⟩ := ints_slice hown8.ints
             rw [List.length_append, List.length_singleton] at hown8
             have hne8 : some (w.heap.size + 1) ≠ (Value.slice AS nS cS).ownBlock := fun he => by have := own_of_ge HOT.out he.symm; omega
             have hne9 : some w.heap.size ≠ (Value.slice AS nS cS).ownBlock := fun he => by have := own_of_ge HOT.out he.symm; omega
             have hb8 := (hg8.block _ (Nat.lt_of_lt_of_le (show w.heap.size + 1 < w.heap.size + 2 by omega) (HZA.out _)) hne8).trans ((((Grew.refl wr).alloc _).block (blk_lt HBT.out)).trans HBT.out)
             have hp8 := (hg8.block _ (Nat.lt_of_lt_of_le (show w.heap.size < w.heap.size + 2 by omega) (HZA.out _)) hne9).trans ((((Grew.refl wr).alloc _).block (blk_lt HP.out)).trans HP.out)
             have k8 : w8.cell? ⟨w.heap.size + 1, 0, none⟩ = some (.slice AS nS cS) := by rw [blk_cell hb8]; rfl
             have f8 := blk_frozen hb8 0
             have hG8 : Grew w w8 := (HG.out.alloc _).grown hg8 (fun g hg => by have := own_of_ge HOT.out hg; omega)
             have hz8 : w.heap.size + 2 ≤ w8.heap.size := Nat.le_trans (HZA.out _) hg8.size
             have HFIN := Lib.hid (show Hid ((w8.setCell ⟨w.heap.size + 1, 0, none⟩ (.slice A8 ((sk st).length + 1) c8)).heap[w.heap.size]? = some (.cells #[.int .i64 (NA : Int), .slice A' NA c] 63 (0, 0))) ∧ Hid (Stk (w8.setCell ⟨w.heap.size + 1, 0, none⟩ (.slice A8 ((sk st).length + 1) c8)) (w.heap.size + 1) (w.heap.size + 2) (ev A V (xs.drop k))) ∧ Hid (Grew w (w8.setCell ⟨w.heap.size + 1, 0, none⟩ (.slice A8 ((sk st).length + 1) c8))) ∧ Hid (w.heap.size + 2 ≤ (w8.setCell ⟨w.heap.size + 1, 0, none⟩ (.slice A8 ((sk st).length + 1) c8)).heap.size) from by
               have hon : Only (w.heap.size + 1) w8 (w8.setCell ⟨w.heap.size + 1, 0, none⟩ (.slice A8 ((sk st).length + 1) c8)) := (Only.refl _ _).setCell _
               refine ⟨Lib.hid ((hon.block (by omega) (by omega)).trans hp8), Lib.hid ⟨_, _, _, blk_set hb8 0 _, ?_⟩, Lib.hid (hG8.setCell (show w.heap.size ≤ w.heap.size + 1 by omega) _), Lib.hid (Nat.le_trans hz8 hon.size)⟩
               rw [HEK.out, sk_cons]
               exact own_only hown8 hon (fun he => by have := own_of_ge hown8 he; omega))
             clear hb8 hp8 hG8 hz8 hown8 hg8 hne8 hne9 k7 k7'))
        go_roundw
        case rel => exact ⟨k, by omega, rfl, HFIN.out⟩
        case measure => simp [intOf] <;> omega
      · have he : ev A V (xs.drop k) = 0 :: st := HDRK.out.trans (evs_fls hkd)
        rw [hkd] at c0
        clear hkd c1
        have HEK := Lib.hid he
        clear he
        obtain ⟨AS, nS, cS, hb, hO⟩ := HBS.out
        have k7 : wr.cell? ⟨w.heap.size + 1, 0, none⟩ = some (.slice AS nS cS) := by rw [blk_cell hb]; rfl
        have k7' : ∀ o, (wr.alloc o).cell? ⟨w.heap.size + 1, 0, none⟩ = some (.slice AS nS cS) := fun o => by rw [blk_cell ((((Grew.refl wr).alloc o).block (blk_lt hb)).trans hb)]; rfl
        have HBT := Lib.hid hb
        have HOT := Lib.hid hO
        have HZA := Lib.hid (fun o : Obj => (Nat.le_trans HZ.out (((Grew.refl wr).alloc o).size) : w.heap.size + 2 ≤ (wr.alloc o).heap.size))
        have HOA := Lib.hid (fun o : Obj => (hO.grew ((Grew.refl wr).alloc o) : OwnI (wr.alloc o) (w.heap.size + 2) (.slice AS nS cS) (sk st)))
        clear hb hO
        go_wp2_with (first
          | (at_builtin
             refine wpList_appB (w.heap.size + 2) _ _ rfl rfl (.slice AS nS cS) (sk st) rfl (HOA.out _) (HZA.out _) (.slice (some ⟨wr.heap.size, 0, none⟩) 1 1) ((0 : Nat) : Int) rfl (rd_litI wr _ _) (by rw [sk_len]; exact HL1.out) ?_
             intro v8 w8 hown8 hg8
             obtain ⟨A8, c8, rfl⟩ := ints_slice hown8.ints
             rw [List.length_append, List.length_singleton] at hown8
             have hne8 : some (w.heap.size + 1) ≠ (Value.slice AS nS cS).ownBlock := fun he => by have := own_of_ge HOT.out he.symm; omega
             have hne9 : some w.heap.size ≠ (Value.slice AS nS cS).ownBlock := fun he => by have := own_of_ge HOT.out he.symm; omega
             have hb8 := (hg8.block _ (Nat.lt_of_lt_of_le (show w.heap.size + 1 < w.heap.size + 2 by omega) (HZA.out _)) hne8).trans ((((Grew.refl wr).alloc _).block (blk_lt HBT.out)).trans HBT.out)
             have hp8 := (hg8.block _ (Nat.lt_of_lt_of_le (show w.heap.size < w.heap.size + 2 by omega) (HZA.out _)) hne9).trans ((((Grew.refl wr).alloc _).block (blk_lt HP.out)).trans HP.out)
             have k8 : w8.cell? ⟨w.heap.size + 1, 0, none⟩ = some (.slice AS nS cS) := by rw [blk_cell hb8]; rfl
             have f8 := blk_frozen hb8 0
             have hG8 : Grew w w8 := (HG.out.alloc _).grown hg8 (fun g hg => by have := own_of_ge HOT.out hg; omega)
             have hz8 : w.heap.size + 2 ≤ w8.heap.size := Nat.le_trans (HZA.out _) hg8.size
             have HFIN := Lib.hid (show Hid ((w8.setCell ⟨w.heap.size + 1, 0, none⟩ (.slice A8 ((sk st).length + 1) c8)).heap[w.heap.size]? = some (.cells #[.int .i64 (NA : Int), .slice A' NA c] 63 (0, 0))) ∧ Hid (Stk (w8.setCell ⟨w.heap.size + 1, 0, none⟩ (.slice A8 ((sk st).length + 1) c8)) (w.heap.size + 1) (w.heap.size + 2) (ev A V (xs.drop k))) ∧ Hid (Grew w (w8.setCell ⟨w.heap.size + 1, 0, none⟩ (.slice A8 ((sk st).length + 1) c8))) ∧ Hid (w.heap.size + 2 ≤ (w8.setCell ⟨w.heap.size + 1, 0, none⟩ (.slice A8 ((sk st).length + 1) c8)).heap.size) from by
               have hon : Only (w.heap.size + 1) w8 (w8.setCell ⟨w.heap.size + 1, 0, none⟩ (.slice A8 ((sk st).length + 1) c8)) := (Only.refl _ _).setCell _
               refine ⟨Lib.hid ((hon.block (by omega) (by omega)).trans hp8), Lib.hid ⟨_, _, _, blk_set hb8 0 _, ?_⟩, Lib.hid (hG8.setCell (show w.heap.size ≤ w.heap.size + 1 by omega) _), Lib.hid (Nat.le_trans hz8 hon.size)⟩
               rw [HEK.out, sk_cons]
               exact own_only hown8 hon (fun he => by have := own_of_ge hown8 he; omega))
             clear hb8 hp8 hG8 hz8 hown8 hg8 hne8 hne9 k7 k7'))
        go_roundw
        case rel => exact ⟨k, by omega, rfl, HFIN.out⟩
        case measure => simp [intOf] <;> omega
      · obtain ⟨x, y, r, rfl⟩ := two_at (HF.out (.inl hkd))
        have he : ev A V (xs.drop k) = (x &&& y) :: r := HDRK.out.trans (evs_and hkd)
        have hx := HSMK.out x (by simp)
        have hy := HSMK.out y (by simp)
        have hxy := and_i64 x y (by omega) (by omega)
        have hlr : r.length ≤ 1048576 := by have := HL1.out; simp only [List.length_cons] at this; omega
        rw [hkd] at c0
        clear hkd c1 hx hy
        have HEK := Lib.hid he
        clear he
        generalize (x &&& y : Nat) = z at *
        have HP1 := Lib.hid (pop_c (w.heap.size + 1) x (y :: r) (w.heap.size + 2) wr HBS.out (by omega))
        have HP2 := Lib.hid (fun W hW => pop_c (w.heap.size + 1) y r (w.heap.size + 2) W hW (by omega))
        go_wp2_with fail
        refine HP1.out.mono ?_
        rintro e w2 ⟨rfl, hS2, hO2⟩
        have hp2 := (hO2.block (blk_lt HP.out) (by omega)).trans HP.out
        have hG2 := hO2.grew_of HG.out (by omega)
        have hz2 := hO2.size
        clear hO2
        go_wp2_with fail
        refine (HP2.out _ hS2).mono ?_
        rintro e w3 ⟨rfl, hS3, hO3⟩
        have hp3 := (hO3.block (blk_lt hp2) (by omega)).trans hp2
        have hG3 := hO3.grew_of hG2 (by omega)
        have hz3 := hO3.size
        have HG3 := Lib.hid hG3
        have HP3 := Lib.hid hp3
        have HZ3 := Lib.hid (Nat.le_trans HZ.out (Nat.le_trans hz2 hz3))
        have HS3 := Lib.hid hS3
        clear hO3 hS2 hS3 hp2 hp3 hG2 hG3 hz2 hz3 HBS HP HG HZ
        obtain ⟨AS, nS, cS, hb, hO⟩ := HS3.out
        have k7 : w3.cell? ⟨w.heap.size + 1, 0, none⟩ = some (.slice AS nS cS) := by rw [blk_cell hb]; rfl
        have k7' : ∀ o, (w3.alloc o).cell? ⟨w.heap.size + 1, 0, none⟩ = some (.slice AS nS cS) := fun o => by rw [blk_cell ((((Grew.refl w3).alloc o).block (blk_lt hb)).trans hb)]; rfl
        have HBT := Lib.hid hb
        have HOT := Lib.hid hO
        have HZA := Lib.hid (fun o : Obj => (Nat.le_trans HZ3.out (((Grew.refl w3).alloc o).size) : w.heap.size + 2 ≤ (w3.alloc o).heap.size))
        have HOA := Lib.hid (fun o : Obj => (hO.grew ((Grew.refl w3).alloc o) : OwnI (w3.alloc o) (w.heap.size + 2) (.slice AS nS cS) (sk r)))
        clear hb hO
        go_wp2_with (first
          | (at_builtin
             refine wpList_appB (w.heap.size + 2) _ _ rfl rfl (.slice AS nS cS) (sk r) rfl (HOA.out _) (HZA.out _) (.slice (some ⟨w3.heap.size, 0, none⟩) 1 1) ((z : Nat) : Int) rfl (rd_litI w3 _ _) (by rw [sk_len]; exact hlr) ?_
             intro v8 w8 hown8 hg8
             obtain ⟨A8, c8, rfl⟩ := ints_slice hown8.ints
             rw [List.length_append, List.length_singleton] at hown8
             have hne8 : some (w.heap.size + 1) ≠ (Value.slice AS nS cS).ownBlock := fun he => by have := own_of_ge HOT.out he.symm; omega
             have hne9 : some w.heap.size ≠ (Value.slice AS nS cS).ownBlock := fun he => by have := own_of_ge HOT.out he.symm; omega
             have hb8 := (hg8.block _ (Nat.lt_of_lt_of_le (show w.heap.size + 1 < w.heap.size + 2 by omega) (HZA.out _)) hne8).trans ((((Grew.refl w3).alloc _).block (blk_lt HBT.out)).trans HBT.out)
             have hp8 := (hg8.block _ (Nat.lt_of_lt_of_le (show w.heap.size < w.heap.size + 2 by omega) (HZA.out _)) hne9).trans ((((Grew.refl w3).alloc _).block (blk_lt HP3.out)).trans HP3.out)
             have k8 : w8.cell? ⟨w.heap.size + 1, 0, none⟩ = some (.slice AS nS cS) := by rw [blk_cell hb8]; rfl
             have f8 := blk_frozen hb8 0
             have hG8 : Grew w w8 := (HG3.out.alloc _).grown hg8 (fun g hg => by have := own_of_ge HOT.out hg; omega)
             have hz8 : w.heap.size + 2 ≤ w8.heap.size := Nat.le_trans (HZA.out _) hg8.size
             have HFIN := Lib.hid (show Hid ((w8.setCell ⟨w.heap.size + 1, 0, none⟩ (.slice A8 ((sk r).length + 1) c8)).heap[w.heap.size]? = some (.cells #[.int .i64 (NA : Int), .slice A' NA c] 63 (0, 0))) ∧ Hid (Stk (w8.setCell ⟨w.heap.size + 1, 0, none⟩ (.slice A8 ((sk r).length + 1) c8)) (w.heap.size + 1) (w.heap.size + 2) (ev A V (xs.drop k))) ∧ Hid (Grew w (w8.setCell ⟨w.heap.size + 1, 0, none⟩ (.slice A8 ((sk r).length + 1) c8))) ∧ Hid (w.heap.size + 2 ≤ (w8.setCell ⟨w.heap.size + 1, 0, none⟩ (.slice A8 ((sk r).length + 1) c8)).heap.size) from by
               have hon : Only (w.heap.size + 1) w8 (w8.setCell ⟨w.heap.size + 1, 0, none⟩ (.slice A8 ((sk r).length + 1) c8)) := (Only.refl _ _).setCell _
               refine ⟨Lib.hid ((hon.block (by omega) (by omega)).trans hp8), Lib.hid ⟨_, _, _, blk_set hb8 0 _, ?_⟩, Lib.hid (hG8.setCell (show w.heap.size ≤ w.heap.size + 1 by omega) _), Lib.hid (Nat.le_trans hz8 hon.size)⟩
               rw [HEK.out, sk_cons]
               exact own_only hown8 hon (fun he => by have := own_of_ge hown8 he; omega))
             clear hb8 hp8 hG8 hz8 hown8 hg8 hne8 hne9 k7 k7'))
        go_roundw
        case rel => exact ⟨k, by omega, rfl, HFIN.out⟩
        case measure => simp [intOf] <;> omega
      · obtain ⟨x, y, r, rfl⟩ := two_at (HF.out (.inr (.inl hkd)))
        have he : ev A V (xs.drop k) = (x ||| y) :: r := HDRK.out.trans (evs_or hkd)
        have hx := HSMK.out x (by simp)
        have hy := HSMK.out y (by simp)
        have hxy := or_i64 x y (by omega) (by omega)
        have hlr : r.length ≤ 1048576 := by have := HL1.out; simp only [List.length_cons] at this; omega
        rw [hkd] at c0
        clear hkd c1 hx hy
        have HEK := Lib.hid he
        clear he
        generalize (x ||| y : Nat) = z at *
        have HP1 := Lib.hid (pop_c (w.heap.size + 1) x (y :: r) (w.heap.size + 2) wr HBS.out (by omega))
        have HP2 := Lib.hid (fun W hW => pop_c (w.heap.size + 1) y r (w.heap.size + 2) W hW (by omega))
        go_wp2_with fail
        refine HP1.out.mono ?_
        rintro e w2 ⟨rfl, hS2, hO2⟩
        have hp2 := (hO2.block (blk_lt HP.out) (by omega)).trans HP.out
        have hG2 := hO2.grew_of HG.out (by omega)
        have hz2 := hO2.size
        clear hO2
        go_wp2_with fail
        refine (HP2.out _ hS2).mono ?_
        rintro e w3 ⟨rfl, hS3, hO3⟩
        have hp3 := (hO3.block (blk_lt hp2) (by omega)).trans hp2
        have hG3 := hO3.grew_of hG2 (by omega)
        have hz3 := hO3.size
        have HG3 := Lib.hid hG3
        have HP3 := Lib.hid hp3
        have HZ3 := Lib.hid (Nat.le_trans HZ.out (Nat.le_trans hz2 hz3))
        have HS3 := Lib.hid hS3
        clear hO3 hS2 hS3 hp2 hp3 hG2 hG3 hz2 hz3 HBS HP HG HZ
        obtain ⟨AS, nS, cS, hb, hO⟩ := HS3.out
        have k7 : w3.cell? ⟨w.heap.size + 1, 0, none⟩ = some (.slice AS nS cS) := by rw [blk_cell hb]; rfl
        have k7' : ∀ o, (w3.alloc o).cell? ⟨w.heap.size + 1, 0, none⟩ = some (.slice AS nS cS) := fun o => by rw [blk_cell ((((Grew.refl w3).alloc o).block (blk_lt hb)).trans hb)]; rfl
        have HBT := Lib.hid hb
        have HOT := Lib.hid hO
        have HZA := Lib.hid (fun o : Obj => (Nat.le_trans HZ3.out (((Grew.refl w3).alloc o).size) : w.heap.size + 2 ≤ (w3.alloc o).heap.size))
        have HOA := Lib.hid (fun o : Obj => (hO.grew ((Grew.refl w3).alloc o) : OwnI (w3.alloc o) (w.heap.size + 2) (.slice AS nS cS) (sk r)))
        clear hb hO
        go_wp2_with (first
          | (at_builtin
             refine wpList_appB (w.heap.size + 2) _ _ rfl rfl (.slice AS nS cS) (sk r) rfl (HOA.out _) (HZA.out _) (.slice (some ⟨w3.heap.size, 0, none⟩) 1 1) ((z : Nat) : Int) rfl (rd_litI w3 _ _) (by rw [sk_len]; exact hlr) ?_
             intro v8 w8 hown8 hg8
             obtain ⟨A8, c8, rfl⟩ := ints_slice hown8.ints
             rw [List.length_append, List.length_singleton] at hown8
             have hne8 : some (w.heap.size + 1) ≠ (Value.slice AS nS cS).ownBlock := fun he => by have := own_of_ge HOT.out he.symm; omega
             have hne9 : some w.heap.size ≠ (Value.slice AS nS cS).ownBlock := fun he => by have := own_of_ge HOT.out he.symm; omega
             have hb8 := (hg8.block _ (Nat.lt_of_lt_of_le (show w.heap.size + 1 < w.heap.size + 2 by omega) (HZA.out _)) hne8).trans ((((Grew.refl w3).alloc _).block (blk_lt HBT.out)).trans HBT.out)
             have hp8 := (hg8.block _ (Nat.lt_of_lt_of_le (show w.heap.size < w.heap.size + 2 by omega) (HZA.out _)) hne9).trans ((((Grew.refl w3).alloc _).block (blk_lt HP3.out)).trans HP3.out)
             have k8 : w8.cell? ⟨w.heap.size + 1, 0, none⟩ = some (.slice AS nS cS) := by rw [blk_cell hb8]; rfl
             have f8 := blk_frozen hb8 0
             have hG8 : Grew w w8 := (HG3.out.alloc _).grown hg8 (fun g hg => by have := own_of_ge HOT.out hg; omega)
             have hz8 : w.heap.size + 2 ≤ w8.heap.size := Nat.le_trans (HZA.out _) hg8.size
             have HFIN := Lib.hid (show Hid ((w8.setCell ⟨w.heap.size + 1, 0, none⟩ (.slice A8 ((sk r).length + 1) c8)).heap[w.heap.size]? = some (.cells #[.int .i64 (NA : Int), .slice A' NA c] 63 (0, 0))) ∧ Hid (Stk (w8.setCell ⟨w.heap.size + 1, 0, none⟩ (.slice A8 ((sk r).length + 1) c8)) (w.heap.size + 1) (w.heap.size + 2) (ev A V (xs.drop k))) ∧ Hid (Grew w (w8.setCell ⟨w.heap.size + 1, 0, none⟩ (.slice A8 ((sk r).length + 1) c8))) ∧ Hid (w.heap.size + 2 ≤ (w8.setCell ⟨w.heap.size + 1, 0, none⟩ (.slice A8 ((sk r).length + 1) c8)).heap.size) from by
               have hon : Only (w.heap.size + 1) w8 (w8.setCell ⟨w.heap.size + 1, 0, none⟩ (.slice A8 ((sk r).length + 1) c8)) := (Only.refl _ _).setCell _
               refine ⟨Lib.hid ((hon.block (by omega) (by omega)).trans hp8), Lib.hid ⟨_, _, _, blk_set hb8 0 _, ?_⟩, Lib.hid (hG8.setCell (show w.heap.size ≤ w.heap.size + 1 by omega) _), Lib.hid (Nat.le_trans hz8 hon.size)⟩
               rw [HEK.out, sk_cons]
               exact own_only hown8 hon (fun he => by have := own_of_ge hown8 he; omega))
             clear hb8 hp8 hG8 hz8 hown8 hg8 hne8 hne9 k7 k7'))
        go_roundw
        case rel => exact ⟨k, by omega, rfl, HFIN.out⟩
        case measure => simp [intOf] <;> omega
      · obtain ⟨x, y, r, rfl⟩ := two_at (HF.out (.inr (.inr hkd)))
        have he : ev A V (xs.drop k) = ar A x y :: r := HDRK.out.trans (evs_imp hkd)
        have hx := HSMK.out x (by simp)
        have hy := HSMK.out y (by simp)
        have KIm := Lib.hid (fun W hW => KI.out x y W hW hx hy)
        have hlr : r.length ≤ 1048576 := by have := HL1.out; simp only [List.length_cons] at this; omega
        rw [hkd] at c0
        clear hkd c1 hx hy
        have HEK := Lib.hid he
        clear he
        generalize ar A x y = z at *
        have HP1 := Lib.hid (pop_c (w.heap.size + 1) x (y :: r) (w.heap.size + 2) wr HBS.out (by omega))
        have HP2 := Lib.hid (fun W hW => pop_c (w.heap.size + 1) y r (w.heap.size + 2) W hW (by omega))
        go_wp2_with fail
        refine HP1.out.mono ?_
        rintro e w2 ⟨rfl, hS2, hO2⟩
        have hp2 := (hO2.block (blk_lt HP.out) (by omega)).trans HP.out
        have hG2 := hO2.grew_of HG.out (by omega)
        have hz2 := Nat.le_trans HZ.out hO2.size
        have HP2w := Lib.hid hp2
        have HG2 := Lib.hid hG2
        have HZ2 := Lib.hid hz2
        have HS2 := Lib.hid hS2
        have d0 : ∀ W, Only (w.heap.size + 1) w2 W → W.cell? ⟨w.heap.size, 0, none⟩ = some (.int .i64 (NA : Int)) := fun W hW => by rw [blk_cell ((hW.block (blk_lt HP2w.out) (by omega)).trans HP2w.out)]; rfl
        have d1 : ∀ W, Only (w.heap.size + 1) w2 W → W.cell? ⟨w.heap.size, 1, none⟩ = some (.slice A' NA c) := fun W hW => by rw [blk_cell ((hW.block (blk_lt HP2w.out) (by omega)).trans HP2w.out)]; rfl
        have ho2 : Only (w.heap.size + 1) w2 w2 := Only.refl _ _
        have ho2d : Only (w.heap.size + 1) w2 w2.drew := ho2.drew
        have HSD : Hid (Stk w2.drew (w.heap.size + 1) (w.heap.size + 2) (y :: r)) := Lib.hid (hS2.grew (Grew.refl _).drew)
        clear hO2 hp2 hG2 hz2 hS2
        go_wp2_with fail
        refine wp_region_held_drew (S := fun w' => Only (w.heap.size + 1) w2 w') (by kernel_rfl) ho2d (fun hHeld => ?_)
        refine wpAnyH_take (i := 0) (oi := ?on1) (v := ?vn1) ?hin1 ?an1 ?bn1 ?cn1 ?qn1 (Or.inl ⟨?dn1, ?hyn1⟩) hHeld ?restn1
        case hin1 => (simp only [List.getElem?_toArray, List.getElem?_cons_zero]; exact rfl)
        case an1 => kernel_rfl
        case bn1 => kernel_rfl
        case cn1 => kernel_rfl
        case qn1 => exact fun _ _ _ h => h
        case dn1 => rfl
        case hyn1 => (intro z hSw; (try dsimp only at hSw); go_simp; (try with_reducible rfl))
        try simp only [Act.put, List.setIfInBounds_toArray, List.set_cons_zero, List.set_cons_succ]
        refine wpAnyH_take (i := 1) (oi := ?on2) (v := ?vn2) ?hin2 ?an2 ?bn2 ?cn2 ?qn2 (Or.inl ⟨?dn2, ?hyn2⟩) hHeld ?restn2
        case hin2 => (simp only [List.getElem?_toArray, List.getElem?_cons_succ, List.getElem?_cons_zero]; exact rfl)
        case an2 => kernel_rfl
        case bn2 => kernel_rfl
        case cn2 => kernel_rfl
        case qn2 => exact fun _ _ _ h => h
        case dn2 => rfl
        case hyn2 => (intro z hSw; (try dsimp only at hSw); go_simp; (try with_reducible rfl))
        try simp only [Act.put, List.setIfInBounds_toArray, List.set_cons_zero, List.set_cons_succ]
        refine wpAnyH_take (i := 2) (oi := ?on3) (v := ?vn3) ?hin3 ?an3 ?bn3 ?cn3 ?qn3 (Or.inl ⟨?dn3, ?hyn3⟩) hHeld ?restn3
        case hin3 => (simp only [List.getElem?_toArray, List.getElem?_cons_succ, List.getElem?_cons_zero]; exact rfl)
        case an3 => kernel_rfl
        case bn3 => kernel_rfl
        case cn3 => kernel_rfl
        case qn3 => exact fun _ _ _ h => h
        case dn3 => rfl
        case hyn3 => (intro z hSw; (try dsimp only at hSw); go_simp; (try with_reducible rfl))
        try simp only [Act.put, List.setIfInBounds_toArray, List.set_cons_zero, List.set_cons_succ]
        refine wpAnyH_ready (rs := [3]) (by kernel_rfl) (by simp) ?_
        refine AllReadyH.cons (o := ?on4) ?hin4 ?restn4 AllReadyH.nil
        case hin4 => (simp only [List.getElem?_toArray, List.getElem?_cons_succ, List.getElem?_cons_zero]; exact rfl)
        intro K hK
        go_simp
        go_at_call 104
        refine (HP2.out _ HSD.out).mono ?_
        rintro e w3 ⟨rfl, hS3, hO3⟩
        have ho3 : Only (w.heap.size + 1) w2 w3 := ho2d.trans hO3
        refine hK.out _ _ ?_ (fun hHeld => ?_)
        · (try dsimp only); first | with_reducible assumption | exact Grew.alloc ‹_› _
        clear hK K
        try simp only [Act.put, List.setIfInBounds_toArray, List.set_cons_zero, List.set_cons_succ]
        refine wpAnyH_ready (rs := [4]) (by kernel_rfl) (by simp) ?_
        refine AllReadyH.cons (o := ?on5) ?hin5 ?restn5 AllReadyH.nil
        case hin5 => (simp only [List.getElem?_toArray, List.getElem?_cons_succ, List.getElem?_cons_zero]; exact rfl)
        intro K hK
        go_simp
        go_at_call 105
        refine (KIm.out _ (ho3.grew_of HG2.out (by omega))).mono ?_
        rintro e w4 ⟨rfl, hg4⟩
        have ho4 : Only (w.heap.size + 1) w2 w4 := ho3.grew hg4
        refine hK.out _ _ ?_ (fun hHeld => ?_)
        · (try dsimp only); first | with_reducible assumption | exact Grew.alloc ‹_› _
        clear hK K
        try simp only [Act.put, List.setIfInBounds_toArray, List.set_cons_zero, List.set_cons_succ]
        refine wpAnyH_take (i := 5) (oi := ?on6) (v := ?vn6) ?hin6 ?an6 ?bn6 ?cn6 ?qn6 (Or.inl ⟨?dn6, ?hyn6⟩) hHeld ?restn6
        case hin6 => (simp only [List.getElem?_toArray, List.getElem?_cons_succ, List.getElem?_cons_zero]; exact rfl)
        case an6 => kernel_rfl
        case bn6 => kernel_rfl
        case cn6 => kernel_rfl
        case qn6 => exact fun _ _ _ h => h
        case dn6 => rfl
        case hyn6 => (intro z hSw; (try dsimp only at hSw); go_simp; (try with_reducible rfl))
        try simp only [Act.put, List.setIfInBounds_toArray, List.set_cons_zero, List.set_cons_succ]
        refine wpAnyH_done (by kernel_rfl) ?_ _
        have hp3 := (ho4.block (blk_lt HP2w.out) (by omega)).trans HP2w.out
        have HG3 := Lib.hid (ho4.grew_of HG2.out (by omega))
        have HP3 := Lib.hid hp3
        have HZ3 := Lib.hid (Nat.le_trans HZ2.out ho4.size)
        have HS3 := Lib.hid (hS3.grew hg4)
        clear hO3 hS3 hp3 HBS HP HG HZ HS2 HG2 HZ2 HSD ho4 ho3 ho2 ho2d d0 d1 HP2w hg4
        obtain ⟨AS, nS, cS, hb, hO⟩ := HS3.out
        have k7 : w4.cell? ⟨w.heap.size + 1, 0, none⟩ = some (.slice AS nS cS) := by rw [blk_cell hb]; rfl
        have k7' : ∀ o, (w4.alloc o).cell? ⟨w.heap.size + 1, 0, none⟩ = some (.slice AS nS cS) := fun o => by rw [blk_cell ((((Grew.refl w4).alloc o).block (blk_lt hb)).trans hb)]; rfl
        have HBT := Lib.hid hb
        have HOT := Lib.hid hO
        have HZA := Lib.hid (fun o : Obj => (Nat.le_trans HZ3.out (((Grew.refl w4).alloc o).size) : w.heap.size + 2 ≤ (w4.alloc o).heap.size))
        have HOA := Lib.hid (fun o : Obj => (hO.grew ((Grew.refl w4).alloc o) : OwnI (w4.alloc o) (w.heap.size + 2) (.slice AS nS cS) (sk r)))
        clear hb hO
        go_wp2_with (first
          | (at_builtin
             refine wpList_appB (w.heap.size + 2) _ _ rfl rfl (.slice AS nS cS) (sk r) rfl (HOA.out _) (HZA.out _) (.slice (some ⟨w4.heap.size, 0, none⟩) 1 1) ((z : Nat) : Int) rfl (rd_litI w4 _ _) (by rw [sk_len]; exact hlr) ?_
             intro v8 w8 hown8 hg8
             obtain ⟨A8, c8, rfl⟩ := ints_slice hown8.ints
             rw [List.length_append, List.length_singleton] at hown8
             have hne8 : some (w.heap.size + 1) ≠ (Value.slice AS nS cS).ownBlock := fun he => by have := own_of_ge HOT.out he.symm; omega
             have hne9 : some w.heap.size ≠ (Value.slice AS nS cS).ownBlock := fun he => by have := own_of_ge HOT.out he.symm; omega
             have hb8 := (hg8.block _ (Nat.lt_of_lt_of_le (show w.heap.size + 1 < w.heap.size + 2 by omega) (HZA.out _)) hne8).trans ((((Grew.refl w4).alloc _).block (blk_lt HBT.out)).trans HBT.out)
             have hp8 := (hg8.block _ (Nat.lt_of_lt_of_le (show w.heap.size < w.heap.size + 2 by omega) (HZA.out _)) hne9).trans ((((Grew.refl w4).alloc _).block (blk_lt HP3.out)).trans HP3.out)
             have k8 : w8.cell? ⟨w.heap.size + 1, 0, none⟩ = some (.slice AS nS cS) := by rw [blk_cell hb8]; rfl
             have f8 := blk_frozen hb8 0
             have hG8 : Grew w w8 := (HG3.out.alloc _).grown hg8 (fun g hg => by have := own_of_ge HOT.out hg; omega)
             have hz8 : w.heap.size + 2 ≤ w8.heap.size := Nat.le_trans (HZA.out _) hg8.size
             have HFIN := Lib.hid (show Hid ((w8.setCell ⟨w.heap.size + 1, 0, none⟩ (.slice A8 ((sk r).length + 1) c8)).heap[w.heap.size]? = some (.cells #[.int .i64 (NA : Int), .slice A' NA c] 63 (0, 0))) ∧ Hid (Stk (w8.setCell ⟨w.heap.size + 1, 0, none⟩ (.slice A8 ((sk r).length + 1) c8)) (w.heap.size + 1) (w.heap.size + 2) (ev A V (xs.drop k))) ∧ Hid (Grew w (w8.setCell ⟨w.heap.size + 1, 0, none⟩ (.slice A8 ((sk r).length + 1) c8))) ∧ Hid (w.heap.size + 2 ≤ (w8.setCell ⟨w.heap.size + 1, 0, none⟩ (.slice A8 ((sk r).length + 1) c8)).heap.size) from by
               have hon : Only (w.heap.size + 1) w8 (w8.setCell ⟨w.heap.size + 1, 0, none⟩ (.slice A8 ((sk r).length + 1) c8)) := (Only.refl _ _).setCell _
               refine ⟨Lib.hid ((hon.block (by omega) (by omega)).trans hp8), Lib.hid ⟨_, _, _, blk_set hb8 0 _, ?_⟩, Lib.hid (hG8.setCell (show w.heap.size ≤ w.heap.size + 1 by omega) _), Lib.hid (Nat.le_trans hz8 hon.size)⟩
               rw [HEK.out, sk_cons]
               exact own_only hown8 hon (fun he => by have := own_of_ge hown8 he; omega))
             clear hb8 hp8 hG8 hz8 hown8 hg8 hne8 hne9 k7 k7'))
        go_roundw
        case rel => exact ⟨k, by omega, rfl, HFIN.out⟩
        case measure => simp [intOf] <;> omega
theorem forced_c (v u va : Value) (A V : List Nat) (t : Tree) (w : World) (h : Ints w v (zs A)) (hu : Ints w u (zs V)) (ha : Nodes w va (Fm.enc t)) (hA : Rl A) (hV : ∀ m ∈ V, m < 2 ^ A.length) (hl : V.length = 6) (ht : FmOk t) :
    Calls Tryz.prog 82 #[.agg #[.int .i64 (A.length : Int), v], u, va] w fun e w' => e = .returned (.int .i64 ((fv A V t : Nat) : Int)) ∧ Grew w w' :=
  forced_g v u va A V t w h hu ha hA hV (by omega) (by omega) (fun i hi hk => by
    rcases enc_kinds ht.2 hi with ⟨_, s, h2, h3⟩ | h2
    · rw [h2, hl]; omega
    · omega) ht
end Go.Proofs.YtefkgomecpnpbaaGreat

/- The ladder and the sets of indices: of the program. -/
namespace Go.Proofs.YtefkgomecpnpbaaGreat
open Go.RowKit
open Fm (Nd Tree)

theorem ladK_len : ∀ j, (ladK j).length = j
  | 0 => rfl
  | j + 1 => by rw [ladK, List.length_append, ladK_len j]; rfl
theorem ladK_lt : ∀ j, j ≤ 28 → ∀ m ∈ ladK j, m < 2 ^ 28 := by decide +kernel
theorem ladK_nt {j i : Nat} (h : j ≤ 28) : nt (ladK j) i < 2 ^ 28 := by
  by_cases hi : i < (ladK j).length
  · exact ladK_lt j h _ (nt_mem hi)
  · unfold nt; rw [List.getD_eq_getElem?_getD, List.getElem?_eq_none (by omega)]; decide
theorem ladX_2 (L : List Nat) : ladX L 2 = 2 ^ 2 ||| nt L 0 := rfl
theorem ladX_3 (L : List Nat) (i : Nat) : ladX L (i + 3) = 2 ^ (i + 3) ||| (nt L (i + 1) ||| nt L i) := by
  unfold ladX
  rw [if_neg (by omega), if_pos (by omega)]
  rfl
theorem ladX_1 (L : List Nat) {x : Nat} (h : x < 2) : ladX L x = 2 ^ x := by
  unfold ladX
  rw [if_neg (by omega), if_neg (by omega)]
theorem ladK_next (j : Nat) : zs (ladK (j + 1)) = zs (ladK j) ++ [((ladX (ladK j) j : Nat) : Int)] := by rw [ladK, zs_append]; rfl

set_option maxHeartbeats 2000000 in
set_option maxRecDepth 20000 in
theorem ladder_c (w : World) : Calls Tryz.prog 81 #[.int .i64 28] w (GivesPs w (zs lad)) := by
  have hinfo := info2P
  have HO := Lib.hid posetOf_c
  have HK := Lib.hid ladK_next
  have HE : Hid (zs lad = zs (ladK 28)) := Lib.hid (by rw [lad_eq])
  have HLEN := Lib.hid (fun j => (by rw [zs_len, ladK_len] : (zs (ladK j)).length = j))
  have HLN := Lib.hid (fun j i (h : j ≤ 28) => @ladK_nt j i h)
  have HX3 := Lib.hid (fun j i => ladX_3 (ladK j) i)
  have HX1 := Lib.hid (fun j (h : j < 2) => ladX_1 (ladK j) h)
  have HZ : Hid (zs (ladK 0) = []) := Lib.hid rfl
  obtain ⟨w1, hw1⟩ : ∃ w1, w1 = w.alloc (.cells #[.int .i64 0, .slice none 0 0] 63) := ⟨_, rfl⟩
  have hg1 : Grew w w1 := by rw [hw1]; exact (Grew.refl w).alloc _
  have hb1 : w1.heap[w.heap.size]? = some (.cells #[.int .i64 0, .slice none 0 0] 63 (0, 0)) := by rw [hw1]; exact blk_new w _
  have HG1 := Lib.hid hg1
  have HB1 := Lib.hid hb1
  have hsz : w1.heap.size = w.heap.size + 1 := by rw [hw1]; simp
  have HSZ := Lib.hid hsz
  clear hg1 hb1 hsz
  generalize zs lad = R at *
  go_enter Tryz.func81, Tryz.ntmps81
  go_wp2_with fail
  simp only [← hw1]
  clear hw1
  go_loopw [3, 4, 5, 7] (fun s _ _ i wr => ∃ j : Nat, j ≤ 28 ∧ i = .int .i64 (j : Int) ∧ OwnI wr w1.heap.size s (zs (ladK j)) ∧ Grew w1 wr) (fun _ _ _ i _ => 28 - (intOf i).toNat)
  case atStart => exact ⟨0, by omega, rfl, by rw [HZ.out]; exact OwnI.nil_ _ _, Grew.refl _⟩
  case round =>
    obtain ⟨j, hj, rfl, hOw, hB⟩ := hrel
    by_cases hlt : j < 28
    · have hlen := Lib.hid (HLEN.out j)
      have hkn := Lib.hid (HK.out j)
      have hp := wrap_pow (k := j) (by omega)
      have hpl : (2 : Nat) ^ j < 2 ^ 28 := Nat.pow_lt_pow_right (by omega) hlt
      have HOR := Lib.hid (fun a b (ha : a < 2 ^ 28) (hb : b < 2 ^ 28) => or_i64 a b (by omega) (by omega))
      have HORL := Lib.hid (fun a b (ha : a < 2 ^ 28) (hb : b < 2 ^ 28) => (or_n ha hb : a ||| b < 2 ^ 28))
      obtain ⟨A, c, hs⟩ := ints_sliceN hOw.ints
      rw [ladK_len] at hs
      subst hs
      have HO1 := Lib.hid hOw
      have hi3 := hOw.ints
      have HCE := Lib.hid (fun h0 => cellsN (L := ladK j) (c := c) (A := A) (by rw [ladK_len]; exact hi3) h0)
      rw [ladK_len] at HCE
      clear hOw hi3
      by_cases h1 : j < 2
      · have hx := HX1.out j h1
        rw [hx] at hkn
        generalize (2 ^ j : Nat) = p at *
        clear hx
        have hj2 : ¬ (j : Int) = 2 := by omega
        have hj3 : ¬ (2 : Int) < (j : Int) := by omega
        go_wp2_with (first | (at_builtin; refine wpList_appI (w0 := w1) _ _ rfl rfl _ (zs (ladK j)) rfl (HO1.out.grew (Grew.alloc (Grew.refl _) _)) (hB.alloc _) _ ((p : Nat) : Int) rfl (rd_litI _ _ _) (by have := hlen.out; omega) ?_; intro v2 w3 hO2 hg3 _))
        go_roundw
        case rel => exact ⟨j + 1, by omega, by go_num, by rw [hkn.out]; exact hO2, hg3⟩
        case measure => simp [intOf]; omega
      by_cases h2 : j = 2
      · subst h2
        have hx : ladX (ladK 2) 2 = 5 := by decide
        rw [hx] at hkn
        obtain ⟨b, o, rfl, hcell⟩ := HCE.out (by omega)
        have k0 : wr.cell? ⟨b, o, none⟩ = some (.int .i64 1) := hcell 0 (by omega) _ (Grew.refl wr)
        have ho : bits .or .i64 4 1 = 5 := by decide
        clear hcell hp hpl hx h1
        go_wp2_with (first | (at_builtin; refine wpList_appI (w0 := w1) _ _ rfl rfl _ (zs (ladK 2)) rfl (HO1.out.grew (Grew.alloc (Grew.refl _) _)) (hB.alloc _) _ (5) rfl (rd_litI _ _ _) (by have := hlen.out; omega) ?_; intro v2 w3 hO2 hg3 _))
        go_roundw
        case rel => exact ⟨3, by omega, by go_num, by rw [hkn.out]; exact hO2, hg3⟩
        case measure => simp [intOf]
      · obtain ⟨i0, hi0⟩ : ∃ i0, j = i0 + 3 := ⟨j - 3, by omega⟩
        obtain ⟨i1, hi1⟩ : ∃ i1, j = i1 + 2 := ⟨j - 2, by omega⟩
        have hx := HX3.out j i0
        rw [← hi0, show i0 + 1 = i1 by omega] at hx
        rw [hx] at hkn
        have l0 := HLN.out j i0 (by omega)
        have l1 := HLN.out j i1 (by omega)
        have o1 := HOR.out _ _ l1 l0
        have l2 := HORL.out _ _ l1 l0
        have o2 := HOR.out _ _ hpl l2
        obtain ⟨b, o, rfl, hcell⟩ := HCE.out (by omega)
        have k0 := hcell i0 (by omega) _ (Grew.refl wr)
        have k1 := hcell i1 (by omega) _ (Grew.refl wr)
        have hw2 : IntKind.i64.wrap ((j : Int) - 2) = (i1 : Int) := by rw [IntKind.wrap_i64]; omega
        have hw3 : IntKind.i64.wrap ((j : Int) - 3) = (i0 : Int) := by rw [IntKind.wrap_i64]; omega
        have hj2 : ¬ (j : Int) = 2 := by omega
        have hj3 : (2 : Int) < (j : Int) := by omega
        have hI0 : (0 : Int) ≤ (i0 : Int) := by omega
        have hI1 : (0 : Int) ≤ (i1 : Int) := by omega
        have hI2 : (i0 : Int) < (j : Int) := by omega
        have hI3 : (i1 : Int) < (j : Int) := by omega
        clear hcell hx h1 h2 hi0 hi1
        generalize nt (ladK j) i0 = q0 at *
        generalize nt (ladK j) i1 = q1 at *
        generalize (2 ^ j : Nat) = p at *
        generalize (q1 ||| q0 : Nat) = q2 at *
        generalize (p ||| q2 : Nat) = q3 at *
        go_wp2_with fail
        go_quiet (fail)
        go_wp2_with (first | (at_builtin; refine wpList_appI (w0 := w1) _ _ rfl rfl _ (zs (ladK j)) rfl (HO1.out.grew (Grew.alloc ((Grew.refl _).drewN _) _)) ((hB.drewN _).alloc _) _ ((q3 : Nat) : Int) rfl (rd_litI _ _ _) (by have := hlen.out; omega) ?_; intro v2 w3 hO2 hg3 _))
        go_roundw
        case rel => exact ⟨j + 1, by omega, by go_num, by rw [hkn.out]; exact hO2, hg3⟩
        case measure => simp [intOf]; omega
    · obtain rfl : j = 28 := by omega
      have HO1 := Lib.hid hOw
      rw [← HE.out] at HO1
      obtain ⟨A, c, hs⟩ := ints_slice HO1.out.ints
      have hR28 : R.length = 28 := by rw [HE.out]; exact HLEN.out 28
      have HR28 := Lib.hid hR28
      rw [hR28] at hs
      subst hs
      clear hOw hR28
      go_wp2_with fail
      refine (HO.out _ R _ HO1.out.ints).mono ?_
      rintro e w2 ⟨rfl, hg2⟩
      rw [HR28.out]
      have hb2 := ((hB.trans hg2).block (blk_lt HB1.out)).trans HB1.out
      have c0 : w2.cell? ⟨w.heap.size, 0, none⟩ = some (.int .i64 0) := by rw [blk_cell hb2]; rfl
      have c1 : w2.cell? ⟨w.heap.size, 1, none⟩ = some (.slice none 0 0) := by rw [blk_cell hb2]; rfl
      have f0 := blk_frozen hb2 0
      have f1 := blk_frozen hb2 1
      have HB2 := Lib.hid hb2
      clear hb2
      go_wp2_with fail
      (try simp only [Exit.inBlock, Exit.then])
      refine bodyPost_ret (results_cell_row rfl _ _ w.heap.size _ _ _ _ rfl (blk_set (blk_set HB2.out 0 _) 1 _) Tryz.underlying63 rfl hinfo) rfl ?_
      refine ⟨_, by rw [HR28.out]; rfl, ?_, ((HG1.out.trans (hB.trans hg2)).setCell (Nat.le_refl _) _).setCell (Nat.le_refl _) _⟩
      exact OwnI.base (own_only (HO1.out.grew hg2) (((Only.refl w.heap.size w2).setCell (o := 0) (.int .i64 28)).setCell (o := 1) (.slice A 28 c)) (fun hh => by have := own_of_ge HO1.out hh; have := HSZ.out; omega)) (by have := HSZ.out; omega)
end Go.Proofs.YtefkgomecpnpbaaGreat

/- isFormula of the program, at any list. -/
namespace Go.Proofs.YtefkgomecpnpbaaGreat
open Go.RowKit
open Fm (Nd Tree)

theorem isVariable_c (k : Int) (w : World) : Calls Tryz.prog 101 #[.int .i64 k] w fun e w' => e = .returned (.bool (decide (0 ≤ k ∧ k ≤ 5))) ∧ Grew w w' := by
  have HR := Lib.hid (inRange_c k 0 5 w)
  generalize decide (0 ≤ k ∧ k ≤ 5) = R at *
  go_enter Tryz.func101, Tryz.ntmps101
  go_wp2_with fail
  refine HR.out.mono ?_
  rintro e w1 ⟨rfl, hg1⟩
  go_wp2_with fail
  go_ret
  exact ⟨rfl, hg1⟩

/-- Is it a node? -/
def nodeB (a b : Int) : Bool := if a == 0 then decide (0 ≤ b ∧ b ≤ 5) else decide (1 ≤ a ∧ a ≤ 6) && b == 0

theorem isNode_c (a b : Int) (w : World) : Calls Tryz.prog 77 #[.agg #[.int .i64 a, .int .i64 b]] w fun e w' => e = .returned (.bool (nodeB a b)) ∧ Grew w w' := by
  unfold nodeB
  cases h0 : (a == 0) with
  | true =>
    rw [if_pos rfl]
    go_enter Tryz.func77, Tryz.ntmps77
    go_wp2_with fail
    refine (isVariable_c _ _).mono ?_
    rintro e w1 ⟨rfl, hg1⟩
    go_wp2_with fail
    go_ret
    exact ⟨by simp, Grew.of_alloc hg1⟩
  | false =>
    rw [if_neg (by simp)]
    have HR := fun w => inRange_c a 1 6 w
    generalize decide (1 ≤ a ∧ a ≤ 6) = R at *
    cases R with
    | true =>
      replace HR := Lib.hid HR
      go_enter Tryz.func77, Tryz.ntmps77
      go_wp2_with fail
      refine (HR.out _).mono ?_
      rintro e w1 ⟨rfl, hg1⟩
      have k1 : w1.cell? ⟨w.heap.size, 1, none⟩ = some (.int .i64 b) := (hg1.cell (by simp)).trans (by simp)
      go_wp2_with fail
      go_ret
      exact ⟨by simp, Grew.of_alloc hg1⟩
    | false =>
      replace HR := Lib.hid HR
      go_enter Tryz.func77, Tryz.ntmps77
      go_wp2_with fail
      refine (HR.out _).mono ?_
      rintro e w1 ⟨rfl, hg1⟩
      go_wp2_with fail
      go_ret
      exact ⟨by simp, Grew.of_alloc hg1⟩

def noNode (a b : Int) : Bool := !nodeB a b
theorem isFormula1_ok : PredOk 76 noNode := by
  intro a b w
  unfold noNode
  have HR := Lib.hid (fun w => isNode_c a b w)
  generalize nodeB a b = R at *
  go_enter Tryz.func76, Tryz.ntmps76
  go_wp2_with fail
  refine (HR.out _).mono ?_
  rintro e w1 ⟨rfl, hg1⟩
  go_wp2_with fail
  go_ret
  exact ⟨rfl, Grew.of_alloc hg1⟩

theorem enc_nodes (t : Tree) : ∀ n ∈ Fm.enc t, nodeB n.1 n.2 = true := by
  induction t with
  | var v =>
    intro n hn
    simp only [Fm.enc, List.mem_singleton] at hn
    subst hn
    have := v.isLt
    simp [nodeB]
    omega
  | fls =>
    intro n hn
    simp only [Fm.enc, List.mem_singleton] at hn
    subst hn
    rfl
  | and x y hx hy =>
    intro n hn
    simp only [Fm.enc, List.mem_cons, List.mem_append] at hn
    rcases hn with rfl | hn | hn
    · rfl
    · exact hx n hn
    · exact hy n hn
  | or x y hx hy =>
    intro n hn
    simp only [Fm.enc, List.mem_cons, List.mem_append] at hn
    rcases hn with rfl | hn | hn
    · rfl
    · exact hx n hn
    · exact hy n hn
  | imp x y hx hy =>
    intro n hn
    simp only [Fm.enc, List.mem_cons, List.mem_append] at hn
    rcases hn with rfl | hn | hn
    · rfl
    · exact hx n hn
    · exact hy n hn
  | box x hx =>
    intro n hn
    simp only [Fm.enc, List.mem_cons] at hn
    rcases hn with rfl | hn
    · rfl
    · exact hx n hn
  | dia x hx =>
    intro n hn
    simp only [Fm.enc, List.mem_cons] at hn
    rcases hn with rfl | hn
    · rfl
    · exact hx n hn
theorem enc_noNode (t : Tree) : anyP noNode (Fm.enc t) = false := by
  apply anyP_no
  intro i hi
  have h := enc_nodes t (Fm.enc t)[i] (List.getElem_mem hi)
  have h1 : kd (Fm.enc t) i = (Fm.enc t)[i].1 := by simp [kd, List.getD, hi]
  have h2 : sy (Fm.enc t) i = (Fm.enc t)[i].2 := by simp [sy, List.getD, hi]
  rw [noNode, h1, h2, h]
  rfl
theorem at_all (t : Tree) : At (Fm.enc t) 0 t := ⟨[], by simp⟩


/-- Is the list a formula's? -/
noncomputable def fmB (xs : List Nd) : Bool := decide (1 ≤ xs.length ∧ xs.length ≤ 40) && !anyP noNode xs && (pend xs 0 == (xs.length : Int))

theorem isFormula_g (v : Value) (xs : List Nd) (w : World) (h : Nodes w v xs) (hn : xs.length ≤ 1099511627776) :
    Calls Tryz.prog 54 #[v] w fun e w' => e = .returned (.bool (fmB xs)) ∧ Grew w w' := by
  have HC := Lib.hid (fun w h => containsFunc_c v xs _ _ w h hn isFormula1_ok (enters_of Tryz.func76 (by kernel_rfl) rfl))
  have HP := Lib.hid (fun w h => partEnd_c v xs 0 w h hn (by omega))
  obtain ⟨A, c, rfl⟩ := nodes_slice h
  have HN := Lib.hid h
  clear h
  unfold fmB
  generalize pend xs 0 = p at *
  generalize anyP noNode xs = q at *
  generalize hL : xs.length = n at *
  clear hL
  by_cases h1 : 1 ≤ n
  · by_cases h2 : n ≤ 40
    · rw [decide_eq_true (⟨h1, h2⟩ : 1 ≤ n ∧ n ≤ 40), Bool.true_and]
      cases q with
      | true =>
        go_enter Tryz.func54, Tryz.ntmps54
        go_wp2_with fail
        refine (HC.out _ HN.out).mono ?_
        rintro e w1 ⟨rfl, hg1⟩
        go_wp2_with fail
        go_ret
        exact ⟨by simp, hg1⟩
      | false =>
        go_enter Tryz.func54, Tryz.ntmps54
        go_wp2_with fail
        refine (HC.out _ HN.out).mono ?_
        rintro e w1 ⟨rfl, hg1⟩
        go_wp2_with fail
        refine (HP.out _ (HN.out.grew hg1)).mono ?_
        rintro e w2 ⟨rfl, hg2⟩
        go_wp2_with fail
        go_ret
        exact ⟨by simp, hg1.trans hg2⟩
    · rw [decide_eq_false (fun h : 1 ≤ n ∧ n ≤ 40 => h2 h.2), Bool.false_and, Bool.false_and]
      go_enter Tryz.func54, Tryz.ntmps54
      go_wp2_with fail
      go_ret
      exact ⟨rfl, Grew.refl _⟩
  · rw [decide_eq_false (fun h : 1 ≤ n ∧ n ≤ 40 => h1 h.1), Bool.false_and, Bool.false_and]
    go_enter Tryz.func54, Tryz.ntmps54
    go_wp2_with fail
    go_ret
    exact ⟨rfl, Grew.refl _⟩
end Go.Proofs.YtefkgomecpnpbaaGreat

/- A list of good nodes that a scan reads whole is the list of a formula's tree. No program is in sight. -/
namespace Go.Proofs.YtefkgomecpnpbaaGreat
open Go.RowKit
open Fm (Nd Tree)

theorem nodeB_cases {x : Nd} (h : nodeB x.1 x.2 = true) : (∃ v : Fin 6, x = (0, (v.val : Int))) ∨ x = (1, 0) ∨ x = (2, 0) ∨ x = (3, 0) ∨ x = (4, 0) ∨ x = (5, 0) ∨ x = (6, 0) := by
  obtain ⟨a, b⟩ := x
  unfold nodeB at h
  simp only at h
  split at h
  · rename_i h0
    have ha : a = 0 := by simpa using h0
    have hb := of_decide_eq_true h
    left
    refine ⟨⟨b.toNat, by omega⟩, ?_⟩
    rw [ha]
    congr 1
    simp; omega
  · simp only [Bool.and_eq_true, decide_eq_true_eq, beq_iff_eq] at h
    obtain ⟨⟨h1, h2⟩, rfl⟩ := h
    right
    obtain rfl | rfl | rfl | rfl | rfl | rfl : a = 1 ∨ a = 2 ∨ a = 3 ∨ a = 4 ∨ a = 5 ∨ a = 6 := by omega
    all_goals simp

theorem fm_trees : ∀ (xs : List Nd) (o n : Nat), Fm.scan xs o = some n → (∀ x ∈ xs, nodeB x.1 x.2 = true) → ∃ (ts : List Tree) (rest : List Nd), ts.length = o ∧ xs = ts.flatMap Fm.enc ++ rest ∧ n = (ts.flatMap Fm.enc).length := by
  intro xs
  induction xs with
  | nil =>
    intro o n h _
    cases o with
    | zero => simp [Fm.scan_zero] at h; exact ⟨[], [], rfl, rfl, by simp [h]⟩
    | succ o => simp [Fm.scan_nil] at h
  | cons x xs ih =>
    intro o n h hp
    cases o with
    | zero => simp [Fm.scan_zero] at h; exact ⟨[], x :: xs, rfl, by simp, by simp [h]⟩
    | succ o =>
      rw [Fm.scan_cons] at h
      cases hs : Fm.scan xs (o + Fm.arity x.1) with
      | none => rw [hs] at h; simp at h
      | some m =>
        rw [hs] at h
        simp only [Option.map_some, Option.some.injEq] at h
        obtain ⟨ts, rest, h1, h2, h3⟩ := ih _ _ hs (fun y hy => hp y (by simp [hy]))
        have two : ∀ (f : Tree → Tree → Tree), (∀ a b, Fm.enc (f a b) = x :: (Fm.enc a ++ Fm.enc b)) → Fm.arity x.1 = 2 → ∃ (ts : List Tree) (rest : List Nd), ts.length = o + 1 ∧ x :: xs = ts.flatMap Fm.enc ++ rest ∧ n = (ts.flatMap Fm.enc).length := by
          intro f hf ha
          rw [ha] at h1
          match ts, h1, h2, h3 with
          | a :: b :: ts, h1, h2, h3 =>
            refine ⟨f a b :: ts, rest, by simp at h1; simp [h1], by simp [hf, h2], ?_⟩
            rw [← h, h3]
            simp only [List.flatMap_cons, hf, List.length_append, List.length_cons]
            omega
          | [_], h1, _, _ => simp at h1
        have one : ∀ (f : Tree → Tree), (∀ a, Fm.enc (f a) = x :: Fm.enc a) → Fm.arity x.1 = 1 → ∃ (ts : List Tree) (rest : List Nd), ts.length = o + 1 ∧ x :: xs = ts.flatMap Fm.enc ++ rest ∧ n = (ts.flatMap Fm.enc).length := by
          intro f hf ha
          rw [ha] at h1
          match ts, h1, h2, h3 with
          | a :: ts, h1, h2, h3 =>
            refine ⟨f a :: ts, rest, by simp at h1; simp [h1], by simp [hf, h2], ?_⟩
            rw [← h, h3]
            simp only [List.flatMap_cons, hf, List.length_append, List.length_cons]
            omega
        have zero : ∀ (f : Tree), Fm.enc f = [x] → Fm.arity x.1 = 0 → ∃ (ts : List Tree) (rest : List Nd), ts.length = o + 1 ∧ x :: xs = ts.flatMap Fm.enc ++ rest ∧ n = (ts.flatMap Fm.enc).length := by
          intro f hf ha
          rw [ha] at h1
          refine ⟨f :: ts, rest, by simp [h1], by simp [hf, h2], ?_⟩
          rw [← h, h3]
          simp only [List.flatMap_cons, hf, List.length_append, List.length_cons, List.length_nil]
          omega
        rcases nodeB_cases (hp x (by simp)) with ⟨v, rfl⟩ | rfl | rfl | rfl | rfl | rfl | rfl
        · exact zero (.var v) rfl rfl
        · exact zero .fls rfl rfl
        · exact two .and (fun _ _ => rfl) rfl
        · exact two .or (fun _ _ => rfl) rfl
        · exact two .imp (fun _ _ => rfl) rfl
        · exact one .box (fun _ => rfl) rfl
        · exact one .dia (fun _ => rfl) rfl

/-- A list that is a formula's is the list of a tree. -/
theorem fmB_tree {xs : List Nd} (h : fmB xs = true) : ∃ t, xs = Fm.enc t ∧ xs.length ≤ 40 := by
  unfold fmB at h
  simp only [Bool.and_eq_true, decide_eq_true_eq, Bool.not_eq_true', beq_iff_eq] at h
  obtain ⟨⟨⟨h1, h2⟩, h3⟩, h4⟩ := h
  have hall : ∀ x ∈ xs, nodeB x.1 x.2 = true := by
    intro x hx
    obtain ⟨i, hi, rfl⟩ := List.getElem_of_mem hx
    cases hb : nodeB (xs[i]).1 (xs[i]).2 with
    | true => rfl
    | false =>
      rw [kd_lt hi] at hb
      have := anyP_at (p := noNode) hi (by rw [noNode, hb]; rfl)
      rw [this] at h3
      cases h3
  have hs : Fm.scan xs 1 = some xs.length := by
    unfold pend at h4
    rw [List.drop_zero] at h4
    cases hz : Fm.scan xs 1 with
    | none => rw [hz] at h4; simp only [pval] at h4; omega
    | some n => rw [hz] at h4; simp only [pval] at h4; congr 1; omega
  obtain ⟨ts, rest, e1, e2, e3⟩ := fm_trees xs 1 _ hs hall
  match ts, e1 with
  | [t], _ =>
    refine ⟨t, ?_, h2⟩
    have hl := congrArg List.length e2
    rw [List.length_append] at hl
    have : rest = [] := List.eq_nil_of_length_eq_zero (by omega)
    rw [this] at e2
    simpa using e2
end Go.Proofs.YtefkgomecpnpbaaGreat

/- Formulas with the first variable alone, plain: the code of a list of nodes. No program is in sight. -/
namespace Go.Proofs.YtefkgomecpnpbaaGreat
open Go.RowKit
open Fm (Nd Tree)

noncomputable def lcode (xs : List Nd) : Int := if fmB xs = false then 1 else if anyP isBD xs = true ∨ 1 < vm xs then 5 else 0
theorem lcode_1 {xs : List Nd} (h : fmB xs = false) : lcode xs = 1 := by unfold lcode; rw [if_pos h]
theorem lcode_5 {xs : List Nd} (h : fmB xs = true) (h2 : anyP isBD xs = true ∨ 1 < vm xs) : lcode xs = 5 := by unfold lcode; rw [if_neg (by rw [h]; decide), if_pos h2]
theorem lcode_0 {xs : List Nd} (h : fmB xs = true) (h2 : anyP isBD xs = false) (h3 : ¬ 1 < vm xs) : lcode xs = 0 := by unfold lcode; rw [if_neg (by rw [h]; decide), if_neg]; rintro (h | h); rw [h2] at h; cases h; exact h3 h
theorem kd_get {xs : List Nd} {i : Nat} (hi : i < xs.length) : kd xs i = (xs[i]).1 ∧ sy xs i = (xs[i]).2 := ⟨by simp [kd, List.getD, hi], by simp [sy, List.getD, hi]⟩
theorem vs_enc (t : Tree) : Vs (Fm.enc t) := by
  intro i hi h0
  obtain ⟨e1, e2⟩ := kd_get hi
  rw [e1] at h0
  rw [e2]
  rcases enc_nd t _ (List.getElem_mem hi) with h | h | h | h | h | h | h
  · obtain ⟨_, v, h2, h3⟩ := h; omega
  all_goals (rw [h] at h0; exact absurd h0 (by decide))
theorem vs_fm {xs : List Nd} (h : fmB xs = true) : Vs xs := by
  obtain ⟨t, rfl, _⟩ := fmB_tree h
  exact vs_enc t
theorem one_of : ∀ t : Tree, (∀ x ∈ Fm.enc t, (x.1 = 0 → x.2 = 0) ∧ x.1 ≠ 5 ∧ x.1 ≠ 6) → Fm.One t := by
  intro t
  induction t with
  | var v =>
    intro h
    have h1 := (h (0, (v.val : Int)) (by simp [Fm.enc])).1 rfl
    show v = 0
    apply Fin.ext
    show v.val = 0
    have h1 : (v.val : Int) = 0 := h1
    omega
  | fls => intro _; trivial
  | and a b iha ihb => intro h; exact ⟨iha fun x hx => h x (by simp [Fm.enc, hx]), ihb fun x hx => h x (by simp [Fm.enc, hx])⟩
  | or a b iha ihb => intro h; exact ⟨iha fun x hx => h x (by simp [Fm.enc, hx]), ihb fun x hx => h x (by simp [Fm.enc, hx])⟩
  | imp a b iha ihb => intro h; exact ⟨iha fun x hx => h x (by simp [Fm.enc, hx]), ihb fun x hx => h x (by simp [Fm.enc, hx])⟩
  | box a _ => intro h; exact absurd rfl (h (5, 0) (by simp [Fm.enc])).2.1
  | dia a _ => intro h; exact absurd rfl (h (6, 0) (by simp [Fm.enc])).2.2
theorem bit_le1 : ∀ m, m < 64 → ¬ 1 < m → ∀ v, v < 6 → m.testBit v = true → v = 0 := by decide
theorem lcode_tree {xs : List Nd} (h : lcode xs = 0) : ∃ t, xs = Fm.enc t ∧ FmOk t ∧ Fm.One t := by
  unfold lcode at h
  split at h
  · cases h
  · rename_i h1
    split at h
    · cases h
    · rename_i h2
      have h1 : fmB xs = true := by simpa using h1
      obtain ⟨t, rfl, h3⟩ := fmB_tree h1
      have hb : anyP isBD (Fm.enc t) = false := by
        cases hb : anyP isBD (Fm.enc t) with
        | false => rfl
        | true => exact absurd (.inl hb) h2
      refine ⟨t, rfl, ⟨h3, hb⟩, one_of t fun x hx => ?_⟩
      have hbx := anyP_mem.1 hb x hx
      obtain ⟨i, hi, rfl⟩ := List.getElem_of_mem hx
      obtain ⟨e1, e2⟩ := kd_get hi
      refine ⟨fun h0 => ?_, fun h5 => ?_, fun h6 => ?_⟩
      · have hv := vs_enc t i hi (by rw [e1]; exact h0)
        have hm : vm (Fm.enc t) < 64 := vmK_lt (vs_enc t) _ (Nat.le_refl _)
        have hbit := (vmK_bit (Fm.enc t) (sy (Fm.enc t) i).toNat (Fm.enc t).length).2 ⟨i, hi, by rw [e1]; exact h0, rfl⟩
        have := bit_le1 _ hm (fun h => h2 (.inr h)) _ (by omega) hbit
        omega
      · rw [h5] at hbx; simp [isBD] at hbx
      · rw [h6] at hbx; simp [isBD] at hbx
theorem fv_one {A r r' : List Nat} {x : Nat} : ∀ {t : Tree}, Fm.One t → fv A (x :: r) t = fv A (x :: r') t
  | .var v, h => by
    have h : v = 0 := h
    subst h; rfl
  | .fls, _ => rfl
  | .and a b, h => by show _ &&& _ = _ &&& _; rw [fv_one h.1, fv_one h.2]
  | .or a b, h => by show _ ||| _ = _ ||| _; rw [fv_one h.1, fv_one h.2]
  | .imp a b, h => by show ar A _ _ = ar A _ _; rw [fv_one h.1, fv_one h.2]
  | .box _, h => h.elim
  | .dia _, h => h.elim
theorem one_sy : ∀ {t : Tree}, Fm.One t → ∀ x ∈ Fm.enc t, x.1 = 0 → x.2 = 0
  | .var v, h, x, hx, _ => by
    have h : v = 0 := h
    subst h
    simp [Fm.enc] at hx
    subst hx; rfl
  | .fls, _, x, hx, h0 => by simp [Fm.enc] at hx; subst hx; cases h0
  | .and a b, h, x, hx, h0 => by
    simp only [Fm.enc, List.mem_cons, List.mem_append] at hx
    rcases hx with rfl | hx | hx
    · cases h0
    · exact one_sy h.1 x hx h0
    · exact one_sy h.2 x hx h0
  | .or a b, h, x, hx, h0 => by
    simp only [Fm.enc, List.mem_cons, List.mem_append] at hx
    rcases hx with rfl | hx | hx
    · cases h0
    · exact one_sy h.1 x hx h0
    · exact one_sy h.2 x hx h0
  | .imp a b, h, x, hx, h0 => by
    simp only [Fm.enc, List.mem_cons, List.mem_append] at hx
    rcases hx with rfl | hx | hx
    · cases h0
    · exact one_sy h.1 x hx h0
    · exact one_sy h.2 x hx h0
  | .box _, h, _, _, _ => h.elim
  | .dia _, h, _, _, _ => h.elim
theorem vars_one : ∀ m, m < 64 → (decide (1 < (mbs m).length) || (decide ((mbs m).length = 1) && !decide (nt (mbs m) 0 = 0))) = decide (1 < m) := by decide +kernel
theorem isetI_inj {i j : Int} (h1 : -1 ≤ i) (h2 : i < 54) (h3 : -1 ≤ j) (h4 : j < 54) (h : isetI i = isetI j) : i = j := by
  unfold isetI at h
  by_cases hi : i < 0
  · by_cases hj : j < 0
    · omega
    · rw [if_pos hi, if_neg hj] at h
      exact absurd h.symm (iset_full _ (by omega))
  · by_cases hj : j < 0
    · rw [if_neg hi, if_pos hj] at h
      exact absurd h (iset_full _ (by omega))
    · rw [if_neg hi, if_neg hj] at h
      have := iset_inj _ (by omega) _ (by omega) h
      omega
theorem isetI_lt {i : Int} (h2 : i < 54) : isetI i < 2 ^ 28 := by
  unfold isetI
  split
  · exact full_lt 28
  · exact iset_lt _ (by omega)
theorem nis_enc1 (k : Nat) : Fm.enc (nis (2 * k + 3)) = Fm.join 3 (Fm.enc (nis (2 * k + 2))) (Fm.enc (nis (2 * k + 1))) := by rw [nis_odd]; rfl
theorem nis_enc2 (k : Nat) : Fm.enc (nis (2 * k + 4)) = Fm.join 4 (Fm.enc (nis (2 * k + 2))) (Fm.enc (nis (2 * k + 1))) := by rw [nis_even]; rfl
theorem nis_len : ∀ n, n ≤ 8 → (Fm.enc (nis n)).length ≤ 23 := by
  have : ∀ m : Fin 9, (Fm.enc (nis m.val)).length ≤ 23 := by decide
  exact fun n h => this ⟨n, by omega⟩
/-- NishimuraOf of an index: the formula and the code. -/
def noL (i : Int) : List Nd × Int := if 8 < i then ([], 3) else (Fm.enc (nisI i), 0)
end Go.Proofs.YtefkgomecpnpbaaGreat

/- Rows of slices of nodes of the call's own: an append of one slice. -/
namespace Go.Proofs.YtefkgomecpnpbaaGreat
open Go.RowKit
open Fm (Nd)

/-- A row of slices of the call's own. -/
def OwnV (w : World) (B : Nat) (v : Value) (us : List Value) : Prop := w.ownsRow B 24 1 v us.length us

theorem own_app {w w' : World} {B B' : Nat} {u v : Value} {xs : List Nd} {us : List Value} (h : Own w B u xs) (hv : OwnV w B' v us) (hg : w.grownBy w' v.ownBlock) : Own w' B u xs := by
  rcases hv.2 with ⟨rfl, _⟩ | ⟨g, cap, cur, rfl, _, hh, _⟩
  · exact own_grew h (by
      have hg' : w.grownBy w' none := hg
      exact ⟨hg'.os, hg'.tape, hg'.output, hg'.size, fun i hi => hg'.block i hi (by simp)⟩)
  · exact own_only h (show Only g w w' from hg) (own_ne h hh (by decide))

theorem infoSl : (Tryz.prog.info? 24).map (fun i => (i.zero, i.size, i.bytes)) = some (some (.slice none 0 0), 1, 24) := by kernel_rfl

theorem wpList_appV {ops : Array Oper} {rest : List Oper} {o : Oper} {a : Act} {Q : Exit → Act → World → Prop} {w w0 : World} (s x : Operand) (hgd : o.guard = none)
    (ho : o.op = .call { callee := .builtin .append, args := #[s, x], argTypes := #[66, 66] })
    (v : Value) (us : List Value) (hs : a.eval s = v) (hown : OwnV w w0.heap.size v us) (hg : Grew w0 w) (vx u : Value) (hx : a.eval x = vx) (hr : Rd w 1 vx 1 [u]) (h1 : u.oneCell' = true) (hn : us.length ≤ 1048576)
    (h : ∀ v' w', OwnV w' w0.heap.size v' (us ++ [u]) → Grew w0 w' → w.grownBy w' v.ownBlock → wpList Tryz.prog ops Q rest (a.put o.dst v') w') : wpList Tryz.prog ops Q (o :: rest) a w := by
  obtain ⟨i0, hi0, hz0, hz1, hz2⟩ := info_parts infoSl
  refine wpList_append_rd w hgd s x _ ho w0.heap.size 24 i0 _ 1 24 Tryz.underlying66 hi0 hz0 hz1 hz2 rfl (by omega) v us.length us hs hown vx 1 [u] hx hr (by simpa using h1) (by unfold maxLen; omega) (by omega) hg.size ?_
  intro v' w' h1 h2 h3
  refine h v' w' ?_ (hg.grown h2 fun k hk => (hown.lt k hk).1) h2
  unfold OwnV
  rw [List.length_append]
  exact h1

theorem own_one {w : World} {B : Nat} {u : Value} {xs : List Nd} (h : Own w B u xs) : u.oneCell' = true := by
  obtain ⟨A, c, rfl⟩ := nodes_slice h.nodes
  rfl
theorem rd_lit (w : World) (u : Value) (t : TypeId) : Rd (w.alloc (.cells #[u] t)) 1 (.slice (some ⟨w.heap.size, 0, none⟩) 1 1) 1 [u] := by
  refine ⟨rfl, by omega, .inr ⟨w.heap.size, 0, 1, rfl, by omega, by omega, by simp, fun j x hx => ?_⟩⟩
  have hj : j = 0 := by
    have := (List.getElem?_eq_some_iff.1 hx).1
    simp at this
    omega
  subst hj
  simp at hx
  subst hx
  simp

theorem own_empty (w : World) : OwnV (w.alloc (.cells #[] 24)) w.heap.size (.slice (some ⟨w.heap.size, 0, none⟩) 0 0) [] :=
  World.ownsRow_lit (e := 24) (size := 1) w #[] 0 (Nat.le_refl _) (by omega) rfl
end Go.Proofs.YtefkgomecpnpbaaGreat

/- Strings that are not larger than memory. -/
namespace Go.Proofs.YtefkgomecpnpbaaGreat
open Go.RowKit

/-- No text of the list is long. -/
def Fits (L : List ByteArray) : Prop := ∀ i, i < L.length → (st L i).size ≤ 1048576
end Go.Proofs.YtefkgomecpnpbaaGreat

/- New lists of lists of nodes: what holds of them. -/
namespace Go.Proofs.YtefkgomecpnpbaaGreat
open Go.RowKit
open Fm (Nd)

/-- The lists that texts read to. -/
def lf (L : List ByteArray) : List (List Nd) := L.map fun s => (Fm.pf s).1
theorem lf_length (L : List ByteArray) : (lf L).length = L.length := by simp [lf]
theorem lf_at {L : List ByteArray} {i : Nat} (h : i < L.length) : (lf L).getD i [] = (Fm.pf (st L i)).1 := by
  simp [lf, st, List.getD, h]

/-- The first k of the slices read as the lists. -/
def Hold (w : World) (B : Nat) (us : List Value) (L : List ByteArray) : Prop := ∀ i, i < us.length → ∃ u, us[i]? = some u ∧ Own w B u ((lf L).getD i [])
theorem Hold.app {w w' : World} {B B' : Nat} {v : Value} {us : List Value} {L : List ByteArray} (h : Hold w B us L) (hv : OwnV w B' v us) (hg : w.grownBy w' v.ownBlock) : Hold w' B us L := by
  intro i hi
  obtain ⟨u, h1, h2⟩ := h i hi
  exact ⟨u, h1, own_app h2 hv hg⟩
theorem Hold.grew {w w' : World} {B : Nat} {us : List Value} {L : List ByteArray} (h : Hold w B us L) (hg : Grew w w') : Hold w' B us L := by
  intro i hi
  obtain ⟨u, h1, h2⟩ := h i hi
  exact ⟨u, h1, h2.grew hg⟩
theorem Hold.snoc {w : World} {B : Nat} {us : List Value} {u : Value} {L : List ByteArray} (h : Hold w B us L) (hu : Own w B u ((lf L).getD us.length [])) : Hold w B (us ++ [u]) L := by
  intro i hi
  rw [List.length_append] at hi
  rcases Nat.lt_or_ge i us.length with hk | hk
  · obtain ⟨x, h1, h2⟩ := h i hk
    exact ⟨x, by rw [List.getElem?_append_left hk]; exact h1, h2⟩
  · obtain rfl : i = us.length := by simp at hi; omega
    exact ⟨u, by simp, hu⟩
theorem lists_of {w : World} {B : Nat} {v : Value} {us : List Value} {L : List ByteArray} (hv : OwnV w B v us) (h : Hold w B us L) (hl : us.length = L.length) : Lists w v (lf L) := by
  obtain ⟨_, _, h3⟩ := Rd.of_own hv
  rcases h3 with ⟨h4, h5⟩ | ⟨b, o, c, h4, h5, h6, h7, h8⟩
  · exact .inl ⟨h4, by rw [List.eq_nil_of_length_eq_zero (show L.length = 0 by omega)]; rfl⟩
  · refine .inr ⟨b, o, c, by rw [lf_length, ← hl]; exact h4, by rw [lf_length]; omega, h6, h7, fun i hi => ?_⟩
    rw [lf_length] at hi
    obtain ⟨u, h9, h10⟩ := h i (by omega)
    exact ⟨u, h8 i u h9, h10.nodes⟩

/-- What the readers of a side give. -/
def GivesL (w : World) (L : List (List Nd)) (e : Ending) (w' : World) : Prop := ∃ v, e = .returned v ∧ Lists w' v L ∧ Grew w w'

end Go.Proofs.YtefkgomecpnpbaaGreat

/- New lists of lists of nodes: formulasOf of the program. -/
namespace Go.Proofs.YtefkgomecpnpbaaGreat
open Go.RowKit
open Fm (Nd)

end Go.Proofs.YtefkgomecpnpbaaGreat

/- The order of texts. -/
namespace Go.Proofs.YtefkgomecpnpbaaGreat
open Go.RowKit

theorem above_iff : ∀ (x y : List UInt8), (Op.bytesLess x y || x == y) = !Op.bytesLess y x
  | [], [] => by simp [Op.bytesLess]
  | _ :: _, [] => by simp [Op.bytesLess]
  | [], _ :: _ => by simp [Op.bytesLess]
  | a :: x, b :: y => by
    have ih := above_iff x y
    rw [Op.bytesLess, Op.bytesLess]
    by_cases h1 : a < b
    · have h2 : ¬ b < a := by simp only [UInt8.lt_iff_toNat_lt] at *; omega
      have h3 : ¬ b = a := by rintro rfl; exact h2 h1
      simp [h1, h2, h3]
    · by_cases h2 : a = b
      · subst h2
        have h3 : ¬ a < a := h1
        simp only [h3, decide_false, Bool.false_or, beq_self_eq_true, Bool.true_and]
        rw [← ih]
        simp
      · have h3 : b < a := by
          simp only [UInt8.lt_iff_toNat_lt, ← UInt8.toNat_inj] at *
          omega
        have h4 : ¬ b = a := fun h => h2 h.symm
        simp [h1, h2, h3, h4]
end Go.Proofs.YtefkgomecpnpbaaGreat

/- A side of a sequent of texts: every text is good and stands above the one before. -/
namespace Go.Proofs.YtefkgomecpnpbaaGreat
open Go.RowKit
open Fm (Nd)

/-- The first k are good texts, each above the one before. -/
def Asc (L : List ByteArray) (k : Nat) : Prop := ∀ i, i < k → gd (st L i) = true ∧ (0 < i → Op.bytesLess (st L (i - 1)).toList (st L i).toList = true)
noncomputable def asc (L : List ByteArray) : Bool := @decide (Asc L L.length) (Classical.propDecidable _)
theorem Asc.zero (L : List ByteArray) : Asc L 0 := fun i hi => absurd hi (by omega)
theorem Asc.succ {L : List ByteArray} {k : Nat} (h : Asc L k) (h1 : gd (st L k) = true) (h2 : 0 < k → Op.bytesLess (st L (k - 1)).toList (st L k).toList = true) : Asc L (k + 1) := by
  intro i hi
  rcases Nat.lt_or_ge i k with hk | hk
  · exact h i hk
  · obtain rfl : i = k := by omega
    exact ⟨h1, h2⟩
theorem asc_true {L : List ByteArray} (h : Asc L L.length) : asc L = true := by
  unfold asc
  exact @decide_eq_true _ (Classical.propDecidable _) h
theorem asc_bad {L : List ByteArray} {k : Nat} (hk : k < L.length) (h : gd (st L k) = false) : asc L = false := by
  unfold asc
  refine @decide_eq_false _ (Classical.propDecidable _) fun H => ?_
  rw [(H k hk).1] at h
  cases h
theorem asc_low {L : List ByteArray} {k : Nat} (hk : k + 1 < L.length) (h : Op.bytesLess (st L k).toList (st L (k + 1)).toList = false) : asc L = false := by
  unfold asc
  refine @decide_eq_false _ (Classical.propDecidable _) fun H => ?_
  have := (H (k + 1) hk).2 (by omega)
  rw [Nat.add_sub_cancel, h] at this
  cases this

end Go.Proofs.YtefkgomecpnpbaaGreat

/- New lists of lists of nodes: formulasOf of the program, l11Read of the reference. -/
namespace Go.Proofs.YtefkgomecpnpbaaGreat
open Go.RowKit
open Fm (Nd)

end Go.Proofs.YtefkgomecpnpbaaGreat

/- A copy: l02Own of the reference. -/
namespace Go.Proofs.YtefkgomecpnpbaaGreat
open Go.RowKit
open Fm (Nd)

theorem l02Own_c (v : Value) (xs : List Nd) (w : World) (h : Nodes w v xs) (hn : xs.length ≤ 1099511627775) :
    Calls Tryz.prog 94 #[v] w (Gives w xs) := by
  have he : Own (w.alloc (.cells #[] 45)) w.heap.size (.slice (some ⟨w.heap.size, 0, none⟩) 0 0) [] :=
    World.ownsRow_lit (e := 45) (size := 2) w #[] 0 (Nat.le_refl _) (by omega) rfl
  go_enter Tryz.func94, Tryz.ntmps94
  go_wp2_with (first
    | (at_builtin; refine wpList_app (w0 := w) _ _ rfl rfl _ [] rfl he ((Grew.refl w).alloc _) v xs rfl (h.grew ((Grew.refl w).alloc _)) (by simp; omega) ?_; intro v1 w1 hown1 hg1 _))
  go_ret
  exact ⟨_, rfl, by simpa using hown1, hg1⟩
end Go.Proofs.YtefkgomecpnpbaaGreat

/- A list of formulas joined: l02All of the reference, joinAll of the program; limited, l02Made. -/
namespace Go.Proofs.YtefkgomecpnpbaaGreat
open Go.RowKit
open Fm (Nd)

/-- The first k lists, joined. -/
def upto (k : Int) (L : List (List Nd)) (j : Nat) : List Nd := List.replicate (j - 1) (k, 0) ++ (L.take j).flatten
/-- All lists, joined. -/
def allF (k : Int) (L : List (List Nd)) : List Nd := if L.length = 0 then (if k == 2 then Fm.truth else Fm.falsum) else upto k L L.length
theorem flatten_succ {L : List (List Nd)} {j : Nat} (h : j < L.length) : (L.take (j + 1)).flatten = (L.take j).flatten ++ L.getD j [] := by
  rw [List.take_succ_eq_append_getElem h, List.flatten_append]
  simp [List.getD, h]
theorem upto_one {k : Int} {L : List (List Nd)} (h : 0 < L.length) : upto k L 1 = L.getD 0 [] := by
  rw [upto, flatten_succ h]
  simp
theorem upto_succ {k : Int} {L : List (List Nd)} {j : Nat} (h : j < L.length) (h0 : 0 < j) : upto k L (j + 1) = Fm.join k (upto k L j) (L.getD j []) := by
  obtain ⟨m, rfl⟩ : ∃ m, j = m + 1 := ⟨j - 1, by omega⟩
  rw [upto, upto, Fm.join, flatten_succ h]
  simp [List.replicate_succ]
theorem upto_length (k : Int) (L : List (List Nd)) (j : Nat) : (upto k L j).length = (j - 1) + total L j := by
  simp [upto, total]

/-- A formula that is not too long. -/
def lim (xs : List Nd) : List Nd × Int := if xs.length ≤ 40 then (xs, 0) else ([], 3)
theorem lim_yes {xs : List Nd} (h : xs.length ≤ 40) : lim xs = (xs, 0) := by rw [lim, if_pos h]
theorem lim_no {xs : List Nd} (h : ¬ xs.length ≤ 40) : lim xs = ([], 3) := by rw [lim, if_neg h]

end Go.Proofs.YtefkgomecpnpbaaGreat

/- joinAll of the program. -/
namespace Go.Proofs.YtefkgomecpnpbaaGreat
open Go.RowKit
open Fm (Nd)

end Go.Proofs.YtefkgomecpnpbaaGreat

/- The laws' own helpers on slices of strings: szStringS, toStringS, eqStringS. -/
namespace Go.Proofs.YtefkgomecpnpbaaGreat
open Go.RowKit

/-- A list of strings that came in. -/
def ArgS (w : World) (v : Value) (L : List ByteArray) : Prop :=
  (∃ A c, v = .slice A L.length c ∧ L.length ≤ 9223372036854775807) ∧ (0 < L.length → Strs w v L) ∧ ∀ i, i < L.length → (st L i).size ≤ 9223372036854775807
theorem ArgS.grew {w w' : World} {v : Value} {L : List ByteArray} (h : ArgS w v L) (hg : Grew w w') : ArgS w' v L := ⟨h.1, fun hp => (h.2.1 hp).grew hg, h.2.2⟩

/-- None of the first k is long. -/
def Small (L : List ByteArray) (k : Nat) : Prop := ∀ i, i < k → (st L i).size ≤ 1048576
theorem Small.zero (L : List ByteArray) : Small L 0 := fun i hi => absurd hi (by omega)
theorem Small.succ {L : List ByteArray} {k : Nat} (h : Small L k) (h1 : (st L k).size ≤ 1048576) : Small L (k + 1) := by
  intro i hi
  rcases Nat.lt_or_ge i k with hk | hk
  · exact h i hk
  · obtain rfl : i = k := by omega
    exact h1
/-- What the sizes' walk gives. -/
def Sizes (L : List ByteArray) (r : Int) : Prop := r ≤ 1048576 ∧ (0 ≤ r → L.length ≤ 1048576 ∧ Small L L.length)

theorem one_step {cur : Array Value} {F : Nat → Value} {j : Nat} (hs : j < cur.size) (h : ∀ i, i < j → cur[i]? = some (F i)) :
    ∀ i, i < j + 1 → (cur.setIfInBounds j (F j))[i]? = some (F i) := by
  intro i hi
  simp only [Array.getElem?_setIfInBounds]
  rcases Nat.lt_or_ge i j with hk | hk
  · rw [if_neg (by omega)]
    exact h i hk
  · obtain rfl : i = j := by omega
    rw [if_pos rfl, if_pos hs]

end Go.Proofs.YtefkgomecpnpbaaGreat

/- A sequent of texts: the laws' own helpers and IsModalSequent of both. -/
namespace Go.Proofs.YtefkgomecpnpbaaGreat
open Go.RowKit
open Fm (Nd)

end Go.Proofs.YtefkgomecpnpbaaGreat

/- A sequent of texts: toModalSequent, eqModalSequent, IsModalSequent of both. -/
namespace Go.Proofs.YtefkgomecpnpbaaGreat
open Go.RowKit
open Fm (Nd)

/-- The call gives a sequent whose sides read as the lists. -/
def GivesM (w : World) (L1 L2 : List ByteArray) (e : Ending) (w' : World) : Prop := ∃ a b, e = .returned (.agg #[a, b]) ∧ Strs w' a L1 ∧ Strs w' b L2 ∧ Grew w w'

/-- The same, the sides rows of the call's own. -/
def GivesMO (w : World) (L1 L2 : List ByteArray) (e : Ending) (w' : World) : Prop := ∃ a b, e = .returned (.agg #[a, b]) ∧ OwnS w' w.heap.size a L1 ∧ OwnS w' w.heap.size b L2 ∧ (∀ g, a.ownBlock = some g → b.ownBlock ≠ some g) ∧ Grew w w'

theorem blk_3 (w : World) (o1 o2 o3 : Obj) : (((w.alloc o1).alloc o2).alloc o3).heap[w.heap.size + 1 + 1]? = some o3 := by
  have h := blk_new ((w.alloc o1).alloc o2) o3
  rwa [World.size_alloc, World.size_alloc] at h
theorem blk_2 (w : World) (o1 o2 o3 : Obj) : (((w.alloc o1).alloc o2).alloc o3).heap[w.heap.size + 1]? = some o2 := by
  have h := blk_new (w.alloc o1) o2
  rw [World.size_alloc] at h
  exact (((Grew.refl ((w.alloc o1).alloc o2)).alloc o3).block (by simp)).trans h

theorem blk_1 (w : World) (o1 o2 o3 : Obj) : (((w.alloc o1).alloc o2).alloc o3).heap[w.heap.size]? = some o1 :=
  ((((Grew.refl (w.alloc o1)).alloc o2).alloc o3).block (by simp)).trans (blk_new w o1)

end Go.Proofs.YtefkgomecpnpbaaGreat

/- SequentFormula of both. -/
namespace Go.Proofs.YtefkgomecpnpbaaGreat
open Go.RowKit
open Fm (Nd)

/-- Are the two sides a sequent? -/
noncomputable def isM (L1 L2 : List ByteArray) : Bool := (decide (L1.length ≤ 16) && asc L1) && (decide (L2.length ≤ 16) && asc L2)
/-- The sequent's formula. -/
def sfL (L1 L2 : List ByteArray) : List Nd := Fm.join 4 (allF 2 (lf L1)) (allF 3 (lf L2))
/-- What SequentFormula gives. -/
noncomputable def sfF (L1 L2 : List ByteArray) : List Nd × Int := if isM L1 L2 then lim (sfL L1 L2) else ([], 1)
def GivesC2 (w : World) (r : List Nd × Int) (e : Ending) (w' : World) : Prop := ∃ v, e = .returned (.tuple #[v, .int .i64 r.2]) ∧ Own w' w.heap.size v r.1 ∧ Grew w w'

theorem lf_flat (L : List ByteArray) (h : L.length ≤ 16) : (lf L).flatten.length ≤ 640 := by
  have : ∀ L : List ByteArray, (lf L).flatten.length ≤ L.length * 40 := by
    intro L
    induction L with
    | nil => simp [lf]
    | cons s L ih =>
      have := Fm.pf_len s
      simp only [lf, List.map_cons, List.flatten_cons, List.length_append, List.length_cons] at ih ⊢
      omega
  have := this L
  omega
theorem allF_len (k : Int) (L : List ByteArray) (h : L.length ≤ 16) : (allF k (lf L)).length ≤ 1000 := by
  unfold allF
  split
  · split <;> simp [Fm.truth, Fm.falsum]
  · rw [upto_length]
    have h1 := lf_flat L h
    have h2 := total_mono (L := lf L) (k := (lf L).length)
    have h3 := lf_length L
    omega
theorem isM_len {L1 L2 : List ByteArray} (h : isM L1 L2 = true) : L1.length ≤ 16 ∧ L2.length ≤ 16 := by
  simp only [isM, Bool.and_eq_true, decide_eq_true_eq] at h
  exact ⟨h.1.1, h.2.1⟩

end Go.Proofs.YtefkgomecpnpbaaGreat

/- Indices and Nishimura formulas of the program. -/
namespace Go.Proofs.YtefkgomecpnpbaaGreat
open Go.RowKit
open Fm (Nd Tree)

theorem indexSet_neg (w : World) : Calls Tryz.prog 30 #[.int .i64 (-1)] w fun e w' => e = .returned (.int .i64 268435455) ∧ w' = w := by
  go_enter Tryz.func30, Tryz.ntmps30
  go_wp2_with fail
  go_ret
  exact ⟨rfl, rfl⟩
theorem indexSet_0 (w : World) : Calls Tryz.prog 30 #[.int .i64 0] w fun e w' => e = .returned (.int .i64 0) ∧ w' = w := by
  go_enter Tryz.func30, Tryz.ntmps30
  go_wp2_with fail
  go_ret
  exact ⟨rfl, rfl⟩
theorem indexSet_odd (k : Nat) (hk : k < 27) (w : World) : Calls Tryz.prog 30 #[.int .i64 (2 * (k : Int) + 1)] w fun e w' => e = .returned (.int .i64 ((full (k + 1) : Nat) : Int)) ∧ w' = w := by
  have hp := wrap_pow (k := k + 1) (by omega)
  have hpl : (2 : Nat) ^ (k + 1) ≤ 2 ^ 28 := Nat.pow_le_pow_right (by omega) (by omega)
  have hp0 : 0 < (2 : Nat) ^ (k + 1) := Nat.pow_pos (by omega)
  have hf := full_cast (k + 1)
  have h1 : ¬ (2 * (k : Int) + 1) = -1 := by omega
  have h2 : ¬ (2 * (k : Int) + 1) = 0 := by omega
  have h3 : (2 * (k : Int) + 1).tmod 2 = 1 := by rw [Int.tmod_eq_emod_of_nonneg (by omega)]; omega
  have h4 : (2 * (k : Int) + 1).tdiv 2 = (k : Int) := by rw [Int.tdiv_eq_ediv_of_nonneg (by omega)]; omega
  have h5 : (2 * (k : Int) + 1) / 2 = (k : Int) := by omega
  have h6 : (2 * (k : Int) + 1) % 2 = 1 := by omega
  rw [hf]
  have hq : ((k : Int) + 1) = ((k + 1 : Nat) : Int) := by omega
  generalize hQ : (2 * (k : Int) + 1) = q at *
  have HQ := Lib.hid hQ
  clear hQ
  generalize hK : k + 1 = m at *
  clear hK
  generalize (2 ^ m : Nat) = p at *
  go_enter Tryz.func30, Tryz.ntmps30
  go_wp2_with fail
  go_ret
  exact ⟨rfl, rfl⟩
theorem indexSet_even (k : Nat) (hk : k < 26) (w : World) : Calls Tryz.prog 30 #[.int .i64 (2 * (k : Int) + 2)] w fun e w' => e = .returned (.int .i64 ((full k ||| 2 ^ (k + 1) : Nat) : Int)) ∧ Grew w w' := by
  have hp := wrap_pow (k := k + 1) (by omega)
  have hp1 := wrap_pow (k := k) (by omega)
  have hpl : (2 : Nat) ^ (k + 1) ≤ 2 ^ 28 := Nat.pow_le_pow_right (by omega) (by omega)
  have hpl1 : (2 : Nat) ^ k ≤ 2 ^ 28 := Nat.pow_le_pow_right (by omega) (by omega)
  have hp0 : 0 < (2 : Nat) ^ k := Nat.pow_pos (by omega)
  have hf := full_cast k
  have hfl := full_lt k
  have ho := or_i64 (full k) (2 ^ (k + 1)) (by omega) (by omega)
  have h1 : ¬ (2 * (k : Int) + 2) = -1 := by omega
  have h2 : ¬ (2 * (k : Int) + 2) = 0 := by omega
  have h3 : (2 * (k : Int) + 2).tmod 2 = 0 := by rw [Int.tmod_eq_emod_of_nonneg (by omega)]; omega
  have h4 : (2 * (k : Int) + 2).tdiv 2 = (k : Int) + 1 := by rw [Int.tdiv_eq_ediv_of_nonneg (by omega)]; omega
  have h5 : (2 * (k : Int) + 2) / 2 = (k : Int) + 1 := by omega
  have h6 : (2 * (k : Int) + 2) % 2 = 0 := by omega
  have h8 : (k : Int) + 1 - 1 = (k : Int) := by omega
  have hgr := Grew.refl w
  generalize hQ : (2 * (k : Int) + 2) = q at *
  have HQ := Lib.hid hQ
  clear hQ
  rw [hf] at ho
  generalize full k ||| 2 ^ (k + 1) = R at *
  generalize (2 ^ (k + 1) : Nat) = p at *
  generalize (2 ^ k : Nat) = p1 at *
  have hw : wrap64 ((p1 : Int) - 1) = (p1 : Int) - 1 := by rw [wrap64]; omega
  clear hf hfl
  go_enter Tryz.func30, Tryz.ntmps30
  go_wp2_with fail
  go_quiet (fail)
  go_wp2_with fail
  go_ret
  exact ⟨rfl, (Grew.refl _).drewN _⟩
/-- indexSet gives the set of an index from -1 to 53. -/
theorem indexSet_c (i : Int) (h1 : -1 ≤ i) (h2 : i < 54) (w : World) : Calls Tryz.prog 30 #[.int .i64 i] w fun e w' => e = .returned (.int .i64 ((isetI i : Nat) : Int)) ∧ Grew w w' := by
  by_cases hn : i = -1
  · subst hn
    exact (indexSet_neg w).mono fun e w' h => ⟨h.1, h.2 ▸ Grew.refl _⟩
  by_cases h0 : i = 0
  · subst h0
    exact (indexSet_0 w).mono fun e w' h => ⟨h.1, h.2 ▸ Grew.refl _⟩
  by_cases ho : i % 2 = 1
  · obtain ⟨k, rfl⟩ : ∃ k : Nat, i = 2 * (k : Int) + 1 := ⟨(i / 2).toNat, by omega⟩
    refine (indexSet_odd k (by omega) w).mono fun e w' h => ⟨?_, h.2 ▸ Grew.refl _⟩
    rw [h.1]
    have e1 : isetI (2 * (k : Int) + 1) = full (k + 1) := by
      rw [show 2 * (k : Int) + 1 = ((2 * k + 1 : Nat) : Int) by omega, isetI_nat]
      unfold iset
      rw [if_pos (by omega)]
      congr 1
      omega
    rw [e1]
  · obtain ⟨k, rfl⟩ : ∃ k : Nat, i = 2 * (k : Int) + 2 := ⟨(i / 2 - 1).toNat, by omega⟩
    refine (indexSet_even k (by omega) w).mono fun e w' h => ⟨?_, h.2⟩
    rw [h.1]
    have e1 : isetI (2 * (k : Int) + 2) = full k ||| 2 ^ (k + 1) := by
      rw [show 2 * (k : Int) + 2 = ((2 * k + 2 : Nat) : Int) by omega, isetI_nat]
      unfold iset
      rw [if_neg (by omega), if_neg (by omega)]
      congr 2 <;> omega
    rw [e1]
set_option maxRecDepth 20000 in
theorem indexOf_c (d : Int) (h1 : -1 ≤ d) (h2 : d < 54) (w : World) : Calls Tryz.prog 27 #[.int .i64 ((isetI d : Nat) : Int)] w fun e w' => e = .returned (.int .i64 d) ∧ Grew w w' := by
  have HI := Lib.hid (fun i (a : -1 ≤ i) (b : i < 54) W => indexSet_c i a b W)
  have HJ := Lib.hid (fun i (a : -1 ≤ i) (b : i < 54) => @isetI_inj i d a b h1 h2)
  obtain ⟨S, hS⟩ : ∃ S, S = isetI d := ⟨_, rfl⟩
  rw [← hS]
  have HS := Lib.hid hS
  clear hS
  go_enter Tryz.func27, Tryz.ntmps27
  go_wp2_with fail
  go_loopw [3] (fun i wr => ∃ k : Int, -1 ≤ k ∧ k ≤ d ∧ i = .int .i64 k ∧ Grew w wr) (fun i _ => (54 - intOf i).toNat)
  case atStart => exact ⟨-1, by omega, h1, rfl, Grew.refl _⟩
  case round =>
    obtain ⟨k, hk, hkd, rfl, hB⟩ := hrel
    have hi := Lib.hid (HI.out k hk (by omega))
    have hlt : k < 54 := by omega
    by_cases he : k = d
    · have e : isetI k = S := by rw [he, HS.out]
      rw [e] at hi
      have HE := Lib.hid he
      clear he e
      go_wp2_with fail
      refine (hi.out _).mono ?_
      rintro e w1 ⟨rfl, hg1⟩
      go_wp2_with fail
      go_ret
      exact ⟨by rw [← HE.out]; rfl, hB.trans hg1⟩
    · have hne : ¬ ((isetI k : Nat) : Int) = ((S : Nat) : Int) := fun e => he (HJ.out k hk (by omega) (by rw [← HS.out]; omega))
      have hlt2 : k < d := by omega
      generalize isetI k = z at *
      clear he
      go_wp2_with fail
      refine (hi.out _).mono ?_
      rintro e w1 ⟨rfl, hg1⟩
      go_wp2_with fail
      go_roundw
      case rel => exact ⟨k + 1, by omega, by omega, by go_num, hB.trans hg1⟩
      case measure => simp [intOf]; omega
theorem lv1_lt : ∀ m ∈ [1], m < 2 ^ lad.length := by decide
theorem onLadder_c (va : Value) (t : Tree) (w : World) (ha : Nodes w va (Fm.enc t)) (ht : FmOk t) (ho : Fm.One t) :
    Calls Tryz.prog 57 #[va, .int .i64 1] w fun e w' => e = .returned (.int .i64 ((fv lad lv t : Nat) : Int)) ∧ Grew w w' := by
  have e1 : fv lad lv t = fv lad [1] t := fv_one ho
  rw [e1]
  have HL := Lib.hid ladder_c
  have HF := Lib.hid (fun v u W (hv : Ints W v (zs lad)) (hu : Ints W u (zs [1])) (hW : Grew w W) => forced_g v u va lad [1] t W hv hu (ha.grew hW) lad_rl lv1_lt (by decide) (by decide) (fun i hi hk => by
    obtain ⟨a1, a2⟩ := kd_get hi
    rw [a1] at hk
    rw [a2, one_sy ho _ (List.getElem_mem hi) hk]; decide) ht)
  rw [lad_len] at HF
  obtain ⟨A, c, rfl⟩ := nodes_slice ha
  clear ha ht ho e1
  generalize fv lad [1] t = R at *
  generalize (Fm.enc t).length = n at *
  unfold GivesPs at HL
  have hl28 : (zs lad).length = 28 := by rw [zs_len, lad_len]
  rw [hl28] at HL
  clear hl28
  go_enter Tryz.func57, Tryz.ntmps57
  go_wp2_with fail
  refine (HL.out _).mono ?_
  rintro e w1 ⟨v1, rfl, hO1, hg1⟩
  have hl := (OwnI.ints hO1)
  obtain ⟨A2, c2, hv⟩ := ints_slice hl
  rw [zs_len, lad_len] at hv
  subst hv
  have KF := Lib.hid (fun u W (hu : Ints W u (zs [1])) (hW : Grew w1 W) => HF.out _ u W (hl.grew hW) hu (hg1.trans hW))
  have HG1 := Lib.hid hg1
  clear hl hO1 hg1 HF
  go_wp2_with fail
  refine (KF.out _ _ (rd_litI _ _ _) ((Grew.refl _).alloc _)).mono ?_
  rintro e w2 ⟨rfl, hg2⟩
  go_wp2_with fail
  go_ret
  exact ⟨rfl, HG1.out.trans (((Grew.refl _).alloc _).trans hg2)⟩
theorem ladderValue_c (va : Value) (t : Tree) (w : World) (ha : Nodes w va (Fm.enc t)) (ht : FmOk t) (ho : Fm.One t) :
    Calls Tryz.prog 28 #[va] w fun e w' => e = .returned (.int .i64 ((isetI (nix (Fm.nc t)) : Nat) : Int)) ∧ Grew w w' := by
  rw [← fv_lad ho ht.1]
  have HO := Lib.hid (onLadder_c va t w ha ht ho)
  obtain ⟨A, c, rfl⟩ := nodes_slice ha
  clear ha ht ho
  generalize fv lad lv t = R at *
  generalize (Fm.enc t).length = n at *
  go_enter Tryz.func28, Tryz.ntmps28
  go_wp2_with fail
  refine (HO.out).mono ?_
  rintro e w1 ⟨rfl, hg1⟩
  go_wp2_with fail
  go_ret
  exact ⟨rfl, hg1⟩
theorem ladderCode_c (va : Value) (xs : List Nd) (w : World) (ha : Nodes w va xs) (hn : xs.length ≤ 1048576) :
    Calls Tryz.prog 26 #[va] w fun e w' => e = .returned (.int .i64 (lcode xs)) ∧ Grew w w' := by
  have HF := Lib.hid (isFormula_g va xs w ha (by omega))
  have HP := Lib.hid (fun W (hW : Grew w W) => isPlain_c va xs W (ha.grew hW) (by omega))
  have HV := Lib.hid (fun (h : fmB xs = true) W (hW : Grew w W) => variableMask_c va xs W (ha.grew hW) (vs_fm h) hn)
  have H1 := Lib.hid (@lcode_1 xs)
  have H5 := Lib.hid (@lcode_5 xs)
  have H0 := Lib.hid (@lcode_0 xs)
  obtain ⟨A, c, rfl⟩ := nodes_slice ha
  clear ha hn
  generalize lcode xs = R at *
  generalize vm xs = m at *
  generalize xs.length = n at *
  cases h1 : fmB xs with
  | false =>
    rw [h1] at HF
    have e1 := Lib.hid (H1.out h1)
    clear h1
    go_enter Tryz.func26, Tryz.ntmps26
    go_wp2_with fail
    refine (HF.out).mono ?_
    rintro e w1 ⟨rfl, hg1⟩
    go_wp2_with fail
    go_ret
    exact ⟨by rw [e1.out]; rfl, hg1⟩
  | true =>
    rw [h1] at HF
    have HV := Lib.hid (HV.out h1)
    have H5 := Lib.hid (H5.out h1)
    have H0 := Lib.hid (H0.out h1)
    clear h1
    cases h2 : anyP isBD xs with
    | true =>
      rw [h2] at HP
      have e1 := Lib.hid (H5.out (.inl h2))
      clear h2
      go_enter Tryz.func26, Tryz.ntmps26
      go_wp2_with fail
      refine (HF.out).mono ?_
      rintro e w1 ⟨rfl, hg1⟩
      go_wp2_with fail
      refine (HP.out _ hg1).mono ?_
      rintro e w2 ⟨rfl, hg2⟩
      go_wp2_with fail
      go_ret
      exact ⟨by rw [e1.out]; rfl, hg1.trans hg2⟩
    | false =>
      rw [h2] at HP
      by_cases h3 : 1 < m
      · have e1 := Lib.hid (H5.out (.inr h3))
        clear h2
        go_enter Tryz.func26, Tryz.ntmps26
        go_wp2_with fail
        refine (HF.out).mono ?_
        rintro e w1 ⟨rfl, hg1⟩
        go_wp2_with fail
        refine (HP.out _ hg1).mono ?_
        rintro e w2 ⟨rfl, hg2⟩
        go_wp2_with fail
        refine (HV.out _ (hg1.trans hg2)).mono ?_
        rintro e w3 ⟨rfl, hg3⟩
        go_wp2_with fail
        go_ret
        exact ⟨by rw [e1.out]; rfl, (hg1.trans hg2).trans hg3⟩
      · have e1 := Lib.hid (H0.out h2 h3)
        clear h2
        go_enter Tryz.func26, Tryz.ntmps26
        go_wp2_with fail
        refine (HF.out).mono ?_
        rintro e w1 ⟨rfl, hg1⟩
        go_wp2_with fail
        refine (HP.out _ hg1).mono ?_
        rintro e w2 ⟨rfl, hg2⟩
        go_wp2_with fail
        refine (HV.out _ (hg1.trans hg2)).mono ?_
        rintro e w3 ⟨rfl, hg3⟩
        go_wp2_with fail
        go_ret
        exact ⟨by rw [e1.out]; rfl, (hg1.trans hg2).trans hg3⟩
end Go.Proofs.YtefkgomecpnpbaaGreat

/- Nishimura formulas and the functions on indices, of the program. -/
namespace Go.Proofs.YtefkgomecpnpbaaGreat
open Go.RowKit
open Fm (Nd Tree)

theorem enc_n0 : Fm.enc (nis 0) = Fm.falsum := rfl
theorem enc_n1 : Fm.enc (nis 1) = Fm.vari 0 := rfl
theorem enc_n2 : Fm.enc (nis 2) = Fm.neg (Fm.vari 0) := rfl
set_option maxRecDepth 20000 in
theorem nish_odd (k : Nat) (hk : 2 * k + 3 ≤ 8) (ih : ∀ m, m < 2 * k + 3 → ∀ w, Calls Tryz.prog 20 #[.int .i64 (m : Int)] w (Gives w (Fm.enc (nis m)))) (w : World) :
    Calls Tryz.prog 20 #[.int .i64 ((2 * k + 3 : Nat) : Int)] w (Gives w (Fm.enc (nis (2 * k + 3)))) := by
  rw [nis_enc1]
  have l1 := nis_len (2 * k + 2) (by omega)
  have l2 := nis_len (2 * k + 1) (by omega)
  obtain ⟨N, hN⟩ : ∃ N, N = 2 * k + 3 := ⟨_, rfl⟩
  obtain ⟨a, ha⟩ : ∃ a, a = 2 * k + 2 := ⟨_, rfl⟩
  obtain ⟨b, hb⟩ : ∃ b, b = 2 * k + 1 := ⟨_, rfl⟩
  have h1 := Lib.hid (ih a (by omega))
  have h2 := Lib.hid (ih b (by omega))
  have w1 : IntKind.i64.wrap ((N : Int) - 1) = (a : Int) := by rw [IntKind.wrap_i64]; omega
  have w2 : IntKind.i64.wrap ((N : Int) - 2) = (b : Int) := by rw [IntKind.wrap_i64]; omega
  have hm : (N : Int).tmod 2 = 1 := by rw [Int.tmod_eq_emod_of_nonneg (by omega)]; omega
  have hm2 : (N : Int) % 2 = 1 := by omega
  have e0 : ¬ (N : Int) = 0 := by omega
  have e1 : ¬ (N : Int) = 1 := by omega
  have e2 : ¬ (N : Int) = 2 := by omega
  have hN8 : (N : Int) ≤ 8 := by omega
  rw [← hN, ← ha, ← hb]
  rw [← ha] at l1
  rw [← hb] at l2
  clear hN ha hb ih hk
  generalize Fm.enc (nis a) = X at *
  generalize Fm.enc (nis b) = Y at *
  go_enter Tryz.func20, Tryz.ntmps20
  go_wp2_with fail
  refine (h1.out _).mono ?_
  rintro e w3 ⟨v1, rfl, o1, g1⟩
  go_wp2_with fail
  refine (h2.out _).mono ?_
  rintro e w4 ⟨v2, rfl, o2, g2⟩
  go_wp2_with fail
  refine (join_c 3 v1 v2 X Y _ (o1.grew g2).nodes o2.nodes (by omega)).mono ?_
  rintro e w5 ⟨v3, rfl, o3, g3⟩
  go_wp2_with fail
  go_ret
  have g12 := g1.trans g2
  exact ⟨_, rfl, o3.base g12.size, g12.trans g3⟩
set_option maxRecDepth 20000 in
theorem nish_even (k : Nat) (hk : 2 * k + 4 ≤ 8) (ih : ∀ m, m < 2 * k + 4 → ∀ w, Calls Tryz.prog 20 #[.int .i64 (m : Int)] w (Gives w (Fm.enc (nis m)))) (w : World) :
    Calls Tryz.prog 20 #[.int .i64 ((2 * k + 4 : Nat) : Int)] w (Gives w (Fm.enc (nis (2 * k + 4)))) := by
  rw [nis_enc2]
  have l1 := nis_len (2 * k + 2) (by omega)
  have l2 := nis_len (2 * k + 1) (by omega)
  obtain ⟨N, hN⟩ : ∃ N, N = 2 * k + 4 := ⟨_, rfl⟩
  obtain ⟨a, ha⟩ : ∃ a, a = 2 * k + 2 := ⟨_, rfl⟩
  obtain ⟨b, hb⟩ : ∃ b, b = 2 * k + 1 := ⟨_, rfl⟩
  have h1 := Lib.hid (ih a (by omega))
  have h2 := Lib.hid (ih b (by omega))
  have w1 : IntKind.i64.wrap ((N : Int) - 2) = (a : Int) := by rw [IntKind.wrap_i64]; omega
  have w2 : IntKind.i64.wrap ((N : Int) - 3) = (b : Int) := by rw [IntKind.wrap_i64]; omega
  have hm : (N : Int).tmod 2 = 0 := by rw [Int.tmod_eq_emod_of_nonneg (by omega)]; omega
  have hm2 : (N : Int) % 2 = 0 := by omega
  have e0 : ¬ (N : Int) = 0 := by omega
  have e1 : ¬ (N : Int) = 1 := by omega
  have e2 : ¬ (N : Int) = 2 := by omega
  have hN8 : (N : Int) ≤ 8 := by omega
  rw [← hN, ← ha, ← hb]
  rw [← ha] at l1
  rw [← hb] at l2
  clear hN ha hb ih hk
  generalize Fm.enc (nis a) = X at *
  generalize Fm.enc (nis b) = Y at *
  go_enter Tryz.func20, Tryz.ntmps20
  go_wp2_with fail
  refine (h1.out _).mono ?_
  rintro e w3 ⟨v1, rfl, o1, g1⟩
  go_wp2_with fail
  refine (h2.out _).mono ?_
  rintro e w4 ⟨v2, rfl, o2, g2⟩
  go_wp2_with fail
  refine (join_c 4 v1 v2 X Y _ (o1.grew g2).nodes o2.nodes (by omega)).mono ?_
  rintro e w5 ⟨v3, rfl, o3, g3⟩
  go_wp2_with fail
  go_ret
  have g12 := g1.trans g2
  exact ⟨_, rfl, o3.base g12.size, g12.trans g3⟩
theorem nish_0 (w : World) : Calls Tryz.prog 20 #[.int .i64 0] w (Gives w (Fm.enc (nis 0))) := by
  rw [enc_n0]
  have h := Lib.hid falsum_c
  go_enter Tryz.func20, Tryz.ntmps20
  go_wp2_with fail
  refine (h.out _).mono ?_
  rintro e w3 ⟨v1, rfl, o1, g1⟩
  go_wp2_with fail
  go_ret
  exact ⟨_, rfl, o1, g1⟩
theorem nish_1 (w : World) : Calls Tryz.prog 20 #[.int .i64 1] w (Gives w (Fm.enc (nis 1))) := by
  rw [enc_n1]
  have h := Lib.hid variable_c
  go_enter Tryz.func20, Tryz.ntmps20
  go_wp2_with fail
  refine (h.out _ _).mono ?_
  rintro e w3 ⟨v1, rfl, o1, g1⟩
  go_wp2_with fail
  go_ret
  exact ⟨_, rfl, o1, g1⟩
theorem nish_2 (w : World) : Calls Tryz.prog 20 #[.int .i64 2] w (Gives w (Fm.enc (nis 2))) := by
  rw [enc_n2]
  have h := Lib.hid variable_c
  have h2 := Lib.hid (fun v W hv => negation_c v (Fm.vari 0) W hv (by decide))
  go_enter Tryz.func20, Tryz.ntmps20
  go_wp2_with fail
  refine (h.out _ _).mono ?_
  rintro e w3 ⟨v1, rfl, o1, g1⟩
  go_wp2_with fail
  refine (h2.out _ _ o1.nodes).mono ?_
  rintro e w4 ⟨v2, rfl, o2, g2⟩
  go_wp2_with fail
  go_ret
  exact ⟨_, rfl, o2.base g1.size, g1.trans g2⟩
theorem nishimura_c : ∀ (n : Nat), n ≤ 8 → ∀ w, Calls Tryz.prog 20 #[.int .i64 (n : Int)] w (Gives w (Fm.enc (nis n))) := by
  intro n
  induction n using Nat.strongRecOn with
  | ind n ih =>
    intro hn w
    by_cases h0 : n = 0
    · subst h0; exact nish_0 w
    by_cases h1 : n = 1
    · subst h1; exact nish_1 w
    by_cases h2 : n = 2
    · subst h2; exact nish_2 w
    by_cases ho : n % 2 = 1
    · obtain ⟨k, rfl⟩ : ∃ k, n = 2 * k + 3 := ⟨(n - 3) / 2, by omega⟩
      exact nish_odd k hn (fun m hm w => ih m hm (by omega) w) w
    · obtain ⟨k, rfl⟩ : ∃ k, n = 2 * k + 4 := ⟨(n - 4) / 2, by omega⟩
      exact nish_even k hn (fun m hm w => ih m hm (by omega) w) w
theorem nishimuraIndex_c (va : Value) (t : Tree) (w : World) (ha : Nodes w va (Fm.enc t)) (hc : lcode (Fm.enc t) = 0) (ht : FmOk t) (ho : Fm.One t) :
    Calls Tryz.prog 9 #[va] w fun e w' => e = .returned (.tuple #[.int .i64 (nix (Fm.nc t)), .int .i64 0]) ∧ Grew w w' := by
  have HC := Lib.hid (ladderCode_c va (Fm.enc t) w ha (by have := ht.1; omega))
  rw [hc] at HC
  have HV := Lib.hid (fun W (hW : Grew w W) => ladderValue_c va t W (ha.grew hW) ht ho)
  obtain ⟨r1, r2⟩ := nix_range ht.1
  have HI := Lib.hid (fun W => indexOf_c (nix (Fm.nc t)) r1 r2 W)
  obtain ⟨A, c, rfl⟩ := nodes_slice ha
  clear ha hc ht ho r1 r2
  generalize isetI (nix (Fm.nc t)) = S at *
  generalize nix (Fm.nc t) = d at *
  generalize (Fm.enc t).length = n at *
  go_enter Tryz.func9, Tryz.ntmps9
  go_wp2_with fail
  refine (HC.out).mono ?_
  rintro e w1 ⟨rfl, hg1⟩
  go_wp2_with fail
  refine (HV.out _ hg1).mono ?_
  rintro e w2 ⟨rfl, hg2⟩
  go_wp2_with fail
  refine (HI.out _).mono ?_
  rintro e w3 ⟨rfl, hg3⟩
  go_wp2_with fail
  go_ret2
  exact ⟨rfl, (hg1.trans hg2).trans hg3⟩
theorem ladderVal_c (va : Value) (t : Tree) (w : World) (ha : Nodes w va (Fm.enc t)) (hc : lcode (Fm.enc t) = 0) (ht : FmOk t) (ho : Fm.One t) :
    Calls Tryz.prog 10 #[va] w fun e w' => e = .returned (.tuple #[.int .i64 ((isetI (nix (Fm.nc t)) : Nat) : Int), .int .i64 0]) ∧ Grew w w' := by
  have HC := Lib.hid (ladderCode_c va (Fm.enc t) w ha (by have := ht.1; omega))
  rw [hc] at HC
  have HV := Lib.hid (fun W (hW : Grew w W) => ladderValue_c va t W (ha.grew hW) ht ho)
  obtain ⟨A, c, rfl⟩ := nodes_slice ha
  clear ha hc ht ho
  generalize isetI (nix (Fm.nc t)) = S at *
  generalize (Fm.enc t).length = n at *
  go_enter Tryz.func10, Tryz.ntmps10
  go_wp2_with fail
  refine (HC.out).mono ?_
  rintro e w1 ⟨rfl, hg1⟩
  go_wp2_with fail
  refine (HV.out _ hg1).mono ?_
  rintro e w2 ⟨rfl, hg2⟩
  go_wp2_with fail
  go_ret2
  exact ⟨rfl, hg1.trans hg2⟩
theorem lcode_or {xs : List Nd} (h : lcode xs ≠ 0) : lcode xs = 1 ∨ lcode xs = 5 := by
  unfold lcode at *
  split
  · exact .inl rfl
  · split
    · exact .inr rfl
    · rename_i h1 h2; rw [if_neg h1, if_neg h2] at h; exact absurd rfl h
theorem nishOf_no (va : Value) (xs : List Nd) (w : World) (ha : Nodes w va xs) (hn : xs.length ≤ 1048576) (hc : lcode xs ≠ 0) :
    Calls Tryz.prog 6 #[va] w (GivesC2 w ([], lcode xs)) := by
  have HC := Lib.hid (ladderCode_c va xs w ha hn)
  have KI : Hid (Calls Tryz.prog 9 #[va] w fun e w' => e = .returned (.tuple #[.int .i64 0, .int .i64 (lcode xs)]) ∧ Grew w w') := by
    obtain ⟨A, c, rfl⟩ := nodes_slice ha
    clear ha hn
    generalize lcode xs = d at *
    generalize xs.length = n at *
    refine Lib.hid ?_
    go_enter Tryz.func9, Tryz.ntmps9
    go_wp2_with fail
    refine (HC.out).mono ?_
    rintro e w1 ⟨rfl, hg1⟩
    go_wp2_with fail
    go_ret2
    exact ⟨rfl, hg1⟩
  obtain ⟨A, c, rfl⟩ := nodes_slice ha
  clear ha hn HC
  generalize lcode xs = d at *
  generalize xs.length = n at *
  go_enter Tryz.func6, Tryz.ntmps6
  go_wp2_with fail
  refine (KI.out).mono ?_
  rintro e w1 ⟨rfl, hg1⟩
  go_wp2_with fail
  go_ret2
  exact ⟨_, rfl, Own.nil_ _ _, hg1⟩
theorem noL_neg : noL (-1) = (Fm.truth, 0) := rfl
theorem noL_big {i : Int} (h : 8 < i) : noL i = ([], 3) := by unfold noL; rw [if_pos h]
theorem noL_nat {n : Nat} (h : n ≤ 8) : noL (n : Int) = (Fm.enc (nis n), 0) := by unfold noL; rw [if_neg (by omega), nisI_nat]
theorem nishOf_yes (va : Value) (t : Tree) (w : World) (ha : Nodes w va (Fm.enc t)) (hc : lcode (Fm.enc t) = 0) (ht : FmOk t) (ho : Fm.One t) :
    Calls Tryz.prog 6 #[va] w (GivesC2 w (noL (nix (Fm.nc t)))) := by
  have KI := Lib.hid (nishimuraIndex_c va t w ha hc ht ho)
  have KT := Lib.hid truth_c
  have KN := Lib.hid nishimura_c
  obtain ⟨r1, r2⟩ := nix_range ht.1
  obtain ⟨A, c, rfl⟩ := nodes_slice ha
  clear ha hc ht ho
  generalize nix (Fm.nc t) = d at *
  generalize (Fm.enc t).length = n at *
  by_cases h1 : d = -1
  · subst h1
    rw [noL_neg]
    go_enter Tryz.func6, Tryz.ntmps6
    go_wp2_with fail
    refine (KI.out).mono ?_
    rintro e w1 ⟨rfl, hg1⟩
    go_wp2_with fail
    refine (KT.out _).mono ?_
    rintro e w2 ⟨v2, rfl, o2, hg2⟩
    go_wp2_with fail
    go_ret2
    exact ⟨_, rfl, o2.base hg1.size, hg1.trans hg2⟩
  by_cases h8 : 8 < d
  · rw [noL_big h8]
    go_enter Tryz.func6, Tryz.ntmps6
    go_wp2_with fail
    refine (KI.out).mono ?_
    rintro e w1 ⟨rfl, hg1⟩
    go_wp2_with fail
    go_ret2
    exact ⟨_, rfl, Own.nil_ _ _, hg1⟩
  · obtain ⟨m, rfl⟩ : ∃ m : Nat, d = (m : Int) := ⟨d.toNat, by omega⟩
    have hm : m ≤ 8 := by omega
    rw [noL_nat hm]
    have KN := Lib.hid (KN.out m hm)
    generalize Fm.enc (nis m) = X at *
    go_enter Tryz.func6, Tryz.ntmps6
    go_wp2_with fail
    refine (KI.out).mono ?_
    rintro e w1 ⟨rfl, hg1⟩
    go_wp2_with fail
    refine (KN.out _).mono ?_
    rintro e w2 ⟨v2, rfl, o2, hg2⟩
    go_wp2_with fail
    go_ret2
    exact ⟨_, rfl, o2.base hg1.size, hg1.trans hg2⟩
theorem indexSetE_c (i : Int) (h1 : -1 ≤ i) (h2 : i ≤ 40) (w : World) : Calls Tryz.prog 11 #[.int .i64 i] w fun e w' => e = .returned (.tuple #[.int .i64 ((isetI i : Nat) : Int), .int .i64 0]) ∧ Grew w w' := by
  have HS := Lib.hid (fun W => indexSet_c i h1 (by omega) W)
  have HR := Lib.hid (inRange_q i (-1) 40)
  rw [decide_eq_true (by omega)] at HR
  have HX : Hid (∀ W, Calls Tryz.prog 29 #[.int .i64 i] W fun e w' => e = .returned (.bool true) ∧ w' = W) := Lib.hid (fun W => by
    go_enter Tryz.func29, Tryz.ntmps29
    go_wp2_with fail
    refine (HR.out _).mono ?_
    rintro e w1 ⟨rfl, rfl⟩
    go_wp2_with fail
    go_ret
    exact ⟨rfl, rfl⟩)
  generalize isetI i = S at *
  clear h1 h2 HR
  go_enter Tryz.func11, Tryz.ntmps11
  go_wp2_with fail
  refine (HX.out _).mono ?_
  rintro e w1 ⟨rfl, rfl⟩
  go_wp2_with fail
  refine (HS.out _).mono ?_
  rintro e w2 ⟨rfl, hg2⟩
  go_wp2_with fail
  go_ret2
  exact ⟨rfl, hg2⟩
/-- The least element that a set lacks. -/
def fstN (S : Nat) : Nat := nt (mbs (dif (full 28) S)) 0
theorem fst_ok : ∀ i, i < 54 → 0 < (mbs (dif (full 28) (iset i))).length ∧ fstN (iset i) < 28 ∧ (iset i).testBit (fstN (iset i)) = false ∧ iset i &&& full (fstN (iset i)) = full (fstN (iset i)) := by decide +kernel
theorem firstLadder_c (va : Value) (t : Tree) (w : World) (ha : Nodes w va (Fm.enc t)) (hc : lcode (Fm.enc t) = 0) (ht : FmOk t) (ho : Fm.One t) :
    Calls Tryz.prog 12 #[va] w fun e w' => e = .returned (.tuple #[.int .i64 (if nix (Fm.nc t) = -1 then 0 else ((fstN (isetI (nix (Fm.nc t))) : Nat) : Int)), .int .i64 (if nix (Fm.nc t) = -1 then 4 else 0)]) ∧ Grew w w' := by
  have HC := Lib.hid (ladderCode_c va (Fm.enc t) w ha (by have := ht.1; omega))
  rw [hc] at HC
  have HV := Lib.hid (fun W (hW : Grew w W) => ladderValue_c va t W (ha.grew hW) ht ho)
  have HN := Lib.hid indexSet_neg
  obtain ⟨r1, r2⟩ := nix_range ht.1
  obtain ⟨A, c, rfl⟩ := nodes_slice ha
  clear ha hc ht ho
  generalize (Fm.enc t).length = n at *
  by_cases h1 : nix (Fm.nc t) = -1
  · rw [h1] at HV
    rw [if_pos h1, if_pos h1]
    have e1 : isetI (-1) = 268435455 := by decide
    rw [e1] at HV
    clear h1 r1 r2 e1
    go_enter Tryz.func12, Tryz.ntmps12
    go_wp2_with fail
    refine (HC.out).mono ?_
    rintro e w1 ⟨rfl, hg1⟩
    go_wp2_with fail
    refine (HV.out _ hg1).mono ?_
    rintro e w2 ⟨rfl, hg2⟩
    go_wp2_with fail
    refine (HN.out _).mono ?_
    rintro e w3 ⟨rfl, rfl⟩
    go_wp2_with fail
    go_ret2
    exact ⟨rfl, hg1.trans hg2⟩
  · rw [if_neg h1, if_neg h1]
    obtain ⟨m, hm⟩ : ∃ m : Nat, nix (Fm.nc t) = (m : Int) := ⟨(nix (Fm.nc t)).toNat, by omega⟩
    rw [hm] at HV r2 ⊢
    rw [isetI_nat] at HV ⊢
    obtain ⟨f1, f2, f3, f4⟩ := fst_ok m (by omega)
    have hS := iset_lt m (by omega)
    have e28 : full 28 = 268435455 := by decide
    have hne : ¬ ((iset m : Nat) : Int) = 268435455 := fun e => iset_full m (by omega) (by omega)
    clear e28
    have ha := andNot_i64 (full 28) (iset m) (by decide) (by omega)
    have hdl : dif (full 28) (iset m) < 2 ^ 28 := Nat.lt_of_le_of_lt dif_le (full_lt 28)
    have e1 : ((full 28 : Nat) : Int) = 268435455 := by decide
    rw [e1] at ha
    have KM := Lib.hid (fun W => membersOf_c (dif (full 28) (iset m)) (by omega) W)
    have HFE : Hid (nt (mbs (dif (full 28) (iset m))) 0 = fstN (iset m)) := Lib.hid rfl
    clear h1 hm f2 f3 f4 r1 r2 e1 hdl
    generalize fstN (iset m) = F at *
    generalize iset m = S at *
    generalize dif (full 28) S = D at *
    go_enter Tryz.func12, Tryz.ntmps12
    go_wp2_with fail
    refine (HC.out).mono ?_
    rintro e w1 ⟨rfl, hg1⟩
    go_wp2_with fail
    refine (HV.out _ hg1).mono ?_
    rintro e w2 ⟨rfl, hg2⟩
    go_wp2_with fail
    refine (HN.out _).mono ?_
    rintro e w3 ⟨rfl, rfl⟩
    go_wp2_with fail
    refine (HN.out _).mono ?_
    rintro e w3 ⟨rfl, rfl⟩
    go_wp2_with fail
    refine (KM.out _).mono ?_
    rintro e w4 ⟨v4, rfl, o4, hg4⟩
    obtain ⟨A4, c4, rfl⟩ := ints_sliceN o4.ints
    obtain ⟨b, o, rfl, hcell⟩ := cellsN o4.ints f1
    have k0 := hcell 0 f1 _ (Grew.refl _)
    rw [HFE.out, Nat.add_zero] at k0
    have hlp : (0 : Int) < ((mbs D).length : Int) := by omega
    clear hcell o4
    generalize (mbs D).length = q at *
    go_wp2_with fail
    go_ret2
    exact ⟨rfl, (hg1.trans hg2).trans hg4⟩
end Go.Proofs.YtefkgomecpnpbaaGreat

/- Elements of posets: hasElement; what holds of a poset, a valuation and an element. -/
namespace Go.Proofs.YtefkgomecpnpbaaGreat
open Go.RowKit

def elB (sz x : Int) : Bool := decide (0 ≤ x) && decide (x ≤ sz - 1)
theorem el_ok {sz x : Int} (h : elB sz x = true) : 0 ≤ x ∧ x ≤ sz - 1 := by
  unfold elB at h
  simpa using h
theorem val_ok {sz : Int} {L V : List Int} (h : valB sz L V = true) : posB sz L = true ∧ V.length = 6 ∧ V.all (upB (nats L)) = true := by
  unfold valB at h
  simp only [Bool.and_eq_true, decide_eq_true_eq] at h
  exact h
theorem all_mks {A : List Nat} {V : List Int} (h : V.all (upB A) = true) : mks A.length V = true := by
  unfold mks
  rw [List.all_eq_true] at h ⊢
  intro x hx
  have := h x hx
  unfold upB at this
  rw [Bool.and_eq_true] at this
  exact this.1
/-- What holds of a poset, a valuation and an element. -/
theorem cut_ok {sz : Int} {L V : List Int} {x : Int} (h : valB sz L V = true) (hx : elB sz x = true) :
    sz = (L.length : Int) ∧ L.length ≤ 8 ∧ Rl (nats L) ∧ zs (nats L) = L ∧ zs (nats V) = V ∧ V.length = 6 ∧ Sm (nats V) ∧ nt (nats L) x.toNat < 2 ^ L.length ∧ x.toNat < L.length ∧ x = (x.toNat : Int) := by
  obtain ⟨h1, h2, h3⟩ := val_ok h
  obtain ⟨rfl, h5, h6, h7, h8, _⟩ := posB_ok h1
  obtain ⟨e1, e2⟩ := el_ok hx
  have hm := all_mks h3
  rw [nats_len] at hm
  have hV := nats_ok hm
  have hxl : x.toNat < L.length := by omega
  refine ⟨rfl, h5, h6, h7, hV.1, h2, ?_, ?_, hxl, by omega⟩
  · intro m hm
    exact Nat.lt_of_lt_of_le (hV.2 m hm) (pow30' (by omega))
  · have := (nats_ok h8).2 _ (nt_mem (L := nats L) (i := x.toNat) (by rw [nats_len]; exact hxl))
    exact this
end Go.Proofs.YtefkgomecpnpbaaGreat

/- A result that is a struct in a cell and two slots; what CutDown gives. -/
namespace Go.Proofs.YtefkgomecpnpbaaGreat
open Go.RowKit

theorem results_cell_tmp2_row {P : Program} {fn : Func} {p u v : Tmp} {ty : TypeId} (h : fn.results = #[.cell p ty, .tmp u, .tmp v]) (tmps : Array Value) (w : World) (g : Nat) (t : TypeId) (cs : Array Value) (fr : Nat × Nat) (d : TypeDesc)
    (hp : tmps.getD p undef = .pointer (some ⟨g, 0, none⟩)) (hg : w.heap[g]? = some (.cells cs t fr))
    (hu : P.underlying ty = some d) (hd : (match d with | .struct _ | .array _ _ => true | _ => false) = true) (hi : (P.info? ty).map (·.size) = some cs.size) :
    (results fn tmps).run P w = .ok (.tuple #[.agg cs, tmps.getD u undef, tmps.getD v undef]) w := by
  have hp' : tmps[p]?.getD undef = .pointer (some ⟨g, 0, none⟩) := by simpa using hp
  simp [results, h, hp', asAddr, run_loadVar_row w g t ty cs fr d hg hu hd hi]

/-- CutDown: the part of the poset, of the valuation, the code. -/
def cutF (sz : Int) (L V : List Int) (x : Int) : List Int × List Int × Int :=
  if valB sz L V then (if elB sz x then (zs (prt (nats L) (nt (nats L) x.toNat)), zs (sqa (nats V) (nt (nats L) x.toNat)), 0) else ([], [], 2)) else ([], [], 1)
def GivesCD (w : World) (r : List Int × List Int × Int) (e : Ending) (w' : World) : Prop :=
  ∃ v u, e = .returned (.tuple #[.agg #[.int .i64 (r.1.length : Int), v], u, .int .i64 r.2.2]) ∧ OwnI w' w.heap.size v r.1 ∧ OwnI w' w.heap.size u r.2.1 ∧ (∀ g, v.ownBlock = some g → u.ownBlock ≠ some g) ∧ Grew w w'
theorem cut_no1 {sz : Int} {L V : List Int} {x : Int} (h : valB sz L V = false) : cutF sz L V x = ([], [], 1) := by unfold cutF; rw [h]; rfl
theorem cut_no2 {sz : Int} {L V : List Int} {x : Int} (h : valB sz L V = true) (hx : elB sz x = false) : cutF sz L V x = ([], [], 2) := by unfold cutF; rw [h, hx]; rfl
theorem cut_yes {sz : Int} {L V : List Int} {x : Int} (h : valB sz L V = true) (hx : elB sz x = true) :
    cutF sz L V x = (zs (prt (nats L) (nt (nats L) x.toNat)), zs (sqa (nats V) (nt (nats L) x.toNat)), 0) := by unfold cutF; rw [h, hx]; rfl
end Go.Proofs.YtefkgomecpnpbaaGreat

/- Parts of posets of the reference: l16Make, l16Part. -/
namespace Go.Proofs.YtefkgomecpnpbaaGreat
open Go.RowKit

/-- 'append(out, x)' as one step of a region. -/
theorem step_appI {ops : Array Oper} {o : Oper} {a : Act} {K : Act → World → Prop} {Q : Exit → Act → World → Prop} {E : Prop} {w : World} (B : Nat) (hgd : o.guard = none) (s x : Operand)
    (ho : o.op = .call { callee := .builtin .append, args := #[s, x], argTypes := #[47, 47] })
    (v : Value) (L : List Int) (hs : a.eval s = v) (hown : OwnI w B v L) (hB : B ≤ w.heap.size) (vx : Value) (k : Int) (hx : a.eval x = vx) (hr : Rd w 1 vx 1 [.int .i64 k]) (hn : L.length ≤ 1048576)
    (h : ∀ v' w', OwnI w' B v' (L ++ [k]) → w.grownBy w' v.ownBlock → K (a.put o.dst v') w') : if Region.wanted o (yielded ops a.tmps) = true then Oper.wp Tryz.prog o a w K Q else E := by
  obtain ⟨i0, hi0, hz0, hz1, hz2⟩ := info_parts Tryz.infoI
  have hw : Region.wanted o (yielded ops a.tmps) = true := by simp [Region.wanted, hgd]
  rw [if_pos hw]
  obtain ⟨hl, _, hr⟩ := hr
  rcases hr with ⟨rfl, h0⟩ | ⟨b, of, c, rfl, _, _, _, hc⟩
  · exact absurd h0 (by omega)
  · obtain ⟨v', w', hrun, h2, h3, _, _⟩ := run_append_own_at (P := Tryz.prog) w B _ o.type 2 i0 _ 1 8 Tryz.underlying47 hi0 hz0 hz1 hz2 rfl (by omega) v L.length (icells L) hown ⟨b, of, none⟩ 1 c [.int .i64 k] hl (fun j u hu => by rw [Addr.add_lit]; exact hc j u hu) (by simp [Value.oneCell']) (by unfold maxLen; omega) (by omega) hB
    unfold Oper.wp execOp
    simp only [ho, resolve, invoke, builtin, Sem.run_bind, Sem.run_pure, Result.andThen_ok, List.map_toArray, List.map_cons, List.map_nil, hs, hx, hrun]
    refine h v' w' ?_ h3
    unfold OwnI
    rw [List.length_append, icells_append]
    exact h2
theorem l16Make_c (v : Value) (L : List Int) (w : World) (h : Ints w v L) (hn : L.length ≤ 1099511627776) :
    Calls Tryz.prog 74 #[v] w (GivesPs w L) := by
  have hinfo := info2P
  have HC := Lib.hid (fun W hW => ownR_c v L W (h.grew hW) hn)
  have hmx : L.length ≤ 9223372036854775807 := h.2.1
  obtain ⟨A, c, rfl⟩ := ints_slice h
  clear h
  generalize hNL : L.length = n at *
  go_enter Tryz.func74, Tryz.ntmps74
  go_wp2_with fail
  refine (HC.out _ ((Grew.refl w).alloc _)).mono ?_
  rintro e w2 ⟨v2, rfl, hO2, hg2⟩
  obtain ⟨A2, c2, rfl⟩ := ints_slice hO2.ints
  have hb2 : w2.heap[w.heap.size]? = some (.cells #[.int .i64 0, .slice none 0 0] 63 (0, 0)) := (hg2.block (by simp)).trans (blk_new w _)
  have c0 : w2.cell? ⟨w.heap.size, 0, none⟩ = some (.int .i64 0) := by rw [blk_cell hb2]; rfl
  have c1 : w2.cell? ⟨w.heap.size, 1, none⟩ = some (.slice none 0 0) := by rw [blk_cell hb2]; rfl
  have f0 := blk_frozen hb2 0
  have f1 := blk_frozen hb2 1
  have HB2 := Lib.hid hb2
  have HO2 := Lib.hid hO2
  clear hb2 hO2
  rw [hNL]
  go_wp2_with fail
  (try simp only [Exit.inBlock, Exit.then])
  refine bodyPost_ret (results_cell_row rfl _ _ w.heap.size _ _ _ _ rfl (blk_set (blk_set HB2.out 0 _) 1 _) Tryz.underlying63 rfl hinfo) rfl ?_
  have hk : Only w.heap.size w2 ((w2.setCell ⟨w.heap.size, 0, none⟩ (.int .i64 (n : Int))).setCell ⟨w.heap.size, 1, none⟩ (.slice A2 n c2)) := ((Only.refl _ _).setCell _).setCell _
  have hO := HO2.out
  rw [hNL] at hO
  refine ⟨_, by rw [hNL]; rfl, ?_, (((Grew.refl w).alloc _).trans hg2).setCell (Nat.le_refl _) _ |>.setCell (Nat.le_refl _) _⟩
  exact OwnI.base (own_only hO hk (fun hh => by have := own_of_ge hO hh; simp at this; omega)) (by simp)
end Go.Proofs.YtefkgomecpnpbaaGreat

/- Formulas of two parts. -/
namespace Go.Proofs.YtefkgomecpnpbaaGreat
open Go.RowKit

/-- The formula has two parts. -/
def TwoF (A p q : Fm.Tree) : Prop := Fm.enc A = (kindOf A, 0) :: (Fm.enc p ++ Fm.enc q)
theorem TwoF.len {A p q : Fm.Tree} (h : TwoF A p q) : (Fm.enc A).length = 1 + (Fm.enc p).length + (Fm.enc q).length := by rw [h]; simp; omega
end Go.Proofs.YtefkgomecpnpbaaGreat

/- The parts of a formula in the reference. -/
namespace Go.Proofs.YtefkgomecpnpbaaGreat
open Go.RowKit
open Fm (Nd Tree)

theorem left_t {A x y : Tree} (h2 : TwoF A x y) (hA : FmOk A) (v : Value) (w : World) (h : Nodes w v (Fm.enc A)) : Calls Tryz.prog 71 #[v] w (Cuts w (Fm.enc x)) :=
  l02Left_c v (Fm.enc A) x w h (by have := hA.1; omega) (at_first h2)
theorem right_t {A x y : Tree} (h2 : TwoF A x y) (hA : FmOk A) (v : Value) (w : World) (h : Nodes w v (Fm.enc A)) : Calls Tryz.prog 72 #[v] w (Cuts w (Fm.enc y)) :=
  l02Right_c v (Fm.enc A) x y w h (by have := hA.1; omega) (at_first h2) (at_second h2) h2.len
theorem two_and (x y : Tree) : TwoF (.and x y) x y := rfl
theorem two_or (x y : Tree) : TwoF (.or x y) x y := rfl
theorem two_imp (x y : Tree) : TwoF (.imp x y) x y := rfl
/-- A head's cell. -/
theorem head_t {w : World} {v : Value} {t : Tree} (h : Nodes w v (Fm.enc t)) : ∃ b o n c, v = .slice (some ⟨b, o, none⟩) n c ∧ 0 < n ∧ n = (Fm.enc t).length ∧ ∀ W, Grew w W → W.cell? ⟨b, o, none⟩ = some (.int .i64 (kindOf t)) := by
  obtain ⟨b, o, c, h1, _, _, h4⟩ := nodes_head h
  exact ⟨b, o, _, c, h1, Fm.enc_pos t, rfl, h4⟩

end Go.Proofs.YtefkgomecpnpbaaGreat

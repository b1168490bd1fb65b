/- Texts in one file: TyT NrT TmMap TmPut TmCt TmCtA TmPutS TmCtS TmCtB TyO TyJ TyQ TyP TyB TyS TySP TySJ TySD TySA TySB TySC TySZ TyV TyW1. -/
import Derived.Deep.RegionHeld3
import Derived.ArgAppend
import Derived.Test.YthofkdpmgjkgkaaGreatPz1
import Derived.Test.YthofkdpmgjkgkaaGreatPz2

/- The types of terms, as trees. No program is in sight. -/
namespace Go.Proofs.YthofkdpmgjkgkaaGreat
open Go.RowKit
open Tr (Tm)

/-- The text of a formula. -/
def tx (A : Fm.Tree) : ByteArray := bs (Fm.txt A 0)
/-- A formula of the size of a text. -/
def FmOk (A : Fm.Tree) : Prop := (Fm.enc A).length ≤ 40 ∧ anyP isBD (Fm.enc A) = false
theorem tx_pf {A : Fm.Tree} (h : (Fm.enc A).length ≤ 40) : Fm.pf (tx A) = (Fm.enc A, 0, 0) := Fm.pf_txt A (by have := Fm.txt_len A 0; omega) h
theorem tx_size {A : Fm.Tree} (h : (Fm.enc A).length ≤ 40) : (tx A).size ≤ 160 := by
  unfold tx
  rw [bs_size]
  have := Fm.txt_len A 0
  omega
theorem tx_inj {A B : Fm.Tree} (ha : (Fm.enc A).length ≤ 40) (hb : (Fm.enc B).length ≤ 40) (h : tx A = tx B) : A = B := by
  have h1 := tx_pf ha
  rw [h, tx_pf hb] at h1
  simp only [Prod.mk.injEq, and_true] at h1
  exact (enc_inj h1).symm
theorem gp_tx {A : Fm.Tree} (h : FmOk A) : gp (tx A) = true := by
  unfold gp
  rw [gd_true ⟨A, tx_pf h.1, rfl⟩, tx_pf h.1]
  simp [h.2]
theorem gp_tree {s : ByteArray} (h : gp s = true) : ∃ A, FmOk A ∧ tx A = s := by
  unfold gp at h
  simp only [Bool.and_eq_true, Bool.not_eq_true'] at h
  have hg : IsGood s := by
    by_cases hg : IsGood s
    · exact hg
    · rw [gd_false hg] at h; exact absurd h.1 (by simp)
  obtain ⟨A, h1, h2⟩ := hg
  have hl := Fm.pf_len s
  rw [h1] at hl h
  exact ⟨A, ⟨hl, h.2⟩, h2⟩
theorem tx_ne (A : Fm.Tree) : (tx A).toList.isEmpty = false := by
  have h1 := Fm.txt_pos A 0
  unfold tx
  cases he : Fm.txt A 0 with
  | nil => rw [he] at h1; simp at h1
  | cons x xs =>
    have := Lib.bytes_beq_iff (bs (x :: xs)) ByteArray.empty
    cases hq : (bs (x :: xs)).toList.isEmpty with
    | false => rfl
    | true =>
      exfalso
      have h2 : (bs (x :: xs)).toList = ByteArray.empty.toList := by
        rw [List.isEmpty_iff] at hq
        rw [hq]; exact (by unfold ByteArray.toList ByteArray.toList.loop; rfl : ([] : List UInt8) = ByteArray.empty.toList)
      have h3 := this.1 (by rw [h2]; simp)
      have h4 := congrArg ByteArray.size h3
      rw [bs_size] at h4
      simp at h4

/-- The formula that a text is the text of. -/
noncomputable def fo (s : ByteArray) : Fm.Tree := @dite _ (gp s = true) (Classical.propDecidable _) (fun h => Classical.choose (gp_tree h)) (fun _ => .fls)
theorem fo_ok {s : ByteArray} (h : gp s = true) : FmOk (fo s) ∧ tx (fo s) = s := by
  unfold fo
  rw [dif_pos h]
  exact Classical.choose_spec (gp_tree h)

/-- The formula, if it has not too many nodes. -/
def smallF (A : Fm.Tree) : Option Fm.Tree := if (Fm.enc A).length ≤ 40 then some A else none
/-- The type of a node whose parts have types. -/
noncomputable def tyLam (A : Fm.Tree) (b : Option Fm.Tree) : Option Fm.Tree := b.bind fun B => smallF (.imp A B)
noncomputable def ty1 (k : Int) (A : Fm.Tree) : Fm.Tree → Option Fm.Tree := fun a =>
  if k = 4 then (match a with | .and p _ => some p | _ => none)
  else if k = 5 then (match a with | .and _ q => some q | _ => none)
  else if k = 6 then smallF (.or a A)
  else if k = 7 then smallF (.or A a)
  else (match a with | .fls => some A | _ => none)
noncomputable def ty2 (k : Int) (f u : Fm.Tree) : Option Fm.Tree :=
  if k = 3 then smallF (.and f u) else (match f with | .imp p q => if @decide (p = u) (Classical.propDecidable _) then some q else none | _ => none)
/-- The type of a term in an assumption list. -/
noncomputable def ty : List Fm.Tree → Tm → Option Fm.Tree
  | G, .t0 x => G[x.2.1.toNat]?
  | G, .t1 x a => if x.1 = 1 then (if G.length < 12 then tyLam (fo x.2.2) (ty (G ++ [fo x.2.2]) a) else none) else (ty G a).bind (ty1 x.1 (fo x.2.2))
  | G, .t2 x f u => (ty G f).bind fun F => (ty G u).bind fun U => ty2 x.1 F U
  | G, .t3 _ c a b => (ty G c).bind fun C => match C with
      | .or p q => if G.length < 12 then ((ty (G ++ [p]) a).bind fun R => (ty (G ++ [q]) b).bind fun S => if @decide (R = S) (Classical.propDecidable _) then some R else none) else none
      | _ => none

theorem anyP_mem {p : Int → Int → Bool} {xs : List Fm.Nd} : anyP p xs = false ↔ ∀ x ∈ xs, p x.1 x.2 = false := by
  constructor
  · intro h x hx
    obtain ⟨i, hi, rfl⟩ := List.getElem_of_mem hx
    cases hq : p xs[i].1 xs[i].2 with
    | false => rfl
    | true =>
      have := anyP_at (p := p) hi (by simpa [kd, sy, List.getD, hi] using hq)
      rw [this] at h; cases h
  · intro h
    apply anyP_no
    intro i hi
    have := h xs[i] (List.getElem_mem hi)
    simpa [kd, sy, List.getD, hi] using this
theorem FmOk.bin {k : Int} {A B : Fm.Tree} {C : Fm.Tree} (he : Fm.enc C = (k, 0) :: (Fm.enc A ++ Fm.enc B)) (h : FmOk C) : FmOk A ∧ FmOk B := by
  obtain ⟨h1, h2⟩ := h
  rw [he] at h1 h2
  rw [anyP_mem] at h2
  simp only [List.length_cons, List.length_append] at h1
  exact ⟨⟨by omega, anyP_mem.2 fun x hx => h2 x (by simp [hx])⟩, ⟨by omega, anyP_mem.2 fun x hx => h2 x (by simp [hx])⟩⟩
theorem FmOk.join {k : Int} {A B : Fm.Tree} {C : Fm.Tree} (he : Fm.enc C = (k, 0) :: (Fm.enc A ++ Fm.enc B)) (hk : k ≠ 5 ∧ k ≠ 6) (hA : FmOk A) (hB : FmOk B) (hl : (Fm.enc C).length ≤ 40) : FmOk C := by
  refine ⟨hl, anyP_mem.2 ?_⟩
  rw [he]
  intro x hx
  simp only [List.mem_cons, List.mem_append] at hx
  rcases hx with rfl | hx | hx
  · unfold isBD
    have h5 : (k == 5) = false := by simpa using hk.1
    have h6 : (k == 6) = false := by simpa using hk.2
    show (k == 5 || k == 6) = false
    rw [h5, h6]; rfl
  · exact anyP_mem.1 hA.2 x hx
  · exact anyP_mem.1 hB.2 x hx
theorem smallF_ok {A B : Fm.Tree} (h : smallF A = some B) : A = B ∧ (Fm.enc B).length ≤ 40 := by
  unfold smallF at h
  split at h
  · simp at h; subst h; exact ⟨rfl, ‹_›⟩
  · cases h
end Go.Proofs.YthofkdpmgjkgkaaGreat

/- The way to the normal term: the leftmost redex is contracted, at most 200 times. No program is in sight. -/
namespace Go.Proofs.YthofkdpmgjkgkaaGreat
open Go.RowKit
open Tr (Tm)

theorem redL_mem {xs : List Tn} {j : Nat} {x : Int} (h : x ∈ redL xs j) : ∃ i : Nat, x = i ∧ i < j ∧ rdxAt xs i = true := by
  induction j with
  | zero => simp [redL] at h
  | succ j ih =>
    rw [redL] at h
    split at h
    · rename_i hr
      rw [List.mem_append] at h
      rcases h with h | h
      · obtain ⟨i, h1, h2, h3⟩ := ih h
        exact ⟨i, h1, by omega, h3⟩
      · simp at h
        exact ⟨j, h, by omega, hr⟩
    · obtain ⟨i, h1, h2, h3⟩ := ih h
      exact ⟨i, h1, by omega, h3⟩

theorem goodN_fits {x : Tn} (h : GoodN x) : x.2.2.size ≤ 1048576 := by
  have hempty : ∀ s : ByteArray, s.toList.isEmpty = true → s.size ≤ 1048576 := fun s hs => by
    have h1 : (s.toList == ByteArray.empty.toList) = true := by
      rw [List.isEmpty_iff] at hs
      rw [hs]
      have h2 : ByteArray.empty.toList = [] := by unfold ByteArray.toList ByteArray.toList.loop; rfl
      rw [h2]; rfl
    have := (Lib.bytes_beq_iff s ByteArray.empty).1 h1
    rw [this]; decide
  unfold GoodN tnB at h
  split at h
  · simp only [Bool.and_eq_true] at h
    exact hempty _ h.2
  · split at h
    · simp only [Bool.and_eq_true] at h
      obtain ⟨A, h1, h2⟩ := gp_tree h.2
      have := tx_size h1.1
      rw [h2] at this
      omega
    · simp only [Bool.and_eq_true] at h
      exact hempty _ h.2
theorem good_fits {t : Tm} (h : Good t) : FitsT (Tr.enc t) := by
  intro i hi
  have h1 := wf_all t h _ (List.getElem_mem hi)
  have h2 := goodN_fits h1
  rw [tk_lt hi] at h2
  exact h2

/-- The normal term and the number of contractions, or a code; at most k contractions more. -/
noncomputable def nrm : Nat → Tm → Int → List Tn × Int × Int
  | 0, t, _ => match redL (Tr.enc t) (Tr.enc t).length with
    | [] => (Tr.enc t, 200, 0)
    | _ :: _ => ([], 0, 3)
  | k + 1, t, n => match redL (Tr.enc t) (Tr.enc t).length with
    | [] => (Tr.enc t, 200 - ((k + 1 : Nat) : Int), 0)
    | i :: _ => if (limT (ctAt t n i.toNat)).2 = 0 then nrm k (ctT t n i.toNat) n else ([], 0, 3)
theorem nrm_done {k : Nat} {t : Tm} {n : Int} (h : redL (Tr.enc t) (Tr.enc t).length = []) : nrm k t n = (Tr.enc t, 200 - (k : Int), 0) := by
  cases k with
  | zero => rw [nrm, h]; rfl
  | succ k => rw [nrm, h]
theorem nrm_stop {t : Tm} {n i : Int} {L : List Int} (h : redL (Tr.enc t) (Tr.enc t).length = i :: L) : nrm 0 t n = ([], 0, 3) := by rw [nrm, h]
theorem nrm_big {k : Nat} {t : Tm} {n i : Int} {L : List Int} (h : redL (Tr.enc t) (Tr.enc t).length = i :: L) (hb : ¬ (limT (ctAt t n i.toNat)).2 = 0) : nrm k t n = ([], 0, 3) := by
  cases k with
  | zero => rw [nrm, h]
  | succ k => rw [nrm, h]; simp only; rw [if_neg hb]
theorem nrm_step {k : Nat} {t : Tm} {n i : Int} {L : List Int} (h : redL (Tr.enc t) (Tr.enc t).length = i :: L) (hb : (limT (ctAt t n i.toNat)).2 = 0) : nrm (k + 1) t n = nrm k (ctT t n i.toNat) n := by
  rw [nrm, h]; simp only; rw [if_pos hb]
theorem nrm_tree (n : Int) (hn : 0 ≤ n) : ∀ (k : Nat) (t : Tm), Good t → (Tr.enc t).length ≤ 60 → ((nrm k t n).2.2 = 0 ∧ ∃ u, Good u ∧ Tr.enc u = (nrm k t n).1 ∧ (Tr.enc u).length ≤ 60) ∨ nrm k t n = ([], 0, 3) := by
  intro k
  induction k with
  | zero =>
    intro t hg hl
    cases h : redL (Tr.enc t) (Tr.enc t).length with
    | nil => rw [nrm_done h]; exact .inl ⟨rfl, t, hg, rfl, hl⟩
    | cons i L => rw [nrm_stop h]; exact .inr rfl
  | succ k ih =>
    intro t hg hl
    cases h : redL (Tr.enc t) (Tr.enc t).length with
    | nil => rw [nrm_done h]; exact .inl ⟨rfl, t, hg, rfl, hl⟩
    | cons i L =>
      by_cases hb : (limT (ctAt t n i.toNat)).2 = 0
      · rw [nrm_step h hb]
        obtain ⟨j, rfl, hj, hr⟩ := redL_mem (xs := Tr.enc t) (j := (Tr.enc t).length) (x := i) (by rw [h]; simp)
        rw [Int.toNat_natCast] at hb ⊢
        obtain ⟨g1, g2, g3, _⟩ := ct_good hn hg hr hb
        exact ih _ g1 (by rw [g2]; exact g3)
      · rw [nrm_big h hb]; exact .inr rfl
end Go.Proofs.YthofkdpmgjkgkaaGreat

/- mapNumbers and putTerm of the program. -/
namespace Go.Proofs.YthofkdpmgjkgkaaGreat
open Go.RowKit
open Tr (Tm)

theorem OwnT.one (w : World) (B : Nat) (x : Tn) (hB : B ≤ w.heap.size) : OwnT (w.alloc (.cells #[.int .i64 x.1, .int .i64 x.2.1, .string x.2.2] 66)) B (.slice (some ⟨w.heap.size, 0, none⟩) 1 1) [x] :=
  OwnT.lit w B [x] _ hB (by simp) rfl

/-- What the function value gives at a variable and what it is read with, in every world from w0 on. -/
def MapOk (f : Nat) (caps : Array Value) (w0 : World) (lo hi : Int) (F : Tn → Int → List Tn) : Prop := ∀ (x : Tn) n W, Grew w0 W → GoodN x → lo ≤ n → n ≤ hi → Calls Tryz.prog f (#[.agg #[.int .i64 x.1, .int .i64 x.2.1, .string x.2.2], .int .i64 n] ++ caps) W (GivesT W (F x n))

theorem mapNumbers_c (f : Nat) (caps : Array Value) (w0 : World) (lo hi : Int) (F : Tn → Int → List Tn) (M : Nat) (hM : 1 ≤ M) (hM2 : M ≤ 1000) (hFl : ∀ x n, (F x n).length ≤ M) (hf : MapOk f caps w0 lo hi F) (h0 : 0 ≤ lo) (h1 : hi ≤ 1000000)
    (eg : ∀ args w, (callFunc f args).run Tryz.prog w = .ok (.enter f args) w) :
    ∀ t : Tm, Good t → ∀ (v : Value) (n : Int) (w : World), Grew w0 w → Tms w v (Tr.enc t) → (Tr.enc t).length ≤ 1000 → lo ≤ n → n + (Tr.enc t).length ≤ hi →
    Calls Tryz.prog 95 #[v, .int .i64 n, .func (.func f) #[] caps] w (GivesT w (Tr.mapN F t n)) := by
  intro t
  refine Tr.ind (P := fun t => Good t → ∀ (v : Value) (n : Int) (w : World), Grew w0 w → Tms w v (Tr.enc t) → (Tr.enc t).length ≤ 1000 → lo ≤ n → n + (Tr.enc t).length ≤ hi →
    Calls Tryz.prog 95 #[v, .int .i64 n, .func (.func f) #[] caps] w (GivesT w (Tr.mapN F t n))) ?_ t
  intro t ih hg v n w hw0 h hlen hn0 hn1
  obtain ⟨b, o, c, rfl, hc, hm, hb, hcl⟩ := tms_head h
  have hpos := Tr.enc_pos t
  obtain ⟨k1, k2, k3⟩ := hcl _ (Grew.refl w)
  by_cases hleaf : Tr.kids t = []
  · have hk := (good_leaf hg).1 hleaf
    rw [Tr.mapN_leaf hleaf]
    have HF := Lib.hid (hf (Tr.hd t) n w hw0 (Tr.hd_wf hg) hn0 (by omega))
    rw [hk] at k1 HF
    clear hcl ih hg h hf hk hleaf hFl
    generalize F (Tr.hd t) n = R at *
    generalize (Tr.hd t).2.1 = a at *
    generalize (Tr.hd t).2.2 = z at *
    generalize (Tr.enc t).length = nn at *
    go_enter Tryz.func95, Tryz.ntmps95
    go_wp2_with fail
    go_at_fn f
    refine HF.out.mono ?_
    rintro e w1 ⟨u, rfl, ho, hg1⟩
    go_wp2_with fail
    go_ret
    exact ⟨_, rfl, ho, hg1⟩
  · have hk : ((Tr.hd t).1 == 0) = false := by
      have := mt (good_leaf hg).2 hleaf
      simpa using this
    have hm1 : 0 < (Tr.kids t).length := List.length_pos_iff.2 hleaf
    have hkl := Tr.kids_len hg
    have har := Tr.ar_le (Tr.hd t).1
    rw [Tr.mapN_kids hleaf]
    have HI := Lib.hid (fun W (hW : Grew w W) => inner_o _ t w W h hW hg (by omega))
    have HK := Lib.hid (fun W (hW : Grew w W) => (hcl W hW).1)
    have HLN := Lib.hid (fun j hj => Nat.le_trans (Tr.mapL_len hM hFl (t := t) (n := n) j hj) (Nat.mul_le_mul (show Tr.off t j ≤ 1000 from by
      rcases Nat.lt_or_ge j (Tr.kids t).length with hh | hh
      · have := Tr.off_end hh; omega
      · have e : Tr.off t j = Tr.off t (Tr.kids t).length := by unfold Tr.off; rw [List.take_of_length_le hh, List.take_length]
        rw [e]
        have := Tr.off_end (t := t) (i := (Tr.kids t).length - 1) (by omega)
        have e2 := Tr.off_next (t := t) (i := (Tr.kids t).length - 1) (by omega)
        rw [show (Tr.kids t).length - 1 + 1 = (Tr.kids t).length by omega] at e2
        omega) hM2))
    have HLN2 := Lib.hid (fun j d (hj : j < (Tr.kids t).length) => Nat.le_trans (Tr.mapN_len hM hFl (Tr.kid t j) (n + d)) (Nat.mul_le_mul (show (Tr.enc (Tr.kid t j)).length ≤ 1000 from by have := Tr.kid_small hj; omega) hM2))
    have HIH := Lib.hid (fun i (hi : i < (Tr.kids t).length) u d W (hW : Grew w W) (hd0 : 0 ≤ d) (hd1 : d ≤ 1) hu => ih _ (Tr.kid_mem hi) (Tr.kids_wf hg _ (Tr.kid_mem hi)) u (n + d) W (hw0.trans hW) hu (by have := Tr.kid_small hi; omega) (by omega) (by have := Tr.kid_small hi; omega))
    have HBD := Lib.hid (fun i (hi : i < (Tr.kids t).length) w => bindsIn_c (Tr.hd t).1 i w (by omega))
    have HB2 := Lib.hid (fun i => (by unfold Tr.bd; split <;> omega : 0 ≤ Tr.bd (Tr.hd t).1 i ∧ Tr.bd (Tr.hd t).1 i ≤ 1))
    obtain ⟨ML, hML⟩ : ∃ ML, ML = Tr.mapL F t n := ⟨_, rfl⟩
    have HST := Lib.hid (fun j => (by rw [hML]; rfl : ML (j + 1) = ML j ++ Tr.mapN F (Tr.kid t j) (n + Tr.bd (Tr.hd t).1 j)))
    have HS0 : Hid (ML 0 = [((Tr.hd t).1, (Tr.hd t).2.1, (Tr.hd t).2.2)]) := Lib.hid (by rw [hML]; rfl)
    rw [← hML] at HLN ⊢
    clear hML
    clear hcl ih hg h hf hleaf hFl
    generalize (Tr.hd t).1 = kk at *
    generalize (Tr.hd t).2.1 = aa at *
    generalize (Tr.hd t).2.2 = zz at *
    generalize (Tr.enc t).length = nn at *
    generalize hMM : (Tr.kids t).length = m at *
    go_enter Tryz.func95, Tryz.ntmps95
    go_wp2_with fail
    have hone := OwnT.one w w.heap.size (kk, aa, zz) (Nat.le_refl _)
    refine (HI.out _ ((Grew.refl w).alloc _)).mono ?_
    rintro e w1 ⟨u, us, rfl, hU1, hul, hhold, hg1⟩
    have ho1 := hone.grew hg1
    have hgw := Grew.of_alloc hg1
    obtain ⟨g2, c2, rfl, hc2, hm2, _, _⟩ := hU1.open_ (by omega)
    rw [hul] at hc2 hU1 ⊢
    have hU1 := Lib.hid hU1
    have HH := Lib.hid hhold
    clear hone hhold
    go_wp2_with fail
    go_loopw [7, 8, 9, 28] (fun vv _ _ i wr => ∃ j : Nat, j ≤ m ∧ i = .int .i64 j ∧ Grew w wr ∧ OwnT wr w.heap.size vv (ML j) ∧ Hid (OwnVT wr (w.alloc (.cells #[.int .i64 kk, .int .i64 aa, .string zz] 66)).heap.size (.slice (some ⟨g2, 0, none⟩) m c2) us)) (fun _ _ _ i _ => m - (intOf i).toNat)
    case atStart => exact ⟨0, Nat.zero_le _, rfl, hgw, by rw [HS0.out]; exact ho1, hU1.out⟩
    case round =>
      clear ho1 hU1
      obtain ⟨j, hj, rfl, hB, hO, hU⟩ := hrel
      by_cases hlt : j < m
      · obtain ⟨x, hx1⟩ : ∃ x, us[j]? = some x := ⟨_, List.getElem?_eq_getElem (by omega)⟩
        have e1 : wr.cell? ⟨g2, j, none⟩ = some x := hU.out.cell hx1
        have e2 : wr.cell? ⟨b, o, none⟩ = some (.int .i64 kk) := HK.out _ hB
        have hx3 : Tms wr x (Tr.enc (Tr.kid t j)) := (HH.out j x hx1).grew hB
        obtain ⟨A3, c3, rfl⟩ := tms_slice hx3
        have hih := Lib.hid (fun W (hW : Grew wr W) => HIH.out j hlt _ (Tr.bd kk j) W (hB.trans hW) (HB2.out j).1 (HB2.out j).2 (hx3.grew hW))
        have hbd := Lib.hid (HBD.out j hlt)
        have hb01 := HB2.out j
        have hl1 := HLN.out j hj
        have hl2 := HLN2.out j (Tr.bd kk j) hlt
        have hst := Lib.hid (HST.out j)
        clear hx1 hx3
        generalize Tr.bd kk j = d at *
        generalize (Tr.enc (Tr.kid t j)).length = ln at *
        generalize Tr.mapN F (Tr.kid t j) (n + d) = X at *
        generalize ML j = Y at *
        obtain ⟨hb0, hb1⟩ := hb01
        go_wp2_with fail
        refine (hbd.out _).mono ?_
        rintro e w2 ⟨rfl, hg2⟩
        go_wp2_with fail
        refine (hih.out _ hg2).mono ?_
        rintro e w3 ⟨q, rfl, hq, hg3⟩
        have hk3 := hg2.trans hg3
        have hO3 := hO.grew hk3
        have hw3 := hB.trans hk3
        go_wp2_with (first | (at_builtin; refine wpList_appT (w0 := w) _ _ rfl rfl _ Y rfl hO3 hw3 _ X rfl hq.tms (by omega) ?_; intro v4 w4 hown4 hg4 hgr4))
        go_roundw
        case rel => exact ⟨j + 1, by omega, by go_num, hg4, by rw [hst.out]; exact hown4, ownVT_app (own_grew hU.out hk3) hO3 hgr4⟩
        case measure => simp [intOf]; omega
      · obtain rfl : j = m := by omega
        go_wp2_with fail
        go_ret
        exact ⟨_, rfl, hO, hB⟩
end Go.Proofs.YthofkdpmgjkgkaaGreat

/- putTerm of the program. -/
namespace Go.Proofs.YthofkdpmgjkgkaaGreat
open Go.RowKit
open Tr (Tm)

theorem putTerm1_c (x : Tn) (now n : Int) (bn bu : Nat) (u : Value) (us : List Tn) (W : World) (hx : GoodN x) (hc1 : W.cell? ⟨bn, 0, none⟩ = some (.int .i64 n)) (hc2 : W.cell? ⟨bu, 0, none⟩ = some u) (hu : Tms W u us) (hl : us.length ≤ 1048576) (hok : NumOk us)
    (hn0 : 0 ≤ n) (hn1 : n ≤ 1000000) (h0 : n + 1 ≤ now) (h1 : now ≤ 1000000) (hbn : bn < W.heap.size) (hbu : bu < W.heap.size) :
    Calls Tryz.prog 96 (#[.agg #[.int .i64 x.1, .int .i64 x.2.1, .string x.2.2], .int .i64 now] ++ #[.pointer (some ⟨bn, 0, none⟩), .pointer (some ⟨bu, 0, none⟩)]) W (GivesT W (putN n us x now)) := by
  have hx0 := tnB_num0 hx
  have HR := Lib.hid (fun W' (hW : Grew W W') => raised_c u us n (now - n - 1) W' (hu.grew hW) hl hok (by omega) (by omega))
  obtain ⟨A, c, rfl⟩ := tms_slice hu
  have k1 : ∀ W', Grew W W' → W'.cell? ⟨bn, 0, none⟩ = some (.int .i64 n) := fun W' hW => (hW.cell (p := ⟨bn, 0, none⟩) hbn).trans hc1
  have k2 : ∀ W', Grew W W' → W'.cell? ⟨bu, 0, none⟩ = some (.slice A us.length c) := fun W' hW => (hW.cell (p := ⟨bu, 0, none⟩) hbu).trans hc2
  obtain ⟨xk, xn, xs⟩ := x
  simp only at hx0 ⊢
  have hal := (Grew.refl W).alloc (.cells #[.int .i64 xk, .int .i64 xn, .string xs] 66)
  clear hx hu hok hc1 hc2
  by_cases he : xn = n
  · have hp : putN n us (xk, xn, xs) now = raiseL n (now - n - 1) us := by unfold putN; rw [if_pos he]
    rw [hp]
    clear hp
    subst he
    generalize raiseL xn (now - xn - 1) us = R at *
    generalize us.length = ul at *
    go_enter Tryz.func96, Tryz.ntmps96
    go_wp2_with fail
    refine (HR.out _ hal).mono ?_
    rintro e w1 ⟨q, rfl, hq, hg1⟩
    go_wp2_with fail
    go_ret
    exact ⟨_, rfl, hq.base hal.size, hal.trans hg1⟩
  · by_cases hgt : n < xn
    · have hp : putN n us (xk, xn, xs) now = [(xk, xn - 1, xs)] := by unfold putN; rw [if_neg he, if_pos hgt]
      rw [hp]
      have hne : (xn == n) = false := by simpa using he
      clear hp HR
      generalize us.length = ul at *
      have hone := fun w => OwnT.one w W.heap.size (xk, xn - 1, xs)
      go_enter Tryz.func96, Tryz.ntmps96
      go_wp2_with fail
      go_ret
      have hal2 := (Grew.refl W).alloc (.cells #[.int .i64 xk, .int .i64 (xn - 1), .string xs] 66)
      have h1 := hone _ hal2.size
      rw [World.size_alloc] at h1
      exact ⟨_, rfl, h1, hal2.alloc _⟩
    · have hp : putN n us (xk, xn, xs) now = [(xk, xn, xs)] := by unfold putN; rw [if_neg he, if_neg hgt]
      rw [hp]
      have hne : (xn == n) = false := by simpa using he
      clear hp HR
      generalize us.length = ul at *
      have hone := fun w => OwnT.one w W.heap.size (xk, xn, xs)
      go_enter Tryz.func96, Tryz.ntmps96
      go_wp2_with fail
      go_ret
      have h1 := hone _ hal.size
      rw [World.size_alloc] at h1
      exact ⟨_, rfl, h1, hal.alloc _⟩

theorem putTerm_c (v u : Value) (t : Tm) (us : List Tn) (n : Int) (w : World) (h : Tms w v (Tr.enc t)) (hg : Good t) (hlen : (Tr.enc t).length ≤ 1000) (hu : Tms w u us) (hl : us.length ≤ 900) (hok : NumOk us) (hn0 : 0 ≤ n) (hn1 : n ≤ 1000) :
    Calls Tryz.prog 55 #[v, .int .i64 n, u] w (GivesT w (Tr.mapN (putN n us) t (n + 1))) := by
  obtain ⟨A, c, rfl⟩ := tms_slice hu
  have hw2 : Grew w ((w.alloc (.cells #[.int .i64 n] 2)).alloc (.cells #[.slice A us.length c] 24)) := ((Grew.refl w).alloc _).alloc _
  have HM := Lib.hid (mapNumbers_c 96 #[.pointer (some ⟨w.heap.size, 0, none⟩), .pointer (some ⟨w.heap.size + 1, 0, none⟩)] ((w.alloc (.cells #[.int .i64 n] 2)).alloc (.cells #[.slice A us.length c] 24)) (n + 1) (n + 1 + 1000) (putN n us) (us.length + 1) (by omega) (by omega) (fun x m => putN_len n us x m)
    (fun x m W hW hx h0 h1 => putTerm1_c x m n w.heap.size (w.heap.size + 1) (.slice A us.length c) us W hx
      ((hW.cell (p := ⟨w.heap.size, 0, none⟩) (by simp; omega)).trans (by simp)) ((hW.cell (p := ⟨w.heap.size + 1, 0, none⟩) (by simp)).trans (by simp)) (hu.grew (hw2.trans hW)) (by omega) hok hn0 (by omega) h0 (by omega)
      (Nat.lt_of_lt_of_le (by simp; omega) hW.size) (Nat.lt_of_lt_of_le (by simp) hW.size))
    (by omega) (by omega) (enters_of Tryz.func96 (by kernel_rfl) rfl) t hg v (n + 1) _ (Grew.refl _) (h.grew hw2) hlen (by omega) (by omega))
  obtain ⟨A', c', rfl⟩ := tms_slice h
  clear h hg hu hok
  generalize Tr.mapN (putN n us) t (n + 1) = R at *
  generalize us.length = ul at *
  generalize (Tr.enc t).length = tl at *
  go_enter Tryz.func55, Tryz.ntmps55
  go_wp2_with fail
  refine HM.out.mono ?_
  rintro e w1 ⟨q, rfl, hq, hg1⟩
  go_wp2_with fail
  go_ret
  exact ⟨_, rfl, hq.base hw2.size, hw2.trans hg1⟩
end Go.Proofs.YthofkdpmgjkgkaaGreat

/- contracted of the program. -/
namespace Go.Proofs.YthofkdpmgjkgkaaGreat
open Go.RowKit
open Tr (Tm)

/-- The call gives a slice that reads as the list. -/
def GivesR (w : World) (r : List Tn) (e : Ending) (w' : World) : Prop := ∃ v, e = .returned v ∧ Tms w' v r ∧ Grew w w'

theorem partsT_at {w : World} {v : Value} {t : Tm} (m : Nat) (h : PartsT w v t) (hk : (Tr.kids t).length = m) (h0 : 0 < m) : ∃ b o c, v = .slice (some ⟨b, o, none⟩) m c ∧ m ≤ c ∧ c ≤ 9223372036854775807 ∧
    ∀ i s, i < m → Tr.kid t i = s → ∃ b1 o1 c1, (∀ W, Grew w W → W.cell? ⟨b, o + i, none⟩ = some (.slice (some ⟨b1, o1, none⟩) (Tr.enc s).length c1)) ∧ Tms w (.slice (some ⟨b1, o1, none⟩) (Tr.enc s).length c1) (Tr.enc s) ∧ (Tr.enc s).length ≤ c1 ∧ c1 ≤ 9223372036854775807 ∧ ∀ W, Grew w W → W.cell? ⟨b1, o1, none⟩ = some (.int .i64 (Tr.hd s).1) := by
  subst hk
  rcases h with ⟨_, h⟩ | ⟨b, o, c, rfl, hc, hm, hb, hf⟩
  · rw [h] at h0; exact absurd h0 (by simp)
  · refine ⟨b, o, c, rfl, hc, hm, fun i s hi hs => ?_⟩
    subst hs
    obtain ⟨u, h1, h2⟩ := hf i hi
    obtain ⟨b1, o1, c1, rfl, hc1, hm1, _, hcl⟩ := tms_head h2
    exact ⟨b1, o1, c1, fun W hW => (hW.cell (p := ⟨b, o + i, none⟩) hb).trans h1, h2, hc1, hm1, fun W hW => (hcl W hW).1⟩

theorem contracted_c (v : Value) (t : Tm) (n : Int) (w : World) (h : Tms w v (Tr.enc t)) (hg : Good t) (hr : rdxAt (Tr.enc t) 0 = true) (hlen : (Tr.enc t).length ≤ 800) (hn0 : 0 ≤ n) (hn1 : n ≤ 900) :
    Calls Tryz.prog 110 #[v, .int .i64 n] w (GivesR w (ctr t n)) := by
  have HI := Lib.hid (inner_c v t w h hg (by omega))
  obtain ⟨b0, o0, c0, rfl, hc0, hm0, hb0, hcl0⟩ := tms_head h
  have k0 := fun W (hW : Grew w W) => (hcl0 W hW).1
  have hpos := Tr.enc_pos t
  have hrr := Grew.refl w
  rcases rdx_shape hg hr with ⟨x, y, b, u, rfl, hx, hy⟩ | ⟨x, y, a, b, rfl, hx, hy⟩ | ⟨x, y, s, a, b, rfl, hx, hy⟩
  · have hgf : Good (.t1 y b) := hg.2.1
    have hgb : Good b := hgf.2
    have hgu : Good u := hg.2.2
    have hl2 : (Tr.enc (.t1 y b)).length ≤ 800 ∧ (Tr.enc b).length ≤ 800 ∧ (Tr.enc u).length ≤ 800 := by simp [Tr.enc] at hlen ⊢; omega
    obtain ⟨hl2, hl3, hl4⟩ := hl2
    have HI2 := Lib.hid (fun v W (hv : Tms W v (Tr.enc (.t1 y b))) => inner_c v (.t1 y b) W hv hgf (by omega))
    have HP := Lib.hid (fun vb vu W (hb : Tms W vb (Tr.enc b)) (hu : Tms W vu (Tr.enc u)) => putTerm_c vb vu b (Tr.enc u) n W hb hgb (by omega) hu (by omega) (good_numOk hgu) hn0 (by omega))
    have hct : ctr (.t2 x (.t1 y b) u) n = Tr.mapN (putN n (Tr.enc u)) b (n + 1) := rfl
    rw [hct]
    have ek : (Tr.hd (.t2 x (.t1 y b) u)).1 = 2 := hx
    rw [ek] at k0
    generalize (Tr.enc (.t2 x (.t1 y b) u)).length = ll at *
    clear h hcl0 hr hct ek
    generalize Tr.mapN (putN n (Tr.enc u)) b (n + 1) = R at *
    go_enter Tryz.func110, Tryz.ntmps110
    go_wp2_with fail
    refine HI.out.mono ?_
    rintro e w1 ⟨p, rfl, hp, hg1⟩
    obtain ⟨b1, o1, c1, rfl, hc1, hm1, hcl1⟩ := partsT_at 2 hp rfl (by decide)
    clear hp
    obtain ⟨b2, o2, c2, e2, t2, hc2, hm2, q2⟩ := hcl1 0 (.t1 y b) (by decide) rfl
    obtain ⟨b3, o3, c3, e3, t3, hc3, hm3, q3⟩ := hcl1 1 u (by decide) rfl
    clear hcl1
    have HT2 := Lib.hid t2
    have HT3 := Lib.hid t3
    clear t2 t3
    simp only [Nat.add_zero] at e2
    clear q2 q3
    have r1 := Grew.refl w1
    go_wp2_with fail
    refine (HI2.out _ _ HT2.out).mono ?_
    rintro e w2 ⟨p2, rfl, hp2, hg2⟩
    obtain ⟨b4, o4, c4, rfl, hc4, hm4, hcl4⟩ := partsT_at 1 hp2 rfl (by decide)
    clear hp2
    obtain ⟨b5, o5, c5, e5, t5, hc5, hm5, q5⟩ := hcl4 0 b (by decide) rfl
    clear hcl4
    have HT5 := Lib.hid t5
    clear t5
    simp only [Nat.add_zero] at e5
    clear q5
    have r2 := Grew.refl w2
    have gw := hg1.trans hg2
    have d2 := r2.drew
    have f3 := fun W (hW : Grew w2 W) => e3 W (hg2.trans hW)
    clear e2 e3
    have HT3g := Lib.hid (HT3.out.grew (hg2.trans d2))
    have HT5g := Lib.hid (HT5.out.grew d2)
    go_wp2_with fail
    go_region_held3 (fun w' => Grew w2 w') (with_reducible assumption)
      (first | (go_at_call 55; refine (HP.out _ _ _ HT5g.out HT3g.out).mono ?_; rintro e w3 ⟨q, rfl, hq, hg3⟩; have hk3 := d2.trans hg3))
    go_wp2_with fail
    go_ret
    exact ⟨_, rfl, hq.tms, gw.trans hk3⟩
  · have hgf : Good (.t2 y a b) := hg.2
    have hl2 : (Tr.enc (.t2 y a b)).length ≤ 800 := by simp [Tr.enc] at hlen ⊢; omega
    have HI2 := Lib.hid (fun v W (hv : Tms W v (Tr.enc (.t2 y a b))) => inner_c v (.t2 y a b) W hv hgf (by omega))
    rcases hx with hx | hx
    · have hct : ctr (.t1 x (.t2 y a b)) n = Tr.enc a := by simp [ctr, hx, Tr.kid, Tr.kids]
      rw [hct]
      have ek : (Tr.hd (.t1 x (.t2 y a b))).1 = 4 := hx
      rw [ek] at k0
      generalize (Tr.enc (.t1 x (.t2 y a b))).length = ll at *
      clear h hcl0 hr hct ek
      go_enter Tryz.func110, Tryz.ntmps110
      go_wp2_with fail
      refine HI.out.mono ?_
      rintro e w1 ⟨p, rfl, hp, hg1⟩
      obtain ⟨b1, o1, c1, rfl, hc1, hm1, hcl1⟩ := partsT_at 1 hp rfl (by decide)
      clear hp
      obtain ⟨b2, o2, c2, e2, t2, hc2, hm2, q2⟩ := hcl1 0 (.t2 y a b) (by decide) rfl
      clear hcl1
      have HT2 := Lib.hid t2
      clear t2
      simp only [Nat.add_zero] at e2
      clear q2
      have r1 := Grew.refl w1
      go_wp2_with fail
      refine (HI2.out _ _ HT2.out).mono ?_
      rintro e w2 ⟨p2, rfl, hp2, hg2⟩
      obtain ⟨b3, o3, c3, rfl, hc3, hm3, hcl3⟩ := partsT_at 2 hp2 rfl (by decide)
      clear hp2
      obtain ⟨b4, o4, c4, e4, t4, hc4, hm4, q4⟩ := hcl3 0 a (by decide) rfl
      obtain ⟨b5, o5, c5, e5, t5, hc5, hm5, q5⟩ := hcl3 1 b (by decide) rfl
      clear hcl3
      have HT4 := Lib.hid t4
      have HT5 := Lib.hid t5
      clear t4 t5
      simp only [Nat.add_zero] at e4
      clear q4 q5
      have r2 := Grew.refl w2
      have gw := hg1.trans hg2
      go_wp2_with fail
      go_ret
      exact ⟨_, rfl, HT4.out, gw⟩
    · have hct : ctr (.t1 x (.t2 y a b)) n = Tr.enc b := by simp [ctr, hx, Tr.kid, Tr.kids]
      rw [hct]
      have ek : (Tr.hd (.t1 x (.t2 y a b))).1 = 5 := hx
      rw [ek] at k0
      generalize (Tr.enc (.t1 x (.t2 y a b))).length = ll at *
      clear h hcl0 hr hct ek
      go_enter Tryz.func110, Tryz.ntmps110
      go_wp2_with fail
      refine HI.out.mono ?_
      rintro e w1 ⟨p, rfl, hp, hg1⟩
      obtain ⟨b1, o1, c1, rfl, hc1, hm1, hcl1⟩ := partsT_at 1 hp rfl (by decide)
      clear hp
      obtain ⟨b2, o2, c2, e2, t2, hc2, hm2, q2⟩ := hcl1 0 (.t2 y a b) (by decide) rfl
      clear hcl1
      have HT2 := Lib.hid t2
      clear t2
      simp only [Nat.add_zero] at e2
      clear q2
      have r1 := Grew.refl w1
      go_wp2_with fail
      refine (HI2.out _ _ HT2.out).mono ?_
      rintro e w2 ⟨p2, rfl, hp2, hg2⟩
      obtain ⟨b3, o3, c3, rfl, hc3, hm3, hcl3⟩ := partsT_at 2 hp2 rfl (by decide)
      clear hp2
      obtain ⟨b4, o4, c4, e4, t4, hc4, hm4, q4⟩ := hcl3 0 a (by decide) rfl
      obtain ⟨b5, o5, c5, e5, t5, hc5, hm5, q5⟩ := hcl3 1 b (by decide) rfl
      clear hcl3
      have HT4 := Lib.hid t4
      have HT5 := Lib.hid t5
      clear t4 t5
      simp only [Nat.add_zero] at e4
      clear q4 q5
      have r2 := Grew.refl w2
      have gw := hg1.trans hg2
      go_wp2_with fail
      go_ret
      exact ⟨_, rfl, HT5.out, gw⟩
  · have hgf : Good (.t1 y s) := hg.2.1
    have hgs : Good s := hgf.2
    have hga : Good a := hg.2.2.1
    have hgb : Good b := hg.2.2.2
    have hl2 : (Tr.enc (.t1 y s)).length ≤ 800 ∧ (Tr.enc s).length ≤ 800 ∧ (Tr.enc a).length ≤ 800 ∧ (Tr.enc b).length ≤ 800 := by simp [Tr.enc] at hlen ⊢; omega
    obtain ⟨hl2, hl3, hl4, hl5⟩ := hl2
    have HI2 := Lib.hid (fun v W (hv : Tms W v (Tr.enc (.t1 y s))) => inner_c v (.t1 y s) W hv hgf (by omega))
    have ek : (Tr.hd (.t3 x (.t1 y s) a b)).1 = 8 := hx
    rw [ek] at k0
    rcases hy with hy | hy
    · have HP := Lib.hid (fun vb vu W (hb : Tms W vb (Tr.enc a)) (hu : Tms W vu (Tr.enc s)) => putTerm_c vb vu a (Tr.enc s) n W hb hga (by omega) hu (by omega) (good_numOk hgs) hn0 (by omega))
      have hct : ctr (.t3 x (.t1 y s) a b) n = Tr.mapN (putN n (Tr.enc s)) a (n + 1) := by simp [ctr, hy, Tr.kid, Tr.kids, Tr.hd]
      rw [hct]
      have ey : (Tr.hd (.t1 y s)).1 = 6 := hy
      generalize (Tr.enc (.t3 x (.t1 y s) a b)).length = ll at *
      clear h hcl0 hr hct ek
      generalize Tr.mapN (putN n (Tr.enc s)) a (n + 1) = R at *
      go_enter Tryz.func110, Tryz.ntmps110
      go_wp2_with fail
      refine HI.out.mono ?_
      rintro e w1 ⟨p, rfl, hp, hg1⟩
      obtain ⟨b1, o1, c1, rfl, hc1, hm1, hcl1⟩ := partsT_at 3 hp rfl (by decide)
      clear hp
      obtain ⟨b2, o2, c2, e2, t2, hc2, hm2, q2⟩ := hcl1 0 (.t1 y s) (by decide) rfl
      obtain ⟨b3, o3, c3, e3, t3, hc3, hm3, q3⟩ := hcl1 1 a (by decide) rfl
      obtain ⟨b4, o4, c4, e4, t4, hc4, hm4, q4⟩ := hcl1 2 b (by decide) rfl
      clear hcl1
      have HT2 := Lib.hid t2
      have HT3 := Lib.hid t3
      have HT4 := Lib.hid t4
      clear t2 t3 t4
      simp only [Nat.add_zero] at e2
      clear q3 q4
      rw [ey] at q2
      have r1 := Grew.refl w1
      go_wp2_with fail
      refine (HI2.out _ _ HT2.out).mono ?_
      rintro e w2 ⟨p2, rfl, hp2, hg2⟩
      obtain ⟨b5, o5, c5, rfl, hc5, hm5, hcl5⟩ := partsT_at 1 hp2 rfl (by decide)
      clear hp2
      obtain ⟨b6, o6, c6, e6, t6, hc6, hm6, q6⟩ := hcl5 0 s (by decide) rfl
      clear hcl5
      have HT6 := Lib.hid t6
      clear t6
      simp only [Nat.add_zero] at e6
      clear q6
      have r2 := Grew.refl w2
      have gw := hg1.trans hg2
      have d2 := r2.drew
      have g0 := fun W (hW : Grew w2 W) => k0 W (gw.trans hW)
      have f2 := fun W (hW : Grew w2 W) => e2 W (hg2.trans hW)
      have f3 := fun W (hW : Grew w2 W) => e3 W (hg2.trans hW)
      have f4 := fun W (hW : Grew w2 W) => e4 W (hg2.trans hW)
      have p2 := fun W (hW : Grew w2 W) => q2 W (hg2.trans hW)
      clear e2 e3 e4 q2 k0
      have HTg := Lib.hid (HT3.out.grew (hg2.trans d2))
      have hz : 0 < (Tr.enc (.t1 y s)).length := Tr.enc_pos _
      have hz2 : (0 : Int) < ((Tr.enc (.t1 y s)).length : Int) := by omega
      have s1 : IntKind.i64.wrap 7 = 7 := by decide
      have s2 : IntKind.i64.wrap 1 = 1 := by decide
      have HT6g := Lib.hid (HT6.out.grew d2)
      go_wp2_with fail
      go_region_held3 (fun w' => Grew w2 w') (with_reducible assumption)
        (first | (go_at_call 55; refine (HP.out _ _ _ HTg.out HT6g.out).mono ?_; rintro e w3 ⟨q, rfl, hq, hg3⟩; have hk3 := d2.trans hg3))
      go_wp2_with fail
      go_ret
      exact ⟨_, rfl, hq.tms, gw.trans hk3⟩
    · have HP := Lib.hid (fun vb vu W (hb : Tms W vb (Tr.enc b)) (hu : Tms W vu (Tr.enc s)) => putTerm_c vb vu b (Tr.enc s) n W hb hgb (by omega) hu (by omega) (good_numOk hgs) hn0 (by omega))
      have hct : ctr (.t3 x (.t1 y s) a b) n = Tr.mapN (putN n (Tr.enc s)) b (n + 1) := by simp [ctr, hy, Tr.kid, Tr.kids, Tr.hd]
      rw [hct]
      have ey : (Tr.hd (.t1 y s)).1 = 7 := hy
      generalize (Tr.enc (.t3 x (.t1 y s) a b)).length = ll at *
      clear h hcl0 hr hct ek
      generalize Tr.mapN (putN n (Tr.enc s)) b (n + 1) = R at *
      go_enter Tryz.func110, Tryz.ntmps110
      go_wp2_with fail
      refine HI.out.mono ?_
      rintro e w1 ⟨p, rfl, hp, hg1⟩
      obtain ⟨b1, o1, c1, rfl, hc1, hm1, hcl1⟩ := partsT_at 3 hp rfl (by decide)
      clear hp
      obtain ⟨b2, o2, c2, e2, t2, hc2, hm2, q2⟩ := hcl1 0 (.t1 y s) (by decide) rfl
      obtain ⟨b3, o3, c3, e3, t3, hc3, hm3, q3⟩ := hcl1 1 a (by decide) rfl
      obtain ⟨b4, o4, c4, e4, t4, hc4, hm4, q4⟩ := hcl1 2 b (by decide) rfl
      clear hcl1
      have HT2 := Lib.hid t2
      have HT3 := Lib.hid t3
      have HT4 := Lib.hid t4
      clear t2 t3 t4
      simp only [Nat.add_zero] at e2
      clear q3 q4
      rw [ey] at q2
      have r1 := Grew.refl w1
      go_wp2_with fail
      refine (HI2.out _ _ HT2.out).mono ?_
      rintro e w2 ⟨p2, rfl, hp2, hg2⟩
      obtain ⟨b5, o5, c5, rfl, hc5, hm5, hcl5⟩ := partsT_at 1 hp2 rfl (by decide)
      clear hp2
      obtain ⟨b6, o6, c6, e6, t6, hc6, hm6, q6⟩ := hcl5 0 s (by decide) rfl
      clear hcl5
      have HT6 := Lib.hid t6
      clear t6
      simp only [Nat.add_zero] at e6
      clear q6
      have r2 := Grew.refl w2
      have gw := hg1.trans hg2
      have d2 := r2.drew
      have g0 := fun W (hW : Grew w2 W) => k0 W (gw.trans hW)
      have f2 := fun W (hW : Grew w2 W) => e2 W (hg2.trans hW)
      have f3 := fun W (hW : Grew w2 W) => e3 W (hg2.trans hW)
      have f4 := fun W (hW : Grew w2 W) => e4 W (hg2.trans hW)
      have p2 := fun W (hW : Grew w2 W) => q2 W (hg2.trans hW)
      clear e2 e3 e4 q2 k0
      have HTg := Lib.hid (HT4.out.grew (hg2.trans d2))
      have hz : 0 < (Tr.enc (.t1 y s)).length := Tr.enc_pos _
      have hz2 : (0 : Int) < ((Tr.enc (.t1 y s)).length : Int) := by omega
      have s1 : IntKind.i64.wrap 8 = 8 := by decide
      have s2 : IntKind.i64.wrap 2 = 2 := by decide
      have HT6g := Lib.hid (HT6.out.grew d2)
      go_wp2_with fail
      go_region_held3 (fun w' => Grew w2 w') (with_reducible assumption)
        (first | (go_at_call 55; refine (HP.out _ _ _ HTg.out HT6g.out).mono ?_; rintro e w3 ⟨q, rfl, hq, hg3⟩; have hk3 := d2.trans hg3))
      go_wp2_with fail
      go_ret
      exact ⟨_, rfl, hq.tms, gw.trans hk3⟩
end Go.Proofs.YthofkdpmgjkgkaaGreat

/- contractAt of the program. -/
namespace Go.Proofs.YthofkdpmgjkgkaaGreat
open Go.RowKit
open Tr (Tm)

theorem rdxAt_lt {xs : List Tn} {i : Nat} (h : rdxAt xs i = true) : i + 1 < xs.length := by
  unfold rdxAt at h
  simp only [Bool.and_eq_true, decide_eq_true_eq] at h
  exact h.1

set_option maxHeartbeats 800000 in
theorem contractAt_c : ∀ t : Tm, Good t → ∀ (v : Value) (n : Int) (i : Nat) (w : World), Tms w v (Tr.enc t) → rdxAt (Tr.enc t) i = true → (Tr.enc t).length ≤ 60 → 0 ≤ n → n + (Tr.enc t).length ≤ 800 →
    Calls Tryz.prog 67 #[v, .int .i64 n, .int .i64 i] w (GivesR w (ctAt t n i)) := by
  intro t
  refine Tr.ind (P := fun t => Good t → ∀ (v : Value) (n : Int) (i : Nat) (w : World), Tms w v (Tr.enc t) → rdxAt (Tr.enc t) i = true → (Tr.enc t).length ≤ 60 → 0 ≤ n → n + (Tr.enc t).length ≤ 800 →
    Calls Tryz.prog 67 #[v, .int .i64 n, .int .i64 i] w (GivesR w (ctAt t n i))) ?_ t
  intro t ih hg v n i w h hr hlen hn0 hn1
  by_cases hi : i = 0
  · subst hi
    rw [ctAt_zero]
    have HC := Lib.hid (contracted_c v t n w h hg hr (by omega) hn0 (by omega))
    obtain ⟨A, c, rfl⟩ := tms_slice h
    clear h hr hg ih
    generalize ctr t n = R at *
    generalize (Tr.enc t).length = nn at *
    go_enter Tryz.func67, Tryz.ntmps67
    go_wp2_with fail
    refine HC.out.mono ?_
    rintro e w1 ⟨u, rfl, ho, hg1⟩
    go_wp2_with fail
    go_ret
    exact ⟨_, rfl, ho, hg1⟩
  · have hir := rdxAt_lt hr
    obtain ⟨b, o, c, rfl, hc, hm, hb, hcl⟩ := tms_head h
    have hpos := Tr.enc_pos t
    obtain ⟨k1, k2, k3⟩ := hcl _ (Grew.refl w)
    rw [ctAt_kids (by omega)]
    have hk0 : 0 < (Tr.kids t).length := by
      rcases Nat.eq_zero_or_pos (Tr.kids t).length with h0 | h0
      · have h1 := List.eq_nil_of_length_eq_zero h0
        have h2 : (Tr.enc t).length = 1 := by rw [Tr.enc_kids, h1]; rfl
        omega
      · exact h0
    have hkl := Tr.kids_len hg
    have har := Tr.ar_le (Tr.hd t).1
    have HI := Lib.hid (fun W (hW : Grew w W) => inner_o _ t w W h hW hg (by omega))
    have HK := Lib.hid (fun W (hW : Grew w W) => (hcl W hW).1)
    have HLN := Lib.hid (fun j hj => Nat.le_trans (ctL_len (n := n) (M := 60) hg hr hlen j hj) (Nat.mul_le_mul_right 61 (show Tr.off t j ≤ 61 from by
      rcases Nat.lt_or_ge j (Tr.kids t).length with hh | hh
      · have := Tr.off_end hh; omega
      · have e : Tr.off t j = Tr.off t (Tr.kids t).length := by unfold Tr.off; rw [List.take_of_length_le hh, List.take_length]
        rw [e]
        have := Tr.off_end (t := t) (i := (Tr.kids t).length - 1) (by omega)
        have e2 := Tr.off_next (t := t) (i := (Tr.kids t).length - 1) (by omega)
        rw [show (Tr.kids t).length - 1 + 1 = (Tr.kids t).length by omega] at e2
        omega)))
    have HIH := Lib.hid (fun j (hj : j < (Tr.kids t).length) (hc : Tr.off t j ≤ i ∧ i < Tr.off t j + (Tr.enc (Tr.kid t j)).length) u d W (hW : Grew w W) (hd0 : 0 ≤ d) (hd1 : d ≤ 1) hu => ih _ (Tr.kid_mem hj) (Tr.kids_wf hg _ (Tr.kid_mem hj)) u (n + d) (i - Tr.off t j) W hu (rdx_kid hg hr hj hc) (by have := Tr.kid_small hj; omega) (by omega) (by have := Tr.kid_small hj; omega))
    have HBD := Lib.hid (fun i (hi : i < (Tr.kids t).length) w => bindsIn_c (Tr.hd t).1 i w (by omega))
    have HB2 := Lib.hid (fun i => (by unfold Tr.bd; split <;> omega : 0 ≤ Tr.bd (Tr.hd t).1 i ∧ Tr.bd (Tr.hd t).1 i ≤ 1))
    have HOF := Lib.hid (fun j (hj : j < (Tr.kids t).length) => (⟨Tr.off_end hj, Tr.off_next hj, Tr.enc_pos (Tr.kid t j)⟩ : Tr.off t j + (Tr.enc (Tr.kid t j)).length ≤ (Tr.enc t).length ∧ Tr.off t (j + 1) = Tr.off t j + (Tr.enc (Tr.kid t j)).length ∧ 1 ≤ (Tr.enc (Tr.kid t j)).length))
    have hoz := Tr.off_zero t
    have HP1 := Lib.hid (fun j (hc : Tr.off t j ≤ i ∧ i < Tr.off t j + (Tr.enc (Tr.kid t j)).length) => (by unfold ctP; exact if_pos hc : ctP t n i j = ctAt (Tr.kid t j) (n + Tr.bd (Tr.hd t).1 j) (i - Tr.off t j)))
    have HP2 := Lib.hid (fun j (hc : ¬ (Tr.off t j ≤ i ∧ i < Tr.off t j + (Tr.enc (Tr.kid t j)).length)) => (by unfold ctP; exact if_neg hc : ctP t n i j = Tr.enc (Tr.kid t j)))
    have HPL := Lib.hid (fun j (hj : j < (Tr.kids t).length) (hc : Tr.off t j ≤ i ∧ i < Tr.off t j + (Tr.enc (Tr.kid t j)).length) => Nat.le_trans (ctAt_len (M := 60) _ (Tr.kids_wf hg _ (Tr.kid_mem hj)) (n + Tr.bd (Tr.hd t).1 j) _ (rdx_kid hg hr hj hc) (by have := Tr.kid_small hj; omega)) (Nat.mul_le_mul_right 61 (show (Tr.enc (Tr.kid t j)).length ≤ 60 from by have := Tr.kid_small hj; omega)))
    obtain ⟨ML, hML⟩ : ∃ ML, ML = ctL t n i := ⟨_, rfl⟩
    have HST := Lib.hid (fun j => (by rw [hML]; rfl : ML (j + 1) = ML j ++ ctP t n i j))
    have HS0 : Hid (ML 0 = [((Tr.hd t).1, (Tr.hd t).2.1, (Tr.hd t).2.2)]) := Lib.hid (by rw [hML]; rfl)
    rw [← hML] at HLN ⊢
    clear hML hcl ih hg h hr
    generalize (Tr.hd t).1 = kk at *
    generalize (Tr.hd t).2.1 = aa at *
    generalize (Tr.hd t).2.2 = zz at *
    generalize (Tr.enc t).length = nn at *
    generalize hMM : (Tr.kids t).length = m at *
    have hi0 : ((i : Int) == 0) = false := by simpa using hi
    have hm3 : m ≤ 3 := by omega
    clear hkl har
    go_enter Tryz.func67, Tryz.ntmps67
    go_wp2_with fail
    have hone := OwnT.one w w.heap.size (kk, aa, zz) (Nat.le_refl _)
    refine (HI.out _ ((Grew.refl w).alloc _)).mono ?_
    rintro e w1 ⟨u, us, rfl, hU1, hul, hhold, hg1⟩
    have ho1 := hone.grew hg1
    have hgw := Grew.of_alloc hg1
    obtain ⟨g2, c2, rfl, hc2, hm2, _, _⟩ := hU1.open_ (by omega)
    rw [hul] at hc2 hU1 ⊢
    have hU1 := Lib.hid hU1
    have HH := Lib.hid hhold
    clear hone hhold
    go_wp2_with fail
    go_loopw [7, 8, 9, 10, 23] (fun vv x _ _ i' wr => ∃ j : Nat, j ≤ m ∧ i' = .int .i64 j ∧ x = .int .i64 (Tr.off t j) ∧ Grew w wr ∧ OwnT wr w.heap.size vv (ML j) ∧ Hid (OwnVT wr (w.alloc (.cells #[.int .i64 kk, .int .i64 aa, .string zz] 66)).heap.size (.slice (some ⟨g2, 0, none⟩) m c2) us)) (fun _ _ _ _ i' _ => m - (intOf i').toNat)
    case atStart => exact ⟨0, Nat.zero_le _, rfl, by rw [hoz]; rfl, hgw, by rw [HS0.out]; exact ho1, hU1.out⟩
    case round =>
      clear ho1 hU1
      obtain ⟨j, hj, rfl, rfl, hB, hO, hU⟩ := hrel
      by_cases hlt : j < m
      · obtain ⟨x, hx1⟩ : ∃ x, us[j]? = some x := ⟨_, List.getElem?_eq_getElem (by omega)⟩
        have e1 : wr.cell? ⟨g2, j, none⟩ = some x := hU.out.cell hx1
        have e2 : wr.cell? ⟨b, o, none⟩ = some (.int .i64 kk) := HK.out _ hB
        have hx3 : Tms wr x (Tr.enc (Tr.kid t j)) := (HH.out j x hx1).grew hB
        obtain ⟨A3, c3, rfl⟩ := tms_slice hx3
        have hb01 := HB2.out j
        have hbd := Lib.hid (HBD.out j hlt)
        obtain ⟨hl1, hl2, hl3⟩ := HOF.out j hlt
        have HL2 := Lib.hid hl2
        have hln := HLN.out j hj
        have hst := Lib.hid (HST.out j)
        clear hx1 hl2
        by_cases hc : Tr.off t j ≤ i ∧ i < Tr.off t j + (Tr.enc (Tr.kid t j)).length
        · have hpl := HPL.out j hlt hc
          rw [HP1.out j hc] at hst
          have hih := fun W (hW : Grew wr W) => HIH.out j hlt hc _ (Tr.bd kk j) W (hB.trans hW) hb01.1 hb01.2 (hx3.grew hW)
          rw [Int.ofNat_sub hc.1] at hih
          replace hih := Lib.hid hih
          obtain ⟨hc3, hc4⟩ := hc
          clear hx3
          generalize ctAt (Tr.kid t j) (n + Tr.bd kk j) (i - Tr.off t j) = X at *
          generalize Tr.bd kk j = d at *
          generalize (Tr.enc (Tr.kid t j)).length = ln at *
          generalize Tr.off t j = oj at *
          generalize ML j = Y at *
          obtain ⟨hb0, hb1⟩ := hb01
          have hd1 : decide ((oj : Int) ≤ (i : Int)) = true := by simp; omega
          have hd2 : decide ((i : Int) < (oj : Int) + (ln : Int)) = true := by simp; omega
          go_wp2_with fail
          refine (hbd.out _).mono ?_
          rintro e w2 ⟨rfl, hg2⟩
          go_wp2_with fail
          refine (hih.out _ hg2).mono ?_
          rintro e w3 ⟨q, rfl, hq, hg3⟩
          have hk3 := hg2.trans hg3
          have hO3 := hO.grew hk3
          have hw3 := hB.trans hk3
          go_wp2_with (first | (at_builtin; refine wpList_appT (w0 := w) _ _ rfl rfl _ Y rfl hO3 hw3 _ X rfl hq (by omega) ?_; intro v4 w4 hown4 hg4 hgr4))
          go_roundw
          case rel => exact ⟨j + 1, by omega, by go_num, by rw [HL2.out]; go_num, hg4, by rw [hst.out]; exact hown4, ownVT_app (own_grew hU.out hk3) hO3 hgr4⟩
          case measure => simp [intOf]; omega
        · rw [HP2.out j hc] at hst
          have hX := Lib.hid hx3
          have hXl : (Tr.enc (Tr.kid t j)).length ≤ 60 := by omega
          clear hx3 hbd
          generalize Tr.enc (Tr.kid t j) = X at *
          generalize Tr.off t j = oj at *
          generalize ML j = Y at *
          have r := Grew.refl wr
          by_cases hc3 : oj ≤ i
          · have hc4 : oj + X.length ≤ i := by omega
            have hd1 : decide ((oj : Int) ≤ (i : Int)) = true := by simp; omega
            have hd2 : decide ((i : Int) < (oj : Int) + (X.length : Int)) = false := by simp; omega
            go_wp2_with (first | (at_builtin; refine wpList_appT (w0 := w) _ _ rfl rfl _ Y rfl hO hB _ X rfl hX.out (by omega) ?_; intro v4 w4 hown4 hg4 hgr4))
            go_roundw
            case rel => exact ⟨j + 1, by omega, by go_num, by rw [HL2.out]; go_num, hg4, by rw [hst.out]; exact hown4, ownVT_app hU.out hO hgr4⟩
            case measure => simp [intOf]; omega
          · have hd1 : decide ((oj : Int) ≤ (i : Int)) = false := by simp; omega
            go_wp2_with (first | (at_builtin; refine wpList_appT (w0 := w) _ _ rfl rfl _ Y rfl hO hB _ X rfl hX.out (by omega) ?_; intro v4 w4 hown4 hg4 hgr4))
            go_roundw
            case rel => exact ⟨j + 1, by omega, by go_num, by rw [HL2.out]; go_num, hg4, by rw [hst.out]; exact hown4, ownVT_app hU.out hO hgr4⟩
            case measure => simp [intOf]; omega
      · obtain rfl : j = m := by omega
        go_wp2_with fail
        go_ret
        exact ⟨_, rfl, hO.tms, hB⟩
end Go.Proofs.YthofkdpmgjkgkaaGreat

/- l26Put of the reference. -/
namespace Go.Proofs.YthofkdpmgjkgkaaGreat
open Go.RowKit
open Tr (Tm)

set_option maxHeartbeats 800000 in
theorem l26Put_c (n : Int) (us : List Tn) (hl : us.length ≤ 900) (hok : NumOk us) (hn0 : 0 ≤ n) (hn1 : n ≤ 1000) :
    ∀ t : Tm, Good t → ∀ (v u : Value) (d : Int) (w : World), Tms w v (Tr.enc t) → (Tr.enc t).length ≤ 1000 → Tms w u us → 0 ≤ d → d + (Tr.enc t).length ≤ 2000 →
    Calls Tryz.prog 49 #[v, .int .i64 n, .int .i64 d, u] w (GivesT w (Tr.mapN (putN n us) t (n + 1 + d))) := by
  intro t
  refine Tr.ind (P := fun t => Good t → ∀ (v u : Value) (d : Int) (w : World), Tms w v (Tr.enc t) → (Tr.enc t).length ≤ 1000 → Tms w u us → 0 ≤ d → d + (Tr.enc t).length ≤ 2000 →
    Calls Tryz.prog 49 #[v, .int .i64 n, .int .i64 d, u] w (GivesT w (Tr.mapN (putN n us) t (n + 1 + d)))) ?_ t
  intro t ih hg v u d w h hlen hu hd0 hd1
  obtain ⟨b, o, c, rfl, hc, hm, hb, hcl⟩ := tms_head h
  have hpos := Tr.enc_pos t
  obtain ⟨k1, k2, k3⟩ := hcl _ (Grew.refl w)
  have hnum := tnB_num0 (Tr.hd_wf hg)
  obtain ⟨A, cu, rfl⟩ := tms_slice hu
  by_cases hleaf : Tr.kids t = []
  · have hk := (good_leaf hg).1 hleaf
    rw [Tr.mapN_leaf hleaf]
    have HR := Lib.hid (fun W (hW : Grew w W) => l26Shift_c _ us n d W (hu.grew hW) (by omega) hok hd0 (by omega))
    rw [hk] at k1
    have hhd : Tr.hd t = (0, (Tr.hd t).2.1, (Tr.hd t).2.2) := by rw [← hk]
    rw [hhd]
    generalize (Tr.hd t).2.1 = xn at *
    generalize (Tr.hd t).2.2 = xs at *
    have hal := (Grew.refl w).alloc (.cells #[.int .i64 0, .int .i64 xn, .string xs] 66)
    clear hcl ih hg h hk hleaf hu hok hhd
    generalize (Tr.enc t).length = nn at *
    by_cases he : xn = n
    · have hp : putN n us (0, xn, xs) (n + 1 + d) = raiseL n d us := by unfold putN; rw [if_pos he, show n + 1 + d - n - 1 = d by omega]
      rw [hp]
      clear hp
      subst he
      generalize raiseL xn d us = R at *
      generalize us.length = ul at *
      go_enter Tryz.func49, Tryz.ntmps49
      go_wp2_with fail
      refine (HR.out _ hal).mono ?_
      rintro e w1 ⟨q, rfl, hq, hg1⟩
      go_wp2_with fail
      go_ret
      exact ⟨_, rfl, hq.base hal.size, hal.trans hg1⟩
    · have hne : (xn == n) = false := by simpa using he
      by_cases hgt : n < xn
      · have hp : putN n us (0, xn, xs) (n + 1 + d) = [(0, xn - 1, xs)] := by unfold putN; rw [if_neg he, if_pos hgt]
        rw [hp]
        clear hp HR
        generalize us.length = ul at *
        have hone := fun W => OwnT.one W w.heap.size (0, xn - 1, xs)
        go_enter Tryz.func49, Tryz.ntmps49
        go_wp2_with fail
        go_ret
        have hal2 := (Grew.refl w).alloc (.cells #[.int .i64 0, .int .i64 (xn - 1), .string xs] 66)
        have h1 := hone _ hal2.size
        rw [World.size_alloc] at h1
        exact ⟨_, rfl, h1, hal2.alloc _⟩
      · have hp : putN n us (0, xn, xs) (n + 1 + d) = [(0, xn, xs)] := by unfold putN; rw [if_neg he, if_neg hgt]
        rw [hp]
        clear hp HR
        generalize us.length = ul at *
        have hone := fun W => OwnT.one W w.heap.size (0, xn, xs)
        go_enter Tryz.func49, Tryz.ntmps49
        go_wp2_with fail
        go_ret
        have h1 := hone _ hal.size
        rw [World.size_alloc] at h1
        exact ⟨_, rfl, h1, hal.alloc _⟩
  · have hk : ((Tr.hd t).1 == 0) = false := by
      have := mt (good_leaf hg).2 hleaf
      simpa using this
    have hm1 : 0 < (Tr.kids t).length := List.length_pos_iff.2 hleaf
    have hkl := Tr.kids_len hg
    have har := Tr.ar_le (Tr.hd t).1
    have hgk := good_kind hg
    have hpv : (if 0 ≤ (Tr.hd t).1 ∧ (Tr.hd t).1 ≤ 9 then (Tr.ar (Tr.hd t).1 : Int) else -1) = (((Tr.kids t).length : Nat) : Int) := by rw [if_pos hgk, hkl]
    have HPT := Lib.hid (fun w => l26Parts_c (Tr.hd t).1 w)
    rw [Tr.mapN_kids hleaf]
    have HP := Lib.hid (fun j (hj : j < (Tr.kids t).length) W (hW : Grew w W) => l26Part_c _ t j W (h.grew hW) hg (by omega) hj)
    have hFl : ∀ x m, (putN n us x m).length ≤ us.length + 1 := fun x m => putN_len n us x m
    have hM2 : us.length + 1 ≤ 1000 := by omega
    have HLN := Lib.hid (fun j hj => Nat.le_trans (Tr.mapL_len (by omega) hFl (t := t) (n := n + 1 + d) j hj) (Nat.mul_le_mul (show Tr.off t j ≤ 1000 from by
      rcases Nat.lt_or_ge j (Tr.kids t).length with hh | hh
      · have := Tr.off_end hh; omega
      · have e : Tr.off t j = Tr.off t (Tr.kids t).length := by unfold Tr.off; rw [List.take_of_length_le hh, List.take_length]
        rw [e]
        have := Tr.off_end (t := t) (i := (Tr.kids t).length - 1) (by omega)
        have e2 := Tr.off_next (t := t) (i := (Tr.kids t).length - 1) (by omega)
        rw [show (Tr.kids t).length - 1 + 1 = (Tr.kids t).length by omega] at e2
        omega) hM2))
    have HLN2 := Lib.hid (fun j m (hj : j < (Tr.kids t).length) => Nat.le_trans (Tr.mapN_len (by omega) hFl (Tr.kid t j) m) (Nat.mul_le_mul (show (Tr.enc (Tr.kid t j)).length ≤ 1000 from by have := Tr.kid_small hj; omega) hM2))
    have HIH := Lib.hid (fun i (hi : i < (Tr.kids t).length) x m W (hW : Grew w W) (hd0' : 0 ≤ m) (hd1' : m ≤ 1) hx => ih _ (Tr.kid_mem hi) (Tr.kids_wf hg _ (Tr.kid_mem hi)) x _ (d + m) W hx (by have := Tr.kid_small hi; omega) (hu.grew hW) (by omega) (by have := Tr.kid_small hi; omega))
    obtain ⟨ML, hML⟩ : ∃ ML, ML = Tr.mapL (putN n us) t (n + 1 + d) := ⟨_, rfl⟩
    have HST := Lib.hid (fun j => (by rw [hML, show Tr.mapL (putN n us) t (n + 1 + d) (j + 1) = Tr.mapL (putN n us) t (n + 1 + d) j ++ Tr.mapN (putN n us) (Tr.kid t j) (n + 1 + d + Tr.bd (Tr.hd t).1 j) from rfl, Int.add_assoc (n + 1)] : ML (j + 1) = ML j ++ Tr.mapN (putN n us) (Tr.kid t j) (n + 1 + (d + Tr.bd (Tr.hd t).1 j))))
    have HS0 : Hid (ML 0 = [((Tr.hd t).1, (Tr.hd t).2.1, (Tr.hd t).2.2)]) := Lib.hid (by rw [hML]; rfl)
    rw [← hML] at HLN ⊢
    clear hML hcl ih hg h hleaf hFl hgk hkl hu hok
    generalize (Tr.hd t).1 = kk at *
    generalize (Tr.hd t).2.1 = aa at *
    generalize (Tr.hd t).2.2 = zz at *
    generalize (Tr.enc t).length = nn at *
    generalize hMM : (Tr.kids t).length = m at *
    have hm3 : m ≤ 3 := by have h9 := hpv; split at h9 <;> omega
    generalize hpp : (if 0 ≤ kk ∧ kk ≤ 9 then (Tr.ar kk : Int) else -1) = pp at *
    clear hpp
    generalize us.length = ul at *
    have hal := (Grew.refl w).alloc (.cells #[.int .i64 kk, .int .i64 aa, .string zz] 66)
    have hone := OwnT.one (w.alloc (.cells #[.int .i64 kk, .int .i64 aa, .string zz] 66)) (w.alloc (.cells #[.int .i64 kk, .int .i64 aa, .string zz] 66)).heap.size (kk, aa, zz) (Nat.le_refl _)
    have hg0 := (Grew.refl (w.alloc (.cells #[.int .i64 kk, .int .i64 aa, .string zz] 66))).alloc (.cells #[.int .i64 kk, .int .i64 aa, .string zz] 66)
    have HC0 := Lib.hid (fun W (hW : Grew (w.alloc (.cells #[.int .i64 kk, .int .i64 aa, .string zz] 66)) W) => ((hW.cell (p := ⟨w.heap.size, 0, none⟩) (by simp)).trans (by simp) : W.cell? ⟨w.heap.size, 0, none⟩ = some (.int .i64 kk)))
    go_enter Tryz.func49, Tryz.ntmps49
    go_wp2_with fail
    go_loopw [10, 11] (fun vv i wr => ∃ j : Nat, j ≤ m ∧ i = .int .i64 j ∧ Grew (w.alloc (.cells #[.int .i64 kk, .int .i64 aa, .string zz] 66)) wr ∧ OwnT wr (w.alloc (.cells #[.int .i64 kk, .int .i64 aa, .string zz] 66)).heap.size vv (ML j)) (fun _ i _ => m - (intOf i).toNat)
    case atStart => exact ⟨0, Nat.zero_le _, rfl, hg0, by rw [HS0.out]; simpa using hone⟩
    case round =>
      clear hone hg0
      obtain ⟨j, hj, rfl, hB, hO⟩ := hrel
      have e0 : ∀ W, Grew wr W → W.cell? ⟨w.heap.size, 0, none⟩ = some (.int .i64 kk) := fun W hW => HC0.out W (hB.trans hW)
      have hrr := Grew.refl wr
      by_cases hlt : j < m
      · have hP := Lib.hid (fun W (hW : Grew (w.alloc (.cells #[.int .i64 kk, .int .i64 aa, .string zz] 66)) W) => HP.out j hlt W (hal.trans hW))
        have hl1 := HLN.out j hj
        have hl2 := HLN2.out j (n + 1 + (d + Tr.bd kk j)) hlt
        have hst := Lib.hid (HST.out j)
        have hltI : (j : Int) < (m : Int) := by omega
        cases h1 : (kk == 1) with
        | true =>
          have hbd : Tr.bd kk j = 1 := by unfold Tr.bd; rw [if_pos (.inl (by simpa using h1))]
          rw [hbd] at hst hl2
          have hih := Lib.hid (fun x W (hW : Grew (w.alloc (.cells #[.int .i64 kk, .int .i64 aa, .string zz] 66)) W) hx => HIH.out j hlt x 1 W (hal.trans hW) (by omega) (by omega) hx)
          clear hbd
          generalize Tr.mapN (putN n us) (Tr.kid t j) (n + 1 + (d + 1)) = X at *
          generalize ML j = Y at *
          go_wp2_with fail
          refine (HPT.out _).mono ?_
          rintro e w2 ⟨rfl, hg2⟩
          rw [hpv]
          have hB2 := hB.trans hg2
          go_wp2_with fail
          refine (hP.out _ hB2).mono ?_
          rintro e w3 ⟨x, rfl, hx, hg3⟩
          have hB3 := hB2.trans hg3
          go_wp2_with fail
          refine (hih.out _ _ hB3 hx).mono ?_
          rintro e w4 ⟨q, rfl, hq, hg4⟩
          have hk4 := (hg2.trans hg3).trans hg4
          have hO4 := hO.grew hk4
          have hB4 := hB.trans hk4
          go_wp2_with (first | (at_builtin; refine wpList_appT (w0 := w.alloc (.cells #[.int .i64 kk, .int .i64 aa, .string zz] 66)) _ _ rfl rfl _ Y rfl hO4 hB4 _ X rfl hq.tms (by omega) ?_; intro v5 w5 hown5 hg5 hgr5))
          go_roundw
          case rel => exact ⟨j + 1, by omega, by go_num, hg5, by rw [hst.out]; exact hown5⟩
          case measure => simp [intOf]; omega
        | false =>
          have n1 : kk ≠ 1 := by simpa using h1
          cases h8 : (kk == 8) with
          | true =>
            have e8 : kk = 8 := by simpa using h8
            by_cases hj0 : 0 < j
            · have hbd : Tr.bd kk j = 1 := by unfold Tr.bd; rw [if_pos (.inr ⟨e8, hj0⟩)]
              rw [hbd] at hst hl2
              have hih := Lib.hid (fun x W (hW : Grew (w.alloc (.cells #[.int .i64 kk, .int .i64 aa, .string zz] 66)) W) hx => HIH.out j hlt x 1 W (hal.trans hW) (by omega) (by omega) hx)
              have hj0' : decide ((0 : Int) < (j : Int)) = true := by simp; omega
              clear hbd e8 n1
              generalize Tr.mapN (putN n us) (Tr.kid t j) (n + 1 + (d + 1)) = X at *
              generalize ML j = Y at *
              go_wp2_with fail
              refine (HPT.out _).mono ?_
              rintro e w2 ⟨rfl, hg2⟩
              rw [hpv]
              have hB2 := hB.trans hg2
              go_wp2_with fail
              refine (hP.out _ hB2).mono ?_
              rintro e w3 ⟨x, rfl, hx, hg3⟩
              have hB3 := hB2.trans hg3
              go_wp2_with fail
              refine (hih.out _ _ hB3 hx).mono ?_
              rintro e w4 ⟨q, rfl, hq, hg4⟩
              have hk4 := (hg2.trans hg3).trans hg4
              have hO4 := hO.grew hk4
              have hB4 := hB.trans hk4
              go_wp2_with (first | (at_builtin; refine wpList_appT (w0 := w.alloc (.cells #[.int .i64 kk, .int .i64 aa, .string zz] 66)) _ _ rfl rfl _ Y rfl hO4 hB4 _ X rfl hq.tms (by omega) ?_; intro v5 w5 hown5 hg5 hgr5))
              go_roundw
              case rel => exact ⟨j + 1, by omega, by go_num, hg5, by rw [hst.out]; exact hown5⟩
              case measure => simp [intOf]; omega
            · have hbd : Tr.bd kk j = 0 := by unfold Tr.bd; rw [if_neg (by omega)]
              rw [hbd, Int.add_zero] at hst hl2
              have hih := fun x W (hW : Grew (w.alloc (.cells #[.int .i64 kk, .int .i64 aa, .string zz] 66)) W) hx => HIH.out j hlt x 0 W (hal.trans hW) (by omega) (by omega) hx
              rw [Int.add_zero] at hih
              replace hih := Lib.hid hih
              have hj0' : decide ((0 : Int) < (j : Int)) = false := by simp; omega
              clear hbd e8 n1
              generalize Tr.mapN (putN n us) (Tr.kid t j) (n + 1 + d) = X at *
              generalize ML j = Y at *
              go_wp2_with fail
              refine (HPT.out _).mono ?_
              rintro e w2 ⟨rfl, hg2⟩
              rw [hpv]
              have hB2 := hB.trans hg2
              go_wp2_with fail
              refine (hP.out _ hB2).mono ?_
              rintro e w3 ⟨x, rfl, hx, hg3⟩
              have hB3 := hB2.trans hg3
              go_wp2_with fail
              refine (hih.out _ _ hB3 hx).mono ?_
              rintro e w4 ⟨q, rfl, hq, hg4⟩
              have hk4 := (hg2.trans hg3).trans hg4
              have hO4 := hO.grew hk4
              have hB4 := hB.trans hk4
              go_wp2_with (first | (at_builtin; refine wpList_appT (w0 := w.alloc (.cells #[.int .i64 kk, .int .i64 aa, .string zz] 66)) _ _ rfl rfl _ Y rfl hO4 hB4 _ X rfl hq.tms (by omega) ?_; intro v5 w5 hown5 hg5 hgr5))
              go_roundw
              case rel => exact ⟨j + 1, by omega, by go_num, hg5, by rw [hst.out]; exact hown5⟩
              case measure => simp [intOf]; omega
          | false =>
            have n8 : kk ≠ 8 := by simpa using h8
            have hbd : Tr.bd kk j = 0 := by unfold Tr.bd; rw [if_neg (by omega)]
            rw [hbd, Int.add_zero] at hst hl2
            have hih := fun x W (hW : Grew (w.alloc (.cells #[.int .i64 kk, .int .i64 aa, .string zz] 66)) W) hx => HIH.out j hlt x 0 W (hal.trans hW) (by omega) (by omega) hx
            rw [Int.add_zero] at hih
            replace hih := Lib.hid hih
            clear hbd n8 n1
            generalize Tr.mapN (putN n us) (Tr.kid t j) (n + 1 + d) = X at *
            generalize ML j = Y at *
            go_wp2_with fail
            refine (HPT.out _).mono ?_
            rintro e w2 ⟨rfl, hg2⟩
            rw [hpv]
            have hB2 := hB.trans hg2
            go_wp2_with fail
            refine (hP.out _ hB2).mono ?_
            rintro e w3 ⟨x, rfl, hx, hg3⟩
            have hB3 := hB2.trans hg3
            go_wp2_with fail
            refine (hih.out _ _ hB3 hx).mono ?_
            rintro e w4 ⟨q, rfl, hq, hg4⟩
            have hk4 := (hg2.trans hg3).trans hg4
            have hO4 := hO.grew hk4
            have hB4 := hB.trans hk4
            go_wp2_with (first | (at_builtin; refine wpList_appT (w0 := w.alloc (.cells #[.int .i64 kk, .int .i64 aa, .string zz] 66)) _ _ rfl rfl _ Y rfl hO4 hB4 _ X rfl hq.tms (by omega) ?_; intro v5 w5 hown5 hg5 hgr5))
            go_roundw
            case rel => exact ⟨j + 1, by omega, by go_num, hg5, by rw [hst.out]; exact hown5⟩
            case measure => simp [intOf]; omega
      · obtain rfl : j = m := by omega
        go_wp2_with fail
        refine (HPT.out _).mono ?_
        rintro e w2 ⟨rfl, hg2⟩
        rw [hpv]
        go_wp2_with fail
        go_ret
        exact ⟨_, rfl, (hO.grew hg2).base hal.size, (hal.trans hB).trans hg2⟩
end Go.Proofs.YthofkdpmgjkgkaaGreat

/- l26Contract of the reference. -/
namespace Go.Proofs.YthofkdpmgjkgkaaGreat
open Go.RowKit
open Tr (Tm)

theorem l26Contract_c (v : Value) (t : Tm) (n : Int) (w : World) (h : Tms w v (Tr.enc t)) (hg : Good t) (hr : rdxAt (Tr.enc t) 0 = true) (hlen : (Tr.enc t).length ≤ 800) (hn0 : 0 ≤ n) (hn1 : n ≤ 900) :
    Calls Tryz.prog 109 #[v, .int .i64 n] w (GivesR w (ctr t n)) := by
  have HF := Lib.hid (fun k W (hW : Grew w W) (hk : k < (Tr.kids t).length) => l26Part_c v t k W (h.grew hW) hg (by omega) hk)
  obtain ⟨b0, o0, c0, rfl, hc0, hm0, hb0, hcl0⟩ := tms_head h
  have k0 := fun W (hW : Grew w W) => (hcl0 W hW).1
  have hpos := Tr.enc_pos t
  have hrr := Grew.refl w
  rcases rdx_shape hg hr with ⟨x, y, b, u, rfl, hx, hy⟩ | ⟨x, y, a, b, rfl, hx, hy⟩ | ⟨x, y, s, a, b, rfl, hx, hy⟩
  · have hgf : Good (.t1 y b) := hg.2.1
    have hgb : Good b := hgf.2
    have hgu : Good u := hg.2.2
    have hl2 : (Tr.enc b).length ≤ 800 ∧ (Tr.enc u).length ≤ 800 := by simp [Tr.enc] at hlen ⊢; omega
    obtain ⟨hl3, hl4⟩ := hl2
    have HP0 := fun vb vu W (hb : Tms W vb (Tr.enc b)) (hu : Tms W vu (Tr.enc u)) => l26Put_c n (Tr.enc u) (by omega) (good_numOk hgu) hn0 (by omega) b hgb vb vu 0 W hb (by omega) hu (by omega) (by omega)
    simp only [Int.add_zero] at HP0
    have HP := Lib.hid HP0
    have HF0 := Lib.hid (fun W (hW : Grew w W) => HF.out 0 W hW (by decide : 0 < 2))
    have HF1 := Lib.hid (fun W (hW : Grew w W) => HF.out 1 W hW (by decide : 1 < 2))
    rw [show Tr.kid (.t2 x (.t1 y b) u) 0 = .t1 y b from rfl] at HF0
    rw [show Tr.kid (.t2 x (.t1 y b) u) 1 = u from rfl] at HF1
    have hct : ctr (.t2 x (.t1 y b) u) n = Tr.mapN (putN n (Tr.enc u)) b (n + 1) := rfl
    rw [hct]
    have ek : (Tr.hd (.t2 x (.t1 y b) u)).1 = 2 := hx
    rw [ek] at k0
    generalize (Tr.enc (.t2 x (.t1 y b) u)).length = ll at *
    clear h hcl0 hr hct ek HP0 HF
    generalize Tr.mapN (putN n (Tr.enc u)) b (n + 1) = R at *
    go_enter Tryz.func109, Tryz.ntmps109
    go_wp2_with fail
    refine (HF0.out _ hrr).mono ?_
    rintro e w1 ⟨fv, rfl, hf, hg1⟩
    obtain ⟨b1, o1, c1, rfl, hc1, hm1, hb1, hcl1⟩ := tms_head hf
    have hsub := sub_one (x := y) (a := b) (by simpa [Tr.enc] using hf) (by simpa [Tr.enc] using hc1) hm1
    have hlc : (Tr.enc (.t1 y b)).length = (Tr.enc b).length + 1 := by simp [Tr.enc]
    rw [hlc] at hc1 ⊢
    have HS := Lib.hid hsub
    have q1 := fun W (hW : Grew w1 W) => (hcl1 W hW).1
    change ∀ W, Grew w1 W → W.cell? ⟨b1, o1, none⟩ = some (.int .i64 y.1) at q1
    clear hsub hcl1 hf hlc
    have hc1n : ¬ c1 = 1 := by have := Tr.enc_pos b; omega
    have hs0 := Tr.enc_pos b
    have r1 := Grew.refl w1
    have d1 := r1.drew
    have i1 : (1 : Int) ≤ ((Tr.enc b).length : Int) + 1 := by omega
    have i2 : ((Tr.enc b).length : Int) + 1 ≤ (c1 : Int) := by omega
    have i3 : (0 : Int) ≤ ((Tr.enc b).length : Int) := by omega
    have g0 := fun W (hW : Grew w1 W) => k0 W (hg1.trans hW)
    go_wp2_with fail
    go_region_held3 (fun w' => Grew w1 w') (with_reducible assumption)
      (first
        | (go_at_call 85; refine (HF1.out _ (hg1.trans d1)).mono ?_; rintro e w2 ⟨uv, rfl, hu, hg2⟩; have hk2 := d1.trans hg2)
        | (go_at_call 49; refine (HP.out _ _ _ (HS.out.grew (d1.trans hg2)) (hu)).mono ?_; rintro e w3 ⟨q, rfl, hq, hg3⟩; have hk3 := (d1.trans hg2).trans hg3))
    go_wp2_with fail
    go_ret
    exact ⟨_, rfl, hq.tms, hg1.trans hk3⟩
  · have hgf : Good (.t2 y a b) := hg.2
    have hl2 : (Tr.enc (.t2 y a b)).length ≤ 800 := by simp [Tr.enc] at hlen ⊢; omega
    have HF0 := Lib.hid (fun W (hW : Grew w W) => HF.out 0 W hW (by decide : 0 < 1))
    rw [show Tr.kid (.t1 x (.t2 y a b)) 0 = .t2 y a b from rfl] at HF0
    have HG0 := Lib.hid (fun v W (hv : Tms W v (Tr.enc (.t2 y a b))) => l26Part_c v (.t2 y a b) 0 W hv hgf (by omega) (by decide : 0 < 2))
    have HG1 := Lib.hid (fun v W (hv : Tms W v (Tr.enc (.t2 y a b))) => l26Part_c v (.t2 y a b) 1 W hv hgf (by omega) (by decide : 1 < 2))
    rw [show Tr.kid (.t2 y a b) 0 = a from rfl] at HG0
    rw [show Tr.kid (.t2 y a b) 1 = b from rfl] at HG1
    rcases hx with hx | hx
    · have hct : ctr (.t1 x (.t2 y a b)) n = Tr.enc a := by simp [ctr, hx, Tr.kid, Tr.kids]
      rw [hct]
      have ek : (Tr.hd (.t1 x (.t2 y a b))).1 = 4 := hx
      rw [ek] at k0
      generalize (Tr.enc (.t1 x (.t2 y a b))).length = ll at *
      clear h hcl0 hr hct ek HF
      go_enter Tryz.func109, Tryz.ntmps109
      go_wp2_with fail
      refine (HF0.out _ hrr).mono ?_
      rintro e w1 ⟨fv, rfl, hf, hg1⟩
      have g0 := fun W (hW : Grew w1 W) => k0 W (hg1.trans hW)
      have r1 := Grew.refl w1
      have HF2 := Lib.hid hf
      obtain ⟨A1, c1, rfl⟩ := tms_slice hf
      clear hf
      go_wp2_with fail
      refine (HG0.out _ _ HF2.out).mono ?_
      rintro e w2 ⟨q, rfl, hq, hg2⟩
      go_wp2_with fail
      go_ret
      exact ⟨_, rfl, hq, hg1.trans hg2⟩
    · have hct : ctr (.t1 x (.t2 y a b)) n = Tr.enc b := by simp [ctr, hx, Tr.kid, Tr.kids]
      rw [hct]
      have ek : (Tr.hd (.t1 x (.t2 y a b))).1 = 5 := hx
      rw [ek] at k0
      generalize (Tr.enc (.t1 x (.t2 y a b))).length = ll at *
      clear h hcl0 hr hct ek HF
      go_enter Tryz.func109, Tryz.ntmps109
      go_wp2_with fail
      refine (HF0.out _ hrr).mono ?_
      rintro e w1 ⟨fv, rfl, hf, hg1⟩
      have g0 := fun W (hW : Grew w1 W) => k0 W (hg1.trans hW)
      have r1 := Grew.refl w1
      have HF2 := Lib.hid hf
      obtain ⟨A1, c1, rfl⟩ := tms_slice hf
      clear hf
      go_wp2_with fail
      refine (HG1.out _ _ HF2.out).mono ?_
      rintro e w2 ⟨q, rfl, hq, hg2⟩
      go_wp2_with fail
      go_ret
      exact ⟨_, rfl, hq, hg1.trans hg2⟩
  · have hgf : Good (.t1 y s) := hg.2.1
    have hgs : Good s := hgf.2
    have hga : Good a := hg.2.2.1
    have hgb : Good b := hg.2.2.2
    have hl2 : (Tr.enc s).length ≤ 800 ∧ (Tr.enc a).length ≤ 800 ∧ (Tr.enc b).length ≤ 800 := by simp [Tr.enc] at hlen ⊢; omega
    obtain ⟨hl3, hl4, hl5⟩ := hl2
    have HF0 := Lib.hid (fun W (hW : Grew w W) => HF.out 0 W hW (by decide : 0 < 3))
    rw [show Tr.kid (.t3 x (.t1 y s) a b) 0 = .t1 y s from rfl] at HF0
    have HF1 := Lib.hid (fun W (hW : Grew w W) => HF.out 1 W hW (by decide : 1 < 3))
    rw [show Tr.kid (.t3 x (.t1 y s) a b) 1 = a from rfl] at HF1
    have HF2 := Lib.hid (fun W (hW : Grew w W) => HF.out 2 W hW (by decide : 2 < 3))
    rw [show Tr.kid (.t3 x (.t1 y s) a b) 2 = b from rfl] at HF2
    have ek : (Tr.hd (.t3 x (.t1 y s) a b)).1 = 8 := hx
    rw [ek] at k0
    rcases hy with hy | hy
    · have HP0 := fun vb vu W (hb : Tms W vb (Tr.enc a)) (hu : Tms W vu (Tr.enc s)) => l26Put_c n (Tr.enc s) (by omega) (good_numOk hgs) hn0 (by omega) a hga vb vu 0 W hb (by omega) hu (by omega) (by omega)
      simp only [Int.add_zero] at HP0
      have HP := Lib.hid HP0
      have hct : ctr (.t3 x (.t1 y s) a b) n = Tr.mapN (putN n (Tr.enc s)) a (n + 1) := by simp [ctr, hy, Tr.kid, Tr.kids, Tr.hd]
      rw [hct]
      generalize (Tr.enc (.t3 x (.t1 y s) a b)).length = ll at *
      clear h hcl0 hr hct ek HP0 HF
      generalize Tr.mapN (putN n (Tr.enc s)) a (n + 1) = R at *
      go_enter Tryz.func109, Tryz.ntmps109
      go_wp2_with fail
      refine (HF0.out _ hrr).mono ?_
      rintro e w1 ⟨fv, rfl, hf, hg1⟩
      obtain ⟨b1, o1, c1, rfl, hc1, hm1, hb1, hcl1⟩ := tms_head hf
      have hsub := sub_one (x := y) (a := s) (by simpa [Tr.enc] using hf) (by simpa [Tr.enc] using hc1) hm1
      have hlc : (Tr.enc (.t1 y s)).length = (Tr.enc s).length + 1 := by simp [Tr.enc]
      rw [hlc] at hc1 ⊢
      have HS := Lib.hid hsub
      have q1 := fun W (hW : Grew w1 W) => (hcl1 W hW).1
      change ∀ W, Grew w1 W → W.cell? ⟨b1, o1, none⟩ = some (.int .i64 y.1) at q1
      clear hsub hcl1 hf hlc
      have hc1n : ¬ c1 = 1 := by have := Tr.enc_pos s; omega
      have hs0 := Tr.enc_pos s
      have r1 := Grew.refl w1
      have d1 := r1.drew
      rw [hy] at q1
      have i1 : (1 : Int) ≤ ((Tr.enc s).length : Int) + 1 := by omega
      have i2 : ((Tr.enc s).length : Int) + 1 ≤ (c1 : Int) := by omega
      have i3 : (0 : Int) ≤ ((Tr.enc s).length : Int) := by omega
      have g0 := fun W (hW : Grew w1 W) => k0 W (hg1.trans hW)
      go_wp2_with fail
      go_region_held3 (fun w' => Grew w1 w') (with_reducible assumption)
        (first
          | (go_at_call 85; refine (HF1.out _ (hg1.trans d1)).mono ?_; rintro e w2 ⟨uv, rfl, hu, hg2⟩; have hk2 := d1.trans hg2)
          | (go_at_call 49; refine (HP.out _ _ _ (hu) (HS.out.grew (d1.trans hg2))).mono ?_; rintro e w3 ⟨q, rfl, hq, hg3⟩; have hk3 := (d1.trans hg2).trans hg3))
      go_wp2_with fail
      go_ret
      exact ⟨_, rfl, hq.tms, hg1.trans hk3⟩
    · have HP0 := fun vb vu W (hb : Tms W vb (Tr.enc b)) (hu : Tms W vu (Tr.enc s)) => l26Put_c n (Tr.enc s) (by omega) (good_numOk hgs) hn0 (by omega) b hgb vb vu 0 W hb (by omega) hu (by omega) (by omega)
      simp only [Int.add_zero] at HP0
      have HP := Lib.hid HP0
      have hct : ctr (.t3 x (.t1 y s) a b) n = Tr.mapN (putN n (Tr.enc s)) b (n + 1) := by simp [ctr, hy, Tr.kid, Tr.kids, Tr.hd]
      rw [hct]
      generalize (Tr.enc (.t3 x (.t1 y s) a b)).length = ll at *
      clear h hcl0 hr hct ek HP0 HF
      generalize Tr.mapN (putN n (Tr.enc s)) b (n + 1) = R at *
      go_enter Tryz.func109, Tryz.ntmps109
      go_wp2_with fail
      refine (HF0.out _ hrr).mono ?_
      rintro e w1 ⟨fv, rfl, hf, hg1⟩
      obtain ⟨b1, o1, c1, rfl, hc1, hm1, hb1, hcl1⟩ := tms_head hf
      have hsub := sub_one (x := y) (a := s) (by simpa [Tr.enc] using hf) (by simpa [Tr.enc] using hc1) hm1
      have hlc : (Tr.enc (.t1 y s)).length = (Tr.enc s).length + 1 := by simp [Tr.enc]
      rw [hlc] at hc1 ⊢
      have HS := Lib.hid hsub
      have q1 := fun W (hW : Grew w1 W) => (hcl1 W hW).1
      change ∀ W, Grew w1 W → W.cell? ⟨b1, o1, none⟩ = some (.int .i64 y.1) at q1
      clear hsub hcl1 hf hlc
      have hc1n : ¬ c1 = 1 := by have := Tr.enc_pos s; omega
      have hs0 := Tr.enc_pos s
      have r1 := Grew.refl w1
      have d1 := r1.drew
      rw [hy] at q1
      have i1 : (1 : Int) ≤ ((Tr.enc s).length : Int) + 1 := by omega
      have i2 : ((Tr.enc s).length : Int) + 1 ≤ (c1 : Int) := by omega
      have i3 : (0 : Int) ≤ ((Tr.enc s).length : Int) := by omega
      have g0 := fun W (hW : Grew w1 W) => k0 W (hg1.trans hW)
      go_wp2_with fail
      go_region_held3 (fun w' => Grew w1 w') (with_reducible assumption)
        (first
          | (go_at_call 85; refine (HF2.out _ (hg1.trans d1)).mono ?_; rintro e w2 ⟨uv, rfl, hu, hg2⟩; have hk2 := d1.trans hg2)
          | (go_at_call 49; refine (HP.out _ _ _ (hu) (HS.out.grew (d1.trans hg2))).mono ?_; rintro e w3 ⟨q, rfl, hq, hg3⟩; have hk3 := (d1.trans hg2).trans hg3))
      go_wp2_with fail
      go_ret
      exact ⟨_, rfl, hq.tms, hg1.trans hk3⟩
end Go.Proofs.YthofkdpmgjkgkaaGreat

/- l26At of the reference. -/
namespace Go.Proofs.YthofkdpmgjkgkaaGreat
open Go.RowKit
open Tr (Tm)

set_option maxHeartbeats 800000 in
theorem l26At_c : ∀ t : Tm, Good t → ∀ (v : Value) (n : Int) (i : Nat) (w : World), Tms w v (Tr.enc t) → rdxAt (Tr.enc t) i = true → (Tr.enc t).length ≤ 60 → 0 ≤ n → n + (Tr.enc t).length ≤ 800 →
    Calls Tryz.prog 63 #[v, .int .i64 n, .int .i64 i] w (GivesT w (ctAt t n i)) := by
  intro t
  refine Tr.ind (P := fun t => Good t → ∀ (v : Value) (n : Int) (i : Nat) (w : World), Tms w v (Tr.enc t) → rdxAt (Tr.enc t) i = true → (Tr.enc t).length ≤ 60 → 0 ≤ n → n + (Tr.enc t).length ≤ 800 →
    Calls Tryz.prog 63 #[v, .int .i64 n, .int .i64 i] w (GivesT w (ctAt t n i))) ?_ t
  intro t ih hg v n i w h hr hlen hn0 hn1
  by_cases hi : i = 0
  · subst hi
    rw [ctAt_zero]
    have HC := Lib.hid (fun W (hW : Grew w W) => l26Contract_c v t n W (h.grew hW) hg hr (by omega) hn0 (by omega))
    have hlr := Nat.le_trans (ctr_len (n := n) (M := 60) hg hr hlen) (Nat.mul_le_mul_right 61 hlen)
    obtain ⟨A, c, rfl⟩ := tms_slice h
    clear h hr hg ih
    generalize ctr t n = R at *
    generalize (Tr.enc t).length = nn at *
    have he := own_emptyT w
    have hg0 := (Grew.refl w).alloc (.cells #[] 66)
    go_enter Tryz.func63, Tryz.ntmps63
    go_wp2_with fail
    refine (HC.out _ hg0).mono ?_
    rintro e w1 ⟨u, rfl, ho, hg1⟩
    have he1 := he.grew hg1
    have hk1 := hg0.trans hg1
    clear he
    go_wp2_with (first | (at_builtin; refine wpList_appT (w0 := w) _ _ rfl rfl _ [] rfl he1 hk1 _ R rfl ho (by simp; omega) ?_; intro v2 w2 hown2 hg2 _))
    go_ret
    exact ⟨_, rfl, by simpa using hown2, hg2⟩
  · have hir := rdxAt_lt hr
    have hEnd := Lib.hid (fun j (hj : j < (Tr.kids t).length) W (hW : Grew w W) => by
      have h1 := l26End_c v (Tr.enc t) (Tr.enc t).length (Tr.off t j) W (by omega) (h.grew hW) (by omega) (by have := Tr.off_end hj; omega)
      rw [Tr.pend_kid hg hj, Int.natCast_add] at h1
      exact h1)
    obtain ⟨b, o, c, rfl, hc, hm, hb, hcl⟩ := tms_head h
    have hpos := Tr.enc_pos t
    obtain ⟨k1, k2, k3⟩ := hcl _ (Grew.refl w)
    rw [ctAt_kids (by omega)]
    have hk0 : 0 < (Tr.kids t).length := by
      rcases Nat.eq_zero_or_pos (Tr.kids t).length with h0 | h0
      · have h1 := List.eq_nil_of_length_eq_zero h0
        have h2 : (Tr.enc t).length = 1 := by rw [Tr.enc_kids, h1]; rfl
        omega
      · exact h0
    have hkl := Tr.kids_len hg
    have har := Tr.ar_le (Tr.hd t).1
    have hgk := good_kind hg
    have hpv : (if 0 ≤ (Tr.hd t).1 ∧ (Tr.hd t).1 ≤ 9 then (Tr.ar (Tr.hd t).1 : Int) else -1) = (((Tr.kids t).length : Nat) : Int) := by rw [if_pos hgk, hkl]
    have HPT := Lib.hid (fun w => l26Parts_c (Tr.hd t).1 w)
    have HLN := Lib.hid (fun j hj => Nat.le_trans (ctL_len (n := n) (M := 60) hg hr hlen j hj) (Nat.mul_le_mul_right 61 (show Tr.off t j ≤ 61 from by
      rcases Nat.lt_or_ge j (Tr.kids t).length with hh | hh
      · have := Tr.off_end hh; omega
      · have e : Tr.off t j = Tr.off t (Tr.kids t).length := by unfold Tr.off; rw [List.take_of_length_le hh, List.take_length]
        rw [e]
        have := Tr.off_end (t := t) (i := (Tr.kids t).length - 1) (by omega)
        have e2 := Tr.off_next (t := t) (i := (Tr.kids t).length - 1) (by omega)
        rw [show (Tr.kids t).length - 1 + 1 = (Tr.kids t).length by omega] at e2
        omega)))
    have HIH := Lib.hid (fun j (hj : j < (Tr.kids t).length) (hc : Tr.off t j ≤ i ∧ i < Tr.off t j + (Tr.enc (Tr.kid t j)).length) u d W (hd0 : 0 ≤ d) (hd1 : d ≤ 1) hu => ih _ (Tr.kid_mem hj) (Tr.kids_wf hg _ (Tr.kid_mem hj)) u (n + d) (i - Tr.off t j) W hu (rdx_kid hg hr hj hc) (by have := Tr.kid_small hj; omega) (by omega) (by have := Tr.kid_small hj; omega))
    have HOF := Lib.hid (fun j (hj : j < (Tr.kids t).length) => (⟨Tr.off_end hj, Tr.off_next hj, Tr.enc_pos (Tr.kid t j)⟩ : Tr.off t j + (Tr.enc (Tr.kid t j)).length ≤ (Tr.enc t).length ∧ Tr.off t (j + 1) = Tr.off t j + (Tr.enc (Tr.kid t j)).length ∧ 1 ≤ (Tr.enc (Tr.kid t j)).length))
    have hoz := Tr.off_zero t
    have HSU := Lib.hid (fun j (hj : j < (Tr.kids t).length) => by
      have h1 := h.sub (Tr.off t j) (Tr.enc (Tr.kid t j)).length (c - Tr.off t j) (Tr.off_end hj) (by have := Tr.off_end hj; omega) (by omega)
      rw [Tr.take_kid hj] at h1
      exact h1)
    have HP1 := Lib.hid (fun j (hc : Tr.off t j ≤ i ∧ i < Tr.off t j + (Tr.enc (Tr.kid t j)).length) => (by unfold ctP; exact if_pos hc : ctP t n i j = ctAt (Tr.kid t j) (n + Tr.bd (Tr.hd t).1 j) (i - Tr.off t j)))
    have HP2 := Lib.hid (fun j (hc : ¬ (Tr.off t j ≤ i ∧ i < Tr.off t j + (Tr.enc (Tr.kid t j)).length)) => (by unfold ctP; exact if_neg hc : ctP t n i j = Tr.enc (Tr.kid t j)))
    have HPL := Lib.hid (fun j (hj : j < (Tr.kids t).length) (hc : Tr.off t j ≤ i ∧ i < Tr.off t j + (Tr.enc (Tr.kid t j)).length) => Nat.le_trans (ctAt_len (M := 60) _ (Tr.kids_wf hg _ (Tr.kid_mem hj)) (n + Tr.bd (Tr.hd t).1 j) _ (rdx_kid hg hr hj hc) (by have := Tr.kid_small hj; omega)) (Nat.mul_le_mul_right 61 (show (Tr.enc (Tr.kid t j)).length ≤ 60 from by have := Tr.kid_small hj; omega)))
    obtain ⟨ML, hML⟩ : ∃ ML, ML = ctL t n i := ⟨_, rfl⟩
    have HST := Lib.hid (fun j => (by rw [hML]; rfl : ML (j + 1) = ML j ++ ctP t n i j))
    have HS0 : Hid (ML 0 = [((Tr.hd t).1, (Tr.hd t).2.1, (Tr.hd t).2.2)]) := Lib.hid (by rw [hML]; rfl)
    rw [← hML] at HLN ⊢
    have HK := Lib.hid (fun W (hW : Grew w W) => (hcl W hW).1)
    clear hML hcl ih hg h hr hgk hkl
    generalize (Tr.hd t).1 = kk at *
    generalize (Tr.hd t).2.1 = aa at *
    generalize (Tr.hd t).2.2 = zz at *
    generalize (Tr.enc t).length = nn at *
    generalize hMM : (Tr.kids t).length = m at *
    have hi0 : ((i : Int) == 0) = false := by simpa using hi
    have hm3 : m ≤ 3 := by have h9 := hpv; split at h9 <;> omega
    generalize hpp : (if 0 ≤ kk ∧ kk ≤ 9 then (Tr.ar kk : Int) else -1) = pp at *
    clear hpp har
    have hal := (Grew.refl w).alloc (.cells #[.int .i64 kk, .int .i64 aa, .string zz] 66)
    have hone := OwnT.one w w.heap.size (kk, aa, zz) (Nat.le_refl _)
    go_enter Tryz.func63, Tryz.ntmps63
    go_wp2_with fail
    go_loopw [7, 8, 9] (fun vv x i' wr => ∃ j : Nat, j ≤ m ∧ i' = .int .i64 j ∧ x = .int .i64 (Tr.off t j) ∧ Grew w wr ∧ OwnT wr w.heap.size vv (ML j)) (fun _ _ i' _ => m - (intOf i').toNat)
    case atStart => exact ⟨0, Nat.zero_le _, rfl, by rw [hoz]; rfl, hal, by rw [HS0.out]; exact hone⟩
    case round =>
      clear hone hal
      obtain ⟨j, hj, rfl, rfl, hB, hO⟩ := hrel
      have e0 : ∀ W, Grew wr W → W.cell? ⟨b, o, none⟩ = some (.int .i64 kk) := fun W hW => HK.out W (hB.trans hW)
      have hrr := Grew.refl wr
      by_cases hlt : j < m
      · obtain ⟨hl1, hl2, hl3⟩ := HOF.out j hlt
        have HL2 := Lib.hid hl2
        have hln := HLN.out j hj
        have hst := Lib.hid (HST.out j)
        have hEn := Lib.hid (fun W hW => hEnd.out j hlt W hW)
        have hSu := Lib.hid (fun W (hW : Grew w W) => (HSU.out j hlt).grew hW)
        have hltI : (j : Int) < (m : Int) := by omega
        clear hl2
        by_cases hc : Tr.off t j ≤ i ∧ i < Tr.off t j + (Tr.enc (Tr.kid t j)).length
        · have hX := HPL.out j hlt hc
          rw [HP1.out j hc] at hst
          have hih := fun W hu => HIH.out j hlt hc (.slice (some ⟨b, o + Tr.off t j * 3, none⟩) (Tr.enc (Tr.kid t j)).length (c - Tr.off t j)) (Tr.bd kk j) W (by unfold Tr.bd; split <;> omega) (by unfold Tr.bd; split <;> omega) hu
          rw [Int.ofNat_sub hc.1] at hih
          obtain ⟨hc3, hc4⟩ := hc
          cases h1 : (kk == 1) with
          | true =>
            have hbd : Tr.bd kk j = 1 := by unfold Tr.bd; rw [if_pos (.inl (by simpa using h1))]
            rw [hbd] at hih hX hst
            clear hbd
            replace hih := Lib.hid hih
            replace hX := hX
            generalize ctAt (Tr.kid t j) (n + 1) (i - Tr.off t j) = X at *
            generalize Tr.enc (Tr.kid t j) = KT at *
            skip
            generalize Tr.off t j = oj at *
            generalize ML j = Y at *
            have hq0 : (0 : Int) ≤ (oj : Int) := by omega
            have hq1 : (oj : Int) ≤ (oj : Int) + (KT.length : Int) := by omega
            have hq2 : (oj : Int) + (KT.length : Int) ≤ (c : Int) := by omega
            have hd1 : decide ((oj : Int) ≤ (i : Int)) = true := by simp; omega
            have hd2 : decide ((i : Int) < (oj : Int) + (KT.length : Int)) = true := by simp; omega
            go_wp2_with fail
            refine (HPT.out _).mono ?_
            rintro e w2 ⟨rfl, hg2⟩
            rw [hpv]
            have hB2 := hB.trans hg2
            go_wp2_with fail
            refine (hEn.out _ hB2).mono ?_
            rintro e w3 ⟨rfl, hg3⟩
            have hk3 := hg2.trans hg3
            have hB3 := hB.trans hk3
            have hO3 := hO.grew hk3
            have S3 := Lib.hid (hSu.out _ hB3)
            go_wp2_with fail
            refine (hih.out _ S3.out).mono ?_
            rintro e w4 ⟨q, rfl, hq, hg4⟩
            have hO4 := hO3.grew hg4
            have hB4 := hB3.trans hg4
            go_wp2_with (first | (at_builtin; refine wpList_appT (w0 := w) _ _ rfl rfl _ Y rfl hO4 hB4 _ X rfl hq.tms (by omega) ?_; intro v5 w5 hown5 hg5 hgr5))
            go_roundw
            case rel => exact ⟨j + 1, by omega, by go_num, by rw [HL2.out]; go_num, hg5, by rw [hst.out]; exact hown5⟩
            case measure => simp [intOf]; omega
          | false =>
            have n1 : kk ≠ 1 := by simpa using h1
            cases h8 : (kk == 8) with
            | true =>
              have e8 : kk = 8 := by simpa using h8
              by_cases hj0 : 0 < j
              · have hbd : Tr.bd kk j = 1 := by unfold Tr.bd; rw [if_pos (.inr ⟨e8, hj0⟩)]
                have hj0' : decide ((0 : Int) < (j : Int)) = true := by simp; omega
                clear e8 n1
                rw [hbd] at hih hX hst
                clear hbd
                replace hih := Lib.hid hih
                replace hX := hX
                generalize ctAt (Tr.kid t j) (n + 1) (i - Tr.off t j) = X at *
                generalize Tr.enc (Tr.kid t j) = KT at *
                skip
                generalize Tr.off t j = oj at *
                generalize ML j = Y at *
                have hq0 : (0 : Int) ≤ (oj : Int) := by omega
                have hq1 : (oj : Int) ≤ (oj : Int) + (KT.length : Int) := by omega
                have hq2 : (oj : Int) + (KT.length : Int) ≤ (c : Int) := by omega
                have hd1 : decide ((oj : Int) ≤ (i : Int)) = true := by simp; omega
                have hd2 : decide ((i : Int) < (oj : Int) + (KT.length : Int)) = true := by simp; omega
                go_wp2_with fail
                refine (HPT.out _).mono ?_
                rintro e w2 ⟨rfl, hg2⟩
                rw [hpv]
                have hB2 := hB.trans hg2
                go_wp2_with fail
                refine (hEn.out _ hB2).mono ?_
                rintro e w3 ⟨rfl, hg3⟩
                have hk3 := hg2.trans hg3
                have hB3 := hB.trans hk3
                have hO3 := hO.grew hk3
                have S3 := Lib.hid (hSu.out _ hB3)
                go_wp2_with fail
                refine (hih.out _ S3.out).mono ?_
                rintro e w4 ⟨q, rfl, hq, hg4⟩
                have hO4 := hO3.grew hg4
                have hB4 := hB3.trans hg4
                go_wp2_with (first | (at_builtin; refine wpList_appT (w0 := w) _ _ rfl rfl _ Y rfl hO4 hB4 _ X rfl hq.tms (by omega) ?_; intro v5 w5 hown5 hg5 hgr5))
                go_roundw
                case rel => exact ⟨j + 1, by omega, by go_num, by rw [HL2.out]; go_num, hg5, by rw [hst.out]; exact hown5⟩
                case measure => simp [intOf]; omega
              · have hbd : Tr.bd kk j = 0 := by unfold Tr.bd; rw [if_neg (by omega)]
                have hj0' : decide ((0 : Int) < (j : Int)) = false := by simp; omega
                clear e8 n1
                rw [hbd, Int.add_zero] at hih hX hst
                clear hbd
                replace hih := Lib.hid hih
                replace hX := hX
                generalize ctAt (Tr.kid t j) (n) (i - Tr.off t j) = X at *
                generalize Tr.enc (Tr.kid t j) = KT at *
                skip
                generalize Tr.off t j = oj at *
                generalize ML j = Y at *
                have hq0 : (0 : Int) ≤ (oj : Int) := by omega
                have hq1 : (oj : Int) ≤ (oj : Int) + (KT.length : Int) := by omega
                have hq2 : (oj : Int) + (KT.length : Int) ≤ (c : Int) := by omega
                have hd1 : decide ((oj : Int) ≤ (i : Int)) = true := by simp; omega
                have hd2 : decide ((i : Int) < (oj : Int) + (KT.length : Int)) = true := by simp; omega
                go_wp2_with fail
                refine (HPT.out _).mono ?_
                rintro e w2 ⟨rfl, hg2⟩
                rw [hpv]
                have hB2 := hB.trans hg2
                go_wp2_with fail
                refine (hEn.out _ hB2).mono ?_
                rintro e w3 ⟨rfl, hg3⟩
                have hk3 := hg2.trans hg3
                have hB3 := hB.trans hk3
                have hO3 := hO.grew hk3
                have S3 := Lib.hid (hSu.out _ hB3)
                go_wp2_with fail
                refine (hih.out _ S3.out).mono ?_
                rintro e w4 ⟨q, rfl, hq, hg4⟩
                have hO4 := hO3.grew hg4
                have hB4 := hB3.trans hg4
                go_wp2_with (first | (at_builtin; refine wpList_appT (w0 := w) _ _ rfl rfl _ Y rfl hO4 hB4 _ X rfl hq.tms (by omega) ?_; intro v5 w5 hown5 hg5 hgr5))
                go_roundw
                case rel => exact ⟨j + 1, by omega, by go_num, by rw [HL2.out]; go_num, hg5, by rw [hst.out]; exact hown5⟩
                case measure => simp [intOf]; omega
            | false =>
              have n8 : kk ≠ 8 := by simpa using h8
              have hbd : Tr.bd kk j = 0 := by unfold Tr.bd; rw [if_neg (by omega)]
              clear n8 n1
              rw [hbd, Int.add_zero] at hih hX hst
              clear hbd
              replace hih := Lib.hid hih
              replace hX := hX
              generalize ctAt (Tr.kid t j) (n) (i - Tr.off t j) = X at *
              generalize Tr.enc (Tr.kid t j) = KT at *
              skip
              generalize Tr.off t j = oj at *
              generalize ML j = Y at *
              have hq0 : (0 : Int) ≤ (oj : Int) := by omega
              have hq1 : (oj : Int) ≤ (oj : Int) + (KT.length : Int) := by omega
              have hq2 : (oj : Int) + (KT.length : Int) ≤ (c : Int) := by omega
              have hd1 : decide ((oj : Int) ≤ (i : Int)) = true := by simp; omega
              have hd2 : decide ((i : Int) < (oj : Int) + (KT.length : Int)) = true := by simp; omega
              go_wp2_with fail
              refine (HPT.out _).mono ?_
              rintro e w2 ⟨rfl, hg2⟩
              rw [hpv]
              have hB2 := hB.trans hg2
              go_wp2_with fail
              refine (hEn.out _ hB2).mono ?_
              rintro e w3 ⟨rfl, hg3⟩
              have hk3 := hg2.trans hg3
              have hB3 := hB.trans hk3
              have hO3 := hO.grew hk3
              have S3 := Lib.hid (hSu.out _ hB3)
              go_wp2_with fail
              refine (hih.out _ S3.out).mono ?_
              rintro e w4 ⟨q, rfl, hq, hg4⟩
              have hO4 := hO3.grew hg4
              have hB4 := hB3.trans hg4
              go_wp2_with (first | (at_builtin; refine wpList_appT (w0 := w) _ _ rfl rfl _ Y rfl hO4 hB4 _ X rfl hq.tms (by omega) ?_; intro v5 w5 hown5 hg5 hgr5))
              go_roundw
              case rel => exact ⟨j + 1, by omega, by go_num, by rw [HL2.out]; go_num, hg5, by rw [hst.out]; exact hown5⟩
              case measure => simp [intOf]; omega
        · rw [HP2.out j hc] at hst
          by_cases hc3 : Tr.off t j ≤ i
          · have hc4 : Tr.off t j + (Tr.enc (Tr.kid t j)).length ≤ i := by omega
            cases h1 : (kk == 1) with
            | true =>
              have hbd : Tr.bd kk j = 1 := by unfold Tr.bd; rw [if_pos (.inl (by simpa using h1))]
              clear hbd
              generalize Tr.enc (Tr.kid t j) = KT at *
              generalize Tr.off t j = oj at *
              generalize ML j = Y at *
              have hq0 : (0 : Int) ≤ (oj : Int) := by omega
              have hq1 : (oj : Int) ≤ (oj : Int) + (KT.length : Int) := by omega
              have hq2 : (oj : Int) + (KT.length : Int) ≤ (c : Int) := by omega
              have hd1 : decide ((oj : Int) ≤ (i : Int)) = true := by simp; omega
              have hd2 : decide ((i : Int) < (oj : Int) + (KT.length : Int)) = false := by simp; omega
              go_wp2_with fail
              refine (HPT.out _).mono ?_
              rintro e w2 ⟨rfl, hg2⟩
              rw [hpv]
              have hB2 := hB.trans hg2
              go_wp2_with fail
              refine (hEn.out _ hB2).mono ?_
              rintro e w3 ⟨rfl, hg3⟩
              have hk3 := hg2.trans hg3
              have hB3 := hB.trans hk3
              have hO3 := hO.grew hk3
              have S3 := Lib.hid (by have hS := hSu.out _ hB3; rw [show KT.length = oj + KT.length - oj by omega] at hS; exact hS)
              go_wp2_with (first | (at_builtin; refine wpList_appT (w0 := w) _ _ rfl rfl _ Y rfl hO3 hB3 _ KT rfl S3.out (by omega) ?_; intro v5 w5 hown5 hg5 hgr5))
              go_roundw
              case rel => exact ⟨j + 1, by omega, by go_num, by rw [HL2.out]; go_num, hg5, by rw [hst.out]; exact hown5⟩
              case measure => simp [intOf]; omega
            | false =>
              have n1 : kk ≠ 1 := by simpa using h1
              cases h8 : (kk == 8) with
              | true =>
                have e8 : kk = 8 := by simpa using h8
                by_cases hj0 : 0 < j
                · have hbd : Tr.bd kk j = 1 := by unfold Tr.bd; rw [if_pos (.inr ⟨e8, hj0⟩)]
                  have hj0' : decide ((0 : Int) < (j : Int)) = true := by simp; omega
                  clear e8 n1
                  clear hbd
                  generalize Tr.enc (Tr.kid t j) = KT at *
                  generalize Tr.off t j = oj at *
                  generalize ML j = Y at *
                  have hq0 : (0 : Int) ≤ (oj : Int) := by omega
                  have hq1 : (oj : Int) ≤ (oj : Int) + (KT.length : Int) := by omega
                  have hq2 : (oj : Int) + (KT.length : Int) ≤ (c : Int) := by omega
                  have hd1 : decide ((oj : Int) ≤ (i : Int)) = true := by simp; omega
                  have hd2 : decide ((i : Int) < (oj : Int) + (KT.length : Int)) = false := by simp; omega
                  go_wp2_with fail
                  refine (HPT.out _).mono ?_
                  rintro e w2 ⟨rfl, hg2⟩
                  rw [hpv]
                  have hB2 := hB.trans hg2
                  go_wp2_with fail
                  refine (hEn.out _ hB2).mono ?_
                  rintro e w3 ⟨rfl, hg3⟩
                  have hk3 := hg2.trans hg3
                  have hB3 := hB.trans hk3
                  have hO3 := hO.grew hk3
                  have S3 := Lib.hid (by have hS := hSu.out _ hB3; rw [show KT.length = oj + KT.length - oj by omega] at hS; exact hS)
                  go_wp2_with (first | (at_builtin; refine wpList_appT (w0 := w) _ _ rfl rfl _ Y rfl hO3 hB3 _ KT rfl S3.out (by omega) ?_; intro v5 w5 hown5 hg5 hgr5))
                  go_roundw
                  case rel => exact ⟨j + 1, by omega, by go_num, by rw [HL2.out]; go_num, hg5, by rw [hst.out]; exact hown5⟩
                  case measure => simp [intOf]; omega
                · have hbd : Tr.bd kk j = 0 := by unfold Tr.bd; rw [if_neg (by omega)]
                  have hj0' : decide ((0 : Int) < (j : Int)) = false := by simp; omega
                  clear e8 n1
                  clear hbd
                  generalize Tr.enc (Tr.kid t j) = KT at *
                  generalize Tr.off t j = oj at *
                  generalize ML j = Y at *
                  have hq0 : (0 : Int) ≤ (oj : Int) := by omega
                  have hq1 : (oj : Int) ≤ (oj : Int) + (KT.length : Int) := by omega
                  have hq2 : (oj : Int) + (KT.length : Int) ≤ (c : Int) := by omega
                  have hd1 : decide ((oj : Int) ≤ (i : Int)) = true := by simp; omega
                  have hd2 : decide ((i : Int) < (oj : Int) + (KT.length : Int)) = false := by simp; omega
                  go_wp2_with fail
                  refine (HPT.out _).mono ?_
                  rintro e w2 ⟨rfl, hg2⟩
                  rw [hpv]
                  have hB2 := hB.trans hg2
                  go_wp2_with fail
                  refine (hEn.out _ hB2).mono ?_
                  rintro e w3 ⟨rfl, hg3⟩
                  have hk3 := hg2.trans hg3
                  have hB3 := hB.trans hk3
                  have hO3 := hO.grew hk3
                  have S3 := Lib.hid (by have hS := hSu.out _ hB3; rw [show KT.length = oj + KT.length - oj by omega] at hS; exact hS)
                  go_wp2_with (first | (at_builtin; refine wpList_appT (w0 := w) _ _ rfl rfl _ Y rfl hO3 hB3 _ KT rfl S3.out (by omega) ?_; intro v5 w5 hown5 hg5 hgr5))
                  go_roundw
                  case rel => exact ⟨j + 1, by omega, by go_num, by rw [HL2.out]; go_num, hg5, by rw [hst.out]; exact hown5⟩
                  case measure => simp [intOf]; omega
              | false =>
                have n8 : kk ≠ 8 := by simpa using h8
                have hbd : Tr.bd kk j = 0 := by unfold Tr.bd; rw [if_neg (by omega)]
                clear n8 n1
                clear hbd
                generalize Tr.enc (Tr.kid t j) = KT at *
                generalize Tr.off t j = oj at *
                generalize ML j = Y at *
                have hq0 : (0 : Int) ≤ (oj : Int) := by omega
                have hq1 : (oj : Int) ≤ (oj : Int) + (KT.length : Int) := by omega
                have hq2 : (oj : Int) + (KT.length : Int) ≤ (c : Int) := by omega
                have hd1 : decide ((oj : Int) ≤ (i : Int)) = true := by simp; omega
                have hd2 : decide ((i : Int) < (oj : Int) + (KT.length : Int)) = false := by simp; omega
                go_wp2_with fail
                refine (HPT.out _).mono ?_
                rintro e w2 ⟨rfl, hg2⟩
                rw [hpv]
                have hB2 := hB.trans hg2
                go_wp2_with fail
                refine (hEn.out _ hB2).mono ?_
                rintro e w3 ⟨rfl, hg3⟩
                have hk3 := hg2.trans hg3
                have hB3 := hB.trans hk3
                have hO3 := hO.grew hk3
                have S3 := Lib.hid (by have hS := hSu.out _ hB3; rw [show KT.length = oj + KT.length - oj by omega] at hS; exact hS)
                go_wp2_with (first | (at_builtin; refine wpList_appT (w0 := w) _ _ rfl rfl _ Y rfl hO3 hB3 _ KT rfl S3.out (by omega) ?_; intro v5 w5 hown5 hg5 hgr5))
                go_roundw
                case rel => exact ⟨j + 1, by omega, by go_num, by rw [HL2.out]; go_num, hg5, by rw [hst.out]; exact hown5⟩
                case measure => simp [intOf]; omega
          · skip
            cases h1 : (kk == 1) with
            | true =>
              have hbd : Tr.bd kk j = 1 := by unfold Tr.bd; rw [if_pos (.inl (by simpa using h1))]
              clear hbd
              generalize Tr.enc (Tr.kid t j) = KT at *
              generalize Tr.off t j = oj at *
              generalize ML j = Y at *
              have hq0 : (0 : Int) ≤ (oj : Int) := by omega
              have hq1 : (oj : Int) ≤ (oj : Int) + (KT.length : Int) := by omega
              have hq2 : (oj : Int) + (KT.length : Int) ≤ (c : Int) := by omega
              have hd1 : decide ((oj : Int) ≤ (i : Int)) = false := by simp; omega
              go_wp2_with fail
              refine (HPT.out _).mono ?_
              rintro e w2 ⟨rfl, hg2⟩
              rw [hpv]
              have hB2 := hB.trans hg2
              go_wp2_with fail
              refine (hEn.out _ hB2).mono ?_
              rintro e w3 ⟨rfl, hg3⟩
              have hk3 := hg2.trans hg3
              have hB3 := hB.trans hk3
              have hO3 := hO.grew hk3
              have S3 := Lib.hid (by have hS := hSu.out _ hB3; rw [show KT.length = oj + KT.length - oj by omega] at hS; exact hS)
              go_wp2_with (first | (at_builtin; refine wpList_appT (w0 := w) _ _ rfl rfl _ Y rfl hO3 hB3 _ KT rfl S3.out (by omega) ?_; intro v5 w5 hown5 hg5 hgr5))
              go_roundw
              case rel => exact ⟨j + 1, by omega, by go_num, by rw [HL2.out]; go_num, hg5, by rw [hst.out]; exact hown5⟩
              case measure => simp [intOf]; omega
            | false =>
              have n1 : kk ≠ 1 := by simpa using h1
              cases h8 : (kk == 8) with
              | true =>
                have e8 : kk = 8 := by simpa using h8
                by_cases hj0 : 0 < j
                · have hbd : Tr.bd kk j = 1 := by unfold Tr.bd; rw [if_pos (.inr ⟨e8, hj0⟩)]
                  have hj0' : decide ((0 : Int) < (j : Int)) = true := by simp; omega
                  clear e8 n1
                  clear hbd
                  generalize Tr.enc (Tr.kid t j) = KT at *
                  generalize Tr.off t j = oj at *
                  generalize ML j = Y at *
                  have hq0 : (0 : Int) ≤ (oj : Int) := by omega
                  have hq1 : (oj : Int) ≤ (oj : Int) + (KT.length : Int) := by omega
                  have hq2 : (oj : Int) + (KT.length : Int) ≤ (c : Int) := by omega
                  have hd1 : decide ((oj : Int) ≤ (i : Int)) = false := by simp; omega
                  go_wp2_with fail
                  refine (HPT.out _).mono ?_
                  rintro e w2 ⟨rfl, hg2⟩
                  rw [hpv]
                  have hB2 := hB.trans hg2
                  go_wp2_with fail
                  refine (hEn.out _ hB2).mono ?_
                  rintro e w3 ⟨rfl, hg3⟩
                  have hk3 := hg2.trans hg3
                  have hB3 := hB.trans hk3
                  have hO3 := hO.grew hk3
                  have S3 := Lib.hid (by have hS := hSu.out _ hB3; rw [show KT.length = oj + KT.length - oj by omega] at hS; exact hS)
                  go_wp2_with (first | (at_builtin; refine wpList_appT (w0 := w) _ _ rfl rfl _ Y rfl hO3 hB3 _ KT rfl S3.out (by omega) ?_; intro v5 w5 hown5 hg5 hgr5))
                  go_roundw
                  case rel => exact ⟨j + 1, by omega, by go_num, by rw [HL2.out]; go_num, hg5, by rw [hst.out]; exact hown5⟩
                  case measure => simp [intOf]; omega
                · have hbd : Tr.bd kk j = 0 := by unfold Tr.bd; rw [if_neg (by omega)]
                  have hj0' : decide ((0 : Int) < (j : Int)) = false := by simp; omega
                  clear e8 n1
                  clear hbd
                  generalize Tr.enc (Tr.kid t j) = KT at *
                  generalize Tr.off t j = oj at *
                  generalize ML j = Y at *
                  have hq0 : (0 : Int) ≤ (oj : Int) := by omega
                  have hq1 : (oj : Int) ≤ (oj : Int) + (KT.length : Int) := by omega
                  have hq2 : (oj : Int) + (KT.length : Int) ≤ (c : Int) := by omega
                  have hd1 : decide ((oj : Int) ≤ (i : Int)) = false := by simp; omega
                  go_wp2_with fail
                  refine (HPT.out _).mono ?_
                  rintro e w2 ⟨rfl, hg2⟩
                  rw [hpv]
                  have hB2 := hB.trans hg2
                  go_wp2_with fail
                  refine (hEn.out _ hB2).mono ?_
                  rintro e w3 ⟨rfl, hg3⟩
                  have hk3 := hg2.trans hg3
                  have hB3 := hB.trans hk3
                  have hO3 := hO.grew hk3
                  have S3 := Lib.hid (by have hS := hSu.out _ hB3; rw [show KT.length = oj + KT.length - oj by omega] at hS; exact hS)
                  go_wp2_with (first | (at_builtin; refine wpList_appT (w0 := w) _ _ rfl rfl _ Y rfl hO3 hB3 _ KT rfl S3.out (by omega) ?_; intro v5 w5 hown5 hg5 hgr5))
                  go_roundw
                  case rel => exact ⟨j + 1, by omega, by go_num, by rw [HL2.out]; go_num, hg5, by rw [hst.out]; exact hown5⟩
                  case measure => simp [intOf]; omega
              | false =>
                have n8 : kk ≠ 8 := by simpa using h8
                have hbd : Tr.bd kk j = 0 := by unfold Tr.bd; rw [if_neg (by omega)]
                clear n8 n1
                clear hbd
                generalize Tr.enc (Tr.kid t j) = KT at *
                generalize Tr.off t j = oj at *
                generalize ML j = Y at *
                have hq0 : (0 : Int) ≤ (oj : Int) := by omega
                have hq1 : (oj : Int) ≤ (oj : Int) + (KT.length : Int) := by omega
                have hq2 : (oj : Int) + (KT.length : Int) ≤ (c : Int) := by omega
                have hd1 : decide ((oj : Int) ≤ (i : Int)) = false := by simp; omega
                go_wp2_with fail
                refine (HPT.out _).mono ?_
                rintro e w2 ⟨rfl, hg2⟩
                rw [hpv]
                have hB2 := hB.trans hg2
                go_wp2_with fail
                refine (hEn.out _ hB2).mono ?_
                rintro e w3 ⟨rfl, hg3⟩
                have hk3 := hg2.trans hg3
                have hB3 := hB.trans hk3
                have hO3 := hO.grew hk3
                have S3 := Lib.hid (by have hS := hSu.out _ hB3; rw [show KT.length = oj + KT.length - oj by omega] at hS; exact hS)
                go_wp2_with (first | (at_builtin; refine wpList_appT (w0 := w) _ _ rfl rfl _ Y rfl hO3 hB3 _ KT rfl S3.out (by omega) ?_; intro v5 w5 hown5 hg5 hgr5))
                go_roundw
                case rel => exact ⟨j + 1, by omega, by go_num, by rw [HL2.out]; go_num, hg5, by rw [hst.out]; exact hown5⟩
                case measure => simp [intOf]; omega
      · obtain rfl : j = m := by omega
        go_wp2_with fail
        refine (HPT.out _).mono ?_
        rintro e w2 ⟨rfl, hg2⟩
        rw [hpv]
        go_wp2_with fail
        go_ret
        exact ⟨_, rfl, hO.grew hg2, hB.trans hg2⟩
end Go.Proofs.YthofkdpmgjkgkaaGreat

/- The type of a term is a formula of the size of a text. No program is in sight. -/
namespace Go.Proofs.YthofkdpmgjkgkaaGreat
open Go.RowKit
open Tr (Tm)

theorem goodN_text {x : Tn} (h : GoodN x) (hk : typedB x.1 = true) (h0 : x.1 ≠ 0) : gp x.2.2 = true := by
  unfold GoodN tnB at h
  have h0' : (x.1 == 0) = false := by simpa using h0
  rw [h0', if_neg (by simp), hk, if_pos rfl] at h
  simp only [Bool.and_eq_true] at h
  exact h.2
theorem fmOk_and {p q : Fm.Tree} (h : FmOk (.and p q)) : FmOk p ∧ FmOk q := FmOk.bin (k := 2) rfl h
theorem fmOk_or {p q : Fm.Tree} (h : FmOk (.or p q)) : FmOk p ∧ FmOk q := FmOk.bin (k := 3) rfl h
theorem fmOk_imp {p q : Fm.Tree} (h : FmOk (.imp p q)) : FmOk p ∧ FmOk q := FmOk.bin (k := 4) rfl h
theorem small_and {p q B : Fm.Tree} (hp : FmOk p) (hq : FmOk q) (h : smallF (.and p q) = some B) : FmOk B := by
  obtain ⟨rfl, hl⟩ := smallF_ok h
  exact FmOk.join (k := 2) rfl (by decide) hp hq hl
theorem small_or {p q B : Fm.Tree} (hp : FmOk p) (hq : FmOk q) (h : smallF (.or p q) = some B) : FmOk B := by
  obtain ⟨rfl, hl⟩ := smallF_ok h
  exact FmOk.join (k := 3) rfl (by decide) hp hq hl
theorem small_imp {p q B : Fm.Tree} (hp : FmOk p) (hq : FmOk q) (h : smallF (.imp p q) = some B) : FmOk B := by
  obtain ⟨rfl, hl⟩ := smallF_ok h
  exact FmOk.join (k := 4) rfl (by decide) hp hq hl
theorem ty1_ok {k : Int} {A a B : Fm.Tree} (hA : (k = 6 ∨ k = 7 ∨ k = 9) → FmOk A) (hk : k = 4 ∨ k = 5 ∨ k = 6 ∨ k = 7 ∨ k = 9) (ha : FmOk a) (h : ty1 k A a = some B) : FmOk B := by
  unfold ty1 at h
  rcases hk with rfl | rfl | rfl | rfl | rfl
  · simp only [if_pos] at h
    cases a <;> simp at h
    subst h; exact (fmOk_and ha).1
  · rw [if_neg (by decide), if_pos rfl] at h
    cases a <;> simp at h
    subst h; exact (fmOk_and ha).2
  · rw [if_neg (by decide), if_neg (by decide), if_pos rfl] at h
    exact small_or ha (hA (by simp)) h
  · rw [if_neg (by decide), if_neg (by decide), if_neg (by decide), if_pos rfl] at h
    exact small_or (hA (by simp)) ha h
  · rw [if_neg (by decide), if_neg (by decide), if_neg (by decide), if_neg (by decide)] at h
    cases a <;> simp at h
    subst h; exact hA (by simp)
theorem ty2_ok {k : Int} {F U B : Fm.Tree} (hF : FmOk F) (hU : FmOk U) (h : ty2 k F U = some B) : FmOk B := by
  unfold ty2 at h
  split at h
  · exact small_and hF hU h
  · cases F with
    | imp p q =>
      simp only at h
      split at h
      · simp at h; subst h; exact (fmOk_imp hF).2
      · cases h
    | _ => cases h
theorem ty_ok : ∀ t : Tm, Good t → ∀ (G : List Fm.Tree) (B : Fm.Tree), (∀ A ∈ G, FmOk A) → ty G t = some B → FmOk B := by
  intro t
  induction t with
  | t0 x =>
    intro _ G B hG h
    exact hG _ (List.mem_of_getElem? h)
  | t1 x a ha =>
    intro hg G B hG h
    have hk := ar_one hg.1.1
    have hx : (x.1 = 1 ∨ x.1 = 6 ∨ x.1 = 7 ∨ x.1 = 9) → FmOk (fo x.2.2) := fun hh => (fo_ok (goodN_text hg.1.2 (by rcases hh with e | e | e | e <;> rw [e] <;> decide) (by omega))).1
    unfold ty at h
    by_cases h1 : x.1 = 1
    · rw [if_pos h1] at h
      split at h
      · unfold tyLam at h
        rw [Option.bind_eq_some_iff] at h
        obtain ⟨C, hC, h⟩ := h
        have hC2 := ha hg.2 _ _ (fun A hA => by
          rw [List.mem_append] at hA
          rcases hA with hA | hA
          · exact hG A hA
          · simp at hA; subst hA; exact hx (.inl h1)) hC
        exact small_imp (hx (.inl h1)) hC2 h
      · cases h
    · rw [if_neg h1] at h
      rw [Option.bind_eq_some_iff] at h
      obtain ⟨C, hC, h⟩ := h
      exact ty1_ok (fun hh => hx (.inr hh)) (by omega) (ha hg.2 G C hG hC) h
  | t2 x f u hf hu =>
    intro hg G B hG h
    unfold ty at h
    rw [Option.bind_eq_some_iff] at h
    obtain ⟨F, hF, h⟩ := h
    rw [Option.bind_eq_some_iff] at h
    obtain ⟨U, hU, h⟩ := h
    exact ty2_ok (hf hg.2.1 G F hG hF) (hu hg.2.2 G U hG hU) h
  | t3 x c a b hc ha hb =>
    intro hg G B hG h
    unfold ty at h
    rw [Option.bind_eq_some_iff] at h
    obtain ⟨C, hC, h⟩ := h
    have hC2 := hc hg.2.1 G C hG hC
    cases C with
    | or p q =>
      simp only at h
      split at h
      · rw [Option.bind_eq_some_iff] at h
        obtain ⟨R, hR, h⟩ := h
        rw [Option.bind_eq_some_iff] at h
        obtain ⟨S, hS, h⟩ := h
        have hR2 := ha hg.2.2.1 _ R (fun A hA => by
          rw [List.mem_append] at hA
          rcases hA with hA | hA
          · exact hG A hA
          · simp at hA; subst hA; exact (fmOk_or hC2).1) hR
        split at h
        · simp at h; subst h; exact hR2
        · cases h
      · cases h
    | _ => cases h
/-- The text of a type, or the empty text. -/
noncomputable def otx : Option Fm.Tree → ByteArray
  | some A => tx A
  | none => ByteArray.empty
end Go.Proofs.YthofkdpmgjkgkaaGreat

/- Formulas joined by their texts: joinTexts of the program, l26Joined of the reference. -/
namespace Go.Proofs.YthofkdpmgjkgkaaGreat
open Go.RowKit

theorem joinTexts_c (k : Int) (A B C : Fm.Tree) (w : World) (hA : (Fm.enc A).length ≤ 40) (hB : (Fm.enc B).length ≤ 40) (he : Fm.enc C = Fm.join k (Fm.enc A) (Fm.enc B)) :
    Calls Tryz.prog 136 #[.int .i64 k, .string (tx A), .string (tx B)] w fun e w' => e = .returned (.tuple #[.string (tx C), .bool (decide ((Fm.enc C).length ≤ 40))]) ∧ Grew w w' := by
  have KA := fun w => parsed_c (tx A) w (by have := tx_size hA; omega)
  have KB := fun w => parsed_c (tx B) w (by have := tx_size hB; omega)
  rw [tx_pf hA] at KA
  rw [tx_pf hB] at KB
  have hC : (Fm.enc C).length ≤ 81 := by rw [he]; simp [Fm.join]; omega
  have KT := Lib.hid (fun v w h => text0_c C v w h (by omega))
  have KJ := Lib.hid (fun va vb w (ha : Nodes w va (Fm.enc A)) (hb : Nodes w vb (Fm.enc B)) => by
    have h1 := join_c k va vb (Fm.enc A) (Fm.enc B) w ha hb (by omega)
    rw [← he] at h1
    exact h1)
  replace KA := Lib.hid KA
  replace KB := Lib.hid KB
  have hS : bs (Fm.txt C 0) = tx C := rfl
  unfold Says at KT
  rw [hS] at KT
  generalize tx A = a at *
  generalize tx B = b at *
  generalize tx C = c at *
  clear hS he hA hB
  generalize Fm.enc A = xa at *
  generalize Fm.enc B = xb at *
  generalize Fm.enc C = xc at *
  have r0 := Grew.refl w
  go_enter Tryz.func136, Tryz.ntmps136
  go_wp2_with fail
  refine (KA.out _).mono ?_
  rintro e w1 ⟨v1, rfl, ho1, hg1, _⟩
  have HA1 := Lib.hid ho1.nodes
  obtain ⟨A1, c1, rfl⟩ := nodes_slice ho1.nodes
  clear ho1
  go_wp2_with fail
  refine (KB.out _).mono ?_
  rintro e w2 ⟨v2, rfl, ho2, hg2, _⟩
  have HB2 := Lib.hid ho2.nodes
  obtain ⟨A2, c2, rfl⟩ := nodes_slice ho2.nodes
  clear ho2
  go_wp2_with fail
  refine (KJ.out _ _ _ (HA1.out.grew hg2) HB2.out).mono ?_
  rintro e w3 ⟨v3, rfl, ho3, hg3⟩
  have HC3 := Lib.hid ho3.nodes
  obtain ⟨A3, c3, rfl⟩ := nodes_slice ho3.nodes
  clear ho3
  have g3 := (hg1.trans hg2).trans hg3
  go_wp2_with fail
  refine (KT.out _ _ HC3.out).mono ?_
  rintro e w4 ⟨rfl, hg4⟩
  go_wp2_with fail
  go_ret2
  have hd2 : decide ((xc.length : Int) ≤ 40) = decide (xc.length ≤ 40) := decide_eq_decide.2 (by omega)
  exact ⟨by rw [← hd2]; rfl, g3.trans hg4⟩

theorem l26Joined_c (k : Int) (A B C : Fm.Tree) (w : World) (hA : (Fm.enc A).length ≤ 40) (hB : (Fm.enc B).length ≤ 40) (he : Fm.enc C = Fm.join k (Fm.enc A) (Fm.enc B)) :
    Calls Tryz.prog 100 #[.int .i64 k, .string (tx A), .string (tx B)] w fun e w' => e = .returned (.string (if (Fm.enc C).length ≤ 40 then tx C else ByteArray.empty)) ∧ Grew w w' := by
  have KA := fun w => l02Good_c (tx A) w (by have := tx_size hA; omega)
  have KB := fun w => l02Good_c (tx B) w (by have := tx_size hB; omega)
  unfold GivesG at KA KB
  rw [tx_pf hA] at KA
  rw [tx_pf hB] at KB
  have hC : (Fm.enc C).length ≤ 81 := by rw [he]; simp [Fm.join]; omega
  have KT := Lib.hid (fun v w h => l02Text_c C v w h (by omega))
  have KJ := Lib.hid (fun va vb w (ha : Nodes w va (Fm.enc A)) (hb : Nodes w vb (Fm.enc B)) => by
    have h1 := l02Pair_c k va vb (Fm.enc A) (Fm.enc B) w ha hb (by omega)
    rw [← he] at h1
    exact h1)
  generalize gd (tx A) = ga at *
  generalize gd (tx B) = gb at *
  replace KA := Lib.hid KA
  replace KB := Lib.hid KB
  have hS : bs (Fm.txt C 0) = tx C := rfl
  unfold Says at KT
  rw [hS] at KT
  generalize tx A = a at *
  generalize tx B = b at *
  generalize tx C = c at *
  clear hS he hA hB
  generalize Fm.enc A = xa at *
  generalize Fm.enc B = xb at *
  generalize Fm.enc C = xc at *
  by_cases hl : xc.length ≤ 40
  · rw [if_pos hl]
    go_enter Tryz.func100, Tryz.ntmps100
    go_wp2_with fail
    refine (KA.out _).mono ?_
    rintro e w1 ⟨v1, rfl, ho1, hg1⟩
    have HA1 := Lib.hid ho1.nodes
    obtain ⟨A1, c1, rfl⟩ := nodes_slice ho1.nodes
    clear ho1
    go_wp2_with fail
    refine (KB.out _).mono ?_
    rintro e w2 ⟨v2, rfl, ho2, hg2⟩
    have HB2 := Lib.hid ho2.nodes
    obtain ⟨A2, c2, rfl⟩ := nodes_slice ho2.nodes
    clear ho2
    go_wp2_with fail
    refine (KJ.out _ _ _ (HA1.out.grew hg2) HB2.out).mono ?_
    rintro e w3 ⟨v3, rfl, ho3, hg3⟩
    have HC3 := Lib.hid ho3.nodes
    obtain ⟨A3, c3, rfl⟩ := nodes_slice ho3.nodes
    clear ho3
    have g3 := (hg1.trans hg2).trans hg3
    go_wp2_with fail
    refine (KT.out _ _ HC3.out).mono ?_
    rintro e w4 ⟨rfl, hg4⟩
    go_wp2_with fail
    go_ret
    exact ⟨rfl, g3.trans hg4⟩
  · rw [if_neg hl]
    have hl2 : 40 < xc.length := by omega
    go_enter Tryz.func100, Tryz.ntmps100
    go_wp2_with fail
    refine (KA.out _).mono ?_
    rintro e w1 ⟨v1, rfl, ho1, hg1⟩
    have HA1 := Lib.hid ho1.nodes
    obtain ⟨A1, c1, rfl⟩ := nodes_slice ho1.nodes
    clear ho1
    go_wp2_with fail
    refine (KB.out _).mono ?_
    rintro e w2 ⟨v2, rfl, ho2, hg2⟩
    have HB2 := Lib.hid ho2.nodes
    obtain ⟨A2, c2, rfl⟩ := nodes_slice ho2.nodes
    clear ho2
    go_wp2_with fail
    refine (KJ.out _ _ _ (HA1.out.grew hg2) HB2.out).mono ?_
    rintro e w3 ⟨v3, rfl, ho3, hg3⟩
    have HC3 := Lib.hid ho3.nodes
    obtain ⟨A3, c3, rfl⟩ := nodes_slice ho3.nodes
    clear ho3
    have g3 := (hg1.trans hg2).trans hg3
    go_wp2_with fail
    go_ret
    exact ⟨rfl, g3⟩
end Go.Proofs.YthofkdpmgjkgkaaGreat

/- The parts of a formula by their texts: l25Parts of the reference. -/
namespace Go.Proofs.YthofkdpmgjkgkaaGreat
open Go.RowKit

/-- The formula has two parts. -/
def TwoF (A p q : Fm.Tree) : Prop := Fm.enc A = (kindOf A, 0) :: (Fm.enc p ++ Fm.enc q)
theorem TwoF.len {A p q : Fm.Tree} (h : TwoF A p q) : (Fm.enc A).length = 1 + (Fm.enc p).length + (Fm.enc q).length := by rw [h]; simp; omega

theorem l25Parts_yes (k : Int) (A p q : Fm.Tree) (w : World) (hA : FmOk A) (hk : kindOf A = k) (h2 : TwoF A p q) :
    Calls Tryz.prog 101 #[.string (tx A), .int .i64 k] w fun e w' => e = .returned (.tuple #[.string (tx p), .string (tx q), .bool true]) ∧ Grew w w' := by
  have KA := fun w => l25Formula_c (tx A) w (by have := tx_size hA.1; omega)
  unfold GivesP at KA
  rw [gp_tx hA, tx_pf hA.1] at KA
  replace KA := Lib.hid KA
  have hl := h2.len
  have hA1 := hA.1
  have KL := Lib.hid (fun v w h => l02Left_c v (Fm.enc A) p w h (by omega) (at_first h2))
  have KR := Lib.hid (fun v w h => l02Right_c v (Fm.enc A) p q w h (by omega) (at_first h2) (at_second h2) hl)
  have KP := Lib.hid (fun v w h => l02Text_c p v w h (by omega))
  have KQ := Lib.hid (fun v w h => l02Text_c q v w h (by omega))
  have e1 : bs (Fm.txt p 0) = tx p := rfl
  have e2 : bs (Fm.txt q 0) = tx q := rfl
  unfold Says at KP KQ
  rw [e1] at KP
  rw [e2] at KQ
  clear e1 e2 hl
  go_enter Tryz.func101, Tryz.ntmps101
  go_wp2_with fail
  refine (KA.out _).mono ?_
  rintro e w1 ⟨v1, rfl, ho1, hg1⟩
  have HA1 := Lib.hid ho1.nodes
  obtain ⟨b1, o1, c1, rfl, hc1, hm1, k1⟩ := nodes_head ho1.nodes
  rw [hk] at k1
  clear ho1
  have r1 := Grew.refl w1
  have d1 := r1.drew
  have hpos := Fm.enc_pos A
  go_wp2_with fail
  refine (KL.out _ _ HA1.out).mono ?_
  rintro e w2 ⟨v2, rfl, hn2, hg2⟩
  have H2 := Lib.hid hn2
  obtain ⟨A2, c2, rfl⟩ := nodes_slice hn2
  clear hn2
  go_wp2_with fail
  refine (KP.out _ _ H2.out).mono ?_
  rintro e w3 ⟨rfl, hg3⟩
  have g13 := hg2.trans hg3
  go_wp2_with fail
  refine (KR.out _ _ (HA1.out.grew g13)).mono ?_
  rintro e w4 ⟨v4, rfl, hn4, hg4⟩
  have H4 := Lib.hid hn4
  obtain ⟨A4, c4, rfl⟩ := nodes_slice hn4
  clear hn4
  go_wp2_with fail
  refine (KQ.out _ _ H4.out).mono ?_
  rintro e w5 ⟨rfl, hg5⟩
  go_wp2_with fail
  go_ret3
  exact ⟨rfl, ((hg1.trans g13).trans hg4).trans hg5⟩

theorem l25Parts_no (k : Int) (A : Fm.Tree) (w : World) (hA : FmOk A) (hk : kindOf A ≠ k) :
    Calls Tryz.prog 101 #[.string (tx A), .int .i64 k] w fun e w' => e = .returned (.tuple #[.string ByteArray.empty, .string ByteArray.empty, .bool false]) ∧ Grew w w' := by
  have KA := fun w => l25Formula_c (tx A) w (by have := tx_size hA.1; omega)
  unfold GivesP at KA
  rw [gp_tx hA, tx_pf hA.1] at KA
  replace KA := Lib.hid KA
  have hA1 := hA.1
  have hkk : (kindOf A != k) = true := by simpa using hk
  go_enter Tryz.func101, Tryz.ntmps101
  go_wp2_with fail
  refine (KA.out _).mono ?_
  rintro e w1 ⟨v1, rfl, ho1, hg1⟩
  have HA1 := Lib.hid ho1.nodes
  obtain ⟨b1, o1, c1, rfl, hc1, hm1, k1⟩ := nodes_head ho1.nodes
  clear ho1
  have r1 := Grew.refl w1
  have d1 := r1.drew
  have hpos := Fm.enc_pos A
  generalize kindOf A = kk at *
  go_wp2_with fail
  go_ret3
  exact ⟨rfl, hg1⟩
end Go.Proofs.YthofkdpmgjkgkaaGreat

/- The parts of a formula by their texts: parts, partTexts, partsWith of the program. -/
namespace Go.Proofs.YthofkdpmgjkgkaaGreat
open Go.RowKit

/-- 'out = append(out, s)', out a row of strings of the call's own. -/
theorem wpList_appStr {ops : Array Oper} {rest : List Oper} {o : Oper} {a : Act} {Q : Exit → Act → World → Prop} {w w0 : World} (s x : Operand) (hgd : o.guard = none)
    (ho : o.op = .call { callee := .builtin .append, args := #[s, x], argTypes := #[31, 31] })
    (v : Value) (L : List ByteArray) (hs : a.eval s = v) (hown : OwnS w w0.heap.size v L) (hg : Grew w0 w) (vx : Value) (k : ByteArray) (hx : a.eval x = vx) (hr : Rd w 1 vx 1 [.string k]) (hn : L.length ≤ 1048576)
    (h : ∀ v' w', OwnS w' w0.heap.size v' (L ++ [k]) → Grew w0 w' → w.grownBy w' v.ownBlock → wpList Tryz.prog ops Q rest (a.put o.dst v') w') : wpList Tryz.prog ops Q (o :: rest) a w := by
  obtain ⟨i0, hi0, hz0, hz1, hz2⟩ := info_parts Tryz.infoStr
  refine wpList_append_rd w hgd s x _ ho w0.heap.size 9 i0 _ 1 16 Tryz.underlying31 hi0 hz0 hz1 hz2 rfl (by omega) v L.length (scells L) hs hown vx 1 [.string k] hx hr (by simp [Value.oneCell']) (by unfold maxLen; omega) (by omega) hg.size ?_
  intro v' w' h1 h2 h3
  refine h v' w' ?_ (hg.grown h2 fun k hk => (hown.lt k hk).1) h2
  unfold OwnS
  rw [List.length_append, scells_append]
  exact h1

/-- A slice of two slices that read as the two parts. -/
def Two (w : World) (v : Value) (p q : Fm.Tree) : Prop := ∃ g u1 u2, v = .slice (some ⟨g, 0, none⟩) 2 2 ∧ (∀ W, Grew w W → W.cell? ⟨g, 0, none⟩ = some u1) ∧ (∀ W, Grew w W → W.cell? ⟨g, 1, none⟩ = some u2) ∧ Nodes w u1 (Fm.enc p) ∧ Nodes w u2 (Fm.enc q)

theorem parts_two (v : Value) (A p q : Fm.Tree) (w : World) (h : Nodes w v (Fm.enc A)) (hl : (Fm.enc A).length ≤ 40) (h2 : TwoF A p q) (hk : kindOf A = 2 ∨ kindOf A = 3 ∨ kindOf A = 4) :
    Calls Tryz.prog 177 #[v] w fun e w' => ∃ u, e = .returned u ∧ Two w' u p q ∧ Grew w w' := by
  have HH := Lib.hid h
  obtain ⟨b, o, c, rfl, hc, hm, k0⟩ := nodes_head h
  have K1 := Lib.hid (fun W (hW : Grew w W) => first_c _ (Fm.enc A) p W (h.grew hW) (by omega) (at_first h2))
  have K2 := Lib.hid (fun W (hW : Grew w W) => second_c _ (Fm.enc A) p q W (h.grew hW) (by omega) (at_first h2) (at_second h2))
  have KO := Lib.hid (fun w => partsOf_c (kindOf A) w)
  have ha : (Fm.arity (kindOf A) : Int) = 2 := by unfold Fm.arity; rw [if_pos hk]; rfl
  rw [ha] at KO
  have r0 := Grew.refl w
  have hpos := Fm.enc_pos A
  clear h h2 hk ha HH
  generalize kindOf A = kk at *
  generalize (Fm.enc A).length = n at *
  go_enter Tryz.func177, Tryz.ntmps177
  go_wp2_with fail
  refine (KO.out _).mono ?_
  rintro e w1 ⟨rfl, hg1⟩
  go_wp2_with fail
  refine (K1.out _ hg1).mono ?_
  rintro e w2 ⟨u1, rfl, hn1, hg2⟩
  have H1 := Lib.hid hn1
  obtain ⟨A1, c1, rfl⟩ := nodes_slice hn1
  clear hn1
  have g2 := hg1.trans hg2
  go_wp2_with fail
  refine (K2.out _ g2).mono ?_
  rintro e w3 ⟨u2, rfl, hn2, hg3⟩
  have H2 := Lib.hid hn2
  obtain ⟨A2, c2, rfl⟩ := nodes_slice hn2
  clear hn2
  go_wp2_with fail
  go_ret
  have hal := (Grew.refl w3).alloc (.cells #[.slice A1 (Fm.enc p).length c1, .slice A2 (Fm.enc q).length c2] 101)
  exact ⟨_, rfl, ⟨w3.heap.size, _, _, rfl, fun W hW => (hW.cell (by simp)).trans (by simp), fun W hW => (hW.cell (by simp)).trans (by simp), (H1.out.grew hg3).grew hal, H2.out.grew hal⟩, (g2.trans hg3).trans hal⟩

theorem parts_none (v : Value) (A : Fm.Tree) (w : World) (h : Nodes w v (Fm.enc A)) (hk : kindOf A = 0 ∨ kindOf A = 1) :
    Calls Tryz.prog 177 #[v] w fun e w' => e = .returned (.slice none 0 0) ∧ Grew w w' := by
  obtain ⟨b, o, c, rfl, hc, hm, k0⟩ := nodes_head h
  have KO := Lib.hid (fun w => partsOf_c (kindOf A) w)
  have ha : (Fm.arity (kindOf A) : Int) = 0 := by unfold Fm.arity; rw [if_neg (by omega), if_neg (by omega)]; rfl
  rw [ha] at KO
  have r0 := Grew.refl w
  have hpos := Fm.enc_pos A
  clear h hk ha
  generalize kindOf A = kk at *
  generalize (Fm.enc A).length = n at *
  go_enter Tryz.func177, Tryz.ntmps177
  go_wp2_with fail
  refine (KO.out _).mono ?_
  rintro e w1 ⟨rfl, hg1⟩
  go_wp2_with fail
  go_ret
  exact ⟨rfl, hg1⟩

theorem partTexts_none (v : Value) (A : Fm.Tree) (w : World) (h : Nodes w v (Fm.enc A)) (hk : kindOf A = 0 ∨ kindOf A = 1) :
    Calls Tryz.prog 162 #[v] w fun e w' => e = .returned (.slice none 0 0) ∧ Grew w w' := by
  have KP := Lib.hid (parts_none v A w h hk)
  obtain ⟨b, o, c, rfl, hc, hm, k0⟩ := nodes_head h
  clear h hk k0
  generalize (Fm.enc A).length = n at *
  go_enter Tryz.func162, Tryz.ntmps162
  go_wp2_with fail
  refine KP.out.mono ?_
  rintro e w1 ⟨rfl, hg1⟩
  go_wp2_with fail
  refine wp_loop_rounds 1 ?_; rw [rounds_succ]
  go_wp2_with fail
  go_ret
  exact ⟨rfl, hg1⟩

theorem partTexts_two (v : Value) (A p q : Fm.Tree) (w : World) (h : Nodes w v (Fm.enc A)) (hl : (Fm.enc A).length ≤ 40) (h2 : TwoF A p q) (hk : kindOf A = 2 ∨ kindOf A = 3 ∨ kindOf A = 4) :
    Calls Tryz.prog 162 #[v] w (GivesS w [tx p, tx q]) := by
  have KP := Lib.hid (parts_two v A p q w h hl h2 hk)
  have hlen := h2.len
  have K1 := Lib.hid (fun v w h => text0_c p v w h (by omega))
  have K2 := Lib.hid (fun v w h => text0_c q v w h (by omega))
  have e1 : bs (Fm.txt p 0) = tx p := rfl
  have e2 : bs (Fm.txt q 0) = tx q := rfl
  unfold Says at K1 K2
  rw [e1] at K1
  rw [e2] at K2
  obtain ⟨b, o, c, rfl, hc, hm, k0⟩ := nodes_head h
  clear h h2 hk k0 e1 e2 hlen
  generalize (Fm.enc A).length = n at *
  generalize tx p = sp at *
  generalize tx q = sq at *
  go_enter Tryz.func162, Tryz.ntmps162
  go_wp2_with fail
  refine KP.out.mono ?_
  rintro e w1 ⟨u, rfl, ⟨g, u1, u2, rfl, c1, c2, hn1, hn2⟩, hg1⟩
  have H1 := Lib.hid hn1
  have H2 := Lib.hid hn2
  obtain ⟨A1, d1, rfl⟩ := nodes_slice hn1
  obtain ⟨A2, d2, rfl⟩ := nodes_slice hn2
  clear hn1 hn2
  have r1 := Grew.refl w1
  have HO1 := OwnS.nil_ w1 w.heap.size
  go_wp2_with fail
  refine wp_loop_rounds 3 ?_; rw [rounds_succ]
  go_wp2_with fail
  refine (K1.out _ _ H1.out).mono ?_
  rintro e w2 ⟨rfl, hg2⟩
  have hB2 := hg1.trans hg2
  have hO2 := HO1.grew (hg2.trans ((Grew.refl w2).alloc (.cells #[.string sp] 9)))
  go_wp2_with (first | (at_builtin; refine wpList_appStr (w0 := w) _ _ rfl rfl _ [] rfl hO2 (hB2.alloc _) _ sp rfl (rd_lit _ _ _) (by simp) ?_; intro v3 w3 hown3 hg3 hgr3))
  have g13 : Grew w1 w3 := (hg2.trans ((Grew.refl w2).alloc (.cells #[.string sp] 9))).trans (by
    have hg' : (w2.alloc (.cells #[.string sp] 9)).grownBy w3 none := hgr3
    exact ⟨hg'.os, hg'.tape, hg'.output, hg'.size, fun i hi => hg'.block i hi (by simp)⟩)
  clear HO1 hO2 hgr3 hB2
  rw [rounds_succ]
  go_wp2_with fail
  refine (K2.out _ _ (H2.out.grew g13)).mono ?_
  rintro e w4 ⟨rfl, hg4⟩
  have hB4 := hg3.trans hg4
  have hO4 := hown3.grew (hg4.trans ((Grew.refl w4).alloc (.cells #[.string sq] 9)))
  go_wp2_with (first | (at_builtin; refine wpList_appStr (w0 := w) _ _ rfl rfl _ [sp] rfl hO4 (hB4.alloc _) _ sq rfl (rd_lit _ _ _) (by simp) ?_; intro v5 w5 hown5 hg5 hgr5))
  rw [rounds_succ]
  go_wp2_with fail
  go_ret
  exact ⟨_, rfl, hown5, hg5⟩

/-- What partsWith gives. -/
theorem partsWith_two (k : Int) (A p q : Fm.Tree) (w : World) (hA : FmOk A) (h2 : TwoF A p q) (hk : kindOf A = 2 ∨ kindOf A = 3 ∨ kindOf A = 4) :
    Calls Tryz.prog 134 #[.string (tx A), .int .i64 k] w fun e w' => ∃ v, e = .returned (.tuple #[v, .bool (kindOf A == k)]) ∧ OwnS w' w.heap.size v [tx p, tx q] ∧ Grew w w' := by
  have hA1 := hA.1
  have KA := fun w => parsed_c (tx A) w (by have := tx_size hA1; omega)
  rw [tx_pf hA1] at KA
  replace KA := Lib.hid KA
  have KP := Lib.hid (fun v w h => partTexts_two v A p q w h hA1 h2 hk)
  have hpos := Fm.enc_pos A
  clear h2 hk
  go_enter Tryz.func134, Tryz.ntmps134
  go_wp2_with fail
  refine (KA.out _).mono ?_
  rintro e w1 ⟨v1, rfl, ho1, hg1, _⟩
  have HA1 := Lib.hid ho1.nodes
  obtain ⟨b1, o1, c1, rfl, hc1, hm1, k1⟩ := nodes_head ho1.nodes
  clear ho1
  have r1 := Grew.refl w1
  have d1 := r1.drew
  have hz : 0 < (Fm.enc A).length := by omega
  have hz2 : (0 : Int) < ((Fm.enc A).length : Int) := by omega
  have HA2 := Lib.hid (HA1.out.grew d1)
  go_wp2_with fail
  go_region_held3 (fun w' => Grew w1 w') (with_reducible assumption)
    (first | (go_at_call 162; refine (KP.out _ _ HA2.out).mono ?_; rintro e w2 ⟨v2, rfl, ho2, hg2⟩; have hk2 := d1.trans hg2))
  go_wp2_with fail
  go_ret2
  exact ⟨_, rfl, ho2.base (hg1.trans d1).size, hg1.trans hk2⟩
theorem partsWith_none (k : Int) (A : Fm.Tree) (w : World) (hA : FmOk A) (hk : kindOf A = 0 ∨ kindOf A = 1) :
    Calls Tryz.prog 134 #[.string (tx A), .int .i64 k] w fun e w' => e = .returned (.tuple #[.slice none 0 0, .bool (kindOf A == k)]) ∧ Grew w w' := by
  have hA1 := hA.1
  have KA := fun w => parsed_c (tx A) w (by have := tx_size hA1; omega)
  rw [tx_pf hA1] at KA
  replace KA := Lib.hid KA
  have KP := Lib.hid (fun v w h => partTexts_none v A w h hk)
  have hpos := Fm.enc_pos A
  clear hk
  go_enter Tryz.func134, Tryz.ntmps134
  go_wp2_with fail
  refine (KA.out _).mono ?_
  rintro e w1 ⟨v1, rfl, ho1, hg1, _⟩
  have HA1 := Lib.hid ho1.nodes
  obtain ⟨b1, o1, c1, rfl, hc1, hm1, k1⟩ := nodes_head ho1.nodes
  clear ho1
  have r1 := Grew.refl w1
  have d1 := r1.drew
  have hz : 0 < (Fm.enc A).length := by omega
  have hz2 : (0 : Int) < ((Fm.enc A).length : Int) := by omega
  have HA2 := Lib.hid (HA1.out.grew d1)
  go_wp2_with fail
  go_region_held3 (fun w' => Grew w1 w') (with_reducible assumption)
    (first | (go_at_call 162; refine (KP.out _ _ HA2.out).mono ?_; rintro e w2 ⟨rfl, hg2⟩; have hk2 := d1.trans hg2))
  go_wp2_with fail
  go_ret2
  exact ⟨rfl, hg1.trans hk2⟩
end Go.Proofs.YthofkdpmgjkgkaaGreat

/- Assumption lists with one more: slices.Clip and behind of the program, l11Copy and l25With of the reference. -/
namespace Go.Proofs.YthofkdpmgjkgkaaGreat
open Go.RowKit

/-- 'out = append(out, list...)', out a row of strings of the call's own. -/
theorem wpList_appStrs {ops : Array Oper} {rest : List Oper} {o : Oper} {a : Act} {Q : Exit → Act → World → Prop} {w w0 : World} (s x : Operand) (hgd : o.guard = none)
    (ho : o.op = .call { callee := .builtin .append, args := #[s, x], argTypes := #[31, 31] })
    (v : Value) (L : List ByteArray) (hs : a.eval s = v) (hown : OwnS w w0.heap.size v L) (hg : Grew w0 w) (vx : Value) (M : List ByteArray) (hx : a.eval x = vx) (hr : Strs w vx M) (hn : L.length + M.length ≤ 1048576)
    (h : ∀ v' w', OwnS w' w0.heap.size v' (L ++ M) → Grew w0 w' → w.grownBy w' v.ownBlock → wpList Tryz.prog ops Q rest (a.put o.dst v') w') : wpList Tryz.prog ops Q (o :: rest) a w := by
  obtain ⟨i0, hi0, hz0, hz1, hz2⟩ := info_parts Tryz.infoStr
  refine wpList_append_rd w hgd s x _ ho w0.heap.size 9 i0 _ 1 16 Tryz.underlying31 hi0 hz0 hz1 hz2 rfl (by omega) v L.length (scells L) hs hown vx M.length (scells M) hx hr (scells_one M) (by unfold maxLen; omega) (by omega) hg.size ?_
  intro v' w' h1 h2 h3
  refine h v' w' ?_ (hg.grown h2 fun k hk => (hown.lt k hk).1) h2
  unfold OwnS
  rw [List.length_append, scells_append]
  exact h1
theorem own_emptyS (w : World) : OwnS (w.alloc (.cells #[] 9)) w.heap.size (.slice (some ⟨w.heap.size, 0, none⟩) 0 0) [] :=
  World.ownsRow_lit (e := 9) (size := 1) w #[] 0 (Nat.le_refl _) (by omega) rfl

theorem l11Copy_c (v : Value) (L : List ByteArray) (w : World) (h : Strs w v L) (hn : L.length ≤ 1000) :
    Calls Tryz.prog 154 #[v] w (GivesS w L) := by
  have he := own_emptyS w
  have hg0 := (Grew.refl w).alloc (.cells #[] 9)
  have HV := Lib.hid (h.grew hg0)
  obtain ⟨A, c, rfl⟩ := strs_slice h
  clear h
  go_enter Tryz.func154, Tryz.ntmps154
  go_wp2_with (first | (at_builtin; refine wpList_appStrs (w0 := w) _ _ rfl rfl _ [] rfl he hg0 _ L rfl HV.out (by simp; omega) ?_; intro v1 w1 hown1 hg1 hgr1))
  go_ret
  exact ⟨_, rfl, by simpa using hown1, hg1⟩

theorem l25With_c (v u : Value) (L M : List ByteArray) (w : World) (h : Strs w v L) (hu : Strs w u M) (hn : L.length ≤ 1000) (hm : M.length ≤ 1000) :
    Calls Tryz.prog 125 #[v, u] w (GivesS w (L ++ M)) := by
  have KC := Lib.hid (fun W (hW : Grew w W) => l11Copy_c v L W (h.grew hW) hn)
  have HU := Lib.hid hu
  obtain ⟨A, c, rfl⟩ := strs_slice h
  obtain ⟨A2, c2, rfl⟩ := strs_slice hu
  clear h hu
  go_enter Tryz.func125, Tryz.ntmps125
  go_wp2_with fail
  refine (KC.out _ (Grew.refl w)).mono ?_
  rintro e w1 ⟨v1, rfl, ho1, hg1⟩
  have HU1 := Lib.hid (HU.out.grew hg1)
  go_wp2_with (first | (at_builtin; refine wpList_appStrs (w0 := w) _ _ rfl rfl _ L rfl ho1 hg1 _ M rfl HU1.out (by omega) ?_; intro v2 w2 hown2 hg2 hgr2))
  go_ret
  exact ⟨_, rfl, hown2, hg2⟩

theorem clip_c (A : Option Addr) (n c : Nat) (w : World) (hc : n ≤ c) (_hm : c ≤ 9223372036854775807) :
    Calls Tryz.prog 135 #[.slice A n c] w fun e w' => e = .returned (.slice A n n) ∧ Grew w w' := by
  have h0 : (0 : Int) ≤ (n : Int) := by omega
  have h1 : (n : Int) ≤ (c : Int) := by omega
  go_enter Tryz.func135, Tryz.ntmps135
  go_wp2_with fail
  go_ret
  exact ⟨rfl, Grew.refl _⟩

theorem behind_c (v : Value) (L : List ByteArray) (s : ByteArray) (w : World) (h : Strs w v L) (hn : L.length ≤ 1000) :
    Calls Tryz.prog 107 #[v, .string s] w (GivesS w (L ++ [s])) := by
  obtain ⟨i0, hi0, hz0, hz1, hz2⟩ := info_parts Tryz.infoStr
  have HI := Lib.hid (⟨hi0, hz0, hz1, hz2⟩ : _ ∧ _ ∧ _ ∧ _)
  clear hi0 hz0 hz1 hz2
  have hlit := fun w => rd_lit w (.string s) 9
  rcases h.open_ with ⟨rfl, rfl⟩ | ⟨b, o, c, rfl, hc, hm, hb, hf⟩
  · have KC := Lib.hid (fun w => clip_c none 0 0 w (by omega) (by omega))
    clear h
    have hnil := OwnS.nil_ w w.heap.size
    go_enter Tryz.func107, Tryz.ntmps107
    go_wp2_with fail
    refine (KC.out _).mono ?_
    rintro e w1 ⟨rfl, hg1⟩
    have ho1 := hnil.grew (hg1.trans ((Grew.refl w1).alloc (.cells #[.string s] 9)))
    go_wp2_with (first | (at_builtin; refine wpList_appStr (w0 := w) _ _ rfl rfl _ [] rfl ho1 (hg1.alloc _) _ s rfl (rd_lit _ _ _) (by simp) ?_; intro v2 w2 hown2 hg2 hgr2))
    go_ret
    exact ⟨_, rfl, hown2, hg2⟩
  · have KC := Lib.hid (fun w => clip_c (some ⟨b, o, none⟩) L.length c w hc hm)
    have HF := Lib.hid hf
    clear h hf
    go_enter Tryz.func107, Tryz.ntmps107
    go_wp2_with fail
    refine (KC.out _).mono ?_
    rintro e w1 ⟨rfl, hg1⟩
    have hga := hg1.alloc (.cells #[.string s] 9)
    have hlen : (scells L).length = L.length := by simp [scells]
    go_wp2_with (first | (at_builtin; refine wpList_append_grows _ rfl _ _ _ rfl 9 i0 _ 1 16 Tryz.underlying31 HI.out.1 HI.out.2.1 HI.out.2.2.1 HI.out.2.2.2 rfl (by omega) (some ⟨b, o, none⟩) L.length L.length (scells L) rfl (by intro h; cases h) (by omega) ?_ ⟨w1.heap.size, 0, none⟩ 1 1 [.string s] rfl rfl ?_ (by simp [Value.oneCell']) (by omega) (by unfold maxLen; omega) (by omega) ?_))
    · intro bb hbb j u hj
      cases hbb
      have hjl : j < L.length := by
        have := (List.getElem?_eq_some_iff.1 hj).1
        omega
      rw [scells_at hjl] at hj
      cases hj
      rw [Addr.add_lit]
      exact HF.out j hjl _ hga
    · intro j u hj
      have hj0 : j = 0 := by
        have := (List.getElem?_eq_some_iff.1 hj).1
        simp at this
        omega
      subst hj0
      simp at hj
      subst hj
      rw [Addr.add_lit]
      simp
    · intro v2 w2 hown2 hgr2
      have hg2 : Grew (w1.alloc (.cells #[.string s] 9)) w2 := ⟨hgr2.os, hgr2.tape, hgr2.output, hgr2.size, fun i hi => hgr2.block i hi (by simp)⟩
      have hown3 : OwnS w2 (w1.heap.size + 1) v2 (L ++ [s]) := by
        unfold OwnS
        rw [List.length_append, scells_append]
        exact hown2
      have hown4 := hown3.base (Nat.le_trans hg1.size (Nat.le_succ _))
      have hg3 := hga.trans hg2
      clear hown2 hgr2 hown3
      go_wp2_with fail
      go_ret
      exact ⟨_, rfl, hown4, hg3⟩
end Go.Proofs.YthofkdpmgjkgkaaGreat

/- l26Type of the reference. -/
namespace Go.Proofs.YthofkdpmgjkgkaaGreat
open Go.RowKit
open Tr (Tm)

theorem strs_map {w : World} {v : Value} {G : List Fm.Tree} (h : Strs w v (G.map tx)) : (∃ A c, v = .slice A G.length c) ∧ ∀ i, i < G.length → ∃ b o c, v = .slice (some ⟨b, o, none⟩) G.length c ∧ ∀ W, Grew w W → W.cell? ⟨b, o + i, none⟩ = some (.string (otx G[i]?)) := by
  constructor
  · obtain ⟨A, c, hv⟩ := strs_slice h
    rw [List.length_map] at hv
    exact ⟨A, c, hv⟩
  · intro i hi
    rcases h.open_ with ⟨_, h0⟩ | ⟨b, o, c, rfl, hc, hm, hb, hf⟩
    · rw [List.map_eq_nil_iff] at h0
      rw [h0] at hi
      exact absurd hi (by simp)
    · refine ⟨b, o, c, by rw [List.length_map], fun W hW => ?_⟩
      have h1 := hf i (by simpa using hi) W hW
      rw [h1]
      have e1 : G[i]? = some G[i] := List.getElem?_eq_getElem hi
      rw [e1]
      simp [st, List.getD, hi, otx]

theorem l26Type_var (x : Tn) (hg : Good (.t0 x)) (G : List Fm.Tree) (va v : Value) (w : World) (_hl : G.length ≤ 12) (hs : Strs w va (G.map tx)) (h : Tms w v (Tr.enc (.t0 x))) :
    Calls Tryz.prog 59 #[va, v] w fun e w' => e = .returned (.string (otx (ty G (.t0 x)))) ∧ Grew w w' := by
  have hk : x.1 = 0 := (good_leaf hg).1 rfl
  have hn := tnB_num0 (Tr.hd_wf hg)
  obtain ⟨b, o, c, rfl, hc, hm, hb, hcl⟩ := tms_head h
  obtain ⟨⟨A, d, hva⟩, hat⟩ := strs_map hs
  have k0 := fun W (hW : Grew w W) => (hcl W hW).1
  have k1 := fun W (hW : Grew w W) => (hcl W hW).2.1
  have k2 := fun W (hW : Grew w W) => (hcl W hW).2.2
  change ∀ W, Grew w W → W.cell? ⟨b, o, none⟩ = some (.int .i64 x.1) at k0
  change ∀ W, Grew w W → W.cell? ⟨b, o + 1, none⟩ = some (.int .i64 x.2.1) at k1
  change ∀ W, Grew w W → W.cell? ⟨b, o + 2, none⟩ = some (.string x.2.2) at k2
  rw [hk] at k0
  have hR : ty G (.t0 x) = G[x.2.1.toNat]? := rfl
  rw [hR]
  have hr := Grew.refl w
  have hx2 : (Tr.hd (.t0 x)).2.1 = x.2.1 := rfl
  rw [hx2] at hn
  have hl1 : (Tr.enc (.t0 x)).length = 1 := rfl
  rw [hl1]
  obtain ⟨m, hm2⟩ : ∃ m : Nat, x.2.1 = m := ⟨x.2.1.toNat, by omega⟩
  rw [hm2] at k1 hn ⊢
  rw [Int.toNat_natCast]
  clear hcl h hg hk hR hx2 hl1 hm2
  have hal := hr.alloc (.cells #[.int .i64 0, .int .i64 m, .string x.2.2] 66)
  by_cases hlt : m < G.length
  · obtain ⟨gb, go, gc, hv, e1⟩ := hat m hlt
    subst hv
    generalize otx G[m]? = R at *
    clear hat hs hva
    have hlt2 : (m : Int) < (G.length : Int) := by omega
    generalize G.length = gl at *
    go_enter Tryz.func59, Tryz.ntmps59
    go_wp2_with fail
    go_ret
    exact ⟨rfl, (Grew.refl w).alloc _⟩
  · have hnone : G[m]? = none := List.getElem?_eq_none (by omega)
    rw [hnone]
    subst hva
    clear hat hs hnone
    have hge : (G.length : Int) ≤ (m : Int) := by omega
    generalize G.length = gl at *
    go_enter Tryz.func59, Tryz.ntmps59
    go_wp2_with fail
    go_ret
    exact ⟨rfl, (Grew.refl w).alloc _⟩

/-- What l26Type gives at a term, whatever the values. -/
def TypS (t : Tm) (G : List Fm.Tree) : Prop := ∀ va v w, Strs w va (G.map tx) → Tms w v (Tr.enc t) → Calls Tryz.prog 59 #[va, v] w fun e w' => e = .returned (.string (otx (ty G t))) ∧ Grew w w'

theorem l26Under_c (A : Fm.Tree) (t : Tm) (G : List Fm.Tree) (K : G.length < 12 → TypS t (G ++ [A])) (va v : Value) (w : World) (hs : Strs w va (G.map tx)) (h : Tms w v (Tr.enc t)) (hl : G.length ≤ 12) :
    Calls Tryz.prog 99 #[va, .string (tx A), v] w fun e w' => e = .returned (.string (otx (if G.length < 12 then ty (G ++ [A]) t else none))) ∧ Grew w w' := by
  obtain ⟨B, d, rfl⟩ := (strs_map hs).1
  by_cases hlt : G.length < 12
  · rw [if_pos hlt]
    have hal := (Grew.refl w).alloc (.cells #[.string (tx A)] 9)
    have hone : Strs (w.alloc (.cells #[.string (tx A)] 9)) (.slice (some ⟨w.heap.size, 0, none⟩) 1 1) [tx A] := rd_lit w (.string (tx A)) 9
    have KW := Lib.hid (l25With_c _ _ (G.map tx) [tx A] _ (hs.grew hal) hone (by rw [List.length_map]; omega) (by simp))
    have HT := Lib.hid h
    obtain ⟨C, c, rfl⟩ := tms_slice h
    have KT := Lib.hid (fun va W (hW : Grew w W) (hva : Strs W va (G.map tx ++ [tx A])) => K hlt va _ W (by rw [List.map_append]; exact hva) (h.grew hW))
    have hlt2 : (G.length : Int) < 12 := by omega
    clear h hs K hone
    generalize G.map tx = gm at *
    generalize otx (ty (G ++ [A]) t) = R at *
    generalize G.length = gl at *
    generalize tx A = ta at *
    go_enter Tryz.func99, Tryz.ntmps99
    go_wp2_with fail
    refine KW.out.mono ?_
    rintro e w1 ⟨u, rfl, ho, hg1⟩
    have HS := Lib.hid ho.strs
    have gw := hal.trans hg1
    go_wp2_with fail
    refine (KT.out _ _ gw HS.out).mono ?_
    rintro e w2 ⟨rfl, hg2⟩
    go_wp2_with fail
    go_ret
    exact ⟨rfl, gw.trans hg2⟩
  · rw [if_neg hlt]
    obtain ⟨C, c, rfl⟩ := tms_slice h
    have hge : (12 : Int) ≤ (G.length : Int) := by omega
    clear h hs K
    generalize G.length = gl at *
    generalize (Tr.enc t).length = n at *
    generalize tx A = ta at *
    go_enter Tryz.func99, Tryz.ntmps99
    go_wp2_with fail
    go_ret
    exact ⟨rfl, Grew.refl w⟩

theorem otx_small (C : Fm.Tree) : otx (smallF C) = if (Fm.enc C).length ≤ 40 then tx C else ByteArray.empty := by
  unfold smallF
  split <;> rfl

theorem l26Type_lam (x : Tn) (a : Tm) (hg : Good (.t1 x a)) (hk : x.1 = 1) (G : List Fm.Tree) (hG : ∀ A ∈ G, FmOk A) (hl : G.length ≤ 12) (IH : G.length < 12 → TypS a (G ++ [fo x.2.2])) (va v : Value) (w : World) (hs : Strs w va (G.map tx)) (h : Tms w v (Tr.enc (.t1 x a))) :
    Calls Tryz.prog 59 #[va, v] w fun e w' => e = .returned (.string (otx (ty G (.t1 x a)))) ∧ Grew w w' := by
  have hA := fo_ok (goodN_text hg.1.2 (by rw [hk]; rfl) (by rw [hk]; decide))
  have hty : ty G (.t1 x a) = tyLam (fo x.2.2) (if G.length < 12 then ty (G ++ [fo x.2.2]) a else none) := by
    rw [ty, if_pos hk]
    split
    · rfl
    · rfl
  rw [hty]
  obtain ⟨b, o, c, rfl, hc, hm, hb, hcl⟩ := tms_head h
  have hlen : (Tr.enc (.t1 x a)).length = (Tr.enc a).length + 1 := by simp [Tr.enc]
  have hsub := sub_one (x := x) (a := a) (by simpa [Tr.enc] using h) (by rw [hlen] at hc; exact hc) hm
  have k0 := fun W (hW : Grew w W) => (hcl W hW).1
  have k1 := fun W (hW : Grew w W) => (hcl W hW).2.1
  have k2 := fun W (hW : Grew w W) => (hcl W hW).2.2
  change ∀ W, Grew w W → W.cell? ⟨b, o, none⟩ = some (.int .i64 x.1) at k0
  change ∀ W, Grew w W → W.cell? ⟨b, o + 1, none⟩ = some (.int .i64 x.2.1) at k1
  change ∀ W, Grew w W → W.cell? ⟨b, o + 2, none⟩ = some (.string x.2.2) at k2
  rw [hk] at k0
  generalize hF : fo x.2.2 = A at *
  rw [← hA.2] at k2
  rw [hlen] at hc ⊢
  have hpos := Tr.enc_pos a
  have KU := Lib.hid (fun W (hW : Grew w W) => l26Under_c A a G IH va (.slice (some ⟨b, o + 3, none⟩) (Tr.enc a).length (c - 1)) W (hs.grew hW) (hsub.grew hW) hl)
  have HOK := Lib.hid (fun B (hlt : G.length < 12) hB => (ty_ok a hg.2 (G ++ [A]) B (fun D hD => by
    rw [List.mem_append] at hD
    rcases hD with hD | hD
    · exact hG D hD
    · simp at hD; subst hD; exact hA.1) hB).1)
  have KJ := Lib.hid (fun B w (hB : (Fm.enc B).length ≤ 40) => l26Joined_c 4 A B (.imp A B) w hA.1.1 hB rfl)
  obtain ⟨D, d, rfl⟩ := (strs_map hs).1
  have hal := (Grew.refl w).alloc (.cells #[.int .i64 1, .int .i64 x.2.1, .string (tx A)] 66)
  have hr := Grew.refl w
  have hc1 : ¬ c = 1 := by omega
  have HOK2 : Hid (∀ B, (if G.length < 12 then ty (G ++ [A]) a else none) = some B → (Fm.enc B).length ≤ 40) := Lib.hid (fun B hB => by
    split at hB
    · exact HOK.out B ‹_› hB
    · cases hB)
  clear hcl h hg hsub hty HOK IH hs hG hA hF
  generalize (if G.length < 12 then ty (G ++ [A]) a else none) = R at *
  generalize G.length = gl at *
  generalize (Tr.enc a).length = n at *
  generalize x.2.1 = xn at *
  cases R with
  | none =>
    have hR : otx (tyLam A none) = ByteArray.empty := rfl
    have hR2 : otx none = ByteArray.empty := rfl
    rw [hR]
    rw [hR2] at KU
    clear hR hR2 HOK2 KJ
    generalize tx A = ta at *
    have i1 : (1 : Int) ≤ (n : Int) + 1 := by omega
    have i2 : (n : Int) + 1 ≤ (c : Int) := by omega
    have i3 : (0 : Int) ≤ (n : Int) := by omega
    have f2 : ∀ W, Grew (w.alloc (.cells #[.int .i64 1, .int .i64 xn, .string ta] 66)) W → W.cell? ⟨w.heap.size, 2, none⟩ = some (.string ta) := fun W hW => (hW.cell (p := ⟨w.heap.size, 2, none⟩) (by simp)).trans (by simp)
    have ra := Grew.refl (w.alloc (.cells #[.int .i64 1, .int .i64 xn, .string ta] 66))
    have da := ra.drew
    have gd := hal.trans da
    go_enter Tryz.func59, Tryz.ntmps59
    go_wp2_with fail
    go_region_held3 (fun w' => Grew (w.alloc (.cells #[.int .i64 1, .int .i64 xn, .string ta] 66)) w') (with_reducible assumption)
      (first | (go_at_call 99; refine (KU.out _ gd).mono ?_; rintro e w1 ⟨rfl, hg1⟩; have hk1 := da.trans hg1))
    go_wp2_with fail
    go_ret
    exact ⟨rfl, hal.trans hk1⟩
  | some B =>
    have hR : otx (tyLam A (some B)) = if (Fm.enc (.imp A B)).length ≤ 40 then tx (.imp A B) else ByteArray.empty := otx_small _
    have hR2 : otx (some B) = tx B := rfl
    have hne := tx_ne B
    rw [hR]
    rw [hR2] at KU
    have KJ2 := Lib.hid (fun w => KJ.out B w (HOK2.out B rfl))
    clear hR hR2 HOK2 KJ
    generalize (if (Fm.enc (.imp A B)).length ≤ 40 then tx (.imp A B) else ByteArray.empty) = Z at *
    generalize tx A = ta at *
    generalize tx B = tb at *
    have i1 : (1 : Int) ≤ (n : Int) + 1 := by omega
    have i2 : (n : Int) + 1 ≤ (c : Int) := by omega
    have i3 : (0 : Int) ≤ (n : Int) := by omega
    have f2 : ∀ W, Grew (w.alloc (.cells #[.int .i64 1, .int .i64 xn, .string ta] 66)) W → W.cell? ⟨w.heap.size, 2, none⟩ = some (.string ta) := fun W hW => (hW.cell (p := ⟨w.heap.size, 2, none⟩) (by simp)).trans (by simp)
    have ra := Grew.refl (w.alloc (.cells #[.int .i64 1, .int .i64 xn, .string ta] 66))
    have da := ra.drew
    have gd := hal.trans da
    go_enter Tryz.func59, Tryz.ntmps59
    go_wp2_with fail
    go_region_held3 (fun w' => Grew (w.alloc (.cells #[.int .i64 1, .int .i64 xn, .string ta] 66)) w') (with_reducible assumption)
      (first | (go_at_call 99; refine (KU.out _ gd).mono ?_; rintro e w1 ⟨rfl, hg1⟩; have hk1 := da.trans hg1))
    go_wp2_with fail
    refine (KJ2.out _).mono ?_
    rintro e w2 ⟨rfl, hg2⟩
    go_wp2_with fail
    go_ret
    exact ⟨rfl, (hal.trans hk1).trans hg2⟩
end Go.Proofs.YthofkdpmgjkgkaaGreat

/- l26Type of the projections. -/
namespace Go.Proofs.YthofkdpmgjkgkaaGreat
open Go.RowKit
open Tr (Tm)

theorem l26Type_fst (x : Tn) (a : Tm) (hg : Good (.t1 x a)) (hk : x.1 = 4) (G : List Fm.Tree) (hG : ∀ A ∈ G, FmOk A) (_hl : G.length ≤ 12) (IH : TypS a G) (va v : Value) (w : World) (hs : Strs w va (G.map tx)) (h : Tms w v (Tr.enc (.t1 x a))) (hn : (Tr.enc (.t1 x a)).length ≤ 60) :
    Calls Tryz.prog 59 #[va, v] w fun e w' => e = .returned (.string (otx (ty G (.t1 x a)))) ∧ Grew w w' := by
  have hty : ty G (.t1 x a) = (ty G a).bind (ty1 4 (fo x.2.2)) := by
    rw [ty, if_neg (by rw [hk]; decide), hk]
  rw [hty]
  have KP := Lib.hid (fun W (hW : Grew w W) => by
    have h1 := l26Part_c v (.t1 x a) 0 W (h.grew hW) hg (by omega) (by decide : 0 < 1)
    rw [show Tr.kid (.t1 x a) 0 = a from rfl] at h1
    exact h1)
  obtain ⟨b, o, c, rfl, hc, hm, hb, hcl⟩ := tms_head h
  have k0 := fun W (hW : Grew w W) => (hcl W hW).1
  have k1 := fun W (hW : Grew w W) => (hcl W hW).2.1
  have k2 := fun W (hW : Grew w W) => (hcl W hW).2.2
  change ∀ W, Grew w W → W.cell? ⟨b, o, none⟩ = some (.int .i64 x.1) at k0
  change ∀ W, Grew w W → W.cell? ⟨b, o + 1, none⟩ = some (.int .i64 x.2.1) at k1
  change ∀ W, Grew w W → W.cell? ⟨b, o + 2, none⟩ = some (.string x.2.2) at k2
  rw [hk] at k0
  have hpos := Tr.enc_pos (.t1 x a)
  have hal := (Grew.refl w).alloc (.cells #[.int .i64 4, .int .i64 x.2.1, .string x.2.2] 66)
  have hr := Grew.refl w
  have HOK := fun B hB => ty_ok a hg.2 G B hG hB
  have KI := fun u W (hW : Grew w W) hu => IH va u W (hs.grew hW) hu
  obtain ⟨D, d, rfl⟩ := (strs_map hs).1
  clear hcl h hg hty IH hs hG
  generalize fo x.2.2 = A at *
  generalize x.2.1 = xn at *
  generalize x.2.2 = xs at *
  generalize (Tr.enc (.t1 x a)).length = n at *
  generalize G.length = gl at *
  have hC : ty G a = none ∨ (∃ p q, ty G a = some (.and p q)) ∨ ∃ C, ty G a = some C ∧ kindOf C ≠ 2 ∧ ty1 4 A C = none := by
    cases ty G a with
    | none => exact .inl rfl
    | some C =>
      cases C with
      | and p q => exact .inr (.inl ⟨p, q, rfl⟩)
      | _ => exact .inr (.inr ⟨_, rfl, by simp [kindOf], by simp [ty1]⟩)
  rcases hC with hC | ⟨p, q, hC⟩ | ⟨C, hC, hk2, h1⟩
  · rw [hC] at KI ⊢
    change Calls _ _ _ _ (fun e w' => e = .returned (.string ByteArray.empty) ∧ Grew w w')
    rw [show otx none = ByteArray.empty from rfl] at KI
    clear HOK hC
    replace KI := Lib.hid KI
    go_enter Tryz.func59, Tryz.ntmps59
    go_wp2_with fail
    refine (KP.out _ hal).mono ?_
    rintro e w1 ⟨u, rfl, hu, hg1⟩
    have HU := Lib.hid hu
    obtain ⟨U, e1, rfl⟩ := tms_slice hu
    clear hu
    have g1 := hal.trans hg1
    have f0 : ∀ W, Grew w1 W → W.cell? ⟨w.heap.size, 0, none⟩ = some (.int .i64 4) := fun W hW => ((hg1.trans hW).cell (p := ⟨w.heap.size, 0, none⟩) (by simp)).trans (by simp)
    go_wp2_with fail
    refine (KI.out _ _ g1 HU.out).mono ?_
    rintro e w2 ⟨rfl, hg2⟩
    have g2 := g1.trans hg2
    go_wp2_with fail
    go_ret
    exact ⟨rfl, g2⟩
  · rw [hC] at KI ⊢
    change Calls _ _ _ _ (fun e w' => e = .returned (.string (tx p)) ∧ Grew w w')
    have hok := HOK _ hC
    have KL := Lib.hid (fun w => l25Parts_yes 2 (.and p q) p q w hok rfl rfl)
    have hne := tx_ne (.and p q)
    rw [show otx (some (.and p q)) = tx (.and p q) from rfl] at KI
    clear HOK hC hok
    generalize tx (.and p q) = tc at *
    generalize tx p = tp at *
    generalize tx q = tq at *
    replace KI := Lib.hid KI
    go_enter Tryz.func59, Tryz.ntmps59
    go_wp2_with fail
    refine (KP.out _ hal).mono ?_
    rintro e w1 ⟨u, rfl, hu, hg1⟩
    have HU := Lib.hid hu
    obtain ⟨U, e1, rfl⟩ := tms_slice hu
    clear hu
    have g1 := hal.trans hg1
    have f0 : ∀ W, Grew w1 W → W.cell? ⟨w.heap.size, 0, none⟩ = some (.int .i64 4) := fun W hW => ((hg1.trans hW).cell (p := ⟨w.heap.size, 0, none⟩) (by simp)).trans (by simp)
    go_wp2_with fail
    refine (KI.out _ _ g1 HU.out).mono ?_
    rintro e w2 ⟨rfl, hg2⟩
    have g2 := g1.trans hg2
    go_wp2_with fail
    refine (KL.out _).mono ?_
    rintro e w3 ⟨rfl, hg3⟩
    have f3 := f0 _ (hg2.trans hg3)
    go_wp2_with fail
    go_ret
    exact ⟨rfl, g2.trans hg3⟩
  · rw [hC] at KI ⊢
    rw [show (some C).bind (ty1 4 A) = none from h1]
    change Calls _ _ _ _ (fun e w' => e = .returned (.string ByteArray.empty) ∧ Grew w w')
    have hok := HOK _ hC
    have KL := Lib.hid (fun w => l25Parts_no 2 C w hok hk2)
    have hne := tx_ne C
    rw [show otx (some C) = tx C from rfl] at KI
    clear HOK hC hok h1 hk2
    generalize tx C = tc at *
    replace KI := Lib.hid KI
    go_enter Tryz.func59, Tryz.ntmps59
    go_wp2_with fail
    refine (KP.out _ hal).mono ?_
    rintro e w1 ⟨u, rfl, hu, hg1⟩
    have HU := Lib.hid hu
    obtain ⟨U, e1, rfl⟩ := tms_slice hu
    clear hu
    have g1 := hal.trans hg1
    have f0 : ∀ W, Grew w1 W → W.cell? ⟨w.heap.size, 0, none⟩ = some (.int .i64 4) := fun W hW => ((hg1.trans hW).cell (p := ⟨w.heap.size, 0, none⟩) (by simp)).trans (by simp)
    go_wp2_with fail
    refine (KI.out _ _ g1 HU.out).mono ?_
    rintro e w2 ⟨rfl, hg2⟩
    have g2 := g1.trans hg2
    go_wp2_with fail
    refine (KL.out _).mono ?_
    rintro e w3 ⟨rfl, hg3⟩
    go_wp2_with fail
    go_ret
    exact ⟨rfl, g2.trans hg3⟩

theorem l26Type_snd (x : Tn) (a : Tm) (hg : Good (.t1 x a)) (hk : x.1 = 5) (G : List Fm.Tree) (hG : ∀ A ∈ G, FmOk A) (_hl : G.length ≤ 12) (IH : TypS a G) (va v : Value) (w : World) (hs : Strs w va (G.map tx)) (h : Tms w v (Tr.enc (.t1 x a))) (hn : (Tr.enc (.t1 x a)).length ≤ 60) :
    Calls Tryz.prog 59 #[va, v] w fun e w' => e = .returned (.string (otx (ty G (.t1 x a)))) ∧ Grew w w' := by
  have hty : ty G (.t1 x a) = (ty G a).bind (ty1 5 (fo x.2.2)) := by
    rw [ty, if_neg (by rw [hk]; decide), hk]
  rw [hty]
  have KP := Lib.hid (fun W (hW : Grew w W) => by
    have h1 := l26Part_c v (.t1 x a) 0 W (h.grew hW) hg (by omega) (by decide : 0 < 1)
    rw [show Tr.kid (.t1 x a) 0 = a from rfl] at h1
    exact h1)
  obtain ⟨b, o, c, rfl, hc, hm, hb, hcl⟩ := tms_head h
  have k0 := fun W (hW : Grew w W) => (hcl W hW).1
  have k1 := fun W (hW : Grew w W) => (hcl W hW).2.1
  have k2 := fun W (hW : Grew w W) => (hcl W hW).2.2
  change ∀ W, Grew w W → W.cell? ⟨b, o, none⟩ = some (.int .i64 x.1) at k0
  change ∀ W, Grew w W → W.cell? ⟨b, o + 1, none⟩ = some (.int .i64 x.2.1) at k1
  change ∀ W, Grew w W → W.cell? ⟨b, o + 2, none⟩ = some (.string x.2.2) at k2
  rw [hk] at k0
  have hpos := Tr.enc_pos (.t1 x a)
  have hal := (Grew.refl w).alloc (.cells #[.int .i64 5, .int .i64 x.2.1, .string x.2.2] 66)
  have hr := Grew.refl w
  have HOK := fun B hB => ty_ok a hg.2 G B hG hB
  have KI := fun u W (hW : Grew w W) hu => IH va u W (hs.grew hW) hu
  obtain ⟨D, d, rfl⟩ := (strs_map hs).1
  clear hcl h hg hty IH hs hG
  generalize fo x.2.2 = A at *
  generalize x.2.1 = xn at *
  generalize x.2.2 = xs at *
  generalize (Tr.enc (.t1 x a)).length = n at *
  generalize G.length = gl at *
  have hC : ty G a = none ∨ (∃ p q, ty G a = some (.and p q)) ∨ ∃ C, ty G a = some C ∧ kindOf C ≠ 2 ∧ ty1 5 A C = none := by
    cases ty G a with
    | none => exact .inl rfl
    | some C =>
      cases C with
      | and p q => exact .inr (.inl ⟨p, q, rfl⟩)
      | _ => exact .inr (.inr ⟨_, rfl, by simp [kindOf], by simp [ty1]⟩)
  rcases hC with hC | ⟨p, q, hC⟩ | ⟨C, hC, hk2, h1⟩
  · rw [hC] at KI ⊢
    change Calls _ _ _ _ (fun e w' => e = .returned (.string ByteArray.empty) ∧ Grew w w')
    rw [show otx none = ByteArray.empty from rfl] at KI
    clear HOK hC
    replace KI := Lib.hid KI
    go_enter Tryz.func59, Tryz.ntmps59
    go_wp2_with fail
    refine (KP.out _ hal).mono ?_
    rintro e w1 ⟨u, rfl, hu, hg1⟩
    have HU := Lib.hid hu
    obtain ⟨U, e1, rfl⟩ := tms_slice hu
    clear hu
    have g1 := hal.trans hg1
    have f0 : ∀ W, Grew w1 W → W.cell? ⟨w.heap.size, 0, none⟩ = some (.int .i64 5) := fun W hW => ((hg1.trans hW).cell (p := ⟨w.heap.size, 0, none⟩) (by simp)).trans (by simp)
    go_wp2_with fail
    refine (KI.out _ _ g1 HU.out).mono ?_
    rintro e w2 ⟨rfl, hg2⟩
    have g2 := g1.trans hg2
    go_wp2_with fail
    go_ret
    exact ⟨rfl, g2⟩
  · rw [hC] at KI ⊢
    change Calls _ _ _ _ (fun e w' => e = .returned (.string (tx q)) ∧ Grew w w')
    have hok := HOK _ hC
    have KL := Lib.hid (fun w => l25Parts_yes 2 (.and p q) p q w hok rfl rfl)
    have hne := tx_ne (.and p q)
    rw [show otx (some (.and p q)) = tx (.and p q) from rfl] at KI
    clear HOK hC hok
    generalize tx (.and p q) = tc at *
    generalize tx p = tp at *
    generalize tx q = tq at *
    replace KI := Lib.hid KI
    go_enter Tryz.func59, Tryz.ntmps59
    go_wp2_with fail
    refine (KP.out _ hal).mono ?_
    rintro e w1 ⟨u, rfl, hu, hg1⟩
    have HU := Lib.hid hu
    obtain ⟨U, e1, rfl⟩ := tms_slice hu
    clear hu
    have g1 := hal.trans hg1
    have f0 : ∀ W, Grew w1 W → W.cell? ⟨w.heap.size, 0, none⟩ = some (.int .i64 5) := fun W hW => ((hg1.trans hW).cell (p := ⟨w.heap.size, 0, none⟩) (by simp)).trans (by simp)
    go_wp2_with fail
    refine (KI.out _ _ g1 HU.out).mono ?_
    rintro e w2 ⟨rfl, hg2⟩
    have g2 := g1.trans hg2
    go_wp2_with fail
    refine (KL.out _).mono ?_
    rintro e w3 ⟨rfl, hg3⟩
    have f3 := f0 _ (hg2.trans hg3)
    go_wp2_with fail
    go_ret
    exact ⟨rfl, g2.trans hg3⟩
  · rw [hC] at KI ⊢
    rw [show (some C).bind (ty1 5 A) = none from h1]
    change Calls _ _ _ _ (fun e w' => e = .returned (.string ByteArray.empty) ∧ Grew w w')
    have hok := HOK _ hC
    have KL := Lib.hid (fun w => l25Parts_no 2 C w hok hk2)
    have hne := tx_ne C
    rw [show otx (some C) = tx C from rfl] at KI
    clear HOK hC hok h1 hk2
    generalize tx C = tc at *
    replace KI := Lib.hid KI
    go_enter Tryz.func59, Tryz.ntmps59
    go_wp2_with fail
    refine (KP.out _ hal).mono ?_
    rintro e w1 ⟨u, rfl, hu, hg1⟩
    have HU := Lib.hid hu
    obtain ⟨U, e1, rfl⟩ := tms_slice hu
    clear hu
    have g1 := hal.trans hg1
    have f0 : ∀ W, Grew w1 W → W.cell? ⟨w.heap.size, 0, none⟩ = some (.int .i64 5) := fun W hW => ((hg1.trans hW).cell (p := ⟨w.heap.size, 0, none⟩) (by simp)).trans (by simp)
    go_wp2_with fail
    refine (KI.out _ _ g1 HU.out).mono ?_
    rintro e w2 ⟨rfl, hg2⟩
    have g2 := g1.trans hg2
    go_wp2_with fail
    refine (KL.out _).mono ?_
    rintro e w3 ⟨rfl, hg3⟩
    go_wp2_with fail
    go_ret
    exact ⟨rfl, g2.trans hg3⟩
end Go.Proofs.YthofkdpmgjkgkaaGreat

/- l26Type of the injections. -/
namespace Go.Proofs.YthofkdpmgjkgkaaGreat
open Go.RowKit
open Tr (Tm)

theorem l26Type_inl (x : Tn) (a : Tm) (hg : Good (.t1 x a)) (hk : x.1 = 6) (G : List Fm.Tree) (hG : ∀ A ∈ G, FmOk A) (_hl : G.length ≤ 12) (IH : TypS a G) (va v : Value) (w : World) (hs : Strs w va (G.map tx)) (h : Tms w v (Tr.enc (.t1 x a))) (hn : (Tr.enc (.t1 x a)).length ≤ 60) :
    Calls Tryz.prog 59 #[va, v] w fun e w' => e = .returned (.string (otx (ty G (.t1 x a)))) ∧ Grew w w' := by
  have hty : ty G (.t1 x a) = (ty G a).bind (ty1 6 (fo x.2.2)) := by
    rw [ty, if_neg (by rw [hk]; decide), hk]
  rw [hty]
  have KP := Lib.hid (fun W (hW : Grew w W) => by
    have h1 := l26Part_c v (.t1 x a) 0 W (h.grew hW) hg (by omega) (by decide : 0 < 1)
    rw [show Tr.kid (.t1 x a) 0 = a from rfl] at h1
    exact h1)
  obtain ⟨b, o, c, rfl, hc, hm, hb, hcl⟩ := tms_head h
  have k0 := fun W (hW : Grew w W) => (hcl W hW).1
  have k1 := fun W (hW : Grew w W) => (hcl W hW).2.1
  have k2 := fun W (hW : Grew w W) => (hcl W hW).2.2
  change ∀ W, Grew w W → W.cell? ⟨b, o, none⟩ = some (.int .i64 x.1) at k0
  change ∀ W, Grew w W → W.cell? ⟨b, o + 1, none⟩ = some (.int .i64 x.2.1) at k1
  change ∀ W, Grew w W → W.cell? ⟨b, o + 2, none⟩ = some (.string x.2.2) at k2
  rw [hk] at k0
  have hpos := Tr.enc_pos (.t1 x a)
  have hal := (Grew.refl w).alloc (.cells #[.int .i64 6, .int .i64 x.2.1, .string x.2.2] 66)
  have hr := Grew.refl w
  have HOK := fun B hB => ty_ok a hg.2 G B hG hB
  have KI := fun u W (hW : Grew w W) hu => IH va u W (hs.grew hW) hu
  obtain ⟨D, d, rfl⟩ := (strs_map hs).1
  have hA := fo_ok (goodN_text hg.1.2 (by rw [hk]; rfl) (by rw [hk]; decide))
  clear hcl h hg hty IH hs hG
  generalize fo x.2.2 = A at *
  rw [← hA.2] at k2 hal
  generalize x.2.1 = xn at *
  generalize (Tr.enc (.t1 x a)).length = n at *
  generalize G.length = gl at *
  have hC : ty G a = none ∨ ∃ C, ty G a = some C := by
    cases ty G a with
    | none => exact .inl rfl
    | some C => exact .inr ⟨C, rfl⟩
  rcases hC with hC | ⟨C, hC⟩
  · rw [hC] at KI ⊢
    change Calls _ _ _ _ (fun e w' => e = .returned (.string ByteArray.empty) ∧ Grew w w')
    rw [show otx none = ByteArray.empty from rfl] at KI
    clear HOK hC hA
    generalize tx A = ta at *
    replace KI := Lib.hid KI
    go_enter Tryz.func59, Tryz.ntmps59
    go_wp2_with fail
    refine (KP.out _ hal).mono ?_
    rintro e w1 ⟨u, rfl, hu, hg1⟩
    have HU := Lib.hid hu
    obtain ⟨U, e1, rfl⟩ := tms_slice hu
    clear hu
    have g1 := hal.trans hg1
    have f0 : ∀ W, Grew w1 W → W.cell? ⟨w.heap.size, 0, none⟩ = some (.int .i64 6) := fun W hW => ((hg1.trans hW).cell (p := ⟨w.heap.size, 0, none⟩) (by simp)).trans (by simp)
    go_wp2_with fail
    refine (KI.out _ _ g1 HU.out).mono ?_
    rintro e w2 ⟨rfl, hg2⟩
    have g2 := g1.trans hg2
    go_wp2_with fail
    go_ret
    exact ⟨rfl, g2⟩
  · rw [hC] at KI ⊢
    change Calls _ _ _ _ (fun e w' => e = .returned (.string (otx (smallF (.or C A)))) ∧ Grew w w')
    rw [otx_small]
    have hok := HOK _ hC
    have KL := Lib.hid (fun w => l26Joined_c 3 C A (.or C A) w hok.1 hA.1.1 rfl)
    have hne := tx_ne C
    rw [show otx (some C) = tx C from rfl] at KI
    clear HOK hC hok
    generalize (if (Fm.enc (.or C A)).length ≤ 40 then tx (.or C A) else ByteArray.empty) = Z at *
    clear hA
    generalize tx C = tc at *
    generalize tx A = ta at *
    replace KI := Lib.hid KI
    go_enter Tryz.func59, Tryz.ntmps59
    go_wp2_with fail
    refine (KP.out _ hal).mono ?_
    rintro e w1 ⟨u, rfl, hu, hg1⟩
    have HU := Lib.hid hu
    obtain ⟨U, e1, rfl⟩ := tms_slice hu
    clear hu
    have g1 := hal.trans hg1
    have f0 : ∀ W, Grew w1 W → W.cell? ⟨w.heap.size, 0, none⟩ = some (.int .i64 6) := fun W hW => ((hg1.trans hW).cell (p := ⟨w.heap.size, 0, none⟩) (by simp)).trans (by simp)
    go_wp2_with fail
    refine (KI.out _ _ g1 HU.out).mono ?_
    rintro e w2 ⟨rfl, hg2⟩
    have g2 := g1.trans hg2
    have f2 : ∀ W, Grew w2 W → W.cell? ⟨w.heap.size, 2, none⟩ = some (.string ta) := fun W hW => (((hg1.trans hg2).trans hW).cell (p := ⟨w.heap.size, 2, none⟩) (by simp)).trans (by simp)
    have r2 := Grew.refl w2
    go_wp2_with fail
    refine (KL.out _).mono ?_
    rintro e w3 ⟨rfl, hg3⟩
    go_wp2_with fail
    go_ret
    exact ⟨rfl, g2.trans hg3⟩

theorem l26Type_inr (x : Tn) (a : Tm) (hg : Good (.t1 x a)) (hk : x.1 = 7) (G : List Fm.Tree) (hG : ∀ A ∈ G, FmOk A) (_hl : G.length ≤ 12) (IH : TypS a G) (va v : Value) (w : World) (hs : Strs w va (G.map tx)) (h : Tms w v (Tr.enc (.t1 x a))) (hn : (Tr.enc (.t1 x a)).length ≤ 60) :
    Calls Tryz.prog 59 #[va, v] w fun e w' => e = .returned (.string (otx (ty G (.t1 x a)))) ∧ Grew w w' := by
  have hty : ty G (.t1 x a) = (ty G a).bind (ty1 7 (fo x.2.2)) := by
    rw [ty, if_neg (by rw [hk]; decide), hk]
  rw [hty]
  have KP := Lib.hid (fun W (hW : Grew w W) => by
    have h1 := l26Part_c v (.t1 x a) 0 W (h.grew hW) hg (by omega) (by decide : 0 < 1)
    rw [show Tr.kid (.t1 x a) 0 = a from rfl] at h1
    exact h1)
  obtain ⟨b, o, c, rfl, hc, hm, hb, hcl⟩ := tms_head h
  have k0 := fun W (hW : Grew w W) => (hcl W hW).1
  have k1 := fun W (hW : Grew w W) => (hcl W hW).2.1
  have k2 := fun W (hW : Grew w W) => (hcl W hW).2.2
  change ∀ W, Grew w W → W.cell? ⟨b, o, none⟩ = some (.int .i64 x.1) at k0
  change ∀ W, Grew w W → W.cell? ⟨b, o + 1, none⟩ = some (.int .i64 x.2.1) at k1
  change ∀ W, Grew w W → W.cell? ⟨b, o + 2, none⟩ = some (.string x.2.2) at k2
  rw [hk] at k0
  have hpos := Tr.enc_pos (.t1 x a)
  have hal := (Grew.refl w).alloc (.cells #[.int .i64 7, .int .i64 x.2.1, .string x.2.2] 66)
  have hr := Grew.refl w
  have HOK := fun B hB => ty_ok a hg.2 G B hG hB
  have KI := fun u W (hW : Grew w W) hu => IH va u W (hs.grew hW) hu
  obtain ⟨D, d, rfl⟩ := (strs_map hs).1
  have hA := fo_ok (goodN_text hg.1.2 (by rw [hk]; rfl) (by rw [hk]; decide))
  clear hcl h hg hty IH hs hG
  generalize fo x.2.2 = A at *
  rw [← hA.2] at k2 hal
  generalize x.2.1 = xn at *
  generalize (Tr.enc (.t1 x a)).length = n at *
  generalize G.length = gl at *
  have hC : ty G a = none ∨ ∃ C, ty G a = some C := by
    cases ty G a with
    | none => exact .inl rfl
    | some C => exact .inr ⟨C, rfl⟩
  rcases hC with hC | ⟨C, hC⟩
  · rw [hC] at KI ⊢
    change Calls _ _ _ _ (fun e w' => e = .returned (.string ByteArray.empty) ∧ Grew w w')
    rw [show otx none = ByteArray.empty from rfl] at KI
    clear HOK hC hA
    generalize tx A = ta at *
    replace KI := Lib.hid KI
    go_enter Tryz.func59, Tryz.ntmps59
    go_wp2_with fail
    refine (KP.out _ hal).mono ?_
    rintro e w1 ⟨u, rfl, hu, hg1⟩
    have HU := Lib.hid hu
    obtain ⟨U, e1, rfl⟩ := tms_slice hu
    clear hu
    have g1 := hal.trans hg1
    have f0 : ∀ W, Grew w1 W → W.cell? ⟨w.heap.size, 0, none⟩ = some (.int .i64 7) := fun W hW => ((hg1.trans hW).cell (p := ⟨w.heap.size, 0, none⟩) (by simp)).trans (by simp)
    go_wp2_with fail
    refine (KI.out _ _ g1 HU.out).mono ?_
    rintro e w2 ⟨rfl, hg2⟩
    have g2 := g1.trans hg2
    go_wp2_with fail
    go_ret
    exact ⟨rfl, g2⟩
  · rw [hC] at KI ⊢
    change Calls _ _ _ _ (fun e w' => e = .returned (.string (otx (smallF (.or A C)))) ∧ Grew w w')
    rw [otx_small]
    have hok := HOK _ hC
    have KL := Lib.hid (fun w => l26Joined_c 3 A C (.or A C) w hA.1.1 hok.1 rfl)
    have hne := tx_ne C
    rw [show otx (some C) = tx C from rfl] at KI
    clear HOK hC hok
    generalize (if (Fm.enc (.or A C)).length ≤ 40 then tx (.or A C) else ByteArray.empty) = Z at *
    clear hA
    generalize tx C = tc at *
    generalize tx A = ta at *
    replace KI := Lib.hid KI
    go_enter Tryz.func59, Tryz.ntmps59
    go_wp2_with fail
    refine (KP.out _ hal).mono ?_
    rintro e w1 ⟨u, rfl, hu, hg1⟩
    have HU := Lib.hid hu
    obtain ⟨U, e1, rfl⟩ := tms_slice hu
    clear hu
    have g1 := hal.trans hg1
    have f0 : ∀ W, Grew w1 W → W.cell? ⟨w.heap.size, 0, none⟩ = some (.int .i64 7) := fun W hW => ((hg1.trans hW).cell (p := ⟨w.heap.size, 0, none⟩) (by simp)).trans (by simp)
    go_wp2_with fail
    refine (KI.out _ _ g1 HU.out).mono ?_
    rintro e w2 ⟨rfl, hg2⟩
    have g2 := g1.trans hg2
    have f2 : ∀ W, Grew w2 W → W.cell? ⟨w.heap.size, 2, none⟩ = some (.string ta) := fun W hW => (((hg1.trans hg2).trans hW).cell (p := ⟨w.heap.size, 2, none⟩) (by simp)).trans (by simp)
    have r2 := Grew.refl w2
    go_wp2_with fail
    refine (KL.out _).mono ?_
    rintro e w3 ⟨rfl, hg3⟩
    go_wp2_with fail
    go_ret
    exact ⟨rfl, g2.trans hg3⟩
end Go.Proofs.YthofkdpmgjkgkaaGreat

/- l26Type of a pair. -/
namespace Go.Proofs.YthofkdpmgjkgkaaGreat
open Go.RowKit
open Tr (Tm)

theorem l26Type_pair (x : Tn) (a b : Tm) (hg : Good (.t2 x a b)) (hk : x.1 = 3) (G : List Fm.Tree) (hG : ∀ A ∈ G, FmOk A) (hl : G.length ≤ 12) (IHa : TypS a G) (IHb : TypS b G) (va v : Value) (w : World) (hs : Strs w va (G.map tx)) (h : Tms w v (Tr.enc (.t2 x a b))) (hn : (Tr.enc (.t2 x a b)).length ≤ 60) :
    Calls Tryz.prog 59 #[va, v] w fun e w' => e = .returned (.string (otx (ty G (.t2 x a b)))) ∧ Grew w w' := by
  have hty : ty G (.t2 x a b) = (ty G a).bind fun C => (ty G b).bind fun D => smallF (.and C D) := by
    rw [ty]
    simp [ty2, hk]
  rw [hty]
  have KP := Lib.hid (fun W (hW : Grew w W) => by
    have h1 := l26Part_c v (.t2 x a b) 0 W (h.grew hW) hg (by omega) (by decide : 0 < 2)
    rw [show Tr.kid (.t2 x a b) 0 = a from rfl] at h1
    exact h1)
  have KQ := Lib.hid (fun W (hW : Grew w W) => by
    have h1 := l26Part_c v (.t2 x a b) 1 W (h.grew hW) hg (by omega) (by decide : 1 < 2)
    rw [show Tr.kid (.t2 x a b) 1 = b from rfl] at h1
    exact h1)
  obtain ⟨bb, o, c, rfl, hc, hm, hb, hcl⟩ := tms_head h
  have k0 := fun W (hW : Grew w W) => (hcl W hW).1
  have k1 := fun W (hW : Grew w W) => (hcl W hW).2.1
  have k2 := fun W (hW : Grew w W) => (hcl W hW).2.2
  change ∀ W, Grew w W → W.cell? ⟨bb, o, none⟩ = some (.int .i64 x.1) at k0
  change ∀ W, Grew w W → W.cell? ⟨bb, o + 1, none⟩ = some (.int .i64 x.2.1) at k1
  change ∀ W, Grew w W → W.cell? ⟨bb, o + 2, none⟩ = some (.string x.2.2) at k2
  rw [hk] at k0
  have hpos := Tr.enc_pos (.t2 x a b)
  have hal := (Grew.refl w).alloc (.cells #[.int .i64 3, .int .i64 x.2.1, .string x.2.2] 66)
  have hr := Grew.refl w
  have HA := fun B hB => ty_ok a hg.2.1 G B hG hB
  have HB := fun B hB => ty_ok b hg.2.2 G B hG hB
  have KI := fun u W (hW : Grew w W) hu => IHa va u W (hs.grew hW) hu
  have KJ := fun u W (hW : Grew w W) hu => IHb va u W (hs.grew hW) hu
  obtain ⟨D0, d, rfl⟩ := (strs_map hs).1
  clear hcl h hg hty IHa IHb hs hG
  generalize x.2.1 = xn at *
  generalize x.2.2 = xs at *
  generalize (Tr.enc (.t2 x a b)).length = n at *
  generalize G.length = gl at *
  generalize ty G a = ra at *
  generalize ty G b = rb at *
  cases ra with
  | none =>
    change Calls _ _ _ _ (fun e w' => e = .returned (.string ByteArray.empty) ∧ Grew w w')
    rw [show otx none = ByteArray.empty from rfl] at KI
    clear HA HB
    replace KI := Lib.hid KI
    replace KJ := Lib.hid KJ
    go_enter Tryz.func59, Tryz.ntmps59
    go_wp2_with fail
    refine (KP.out _ hal).mono ?_
    rintro e w1 ⟨u, rfl, hu, hg1⟩
    have HU := Lib.hid hu
    obtain ⟨U, e1, rfl⟩ := tms_slice hu
    clear hu
    have g1 := hal.trans hg1
    have f0 : ∀ W, Grew w1 W → W.cell? ⟨w.heap.size, 0, none⟩ = some (.int .i64 3) := fun W hW => ((hg1.trans hW).cell (p := ⟨w.heap.size, 0, none⟩) (by simp)).trans (by simp)
    go_wp2_with fail
    refine (KI.out _ _ g1 HU.out).mono ?_
    rintro e w2 ⟨rfl, hg2⟩
    have g2 := g1.trans hg2
    go_wp2_with fail
    go_ret
    exact ⟨rfl, g2⟩
  | some C =>
    have hneC := tx_ne C
    have hokC := (HA C rfl).1
    rw [show otx (some C) = tx C from rfl] at KI
    cases rb with
    | none =>
      change Calls _ _ _ _ (fun e w' => e = .returned (.string ByteArray.empty) ∧ Grew w w')
      rw [show otx none = ByteArray.empty from rfl] at KJ
      clear HA HB hokC
      generalize tx C = tc at *
      replace KI := Lib.hid KI
      replace KJ := Lib.hid KJ
      go_enter Tryz.func59, Tryz.ntmps59
      go_wp2_with fail
      refine (KP.out _ hal).mono ?_
      rintro e w1 ⟨u, rfl, hu, hg1⟩
      have HU := Lib.hid hu
      obtain ⟨U, e1, rfl⟩ := tms_slice hu
      clear hu
      have g1 := hal.trans hg1
      have f0 : ∀ W, Grew w1 W → W.cell? ⟨w.heap.size, 0, none⟩ = some (.int .i64 3) := fun W hW => ((hg1.trans hW).cell (p := ⟨w.heap.size, 0, none⟩) (by simp)).trans (by simp)
      go_wp2_with fail
      refine (KI.out _ _ g1 HU.out).mono ?_
      rintro e w2 ⟨rfl, hg2⟩
      have g2 := g1.trans hg2
      have f1 := f0 _ hg2
      go_wp2_with fail
      refine (KQ.out _ g2).mono ?_
      rintro e w3 ⟨u3, rfl, hu3, hg3⟩
      have HU3 := Lib.hid hu3
      obtain ⟨U3, e3, rfl⟩ := tms_slice hu3
      clear hu3
      have g3 := g2.trans hg3
      go_wp2_with fail
      refine (KJ.out _ _ g3 HU3.out).mono ?_
      rintro e w4 ⟨rfl, hg4⟩
      have g4 := g3.trans hg4
      have f4 := f0 _ ((hg2.trans hg3).trans hg4)
      go_wp2_with fail
      go_ret
      exact ⟨rfl, g4⟩
    | some D =>
      have hneD := tx_ne D
      have hokD := (HB D rfl).1
      rw [show otx (some D) = tx D from rfl] at KJ
      change Calls _ _ _ _ (fun e w' => e = .returned (.string (otx (smallF (.and C D)))) ∧ Grew w w')
      rw [otx_small]
      have KL := Lib.hid (fun w => l26Joined_c 2 C D (.and C D) w hokC hokD rfl)
      clear HA HB hokC hokD
      generalize (if (Fm.enc (.and C D)).length ≤ 40 then tx (.and C D) else ByteArray.empty) = Z at *
      generalize tx C = tc at *
      generalize tx D = td at *
      replace KI := Lib.hid KI
      replace KJ := Lib.hid KJ
      go_enter Tryz.func59, Tryz.ntmps59
      go_wp2_with fail
      refine (KP.out _ hal).mono ?_
      rintro e w1 ⟨u, rfl, hu, hg1⟩
      have HU := Lib.hid hu
      obtain ⟨U, e1, rfl⟩ := tms_slice hu
      clear hu
      have g1 := hal.trans hg1
      have f0 : ∀ W, Grew w1 W → W.cell? ⟨w.heap.size, 0, none⟩ = some (.int .i64 3) := fun W hW => ((hg1.trans hW).cell (p := ⟨w.heap.size, 0, none⟩) (by simp)).trans (by simp)
      go_wp2_with fail
      refine (KI.out _ _ g1 HU.out).mono ?_
      rintro e w2 ⟨rfl, hg2⟩
      have g2 := g1.trans hg2
      have f1 := f0 _ hg2
      go_wp2_with fail
      refine (KQ.out _ g2).mono ?_
      rintro e w3 ⟨u3, rfl, hu3, hg3⟩
      have HU3 := Lib.hid hu3
      obtain ⟨U3, e3, rfl⟩ := tms_slice hu3
      clear hu3
      have g3 := g2.trans hg3
      go_wp2_with fail
      refine (KJ.out _ _ g3 HU3.out).mono ?_
      rintro e w4 ⟨rfl, hg4⟩
      have g4 := g3.trans hg4
      have f4 := f0 _ ((hg2.trans hg3).trans hg4)
      go_wp2_with fail
      refine (KL.out _).mono ?_
      rintro e w5 ⟨rfl, hg5⟩
      go_wp2_with fail
      go_ret
      exact ⟨rfl, g4.trans hg5⟩
end Go.Proofs.YthofkdpmgjkgkaaGreat

/- l26Type of an application. -/
namespace Go.Proofs.YthofkdpmgjkgkaaGreat
open Go.RowKit
open Tr (Tm)

theorem l26Type_app (x : Tn) (a b : Tm) (hg : Good (.t2 x a b)) (hk : x.1 = 2) (G : List Fm.Tree) (hG : ∀ A ∈ G, FmOk A) (hl : G.length ≤ 12) (IHa : TypS a G) (IHb : TypS b G) (va v : Value) (w : World) (hs : Strs w va (G.map tx)) (h : Tms w v (Tr.enc (.t2 x a b))) (hn : (Tr.enc (.t2 x a b)).length ≤ 60) :
    Calls Tryz.prog 59 #[va, v] w fun e w' => e = .returned (.string (otx (ty G (.t2 x a b)))) ∧ Grew w w' := by
  have hty : ty G (.t2 x a b) = (ty G a).bind fun C => (ty G b).bind fun D => ty2 2 C D := by
    rw [ty, hk]
  rw [hty]
  have KP := Lib.hid (fun W (hW : Grew w W) => by
    have h1 := l26Part_c v (.t2 x a b) 0 W (h.grew hW) hg (by omega) (by decide : 0 < 2)
    rw [show Tr.kid (.t2 x a b) 0 = a from rfl] at h1
    exact h1)
  have KQ := Lib.hid (fun W (hW : Grew w W) => by
    have h1 := l26Part_c v (.t2 x a b) 1 W (h.grew hW) hg (by omega) (by decide : 1 < 2)
    rw [show Tr.kid (.t2 x a b) 1 = b from rfl] at h1
    exact h1)
  obtain ⟨bb, o, c, rfl, hc, hm, hb, hcl⟩ := tms_head h
  have k0 := fun W (hW : Grew w W) => (hcl W hW).1
  have k1 := fun W (hW : Grew w W) => (hcl W hW).2.1
  have k2 := fun W (hW : Grew w W) => (hcl W hW).2.2
  change ∀ W, Grew w W → W.cell? ⟨bb, o, none⟩ = some (.int .i64 x.1) at k0
  change ∀ W, Grew w W → W.cell? ⟨bb, o + 1, none⟩ = some (.int .i64 x.2.1) at k1
  change ∀ W, Grew w W → W.cell? ⟨bb, o + 2, none⟩ = some (.string x.2.2) at k2
  rw [hk] at k0
  have hpos := Tr.enc_pos (.t2 x a b)
  have hal := (Grew.refl w).alloc (.cells #[.int .i64 2, .int .i64 x.2.1, .string x.2.2] 66)
  have hr := Grew.refl w
  have HA := fun B hB => ty_ok a hg.2.1 G B hG hB
  have HB := fun B hB => ty_ok b hg.2.2 G B hG hB
  have KI := fun u W (hW : Grew w W) hu => IHa va u W (hs.grew hW) hu
  have KJ := fun u W (hW : Grew w W) hu => IHb va u W (hs.grew hW) hu
  obtain ⟨D0, d, rfl⟩ := (strs_map hs).1
  clear hcl h hg hty IHa IHb hs hG
  generalize x.2.1 = xn at *
  generalize x.2.2 = xs at *
  generalize (Tr.enc (.t2 x a b)).length = n at *
  generalize G.length = gl at *
  generalize ty G a = ra at *
  generalize ty G b = rb at *
  cases ra with
  | none =>
    change Calls _ _ _ _ (fun e w' => e = .returned (.string ByteArray.empty) ∧ Grew w w')
    rw [show otx none = ByteArray.empty from rfl] at KI
    clear HA HB
    replace KI := Lib.hid KI
    replace KJ := Lib.hid KJ
    go_enter Tryz.func59, Tryz.ntmps59
    go_wp2_with fail
    refine (KP.out _ hal).mono ?_
    rintro e w1 ⟨u, rfl, hu, hg1⟩
    have HU := Lib.hid hu
    obtain ⟨U, e1, rfl⟩ := tms_slice hu
    clear hu
    have g1 := hal.trans hg1
    have f0 : ∀ W, Grew w1 W → W.cell? ⟨w.heap.size, 0, none⟩ = some (.int .i64 2) := fun W hW => ((hg1.trans hW).cell (p := ⟨w.heap.size, 0, none⟩) (by simp)).trans (by simp)
    go_wp2_with fail
    refine (KI.out _ _ g1 HU.out).mono ?_
    rintro e w2 ⟨rfl, hg2⟩
    have g2 := g1.trans hg2
    go_wp2_with fail
    go_ret
    exact ⟨rfl, g2⟩
  | some C =>
    have hneC := tx_ne C
    have hokC := (HA C rfl).1
    rw [show otx (some C) = tx C from rfl] at KI
    cases rb with
    | none =>
      change Calls _ _ _ _ (fun e w' => e = .returned (.string ByteArray.empty) ∧ Grew w w')
      rw [show otx none = ByteArray.empty from rfl] at KJ
      clear HA HB hokC
      generalize tx C = tc at *
      replace KI := Lib.hid KI
      replace KJ := Lib.hid KJ
      go_enter Tryz.func59, Tryz.ntmps59
      go_wp2_with fail
      refine (KP.out _ hal).mono ?_
      rintro e w1 ⟨u, rfl, hu, hg1⟩
      have HU := Lib.hid hu
      obtain ⟨U, e1, rfl⟩ := tms_slice hu
      clear hu
      have g1 := hal.trans hg1
      have f0 : ∀ W, Grew w1 W → W.cell? ⟨w.heap.size, 0, none⟩ = some (.int .i64 2) := fun W hW => ((hg1.trans hW).cell (p := ⟨w.heap.size, 0, none⟩) (by simp)).trans (by simp)
      go_wp2_with fail
      refine (KI.out _ _ g1 HU.out).mono ?_
      rintro e w2 ⟨rfl, hg2⟩
      have g2 := g1.trans hg2
      have f1 := f0 _ hg2
      go_wp2_with fail
      refine (KQ.out _ g2).mono ?_
      rintro e w3 ⟨u3, rfl, hu3, hg3⟩
      have HU3 := Lib.hid hu3
      obtain ⟨U3, e3, rfl⟩ := tms_slice hu3
      clear hu3
      have g3 := g2.trans hg3
      go_wp2_with fail
      refine (KJ.out _ _ g3 HU3.out).mono ?_
      rintro e w4 ⟨rfl, hg4⟩
      have g4 := g3.trans hg4
      have f4 := f0 _ ((hg2.trans hg3).trans hg4)
      go_wp2_with fail
      go_ret
      exact ⟨rfl, g4⟩
    | some D =>
      have hneD := tx_ne D
      have hokD := (HB D rfl).1
      have hokC2 := HA C rfl
      rw [show otx (some D) = tx D from rfl] at KJ
      have hCC : (∃ p q, C = .imp p q) ∨ (kindOf C ≠ 4 ∧ ty2 2 C D = none) := by
        cases C with
        | imp p q => exact .inl ⟨p, q, rfl⟩
        | _ => exact .inr ⟨by simp [kindOf], by simp [ty2]⟩
      rcases hCC with ⟨p, q, rfl⟩ | ⟨hk4, hno⟩
      · have KL := Lib.hid (fun w => l25Parts_yes 4 (.imp p q) p q w hokC2 rfl rfl)
        by_cases hpd : p = D
        · subst hpd
          have hR : ((some (.imp p q)).bind fun C => (some p).bind fun D => ty2 2 C D) = some q := by simp [ty2]
          rw [hR]
          change Calls _ _ _ _ (fun e w' => e = .returned (.string (tx q)) ∧ Grew w w')
          clear HA HB hokC hokD hokC2 hR
          generalize tx (.imp p q) = tc at *
          generalize tx p = td at *
          generalize tx q = tq at *
          replace KI := Lib.hid KI
          replace KJ := Lib.hid KJ
          go_enter Tryz.func59, Tryz.ntmps59
          go_wp2_with fail
          refine (KP.out _ hal).mono ?_
          rintro e w1 ⟨u, rfl, hu, hg1⟩
          have HU := Lib.hid hu
          obtain ⟨U, e1, rfl⟩ := tms_slice hu
          clear hu
          have g1 := hal.trans hg1
          have f0 : ∀ W, Grew w1 W → W.cell? ⟨w.heap.size, 0, none⟩ = some (.int .i64 2) := fun W hW => ((hg1.trans hW).cell (p := ⟨w.heap.size, 0, none⟩) (by simp)).trans (by simp)
          go_wp2_with fail
          refine (KI.out _ _ g1 HU.out).mono ?_
          rintro e w2 ⟨rfl, hg2⟩
          have g2 := g1.trans hg2
          have f1 := f0 _ hg2
          go_wp2_with fail
          refine (KQ.out _ g2).mono ?_
          rintro e w3 ⟨u3, rfl, hu3, hg3⟩
          have HU3 := Lib.hid hu3
          obtain ⟨U3, e3, rfl⟩ := tms_slice hu3
          clear hu3
          have g3 := g2.trans hg3
          go_wp2_with fail
          refine (KJ.out _ _ g3 HU3.out).mono ?_
          rintro e w4 ⟨rfl, hg4⟩
          have g4 := g3.trans hg4
          have f4 := f0 _ ((hg2.trans hg3).trans hg4)
          go_wp2_with fail
          refine (KL.out _).mono ?_
          rintro e w5 ⟨rfl, hg5⟩
          go_wp2_with fail
          go_ret
          exact ⟨rfl, g4.trans hg5⟩
        · have hR : ((some (.imp p q)).bind fun C => (some D).bind fun D => ty2 2 C D) = none := by simp [ty2, hpd]
          rw [hR]
          have hokp := (fmOk_imp hokC2).1.1
          have hneq : tx p ≠ tx D := fun hh => hpd (tx_inj hokp hokD hh)
          have hb1 : ((tx p).toList == (tx D).toList) = false := by
            cases hq : ((tx p).toList == (tx D).toList) with
            | false => rfl
            | true => exact absurd ((Lib.bytes_beq_iff _ _).1 hq) hneq
          have hb2 : ((tx p).toList != (tx D).toList) = true := by rw [bne, hb1]; rfl
          change Calls _ _ _ _ (fun e w' => e = .returned (.string ByteArray.empty) ∧ Grew w w')
          clear HA HB hokC hokD hokC2 hR hokp hneq hpd
          generalize tx (.imp p q) = tc at *
          generalize tx p = tp at *
          generalize tx D = td at *
          generalize tx q = tq at *
          replace KI := Lib.hid KI
          replace KJ := Lib.hid KJ
          go_enter Tryz.func59, Tryz.ntmps59
          go_wp2_with fail
          refine (KP.out _ hal).mono ?_
          rintro e w1 ⟨u, rfl, hu, hg1⟩
          have HU := Lib.hid hu
          obtain ⟨U, e1, rfl⟩ := tms_slice hu
          clear hu
          have g1 := hal.trans hg1
          have f0 : ∀ W, Grew w1 W → W.cell? ⟨w.heap.size, 0, none⟩ = some (.int .i64 2) := fun W hW => ((hg1.trans hW).cell (p := ⟨w.heap.size, 0, none⟩) (by simp)).trans (by simp)
          go_wp2_with fail
          refine (KI.out _ _ g1 HU.out).mono ?_
          rintro e w2 ⟨rfl, hg2⟩
          have g2 := g1.trans hg2
          have f1 := f0 _ hg2
          go_wp2_with fail
          refine (KQ.out _ g2).mono ?_
          rintro e w3 ⟨u3, rfl, hu3, hg3⟩
          have HU3 := Lib.hid hu3
          obtain ⟨U3, e3, rfl⟩ := tms_slice hu3
          clear hu3
          have g3 := g2.trans hg3
          go_wp2_with fail
          refine (KJ.out _ _ g3 HU3.out).mono ?_
          rintro e w4 ⟨rfl, hg4⟩
          have g4 := g3.trans hg4
          have f4 := f0 _ ((hg2.trans hg3).trans hg4)
          go_wp2_with fail
          refine (KL.out _).mono ?_
          rintro e w5 ⟨rfl, hg5⟩
          go_wp2_with fail
          go_ret
          exact ⟨rfl, g4.trans hg5⟩
      · have KL := Lib.hid (fun w => l25Parts_no 4 C w hokC2 hk4)
        rw [show ((some C).bind fun C => (some D).bind fun D => ty2 2 C D) = none from hno]
        change Calls _ _ _ _ (fun e w' => e = .returned (.string ByteArray.empty) ∧ Grew w w')
        clear HA HB hokC hokD hokC2 hno hk4
        generalize tx C = tc at *
        generalize tx D = td at *
        replace KI := Lib.hid KI
        replace KJ := Lib.hid KJ
        go_enter Tryz.func59, Tryz.ntmps59
        go_wp2_with fail
        refine (KP.out _ hal).mono ?_
        rintro e w1 ⟨u, rfl, hu, hg1⟩
        have HU := Lib.hid hu
        obtain ⟨U, e1, rfl⟩ := tms_slice hu
        clear hu
        have g1 := hal.trans hg1
        have f0 : ∀ W, Grew w1 W → W.cell? ⟨w.heap.size, 0, none⟩ = some (.int .i64 2) := fun W hW => ((hg1.trans hW).cell (p := ⟨w.heap.size, 0, none⟩) (by simp)).trans (by simp)
        go_wp2_with fail
        refine (KI.out _ _ g1 HU.out).mono ?_
        rintro e w2 ⟨rfl, hg2⟩
        have g2 := g1.trans hg2
        have f1 := f0 _ hg2
        go_wp2_with fail
        refine (KQ.out _ g2).mono ?_
        rintro e w3 ⟨u3, rfl, hu3, hg3⟩
        have HU3 := Lib.hid hu3
        obtain ⟨U3, e3, rfl⟩ := tms_slice hu3
        clear hu3
        have g3 := g2.trans hg3
        go_wp2_with fail
        refine (KJ.out _ _ g3 HU3.out).mono ?_
        rintro e w4 ⟨rfl, hg4⟩
        have g4 := g3.trans hg4
        have f4 := f0 _ ((hg2.trans hg3).trans hg4)
        go_wp2_with fail
        refine (KL.out _).mono ?_
        rintro e w5 ⟨rfl, hg5⟩
        go_wp2_with fail
        go_ret
        exact ⟨rfl, g4.trans hg5⟩
end Go.Proofs.YthofkdpmgjkgkaaGreat

/- l26Type of an abort. -/
namespace Go.Proofs.YthofkdpmgjkgkaaGreat
open Go.RowKit
open Tr (Tm)

theorem l26Type_abort (x : Tn) (a : Tm) (hg : Good (.t1 x a)) (hk : x.1 = 9) (G : List Fm.Tree) (hG : ∀ A ∈ G, FmOk A) (hl : G.length ≤ 12) (IH : TypS a G) (va v : Value) (w : World) (hs : Strs w va (G.map tx)) (h : Tms w v (Tr.enc (.t1 x a))) (hn : (Tr.enc (.t1 x a)).length ≤ 60) :
    Calls Tryz.prog 59 #[va, v] w fun e w' => e = .returned (.string (otx (ty G (.t1 x a)))) ∧ Grew w w' := by
  have hty : ty G (.t1 x a) = (ty G a).bind (ty1 9 (fo x.2.2)) := by
    rw [ty, if_neg (by rw [hk]; decide), hk]
  rw [hty]
  have KP := Lib.hid (fun W (hW : Grew w W) => by
    have h1 := l26Part_c v (.t1 x a) 0 W (h.grew hW) hg (by omega) (by decide : 0 < 1)
    rw [show Tr.kid (.t1 x a) 0 = a from rfl] at h1
    exact h1)
  obtain ⟨b, o, c, rfl, hc, hm, hb, hcl⟩ := tms_head h
  have k0 := fun W (hW : Grew w W) => (hcl W hW).1
  have k1 := fun W (hW : Grew w W) => (hcl W hW).2.1
  have k2 := fun W (hW : Grew w W) => (hcl W hW).2.2
  change ∀ W, Grew w W → W.cell? ⟨b, o, none⟩ = some (.int .i64 x.1) at k0
  change ∀ W, Grew w W → W.cell? ⟨b, o + 1, none⟩ = some (.int .i64 x.2.1) at k1
  change ∀ W, Grew w W → W.cell? ⟨b, o + 2, none⟩ = some (.string x.2.2) at k2
  rw [hk] at k0
  have hpos := Tr.enc_pos (.t1 x a)
  have hal := (Grew.refl w).alloc (.cells #[.int .i64 9, .int .i64 x.2.1, .string x.2.2] 66)
  have hr := Grew.refl w
  have HOK := fun B hB => ty_ok a hg.2 G B hG hB
  have KI := fun u W (hW : Grew w W) hu => IH va u W (hs.grew hW) hu
  obtain ⟨D, d, rfl⟩ := (strs_map hs).1
  have hA := fo_ok (goodN_text hg.1.2 (by rw [hk]; rfl) (by rw [hk]; decide))
  clear hcl h hg hty IH hs hG
  generalize fo x.2.2 = A at *
  rw [← hA.2] at k2 hal
  generalize x.2.1 = xn at *
  generalize (Tr.enc (.t1 x a)).length = n at *
  generalize G.length = gl at *
  have hC : ty G a = none ∨ (ty G a = some .fls) ∨ ∃ C, ty G a = some C ∧ C ≠ .fls ∧ ty1 9 A C = none := by
    cases ty G a with
    | none => exact .inl rfl
    | some C =>
      cases C with
      | fls => exact .inr (.inl rfl)
      | _ => exact .inr (.inr ⟨_, rfl, by simp, by simp [ty1]⟩)
  rcases hC with hC | hC | ⟨C, hC, hne9, h1⟩
  · rw [hC] at KI ⊢
    change Calls _ _ _ _ (fun e w' => e = .returned (.string ByteArray.empty) ∧ Grew w w')
    rw [show otx none = ByteArray.empty from rfl] at KI
    clear HOK hC hA
    generalize tx A = ta at *
    replace KI := Lib.hid KI
    go_enter Tryz.func59, Tryz.ntmps59
    go_wp2_with fail
    refine (KP.out _ hal).mono ?_
    rintro e w1 ⟨u, rfl, hu, hg1⟩
    have HU := Lib.hid hu
    obtain ⟨U, e1, rfl⟩ := tms_slice hu
    clear hu
    have g1 := hal.trans hg1
    have f0 : ∀ W, Grew w1 W → W.cell? ⟨w.heap.size, 0, none⟩ = some (.int .i64 9) := fun W hW => ((hg1.trans hW).cell (p := ⟨w.heap.size, 0, none⟩) (by simp)).trans (by simp)
    go_wp2_with fail
    refine (KI.out _ _ g1 HU.out).mono ?_
    rintro e w2 ⟨rfl, hg2⟩
    have g2 := g1.trans hg2
    go_wp2_with fail
    go_ret
    exact ⟨rfl, g2⟩
  · rw [hC] at KI ⊢
    change Calls _ _ _ _ (fun e w' => e = .returned (.string (tx A)) ∧ Grew w w')
    have hF : tx .fls = ⟨#[70]⟩ := rfl
    rw [show otx (some .fls) = tx .fls from rfl, hF] at KI
    clear HOK hC hA hF
    generalize tx A = ta at *
    replace KI := Lib.hid KI
    go_enter Tryz.func59, Tryz.ntmps59
    go_wp2_with fail
    refine (KP.out _ hal).mono ?_
    rintro e w1 ⟨u, rfl, hu, hg1⟩
    have HU := Lib.hid hu
    obtain ⟨U, e1, rfl⟩ := tms_slice hu
    clear hu
    have g1 := hal.trans hg1
    have f0 : ∀ W, Grew w1 W → W.cell? ⟨w.heap.size, 0, none⟩ = some (.int .i64 9) := fun W hW => ((hg1.trans hW).cell (p := ⟨w.heap.size, 0, none⟩) (by simp)).trans (by simp)
    go_wp2_with fail
    refine (KI.out _ _ g1 HU.out).mono ?_
    rintro e w2 ⟨rfl, hg2⟩
    have g2 := g1.trans hg2
    have f2 : ∀ W, Grew w2 W → W.cell? ⟨w.heap.size, 2, none⟩ = some (.string ta) := fun W hW => (((hg1.trans hg2).trans hW).cell (p := ⟨w.heap.size, 2, none⟩) (by simp)).trans (by simp)
    have r2 := Grew.refl w2
    go_wp2_with fail
    go_ret
    exact ⟨rfl, g2⟩
  · rw [hC] at KI ⊢
    rw [show (some C).bind (ty1 9 A) = none from h1]
    change Calls _ _ _ _ (fun e w' => e = .returned (.string ByteArray.empty) ∧ Grew w w')
    have hok := HOK _ hC
    have hne := tx_ne C
    rw [show otx (some C) = tx C from rfl] at KI
    have hneq : tx C ≠ tx .fls := fun hh => hne9 (tx_inj hok.1 (by decide) hh)
    have hb1 : ((tx C).toList == (tx .fls).toList) = false := by
        cases hq : ((tx C).toList == (tx .fls).toList) with
        | false => rfl
        | true => exact absurd ((Lib.bytes_beq_iff _ _).1 hq) hneq
    have hF : tx .fls = ⟨#[70]⟩ := rfl
    rw [hF] at hb1
    have h70 : (⟨#[70]⟩ : ByteArray).toList = [70] := by first | rfl | decide | (simp; done) | (unfold ByteArray.toList ByteArray.toList.loop; simp [ByteArray.size]; unfold ByteArray.toList.loop; simp [ByteArray.size]; done)
    rw [h70] at hb1
    clear HOK hC hok hneq hF hA h1 hne9 h70
    generalize tx C = tc at *
    generalize tx A = ta at *
    replace KI := Lib.hid KI
    go_enter Tryz.func59, Tryz.ntmps59
    go_wp2_with fail
    refine (KP.out _ hal).mono ?_
    rintro e w1 ⟨u, rfl, hu, hg1⟩
    have HU := Lib.hid hu
    obtain ⟨U, e1, rfl⟩ := tms_slice hu
    clear hu
    have g1 := hal.trans hg1
    have f0 : ∀ W, Grew w1 W → W.cell? ⟨w.heap.size, 0, none⟩ = some (.int .i64 9) := fun W hW => ((hg1.trans hW).cell (p := ⟨w.heap.size, 0, none⟩) (by simp)).trans (by simp)
    go_wp2_with fail
    refine (KI.out _ _ g1 HU.out).mono ?_
    rintro e w2 ⟨rfl, hg2⟩
    have g2 := g1.trans hg2
    have f2 : ∀ W, Grew w2 W → W.cell? ⟨w.heap.size, 2, none⟩ = some (.string ta) := fun W hW => (((hg1.trans hg2).trans hW).cell (p := ⟨w.heap.size, 2, none⟩) (by simp)).trans (by simp)
    have r2 := Grew.refl w2
    go_wp2_with fail
    go_ret
    exact ⟨rfl, g2⟩
end Go.Proofs.YthofkdpmgjkgkaaGreat

/- l26Type of a case. -/
namespace Go.Proofs.YthofkdpmgjkgkaaGreat
open Go.RowKit
open Tr (Tm)

theorem otx_eq {r s : Option Fm.Tree} (hr : ∀ A, r = some A → FmOk A) (hs : ∀ A, s = some A → FmOk A) :
    otx (r.bind fun R => s.bind fun S => if @decide (R = S) (Classical.propDecidable _) then some R else none) = if otx r = otx s then otx r else ByteArray.empty := by
  cases r with
  | none =>
    show ByteArray.empty = if ByteArray.empty = otx s then ByteArray.empty else ByteArray.empty
    rw [ite_self]
  | some R =>
    have hR := (hr R rfl).1
    cases s with
    | none =>
      have hne := tx_ne R
      have : otx (some R) ≠ otx none := by
        intro h
        rw [show otx (some R) = tx R from rfl, show otx none = ByteArray.empty from rfl] at h
        rw [h] at hne
        have h2 : ByteArray.empty.toList.isEmpty = true := by unfold ByteArray.toList ByteArray.toList.loop; rfl
        rw [h2] at hne
        cases hne
      rw [if_neg this]
      rfl
    | some S =>
      have hS := (hs S rfl).1
      by_cases h : R = S
      · subst h; simp [otx]
      · have : otx (some R) ≠ otx (some S) := fun hh => h (tx_inj hR hS hh)
        rw [if_neg this]
        simp [h, otx]

/-- The type of a case whose first part has a type. -/
noncomputable def tyCs (G : List Fm.Tree) (a b : Tm) : Fm.Tree → Option Fm.Tree
  | .or p q => if G.length < 12 then ((ty (G ++ [p]) a).bind fun R => (ty (G ++ [q]) b).bind fun S => if @decide (R = S) (Classical.propDecidable _) then some R else none) else none
  | _ => none
theorem ty_case (x : Tn) (c a b : Tm) (G : List Fm.Tree) : ty G (.t3 x c a b) = (ty G c).bind (tyCs G a b) := by
  rw [ty]
  congr 1
theorem tyCs_not {G : List Fm.Tree} {a b : Tm} {C : Fm.Tree} (h : (kindOf C == 3) = false) : tyCs G a b C = none := by
  cases C with
  | or p q => simp [kindOf] at h
  | _ => rfl

theorem l26Type_case (x : Tn) (c0 a b : Tm) (hg : Good (.t3 x c0 a b)) (hk : x.1 = 8) (G : List Fm.Tree) (hG : ∀ A ∈ G, FmOk A) (hl : G.length ≤ 12) (IHc : TypS c0 G) (IHa : ∀ A, FmOk A → G.length < 12 → TypS a (G ++ [A])) (IHb : ∀ A, FmOk A → G.length < 12 → TypS b (G ++ [A])) (va v : Value) (w : World) (hs : Strs w va (G.map tx)) (h : Tms w v (Tr.enc (.t3 x c0 a b))) (hn : (Tr.enc (.t3 x c0 a b)).length ≤ 60) :
    Calls Tryz.prog 59 #[va, v] w fun e w' => e = .returned (.string (otx (ty G (.t3 x c0 a b)))) ∧ Grew w w' := by
  have KP := Lib.hid (fun W (hW : Grew w W) => by
    have h1 := l26Part_c v (.t3 x c0 a b) 0 W (h.grew hW) hg (by omega) (by decide : 0 < 3)
    rw [show Tr.kid (.t3 x c0 a b) 0 = c0 from rfl] at h1
    exact h1)
  have KQ := Lib.hid (fun W (hW : Grew w W) => by
    have h1 := l26Part_c v (.t3 x c0 a b) 1 W (h.grew hW) hg (by omega) (by decide : 1 < 3)
    rw [show Tr.kid (.t3 x c0 a b) 1 = a from rfl] at h1
    exact h1)
  have KR := Lib.hid (fun W (hW : Grew w W) => by
    have h1 := l26Part_c v (.t3 x c0 a b) 2 W (h.grew hW) hg (by omega) (by decide : 2 < 3)
    rw [show Tr.kid (.t3 x c0 a b) 2 = b from rfl] at h1
    exact h1)
  have hgl : ∀ A, FmOk A → ∀ B ∈ G ++ [A], FmOk B := fun A hA B hB => by
    rw [List.mem_append] at hB
    rcases hB with hB | hB
    · exact hG B hB
    · simp at hB; subst hB; exact hA
  have HOC := fun B hB => ty_ok c0 hg.2.1 G B hG hB
  have HOA := fun A hA B hB => ty_ok a hg.2.2.1 (G ++ [A]) B (hgl A hA) hB
  have HOB := fun A hA B hB => ty_ok b hg.2.2.2 (G ++ [A]) B (hgl A hA) hB
  have KI := fun u W (hW : Grew w W) hu => IHc va u W (hs.grew hW) hu
  have KA := fun A (hA : FmOk A) u W (hW : Grew w W) hu => l26Under_c A a G (IHa A hA) va u W (hs.grew hW) hu hl
  have KB := fun A (hA : FmOk A) u W (hW : Grew w W) hu => l26Under_c A b G (IHb A hA) va u W (hs.grew hW) hu hl
  have hty : ty G (.t3 x c0 a b) = (ty G c0).bind (tyCs G a b) := ty_case x c0 a b G
  rw [hty]
  obtain ⟨bb, o, c, rfl, hc, hm, hb, hcl⟩ := tms_head h
  have k0 := fun W (hW : Grew w W) => (hcl W hW).1
  have k1 := fun W (hW : Grew w W) => (hcl W hW).2.1
  have k2 := fun W (hW : Grew w W) => (hcl W hW).2.2
  change ∀ W, Grew w W → W.cell? ⟨bb, o, none⟩ = some (.int .i64 x.1) at k0
  change ∀ W, Grew w W → W.cell? ⟨bb, o + 1, none⟩ = some (.int .i64 x.2.1) at k1
  change ∀ W, Grew w W → W.cell? ⟨bb, o + 2, none⟩ = some (.string x.2.2) at k2
  rw [hk] at k0
  have hpos := Tr.enc_pos (.t3 x c0 a b)
  have hal := (Grew.refl w).alloc (.cells #[.int .i64 8, .int .i64 x.2.1, .string x.2.2] 66)
  have hr := Grew.refl w
  obtain ⟨D0, d, rfl⟩ := (strs_map hs).1
  clear hcl h hg hty IHa IHb IHc hs hG hgl
  generalize x.2.1 = xn at *
  generalize x.2.2 = xs at *
  generalize (Tr.enc (.t3 x c0 a b)).length = n at *
  generalize ty G c0 = rc at *
  cases rc with
  | none =>
    change Calls _ _ _ _ (fun e w' => e = .returned (.string ByteArray.empty) ∧ Grew w w')
    rw [show otx none = ByteArray.empty from rfl] at KI
    clear HOC HOA HOB KA KB KQ KR hl
    generalize G.length = gl at *
    replace KI := Lib.hid KI
    go_enter Tryz.func59, Tryz.ntmps59
    go_wp2_with fail
    refine (KP.out _ hal).mono ?_
    rintro e w1 ⟨u, rfl, hu, hg1⟩
    have HU := Lib.hid hu
    obtain ⟨U, e1, rfl⟩ := tms_slice hu
    clear hu
    have g1 := hal.trans hg1
    have f0 : ∀ W, Grew w1 W → W.cell? ⟨w.heap.size, 0, none⟩ = some (.int .i64 8) := fun W hW => ((hg1.trans hW).cell (p := ⟨w.heap.size, 0, none⟩) (by simp)).trans (by simp)
    go_wp2_with fail
    refine (KI.out _ _ g1 HU.out).mono ?_
    rintro e w2 ⟨rfl, hg2⟩
    have g2 := g1.trans hg2
    have f1 := f0 _ hg2
    go_wp2_with fail
    go_ret
    exact ⟨rfl, g2⟩
  | some C =>
    have hneC := tx_ne C
    have hokC := HOC C rfl
    rw [show otx (some C) = tx C from rfl] at KI
    have hCC : (∃ p q, C = .or p q) ∨ (kindOf C ≠ 3 ∧ (some C).bind (tyCs G a b) = none) := by
      cases C with
      | or p q => exact .inl ⟨p, q, rfl⟩
      | _ => exact .inr ⟨by simp [kindOf], rfl⟩
    rcases hCC with ⟨p, q, rfl⟩ | ⟨hk3, hno⟩
    · have KL := Lib.hid (fun w => l25Parts_yes 3 (.or p q) p q w hokC rfl rfl)
      obtain ⟨hp, hq⟩ := fmOk_or hokC
      replace KA := KA p hp
      replace KB := KB q hq
      have hR : otx ((some (Fm.Tree.or p q)).bind (tyCs G a b)) = if otx (if G.length < 12 then ty (G ++ [p]) a else none) = otx (if G.length < 12 then ty (G ++ [q]) b else none) then otx (if G.length < 12 then ty (G ++ [p]) a else none) else ByteArray.empty := by
        by_cases h12 : G.length < 12
        · rw [if_pos h12, if_pos h12, ← otx_eq (HOA p hp) (HOB q hq), Option.bind_some, tyCs, if_pos h12]
        · rw [if_neg h12, if_neg h12, Option.bind_some, tyCs, if_neg h12, if_pos rfl]
      rw [hR]
      clear HOC HOA HOB hokC hR hp hq hl
      generalize otx (if G.length < 12 then ty (G ++ [p]) a else none) = sa at *
      generalize otx (if G.length < 12 then ty (G ++ [q]) b else none) = sb at *
      generalize tx (.or p q) = tc at *
      generalize tx p = tp at *
      generalize tx q = tq at *
      generalize G.length = gl at *
      replace KI := Lib.hid KI
      replace KA := Lib.hid KA
      replace KB := Lib.hid KB
      by_cases hab : sa = sb
      · rw [if_pos hab]
        subst hab
        have hx : (sa.toList != sa.toList) = false := by simp
        go_enter Tryz.func59, Tryz.ntmps59
        go_wp2_with fail
        refine (KP.out _ hal).mono ?_
        rintro e w1 ⟨u, rfl, hu, hg1⟩
        have HU := Lib.hid hu
        obtain ⟨U, e1, rfl⟩ := tms_slice hu
        clear hu
        have g1 := hal.trans hg1
        have f0 : ∀ W, Grew w1 W → W.cell? ⟨w.heap.size, 0, none⟩ = some (.int .i64 8) := fun W hW => ((hg1.trans hW).cell (p := ⟨w.heap.size, 0, none⟩) (by simp)).trans (by simp)
        go_wp2_with fail
        refine (KI.out _ _ g1 HU.out).mono ?_
        rintro e w2 ⟨rfl, hg2⟩
        have g2 := g1.trans hg2
        have f1 := f0 _ hg2
        go_wp2_with fail
        refine (KL.out _).mono ?_
        rintro e w3 ⟨rfl, hg3⟩
        have g3 := g2.trans hg3
        go_wp2_with fail
        refine (KQ.out _ g3).mono ?_
        rintro e w4 ⟨u4, rfl, hu4, hg4⟩
        have H4 := Lib.hid hu4
        obtain ⟨U4, e4, rfl⟩ := tms_slice hu4
        clear hu4
        have g4 := g3.trans hg4
        go_wp2_with fail
        refine (KA.out _ _ g4 H4.out).mono ?_
        rintro e w5 ⟨rfl, hg5⟩
        have g5 := g4.trans hg5
        go_wp2_with fail
        refine (KR.out _ g5).mono ?_
        rintro e w6 ⟨u6, rfl, hu6, hg6⟩
        have H6 := Lib.hid hu6
        obtain ⟨U6, e6, rfl⟩ := tms_slice hu6
        clear hu6
        have g6 := g5.trans hg6
        go_wp2_with fail
        refine (KB.out _ _ g6 H6.out).mono ?_
        rintro e w7 ⟨rfl, hg7⟩
        have g7 := g6.trans hg7
        go_wp2_with fail
        go_ret
        exact ⟨rfl, g7⟩
      · rw [if_neg hab]
        have hb1 : (sa.toList == sb.toList) = false := by
          cases hq : (sa.toList == sb.toList) with
          | false => rfl
          | true => exact absurd ((Lib.bytes_beq_iff _ _).1 hq) hab
        have hb2 : (sa.toList != sb.toList) = true := by rw [bne, hb1]; rfl
        clear hab
        go_enter Tryz.func59, Tryz.ntmps59
        go_wp2_with fail
        refine (KP.out _ hal).mono ?_
        rintro e w1 ⟨u, rfl, hu, hg1⟩
        have HU := Lib.hid hu
        obtain ⟨U, e1, rfl⟩ := tms_slice hu
        clear hu
        have g1 := hal.trans hg1
        have f0 : ∀ W, Grew w1 W → W.cell? ⟨w.heap.size, 0, none⟩ = some (.int .i64 8) := fun W hW => ((hg1.trans hW).cell (p := ⟨w.heap.size, 0, none⟩) (by simp)).trans (by simp)
        go_wp2_with fail
        refine (KI.out _ _ g1 HU.out).mono ?_
        rintro e w2 ⟨rfl, hg2⟩
        have g2 := g1.trans hg2
        have f1 := f0 _ hg2
        go_wp2_with fail
        refine (KL.out _).mono ?_
        rintro e w3 ⟨rfl, hg3⟩
        have g3 := g2.trans hg3
        go_wp2_with fail
        refine (KQ.out _ g3).mono ?_
        rintro e w4 ⟨u4, rfl, hu4, hg4⟩
        have H4 := Lib.hid hu4
        obtain ⟨U4, e4, rfl⟩ := tms_slice hu4
        clear hu4
        have g4 := g3.trans hg4
        go_wp2_with fail
        refine (KA.out _ _ g4 H4.out).mono ?_
        rintro e w5 ⟨rfl, hg5⟩
        have g5 := g4.trans hg5
        go_wp2_with fail
        refine (KR.out _ g5).mono ?_
        rintro e w6 ⟨u6, rfl, hu6, hg6⟩
        have H6 := Lib.hid hu6
        obtain ⟨U6, e6, rfl⟩ := tms_slice hu6
        clear hu6
        have g6 := g5.trans hg6
        go_wp2_with fail
        refine (KB.out _ _ g6 H6.out).mono ?_
        rintro e w7 ⟨rfl, hg7⟩
        have g7 := g6.trans hg7
        go_wp2_with fail
        go_ret
        exact ⟨rfl, g7⟩
    · have KL := Lib.hid (fun w => l25Parts_no 3 C w hokC hk3)
      rw [hno]
      change Calls _ _ _ _ (fun e w' => e = .returned (.string ByteArray.empty) ∧ Grew w w')
      clear HOC HOA HOB KA KB KQ KR hokC hk3 hno hl
      generalize tx C = tc at *
      generalize G.length = gl at *
      replace KI := Lib.hid KI
      go_enter Tryz.func59, Tryz.ntmps59
      go_wp2_with fail
      refine (KP.out _ hal).mono ?_
      rintro e w1 ⟨u, rfl, hu, hg1⟩
      have HU := Lib.hid hu
      obtain ⟨U, e1, rfl⟩ := tms_slice hu
      clear hu
      have g1 := hal.trans hg1
      have f0 : ∀ W, Grew w1 W → W.cell? ⟨w.heap.size, 0, none⟩ = some (.int .i64 8) := fun W hW => ((hg1.trans hW).cell (p := ⟨w.heap.size, 0, none⟩) (by simp)).trans (by simp)
      go_wp2_with fail
      refine (KI.out _ _ g1 HU.out).mono ?_
      rintro e w2 ⟨rfl, hg2⟩
      have g2 := g1.trans hg2
      have f1 := f0 _ hg2
      go_wp2_with fail
      refine (KL.out _).mono ?_
      rintro e w5 ⟨rfl, hg5⟩
      go_wp2_with fail
      go_ret
      exact ⟨rfl, g2.trans hg5⟩
end Go.Proofs.YthofkdpmgjkgkaaGreat

/- l26Type of every term. -/
namespace Go.Proofs.YthofkdpmgjkgkaaGreat
open Go.RowKit
open Tr (Tm)

theorem l26Type_c : ∀ t : Tm, Good t → (Tr.enc t).length ≤ 60 → ∀ G : List Fm.Tree, (∀ A ∈ G, FmOk A) → G.length ≤ 12 → TypS t G := by
  intro t
  have hmore : ∀ (G : List Fm.Tree) (A : Fm.Tree), (∀ B ∈ G, FmOk B) → FmOk A → ∀ B ∈ G ++ [A], FmOk B := fun G A hG hA B hB => by
    rw [List.mem_append] at hB
    rcases hB with hB | hB
    · exact hG B hB
    · simp at hB; subst hB; exact hA
  have hlen1 : ∀ (G : List Fm.Tree) (A : Fm.Tree), G.length < 12 → (G ++ [A]).length ≤ 12 := fun G A h => by simp; omega
  induction t with
  | t0 x => exact fun hg hn G hG hl va v w hs h => l26Type_var x hg G va v w hl hs h
  | t1 x a iha =>
    intro hg hn G hG hl va v w hs h
    have hk := ar_one (show Tr.ar x.1 = 1 from hg.1.1)
    have ha : (Tr.enc a).length ≤ 60 := by simp [Tr.enc] at hn; omega
    have IH := iha hg.2 ha
    rcases hk with hk | hk | hk | hk | hk | hk
    · have hA := (fo_ok (goodN_text hg.1.2 (by rw [hk]; rfl) (by rw [hk]; decide))).1
      exact l26Type_lam x a hg hk G hG hl (fun h12 => IH _ (hmore G _ hG hA) (hlen1 G _ h12)) va v w hs h
    · exact l26Type_fst x a hg hk G hG hl (IH G hG hl) va v w hs h hn
    · exact l26Type_snd x a hg hk G hG hl (IH G hG hl) va v w hs h hn
    · exact l26Type_inl x a hg hk G hG hl (IH G hG hl) va v w hs h hn
    · exact l26Type_inr x a hg hk G hG hl (IH G hG hl) va v w hs h hn
    · exact l26Type_abort x a hg hk G hG hl (IH G hG hl) va v w hs h hn
  | t2 x a b iha ihb =>
    intro hg hn G hG hl va v w hs h
    have hk := ar_two (show Tr.ar x.1 = 2 from hg.1.1)
    have ha : (Tr.enc a).length ≤ 60 := by simp [Tr.enc] at hn; omega
    have hb : (Tr.enc b).length ≤ 60 := by simp [Tr.enc] at hn; omega
    rcases hk with hk | hk
    · exact l26Type_app x a b hg hk G hG hl (iha hg.2.1 ha G hG hl) (ihb hg.2.2 hb G hG hl) va v w hs h hn
    · exact l26Type_pair x a b hg hk G hG hl (iha hg.2.1 ha G hG hl) (ihb hg.2.2 hb G hG hl) va v w hs h hn
  | t3 x c a b ihc iha ihb =>
    intro hg hn G hG hl va v w hs h
    have hk := ar_three (show Tr.ar x.1 = 3 from hg.1.1)
    have hc : (Tr.enc c).length ≤ 60 := by simp [Tr.enc] at hn; omega
    have ha : (Tr.enc a).length ≤ 60 := by simp [Tr.enc] at hn; omega
    have hb : (Tr.enc b).length ≤ 60 := by simp [Tr.enc] at hn; omega
    exact l26Type_case x c a b hg hk G hG hl (ihc hg.2.1 hc G hG hl) (fun A hA h12 => iha hg.2.2.1 ha _ (hmore G A hG hA) (hlen1 G A h12)) (fun A hA h12 => ihb hg.2.2.2 hb _ (hmore G A hG hA) (hlen1 G A h12)) va v w hs h hn
end Go.Proofs.YthofkdpmgjkgkaaGreat

/- nodeType of the program. -/
namespace Go.Proofs.YthofkdpmgjkgkaaGreat
open Go.RowKit

/-- The call gives a type, or none. -/
def GivesTy (w : World) (r : Option Fm.Tree) (e : Ending) (w' : World) : Prop := ∃ s, e = .returned (.tuple #[.string s, .bool r.isSome]) ∧ (∀ B, r = some B → s = tx B) ∧ Grew w w'
theorem small_gives {C : Fm.Tree} {w w' : World} (h : Grew w w') : GivesTy w (smallF C) (.returned (.tuple #[.string (tx C), .bool (decide ((Fm.enc C).length ≤ 40))])) w' := by
  refine ⟨tx C, ?_, fun B hB => by rw [(smallF_ok hB).1], h⟩
  unfold smallF
  split
  · rename_i h1; rw [decide_eq_true h1]; rfl
  · rename_i h1; rw [decide_eq_false h1]; rfl
theorem none_gives {s : ByteArray} {w w' : World} (h : Grew w w') : GivesTy w none (.returned (.tuple #[.string s, .bool false])) w' := ⟨s, rfl, fun B hB => (by cases hB), h⟩
theorem some_gives {A : Fm.Tree} {w w' : World} (h : Grew w w') : GivesTy w (some A) (.returned (.tuple #[.string (tx A), .bool true])) w' := ⟨tx A, rfl, fun B hB => (by injection hB with hB; rw [hB]), h⟩

theorem strs_one {w : World} {v : Value} {a : ByteArray} (h : Strs w v [a]) : ∃ b o c, v = .slice (some ⟨b, o, none⟩) 1 c ∧ 1 ≤ c ∧ c ≤ 9223372036854775807 ∧ b < w.heap.size ∧ ∀ W, Grew w W → W.cell? ⟨b, o, none⟩ = some (.string a) := by
  rcases h.open_ with ⟨_, h0⟩ | ⟨b, o, c, rfl, hc, hm, hb, hf⟩
  · cases h0
  · exact ⟨b, o, c, rfl, hc, hm, hb, fun W hW => by simpa [st] using hf 0 (by simp) W hW⟩
theorem strs_two {w : World} {v : Value} {a a2 : ByteArray} (h : Strs w v [a, a2]) : ∃ b o c, v = .slice (some ⟨b, o, none⟩) 2 c ∧ 2 ≤ c ∧ c ≤ 9223372036854775807 ∧ b < w.heap.size ∧ ∀ W, Grew w W → W.cell? ⟨b, o, none⟩ = some (.string a) ∧ W.cell? ⟨b, o + 1, none⟩ = some (.string a2) := by
  rcases h.open_ with ⟨_, h0⟩ | ⟨b, o, c, rfl, hc, hm, hb, hf⟩
  · cases h0
  · exact ⟨b, o, c, rfl, hc, hm, hb, fun W hW => ⟨by simpa [st] using hf 0 (by simp) W hW, by simpa [st] using hf 1 (by simp) W hW⟩⟩

theorem fm_kinds {A : Fm.Tree} (h : FmOk A) : (kindOf A = 0 ∨ kindOf A = 1) ∨ ∃ p q, TwoF A p q ∧ (kindOf A = 2 ∨ kindOf A = 3 ∨ kindOf A = 4) := by
  cases A with
  | var v => exact .inl (.inl rfl)
  | fls => exact .inl (.inr rfl)
  | and p q => exact .inr ⟨p, q, rfl, .inl rfl⟩
  | or p q => exact .inr ⟨p, q, rfl, .inr (.inl rfl)⟩
  | imp p q => exact .inr ⟨p, q, rfl, .inr (.inr rfl)⟩
  | box p =>
    have := anyP_mem.1 h.2 (5, 0) (by simp [Fm.enc])
    exact absurd this (by decide)
  | dia p =>
    have := anyP_mem.1 h.2 (6, 0) (by simp [Fm.enc])
    exact absurd this (by decide)
theorem partsWith_not (k : Int) (A : Fm.Tree) (w : World) (hA : FmOk A) (hk : (kindOf A == k) = false) :
    Calls Tryz.prog 134 #[.string (tx A), .int .i64 k] w fun e w' => ∃ v, e = .returned (.tuple #[v, .bool false]) ∧ (∃ A n c, v = .slice A n c) ∧ Grew w w' := by
  rcases fm_kinds hA with h0 | ⟨p, q, h2, h3⟩
  · refine (partsWith_none k A w hA h0).mono fun e w' h => ?_
    obtain ⟨rfl, hg⟩ := h
    exact ⟨_, by rw [hk], ⟨_, _, _, rfl⟩, hg⟩
  · refine (partsWith_two k A p q w hA h2 h3).mono fun e w' h => ?_
    obtain ⟨v, rfl, ho, hg⟩ := h
    obtain ⟨B, c, rfl⟩ := strs_slice ho.strs
    exact ⟨_, by rw [hk], ⟨_, _, _, rfl⟩, hg⟩

theorem nodeType_lam (m : Int) (A B : Fm.Tree) (vt : Value) (w : World) (hA : FmOk A) (hB : FmOk B) (hs : Strs w vt [tx B]) :
    Calls Tryz.prog 108 #[.agg #[.int .i64 1, .int .i64 m, .string (tx A)], vt] w (GivesTy w (smallF (.imp A B))) := by
  obtain ⟨b, o, c, rfl, hc, hm, hb, hf⟩ := strs_one hs
  have KJ := Lib.hid (fun w => joinTexts_c 4 A B (.imp A B) w hA.1 hB.1 rfl)
  have HE := Lib.hid (fun w' (h : Grew w w') => small_gives (C := .imp A B) h)
  clear hs hA hB
  generalize decide ((Fm.enc (.imp A B)).length ≤ 40) = dd at *
  generalize tx (.imp A B) = tc at *
  generalize tx A = ta at *
  generalize tx B = tb at *
  have hal := (Grew.refl w).alloc (.cells #[.int .i64 1, .int .i64 m, .string ta] 66)
  have r0 := Grew.refl (w.alloc (.cells #[.int .i64 1, .int .i64 m, .string ta] 66))
  have d0 := r0.drew
  have f2 : ∀ W, Grew (w.alloc (.cells #[.int .i64 1, .int .i64 m, .string ta] 66)) W → W.cell? ⟨w.heap.size, 2, none⟩ = some (.string ta) := fun W hW => (hW.cell (p := ⟨w.heap.size, 2, none⟩) (by simp)).trans (by simp)
  have f3 : ∀ W, Grew (w.alloc (.cells #[.int .i64 1, .int .i64 m, .string ta] 66)) W → W.cell? ⟨b, o, none⟩ = some (.string tb) := fun W hW => hf W (hal.trans hW)
  clear hf
  go_enter Tryz.func108, Tryz.ntmps108
  go_wp2_with fail
  go_region_held3 (fun w' => Grew (w.alloc (.cells #[.int .i64 1, .int .i64 m, .string ta] 66)) w') (with_reducible assumption)
    (first | (go_at_call 136; refine (KJ.out _).mono ?_; rintro e w1 ⟨rfl, hg1⟩; have hk1 := d0.trans hg1))
  go_wp2_with fail
  go_ret2
  exact HE.out _ (hal.trans hk1)
theorem nodeType_inl (m : Int) (A B : Fm.Tree) (vt : Value) (w : World) (hA : FmOk A) (hB : FmOk B) (hs : Strs w vt [tx B]) :
    Calls Tryz.prog 108 #[.agg #[.int .i64 6, .int .i64 m, .string (tx A)], vt] w (GivesTy w (smallF (.or B A))) := by
  obtain ⟨b, o, c, rfl, hc, hm, hb, hf⟩ := strs_one hs
  have KJ := Lib.hid (fun w => joinTexts_c 3 B A (.or B A) w hB.1 hA.1 rfl)
  have HE := Lib.hid (fun w' (h : Grew w w') => small_gives (C := .or B A) h)
  clear hs hA hB
  generalize decide ((Fm.enc (.or B A)).length ≤ 40) = dd at *
  generalize tx (.or B A) = tc at *
  generalize tx A = ta at *
  generalize tx B = tb at *
  have hal := (Grew.refl w).alloc (.cells #[.int .i64 6, .int .i64 m, .string ta] 66)
  have r0 := Grew.refl (w.alloc (.cells #[.int .i64 6, .int .i64 m, .string ta] 66))
  have d0 := r0.drew
  have f2 : ∀ W, Grew (w.alloc (.cells #[.int .i64 6, .int .i64 m, .string ta] 66)) W → W.cell? ⟨w.heap.size, 2, none⟩ = some (.string ta) := fun W hW => (hW.cell (p := ⟨w.heap.size, 2, none⟩) (by simp)).trans (by simp)
  have f3 : ∀ W, Grew (w.alloc (.cells #[.int .i64 6, .int .i64 m, .string ta] 66)) W → W.cell? ⟨b, o, none⟩ = some (.string tb) := fun W hW => hf W (hal.trans hW)
  clear hf
  go_enter Tryz.func108, Tryz.ntmps108
  go_wp2_with fail
  go_region_held3 (fun w' => Grew (w.alloc (.cells #[.int .i64 6, .int .i64 m, .string ta] 66)) w') (with_reducible assumption)
    (first | (go_at_call 136; refine (KJ.out _).mono ?_; rintro e w1 ⟨rfl, hg1⟩; have hk1 := d0.trans hg1))
  go_wp2_with fail
  go_ret2
  exact HE.out _ (hal.trans hk1)
theorem nodeType_inr (m : Int) (A B : Fm.Tree) (vt : Value) (w : World) (hA : FmOk A) (hB : FmOk B) (hs : Strs w vt [tx B]) :
    Calls Tryz.prog 108 #[.agg #[.int .i64 7, .int .i64 m, .string (tx A)], vt] w (GivesTy w (smallF (.or A B))) := by
  obtain ⟨b, o, c, rfl, hc, hm, hb, hf⟩ := strs_one hs
  have KJ := Lib.hid (fun w => joinTexts_c 3 A B (.or A B) w hA.1 hB.1 rfl)
  have HE := Lib.hid (fun w' (h : Grew w w') => small_gives (C := .or A B) h)
  clear hs hA hB
  generalize decide ((Fm.enc (.or A B)).length ≤ 40) = dd at *
  generalize tx (.or A B) = tc at *
  generalize tx A = ta at *
  generalize tx B = tb at *
  have hal := (Grew.refl w).alloc (.cells #[.int .i64 7, .int .i64 m, .string ta] 66)
  have r0 := Grew.refl (w.alloc (.cells #[.int .i64 7, .int .i64 m, .string ta] 66))
  have d0 := r0.drew
  have f2 : ∀ W, Grew (w.alloc (.cells #[.int .i64 7, .int .i64 m, .string ta] 66)) W → W.cell? ⟨w.heap.size, 2, none⟩ = some (.string ta) := fun W hW => (hW.cell (p := ⟨w.heap.size, 2, none⟩) (by simp)).trans (by simp)
  have f3 : ∀ W, Grew (w.alloc (.cells #[.int .i64 7, .int .i64 m, .string ta] 66)) W → W.cell? ⟨b, o, none⟩ = some (.string tb) := fun W hW => hf W (hal.trans hW)
  clear hf
  go_enter Tryz.func108, Tryz.ntmps108
  go_wp2_with fail
  go_region_held3 (fun w' => Grew (w.alloc (.cells #[.int .i64 7, .int .i64 m, .string ta] 66)) w') (with_reducible assumption)
    (first | (go_at_call 136; refine (KJ.out _).mono ?_; rintro e w1 ⟨rfl, hg1⟩; have hk1 := d0.trans hg1))
  go_wp2_with fail
  go_ret2
  exact HE.out _ (hal.trans hk1)
theorem nodeType_pair (m : Int) (ts : ByteArray) (A B : Fm.Tree) (vt : Value) (w : World) (hA : FmOk A) (hB : FmOk B) (hs : Strs w vt [tx A, tx B]) :
    Calls Tryz.prog 108 #[.agg #[.int .i64 3, .int .i64 m, .string ts], vt] w (GivesTy w (smallF (.and A B))) := by
  obtain ⟨b, o, c, rfl, hc, hm, hb, hf⟩ := strs_two hs
  have KJ := Lib.hid (fun w => joinTexts_c 2 A B (.and A B) w hA.1 hB.1 rfl)
  have HE := Lib.hid (fun w' (h : Grew w w') => small_gives (C := .and A B) h)
  clear hs hA hB
  generalize decide ((Fm.enc (.and A B)).length ≤ 40) = dd at *
  generalize tx (.and A B) = tc at *
  generalize tx A = ta at *
  generalize tx B = tb at *
  have hal := (Grew.refl w).alloc (.cells #[.int .i64 3, .int .i64 m, .string ts] 66)
  have r0 := Grew.refl (w.alloc (.cells #[.int .i64 3, .int .i64 m, .string ts] 66))
  have d0 := r0.drew
  have f2 : ∀ W, Grew (w.alloc (.cells #[.int .i64 3, .int .i64 m, .string ts] 66)) W → W.cell? ⟨b, o, none⟩ = some (.string ta) := fun W hW => (hf W (hal.trans hW)).1
  have f3 : ∀ W, Grew (w.alloc (.cells #[.int .i64 3, .int .i64 m, .string ts] 66)) W → W.cell? ⟨b, o + 1, none⟩ = some (.string tb) := fun W hW => (hf W (hal.trans hW)).2
  clear hf
  go_enter Tryz.func108, Tryz.ntmps108
  go_wp2_with fail
  go_region_held3 (fun w' => Grew (w.alloc (.cells #[.int .i64 3, .int .i64 m, .string ts] 66)) w') (with_reducible assumption)
    (first | (go_at_call 136; refine (KJ.out _).mono ?_; rintro e w1 ⟨rfl, hg1⟩; have hk1 := d0.trans hg1))
  go_wp2_with fail
  go_ret2
  exact HE.out _ (hal.trans hk1)
theorem nodeType_abort (m : Int) (A B : Fm.Tree) (vt : Value) (w : World) (hA : FmOk A) (hB : FmOk B) (hs : Strs w vt [tx B]) :
    Calls Tryz.prog 108 #[.agg #[.int .i64 9, .int .i64 m, .string (tx A)], vt] w (GivesTy w (ty1 9 A B)) := by
  obtain ⟨b, o, c, rfl, hc, hm, hb, hf⟩ := strs_one hs
  have hq : ((tx B).toList == [70]) = (ty1 9 A B).isSome := by
    have h70 : (⟨#[70]⟩ : ByteArray).toList = [70] := by first | rfl | decide | (simp; done) | (unfold ByteArray.toList ByteArray.toList.loop; simp [ByteArray.size]; unfold ByteArray.toList.loop; simp [ByteArray.size]; done)
    have hF : tx .fls = ⟨#[70]⟩ := rfl
    rw [← h70, ← hF]
    by_cases hh : B = .fls
    · subst hh; simp [ty1]
    · have hneq : tx B ≠ tx .fls := fun h => hh (tx_inj hB.1 (by decide) h)
      have hb1 : ((tx B).toList == (tx .fls).toList) = false := by
        cases hq : ((tx B).toList == (tx .fls).toList) with
        | false => rfl
        | true => exact absurd ((Lib.bytes_beq_iff _ _).1 hq) hneq
      rw [hb1]
      cases B with
      | fls => exact absurd rfl hh
      | _ => simp [ty1]
  have hs2 : ∀ C, ty1 9 A B = some C → tx A = tx C := by
    intro C hC
    cases B with
    | fls => simp [ty1] at hC; rw [hC]
    | _ => simp [ty1] at hC
  have HE := Lib.hid (fun w' (h : Grew w w') => (⟨tx A, by rw [hq], hs2, h⟩ : GivesTy w (ty1 9 A B) (.returned (.tuple #[.string (tx A), .bool ((tx B).toList == [70])])) w'))
  clear hs hA hB hq hs2
  generalize tx A = ta at *
  generalize tx B = tb at *
  have hal := (Grew.refl w).alloc (.cells #[.int .i64 9, .int .i64 m, .string ta] 66)
  have r0 := Grew.refl (w.alloc (.cells #[.int .i64 9, .int .i64 m, .string ta] 66))
  have d0 := r0.drew
  have f2 : ∀ W, Grew (w.alloc (.cells #[.int .i64 9, .int .i64 m, .string ta] 66)) W → W.cell? ⟨w.heap.size, 2, none⟩ = some (.string ta) := fun W hW => (hW.cell (p := ⟨w.heap.size, 2, none⟩) (by simp)).trans (by simp)
  have f3 : ∀ W, Grew (w.alloc (.cells #[.int .i64 9, .int .i64 m, .string ta] 66)) W → W.cell? ⟨b, o, none⟩ = some (.string tb) := fun W hW => hf W (hal.trans hW)
  clear hf
  go_enter Tryz.func108, Tryz.ntmps108
  go_wp2_with fail
  go_quiet (fail)
  go_wp2_with fail
  go_ret2
  exact HE.out _ (hal.drewN _)
theorem nodeType_fst (m : Int) (ts : ByteArray) (T B : Fm.Tree) (vt : Value) (w : World) (hB : FmOk B) (hs : Strs w vt [tx B]) :
    Calls Tryz.prog 108 #[.agg #[.int .i64 4, .int .i64 m, .string ts], vt] w (GivesTy w (ty1 4 T B)) := by
  obtain ⟨b, o, c, rfl, hc, hm, hb, hf⟩ := strs_one hs
  have hBB : (∃ p q, B = .and p q) ∨ ((kindOf B == 2) = false ∧ ty1 4 T B = none) := by
    cases B with
    | and p q => exact .inl ⟨p, q, rfl⟩
    | _ => exact .inr ⟨by simp [kindOf], by simp [ty1]⟩
  rcases hBB with ⟨p, q, rfl⟩ | ⟨hk2, hno⟩
  · have KP := Lib.hid (fun w => partsWith_two 2 (.and p q) p q w hB rfl (.inl rfl))
    rw [show ty1 4 T (.and p q) = some p from rfl]
    have HE := Lib.hid (fun w' (h : Grew w w') => some_gives (A := p) h)
    clear hs hB
    have hk2 : (kindOf (.and p q) == 2) = true := rfl
    rw [hk2] at KP
    generalize tx (.and p q) = tb at *
    generalize tx p = tp at *
    generalize tx q = tq at *
    have hal := (Grew.refl w).alloc (.cells #[.int .i64 4, .int .i64 m, .string ts] 66)
    have r0 := Grew.refl (w.alloc (.cells #[.int .i64 4, .int .i64 m, .string ts] 66))
    have d0 := r0.drew
    have f3 : ∀ W, Grew (w.alloc (.cells #[.int .i64 4, .int .i64 m, .string ts] 66)) W → W.cell? ⟨b, o, none⟩ = some (.string tb) := fun W hW => hf W (hal.trans hW)
    clear hf
    go_enter Tryz.func108, Tryz.ntmps108
    go_wp2_with fail
    refine (KP.out _).mono ?_
    rintro e w1 ⟨v1, rfl, ho1, hg1⟩
    obtain ⟨b1, o1, c1, rfl, hc1, hm1, hb1, hf1⟩ := strs_two ho1.strs
    clear ho1
    have k1 := fun W (hW : Grew w1 W) => (hf1 W hW).1
    have k2 := fun W (hW : Grew w1 W) => (hf1 W hW).2
    clear hf1
    have r1 := Grew.refl w1
    have f0 : ∀ W, Grew w1 W → W.cell? ⟨w.heap.size, 0, none⟩ = some (.int .i64 4) := fun W hW => ((hg1.trans hW).cell (p := ⟨w.heap.size, 0, none⟩) (by simp)).trans (by simp)
    go_wp2_with fail
    go_ret2
    exact HE.out _ (hal.trans hg1)
  · have HE := Lib.hid (fun w' (h : Grew w w') => (by rw [hno]; exact none_gives (s := ByteArray.empty) h : GivesTy w (ty1 4 T B) (.returned (.tuple #[.string ByteArray.empty, .bool false])) w'))
    have KP : ∀ w, Calls Tryz.prog 134 #[.string (tx B), .int .i64 2] w fun e w' => ∃ v, e = .returned (.tuple #[v, .bool false]) ∧ (∃ A n c, v = .slice A n c) ∧ Grew w w' := fun w => partsWith_not 2 B w hB hk2
    replace KP := Lib.hid KP
    clear hs hB hk2 hno
    generalize tx B = tb at *
    have hal := (Grew.refl w).alloc (.cells #[.int .i64 4, .int .i64 m, .string ts] 66)
    have r0 := Grew.refl (w.alloc (.cells #[.int .i64 4, .int .i64 m, .string ts] 66))
    have d0 := r0.drew
    have f3 : ∀ W, Grew (w.alloc (.cells #[.int .i64 4, .int .i64 m, .string ts] 66)) W → W.cell? ⟨b, o, none⟩ = some (.string tb) := fun W hW => hf W (hal.trans hW)
    clear hf
    go_enter Tryz.func108, Tryz.ntmps108
    go_wp2_with fail
    refine (KP.out _).mono ?_
    rintro e w1 ⟨v1, rfl, ⟨A1, n1, c1, rfl⟩, hg1⟩
    go_wp2_with fail
    go_ret2
    exact HE.out _ (hal.trans hg1)
theorem nodeType_snd (m : Int) (ts : ByteArray) (T B : Fm.Tree) (vt : Value) (w : World) (hB : FmOk B) (hs : Strs w vt [tx B]) :
    Calls Tryz.prog 108 #[.agg #[.int .i64 5, .int .i64 m, .string ts], vt] w (GivesTy w (ty1 5 T B)) := by
  obtain ⟨b, o, c, rfl, hc, hm, hb, hf⟩ := strs_one hs
  have hBB : (∃ p q, B = .and p q) ∨ ((kindOf B == 2) = false ∧ ty1 5 T B = none) := by
    cases B with
    | and p q => exact .inl ⟨p, q, rfl⟩
    | _ => exact .inr ⟨by simp [kindOf], by simp [ty1]⟩
  rcases hBB with ⟨p, q, rfl⟩ | ⟨hk2, hno⟩
  · have KP := Lib.hid (fun w => partsWith_two 2 (.and p q) p q w hB rfl (.inl rfl))
    rw [show ty1 5 T (.and p q) = some q from rfl]
    have HE := Lib.hid (fun w' (h : Grew w w') => some_gives (A := q) h)
    clear hs hB
    have hk2 : (kindOf (.and p q) == 2) = true := rfl
    rw [hk2] at KP
    generalize tx (.and p q) = tb at *
    generalize tx p = tp at *
    generalize tx q = tq at *
    have hal := (Grew.refl w).alloc (.cells #[.int .i64 5, .int .i64 m, .string ts] 66)
    have r0 := Grew.refl (w.alloc (.cells #[.int .i64 5, .int .i64 m, .string ts] 66))
    have d0 := r0.drew
    have f3 : ∀ W, Grew (w.alloc (.cells #[.int .i64 5, .int .i64 m, .string ts] 66)) W → W.cell? ⟨b, o, none⟩ = some (.string tb) := fun W hW => hf W (hal.trans hW)
    clear hf
    go_enter Tryz.func108, Tryz.ntmps108
    go_wp2_with fail
    refine (KP.out _).mono ?_
    rintro e w1 ⟨v1, rfl, ho1, hg1⟩
    obtain ⟨b1, o1, c1, rfl, hc1, hm1, hb1, hf1⟩ := strs_two ho1.strs
    clear ho1
    have k1 := fun W (hW : Grew w1 W) => (hf1 W hW).1
    have k2 := fun W (hW : Grew w1 W) => (hf1 W hW).2
    clear hf1
    have r1 := Grew.refl w1
    have f0 : ∀ W, Grew w1 W → W.cell? ⟨w.heap.size, 0, none⟩ = some (.int .i64 5) := fun W hW => ((hg1.trans hW).cell (p := ⟨w.heap.size, 0, none⟩) (by simp)).trans (by simp)
    go_wp2_with fail
    go_ret2
    exact HE.out _ (hal.trans hg1)
  · have HE := Lib.hid (fun w' (h : Grew w w') => (by rw [hno]; exact none_gives (s := ByteArray.empty) h : GivesTy w (ty1 5 T B) (.returned (.tuple #[.string ByteArray.empty, .bool false])) w'))
    have KP : ∀ w, Calls Tryz.prog 134 #[.string (tx B), .int .i64 2] w fun e w' => ∃ v, e = .returned (.tuple #[v, .bool false]) ∧ (∃ A n c, v = .slice A n c) ∧ Grew w w' := fun w => partsWith_not 2 B w hB hk2
    replace KP := Lib.hid KP
    clear hs hB hk2 hno
    generalize tx B = tb at *
    have hal := (Grew.refl w).alloc (.cells #[.int .i64 5, .int .i64 m, .string ts] 66)
    have r0 := Grew.refl (w.alloc (.cells #[.int .i64 5, .int .i64 m, .string ts] 66))
    have d0 := r0.drew
    have f3 : ∀ W, Grew (w.alloc (.cells #[.int .i64 5, .int .i64 m, .string ts] 66)) W → W.cell? ⟨b, o, none⟩ = some (.string tb) := fun W hW => hf W (hal.trans hW)
    clear hf
    go_enter Tryz.func108, Tryz.ntmps108
    go_wp2_with fail
    refine (KP.out _).mono ?_
    rintro e w1 ⟨v1, rfl, ⟨A1, n1, c1, rfl⟩, hg1⟩
    go_wp2_with fail
    go_ret2
    exact HE.out _ (hal.trans hg1)
theorem nodeType_app (m : Int) (ts : ByteArray) (B D : Fm.Tree) (vt : Value) (w : World) (hB : FmOk B) (hD : FmOk D) (hs : Strs w vt [tx B, tx D]) :
    Calls Tryz.prog 108 #[.agg #[.int .i64 2, .int .i64 m, .string ts], vt] w (GivesTy w (ty2 2 B D)) := by
  obtain ⟨b, o, c, rfl, hc, hm, hb, hf⟩ := strs_two hs
  have hBB : (∃ p q, B = .imp p q) ∨ ((kindOf B == 4) = false ∧ ty2 2 B D = none) := by
    cases B with
    | imp p q => exact .inl ⟨p, q, rfl⟩
    | _ => exact .inr ⟨by simp [kindOf], by simp [ty2]⟩
  rcases hBB with ⟨p, q, rfl⟩ | ⟨hk2, hno⟩
  · have KP := Lib.hid (fun w => partsWith_two 4 (.imp p q) p q w hB rfl (.inr (.inr rfl)))
    have hk2 : (kindOf (.imp p q) == 4) = true := rfl
    rw [hk2] at KP
    have hp := (fmOk_imp hB).1.1
    by_cases hpd : p = D
    · subst hpd
      rw [show ty2 2 (.imp p q) p = some q by simp [ty2]]
      have HE := Lib.hid (fun w' (h : Grew w w') => some_gives (A := q) h)
      clear hs hB hD hp
      generalize tx (.imp p q) = tb at *
      generalize tx p = td at *
      generalize tx q = tq at *
      have hal := (Grew.refl w).alloc (.cells #[.int .i64 2, .int .i64 m, .string ts] 66)
      have r0 := Grew.refl (w.alloc (.cells #[.int .i64 2, .int .i64 m, .string ts] 66))
      have d0 := r0.drew
      have f3 : ∀ W, Grew (w.alloc (.cells #[.int .i64 2, .int .i64 m, .string ts] 66)) W → W.cell? ⟨b, o, none⟩ = some (.string tb) := fun W hW => (hf W (hal.trans hW)).1
      have f4 : ∀ W, Grew (w.alloc (.cells #[.int .i64 2, .int .i64 m, .string ts] 66)) W → W.cell? ⟨b, o + 1, none⟩ = some (.string td) := fun W hW => (hf W (hal.trans hW)).2
      clear hf
      have hx : (td.toList != td.toList) = false := by simp
      go_enter Tryz.func108, Tryz.ntmps108
      go_wp2_with fail
      refine (KP.out _).mono ?_
      rintro e w1 ⟨v1, rfl, ho1, hg1⟩
      obtain ⟨b1, o1, c1, rfl, hc1, hm1, hb1, hf1⟩ := strs_two ho1.strs
      clear ho1
      have k1 := fun W (hW : Grew w1 W) => (hf1 W hW).1
      have k2 := fun W (hW : Grew w1 W) => (hf1 W hW).2
      clear hf1
      have r1 := Grew.refl w1
      have d1 := r1.drew
      have f5 := fun W (hW : Grew w1 W) => f4 W (hg1.trans hW)
      go_wp2_with fail
      go_quiet (fail)
      go_wp2_with fail
      go_ret2
      exact HE.out _ ((hal.trans hg1).drewN _)
    · rw [show ty2 2 (.imp p q) D = none by simp [ty2, hpd]]
      have HE := Lib.hid (fun w' (h : Grew w w') => none_gives (s := ByteArray.empty) h)
      have hneq : tx p ≠ tx D := fun hh => hpd (tx_inj hp hD.1 hh)
      have hb1 : ((tx p).toList == (tx D).toList) = false := by
        cases hq : ((tx p).toList == (tx D).toList) with
        | false => rfl
        | true => exact absurd ((Lib.bytes_beq_iff _ _).1 hq) hneq
      have hb2 : ((tx p).toList != (tx D).toList) = true := by rw [bne, hb1]; rfl
      have hb3 : (!(tx p).toList == (tx D).toList) = true := by rw [hb1]; rfl
      clear hs hB hD hp hneq hpd
      generalize tx (.imp p q) = tb at *
      generalize tx p = tp at *
      generalize tx D = td at *
      generalize tx q = tq at *
      have hal := (Grew.refl w).alloc (.cells #[.int .i64 2, .int .i64 m, .string ts] 66)
      have r0 := Grew.refl (w.alloc (.cells #[.int .i64 2, .int .i64 m, .string ts] 66))
      have d0 := r0.drew
      have f3 : ∀ W, Grew (w.alloc (.cells #[.int .i64 2, .int .i64 m, .string ts] 66)) W → W.cell? ⟨b, o, none⟩ = some (.string tb) := fun W hW => (hf W (hal.trans hW)).1
      have f4 : ∀ W, Grew (w.alloc (.cells #[.int .i64 2, .int .i64 m, .string ts] 66)) W → W.cell? ⟨b, o + 1, none⟩ = some (.string td) := fun W hW => (hf W (hal.trans hW)).2
      clear hf
      go_enter Tryz.func108, Tryz.ntmps108
      go_wp2_with fail
      refine (KP.out _).mono ?_
      rintro e w1 ⟨v1, rfl, ho1, hg1⟩
      obtain ⟨b1, o1, c1, rfl, hc1, hm1, hb1, hf1⟩ := strs_two ho1.strs
      clear ho1
      have k1 := fun W (hW : Grew w1 W) => (hf1 W hW).1
      have k2 := fun W (hW : Grew w1 W) => (hf1 W hW).2
      clear hf1
      have r1 := Grew.refl w1
      have d1 := r1.drew
      have f5 := fun W (hW : Grew w1 W) => f4 W (hg1.trans hW)
      go_wp2_with fail
      go_quiet (fail)
      go_wp2_with fail
      go_ret2
      exact HE.out _ ((hal.trans hg1).drewN _)
  · have HE := Lib.hid (fun w' (h : Grew w w') => (by rw [hno]; exact none_gives (s := ByteArray.empty) h : GivesTy w (ty2 2 B D) (.returned (.tuple #[.string ByteArray.empty, .bool false])) w'))
    have KP : ∀ w, Calls Tryz.prog 134 #[.string (tx B), .int .i64 4] w fun e w' => ∃ v, e = .returned (.tuple #[v, .bool false]) ∧ (∃ A n c, v = .slice A n c) ∧ Grew w w' := fun w => partsWith_not 4 B w hB hk2
    replace KP := Lib.hid KP
    clear hs hB hk2 hno
    generalize tx B = tb at *
    generalize tx D = td at *
    have hal := (Grew.refl w).alloc (.cells #[.int .i64 2, .int .i64 m, .string ts] 66)
    have r0 := Grew.refl (w.alloc (.cells #[.int .i64 2, .int .i64 m, .string ts] 66))
    have d0 := r0.drew
    have f3 : ∀ W, Grew (w.alloc (.cells #[.int .i64 2, .int .i64 m, .string ts] 66)) W → W.cell? ⟨b, o, none⟩ = some (.string tb) := fun W hW => (hf W (hal.trans hW)).1
    have f4 : ∀ W, Grew (w.alloc (.cells #[.int .i64 2, .int .i64 m, .string ts] 66)) W → W.cell? ⟨b, o + 1, none⟩ = some (.string td) := fun W hW => (hf W (hal.trans hW)).2
    clear hf
    go_enter Tryz.func108, Tryz.ntmps108
    go_wp2_with fail
    refine (KP.out _).mono ?_
    rintro e w1 ⟨v1, rfl, ⟨A1, n1, c1, rfl⟩, hg1⟩
    go_wp2_with fail
    go_quiet (fail)
    go_wp2_with fail
    go_ret2
    exact HE.out _ ((hal.trans hg1).drewN _)
end Go.Proofs.YthofkdpmgjkgkaaGreat

/- typeOf of the program: variables, nodes with one part, nodes with two parts. -/
namespace Go.Proofs.YthofkdpmgjkgkaaGreat
open Go.RowKit
open Tr (Tm)

/-- What typeOf gives at a term, whatever the values. -/
def TypV (t : Tm) (G : List Fm.Tree) : Prop := ∀ va v w, Strs w va (G.map tx) → Tms w v (Tr.enc t) → Calls Tryz.prog 61 #[va, v] w (GivesTy w (ty G t))

theorem sizeS_c (v : Value) (L : List ByteArray) (w : World) (h : Strs w v L) :
    Calls Tryz.prog 76 #[v] w fun e w' => e = .returned (.int .i64 L.length) ∧ Grew w w' := by
  obtain ⟨A, c, rfl⟩ := strs_slice h
  have hm := h.2.1
  clear h
  generalize L.length = n at *
  go_enter Tryz.func76, Tryz.ntmps76
  go_wp2_with fail
  go_ret
  exact ⟨rfl, Grew.refl _⟩

theorem typeOf_var (x : Tn) (hg : Good (.t0 x)) (G : List Fm.Tree) (va v : Value) (w : World) (hl : G.length ≤ 12) (hs : Strs w va (G.map tx)) (h : Tms w v (Tr.enc (.t0 x))) :
    Calls Tryz.prog 61 #[va, v] w (GivesTy w (ty G (.t0 x))) := by
  have hk : x.1 = 0 := (good_leaf hg).1 rfl
  have hn := tnB_num0 (Tr.hd_wf hg)
  have KS := Lib.hid (fun W (hW : Grew w W) => by
    have h1 := sizeS_c va (G.map tx) W (hs.grew hW)
    rw [List.length_map] at h1
    exact h1)
  obtain ⟨b, o, c, rfl, hc, hm, hb, hcl⟩ := tms_head h
  obtain ⟨⟨A, d, hva⟩, hat⟩ := strs_map hs
  have k0 := fun W (hW : Grew w W) => (hcl W hW).1
  have k1 := fun W (hW : Grew w W) => (hcl W hW).2.1
  change ∀ W, Grew w W → W.cell? ⟨b, o, none⟩ = some (.int .i64 x.1) at k0
  change ∀ W, Grew w W → W.cell? ⟨b, o + 1, none⟩ = some (.int .i64 x.2.1) at k1
  rw [hk] at k0
  have hR : ty G (.t0 x) = G[x.2.1.toNat]? := rfl
  rw [hR]
  have hr := Grew.refl w
  have hd := hr.drew
  have hx2 : (Tr.hd (.t0 x)).2.1 = x.2.1 := rfl
  rw [hx2] at hn
  have hl1 : (Tr.enc (.t0 x)).length = 1 := rfl
  rw [hl1]
  obtain ⟨m, hm2⟩ : ∃ m : Nat, x.2.1 = m := ⟨x.2.1.toNat, by omega⟩
  rw [hm2] at k1 hn ⊢
  rw [Int.toNat_natCast]
  clear hcl h hg hk hR hx2 hl1 hm2
  by_cases hlt : m < G.length
  · obtain ⟨gb, go, gc, hv, e1⟩ := hat m hlt
    subst hv
    have e2 : G[m]? = some G[m] := List.getElem?_eq_getElem hlt
    have HE := Lib.hid (fun w' (h : Grew w w') => (by rw [e2]; exact some_gives h : GivesTy w G[m]? (.returned (.tuple #[.string (otx G[m]?), .bool true])) w'))
    clear e2
    generalize otx G[m]? = R at *
    clear hat hs hva
    have hlt2 : (m : Int) < (G.length : Int) := by omega
    generalize G.length = gl at *
    go_enter Tryz.func61, Tryz.ntmps61
    go_wp2_with fail
    go_region_held3 (fun w' => Grew w w') (with_reducible assumption)
      (first | (go_at_call 76; refine (KS.out _ hd).mono ?_; rintro e w1 ⟨rfl, hg1⟩; have hk1 := hd.trans hg1))
    go_wp2_with fail
    go_ret2
    exact HE.out _ hk1
  · have hnone : G[m]? = none := List.getElem?_eq_none (by omega)
    rw [hnone]
    subst hva
    have HE := Lib.hid (fun w' (h : Grew w w') => none_gives (s := ByteArray.empty) h)
    clear hat hs hnone
    have hge : (G.length : Int) ≤ (m : Int) := by omega
    generalize G.length = gl at *
    go_enter Tryz.func61, Tryz.ntmps61
    go_wp2_with fail
    go_region_held3 (fun w' => Grew w w') (with_reducible assumption)
      (first | (go_at_call 76; refine (KS.out _ hd).mono ?_; rintro e w1 ⟨rfl, hg1⟩; have hk1 := hd.trans hg1))
    go_wp2_with fail
    go_ret2
    exact HE.out _ hk1
end Go.Proofs.YthofkdpmgjkgkaaGreat

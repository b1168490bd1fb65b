/- Texts in one file: LmR SrL TmMap TmPut TmCt TmCtA TmPutS TmCtS TmCtB TyO TyJ TyS TySP TySJ TySD TySA TySB TySC TySZ S12 Pw TyV TyW1. -/
import Derived.Deep.RegionHeld3
import Derived.Test.YtdndclfjeajhiaaGreatPa1
import Derived.Test.YtdndclfjeajhiaaGreatPa2
import Derived.Test.YtdndclfjeajhiaaGreatPa3
set_option linter.all false

/- Contraction keeps types; normal terms are one: over terms as they are given. No program is in sight. -/
namespace Go.Proofs.YtdndclfjeajhiaaGreat
open Go.RowKit
open Tr (Tm)

/-- How many binders stand one inside another. -/
def dp : Tm → Nat
  | .t0 _ => 0
  | .t1 x a => if x.1 = 1 then dp a + 1 else dp a
  | .t2 _ a b => max (dp a) (dp b)
  | .t3 _ a b c => max (dp a) (max (dp b + 1) (dp c + 1))
theorem tyLam_some {A : Fm.Tree} {b : Option Fm.Tree} {T : Fm.Tree} : tyLam A b = some T ↔ ∃ B, b = some B ∧ smallF (.imp A B) = some T := by unfold tyLam; rw [Option.bind_eq_some_iff]
theorem ty_l1 {G : List Fm.Tree} {x : Tn} {a : Tm} {T : Fm.Tree} (h1 : x.1 = 1) : ty G (.t1 x a) = some T ↔ G.length < 12 ∧ ∃ B, ty (G ++ [fo x.2.2]) a = some B ∧ smallF (.imp (fo x.2.2) B) = some T := by
  show (if x.1 = 1 then (if G.length < 12 then tyLam (fo x.2.2) (ty (G ++ [fo x.2.2]) a) else none) else _) = some T ↔ _
  rw [if_pos h1]
  by_cases hG : G.length < 12
  · rw [if_pos hG, tyLam_some]; exact ⟨fun h => ⟨hG, h⟩, fun h => h.2⟩
  · rw [if_neg hG]; exact ⟨fun h => by (cases h), fun h => absurd h.1 hG⟩
theorem ty_u1 {G : List Fm.Tree} {x : Tn} {a : Tm} {T : Fm.Tree} (h1 : ¬ x.1 = 1) : ty G (.t1 x a) = some T ↔ ∃ U, ty G a = some U ∧ ty1 x.1 (fo x.2.2) U = some T := by
  show (if x.1 = 1 then _ else (ty G a).bind (ty1 x.1 (fo x.2.2))) = some T ↔ _
  rw [if_neg h1, Option.bind_eq_some_iff]
theorem ty_t2 {G : List Fm.Tree} {x : Tn} {a b : Tm} {T : Fm.Tree} : ty G (.t2 x a b) = some T ↔ ∃ F U, ty G a = some F ∧ ty G b = some U ∧ ty2 x.1 F U = some T := by
  show (ty G a).bind _ = some T ↔ _
  simp only [Option.bind_eq_some_iff]
  exact ⟨fun ⟨F, h1, U, h2, h3⟩ => ⟨F, U, h1, h2, h3⟩, fun ⟨F, U, h1, h2, h3⟩ => ⟨F, h1, U, h2, h3⟩⟩
theorem ty_t3 {G : List Fm.Tree} {x : Tn} {a b d : Tm} {T : Fm.Tree} : ty G (.t3 x a b d) = some T ↔ ∃ p q, ty G a = some (.or p q) ∧ G.length < 12 ∧ ty (G ++ [p]) b = some T ∧ ty (G ++ [q]) d = some T := by
  show (ty G a).bind _ = some T ↔ _
  rw [Option.bind_eq_some_iff]
  constructor
  · rintro ⟨C, h1, h2⟩
    cases C with
    | or p q =>
      by_cases hG : G.length < 12
      · simp only [if_pos hG, Option.bind_eq_some_iff] at h2
        obtain ⟨R, h3, S, h4, h5⟩ := h2
        split at h5
        · rename_i he
          have he := @of_decide_eq_true _ (Classical.propDecidable _) he
          obtain rfl := Option.some.inj h5
          subst he
          exact ⟨p, q, h1, hG, h3, h4⟩
        · cases h5
      · simp only [if_neg hG] at h2; cases h2
    | var v => cases h2
    | fls => cases h2
    | and p q => cases h2
    | imp p q => cases h2
    | box p => cases h2
    | dia p => cases h2
  · rintro ⟨p, q, h1, hG, h2, h3⟩
    refine ⟨_, h1, ?_⟩
    simp only [if_pos hG, Option.bind_eq_some_iff]
    refine ⟨T, h2, T, h3, ?_⟩
    rw [if_pos (@decide_eq_true _ (Classical.propDecidable _) rfl)]
theorem kU_ku {k : Int} (h : k = 4 ∨ k = 5 ∨ k = 6 ∨ k = 7 ∨ k = 9) : kU (ku k) = k := by rcases h with rfl | rfl | rfl | rfl | rfl <;> rfl
theorem kP_kp {k : Int} (h : k = 2 ∨ k = 3) : kP (kp k) = k := by rcases h with rfl | rfl <;> rfl
theorem rev_at {G : List Fm.Tree} {n : Nat} (h : n < G.length) : G.reverse[G.length - 1 - n]? = G[n]? := by
  rw [List.getElem?_reverse (by omega)]
  congr 1
  omega
theorem rev_app (G : List Fm.Tree) (A : Fm.Tree) : (G ++ [A]).reverse = A :: G.reverse := by simp
theorem len_app (G : List Fm.Tree) (A : Fm.Tree) : (G ++ [A]).length = G.length + 1 := by simp
/-- A term with a type is read with as many variables as there are assumptions. -/
theorem ty_sc : ∀ (t : Tm) (G : List Fm.Tree) (T : Fm.Tree), Good t → ty G t = some T → Sc t G.length := by
  intro t
  induction t with
  | t0 x =>
    intro G T hg h
    have h : G[x.2.1.toNat]? = some T := h
    have h0 := ar_leaf hg.2 hg.1
    have hn : GoodN x := hg.2
    unfold GoodN tnB at hn
    rw [h0, if_pos (by rfl)] at hn
    simp only [Bool.and_eq_true, decide_eq_true_eq] at hn
    have := (List.getElem?_eq_some_iff.1 h).1
    exact ⟨h0, hn.1.1, by omega⟩
  | t1 x a ha =>
    intro G T hg h
    rcases ar_1 hg.1.1 with h1 | h1
    · obtain ⟨_, B, h2, _⟩ := (ty_l1 h1).1 h
      have := ha _ _ hg.2 h2
      rw [len_app] at this
      exact .inl ⟨h1, this⟩
    · obtain ⟨U, h2, _⟩ := (ty_u1 (by omega)).1 h
      exact .inr ⟨h1, ha _ _ hg.2 h2⟩
  | t2 x a b ha hb =>
    intro G T hg h
    obtain ⟨F, U, h1, h2, _⟩ := ty_t2.1 h
    exact ⟨ar_2 hg.1.1, ha _ _ hg.2.1 h1, hb _ _ hg.2.2 h2⟩
  | t3 x a b c ha hb hc =>
    intro G T hg h
    obtain ⟨p, q, h1, _, h2, h3⟩ := ty_t3.1 h
    have k1 := hb _ _ hg.2.2.1 h2
    have k2 := hc _ _ hg.2.2.2 h3
    rw [len_app] at k1 k2
    exact ⟨ar_3 hg.1.1, ha _ _ hg.2.1 h1, k1, k2⟩
theorem ty_tl : ∀ (t : Tm) (G : List Fm.Tree) (T : Fm.Tree), Sc t G.length → ty G t = some T → Lm.ty G.reverse (tl t G.length) = some T := by
  intro t
  induction t with
  | t0 x =>
    intro G T hs h
    obtain ⟨h1, h2, h3⟩ := hs
    have h : G[x.2.1.toNat]? = some T := h
    show G.reverse[G.length - 1 - x.2.1.toNat]? = some T
    rw [rev_at (by omega)]
    exact h
  | t1 x a ha =>
    intro G T hs h
    rcases hs with ⟨h1, h2⟩ | ⟨h1, h2⟩
    · obtain ⟨_, B, h3, h4⟩ := (ty_l1 h1).1 h
      show Lm.ty G.reverse (if x.1 = 1 then _ else _) = some T
      rw [if_pos h1]
      have := ha _ _ (by rw [len_app]; exact h2) h3
      rw [rev_app, len_app] at this
      exact Lm.ty_l.2 ⟨B, this, h4⟩
    · obtain ⟨U, h3, h4⟩ := (ty_u1 (by omega)).1 h
      show Lm.ty G.reverse (if x.1 = 1 then _ else _) = some T
      rw [if_neg (by omega)]
      exact Lm.ty_u.2 ⟨U, ha _ _ h2 h3, by rw [kU_ku h1]; exact h4⟩
  | t2 x a b ha hb =>
    intro G T hs h
    obtain ⟨h1, h2, h3⟩ := hs
    obtain ⟨F, U, h4, h5, h6⟩ := ty_t2.1 h
    exact Lm.ty_p.2 ⟨F, U, ha _ _ h2 h4, hb _ _ h3 h5, by rw [kP_kp h1]; exact h6⟩
  | t3 x a b c ha hb hc =>
    intro G T hs h
    obtain ⟨h1, h2, h3, h4⟩ := hs
    obtain ⟨p, q, h5, _, h6, h7⟩ := ty_t3.1 h
    have k1 := hb _ _ (by rw [len_app]; exact h3) h6
    have k2 := hc _ _ (by rw [len_app]; exact h4) h7
    rw [rev_app, len_app] at k1 k2
    exact Lm.ty_c.2 ⟨p, q, ha _ _ h2 h5, k1, k2⟩
theorem tl_ty : ∀ (t : Tm) (G : List Fm.Tree) (T : Fm.Tree), Sc t G.length → G.length + dp t ≤ 12 → Lm.ty G.reverse (tl t G.length) = some T → ty G t = some T := by
  intro t
  induction t with
  | t0 x =>
    intro G T hs hd h
    obtain ⟨h1, h2, h3⟩ := hs
    have h : G.reverse[G.length - 1 - x.2.1.toNat]? = some T := h
    rw [rev_at (by omega)] at h
    exact h
  | t1 x a ha =>
    intro G T hs hd h
    have hd : G.length + (if x.1 = 1 then dp a + 1 else dp a) ≤ 12 := hd
    rcases hs with ⟨h1, h2⟩ | ⟨h1, h2⟩
    · have h : Lm.ty G.reverse (if x.1 = 1 then _ else _) = some T := h
      rw [if_pos h1] at h hd
      obtain ⟨B, h3, h4⟩ := Lm.ty_l.1 h
      refine (ty_l1 h1).2 ⟨by omega, B, ha _ _ (by rw [len_app]; exact h2) (by rw [len_app]; omega) ?_, h4⟩
      rw [rev_app, len_app]
      exact h3
    · have h : Lm.ty G.reverse (if x.1 = 1 then _ else _) = some T := h
      rw [if_neg (by omega)] at h hd
      obtain ⟨U, h3, h4⟩ := Lm.ty_u.1 h
      rw [kU_ku h1] at h4
      exact (ty_u1 (by omega)).2 ⟨U, ha _ _ h2 hd h3, h4⟩
  | t2 x a b ha hb =>
    intro G T hs hd h
    have hd : G.length + max (dp a) (dp b) ≤ 12 := hd
    obtain ⟨h1, h2, h3⟩ := hs
    obtain ⟨F, U, h4, h5, h6⟩ := Lm.ty_p.1 h
    rw [kP_kp h1] at h6
    exact ty_t2.2 ⟨F, U, ha _ _ h2 (by omega) h4, hb _ _ h3 (by omega) h5, h6⟩
  | t3 x a b c ha hb hc =>
    intro G T hs hd h
    have hd : G.length + max (dp a) (max (dp b + 1) (dp c + 1)) ≤ 12 := hd
    obtain ⟨h1, h2, h3, h4⟩ := hs
    obtain ⟨p, q, h5, h6, h7⟩ := Lm.ty_c.1 h
    refine ty_t3.2 ⟨p, q, ha _ _ h2 (by omega) h5, by omega, hb _ _ (by rw [len_app]; exact h3) (by rw [len_app]; omega) ?_, hc _ _ (by rw [len_app]; exact h4) (by rw [len_app]; omega) ?_⟩
    · rw [rev_app, len_app]; exact h6
    · rw [rev_app, len_app]; exact h7
/-- A term that steps lead to: it has the type, or its lists get too long and it has none. -/
theorem ty_kept {t u : Tm} {G : List Fm.Tree} {T : Fm.Tree} (hg : Good t) (h : ty G t = some T) (hp : Lm.Ps (tl t G.length) (tl u G.length)) (hs : Sc u G.length) : (∀ U, ty G u = some U → U = T) ∧ (G.length + dp u ≤ 12 → ty G u = some T) := by
  have h1 := Lm.ty_ps hp (ty_tl t G T (ty_sc t G T hg h) h)
  refine ⟨fun U hU => ?_, fun hd => tl_ty u G T hs hd h1⟩
  have h2 := ty_tl u G U hs hU
  rw [h1] at h2
  exact (Option.some.inj h2).symm
theorem redL_none {xs : List Tn} : ∀ {j : Nat}, redL xs j = [] → ∀ i, i < j → rdxAt xs i = false := by
  intro j
  induction j with
  | zero => intro _ i hi; omega
  | succ j ih =>
    intro h i hi
    rw [redL] at h
    split at h
    · exact absurd h (by simp)
    · rename_i hr
      by_cases he : i = j
      · subst he; simpa using hr
      · exact ih h i (by omega)
theorem rdx_out {xs : List Tn} {i : Nat} (h : xs.length ≤ i) : rdxAt xs i = false := by unfold rdxAt; rw [decide_eq_false (by omega)]; rfl
theorem redL_nf {t : Tm} (h : redL (Tr.enc t) (Tr.enc t).length = []) : ∀ i, rdxAt (Tr.enc t) i = false := fun i => by
  by_cases hi : i < (Tr.enc t).length
  · exact redL_none h i hi
  · exact rdx_out (by omega)
/-- What the way to the normal term ends at. -/
theorem nrm_end (n : Nat) : ∀ (k : Nat) (t : Tm), Good t → Sc t n → (nrm k t n).2.2 = 0 → ∃ v, Good v ∧ Sc v n ∧ Tr.enc v = (nrm k t n).1 ∧ Lm.Ps (tl t n) (tl v n) ∧ redL (Tr.enc v) (Tr.enc v).length = [] := by
  intro k
  induction k with
  | zero =>
    intro t hg hs h0
    cases h : redL (Tr.enc t) (Tr.enc t).length with
    | nil => rw [nrm_done h]; exact ⟨t, hg, hs, rfl, .refl _, h⟩
    | cons i L => rw [nrm_stop h] at h0; cases h0
  | succ k ih =>
    intro t hg hs h0
    cases h : redL (Tr.enc t) (Tr.enc t).length with
    | nil => rw [nrm_done h]; exact ⟨t, hg, hs, rfl, .refl _, h⟩
    | cons i L =>
      by_cases hb : (limT (ctAt t n i.toNat)).2 = 0
      · rw [nrm_step h hb] at h0 ⊢
        obtain ⟨j, rfl, hj, hr⟩ := redL_mem (xs := Tr.enc t) (j := (Tr.enc t).length) (x := i) (by rw [h]; simp)
        rw [Int.toNat_natCast] at hb h0 ⊢
        obtain ⟨g1, g2, g3, _⟩ := ct_good (n := (n : Int)) (by omega) hg hr hb
        obtain ⟨k1, k2⟩ := ct_tl t n j _ rfl hg hs hr
        obtain ⟨v, a1, a2, a3, a4, a5⟩ := ih _ g1 k1 h0
        exact ⟨v, a1, a2, a3, .step k2 a4, a5⟩
      · rw [nrm_big h hb] at h0; cases h0
/-- A term and what it is contracted to have the same normal term. -/
theorem nrm_same {n : Nat} {t u : Tm} {j k : Nat} (hg : Good t) (hs : Sc t n) (gu : Good u) (su : Sc u n) (hp : Lm.Ps (tl t n) (tl u n)) (h1 : (nrm j t n).2.2 = 0) (h2 : (nrm k u n).2.2 = 0) : (nrm j t n).1 = (nrm k u n).1 := by
  obtain ⟨v, a1, a2, a3, a4, a5⟩ := nrm_end n j t hg hs h1
  obtain ⟨z, b1, b2, b3, b4, b5⟩ := nrm_end n k u gu su h2
  have e := Lm.nf_one a4 (hp.trans b4) (nf_tl v n a2 (redL_nf a5)) (nf_tl z n b2 (redL_nf b5))
  rw [← a3, ← b3, tl_inj v z n a1 b1 a2 b2 e]
end Go.Proofs.YtdndclfjeajhiaaGreat

/- The laws' helpers of FnSubjectReduction: likeTerm5, likeInts, deep26, room26. -/
namespace Go.Proofs.YtdndclfjeajhiaaGreat
open Go.RowKit
open Tr (Tm)

theorem likeTerm5_c (v1 v2 : Value) (xs ys : List Tn) (w : World) (h1 : Tms w v1 xs) (h2 : Tms w v2 ys) (hn : xs.length ≤ 1099511627776) :
    Calls Tryz.prog 10 #[v1, v2] w fun e w' => e = .returned (.bool (decide (xs = ys))) ∧ Grew w w' := by
  by_cases hl : xs.length = ys.length
  · rcases h1.open_ with ⟨rfl, rfl⟩ | ⟨b1, o1, c1, rfl, hc1, hm1, hb1, hf⟩
    · obtain rfl : ys = [] := List.eq_nil_of_length_eq_zero (by simpa using hl.symm)
      obtain ⟨A, c, rfl⟩ := tms_slice h2
      simp only [List.length_nil]
      clear hl
      go_enter Tryz.func10, Tryz.ntmps10
      go_wp2_with fail
      refine wp_loop_rounds 1 ?_; rw [rounds_succ]
      go_wp2_with fail
      go_ret
      exact ⟨by simp, Grew.refl _⟩
    · rcases h2.open_ with ⟨rfl, rfl⟩ | ⟨b2, o2, c2, rfl, hc2, hm2, hb2, hh⟩
      · obtain rfl : xs = [] := List.eq_nil_of_length_eq_zero (by simpa using hl)
        simp only [List.length_nil]
        clear hl
        go_enter Tryz.func10, Tryz.ntmps10
        go_wp2_with fail
        refine wp_loop_rounds 1 ?_; rw [rounds_succ]
        go_wp2_with fail
        go_ret
        exact ⟨by simp, Grew.refl _⟩
      · clear h1 h2
        have HE := Lib.hid (fun h => agreeT_all hl h)
        rw [← hl] at hc2 hh ⊢
        have HF := Lib.hid hf
        have HH := Lib.hid hh
        have HX := Lib.hid (fun (h : xs = ys) (i : Nat) => (⟨by rw [h], by rw [h], by rw [h]⟩ : tk xs i = tk ys i ∧ tn xs i = tn ys i ∧ tt xs i = tt ys i))
        obtain ⟨D, hD⟩ : ∃ D, D = decide (xs = ys) := ⟨_, rfl⟩
        rw [← hD]
        have HD := Lib.hid hD
        clear hl hf hh hD
        generalize hN : xs.length = n at *
        clear hN
        go_enter Tryz.func10, Tryz.ntmps10
        go_wp2_with fail
        go_loopg [5] n (fun k i wr => ∃ j : Nat, j ≤ n ∧ k = n - j ∧ i = .int .i64 j ∧ Grew w wr ∧ Hid (AgreeT xs ys j))
        case atStart => exact ⟨0, Nat.zero_le _, by omega, rfl, Grew.refl _, AgreeT.zero _ _⟩
        case round =>
          obtain ⟨j, hj, rfl, rfl, hB, HA⟩ := hrel
          by_cases hlt : j < n
          · have k1 : ∀ W, Grew w W → W.cell? ⟨b1, o1 + j * 3, none⟩ = some (.int .i64 (tk xs j)) := fun W hW => (HF.out j hlt W hW).1
            have k2 : ∀ W, Grew w W → W.cell? ⟨b1, o1 + j * 3 + 1, none⟩ = some (.int .i64 (tn xs j)) := fun W hW => (HF.out j hlt W hW).2.1
            have k5 : ∀ W, Grew w W → W.cell? ⟨b1, o1 + j * 3 + 2, none⟩ = some (.string (tt xs j)) := fun W hW => (HF.out j hlt W hW).2.2
            have k3 : ∀ W, Grew w W → W.cell? ⟨b2, o2 + j * 3, none⟩ = some (.int .i64 (tk ys j)) := fun W hW => (HH.out j hlt W hW).1
            have k4 : ∀ W, Grew w W → W.cell? ⟨b2, o2 + j * 3 + 1, none⟩ = some (.int .i64 (tn ys j)) := fun W hW => (HH.out j hlt W hW).2.1
            have k6 : ∀ W, Grew w W → W.cell? ⟨b2, o2 + j * 3 + 2, none⟩ = some (.string (tt ys j)) := fun W hW => (HH.out j hlt W hW).2.2
            have hgd := tnGuard
            by_cases he : tk xs j = tk ys j ∧ tn xs j = tn ys j ∧ tt xs j = tt ys j
            · have hq : ∀ W, (binOp .neq 50 (.agg #[.int .i64 (tk xs j), .int .i64 (tn xs j), .string (tt xs j)]) (.agg #[.int .i64 (tk ys j), .int .i64 (tn ys j), .string (tt ys j)])).run Tryz.prog W = .ok (.bool false) W := fun W => by
                rw [tnNeq, he.1, he.2.1, he.2.2]; simp
              have HB := Lib.hid (HA.out.succ he.1 he.2.1 he.2.2)
              clear he HA
              go_wp2_with fail
              go_quiet (fail)
              go_wp2_with fail
              go_roundg (n - (j + 1))
              case measure => omega
              case rel => exact ⟨j + 1, by omega, rfl, by go_num, hB.drewN _, HB⟩
            · have hq : ∀ W, (binOp .neq 50 (.agg #[.int .i64 (tk xs j), .int .i64 (tn xs j), .string (tt xs j)]) (.agg #[.int .i64 (tk ys j), .int .i64 (tn ys j), .string (tt ys j)])).run Tryz.prog W = .ok (.bool true) W := fun W => by
                have hz : (tk xs j == tk ys j && (tn xs j == tn ys j && (tt xs j).toList == (tt ys j).toList)) = false := by
                  cases hz : (tk xs j == tk ys j && (tn xs j == tn ys j && (tt xs j).toList == (tt ys j).toList)) with
                  | false => rfl
                  | true =>
                    simp only [Bool.and_eq_true, beq_iff_eq] at hz
                    exact absurd ⟨hz.1, hz.2.1, (Lib.bytes_beq_iff _ _).1 (by simpa using hz.2.2)⟩ he
                rw [tnNeq, hz]
                simp
              have hv : Hid (D = false) := Lib.hid (by rw [HD.out]; exact decide_eq_false fun h => he (HX.out h j))
              clear he HA
              go_wp2_with fail
              go_quiet (fail)
              go_wp2_with fail
              go_ret
              rw [hv.out]
              exact ⟨rfl, hB.drewN _⟩
          · have hjn : j = n := by omega
            subst hjn
            have hv : Hid (D = true) := Lib.hid (by rw [HD.out]; exact decide_eq_true (HE.out HA.out))
            go_wp2_with fail
            go_ret
            rw [hv.out]
            exact ⟨rfl, hB⟩
  · have hne : xs ≠ ys := fun h => hl (by rw [h])
    rw [decide_eq_false hne]
    obtain ⟨A, c, rfl⟩ := tms_slice h1
    obtain ⟨B, d, rfl⟩ := tms_slice h2
    have hl' : (((xs.length : Nat) : Int) != ((ys.length : Nat) : Int)) = true := by simp; omega
    clear hl h1 h2 hne
    go_enter Tryz.func10, Tryz.ntmps10
    go_wp2_with fail
    go_ret
    exact ⟨rfl, Grew.refl _⟩




theorem likeInts_yes (v1 v2 : Value) (L : List Int) (w : World) (h1 : Ints w v1 L) (h2 : Ints w v2 L) (hn : L.length ≤ 1099511627776) :
    Calls Tryz.prog 16 #[v1, v2] w fun e w' => e = .returned (.bool true) ∧ Grew w w' := by
  rcases h1.open_ with ⟨rfl, rfl⟩ | ⟨b1, o1, c1, rfl, hc1, hm1, hb1, hf⟩
  · obtain ⟨A, c, rfl⟩ := ints_slice h2
    simp only [List.length_nil]
    go_enter Tryz.func16, Tryz.ntmps16
    go_wp2_with fail
    refine wp_loop_rounds 1 ?_; rw [rounds_succ]
    go_wp2_with fail
    go_ret
    exact ⟨rfl, Grew.refl _⟩
  rcases h2.open_ with ⟨rfl, rfl⟩ | ⟨b2, o2, c2, rfl, hc2, hm2, hb2, hh⟩
  · simp only [List.length_nil]
    go_enter Tryz.func16, Tryz.ntmps16
    go_wp2_with fail
    refine wp_loop_rounds 1 ?_; rw [rounds_succ]
    go_wp2_with fail
    go_ret
    exact ⟨rfl, Grew.refl _⟩
  clear h1 h2
  have HF := Lib.hid hf
  have HH := Lib.hid hh
  clear hf hh
  generalize hN : L.length = n at *
  clear hN
  go_enter Tryz.func16, Tryz.ntmps16
  go_wp2_with fail
  go_loopg [5] n (fun k i wr => ∃ j : Nat, j ≤ n ∧ k = n - j ∧ i = .int .i64 j ∧ Grew w wr)
  case atStart => exact ⟨0, Nat.zero_le _, by omega, rfl, Grew.refl _⟩
  case round =>
    obtain ⟨j, hj, rfl, rfl, hB⟩ := hrel
    by_cases hlt : j < n
    · have k1 : ∀ W, Grew w W → W.cell? ⟨b1, o1 + j, none⟩ = some (.int .i64 (it L j)) := fun W hW => HF.out j hlt W hW
      have k3 : ∀ W, Grew w W → W.cell? ⟨b2, o2 + j, none⟩ = some (.int .i64 (it L j)) := fun W hW => HH.out j hlt W hW
      generalize it L j = z at *
      have hz : (z != z) = false := by simp
      go_wp2_with fail
      go_quiet (fail)
      go_wp2_with fail
      go_roundg (n - (j + 1))
      case measure => omega
      case rel => exact ⟨j + 1, by omega, rfl, by go_num, hB.drewN _⟩
    · go_wp2_with fail
      go_ret
      exact ⟨rfl, hB⟩

/-- What deep26 answers at a term's place. -/
def Deeps (w : World) (h at_ : Int) (e : Ending) (w' : World) : Prop := e = .returned (.tuple #[.int .i64 h, .int .i64 at_]) ∧ Grew w w'
theorem drop_tk {xs : List Tn} {i : Nat} {t : Tm} {r : List Tn} (h : xs.drop i = Tr.enc t ++ r) : i < xs.length ∧ tk xs i = (Tr.hd t).1 := by
  obtain ⟨q, hq⟩ := Tr.enc_hd t
  rw [hq] at h
  have hi : i < xs.length := by
    rcases Nat.lt_or_ge i xs.length with hi | hi
    · exact hi
    · rw [List.drop_eq_nil_of_le hi] at h; cases h
  have h0 : (xs.drop i)[0]? = some (Tr.hd t) := by rw [h]; rfl
  rw [List.getElem?_drop, Nat.add_zero, List.getElem?_eq_getElem hi, tk_lt hi] at h0
  exact ⟨hi, congrArg Prod.fst (Option.some.inj h0)⟩
theorem drop_more {xs : List Tn} {i : Nat} {a r : List Tn} (h : xs.drop i = a ++ r) : xs.drop (i + a.length) = r := by
  rw [← List.drop_drop, h, List.drop_left']
  rfl
theorem good_hd {t : Tm} (h : Good t) : 0 ≤ (Tr.hd t).1 ∧ (Tr.hd t).1 ≤ 9 := good_kind h
theorem dp_le : ∀ t : Tm, dp t ≤ (Tr.enc t).length := by
  intro t
  induction t with
  | t0 x => show 0 ≤ _; omega
  | t1 x a ha => simp only [dp, Tr.enc, List.length_cons]; split <;> omega
  | t2 x a b ha hb => simp only [dp, Tr.enc, List.length_cons, List.length_append]; omega
  | t3 x a b c ha hb hc => simp only [dp, Tr.enc, List.length_cons, List.length_append]; omega


set_option maxHeartbeats 2000000 in
theorem deep26_c (v : Value) (xs : List Tn) (hn : xs.length ≤ 1048576) : ∀ (t : Tm) (i : Nat) (r : List Tn) (w : World), Tms w v xs → Good t → xs.drop i = Tr.enc t ++ r →
    Calls Tryz.prog 33 #[v, .int .i64 i] w (Deeps w (dp t) ((i : Int) + (Tr.enc t).length)) := by
  intro t
  induction t with
  | t0 x =>
    intro i r w h hg hd
    obtain ⟨hi, hk⟩ := drop_tk hd
    have hk0 : x.1 = 0 := by
      have h1 := good_hd hg
      have h2 : Tr.ar x.1 = 0 := hg.1
      simp only [Tr.hd] at h1
      unfold Tr.ar at h2
      split at h2
      · omega
      · split at h2
        · omega
        · split at h2 <;> omega
    rcases h.open_ with ⟨rfl, rfl⟩ | ⟨bk, of, cp, rfl, hc, hm, hb, hf⟩
    · simp at hi
    have k1 := (hf i hi w (Grew.refl w)).1
    rw [hk] at k1
    simp only [Tr.hd] at k1
    rw [hk0] at k1
    clear hf h hk hd
    generalize xs.length = n at *
    go_enter Tryz.func33, Tryz.ntmps33
    go_wp2_with fail
    refine wp_loop_rounds 1 ?_; rw [rounds_succ]
    go_wp2_with fail
    go_ret2
    exact ⟨by simp [dp, Tr.enc], Grew.refl _⟩
  | t1 x a iha =>
    intro i r w h hg hd
    obtain ⟨hi, hk⟩ := drop_tk hd
    have hrange : x.1 = 1 ∨ x.1 = 4 ∨ x.1 = 5 ∨ x.1 = 6 ∨ x.1 = 7 ∨ x.1 = 9 := by
      have h2 : Tr.ar x.1 = 1 := hg.1.1
      unfold Tr.ar at h2
      split at h2
      · assumption
      · split at h2
        · omega
        · split at h2 <;> omega
    have hd1 : xs.drop (i + 1) = Tr.enc a ++ r := by
      have := drop_more (a := [x]) (r := Tr.enc a ++ r) hd
      exact this
    have KA := Lib.hid (fun W (hW : Grew w W) => iha (i + 1) r W (h.grew hW) hg.2 hd1)
    have hdp := dp_le a
    have hlen : i + 1 + (Tr.enc a).length ≤ xs.length := by
      have := congrArg List.length hd1
      simp only [List.length_drop, List.length_append] at this
      have := Tr.enc_pos a
      omega
    have hres : dp (.t1 x a) = if x.1 = 1 then dp a + 1 else dp a := rfl
    have hle : (Tr.enc (.t1 x a)).length = 1 + (Tr.enc a).length := by simp [Tr.enc]; omega
    rw [hres, hle]
    unfold Deeps at KA
    rcases h.open_ with ⟨rfl, rfl⟩ | ⟨bk, of, cp, rfl, hc, hm, hb, hf⟩
    · simp at hi
    have k1 := (hf i hi w (Grew.refl w)).1
    rw [hk] at k1
    simp only [Tr.hd] at k1
    clear hf h hk hd hd1 iha hres hle hg
    generalize xs.length = n at *
    generalize dp a = da at *
    generalize (Tr.enc a).length = la at *
    have r0 := Grew.refl w
    rcases hrange with hx | hx | hx | hx | hx | hx
    all_goals
      rw [hx] at k1 ⊢
      clear hx
      go_enter Tryz.func33, Tryz.ntmps33
      go_wp2_with fail
      refine wp_loop_rounds 2 ?_; rw [rounds_succ]
      go_wp2_with fail
      refine (KA.out _ r0).mono ?_
      rintro e w1 ⟨rfl, hg1⟩
      go_wp2_with fail
      all_goals
        rw [rounds_succ]
        go_wp2_with fail
        go_ret2
        refine ⟨?_, hg1⟩
        simp
        omega
  | t2 x a b iha ihb =>
    intro i r w h hg hd
    obtain ⟨hi, hk⟩ := drop_tk hd
    have hrange : x.1 = 2 ∨ x.1 = 3 := by
      have h2 : Tr.ar x.1 = 2 := hg.1.1
      unfold Tr.ar at h2
      split at h2
      · omega
      · split at h2
        · assumption
        · split at h2 <;> omega
    have hd1 : xs.drop (i + 1) = Tr.enc a ++ (Tr.enc b ++ r) := by
      have := drop_more (a := [x]) (r := Tr.enc a ++ (Tr.enc b ++ r)) (by rw [hd]; simp [Tr.enc])
      exact this
    have hd2 := drop_more hd1
    have KA := Lib.hid (fun W (hW : Grew w W) => iha (i + 1) _ W (h.grew hW) hg.2.1 hd1)
    have KB := Lib.hid (fun W (hW : Grew w W) => ihb (i + 1 + (Tr.enc a).length) _ W (h.grew hW) hg.2.2 hd2)
    have hdp := dp_le a
    have hdp2 := dp_le b
    have hlen : i + 1 + (Tr.enc a).length + (Tr.enc b).length ≤ xs.length := by
      have := congrArg List.length hd2
      simp only [List.length_drop, List.length_append] at this
      have := Tr.enc_pos b
      omega
    have hres : dp (.t2 x a b) = max (dp a) (dp b) := rfl
    have hle : (Tr.enc (.t2 x a b)).length = 1 + (Tr.enc a).length + (Tr.enc b).length := by simp [Tr.enc]; omega
    rw [hres, hle]
    unfold Deeps at KA KB
    rcases h.open_ with ⟨rfl, rfl⟩ | ⟨bk, of, cp, rfl, hc, hm, hb, hf⟩
    · simp at hi
    have k1 := (hf i hi w (Grew.refl w)).1
    rw [hk] at k1
    simp only [Tr.hd] at k1
    clear hf h hk hd hd1 hd2 iha ihb hres hle hg
    generalize xs.length = n at *
    generalize dp a = da at *
    generalize dp b = db at *
    generalize (Tr.enc a).length = la at *
    generalize (Tr.enc b).length = lb at *
    have r0 := Grew.refl w
    simp only [Int.natCast_add, Int.cast_ofNat_Int] at KA KB
    rcases hrange with hx | hx
    all_goals
      rw [hx] at k1
      clear hx
      go_enter Tryz.func33, Tryz.ntmps33
      go_wp2_with fail
      refine wp_loop_rounds 3 ?_; rw [rounds_succ]
      go_wp2_with fail
      refine (KA.out _ r0).mono ?_
      rintro e w1 ⟨rfl, hg1⟩
      go_wp2_with fail
      all_goals
        rw [rounds_succ]
        go_wp2_with fail
        refine (KB.out _ hg1).mono ?_
        rintro e w2 ⟨rfl, hg2⟩
        go_wp2_with fail
        all_goals
          rw [rounds_succ]
          go_wp2_with fail
          go_ret2
          refine ⟨?_, hg1.trans hg2⟩
          simp
          omega
  | t3 x a b c iha ihb ihc =>
    intro i r w h hg hd
    obtain ⟨hi, hk⟩ := drop_tk hd
    have hx : x.1 = 8 := by
      have h2 : Tr.ar x.1 = 3 := hg.1.1
      unfold Tr.ar at h2
      split at h2
      · omega
      · split at h2
        · omega
        · split at h2
          · assumption
          · omega
    have hd1 : xs.drop (i + 1) = Tr.enc a ++ (Tr.enc b ++ (Tr.enc c ++ r)) := by
      have := drop_more (a := [x]) (r := Tr.enc a ++ (Tr.enc b ++ (Tr.enc c ++ r))) (by rw [hd]; simp [Tr.enc])
      exact this
    have hd2 := drop_more hd1
    have hd3 := drop_more hd2
    have KA := Lib.hid (fun W (hW : Grew w W) => iha (i + 1) _ W (h.grew hW) hg.2.1 hd1)
    have KB := Lib.hid (fun W (hW : Grew w W) => ihb (i + 1 + (Tr.enc a).length) _ W (h.grew hW) hg.2.2.1 hd2)
    have KC := Lib.hid (fun W (hW : Grew w W) => ihc (i + 1 + (Tr.enc a).length + (Tr.enc b).length) _ W (h.grew hW) hg.2.2.2 hd3)
    have hdp := dp_le a
    have hdp2 := dp_le b
    have hdp3 := dp_le c
    have hlen : i + 1 + (Tr.enc a).length + (Tr.enc b).length + (Tr.enc c).length ≤ xs.length := by
      have := congrArg List.length hd3
      simp only [List.length_drop, List.length_append] at this
      have := Tr.enc_pos c
      omega
    have hres : dp (.t3 x a b c) = max (dp a) (max (dp b + 1) (dp c + 1)) := rfl
    have hle : (Tr.enc (.t3 x a b c)).length = 1 + (Tr.enc a).length + (Tr.enc b).length + (Tr.enc c).length := by simp [Tr.enc]; omega
    rw [hres, hle]
    unfold Deeps at KA KB KC
    rcases h.open_ with ⟨rfl, rfl⟩ | ⟨bk, of, cp, rfl, hc, hm, hb, hf⟩
    · simp at hi
    have k1 := (hf i hi w (Grew.refl w)).1
    rw [hk] at k1
    simp only [Tr.hd] at k1
    clear hf h hk hd hd1 hd2 hd3 iha ihb ihc hres hle hg
    generalize xs.length = n at *
    generalize dp a = da at *
    generalize dp b = db at *
    generalize dp c = dc at *
    generalize (Tr.enc a).length = la at *
    generalize (Tr.enc b).length = lb at *
    generalize (Tr.enc c).length = lc at *
    have r0 := Grew.refl w
    simp only [Int.natCast_add, Int.cast_ofNat_Int] at KA KB KC
    rw [hx] at k1
    clear hx
    go_enter Tryz.func33, Tryz.ntmps33
    go_wp2_with fail
    refine wp_loop_rounds 4 ?_; rw [rounds_succ]
    go_wp2_with fail
    refine (KA.out _ r0).mono ?_
    rintro e w1 ⟨rfl, hg1⟩
    go_wp2_with fail
    all_goals
      rw [rounds_succ]
      go_wp2_with fail
      refine (KB.out _ hg1).mono ?_
      rintro e w2 ⟨rfl, hg2⟩
      go_wp2_with fail
      all_goals
        rw [rounds_succ]
        go_wp2_with fail
        refine (KC.out _ (hg1.trans hg2)).mono ?_
        rintro e w3 ⟨rfl, hg3⟩
        go_wp2_with fail
        all_goals
          rw [rounds_succ]
          go_wp2_with fail
          go_ret2
          refine ⟨?_, (hg1.trans hg2).trans hg3⟩
          simp
          omega
theorem room26_c (v : Value) (xs : List Tn) (m : Nat) (hm : m ≤ 1048576) (hn : tmB xs = true) (w : World) (h : Tms w v xs) :
    Calls Tryz.prog 15 #[v, .int .i64 m] w fun e w' => e = .returned (.bool (decide (m + dp (tmT xs) ≤ 12))) ∧ Grew w w' := by
  obtain ⟨t1, t2, t3⟩ := tmT_ok hn
  have hd : xs.drop 0 = Tr.enc (tmT xs) ++ [] := by rw [t2]; simp
  have KD := Lib.hid (fun W (hW : Grew w W) => deep26_c v xs (by omega) (tmT xs) 0 [] W (h.grew hW) t1 hd)
  have hdp := dp_le (tmT xs)
  unfold Deeps at KD
  have e1 : decide (m + dp (tmT xs) ≤ 12) = decide ((m : Int) + (dp (tmT xs) : Int) ≤ 12) := decide_eq_decide.2 (by omega)
  rw [e1]
  rw [t2] at hdp
  clear t1 t2 hd e1
  generalize dp (tmT xs) = da at *
  generalize (Tr.enc (tmT xs)).length = la at *
  obtain ⟨A, c, rfl⟩ := tms_slice h
  clear h hn
  generalize xs.length = n at *
  have r0 := Grew.refl w
  go_enter Tryz.func15, Tryz.ntmps15
  go_wp2_with fail
  refine (KD.out _ r0).mono ?_
  rintro e w1 ⟨rfl, hg1⟩
  go_wp2_with fail
  go_ret
  exact ⟨rfl, hg1⟩
end Go.Proofs.YtdndclfjeajhiaaGreat

/- mapNumbers and putTerm of the program. -/
namespace Go.Proofs.YtdndclfjeajhiaaGreat
open Go.RowKit
open Tr (Tm)

theorem OwnT.one (w : World) (B : Nat) (x : Tn) (hB : B ≤ w.heap.size) : OwnT (w.alloc (.cells #[.int .i64 x.1, .int .i64 x.2.1, .string x.2.2] 50)) B (.slice (some ⟨w.heap.size, 0, none⟩) 1 1) [x] :=
  OwnT.lit w B [x] _ hB (by simp) rfl

/-- What the function value gives at a variable and what it is read with, in every world from w0 on. -/
def MapOk (f : Nat) (caps : Array Value) (w0 : World) (lo hi : Int) (F : Tn → Int → List Tn) : Prop := ∀ (x : Tn) n W, Grew w0 W → GoodN x → lo ≤ n → n ≤ hi → Calls Tryz.prog f (#[.agg #[.int .i64 x.1, .int .i64 x.2.1, .string x.2.2], .int .i64 n] ++ caps) W (GivesT W (F x n))

theorem mapNumbers_c (f : Nat) (caps : Array Value) (w0 : World) (lo hi : Int) (F : Tn → Int → List Tn) (M : Nat) (hM : 1 ≤ M) (hM2 : M ≤ 1000) (hFl : ∀ x n, (F x n).length ≤ M) (hf : MapOk f caps w0 lo hi F) (h0 : 0 ≤ lo) (h1 : hi ≤ 1000000)
    (eg : ∀ args w, (callFunc f args).run Tryz.prog w = .ok (.enter f args) w) :
    ∀ t : Tm, Good t → ∀ (v : Value) (n : Int) (w : World), Grew w0 w → Tms w v (Tr.enc t) → (Tr.enc t).length ≤ 1000 → lo ≤ n → n + (Tr.enc t).length ≤ hi →
    Calls Tryz.prog 113 #[v, .int .i64 n, .func (.func f) #[] caps] w (GivesT w (Tr.mapN F t n)) := by
  intro t
  refine Tr.ind (P := fun t => Good t → ∀ (v : Value) (n : Int) (w : World), Grew w0 w → Tms w v (Tr.enc t) → (Tr.enc t).length ≤ 1000 → lo ≤ n → n + (Tr.enc t).length ≤ hi →
    Calls Tryz.prog 113 #[v, .int .i64 n, .func (.func f) #[] caps] w (GivesT w (Tr.mapN F t n))) ?_ t
  intro t ih hg v n w hw0 h hlen hn0 hn1
  obtain ⟨b, o, c, rfl, hc, hm, hb, hcl⟩ := tms_head h
  have hpos := Tr.enc_pos t
  obtain ⟨k1, k2, k3⟩ := hcl _ (Grew.refl w)
  by_cases hleaf : Tr.kids t = []
  · have hk := (good_leaf hg).1 hleaf
    rw [Tr.mapN_leaf hleaf]
    have HF := Lib.hid (hf (Tr.hd t) n w hw0 (Tr.hd_wf hg) hn0 (by omega))
    rw [hk] at k1 HF
    clear hcl ih hg h hf hk hleaf hFl
    generalize F (Tr.hd t) n = R at *
    generalize (Tr.hd t).2.1 = a at *
    generalize (Tr.hd t).2.2 = z at *
    generalize (Tr.enc t).length = nn at *
    go_enter Tryz.func113, Tryz.ntmps113
    go_wp2_with fail
    go_at_fn f
    refine HF.out.mono ?_
    rintro e w1 ⟨u, rfl, ho, hg1⟩
    go_wp2_with fail
    go_ret
    exact ⟨_, rfl, ho, hg1⟩
  · have hk : ((Tr.hd t).1 == 0) = false := by
      have := mt (good_leaf hg).2 hleaf
      simpa using this
    have hm1 : 0 < (Tr.kids t).length := List.length_pos_iff.2 hleaf
    have hkl := Tr.kids_len hg
    have har := Tr.ar_le (Tr.hd t).1
    rw [Tr.mapN_kids hleaf]
    have HI := Lib.hid (fun W (hW : Grew w W) => inner_o _ t w W h hW hg (by omega))
    have HK := Lib.hid (fun W (hW : Grew w W) => (hcl W hW).1)
    have HLN := Lib.hid (fun j hj => Nat.le_trans (Tr.mapL_len hM hFl (t := t) (n := n) j hj) (Nat.mul_le_mul (show Tr.off t j ≤ 1000 from by
      rcases Nat.lt_or_ge j (Tr.kids t).length with hh | hh
      · have := Tr.off_end hh; omega
      · have e : Tr.off t j = Tr.off t (Tr.kids t).length := by unfold Tr.off; rw [List.take_of_length_le hh, List.take_length]
        rw [e]
        have := Tr.off_end (t := t) (i := (Tr.kids t).length - 1) (by omega)
        have e2 := Tr.off_next (t := t) (i := (Tr.kids t).length - 1) (by omega)
        rw [show (Tr.kids t).length - 1 + 1 = (Tr.kids t).length by omega] at e2
        omega) hM2))
    have HLN2 := Lib.hid (fun j d (hj : j < (Tr.kids t).length) => Nat.le_trans (Tr.mapN_len hM hFl (Tr.kid t j) (n + d)) (Nat.mul_le_mul (show (Tr.enc (Tr.kid t j)).length ≤ 1000 from by have := Tr.kid_small hj; omega) hM2))
    have HIH := Lib.hid (fun i (hi : i < (Tr.kids t).length) u d W (hW : Grew w W) (hd0 : 0 ≤ d) (hd1 : d ≤ 1) hu => ih _ (Tr.kid_mem hi) (Tr.kids_wf hg _ (Tr.kid_mem hi)) u (n + d) W (hw0.trans hW) hu (by have := Tr.kid_small hi; omega) (by omega) (by have := Tr.kid_small hi; omega))
    have HBD := Lib.hid (fun i (hi : i < (Tr.kids t).length) w => bindsIn_c (Tr.hd t).1 i w (by omega))
    have HB2 := Lib.hid (fun i => (by unfold Tr.bd; split <;> omega : 0 ≤ Tr.bd (Tr.hd t).1 i ∧ Tr.bd (Tr.hd t).1 i ≤ 1))
    obtain ⟨ML, hML⟩ : ∃ ML, ML = Tr.mapL F t n := ⟨_, rfl⟩
    have HST := Lib.hid (fun j => (by rw [hML]; rfl : ML (j + 1) = ML j ++ Tr.mapN F (Tr.kid t j) (n + Tr.bd (Tr.hd t).1 j)))
    have HS0 : Hid (ML 0 = [((Tr.hd t).1, (Tr.hd t).2.1, (Tr.hd t).2.2)]) := Lib.hid (by rw [hML]; rfl)
    rw [← hML] at HLN ⊢
    clear hML
    clear hcl ih hg h hf hleaf hFl
    generalize (Tr.hd t).1 = kk at *
    generalize (Tr.hd t).2.1 = aa at *
    generalize (Tr.hd t).2.2 = zz at *
    generalize (Tr.enc t).length = nn at *
    generalize hMM : (Tr.kids t).length = m at *
    go_enter Tryz.func113, Tryz.ntmps113
    go_wp2_with fail
    have hone := OwnT.one w w.heap.size (kk, aa, zz) (Nat.le_refl _)
    refine (HI.out _ ((Grew.refl w).alloc _)).mono ?_
    rintro e w1 ⟨u, us, rfl, hU1, hul, hhold, hg1⟩
    have ho1 := hone.grew hg1
    have hgw := Grew.of_alloc hg1
    obtain ⟨g2, c2, rfl, hc2, hm2, _, _⟩ := hU1.open_ (by omega)
    rw [hul] at hc2 hU1 ⊢
    have hU1 := Lib.hid hU1
    have HH := Lib.hid hhold
    clear hone hhold
    go_wp2_with fail
    go_loopw [7, 8, 9, 28] (fun vv _ _ i wr => ∃ j : Nat, j ≤ m ∧ i = .int .i64 j ∧ Grew w wr ∧ OwnT wr w.heap.size vv (ML j) ∧ Hid (OwnVT wr (w.alloc (.cells #[.int .i64 kk, .int .i64 aa, .string zz] 50)).heap.size (.slice (some ⟨g2, 0, none⟩) m c2) us)) (fun _ _ _ i _ => m - (intOf i).toNat)
    case atStart => exact ⟨0, Nat.zero_le _, rfl, hgw, by rw [HS0.out]; exact ho1, hU1.out⟩
    case round =>
      clear ho1 hU1
      obtain ⟨j, hj, rfl, hB, hO, hU⟩ := hrel
      by_cases hlt : j < m
      · obtain ⟨x, hx1⟩ : ∃ x, us[j]? = some x := ⟨_, List.getElem?_eq_getElem (by omega)⟩
        have e1 : wr.cell? ⟨g2, j, none⟩ = some x := hU.out.cell hx1
        have e2 : wr.cell? ⟨b, o, none⟩ = some (.int .i64 kk) := HK.out _ hB
        have hx3 : Tms wr x (Tr.enc (Tr.kid t j)) := (HH.out j x hx1).grew hB
        obtain ⟨A3, c3, rfl⟩ := tms_slice hx3
        have hih := Lib.hid (fun W (hW : Grew wr W) => HIH.out j hlt _ (Tr.bd kk j) W (hB.trans hW) (HB2.out j).1 (HB2.out j).2 (hx3.grew hW))
        have hbd := Lib.hid (HBD.out j hlt)
        have hb01 := HB2.out j
        have hl1 := HLN.out j hj
        have hl2 := HLN2.out j (Tr.bd kk j) hlt
        have hst := Lib.hid (HST.out j)
        clear hx1 hx3
        generalize Tr.bd kk j = d at *
        generalize (Tr.enc (Tr.kid t j)).length = ln at *
        generalize Tr.mapN F (Tr.kid t j) (n + d) = X at *
        generalize ML j = Y at *
        obtain ⟨hb0, hb1⟩ := hb01
        go_wp2_with fail
        refine (hbd.out _).mono ?_
        rintro e w2 ⟨rfl, hg2⟩
        go_wp2_with fail
        refine (hih.out _ hg2).mono ?_
        rintro e w3 ⟨q, rfl, hq, hg3⟩
        have hk3 := hg2.trans hg3
        have hO3 := hO.grew hk3
        have hw3 := hB.trans hk3
        go_wp2_with (first | (at_builtin; refine wpList_appT (w0 := w) _ _ rfl rfl _ Y rfl hO3 hw3 _ X rfl hq.tms (by omega) ?_; intro v4 w4 hown4 hg4 hgr4))
        go_roundw
        case rel => exact ⟨j + 1, by omega, by go_num, hg4, by rw [hst.out]; exact hown4, ownVT_app (own_grew hU.out hk3) hO3 hgr4⟩
        case measure => simp [intOf]; omega
      · obtain rfl : j = m := by omega
        go_wp2_with fail
        go_ret
        exact ⟨_, rfl, hO, hB⟩
end Go.Proofs.YtdndclfjeajhiaaGreat

/- putTerm of the program. -/
namespace Go.Proofs.YtdndclfjeajhiaaGreat
open Go.RowKit
open Tr (Tm)

theorem putTerm1_c (x : Tn) (now n : Int) (bn bu : Nat) (u : Value) (us : List Tn) (W : World) (hx : GoodN x) (hc1 : W.cell? ⟨bn, 0, none⟩ = some (.int .i64 n)) (hc2 : W.cell? ⟨bu, 0, none⟩ = some u) (hu : Tms W u us) (hl : us.length ≤ 1048576) (hok : NumOk us)
    (hn0 : 0 ≤ n) (hn1 : n ≤ 1000000) (h0 : n + 1 ≤ now) (h1 : now ≤ 1000000) (hbn : bn < W.heap.size) (hbu : bu < W.heap.size) :
    Calls Tryz.prog 114 (#[.agg #[.int .i64 x.1, .int .i64 x.2.1, .string x.2.2], .int .i64 now] ++ #[.pointer (some ⟨bn, 0, none⟩), .pointer (some ⟨bu, 0, none⟩)]) W (GivesT W (putN n us x now)) := by
  have hx0 := tnB_num0 hx
  have HR := Lib.hid (fun W' (hW : Grew W W') => raised_c u us n (now - n - 1) W' (hu.grew hW) hl hok (by omega) (by omega))
  obtain ⟨A, c, rfl⟩ := tms_slice hu
  have k1 : ∀ W', Grew W W' → W'.cell? ⟨bn, 0, none⟩ = some (.int .i64 n) := fun W' hW => (hW.cell (p := ⟨bn, 0, none⟩) hbn).trans hc1
  have k2 : ∀ W', Grew W W' → W'.cell? ⟨bu, 0, none⟩ = some (.slice A us.length c) := fun W' hW => (hW.cell (p := ⟨bu, 0, none⟩) hbu).trans hc2
  obtain ⟨xk, xn, xs⟩ := x
  simp only at hx0 ⊢
  have hal := (Grew.refl W).alloc (.cells #[.int .i64 xk, .int .i64 xn, .string xs] 50)
  clear hx hu hok hc1 hc2
  by_cases he : xn = n
  · have hp : putN n us (xk, xn, xs) now = raiseL n (now - n - 1) us := by unfold putN; rw [if_pos he]
    rw [hp]
    clear hp
    subst he
    generalize raiseL xn (now - xn - 1) us = R at *
    generalize us.length = ul at *
    go_enter Tryz.func114, Tryz.ntmps114
    go_wp2_with fail
    refine (HR.out _ hal).mono ?_
    rintro e w1 ⟨q, rfl, hq, hg1⟩
    go_wp2_with fail
    go_ret
    exact ⟨_, rfl, hq.base hal.size, hal.trans hg1⟩
  · by_cases hgt : n < xn
    · have hp : putN n us (xk, xn, xs) now = [(xk, xn - 1, xs)] := by unfold putN; rw [if_neg he, if_pos hgt]
      rw [hp]
      have hne : (xn == n) = false := by simpa using he
      clear hp HR
      generalize us.length = ul at *
      have hone := fun w => OwnT.one w W.heap.size (xk, xn - 1, xs)
      go_enter Tryz.func114, Tryz.ntmps114
      go_wp2_with fail
      go_ret
      have hal2 := (Grew.refl W).alloc (.cells #[.int .i64 xk, .int .i64 (xn - 1), .string xs] 50)
      have h1 := hone _ hal2.size
      rw [World.size_alloc] at h1
      exact ⟨_, rfl, h1, hal2.alloc _⟩
    · have hp : putN n us (xk, xn, xs) now = [(xk, xn, xs)] := by unfold putN; rw [if_neg he, if_neg hgt]
      rw [hp]
      have hne : (xn == n) = false := by simpa using he
      clear hp HR
      generalize us.length = ul at *
      have hone := fun w => OwnT.one w W.heap.size (xk, xn, xs)
      go_enter Tryz.func114, Tryz.ntmps114
      go_wp2_with fail
      go_ret
      have h1 := hone _ hal.size
      rw [World.size_alloc] at h1
      exact ⟨_, rfl, h1, hal.alloc _⟩

theorem putTerm_c (v u : Value) (t : Tm) (us : List Tn) (n : Int) (w : World) (h : Tms w v (Tr.enc t)) (hg : Good t) (hlen : (Tr.enc t).length ≤ 1000) (hu : Tms w u us) (hl : us.length ≤ 900) (hok : NumOk us) (hn0 : 0 ≤ n) (hn1 : n ≤ 1000) :
    Calls Tryz.prog 99 #[v, .int .i64 n, u] w (GivesT w (Tr.mapN (putN n us) t (n + 1))) := by
  obtain ⟨A, c, rfl⟩ := tms_slice hu
  have hw2 : Grew w ((w.alloc (.cells #[.int .i64 n] 2)).alloc (.cells #[.slice A us.length c] 25)) := ((Grew.refl w).alloc _).alloc _
  have HM := Lib.hid (mapNumbers_c 114 #[.pointer (some ⟨w.heap.size, 0, none⟩), .pointer (some ⟨w.heap.size + 1, 0, none⟩)] ((w.alloc (.cells #[.int .i64 n] 2)).alloc (.cells #[.slice A us.length c] 25)) (n + 1) (n + 1 + 1000) (putN n us) (us.length + 1) (by omega) (by omega) (fun x m => putN_len n us x m)
    (fun x m W hW hx h0 h1 => putTerm1_c x m n w.heap.size (w.heap.size + 1) (.slice A us.length c) us W hx
      ((hW.cell (p := ⟨w.heap.size, 0, none⟩) (by simp; omega)).trans (by simp)) ((hW.cell (p := ⟨w.heap.size + 1, 0, none⟩) (by simp)).trans (by simp)) (hu.grew (hw2.trans hW)) (by omega) hok hn0 (by omega) h0 (by omega)
      (Nat.lt_of_lt_of_le (by simp; omega) hW.size) (Nat.lt_of_lt_of_le (by simp) hW.size))
    (by omega) (by omega) (enters_of Tryz.func114 (by kernel_rfl) rfl) t hg v (n + 1) _ (Grew.refl _) (h.grew hw2) hlen (by omega) (by omega))
  obtain ⟨A', c', rfl⟩ := tms_slice h
  clear h hg hu hok
  generalize Tr.mapN (putN n us) t (n + 1) = R at *
  generalize us.length = ul at *
  generalize (Tr.enc t).length = tl at *
  go_enter Tryz.func99, Tryz.ntmps99
  go_wp2_with fail
  refine HM.out.mono ?_
  rintro e w1 ⟨q, rfl, hq, hg1⟩
  go_wp2_with fail
  go_ret
  exact ⟨_, rfl, hq.base hw2.size, hw2.trans hg1⟩
end Go.Proofs.YtdndclfjeajhiaaGreat

/- contracted of the program. -/
namespace Go.Proofs.YtdndclfjeajhiaaGreat
open Go.RowKit
open Tr (Tm)

/-- The call gives a slice that reads as the list. -/
def GivesR (w : World) (r : List Tn) (e : Ending) (w' : World) : Prop := ∃ v, e = .returned v ∧ Tms w' v r ∧ Grew w w'

theorem partsT_at {w : World} {v : Value} {t : Tm} (m : Nat) (h : PartsT w v t) (hk : (Tr.kids t).length = m) (h0 : 0 < m) : ∃ b o c, v = .slice (some ⟨b, o, none⟩) m c ∧ m ≤ c ∧ c ≤ 9223372036854775807 ∧
    ∀ i s, i < m → Tr.kid t i = s → ∃ b1 o1 c1, (∀ W, Grew w W → W.cell? ⟨b, o + i, none⟩ = some (.slice (some ⟨b1, o1, none⟩) (Tr.enc s).length c1)) ∧ Tms w (.slice (some ⟨b1, o1, none⟩) (Tr.enc s).length c1) (Tr.enc s) ∧ (Tr.enc s).length ≤ c1 ∧ c1 ≤ 9223372036854775807 ∧ ∀ W, Grew w W → W.cell? ⟨b1, o1, none⟩ = some (.int .i64 (Tr.hd s).1) := by
  subst hk
  rcases h with ⟨_, h⟩ | ⟨b, o, c, rfl, hc, hm, hb, hf⟩
  · rw [h] at h0; exact absurd h0 (by simp)
  · refine ⟨b, o, c, rfl, hc, hm, fun i s hi hs => ?_⟩
    subst hs
    obtain ⟨u, h1, h2⟩ := hf i hi
    obtain ⟨b1, o1, c1, rfl, hc1, hm1, _, hcl⟩ := tms_head h2
    exact ⟨b1, o1, c1, fun W hW => (hW.cell (p := ⟨b, o + i, none⟩) hb).trans h1, h2, hc1, hm1, fun W hW => (hcl W hW).1⟩

theorem contracted_c (v : Value) (t : Tm) (n : Int) (w : World) (h : Tms w v (Tr.enc t)) (hg : Good t) (hr : rdxAt (Tr.enc t) 0 = true) (hlen : (Tr.enc t).length ≤ 800) (hn0 : 0 ≤ n) (hn1 : n ≤ 900) :
    Calls Tryz.prog 73 #[v, .int .i64 n] w (GivesR w (ctr t n)) := by
  have HI := Lib.hid (inner_c v t w h hg (by omega))
  obtain ⟨b0, o0, c0, rfl, hc0, hm0, hb0, hcl0⟩ := tms_head h
  have k0 := fun W (hW : Grew w W) => (hcl0 W hW).1
  have hpos := Tr.enc_pos t
  have hrr := Grew.refl w
  rcases rdx_shape hg hr with ⟨x, y, b, u, rfl, hx, hy⟩ | ⟨x, y, a, b, rfl, hx, hy⟩ | ⟨x, y, s, a, b, rfl, hx, hy⟩
  · have hgf : Good (.t1 y b) := hg.2.1
    have hgb : Good b := hgf.2
    have hgu : Good u := hg.2.2
    have hl2 : (Tr.enc (.t1 y b)).length ≤ 800 ∧ (Tr.enc b).length ≤ 800 ∧ (Tr.enc u).length ≤ 800 := by simp [Tr.enc] at hlen ⊢; omega
    obtain ⟨hl2, hl3, hl4⟩ := hl2
    have HI2 := Lib.hid (fun v W (hv : Tms W v (Tr.enc (.t1 y b))) => inner_c v (.t1 y b) W hv hgf (by omega))
    have HP := Lib.hid (fun vb vu W (hb : Tms W vb (Tr.enc b)) (hu : Tms W vu (Tr.enc u)) => putTerm_c vb vu b (Tr.enc u) n W hb hgb (by omega) hu (by omega) (good_numOk hgu) hn0 (by omega))
    have hct : ctr (.t2 x (.t1 y b) u) n = Tr.mapN (putN n (Tr.enc u)) b (n + 1) := rfl
    rw [hct]
    have ek : (Tr.hd (.t2 x (.t1 y b) u)).1 = 2 := hx
    rw [ek] at k0
    generalize (Tr.enc (.t2 x (.t1 y b) u)).length = ll at *
    clear h hcl0 hr hct ek
    generalize Tr.mapN (putN n (Tr.enc u)) b (n + 1) = R at *
    go_enter Tryz.func73, Tryz.ntmps73
    go_wp2_with fail
    refine HI.out.mono ?_
    rintro e w1 ⟨p, rfl, hp, hg1⟩
    obtain ⟨b1, o1, c1, rfl, hc1, hm1, hcl1⟩ := partsT_at 2 hp rfl (by decide)
    clear hp
    obtain ⟨b2, o2, c2, e2, t2, hc2, hm2, q2⟩ := hcl1 0 (.t1 y b) (by decide) rfl
    obtain ⟨b3, o3, c3, e3, t3, hc3, hm3, q3⟩ := hcl1 1 u (by decide) rfl
    clear hcl1
    have HT2 := Lib.hid t2
    have HT3 := Lib.hid t3
    clear t2 t3
    simp only [Nat.add_zero] at e2
    clear q2 q3
    have r1 := Grew.refl w1
    go_wp2_with fail
    refine (HI2.out _ _ HT2.out).mono ?_
    rintro e w2 ⟨p2, rfl, hp2, hg2⟩
    obtain ⟨b4, o4, c4, rfl, hc4, hm4, hcl4⟩ := partsT_at 1 hp2 rfl (by decide)
    clear hp2
    obtain ⟨b5, o5, c5, e5, t5, hc5, hm5, q5⟩ := hcl4 0 b (by decide) rfl
    clear hcl4
    have HT5 := Lib.hid t5
    clear t5
    simp only [Nat.add_zero] at e5
    clear q5
    have r2 := Grew.refl w2
    have gw := hg1.trans hg2
    have d2 := r2.drew
    have f3 := fun W (hW : Grew w2 W) => e3 W (hg2.trans hW)
    clear e2 e3
    have HT3g := Lib.hid (HT3.out.grew (hg2.trans d2))
    have HT5g := Lib.hid (HT5.out.grew d2)
    go_wp2_with fail
    go_region_held3 (fun w' => Grew w2 w') (with_reducible assumption)
      (first | (go_at_call 99; refine (HP.out _ _ _ HT5g.out HT3g.out).mono ?_; rintro e w3 ⟨q, rfl, hq, hg3⟩; have hk3 := d2.trans hg3))
    go_wp2_with fail
    go_ret
    exact ⟨_, rfl, hq.tms, gw.trans hk3⟩
  · have hgf : Good (.t2 y a b) := hg.2
    have hl2 : (Tr.enc (.t2 y a b)).length ≤ 800 := by simp [Tr.enc] at hlen ⊢; omega
    have HI2 := Lib.hid (fun v W (hv : Tms W v (Tr.enc (.t2 y a b))) => inner_c v (.t2 y a b) W hv hgf (by omega))
    rcases hx with hx | hx
    · have hct : ctr (.t1 x (.t2 y a b)) n = Tr.enc a := by simp [ctr, hx, Tr.kid, Tr.kids]
      rw [hct]
      have ek : (Tr.hd (.t1 x (.t2 y a b))).1 = 4 := hx
      rw [ek] at k0
      generalize (Tr.enc (.t1 x (.t2 y a b))).length = ll at *
      clear h hcl0 hr hct ek
      go_enter Tryz.func73, Tryz.ntmps73
      go_wp2_with fail
      refine HI.out.mono ?_
      rintro e w1 ⟨p, rfl, hp, hg1⟩
      obtain ⟨b1, o1, c1, rfl, hc1, hm1, hcl1⟩ := partsT_at 1 hp rfl (by decide)
      clear hp
      obtain ⟨b2, o2, c2, e2, t2, hc2, hm2, q2⟩ := hcl1 0 (.t2 y a b) (by decide) rfl
      clear hcl1
      have HT2 := Lib.hid t2
      clear t2
      simp only [Nat.add_zero] at e2
      clear q2
      have r1 := Grew.refl w1
      go_wp2_with fail
      refine (HI2.out _ _ HT2.out).mono ?_
      rintro e w2 ⟨p2, rfl, hp2, hg2⟩
      obtain ⟨b3, o3, c3, rfl, hc3, hm3, hcl3⟩ := partsT_at 2 hp2 rfl (by decide)
      clear hp2
      obtain ⟨b4, o4, c4, e4, t4, hc4, hm4, q4⟩ := hcl3 0 a (by decide) rfl
      obtain ⟨b5, o5, c5, e5, t5, hc5, hm5, q5⟩ := hcl3 1 b (by decide) rfl
      clear hcl3
      have HT4 := Lib.hid t4
      have HT5 := Lib.hid t5
      clear t4 t5
      simp only [Nat.add_zero] at e4
      clear q4 q5
      have r2 := Grew.refl w2
      have gw := hg1.trans hg2
      go_wp2_with fail
      go_ret
      exact ⟨_, rfl, HT4.out, gw⟩
    · have hct : ctr (.t1 x (.t2 y a b)) n = Tr.enc b := by simp [ctr, hx, Tr.kid, Tr.kids]
      rw [hct]
      have ek : (Tr.hd (.t1 x (.t2 y a b))).1 = 5 := hx
      rw [ek] at k0
      generalize (Tr.enc (.t1 x (.t2 y a b))).length = ll at *
      clear h hcl0 hr hct ek
      go_enter Tryz.func73, Tryz.ntmps73
      go_wp2_with fail
      refine HI.out.mono ?_
      rintro e w1 ⟨p, rfl, hp, hg1⟩
      obtain ⟨b1, o1, c1, rfl, hc1, hm1, hcl1⟩ := partsT_at 1 hp rfl (by decide)
      clear hp
      obtain ⟨b2, o2, c2, e2, t2, hc2, hm2, q2⟩ := hcl1 0 (.t2 y a b) (by decide) rfl
      clear hcl1
      have HT2 := Lib.hid t2
      clear t2
      simp only [Nat.add_zero] at e2
      clear q2
      have r1 := Grew.refl w1
      go_wp2_with fail
      refine (HI2.out _ _ HT2.out).mono ?_
      rintro e w2 ⟨p2, rfl, hp2, hg2⟩
      obtain ⟨b3, o3, c3, rfl, hc3, hm3, hcl3⟩ := partsT_at 2 hp2 rfl (by decide)
      clear hp2
      obtain ⟨b4, o4, c4, e4, t4, hc4, hm4, q4⟩ := hcl3 0 a (by decide) rfl
      obtain ⟨b5, o5, c5, e5, t5, hc5, hm5, q5⟩ := hcl3 1 b (by decide) rfl
      clear hcl3
      have HT4 := Lib.hid t4
      have HT5 := Lib.hid t5
      clear t4 t5
      simp only [Nat.add_zero] at e4
      clear q4 q5
      have r2 := Grew.refl w2
      have gw := hg1.trans hg2
      go_wp2_with fail
      go_ret
      exact ⟨_, rfl, HT5.out, gw⟩
  · have hgf : Good (.t1 y s) := hg.2.1
    have hgs : Good s := hgf.2
    have hga : Good a := hg.2.2.1
    have hgb : Good b := hg.2.2.2
    have hl2 : (Tr.enc (.t1 y s)).length ≤ 800 ∧ (Tr.enc s).length ≤ 800 ∧ (Tr.enc a).length ≤ 800 ∧ (Tr.enc b).length ≤ 800 := by simp [Tr.enc] at hlen ⊢; omega
    obtain ⟨hl2, hl3, hl4, hl5⟩ := hl2
    have HI2 := Lib.hid (fun v W (hv : Tms W v (Tr.enc (.t1 y s))) => inner_c v (.t1 y s) W hv hgf (by omega))
    have ek : (Tr.hd (.t3 x (.t1 y s) a b)).1 = 8 := hx
    rw [ek] at k0
    rcases hy with hy | hy
    · have HP := Lib.hid (fun vb vu W (hb : Tms W vb (Tr.enc a)) (hu : Tms W vu (Tr.enc s)) => putTerm_c vb vu a (Tr.enc s) n W hb hga (by omega) hu (by omega) (good_numOk hgs) hn0 (by omega))
      have hct : ctr (.t3 x (.t1 y s) a b) n = Tr.mapN (putN n (Tr.enc s)) a (n + 1) := by simp [ctr, hy, Tr.kid, Tr.kids, Tr.hd]
      rw [hct]
      have ey : (Tr.hd (.t1 y s)).1 = 6 := hy
      generalize (Tr.enc (.t3 x (.t1 y s) a b)).length = ll at *
      clear h hcl0 hr hct ek
      generalize Tr.mapN (putN n (Tr.enc s)) a (n + 1) = R at *
      go_enter Tryz.func73, Tryz.ntmps73
      go_wp2_with fail
      refine HI.out.mono ?_
      rintro e w1 ⟨p, rfl, hp, hg1⟩
      obtain ⟨b1, o1, c1, rfl, hc1, hm1, hcl1⟩ := partsT_at 3 hp rfl (by decide)
      clear hp
      obtain ⟨b2, o2, c2, e2, t2, hc2, hm2, q2⟩ := hcl1 0 (.t1 y s) (by decide) rfl
      obtain ⟨b3, o3, c3, e3, t3, hc3, hm3, q3⟩ := hcl1 1 a (by decide) rfl
      obtain ⟨b4, o4, c4, e4, t4, hc4, hm4, q4⟩ := hcl1 2 b (by decide) rfl
      clear hcl1
      have HT2 := Lib.hid t2
      have HT3 := Lib.hid t3
      have HT4 := Lib.hid t4
      clear t2 t3 t4
      simp only [Nat.add_zero] at e2
      clear q3 q4
      rw [ey] at q2
      have r1 := Grew.refl w1
      go_wp2_with fail
      refine (HI2.out _ _ HT2.out).mono ?_
      rintro e w2 ⟨p2, rfl, hp2, hg2⟩
      obtain ⟨b5, o5, c5, rfl, hc5, hm5, hcl5⟩ := partsT_at 1 hp2 rfl (by decide)
      clear hp2
      obtain ⟨b6, o6, c6, e6, t6, hc6, hm6, q6⟩ := hcl5 0 s (by decide) rfl
      clear hcl5
      have HT6 := Lib.hid t6
      clear t6
      simp only [Nat.add_zero] at e6
      clear q6
      have r2 := Grew.refl w2
      have gw := hg1.trans hg2
      have d2 := r2.drew
      have g0 := fun W (hW : Grew w2 W) => k0 W (gw.trans hW)
      have f2 := fun W (hW : Grew w2 W) => e2 W (hg2.trans hW)
      have f3 := fun W (hW : Grew w2 W) => e3 W (hg2.trans hW)
      have f4 := fun W (hW : Grew w2 W) => e4 W (hg2.trans hW)
      have p2 := fun W (hW : Grew w2 W) => q2 W (hg2.trans hW)
      clear e2 e3 e4 q2 k0
      have HTg := Lib.hid (HT3.out.grew (hg2.trans d2))
      have hz : 0 < (Tr.enc (.t1 y s)).length := Tr.enc_pos _
      have hz2 : (0 : Int) < ((Tr.enc (.t1 y s)).length : Int) := by omega
      have s1 : IntKind.i64.wrap 7 = 7 := by decide
      have s2 : IntKind.i64.wrap 1 = 1 := by decide
      have HT6g := Lib.hid (HT6.out.grew d2)
      go_wp2_with fail
      go_region_held3 (fun w' => Grew w2 w') (with_reducible assumption)
        (first | (go_at_call 99; refine (HP.out _ _ _ HTg.out HT6g.out).mono ?_; rintro e w3 ⟨q, rfl, hq, hg3⟩; have hk3 := d2.trans hg3))
      go_wp2_with fail
      go_ret
      exact ⟨_, rfl, hq.tms, gw.trans hk3⟩
    · have HP := Lib.hid (fun vb vu W (hb : Tms W vb (Tr.enc b)) (hu : Tms W vu (Tr.enc s)) => putTerm_c vb vu b (Tr.enc s) n W hb hgb (by omega) hu (by omega) (good_numOk hgs) hn0 (by omega))
      have hct : ctr (.t3 x (.t1 y s) a b) n = Tr.mapN (putN n (Tr.enc s)) b (n + 1) := by simp [ctr, hy, Tr.kid, Tr.kids, Tr.hd]
      rw [hct]
      have ey : (Tr.hd (.t1 y s)).1 = 7 := hy
      generalize (Tr.enc (.t3 x (.t1 y s) a b)).length = ll at *
      clear h hcl0 hr hct ek
      generalize Tr.mapN (putN n (Tr.enc s)) b (n + 1) = R at *
      go_enter Tryz.func73, Tryz.ntmps73
      go_wp2_with fail
      refine HI.out.mono ?_
      rintro e w1 ⟨p, rfl, hp, hg1⟩
      obtain ⟨b1, o1, c1, rfl, hc1, hm1, hcl1⟩ := partsT_at 3 hp rfl (by decide)
      clear hp
      obtain ⟨b2, o2, c2, e2, t2, hc2, hm2, q2⟩ := hcl1 0 (.t1 y s) (by decide) rfl
      obtain ⟨b3, o3, c3, e3, t3, hc3, hm3, q3⟩ := hcl1 1 a (by decide) rfl
      obtain ⟨b4, o4, c4, e4, t4, hc4, hm4, q4⟩ := hcl1 2 b (by decide) rfl
      clear hcl1
      have HT2 := Lib.hid t2
      have HT3 := Lib.hid t3
      have HT4 := Lib.hid t4
      clear t2 t3 t4
      simp only [Nat.add_zero] at e2
      clear q3 q4
      rw [ey] at q2
      have r1 := Grew.refl w1
      go_wp2_with fail
      refine (HI2.out _ _ HT2.out).mono ?_
      rintro e w2 ⟨p2, rfl, hp2, hg2⟩
      obtain ⟨b5, o5, c5, rfl, hc5, hm5, hcl5⟩ := partsT_at 1 hp2 rfl (by decide)
      clear hp2
      obtain ⟨b6, o6, c6, e6, t6, hc6, hm6, q6⟩ := hcl5 0 s (by decide) rfl
      clear hcl5
      have HT6 := Lib.hid t6
      clear t6
      simp only [Nat.add_zero] at e6
      clear q6
      have r2 := Grew.refl w2
      have gw := hg1.trans hg2
      have d2 := r2.drew
      have g0 := fun W (hW : Grew w2 W) => k0 W (gw.trans hW)
      have f2 := fun W (hW : Grew w2 W) => e2 W (hg2.trans hW)
      have f3 := fun W (hW : Grew w2 W) => e3 W (hg2.trans hW)
      have f4 := fun W (hW : Grew w2 W) => e4 W (hg2.trans hW)
      have p2 := fun W (hW : Grew w2 W) => q2 W (hg2.trans hW)
      clear e2 e3 e4 q2 k0
      have HTg := Lib.hid (HT4.out.grew (hg2.trans d2))
      have hz : 0 < (Tr.enc (.t1 y s)).length := Tr.enc_pos _
      have hz2 : (0 : Int) < ((Tr.enc (.t1 y s)).length : Int) := by omega
      have s1 : IntKind.i64.wrap 8 = 8 := by decide
      have s2 : IntKind.i64.wrap 2 = 2 := by decide
      have HT6g := Lib.hid (HT6.out.grew d2)
      go_wp2_with fail
      go_region_held3 (fun w' => Grew w2 w') (with_reducible assumption)
        (first | (go_at_call 99; refine (HP.out _ _ _ HTg.out HT6g.out).mono ?_; rintro e w3 ⟨q, rfl, hq, hg3⟩; have hk3 := d2.trans hg3))
      go_wp2_with fail
      go_ret
      exact ⟨_, rfl, hq.tms, gw.trans hk3⟩
end Go.Proofs.YtdndclfjeajhiaaGreat

/- contractAt of the program. -/
namespace Go.Proofs.YtdndclfjeajhiaaGreat
open Go.RowKit
open Tr (Tm)

theorem rdxAt_lt {xs : List Tn} {i : Nat} (h : rdxAt xs i = true) : i + 1 < xs.length := by
  unfold rdxAt at h
  simp only [Bool.and_eq_true, decide_eq_true_eq] at h
  exact h.1

set_option maxHeartbeats 800000 in
theorem contractAt_c : ∀ t : Tm, Good t → ∀ (v : Value) (n : Int) (i : Nat) (w : World), Tms w v (Tr.enc t) → rdxAt (Tr.enc t) i = true → (Tr.enc t).length ≤ 60 → 0 ≤ n → n + (Tr.enc t).length ≤ 800 →
    Calls Tryz.prog 39 #[v, .int .i64 n, .int .i64 i] w (GivesR w (ctAt t n i)) := by
  intro t
  refine Tr.ind (P := fun t => Good t → ∀ (v : Value) (n : Int) (i : Nat) (w : World), Tms w v (Tr.enc t) → rdxAt (Tr.enc t) i = true → (Tr.enc t).length ≤ 60 → 0 ≤ n → n + (Tr.enc t).length ≤ 800 →
    Calls Tryz.prog 39 #[v, .int .i64 n, .int .i64 i] w (GivesR w (ctAt t n i))) ?_ t
  intro t ih hg v n i w h hr hlen hn0 hn1
  by_cases hi : i = 0
  · subst hi
    rw [ctAt_zero]
    have HC := Lib.hid (contracted_c v t n w h hg hr (by omega) hn0 (by omega))
    obtain ⟨A, c, rfl⟩ := tms_slice h
    clear h hr hg ih
    generalize ctr t n = R at *
    generalize (Tr.enc t).length = nn at *
    go_enter Tryz.func39, Tryz.ntmps39
    go_wp2_with fail
    refine HC.out.mono ?_
    rintro e w1 ⟨u, rfl, ho, hg1⟩
    go_wp2_with fail
    go_ret
    exact ⟨_, rfl, ho, hg1⟩
  · have hir := rdxAt_lt hr
    obtain ⟨b, o, c, rfl, hc, hm, hb, hcl⟩ := tms_head h
    have hpos := Tr.enc_pos t
    obtain ⟨k1, k2, k3⟩ := hcl _ (Grew.refl w)
    rw [ctAt_kids (by omega)]
    have hk0 : 0 < (Tr.kids t).length := by
      rcases Nat.eq_zero_or_pos (Tr.kids t).length with h0 | h0
      · have h1 := List.eq_nil_of_length_eq_zero h0
        have h2 : (Tr.enc t).length = 1 := by rw [Tr.enc_kids, h1]; rfl
        omega
      · exact h0
    have hkl := Tr.kids_len hg
    have har := Tr.ar_le (Tr.hd t).1
    have HI := Lib.hid (fun W (hW : Grew w W) => inner_o _ t w W h hW hg (by omega))
    have HK := Lib.hid (fun W (hW : Grew w W) => (hcl W hW).1)
    have HLN := Lib.hid (fun j hj => Nat.le_trans (ctL_len (n := n) (M := 60) hg hr hlen j hj) (Nat.mul_le_mul_right 61 (show Tr.off t j ≤ 61 from by
      rcases Nat.lt_or_ge j (Tr.kids t).length with hh | hh
      · have := Tr.off_end hh; omega
      · have e : Tr.off t j = Tr.off t (Tr.kids t).length := by unfold Tr.off; rw [List.take_of_length_le hh, List.take_length]
        rw [e]
        have := Tr.off_end (t := t) (i := (Tr.kids t).length - 1) (by omega)
        have e2 := Tr.off_next (t := t) (i := (Tr.kids t).length - 1) (by omega)
        rw [show (Tr.kids t).length - 1 + 1 = (Tr.kids t).length by omega] at e2
        omega)))
    have HIH := Lib.hid (fun j (hj : j < (Tr.kids t).length) (hc : Tr.off t j ≤ i ∧ i < Tr.off t j + (Tr.enc (Tr.kid t j)).length) u d W (hW : Grew w W) (hd0 : 0 ≤ d) (hd1 : d ≤ 1) hu => ih _ (Tr.kid_mem hj) (Tr.kids_wf hg _ (Tr.kid_mem hj)) u (n + d) (i - Tr.off t j) W hu (rdx_kid hg hr hj hc) (by have := Tr.kid_small hj; omega) (by omega) (by have := Tr.kid_small hj; omega))
    have HBD := Lib.hid (fun i (hi : i < (Tr.kids t).length) w => bindsIn_c (Tr.hd t).1 i w (by omega))
    have HB2 := Lib.hid (fun i => (by unfold Tr.bd; split <;> omega : 0 ≤ Tr.bd (Tr.hd t).1 i ∧ Tr.bd (Tr.hd t).1 i ≤ 1))
    have HOF := Lib.hid (fun j (hj : j < (Tr.kids t).length) => (⟨Tr.off_end hj, Tr.off_next hj, Tr.enc_pos (Tr.kid t j)⟩ : Tr.off t j + (Tr.enc (Tr.kid t j)).length ≤ (Tr.enc t).length ∧ Tr.off t (j + 1) = Tr.off t j + (Tr.enc (Tr.kid t j)).length ∧ 1 ≤ (Tr.enc (Tr.kid t j)).length))
    have hoz := Tr.off_zero t
    have HP1 := Lib.hid (fun j (hc : Tr.off t j ≤ i ∧ i < Tr.off t j + (Tr.enc (Tr.kid t j)).length) => (by unfold ctP; exact if_pos hc : ctP t n i j = ctAt (Tr.kid t j) (n + Tr.bd (Tr.hd t).1 j) (i - Tr.off t j)))
    have HP2 := Lib.hid (fun j (hc : ¬ (Tr.off t j ≤ i ∧ i < Tr.off t j + (Tr.enc (Tr.kid t j)).length)) => (by unfold ctP; exact if_neg hc : ctP t n i j = Tr.enc (Tr.kid t j)))
    have HPL := Lib.hid (fun j (hj : j < (Tr.kids t).length) (hc : Tr.off t j ≤ i ∧ i < Tr.off t j + (Tr.enc (Tr.kid t j)).length) => Nat.le_trans (ctAt_len (M := 60) _ (Tr.kids_wf hg _ (Tr.kid_mem hj)) (n + Tr.bd (Tr.hd t).1 j) _ (rdx_kid hg hr hj hc) (by have := Tr.kid_small hj; omega)) (Nat.mul_le_mul_right 61 (show (Tr.enc (Tr.kid t j)).length ≤ 60 from by have := Tr.kid_small hj; omega)))
    obtain ⟨ML, hML⟩ : ∃ ML, ML = ctL t n i := ⟨_, rfl⟩
    have HST := Lib.hid (fun j => (by rw [hML]; rfl : ML (j + 1) = ML j ++ ctP t n i j))
    have HS0 : Hid (ML 0 = [((Tr.hd t).1, (Tr.hd t).2.1, (Tr.hd t).2.2)]) := Lib.hid (by rw [hML]; rfl)
    rw [← hML] at HLN ⊢
    clear hML hcl ih hg h hr
    generalize (Tr.hd t).1 = kk at *
    generalize (Tr.hd t).2.1 = aa at *
    generalize (Tr.hd t).2.2 = zz at *
    generalize (Tr.enc t).length = nn at *
    generalize hMM : (Tr.kids t).length = m at *
    have hi0 : ((i : Int) == 0) = false := by simpa using hi
    have hm3 : m ≤ 3 := by omega
    clear hkl har
    go_enter Tryz.func39, Tryz.ntmps39
    go_wp2_with fail
    have hone := OwnT.one w w.heap.size (kk, aa, zz) (Nat.le_refl _)
    refine (HI.out _ ((Grew.refl w).alloc _)).mono ?_
    rintro e w1 ⟨u, us, rfl, hU1, hul, hhold, hg1⟩
    have ho1 := hone.grew hg1
    have hgw := Grew.of_alloc hg1
    obtain ⟨g2, c2, rfl, hc2, hm2, _, _⟩ := hU1.open_ (by omega)
    rw [hul] at hc2 hU1 ⊢
    have hU1 := Lib.hid hU1
    have HH := Lib.hid hhold
    clear hone hhold
    go_wp2_with fail
    go_loopw [7, 8, 9, 10, 23] (fun vv x _ _ i' wr => ∃ j : Nat, j ≤ m ∧ i' = .int .i64 j ∧ x = .int .i64 (Tr.off t j) ∧ Grew w wr ∧ OwnT wr w.heap.size vv (ML j) ∧ Hid (OwnVT wr (w.alloc (.cells #[.int .i64 kk, .int .i64 aa, .string zz] 50)).heap.size (.slice (some ⟨g2, 0, none⟩) m c2) us)) (fun _ _ _ _ i' _ => m - (intOf i').toNat)
    case atStart => exact ⟨0, Nat.zero_le _, rfl, by rw [hoz]; rfl, hgw, by rw [HS0.out]; exact ho1, hU1.out⟩
    case round =>
      clear ho1 hU1
      obtain ⟨j, hj, rfl, rfl, hB, hO, hU⟩ := hrel
      by_cases hlt : j < m
      · obtain ⟨x, hx1⟩ : ∃ x, us[j]? = some x := ⟨_, List.getElem?_eq_getElem (by omega)⟩
        have e1 : wr.cell? ⟨g2, j, none⟩ = some x := hU.out.cell hx1
        have e2 : wr.cell? ⟨b, o, none⟩ = some (.int .i64 kk) := HK.out _ hB
        have hx3 : Tms wr x (Tr.enc (Tr.kid t j)) := (HH.out j x hx1).grew hB
        obtain ⟨A3, c3, rfl⟩ := tms_slice hx3
        have hb01 := HB2.out j
        have hbd := Lib.hid (HBD.out j hlt)
        obtain ⟨hl1, hl2, hl3⟩ := HOF.out j hlt
        have HL2 := Lib.hid hl2
        have hln := HLN.out j hj
        have hst := Lib.hid (HST.out j)
        clear hx1 hl2
        by_cases hc : Tr.off t j ≤ i ∧ i < Tr.off t j + (Tr.enc (Tr.kid t j)).length
        · have hpl := HPL.out j hlt hc
          rw [HP1.out j hc] at hst
          have hih := fun W (hW : Grew wr W) => HIH.out j hlt hc _ (Tr.bd kk j) W (hB.trans hW) hb01.1 hb01.2 (hx3.grew hW)
          rw [Int.ofNat_sub hc.1] at hih
          replace hih := Lib.hid hih
          obtain ⟨hc3, hc4⟩ := hc
          clear hx3
          generalize ctAt (Tr.kid t j) (n + Tr.bd kk j) (i - Tr.off t j) = X at *
          generalize Tr.bd kk j = d at *
          generalize (Tr.enc (Tr.kid t j)).length = ln at *
          generalize Tr.off t j = oj at *
          generalize ML j = Y at *
          obtain ⟨hb0, hb1⟩ := hb01
          have hd1 : decide ((oj : Int) ≤ (i : Int)) = true := by simp; omega
          have hd2 : decide ((i : Int) < (oj : Int) + (ln : Int)) = true := by simp; omega
          go_wp2_with fail
          refine (hbd.out _).mono ?_
          rintro e w2 ⟨rfl, hg2⟩
          go_wp2_with fail
          refine (hih.out _ hg2).mono ?_
          rintro e w3 ⟨q, rfl, hq, hg3⟩
          have hk3 := hg2.trans hg3
          have hO3 := hO.grew hk3
          have hw3 := hB.trans hk3
          go_wp2_with (first | (at_builtin; refine wpList_appT (w0 := w) _ _ rfl rfl _ Y rfl hO3 hw3 _ X rfl hq (by omega) ?_; intro v4 w4 hown4 hg4 hgr4))
          go_roundw
          case rel => exact ⟨j + 1, by omega, by go_num, by rw [HL2.out]; go_num, hg4, by rw [hst.out]; exact hown4, ownVT_app (own_grew hU.out hk3) hO3 hgr4⟩
          case measure => simp [intOf]; omega
        · rw [HP2.out j hc] at hst
          have hX := Lib.hid hx3
          have hXl : (Tr.enc (Tr.kid t j)).length ≤ 60 := by omega
          clear hx3 hbd
          generalize Tr.enc (Tr.kid t j) = X at *
          generalize Tr.off t j = oj at *
          generalize ML j = Y at *
          have r := Grew.refl wr
          by_cases hc3 : oj ≤ i
          · have hc4 : oj + X.length ≤ i := by omega
            have hd1 : decide ((oj : Int) ≤ (i : Int)) = true := by simp; omega
            have hd2 : decide ((i : Int) < (oj : Int) + (X.length : Int)) = false := by simp; omega
            go_wp2_with (first | (at_builtin; refine wpList_appT (w0 := w) _ _ rfl rfl _ Y rfl hO hB _ X rfl hX.out (by omega) ?_; intro v4 w4 hown4 hg4 hgr4))
            go_roundw
            case rel => exact ⟨j + 1, by omega, by go_num, by rw [HL2.out]; go_num, hg4, by rw [hst.out]; exact hown4, ownVT_app hU.out hO hgr4⟩
            case measure => simp [intOf]; omega
          · have hd1 : decide ((oj : Int) ≤ (i : Int)) = false := by simp; omega
            go_wp2_with (first | (at_builtin; refine wpList_appT (w0 := w) _ _ rfl rfl _ Y rfl hO hB _ X rfl hX.out (by omega) ?_; intro v4 w4 hown4 hg4 hgr4))
            go_roundw
            case rel => exact ⟨j + 1, by omega, by go_num, by rw [HL2.out]; go_num, hg4, by rw [hst.out]; exact hown4, ownVT_app hU.out hO hgr4⟩
            case measure => simp [intOf]; omega
      · obtain rfl : j = m := by omega
        go_wp2_with fail
        go_ret
        exact ⟨_, rfl, hO.tms, hB⟩
end Go.Proofs.YtdndclfjeajhiaaGreat

/- l26Put of the reference. -/
namespace Go.Proofs.YtdndclfjeajhiaaGreat
open Go.RowKit
open Tr (Tm)

set_option maxHeartbeats 800000 in
theorem l26Put_c (n : Int) (us : List Tn) (hl : us.length ≤ 900) (hok : NumOk us) (hn0 : 0 ≤ n) (hn1 : n ≤ 1000) :
    ∀ t : Tm, Good t → ∀ (v u : Value) (d : Int) (w : World), Tms w v (Tr.enc t) → (Tr.enc t).length ≤ 1000 → Tms w u us → 0 ≤ d → d + (Tr.enc t).length ≤ 2000 →
    Calls Tryz.prog 101 #[v, .int .i64 n, .int .i64 d, u] w (GivesT w (Tr.mapN (putN n us) t (n + 1 + d))) := by
  intro t
  refine Tr.ind (P := fun t => Good t → ∀ (v u : Value) (d : Int) (w : World), Tms w v (Tr.enc t) → (Tr.enc t).length ≤ 1000 → Tms w u us → 0 ≤ d → d + (Tr.enc t).length ≤ 2000 →
    Calls Tryz.prog 101 #[v, .int .i64 n, .int .i64 d, u] w (GivesT w (Tr.mapN (putN n us) t (n + 1 + d)))) ?_ t
  intro t ih hg v u d w h hlen hu hd0 hd1
  obtain ⟨b, o, c, rfl, hc, hm, hb, hcl⟩ := tms_head h
  have hpos := Tr.enc_pos t
  obtain ⟨k1, k2, k3⟩ := hcl _ (Grew.refl w)
  have hnum := tnB_num0 (Tr.hd_wf hg)
  obtain ⟨A, cu, rfl⟩ := tms_slice hu
  by_cases hleaf : Tr.kids t = []
  · have hk := (good_leaf hg).1 hleaf
    rw [Tr.mapN_leaf hleaf]
    have HR := Lib.hid (fun W (hW : Grew w W) => l26Shift_c _ us n d W (hu.grew hW) (by omega) hok hd0 (by omega))
    rw [hk] at k1
    have hhd : Tr.hd t = (0, (Tr.hd t).2.1, (Tr.hd t).2.2) := by rw [← hk]
    rw [hhd]
    generalize (Tr.hd t).2.1 = xn at *
    generalize (Tr.hd t).2.2 = xs at *
    have hal := (Grew.refl w).alloc (.cells #[.int .i64 0, .int .i64 xn, .string xs] 50)
    clear hcl ih hg h hk hleaf hu hok hhd
    generalize (Tr.enc t).length = nn at *
    by_cases he : xn = n
    · have hp : putN n us (0, xn, xs) (n + 1 + d) = raiseL n d us := by unfold putN; rw [if_pos he, show n + 1 + d - n - 1 = d by omega]
      rw [hp]
      clear hp
      subst he
      generalize raiseL xn d us = R at *
      generalize us.length = ul at *
      go_enter Tryz.func101, Tryz.ntmps101
      go_wp2_with fail
      refine (HR.out _ hal).mono ?_
      rintro e w1 ⟨q, rfl, hq, hg1⟩
      go_wp2_with fail
      go_ret
      exact ⟨_, rfl, hq.base hal.size, hal.trans hg1⟩
    · have hne : (xn == n) = false := by simpa using he
      by_cases hgt : n < xn
      · have hp : putN n us (0, xn, xs) (n + 1 + d) = [(0, xn - 1, xs)] := by unfold putN; rw [if_neg he, if_pos hgt]
        rw [hp]
        clear hp HR
        generalize us.length = ul at *
        have hone := fun W => OwnT.one W w.heap.size (0, xn - 1, xs)
        go_enter Tryz.func101, Tryz.ntmps101
        go_wp2_with fail
        go_ret
        have hal2 := (Grew.refl w).alloc (.cells #[.int .i64 0, .int .i64 (xn - 1), .string xs] 50)
        have h1 := hone _ hal2.size
        rw [World.size_alloc] at h1
        exact ⟨_, rfl, h1, hal2.alloc _⟩
      · have hp : putN n us (0, xn, xs) (n + 1 + d) = [(0, xn, xs)] := by unfold putN; rw [if_neg he, if_neg hgt]
        rw [hp]
        clear hp HR
        generalize us.length = ul at *
        have hone := fun W => OwnT.one W w.heap.size (0, xn, xs)
        go_enter Tryz.func101, Tryz.ntmps101
        go_wp2_with fail
        go_ret
        have h1 := hone _ hal.size
        rw [World.size_alloc] at h1
        exact ⟨_, rfl, h1, hal.alloc _⟩
  · have hk : ((Tr.hd t).1 == 0) = false := by
      have := mt (good_leaf hg).2 hleaf
      simpa using this
    have hm1 : 0 < (Tr.kids t).length := List.length_pos_iff.2 hleaf
    have hkl := Tr.kids_len hg
    have har := Tr.ar_le (Tr.hd t).1
    have hgk := good_kind hg
    have hpv : (if 0 ≤ (Tr.hd t).1 ∧ (Tr.hd t).1 ≤ 9 then (Tr.ar (Tr.hd t).1 : Int) else -1) = (((Tr.kids t).length : Nat) : Int) := by rw [if_pos hgk, hkl]
    have HPT := Lib.hid (fun w => l26Parts_c (Tr.hd t).1 w)
    rw [Tr.mapN_kids hleaf]
    have HP := Lib.hid (fun j (hj : j < (Tr.kids t).length) W (hW : Grew w W) => l26Part_c _ t j W (h.grew hW) hg (by omega) hj)
    have hFl : ∀ x m, (putN n us x m).length ≤ us.length + 1 := fun x m => putN_len n us x m
    have hM2 : us.length + 1 ≤ 1000 := by omega
    have HLN := Lib.hid (fun j hj => Nat.le_trans (Tr.mapL_len (by omega) hFl (t := t) (n := n + 1 + d) j hj) (Nat.mul_le_mul (show Tr.off t j ≤ 1000 from by
      rcases Nat.lt_or_ge j (Tr.kids t).length with hh | hh
      · have := Tr.off_end hh; omega
      · have e : Tr.off t j = Tr.off t (Tr.kids t).length := by unfold Tr.off; rw [List.take_of_length_le hh, List.take_length]
        rw [e]
        have := Tr.off_end (t := t) (i := (Tr.kids t).length - 1) (by omega)
        have e2 := Tr.off_next (t := t) (i := (Tr.kids t).length - 1) (by omega)
        rw [show (Tr.kids t).length - 1 + 1 = (Tr.kids t).length by omega] at e2
        omega) hM2))
    have HLN2 := Lib.hid (fun j m (hj : j < (Tr.kids t).length) => Nat.le_trans (Tr.mapN_len (by omega) hFl (Tr.kid t j) m) (Nat.mul_le_mul (show (Tr.enc (Tr.kid t j)).length ≤ 1000 from by have := Tr.kid_small hj; omega) hM2))
    have HIH := Lib.hid (fun i (hi : i < (Tr.kids t).length) x m W (hW : Grew w W) (hd0' : 0 ≤ m) (hd1' : m ≤ 1) hx => ih _ (Tr.kid_mem hi) (Tr.kids_wf hg _ (Tr.kid_mem hi)) x _ (d + m) W hx (by have := Tr.kid_small hi; omega) (hu.grew hW) (by omega) (by have := Tr.kid_small hi; omega))
    obtain ⟨ML, hML⟩ : ∃ ML, ML = Tr.mapL (putN n us) t (n + 1 + d) := ⟨_, rfl⟩
    have HST := Lib.hid (fun j => (by rw [hML, show Tr.mapL (putN n us) t (n + 1 + d) (j + 1) = Tr.mapL (putN n us) t (n + 1 + d) j ++ Tr.mapN (putN n us) (Tr.kid t j) (n + 1 + d + Tr.bd (Tr.hd t).1 j) from rfl, Int.add_assoc (n + 1)] : ML (j + 1) = ML j ++ Tr.mapN (putN n us) (Tr.kid t j) (n + 1 + (d + Tr.bd (Tr.hd t).1 j))))
    have HS0 : Hid (ML 0 = [((Tr.hd t).1, (Tr.hd t).2.1, (Tr.hd t).2.2)]) := Lib.hid (by rw [hML]; rfl)
    rw [← hML] at HLN ⊢
    clear hML hcl ih hg h hleaf hFl hgk hkl hu hok
    generalize (Tr.hd t).1 = kk at *
    generalize (Tr.hd t).2.1 = aa at *
    generalize (Tr.hd t).2.2 = zz at *
    generalize (Tr.enc t).length = nn at *
    generalize hMM : (Tr.kids t).length = m at *
    have hm3 : m ≤ 3 := by have h9 := hpv; split at h9 <;> omega
    generalize hpp : (if 0 ≤ kk ∧ kk ≤ 9 then (Tr.ar kk : Int) else -1) = pp at *
    clear hpp
    generalize us.length = ul at *
    have hal := (Grew.refl w).alloc (.cells #[.int .i64 kk, .int .i64 aa, .string zz] 50)
    have hone := OwnT.one (w.alloc (.cells #[.int .i64 kk, .int .i64 aa, .string zz] 50)) (w.alloc (.cells #[.int .i64 kk, .int .i64 aa, .string zz] 50)).heap.size (kk, aa, zz) (Nat.le_refl _)
    have hg0 := (Grew.refl (w.alloc (.cells #[.int .i64 kk, .int .i64 aa, .string zz] 50))).alloc (.cells #[.int .i64 kk, .int .i64 aa, .string zz] 50)
    have HC0 := Lib.hid (fun W (hW : Grew (w.alloc (.cells #[.int .i64 kk, .int .i64 aa, .string zz] 50)) W) => ((hW.cell (p := ⟨w.heap.size, 0, none⟩) (by simp)).trans (by simp) : W.cell? ⟨w.heap.size, 0, none⟩ = some (.int .i64 kk)))
    go_enter Tryz.func101, Tryz.ntmps101
    go_wp2_with fail
    go_loopw [10, 11] (fun vv i wr => ∃ j : Nat, j ≤ m ∧ i = .int .i64 j ∧ Grew (w.alloc (.cells #[.int .i64 kk, .int .i64 aa, .string zz] 50)) wr ∧ OwnT wr (w.alloc (.cells #[.int .i64 kk, .int .i64 aa, .string zz] 50)).heap.size vv (ML j)) (fun _ i _ => m - (intOf i).toNat)
    case atStart => exact ⟨0, Nat.zero_le _, rfl, hg0, by rw [HS0.out]; simpa using hone⟩
    case round =>
      clear hone hg0
      obtain ⟨j, hj, rfl, hB, hO⟩ := hrel
      have e0 : ∀ W, Grew wr W → W.cell? ⟨w.heap.size, 0, none⟩ = some (.int .i64 kk) := fun W hW => HC0.out W (hB.trans hW)
      have hrr := Grew.refl wr
      by_cases hlt : j < m
      · have hP := Lib.hid (fun W (hW : Grew (w.alloc (.cells #[.int .i64 kk, .int .i64 aa, .string zz] 50)) W) => HP.out j hlt W (hal.trans hW))
        have hl1 := HLN.out j hj
        have hl2 := HLN2.out j (n + 1 + (d + Tr.bd kk j)) hlt
        have hst := Lib.hid (HST.out j)
        have hltI : (j : Int) < (m : Int) := by omega
        cases h1 : (kk == 1) with
        | true =>
          have hbd : Tr.bd kk j = 1 := by unfold Tr.bd; rw [if_pos (.inl (by simpa using h1))]
          rw [hbd] at hst hl2
          have hih := Lib.hid (fun x W (hW : Grew (w.alloc (.cells #[.int .i64 kk, .int .i64 aa, .string zz] 50)) W) hx => HIH.out j hlt x 1 W (hal.trans hW) (by omega) (by omega) hx)
          clear hbd
          generalize Tr.mapN (putN n us) (Tr.kid t j) (n + 1 + (d + 1)) = X at *
          generalize ML j = Y at *
          go_wp2_with fail
          refine (HPT.out _).mono ?_
          rintro e w2 ⟨rfl, hg2⟩
          rw [hpv]
          have hB2 := hB.trans hg2
          go_wp2_with fail
          refine (hP.out _ hB2).mono ?_
          rintro e w3 ⟨x, rfl, hx, hg3⟩
          have hB3 := hB2.trans hg3
          go_wp2_with fail
          refine (hih.out _ _ hB3 hx).mono ?_
          rintro e w4 ⟨q, rfl, hq, hg4⟩
          have hk4 := (hg2.trans hg3).trans hg4
          have hO4 := hO.grew hk4
          have hB4 := hB.trans hk4
          go_wp2_with (first | (at_builtin; refine wpList_appT (w0 := w.alloc (.cells #[.int .i64 kk, .int .i64 aa, .string zz] 50)) _ _ rfl rfl _ Y rfl hO4 hB4 _ X rfl hq.tms (by omega) ?_; intro v5 w5 hown5 hg5 hgr5))
          go_roundw
          case rel => exact ⟨j + 1, by omega, by go_num, hg5, by rw [hst.out]; exact hown5⟩
          case measure => simp [intOf]; omega
        | false =>
          have n1 : kk ≠ 1 := by simpa using h1
          cases h8 : (kk == 8) with
          | true =>
            have e8 : kk = 8 := by simpa using h8
            by_cases hj0 : 0 < j
            · have hbd : Tr.bd kk j = 1 := by unfold Tr.bd; rw [if_pos (.inr ⟨e8, hj0⟩)]
              rw [hbd] at hst hl2
              have hih := Lib.hid (fun x W (hW : Grew (w.alloc (.cells #[.int .i64 kk, .int .i64 aa, .string zz] 50)) W) hx => HIH.out j hlt x 1 W (hal.trans hW) (by omega) (by omega) hx)
              have hj0' : decide ((0 : Int) < (j : Int)) = true := by simp; omega
              clear hbd e8 n1
              generalize Tr.mapN (putN n us) (Tr.kid t j) (n + 1 + (d + 1)) = X at *
              generalize ML j = Y at *
              go_wp2_with fail
              refine (HPT.out _).mono ?_
              rintro e w2 ⟨rfl, hg2⟩
              rw [hpv]
              have hB2 := hB.trans hg2
              go_wp2_with fail
              refine (hP.out _ hB2).mono ?_
              rintro e w3 ⟨x, rfl, hx, hg3⟩
              have hB3 := hB2.trans hg3
              go_wp2_with fail
              refine (hih.out _ _ hB3 hx).mono ?_
              rintro e w4 ⟨q, rfl, hq, hg4⟩
              have hk4 := (hg2.trans hg3).trans hg4
              have hO4 := hO.grew hk4
              have hB4 := hB.trans hk4
              go_wp2_with (first | (at_builtin; refine wpList_appT (w0 := w.alloc (.cells #[.int .i64 kk, .int .i64 aa, .string zz] 50)) _ _ rfl rfl _ Y rfl hO4 hB4 _ X rfl hq.tms (by omega) ?_; intro v5 w5 hown5 hg5 hgr5))
              go_roundw
              case rel => exact ⟨j + 1, by omega, by go_num, hg5, by rw [hst.out]; exact hown5⟩
              case measure => simp [intOf]; omega
            · have hbd : Tr.bd kk j = 0 := by unfold Tr.bd; rw [if_neg (by omega)]
              rw [hbd, Int.add_zero] at hst hl2
              have hih := fun x W (hW : Grew (w.alloc (.cells #[.int .i64 kk, .int .i64 aa, .string zz] 50)) W) hx => HIH.out j hlt x 0 W (hal.trans hW) (by omega) (by omega) hx
              rw [Int.add_zero] at hih
              replace hih := Lib.hid hih
              have hj0' : decide ((0 : Int) < (j : Int)) = false := by simp; omega
              clear hbd e8 n1
              generalize Tr.mapN (putN n us) (Tr.kid t j) (n + 1 + d) = X at *
              generalize ML j = Y at *
              go_wp2_with fail
              refine (HPT.out _).mono ?_
              rintro e w2 ⟨rfl, hg2⟩
              rw [hpv]
              have hB2 := hB.trans hg2
              go_wp2_with fail
              refine (hP.out _ hB2).mono ?_
              rintro e w3 ⟨x, rfl, hx, hg3⟩
              have hB3 := hB2.trans hg3
              go_wp2_with fail
              refine (hih.out _ _ hB3 hx).mono ?_
              rintro e w4 ⟨q, rfl, hq, hg4⟩
              have hk4 := (hg2.trans hg3).trans hg4
              have hO4 := hO.grew hk4
              have hB4 := hB.trans hk4
              go_wp2_with (first | (at_builtin; refine wpList_appT (w0 := w.alloc (.cells #[.int .i64 kk, .int .i64 aa, .string zz] 50)) _ _ rfl rfl _ Y rfl hO4 hB4 _ X rfl hq.tms (by omega) ?_; intro v5 w5 hown5 hg5 hgr5))
              go_roundw
              case rel => exact ⟨j + 1, by omega, by go_num, hg5, by rw [hst.out]; exact hown5⟩
              case measure => simp [intOf]; omega
          | false =>
            have n8 : kk ≠ 8 := by simpa using h8
            have hbd : Tr.bd kk j = 0 := by unfold Tr.bd; rw [if_neg (by omega)]
            rw [hbd, Int.add_zero] at hst hl2
            have hih := fun x W (hW : Grew (w.alloc (.cells #[.int .i64 kk, .int .i64 aa, .string zz] 50)) W) hx => HIH.out j hlt x 0 W (hal.trans hW) (by omega) (by omega) hx
            rw [Int.add_zero] at hih
            replace hih := Lib.hid hih
            clear hbd n8 n1
            generalize Tr.mapN (putN n us) (Tr.kid t j) (n + 1 + d) = X at *
            generalize ML j = Y at *
            go_wp2_with fail
            refine (HPT.out _).mono ?_
            rintro e w2 ⟨rfl, hg2⟩
            rw [hpv]
            have hB2 := hB.trans hg2
            go_wp2_with fail
            refine (hP.out _ hB2).mono ?_
            rintro e w3 ⟨x, rfl, hx, hg3⟩
            have hB3 := hB2.trans hg3
            go_wp2_with fail
            refine (hih.out _ _ hB3 hx).mono ?_
            rintro e w4 ⟨q, rfl, hq, hg4⟩
            have hk4 := (hg2.trans hg3).trans hg4
            have hO4 := hO.grew hk4
            have hB4 := hB.trans hk4
            go_wp2_with (first | (at_builtin; refine wpList_appT (w0 := w.alloc (.cells #[.int .i64 kk, .int .i64 aa, .string zz] 50)) _ _ rfl rfl _ Y rfl hO4 hB4 _ X rfl hq.tms (by omega) ?_; intro v5 w5 hown5 hg5 hgr5))
            go_roundw
            case rel => exact ⟨j + 1, by omega, by go_num, hg5, by rw [hst.out]; exact hown5⟩
            case measure => simp [intOf]; omega
      · obtain rfl : j = m := by omega
        go_wp2_with fail
        refine (HPT.out _).mono ?_
        rintro e w2 ⟨rfl, hg2⟩
        rw [hpv]
        go_wp2_with fail
        go_ret
        exact ⟨_, rfl, (hO.grew hg2).base hal.size, (hal.trans hB).trans hg2⟩
end Go.Proofs.YtdndclfjeajhiaaGreat

/- l26Contract of the reference. -/
namespace Go.Proofs.YtdndclfjeajhiaaGreat
open Go.RowKit
open Tr (Tm)

theorem l26Contract_c (v : Value) (t : Tm) (n : Int) (w : World) (h : Tms w v (Tr.enc t)) (hg : Good t) (hr : rdxAt (Tr.enc t) 0 = true) (hlen : (Tr.enc t).length ≤ 800) (hn0 : 0 ≤ n) (hn1 : n ≤ 900) :
    Calls Tryz.prog 75 #[v, .int .i64 n] w (GivesR w (ctr t n)) := by
  have HF := Lib.hid (fun k W (hW : Grew w W) (hk : k < (Tr.kids t).length) => l26Part_c v t k W (h.grew hW) hg (by omega) hk)
  obtain ⟨b0, o0, c0, rfl, hc0, hm0, hb0, hcl0⟩ := tms_head h
  have k0 := fun W (hW : Grew w W) => (hcl0 W hW).1
  have hpos := Tr.enc_pos t
  have hrr := Grew.refl w
  rcases rdx_shape hg hr with ⟨x, y, b, u, rfl, hx, hy⟩ | ⟨x, y, a, b, rfl, hx, hy⟩ | ⟨x, y, s, a, b, rfl, hx, hy⟩
  · have hgf : Good (.t1 y b) := hg.2.1
    have hgb : Good b := hgf.2
    have hgu : Good u := hg.2.2
    have hl2 : (Tr.enc b).length ≤ 800 ∧ (Tr.enc u).length ≤ 800 := by simp [Tr.enc] at hlen ⊢; omega
    obtain ⟨hl3, hl4⟩ := hl2
    have HP0 := fun vb vu W (hb : Tms W vb (Tr.enc b)) (hu : Tms W vu (Tr.enc u)) => l26Put_c n (Tr.enc u) (by omega) (good_numOk hgu) hn0 (by omega) b hgb vb vu 0 W hb (by omega) hu (by omega) (by omega)
    simp only [Int.add_zero] at HP0
    have HP := Lib.hid HP0
    have HF0 := Lib.hid (fun W (hW : Grew w W) => HF.out 0 W hW (by decide : 0 < 2))
    have HF1 := Lib.hid (fun W (hW : Grew w W) => HF.out 1 W hW (by decide : 1 < 2))
    rw [show Tr.kid (.t2 x (.t1 y b) u) 0 = .t1 y b from rfl] at HF0
    rw [show Tr.kid (.t2 x (.t1 y b) u) 1 = u from rfl] at HF1
    have hct : ctr (.t2 x (.t1 y b) u) n = Tr.mapN (putN n (Tr.enc u)) b (n + 1) := rfl
    rw [hct]
    have ek : (Tr.hd (.t2 x (.t1 y b) u)).1 = 2 := hx
    rw [ek] at k0
    generalize (Tr.enc (.t2 x (.t1 y b) u)).length = ll at *
    clear h hcl0 hr hct ek HP0 HF
    generalize Tr.mapN (putN n (Tr.enc u)) b (n + 1) = R at *
    go_enter Tryz.func75, Tryz.ntmps75
    go_wp2_with fail
    refine (HF0.out _ hrr).mono ?_
    rintro e w1 ⟨fv, rfl, hf, hg1⟩
    obtain ⟨b1, o1, c1, rfl, hc1, hm1, hb1, hcl1⟩ := tms_head hf
    have hsub := sub_one (x := y) (a := b) (by simpa [Tr.enc] using hf) (by simpa [Tr.enc] using hc1) hm1
    have hlc : (Tr.enc (.t1 y b)).length = (Tr.enc b).length + 1 := by simp [Tr.enc]
    rw [hlc] at hc1 ⊢
    have HS := Lib.hid hsub
    have q1 := fun W (hW : Grew w1 W) => (hcl1 W hW).1
    change ∀ W, Grew w1 W → W.cell? ⟨b1, o1, none⟩ = some (.int .i64 y.1) at q1
    clear hsub hcl1 hf hlc
    have hc1n : ¬ c1 = 1 := by have := Tr.enc_pos b; omega
    have hs0 := Tr.enc_pos b
    have r1 := Grew.refl w1
    have d1 := r1.drew
    have i1 : (1 : Int) ≤ ((Tr.enc b).length : Int) + 1 := by omega
    have i2 : ((Tr.enc b).length : Int) + 1 ≤ (c1 : Int) := by omega
    have i3 : (0 : Int) ≤ ((Tr.enc b).length : Int) := by omega
    have g0 := fun W (hW : Grew w1 W) => k0 W (hg1.trans hW)
    go_wp2_with fail
    go_region_held3 (fun w' => Grew w1 w') (with_reducible assumption)
      (first
        | (go_at_call 68; refine (HF1.out _ (hg1.trans d1)).mono ?_; rintro e w2 ⟨uv, rfl, hu, hg2⟩; have hk2 := d1.trans hg2)
        | (go_at_call 101; refine (HP.out _ _ _ (HS.out.grew (d1.trans hg2)) (hu)).mono ?_; rintro e w3 ⟨q, rfl, hq, hg3⟩; have hk3 := (d1.trans hg2).trans hg3))
    go_wp2_with fail
    go_ret
    exact ⟨_, rfl, hq.tms, hg1.trans hk3⟩
  · have hgf : Good (.t2 y a b) := hg.2
    have hl2 : (Tr.enc (.t2 y a b)).length ≤ 800 := by simp [Tr.enc] at hlen ⊢; omega
    have HF0 := Lib.hid (fun W (hW : Grew w W) => HF.out 0 W hW (by decide : 0 < 1))
    rw [show Tr.kid (.t1 x (.t2 y a b)) 0 = .t2 y a b from rfl] at HF0
    have HG0 := Lib.hid (fun v W (hv : Tms W v (Tr.enc (.t2 y a b))) => l26Part_c v (.t2 y a b) 0 W hv hgf (by omega) (by decide : 0 < 2))
    have HG1 := Lib.hid (fun v W (hv : Tms W v (Tr.enc (.t2 y a b))) => l26Part_c v (.t2 y a b) 1 W hv hgf (by omega) (by decide : 1 < 2))
    rw [show Tr.kid (.t2 y a b) 0 = a from rfl] at HG0
    rw [show Tr.kid (.t2 y a b) 1 = b from rfl] at HG1
    rcases hx with hx | hx
    · have hct : ctr (.t1 x (.t2 y a b)) n = Tr.enc a := by simp [ctr, hx, Tr.kid, Tr.kids]
      rw [hct]
      have ek : (Tr.hd (.t1 x (.t2 y a b))).1 = 4 := hx
      rw [ek] at k0
      generalize (Tr.enc (.t1 x (.t2 y a b))).length = ll at *
      clear h hcl0 hr hct ek HF
      go_enter Tryz.func75, Tryz.ntmps75
      go_wp2_with fail
      refine (HF0.out _ hrr).mono ?_
      rintro e w1 ⟨fv, rfl, hf, hg1⟩
      have g0 := fun W (hW : Grew w1 W) => k0 W (hg1.trans hW)
      have r1 := Grew.refl w1
      have HF2 := Lib.hid hf
      obtain ⟨A1, c1, rfl⟩ := tms_slice hf
      clear hf
      go_wp2_with fail
      refine (HG0.out _ _ HF2.out).mono ?_
      rintro e w2 ⟨q, rfl, hq, hg2⟩
      go_wp2_with fail
      go_ret
      exact ⟨_, rfl, hq, hg1.trans hg2⟩
    · have hct : ctr (.t1 x (.t2 y a b)) n = Tr.enc b := by simp [ctr, hx, Tr.kid, Tr.kids]
      rw [hct]
      have ek : (Tr.hd (.t1 x (.t2 y a b))).1 = 5 := hx
      rw [ek] at k0
      generalize (Tr.enc (.t1 x (.t2 y a b))).length = ll at *
      clear h hcl0 hr hct ek HF
      go_enter Tryz.func75, Tryz.ntmps75
      go_wp2_with fail
      refine (HF0.out _ hrr).mono ?_
      rintro e w1 ⟨fv, rfl, hf, hg1⟩
      have g0 := fun W (hW : Grew w1 W) => k0 W (hg1.trans hW)
      have r1 := Grew.refl w1
      have HF2 := Lib.hid hf
      obtain ⟨A1, c1, rfl⟩ := tms_slice hf
      clear hf
      go_wp2_with fail
      refine (HG1.out _ _ HF2.out).mono ?_
      rintro e w2 ⟨q, rfl, hq, hg2⟩
      go_wp2_with fail
      go_ret
      exact ⟨_, rfl, hq, hg1.trans hg2⟩
  · have hgf : Good (.t1 y s) := hg.2.1
    have hgs : Good s := hgf.2
    have hga : Good a := hg.2.2.1
    have hgb : Good b := hg.2.2.2
    have hl2 : (Tr.enc s).length ≤ 800 ∧ (Tr.enc a).length ≤ 800 ∧ (Tr.enc b).length ≤ 800 := by simp [Tr.enc] at hlen ⊢; omega
    obtain ⟨hl3, hl4, hl5⟩ := hl2
    have HF0 := Lib.hid (fun W (hW : Grew w W) => HF.out 0 W hW (by decide : 0 < 3))
    rw [show Tr.kid (.t3 x (.t1 y s) a b) 0 = .t1 y s from rfl] at HF0
    have HF1 := Lib.hid (fun W (hW : Grew w W) => HF.out 1 W hW (by decide : 1 < 3))
    rw [show Tr.kid (.t3 x (.t1 y s) a b) 1 = a from rfl] at HF1
    have HF2 := Lib.hid (fun W (hW : Grew w W) => HF.out 2 W hW (by decide : 2 < 3))
    rw [show Tr.kid (.t3 x (.t1 y s) a b) 2 = b from rfl] at HF2
    have ek : (Tr.hd (.t3 x (.t1 y s) a b)).1 = 8 := hx
    rw [ek] at k0
    rcases hy with hy | hy
    · have HP0 := fun vb vu W (hb : Tms W vb (Tr.enc a)) (hu : Tms W vu (Tr.enc s)) => l26Put_c n (Tr.enc s) (by omega) (good_numOk hgs) hn0 (by omega) a hga vb vu 0 W hb (by omega) hu (by omega) (by omega)
      simp only [Int.add_zero] at HP0
      have HP := Lib.hid HP0
      have hct : ctr (.t3 x (.t1 y s) a b) n = Tr.mapN (putN n (Tr.enc s)) a (n + 1) := by simp [ctr, hy, Tr.kid, Tr.kids, Tr.hd]
      rw [hct]
      generalize (Tr.enc (.t3 x (.t1 y s) a b)).length = ll at *
      clear h hcl0 hr hct ek HP0 HF
      generalize Tr.mapN (putN n (Tr.enc s)) a (n + 1) = R at *
      go_enter Tryz.func75, Tryz.ntmps75
      go_wp2_with fail
      refine (HF0.out _ hrr).mono ?_
      rintro e w1 ⟨fv, rfl, hf, hg1⟩
      obtain ⟨b1, o1, c1, rfl, hc1, hm1, hb1, hcl1⟩ := tms_head hf
      have hsub := sub_one (x := y) (a := s) (by simpa [Tr.enc] using hf) (by simpa [Tr.enc] using hc1) hm1
      have hlc : (Tr.enc (.t1 y s)).length = (Tr.enc s).length + 1 := by simp [Tr.enc]
      rw [hlc] at hc1 ⊢
      have HS := Lib.hid hsub
      have q1 := fun W (hW : Grew w1 W) => (hcl1 W hW).1
      change ∀ W, Grew w1 W → W.cell? ⟨b1, o1, none⟩ = some (.int .i64 y.1) at q1
      clear hsub hcl1 hf hlc
      have hc1n : ¬ c1 = 1 := by have := Tr.enc_pos s; omega
      have hs0 := Tr.enc_pos s
      have r1 := Grew.refl w1
      have d1 := r1.drew
      rw [hy] at q1
      have i1 : (1 : Int) ≤ ((Tr.enc s).length : Int) + 1 := by omega
      have i2 : ((Tr.enc s).length : Int) + 1 ≤ (c1 : Int) := by omega
      have i3 : (0 : Int) ≤ ((Tr.enc s).length : Int) := by omega
      have g0 := fun W (hW : Grew w1 W) => k0 W (hg1.trans hW)
      go_wp2_with fail
      go_region_held3 (fun w' => Grew w1 w') (with_reducible assumption)
        (first
          | (go_at_call 68; refine (HF1.out _ (hg1.trans d1)).mono ?_; rintro e w2 ⟨uv, rfl, hu, hg2⟩; have hk2 := d1.trans hg2)
          | (go_at_call 101; refine (HP.out _ _ _ (hu) (HS.out.grew (d1.trans hg2))).mono ?_; rintro e w3 ⟨q, rfl, hq, hg3⟩; have hk3 := (d1.trans hg2).trans hg3))
      go_wp2_with fail
      go_ret
      exact ⟨_, rfl, hq.tms, hg1.trans hk3⟩
    · have HP0 := fun vb vu W (hb : Tms W vb (Tr.enc b)) (hu : Tms W vu (Tr.enc s)) => l26Put_c n (Tr.enc s) (by omega) (good_numOk hgs) hn0 (by omega) b hgb vb vu 0 W hb (by omega) hu (by omega) (by omega)
      simp only [Int.add_zero] at HP0
      have HP := Lib.hid HP0
      have hct : ctr (.t3 x (.t1 y s) a b) n = Tr.mapN (putN n (Tr.enc s)) b (n + 1) := by simp [ctr, hy, Tr.kid, Tr.kids, Tr.hd]
      rw [hct]
      generalize (Tr.enc (.t3 x (.t1 y s) a b)).length = ll at *
      clear h hcl0 hr hct ek HP0 HF
      generalize Tr.mapN (putN n (Tr.enc s)) b (n + 1) = R at *
      go_enter Tryz.func75, Tryz.ntmps75
      go_wp2_with fail
      refine (HF0.out _ hrr).mono ?_
      rintro e w1 ⟨fv, rfl, hf, hg1⟩
      obtain ⟨b1, o1, c1, rfl, hc1, hm1, hb1, hcl1⟩ := tms_head hf
      have hsub := sub_one (x := y) (a := s) (by simpa [Tr.enc] using hf) (by simpa [Tr.enc] using hc1) hm1
      have hlc : (Tr.enc (.t1 y s)).length = (Tr.enc s).length + 1 := by simp [Tr.enc]
      rw [hlc] at hc1 ⊢
      have HS := Lib.hid hsub
      have q1 := fun W (hW : Grew w1 W) => (hcl1 W hW).1
      change ∀ W, Grew w1 W → W.cell? ⟨b1, o1, none⟩ = some (.int .i64 y.1) at q1
      clear hsub hcl1 hf hlc
      have hc1n : ¬ c1 = 1 := by have := Tr.enc_pos s; omega
      have hs0 := Tr.enc_pos s
      have r1 := Grew.refl w1
      have d1 := r1.drew
      rw [hy] at q1
      have i1 : (1 : Int) ≤ ((Tr.enc s).length : Int) + 1 := by omega
      have i2 : ((Tr.enc s).length : Int) + 1 ≤ (c1 : Int) := by omega
      have i3 : (0 : Int) ≤ ((Tr.enc s).length : Int) := by omega
      have g0 := fun W (hW : Grew w1 W) => k0 W (hg1.trans hW)
      go_wp2_with fail
      go_region_held3 (fun w' => Grew w1 w') (with_reducible assumption)
        (first
          | (go_at_call 68; refine (HF2.out _ (hg1.trans d1)).mono ?_; rintro e w2 ⟨uv, rfl, hu, hg2⟩; have hk2 := d1.trans hg2)
          | (go_at_call 101; refine (HP.out _ _ _ (hu) (HS.out.grew (d1.trans hg2))).mono ?_; rintro e w3 ⟨q, rfl, hq, hg3⟩; have hk3 := (d1.trans hg2).trans hg3))
      go_wp2_with fail
      go_ret
      exact ⟨_, rfl, hq.tms, hg1.trans hk3⟩
end Go.Proofs.YtdndclfjeajhiaaGreat

/- l26At of the reference. -/
namespace Go.Proofs.YtdndclfjeajhiaaGreat
open Go.RowKit
open Tr (Tm)

set_option maxHeartbeats 800000 in
theorem l26At_c : ∀ t : Tm, Good t → ∀ (v : Value) (n : Int) (i : Nat) (w : World), Tms w v (Tr.enc t) → rdxAt (Tr.enc t) i = true → (Tr.enc t).length ≤ 60 → 0 ≤ n → n + (Tr.enc t).length ≤ 800 →
    Calls Tryz.prog 44 #[v, .int .i64 n, .int .i64 i] w (GivesT w (ctAt t n i)) := by
  intro t
  refine Tr.ind (P := fun t => Good t → ∀ (v : Value) (n : Int) (i : Nat) (w : World), Tms w v (Tr.enc t) → rdxAt (Tr.enc t) i = true → (Tr.enc t).length ≤ 60 → 0 ≤ n → n + (Tr.enc t).length ≤ 800 →
    Calls Tryz.prog 44 #[v, .int .i64 n, .int .i64 i] w (GivesT w (ctAt t n i))) ?_ t
  intro t ih hg v n i w h hr hlen hn0 hn1
  by_cases hi : i = 0
  · subst hi
    rw [ctAt_zero]
    have HC := Lib.hid (fun W (hW : Grew w W) => l26Contract_c v t n W (h.grew hW) hg hr (by omega) hn0 (by omega))
    have hlr := Nat.le_trans (ctr_len (n := n) (M := 60) hg hr hlen) (Nat.mul_le_mul_right 61 hlen)
    obtain ⟨A, c, rfl⟩ := tms_slice h
    clear h hr hg ih
    generalize ctr t n = R at *
    generalize (Tr.enc t).length = nn at *
    have he := own_emptyT w
    have hg0 := (Grew.refl w).alloc (.cells #[] 50)
    go_enter Tryz.func44, Tryz.ntmps44
    go_wp2_with fail
    refine (HC.out _ hg0).mono ?_
    rintro e w1 ⟨u, rfl, ho, hg1⟩
    have he1 := he.grew hg1
    have hk1 := hg0.trans hg1
    clear he
    go_wp2_with (first | (at_builtin; refine wpList_appT (w0 := w) _ _ rfl rfl _ [] rfl he1 hk1 _ R rfl ho (by simp; omega) ?_; intro v2 w2 hown2 hg2 _))
    go_ret
    exact ⟨_, rfl, by simpa using hown2, hg2⟩
  · have hir := rdxAt_lt hr
    have hEnd := Lib.hid (fun j (hj : j < (Tr.kids t).length) W (hW : Grew w W) => by
      have h1 := l26End_c v (Tr.enc t) (Tr.enc t).length (Tr.off t j) W (by omega) (h.grew hW) (by omega) (by have := Tr.off_end hj; omega)
      rw [Tr.pend_kid hg hj, Int.natCast_add] at h1
      exact h1)
    obtain ⟨b, o, c, rfl, hc, hm, hb, hcl⟩ := tms_head h
    have hpos := Tr.enc_pos t
    obtain ⟨k1, k2, k3⟩ := hcl _ (Grew.refl w)
    rw [ctAt_kids (by omega)]
    have hk0 : 0 < (Tr.kids t).length := by
      rcases Nat.eq_zero_or_pos (Tr.kids t).length with h0 | h0
      · have h1 := List.eq_nil_of_length_eq_zero h0
        have h2 : (Tr.enc t).length = 1 := by rw [Tr.enc_kids, h1]; rfl
        omega
      · exact h0
    have hkl := Tr.kids_len hg
    have har := Tr.ar_le (Tr.hd t).1
    have hgk := good_kind hg
    have hpv : (if 0 ≤ (Tr.hd t).1 ∧ (Tr.hd t).1 ≤ 9 then (Tr.ar (Tr.hd t).1 : Int) else -1) = (((Tr.kids t).length : Nat) : Int) := by rw [if_pos hgk, hkl]
    have HPT := Lib.hid (fun w => l26Parts_c (Tr.hd t).1 w)
    have HLN := Lib.hid (fun j hj => Nat.le_trans (ctL_len (n := n) (M := 60) hg hr hlen j hj) (Nat.mul_le_mul_right 61 (show Tr.off t j ≤ 61 from by
      rcases Nat.lt_or_ge j (Tr.kids t).length with hh | hh
      · have := Tr.off_end hh; omega
      · have e : Tr.off t j = Tr.off t (Tr.kids t).length := by unfold Tr.off; rw [List.take_of_length_le hh, List.take_length]
        rw [e]
        have := Tr.off_end (t := t) (i := (Tr.kids t).length - 1) (by omega)
        have e2 := Tr.off_next (t := t) (i := (Tr.kids t).length - 1) (by omega)
        rw [show (Tr.kids t).length - 1 + 1 = (Tr.kids t).length by omega] at e2
        omega)))
    have HIH := Lib.hid (fun j (hj : j < (Tr.kids t).length) (hc : Tr.off t j ≤ i ∧ i < Tr.off t j + (Tr.enc (Tr.kid t j)).length) u d W (hd0 : 0 ≤ d) (hd1 : d ≤ 1) hu => ih _ (Tr.kid_mem hj) (Tr.kids_wf hg _ (Tr.kid_mem hj)) u (n + d) (i - Tr.off t j) W hu (rdx_kid hg hr hj hc) (by have := Tr.kid_small hj; omega) (by omega) (by have := Tr.kid_small hj; omega))
    have HOF := Lib.hid (fun j (hj : j < (Tr.kids t).length) => (⟨Tr.off_end hj, Tr.off_next hj, Tr.enc_pos (Tr.kid t j)⟩ : Tr.off t j + (Tr.enc (Tr.kid t j)).length ≤ (Tr.enc t).length ∧ Tr.off t (j + 1) = Tr.off t j + (Tr.enc (Tr.kid t j)).length ∧ 1 ≤ (Tr.enc (Tr.kid t j)).length))
    have hoz := Tr.off_zero t
    have HSU := Lib.hid (fun j (hj : j < (Tr.kids t).length) => by
      have h1 := h.sub (Tr.off t j) (Tr.enc (Tr.kid t j)).length (c - Tr.off t j) (Tr.off_end hj) (by have := Tr.off_end hj; omega) (by omega)
      rw [Tr.take_kid hj] at h1
      exact h1)
    have HP1 := Lib.hid (fun j (hc : Tr.off t j ≤ i ∧ i < Tr.off t j + (Tr.enc (Tr.kid t j)).length) => (by unfold ctP; exact if_pos hc : ctP t n i j = ctAt (Tr.kid t j) (n + Tr.bd (Tr.hd t).1 j) (i - Tr.off t j)))
    have HP2 := Lib.hid (fun j (hc : ¬ (Tr.off t j ≤ i ∧ i < Tr.off t j + (Tr.enc (Tr.kid t j)).length)) => (by unfold ctP; exact if_neg hc : ctP t n i j = Tr.enc (Tr.kid t j)))
    have HPL := Lib.hid (fun j (hj : j < (Tr.kids t).length) (hc : Tr.off t j ≤ i ∧ i < Tr.off t j + (Tr.enc (Tr.kid t j)).length) => Nat.le_trans (ctAt_len (M := 60) _ (Tr.kids_wf hg _ (Tr.kid_mem hj)) (n + Tr.bd (Tr.hd t).1 j) _ (rdx_kid hg hr hj hc) (by have := Tr.kid_small hj; omega)) (Nat.mul_le_mul_right 61 (show (Tr.enc (Tr.kid t j)).length ≤ 60 from by have := Tr.kid_small hj; omega)))
    obtain ⟨ML, hML⟩ : ∃ ML, ML = ctL t n i := ⟨_, rfl⟩
    have HST := Lib.hid (fun j => (by rw [hML]; rfl : ML (j + 1) = ML j ++ ctP t n i j))
    have HS0 : Hid (ML 0 = [((Tr.hd t).1, (Tr.hd t).2.1, (Tr.hd t).2.2)]) := Lib.hid (by rw [hML]; rfl)
    rw [← hML] at HLN ⊢
    have HK := Lib.hid (fun W (hW : Grew w W) => (hcl W hW).1)
    clear hML hcl ih hg h hr hgk hkl
    generalize (Tr.hd t).1 = kk at *
    generalize (Tr.hd t).2.1 = aa at *
    generalize (Tr.hd t).2.2 = zz at *
    generalize (Tr.enc t).length = nn at *
    generalize hMM : (Tr.kids t).length = m at *
    have hi0 : ((i : Int) == 0) = false := by simpa using hi
    have hm3 : m ≤ 3 := by have h9 := hpv; split at h9 <;> omega
    generalize hpp : (if 0 ≤ kk ∧ kk ≤ 9 then (Tr.ar kk : Int) else -1) = pp at *
    clear hpp har
    have hal := (Grew.refl w).alloc (.cells #[.int .i64 kk, .int .i64 aa, .string zz] 50)
    have hone := OwnT.one w w.heap.size (kk, aa, zz) (Nat.le_refl _)
    go_enter Tryz.func44, Tryz.ntmps44
    go_wp2_with fail
    go_loopw [7, 8, 9] (fun vv x i' wr => ∃ j : Nat, j ≤ m ∧ i' = .int .i64 j ∧ x = .int .i64 (Tr.off t j) ∧ Grew w wr ∧ OwnT wr w.heap.size vv (ML j)) (fun _ _ i' _ => m - (intOf i').toNat)
    case atStart => exact ⟨0, Nat.zero_le _, rfl, by rw [hoz]; rfl, hal, by rw [HS0.out]; exact hone⟩
    case round =>
      clear hone hal
      obtain ⟨j, hj, rfl, rfl, hB, hO⟩ := hrel
      have e0 : ∀ W, Grew wr W → W.cell? ⟨b, o, none⟩ = some (.int .i64 kk) := fun W hW => HK.out W (hB.trans hW)
      have hrr := Grew.refl wr
      by_cases hlt : j < m
      · obtain ⟨hl1, hl2, hl3⟩ := HOF.out j hlt
        have HL2 := Lib.hid hl2
        have hln := HLN.out j hj
        have hst := Lib.hid (HST.out j)
        have hEn := Lib.hid (fun W hW => hEnd.out j hlt W hW)
        have hSu := Lib.hid (fun W (hW : Grew w W) => (HSU.out j hlt).grew hW)
        have hltI : (j : Int) < (m : Int) := by omega
        clear hl2
        by_cases hc : Tr.off t j ≤ i ∧ i < Tr.off t j + (Tr.enc (Tr.kid t j)).length
        · have hX := HPL.out j hlt hc
          rw [HP1.out j hc] at hst
          have hih := fun W hu => HIH.out j hlt hc (.slice (some ⟨b, o + Tr.off t j * 3, none⟩) (Tr.enc (Tr.kid t j)).length (c - Tr.off t j)) (Tr.bd kk j) W (by unfold Tr.bd; split <;> omega) (by unfold Tr.bd; split <;> omega) hu
          rw [Int.ofNat_sub hc.1] at hih
          obtain ⟨hc3, hc4⟩ := hc
          cases h1 : (kk == 1) with
          | true =>
            have hbd : Tr.bd kk j = 1 := by unfold Tr.bd; rw [if_pos (.inl (by simpa using h1))]
            rw [hbd] at hih hX hst
            clear hbd
            replace hih := Lib.hid hih
            replace hX := hX
            generalize ctAt (Tr.kid t j) (n + 1) (i - Tr.off t j) = X at *
            generalize Tr.enc (Tr.kid t j) = KT at *
            skip
            generalize Tr.off t j = oj at *
            generalize ML j = Y at *
            have hq0 : (0 : Int) ≤ (oj : Int) := by omega
            have hq1 : (oj : Int) ≤ (oj : Int) + (KT.length : Int) := by omega
            have hq2 : (oj : Int) + (KT.length : Int) ≤ (c : Int) := by omega
            have hd1 : decide ((oj : Int) ≤ (i : Int)) = true := by simp; omega
            have hd2 : decide ((i : Int) < (oj : Int) + (KT.length : Int)) = true := by simp; omega
            go_wp2_with fail
            refine (HPT.out _).mono ?_
            rintro e w2 ⟨rfl, hg2⟩
            rw [hpv]
            have hB2 := hB.trans hg2
            go_wp2_with fail
            refine (hEn.out _ hB2).mono ?_
            rintro e w3 ⟨rfl, hg3⟩
            have hk3 := hg2.trans hg3
            have hB3 := hB.trans hk3
            have hO3 := hO.grew hk3
            have S3 := Lib.hid (hSu.out _ hB3)
            go_wp2_with fail
            refine (hih.out _ S3.out).mono ?_
            rintro e w4 ⟨q, rfl, hq, hg4⟩
            have hO4 := hO3.grew hg4
            have hB4 := hB3.trans hg4
            go_wp2_with (first | (at_builtin; refine wpList_appT (w0 := w) _ _ rfl rfl _ Y rfl hO4 hB4 _ X rfl hq.tms (by omega) ?_; intro v5 w5 hown5 hg5 hgr5))
            go_roundw
            case rel => exact ⟨j + 1, by omega, by go_num, by rw [HL2.out]; go_num, hg5, by rw [hst.out]; exact hown5⟩
            case measure => simp [intOf]; omega
          | false =>
            have n1 : kk ≠ 1 := by simpa using h1
            cases h8 : (kk == 8) with
            | true =>
              have e8 : kk = 8 := by simpa using h8
              by_cases hj0 : 0 < j
              · have hbd : Tr.bd kk j = 1 := by unfold Tr.bd; rw [if_pos (.inr ⟨e8, hj0⟩)]
                have hj0' : decide ((0 : Int) < (j : Int)) = true := by simp; omega
                clear e8 n1
                rw [hbd] at hih hX hst
                clear hbd
                replace hih := Lib.hid hih
                replace hX := hX
                generalize ctAt (Tr.kid t j) (n + 1) (i - Tr.off t j) = X at *
                generalize Tr.enc (Tr.kid t j) = KT at *
                skip
                generalize Tr.off t j = oj at *
                generalize ML j = Y at *
                have hq0 : (0 : Int) ≤ (oj : Int) := by omega
                have hq1 : (oj : Int) ≤ (oj : Int) + (KT.length : Int) := by omega
                have hq2 : (oj : Int) + (KT.length : Int) ≤ (c : Int) := by omega
                have hd1 : decide ((oj : Int) ≤ (i : Int)) = true := by simp; omega
                have hd2 : decide ((i : Int) < (oj : Int) + (KT.length : Int)) = true := by simp; omega
                go_wp2_with fail
                refine (HPT.out _).mono ?_
                rintro e w2 ⟨rfl, hg2⟩
                rw [hpv]
                have hB2 := hB.trans hg2
                go_wp2_with fail
                refine (hEn.out _ hB2).mono ?_
                rintro e w3 ⟨rfl, hg3⟩
                have hk3 := hg2.trans hg3
                have hB3 := hB.trans hk3
                have hO3 := hO.grew hk3
                have S3 := Lib.hid (hSu.out _ hB3)
                go_wp2_with fail
                refine (hih.out _ S3.out).mono ?_
                rintro e w4 ⟨q, rfl, hq, hg4⟩
                have hO4 := hO3.grew hg4
                have hB4 := hB3.trans hg4
                go_wp2_with (first | (at_builtin; refine wpList_appT (w0 := w) _ _ rfl rfl _ Y rfl hO4 hB4 _ X rfl hq.tms (by omega) ?_; intro v5 w5 hown5 hg5 hgr5))
                go_roundw
                case rel => exact ⟨j + 1, by omega, by go_num, by rw [HL2.out]; go_num, hg5, by rw [hst.out]; exact hown5⟩
                case measure => simp [intOf]; omega
              · have hbd : Tr.bd kk j = 0 := by unfold Tr.bd; rw [if_neg (by omega)]
                have hj0' : decide ((0 : Int) < (j : Int)) = false := by simp; omega
                clear e8 n1
                rw [hbd, Int.add_zero] at hih hX hst
                clear hbd
                replace hih := Lib.hid hih
                replace hX := hX
                generalize ctAt (Tr.kid t j) (n) (i - Tr.off t j) = X at *
                generalize Tr.enc (Tr.kid t j) = KT at *
                skip
                generalize Tr.off t j = oj at *
                generalize ML j = Y at *
                have hq0 : (0 : Int) ≤ (oj : Int) := by omega
                have hq1 : (oj : Int) ≤ (oj : Int) + (KT.length : Int) := by omega
                have hq2 : (oj : Int) + (KT.length : Int) ≤ (c : Int) := by omega
                have hd1 : decide ((oj : Int) ≤ (i : Int)) = true := by simp; omega
                have hd2 : decide ((i : Int) < (oj : Int) + (KT.length : Int)) = true := by simp; omega
                go_wp2_with fail
                refine (HPT.out _).mono ?_
                rintro e w2 ⟨rfl, hg2⟩
                rw [hpv]
                have hB2 := hB.trans hg2
                go_wp2_with fail
                refine (hEn.out _ hB2).mono ?_
                rintro e w3 ⟨rfl, hg3⟩
                have hk3 := hg2.trans hg3
                have hB3 := hB.trans hk3
                have hO3 := hO.grew hk3
                have S3 := Lib.hid (hSu.out _ hB3)
                go_wp2_with fail
                refine (hih.out _ S3.out).mono ?_
                rintro e w4 ⟨q, rfl, hq, hg4⟩
                have hO4 := hO3.grew hg4
                have hB4 := hB3.trans hg4
                go_wp2_with (first | (at_builtin; refine wpList_appT (w0 := w) _ _ rfl rfl _ Y rfl hO4 hB4 _ X rfl hq.tms (by omega) ?_; intro v5 w5 hown5 hg5 hgr5))
                go_roundw
                case rel => exact ⟨j + 1, by omega, by go_num, by rw [HL2.out]; go_num, hg5, by rw [hst.out]; exact hown5⟩
                case measure => simp [intOf]; omega
            | false =>
              have n8 : kk ≠ 8 := by simpa using h8
              have hbd : Tr.bd kk j = 0 := by unfold Tr.bd; rw [if_neg (by omega)]
              clear n8 n1
              rw [hbd, Int.add_zero] at hih hX hst
              clear hbd
              replace hih := Lib.hid hih
              replace hX := hX
              generalize ctAt (Tr.kid t j) (n) (i - Tr.off t j) = X at *
              generalize Tr.enc (Tr.kid t j) = KT at *
              skip
              generalize Tr.off t j = oj at *
              generalize ML j = Y at *
              have hq0 : (0 : Int) ≤ (oj : Int) := by omega
              have hq1 : (oj : Int) ≤ (oj : Int) + (KT.length : Int) := by omega
              have hq2 : (oj : Int) + (KT.length : Int) ≤ (c : Int) := by omega
              have hd1 : decide ((oj : Int) ≤ (i : Int)) = true := by simp; omega
              have hd2 : decide ((i : Int) < (oj : Int) + (KT.length : Int)) = true := by simp; omega
              go_wp2_with fail
              refine (HPT.out _).mono ?_
              rintro e w2 ⟨rfl, hg2⟩
              rw [hpv]
              have hB2 := hB.trans hg2
              go_wp2_with fail
              refine (hEn.out _ hB2).mono ?_
              rintro e w3 ⟨rfl, hg3⟩
              have hk3 := hg2.trans hg3
              have hB3 := hB.trans hk3
              have hO3 := hO.grew hk3
              have S3 := Lib.hid (hSu.out _ hB3)
              go_wp2_with fail
              refine (hih.out _ S3.out).mono ?_
              rintro e w4 ⟨q, rfl, hq, hg4⟩
              have hO4 := hO3.grew hg4
              have hB4 := hB3.trans hg4
              go_wp2_with (first | (at_builtin; refine wpList_appT (w0 := w) _ _ rfl rfl _ Y rfl hO4 hB4 _ X rfl hq.tms (by omega) ?_; intro v5 w5 hown5 hg5 hgr5))
              go_roundw
              case rel => exact ⟨j + 1, by omega, by go_num, by rw [HL2.out]; go_num, hg5, by rw [hst.out]; exact hown5⟩
              case measure => simp [intOf]; omega
        · rw [HP2.out j hc] at hst
          by_cases hc3 : Tr.off t j ≤ i
          · have hc4 : Tr.off t j + (Tr.enc (Tr.kid t j)).length ≤ i := by omega
            cases h1 : (kk == 1) with
            | true =>
              have hbd : Tr.bd kk j = 1 := by unfold Tr.bd; rw [if_pos (.inl (by simpa using h1))]
              clear hbd
              generalize Tr.enc (Tr.kid t j) = KT at *
              generalize Tr.off t j = oj at *
              generalize ML j = Y at *
              have hq0 : (0 : Int) ≤ (oj : Int) := by omega
              have hq1 : (oj : Int) ≤ (oj : Int) + (KT.length : Int) := by omega
              have hq2 : (oj : Int) + (KT.length : Int) ≤ (c : Int) := by omega
              have hd1 : decide ((oj : Int) ≤ (i : Int)) = true := by simp; omega
              have hd2 : decide ((i : Int) < (oj : Int) + (KT.length : Int)) = false := by simp; omega
              go_wp2_with fail
              refine (HPT.out _).mono ?_
              rintro e w2 ⟨rfl, hg2⟩
              rw [hpv]
              have hB2 := hB.trans hg2
              go_wp2_with fail
              refine (hEn.out _ hB2).mono ?_
              rintro e w3 ⟨rfl, hg3⟩
              have hk3 := hg2.trans hg3
              have hB3 := hB.trans hk3
              have hO3 := hO.grew hk3
              have S3 := Lib.hid (by have hS := hSu.out _ hB3; rw [show KT.length = oj + KT.length - oj by omega] at hS; exact hS)
              go_wp2_with (first | (at_builtin; refine wpList_appT (w0 := w) _ _ rfl rfl _ Y rfl hO3 hB3 _ KT rfl S3.out (by omega) ?_; intro v5 w5 hown5 hg5 hgr5))
              go_roundw
              case rel => exact ⟨j + 1, by omega, by go_num, by rw [HL2.out]; go_num, hg5, by rw [hst.out]; exact hown5⟩
              case measure => simp [intOf]; omega
            | false =>
              have n1 : kk ≠ 1 := by simpa using h1
              cases h8 : (kk == 8) with
              | true =>
                have e8 : kk = 8 := by simpa using h8
                by_cases hj0 : 0 < j
                · have hbd : Tr.bd kk j = 1 := by unfold Tr.bd; rw [if_pos (.inr ⟨e8, hj0⟩)]
                  have hj0' : decide ((0 : Int) < (j : Int)) = true := by simp; omega
                  clear e8 n1
                  clear hbd
                  generalize Tr.enc (Tr.kid t j) = KT at *
                  generalize Tr.off t j = oj at *
                  generalize ML j = Y at *
                  have hq0 : (0 : Int) ≤ (oj : Int) := by omega
                  have hq1 : (oj : Int) ≤ (oj : Int) + (KT.length : Int) := by omega
                  have hq2 : (oj : Int) + (KT.length : Int) ≤ (c : Int) := by omega
                  have hd1 : decide ((oj : Int) ≤ (i : Int)) = true := by simp; omega
                  have hd2 : decide ((i : Int) < (oj : Int) + (KT.length : Int)) = false := by simp; omega
                  go_wp2_with fail
                  refine (HPT.out _).mono ?_
                  rintro e w2 ⟨rfl, hg2⟩
                  rw [hpv]
                  have hB2 := hB.trans hg2
                  go_wp2_with fail
                  refine (hEn.out _ hB2).mono ?_
                  rintro e w3 ⟨rfl, hg3⟩
                  have hk3 := hg2.trans hg3
                  have hB3 := hB.trans hk3
                  have hO3 := hO.grew hk3
                  have S3 := Lib.hid (by have hS := hSu.out _ hB3; rw [show KT.length = oj + KT.length - oj by omega] at hS; exact hS)
                  go_wp2_with (first | (at_builtin; refine wpList_appT (w0 := w) _ _ rfl rfl _ Y rfl hO3 hB3 _ KT rfl S3.out (by omega) ?_; intro v5 w5 hown5 hg5 hgr5))
                  go_roundw
                  case rel => exact ⟨j + 1, by omega, by go_num, by rw [HL2.out]; go_num, hg5, by rw [hst.out]; exact hown5⟩
                  case measure => simp [intOf]; omega
                · have hbd : Tr.bd kk j = 0 := by unfold Tr.bd; rw [if_neg (by omega)]
                  have hj0' : decide ((0 : Int) < (j : Int)) = false := by simp; omega
                  clear e8 n1
                  clear hbd
                  generalize Tr.enc (Tr.kid t j) = KT at *
                  generalize Tr.off t j = oj at *
                  generalize ML j = Y at *
                  have hq0 : (0 : Int) ≤ (oj : Int) := by omega
                  have hq1 : (oj : Int) ≤ (oj : Int) + (KT.length : Int) := by omega
                  have hq2 : (oj : Int) + (KT.length : Int) ≤ (c : Int) := by omega
                  have hd1 : decide ((oj : Int) ≤ (i : Int)) = true := by simp; omega
                  have hd2 : decide ((i : Int) < (oj : Int) + (KT.length : Int)) = false := by simp; omega
                  go_wp2_with fail
                  refine (HPT.out _).mono ?_
                  rintro e w2 ⟨rfl, hg2⟩
                  rw [hpv]
                  have hB2 := hB.trans hg2
                  go_wp2_with fail
                  refine (hEn.out _ hB2).mono ?_
                  rintro e w3 ⟨rfl, hg3⟩
                  have hk3 := hg2.trans hg3
                  have hB3 := hB.trans hk3
                  have hO3 := hO.grew hk3
                  have S3 := Lib.hid (by have hS := hSu.out _ hB3; rw [show KT.length = oj + KT.length - oj by omega] at hS; exact hS)
                  go_wp2_with (first | (at_builtin; refine wpList_appT (w0 := w) _ _ rfl rfl _ Y rfl hO3 hB3 _ KT rfl S3.out (by omega) ?_; intro v5 w5 hown5 hg5 hgr5))
                  go_roundw
                  case rel => exact ⟨j + 1, by omega, by go_num, by rw [HL2.out]; go_num, hg5, by rw [hst.out]; exact hown5⟩
                  case measure => simp [intOf]; omega
              | false =>
                have n8 : kk ≠ 8 := by simpa using h8
                have hbd : Tr.bd kk j = 0 := by unfold Tr.bd; rw [if_neg (by omega)]
                clear n8 n1
                clear hbd
                generalize Tr.enc (Tr.kid t j) = KT at *
                generalize Tr.off t j = oj at *
                generalize ML j = Y at *
                have hq0 : (0 : Int) ≤ (oj : Int) := by omega
                have hq1 : (oj : Int) ≤ (oj : Int) + (KT.length : Int) := by omega
                have hq2 : (oj : Int) + (KT.length : Int) ≤ (c : Int) := by omega
                have hd1 : decide ((oj : Int) ≤ (i : Int)) = true := by simp; omega
                have hd2 : decide ((i : Int) < (oj : Int) + (KT.length : Int)) = false := by simp; omega
                go_wp2_with fail
                refine (HPT.out _).mono ?_
                rintro e w2 ⟨rfl, hg2⟩
                rw [hpv]
                have hB2 := hB.trans hg2
                go_wp2_with fail
                refine (hEn.out _ hB2).mono ?_
                rintro e w3 ⟨rfl, hg3⟩
                have hk3 := hg2.trans hg3
                have hB3 := hB.trans hk3
                have hO3 := hO.grew hk3
                have S3 := Lib.hid (by have hS := hSu.out _ hB3; rw [show KT.length = oj + KT.length - oj by omega] at hS; exact hS)
                go_wp2_with (first | (at_builtin; refine wpList_appT (w0 := w) _ _ rfl rfl _ Y rfl hO3 hB3 _ KT rfl S3.out (by omega) ?_; intro v5 w5 hown5 hg5 hgr5))
                go_roundw
                case rel => exact ⟨j + 1, by omega, by go_num, by rw [HL2.out]; go_num, hg5, by rw [hst.out]; exact hown5⟩
                case measure => simp [intOf]; omega
          · skip
            cases h1 : (kk == 1) with
            | true =>
              have hbd : Tr.bd kk j = 1 := by unfold Tr.bd; rw [if_pos (.inl (by simpa using h1))]
              clear hbd
              generalize Tr.enc (Tr.kid t j) = KT at *
              generalize Tr.off t j = oj at *
              generalize ML j = Y at *
              have hq0 : (0 : Int) ≤ (oj : Int) := by omega
              have hq1 : (oj : Int) ≤ (oj : Int) + (KT.length : Int) := by omega
              have hq2 : (oj : Int) + (KT.length : Int) ≤ (c : Int) := by omega
              have hd1 : decide ((oj : Int) ≤ (i : Int)) = false := by simp; omega
              go_wp2_with fail
              refine (HPT.out _).mono ?_
              rintro e w2 ⟨rfl, hg2⟩
              rw [hpv]
              have hB2 := hB.trans hg2
              go_wp2_with fail
              refine (hEn.out _ hB2).mono ?_
              rintro e w3 ⟨rfl, hg3⟩
              have hk3 := hg2.trans hg3
              have hB3 := hB.trans hk3
              have hO3 := hO.grew hk3
              have S3 := Lib.hid (by have hS := hSu.out _ hB3; rw [show KT.length = oj + KT.length - oj by omega] at hS; exact hS)
              go_wp2_with (first | (at_builtin; refine wpList_appT (w0 := w) _ _ rfl rfl _ Y rfl hO3 hB3 _ KT rfl S3.out (by omega) ?_; intro v5 w5 hown5 hg5 hgr5))
              go_roundw
              case rel => exact ⟨j + 1, by omega, by go_num, by rw [HL2.out]; go_num, hg5, by rw [hst.out]; exact hown5⟩
              case measure => simp [intOf]; omega
            | false =>
              have n1 : kk ≠ 1 := by simpa using h1
              cases h8 : (kk == 8) with
              | true =>
                have e8 : kk = 8 := by simpa using h8
                by_cases hj0 : 0 < j
                · have hbd : Tr.bd kk j = 1 := by unfold Tr.bd; rw [if_pos (.inr ⟨e8, hj0⟩)]
                  have hj0' : decide ((0 : Int) < (j : Int)) = true := by simp; omega
                  clear e8 n1
                  clear hbd
                  generalize Tr.enc (Tr.kid t j) = KT at *
                  generalize Tr.off t j = oj at *
                  generalize ML j = Y at *
                  have hq0 : (0 : Int) ≤ (oj : Int) := by omega
                  have hq1 : (oj : Int) ≤ (oj : Int) + (KT.length : Int) := by omega
                  have hq2 : (oj : Int) + (KT.length : Int) ≤ (c : Int) := by omega
                  have hd1 : decide ((oj : Int) ≤ (i : Int)) = false := by simp; omega
                  go_wp2_with fail
                  refine (HPT.out _).mono ?_
                  rintro e w2 ⟨rfl, hg2⟩
                  rw [hpv]
                  have hB2 := hB.trans hg2
                  go_wp2_with fail
                  refine (hEn.out _ hB2).mono ?_
                  rintro e w3 ⟨rfl, hg3⟩
                  have hk3 := hg2.trans hg3
                  have hB3 := hB.trans hk3
                  have hO3 := hO.grew hk3
                  have S3 := Lib.hid (by have hS := hSu.out _ hB3; rw [show KT.length = oj + KT.length - oj by omega] at hS; exact hS)
                  go_wp2_with (first | (at_builtin; refine wpList_appT (w0 := w) _ _ rfl rfl _ Y rfl hO3 hB3 _ KT rfl S3.out (by omega) ?_; intro v5 w5 hown5 hg5 hgr5))
                  go_roundw
                  case rel => exact ⟨j + 1, by omega, by go_num, by rw [HL2.out]; go_num, hg5, by rw [hst.out]; exact hown5⟩
                  case measure => simp [intOf]; omega
                · have hbd : Tr.bd kk j = 0 := by unfold Tr.bd; rw [if_neg (by omega)]
                  have hj0' : decide ((0 : Int) < (j : Int)) = false := by simp; omega
                  clear e8 n1
                  clear hbd
                  generalize Tr.enc (Tr.kid t j) = KT at *
                  generalize Tr.off t j = oj at *
                  generalize ML j = Y at *
                  have hq0 : (0 : Int) ≤ (oj : Int) := by omega
                  have hq1 : (oj : Int) ≤ (oj : Int) + (KT.length : Int) := by omega
                  have hq2 : (oj : Int) + (KT.length : Int) ≤ (c : Int) := by omega
                  have hd1 : decide ((oj : Int) ≤ (i : Int)) = false := by simp; omega
                  go_wp2_with fail
                  refine (HPT.out _).mono ?_
                  rintro e w2 ⟨rfl, hg2⟩
                  rw [hpv]
                  have hB2 := hB.trans hg2
                  go_wp2_with fail
                  refine (hEn.out _ hB2).mono ?_
                  rintro e w3 ⟨rfl, hg3⟩
                  have hk3 := hg2.trans hg3
                  have hB3 := hB.trans hk3
                  have hO3 := hO.grew hk3
                  have S3 := Lib.hid (by have hS := hSu.out _ hB3; rw [show KT.length = oj + KT.length - oj by omega] at hS; exact hS)
                  go_wp2_with (first | (at_builtin; refine wpList_appT (w0 := w) _ _ rfl rfl _ Y rfl hO3 hB3 _ KT rfl S3.out (by omega) ?_; intro v5 w5 hown5 hg5 hgr5))
                  go_roundw
                  case rel => exact ⟨j + 1, by omega, by go_num, by rw [HL2.out]; go_num, hg5, by rw [hst.out]; exact hown5⟩
                  case measure => simp [intOf]; omega
              | false =>
                have n8 : kk ≠ 8 := by simpa using h8
                have hbd : Tr.bd kk j = 0 := by unfold Tr.bd; rw [if_neg (by omega)]
                clear n8 n1
                clear hbd
                generalize Tr.enc (Tr.kid t j) = KT at *
                generalize Tr.off t j = oj at *
                generalize ML j = Y at *
                have hq0 : (0 : Int) ≤ (oj : Int) := by omega
                have hq1 : (oj : Int) ≤ (oj : Int) + (KT.length : Int) := by omega
                have hq2 : (oj : Int) + (KT.length : Int) ≤ (c : Int) := by omega
                have hd1 : decide ((oj : Int) ≤ (i : Int)) = false := by simp; omega
                go_wp2_with fail
                refine (HPT.out _).mono ?_
                rintro e w2 ⟨rfl, hg2⟩
                rw [hpv]
                have hB2 := hB.trans hg2
                go_wp2_with fail
                refine (hEn.out _ hB2).mono ?_
                rintro e w3 ⟨rfl, hg3⟩
                have hk3 := hg2.trans hg3
                have hB3 := hB.trans hk3
                have hO3 := hO.grew hk3
                have S3 := Lib.hid (by have hS := hSu.out _ hB3; rw [show KT.length = oj + KT.length - oj by omega] at hS; exact hS)
                go_wp2_with (first | (at_builtin; refine wpList_appT (w0 := w) _ _ rfl rfl _ Y rfl hO3 hB3 _ KT rfl S3.out (by omega) ?_; intro v5 w5 hown5 hg5 hgr5))
                go_roundw
                case rel => exact ⟨j + 1, by omega, by go_num, by rw [HL2.out]; go_num, hg5, by rw [hst.out]; exact hown5⟩
                case measure => simp [intOf]; omega
      · obtain rfl : j = m := by omega
        go_wp2_with fail
        refine (HPT.out _).mono ?_
        rintro e w2 ⟨rfl, hg2⟩
        rw [hpv]
        go_wp2_with fail
        go_ret
        exact ⟨_, rfl, hO.grew hg2, hB.trans hg2⟩
end Go.Proofs.YtdndclfjeajhiaaGreat

/- The type of a term is a formula of the size of a text. No program is in sight. -/
namespace Go.Proofs.YtdndclfjeajhiaaGreat
open Go.RowKit
open Tr (Tm)

theorem goodN_text {x : Tn} (h : GoodN x) (hk : typedB x.1 = true) (h0 : x.1 ≠ 0) : gp x.2.2 = true := by
  unfold GoodN tnB at h
  have h0' : (x.1 == 0) = false := by simpa using h0
  rw [h0', if_neg (by simp), hk, if_pos rfl] at h
  simp only [Bool.and_eq_true] at h
  exact h.2
theorem ty1_ok {k : Int} {A a B : Fm.Tree} (hA : (k = 6 ∨ k = 7 ∨ k = 9) → FmOk A) (hk : k = 4 ∨ k = 5 ∨ k = 6 ∨ k = 7 ∨ k = 9) (ha : FmOk a) (h : ty1 k A a = some B) : FmOk B := by
  unfold ty1 at h
  rcases hk with rfl | rfl | rfl | rfl | rfl
  · simp only [if_pos] at h
    cases a <;> simp at h
    subst h; exact (fmOk_and ha).1
  · rw [if_neg (by decide), if_pos rfl] at h
    cases a <;> simp at h
    subst h; exact (fmOk_and ha).2
  · rw [if_neg (by decide), if_neg (by decide), if_pos rfl] at h
    exact small_or ha (hA (by simp)) h
  · rw [if_neg (by decide), if_neg (by decide), if_neg (by decide), if_pos rfl] at h
    exact small_or (hA (by simp)) ha h
  · rw [if_neg (by decide), if_neg (by decide), if_neg (by decide), if_neg (by decide)] at h
    cases a <;> simp at h
    subst h; exact hA (by simp)
theorem ty2_ok {k : Int} {F U B : Fm.Tree} (hF : FmOk F) (hU : FmOk U) (h : ty2 k F U = some B) : FmOk B := by
  unfold ty2 at h
  split at h
  · exact small_and hF hU h
  · cases F with
    | imp p q =>
      simp only at h
      split at h
      · simp at h; subst h; exact (fmOk_imp hF).2
      · cases h
    | _ => cases h
theorem ty_ok : ∀ t : Tm, Good t → ∀ (G : List Fm.Tree) (B : Fm.Tree), (∀ A ∈ G, FmOk A) → ty G t = some B → FmOk B := by
  intro t
  induction t with
  | t0 x =>
    intro _ G B hG h
    exact hG _ (List.mem_of_getElem? h)
  | t1 x a ha =>
    intro hg G B hG h
    have hk := ar_one hg.1.1
    have hx : (x.1 = 1 ∨ x.1 = 6 ∨ x.1 = 7 ∨ x.1 = 9) → FmOk (fo x.2.2) := fun hh => (fo_ok (goodN_text hg.1.2 (by rcases hh with e | e | e | e <;> rw [e] <;> decide) (by omega))).1
    unfold ty at h
    by_cases h1 : x.1 = 1
    · rw [if_pos h1] at h
      split at h
      · unfold tyLam at h
        rw [Option.bind_eq_some_iff] at h
        obtain ⟨C, hC, h⟩ := h
        have hC2 := ha hg.2 _ _ (fun A hA => by
          rw [List.mem_append] at hA
          rcases hA with hA | hA
          · exact hG A hA
          · simp at hA; subst hA; exact hx (.inl h1)) hC
        exact small_imp (hx (.inl h1)) hC2 h
      · cases h
    · rw [if_neg h1] at h
      rw [Option.bind_eq_some_iff] at h
      obtain ⟨C, hC, h⟩ := h
      exact ty1_ok (fun hh => hx (.inr hh)) (by omega) (ha hg.2 G C hG hC) h
  | t2 x f u hf hu =>
    intro hg G B hG h
    unfold ty at h
    rw [Option.bind_eq_some_iff] at h
    obtain ⟨F, hF, h⟩ := h
    rw [Option.bind_eq_some_iff] at h
    obtain ⟨U, hU, h⟩ := h
    exact ty2_ok (hf hg.2.1 G F hG hF) (hu hg.2.2 G U hG hU) h
  | t3 x c a b hc ha hb =>
    intro hg G B hG h
    unfold ty at h
    rw [Option.bind_eq_some_iff] at h
    obtain ⟨C, hC, h⟩ := h
    have hC2 := hc hg.2.1 G C hG hC
    cases C with
    | or p q =>
      simp only at h
      split at h
      · rw [Option.bind_eq_some_iff] at h
        obtain ⟨R, hR, h⟩ := h
        rw [Option.bind_eq_some_iff] at h
        obtain ⟨S, hS, h⟩ := h
        have hR2 := ha hg.2.2.1 _ R (fun A hA => by
          rw [List.mem_append] at hA
          rcases hA with hA | hA
          · exact hG A hA
          · simp at hA; subst hA; exact (fmOk_or hC2).1) hR
        split at h
        · simp at h; subst h; exact hR2
        · cases h
      · cases h
    | _ => cases h
/-- The text of a type, or the empty text. -/
noncomputable def otx : Option Fm.Tree → ByteArray
  | some A => tx A
  | none => ByteArray.empty
end Go.Proofs.YtdndclfjeajhiaaGreat

/- Formulas joined by their texts: joinTexts of the program, l26Joined of the reference. -/
namespace Go.Proofs.YtdndclfjeajhiaaGreat
open Go.RowKit

theorem joinTexts_c (k : Int) (A B C : Fm.Tree) (w : World) (hA : (Fm.enc A).length ≤ 40) (hB : (Fm.enc B).length ≤ 40) (he : Fm.enc C = Fm.join k (Fm.enc A) (Fm.enc B)) :
    Calls Tryz.prog 94 #[.int .i64 k, .string (tx A), .string (tx B)] w fun e w' => e = .returned (.tuple #[.string (tx C), .bool (decide ((Fm.enc C).length ≤ 40))]) ∧ Grew w w' := by
  have KA := fun w => parsed_c (tx A) w (by have := tx_size hA; omega)
  have KB := fun w => parsed_c (tx B) w (by have := tx_size hB; omega)
  rw [tx_pf hA] at KA
  rw [tx_pf hB] at KB
  have hC : (Fm.enc C).length ≤ 81 := by rw [he]; simp [Fm.join]; omega
  have KT := Lib.hid (fun v w h => text0_c C v w h (by omega))
  have KJ := Lib.hid (fun va vb w (ha : Nodes w va (Fm.enc A)) (hb : Nodes w vb (Fm.enc B)) => by
    have h1 := join_c k va vb (Fm.enc A) (Fm.enc B) w ha hb (by omega)
    rw [← he] at h1
    exact h1)
  replace KA := Lib.hid KA
  replace KB := Lib.hid KB
  have hS : bs (Fm.txt C 0) = tx C := rfl
  unfold Says at KT
  rw [hS] at KT
  generalize tx A = a at *
  generalize tx B = b at *
  generalize tx C = c at *
  clear hS he hA hB
  generalize Fm.enc A = xa at *
  generalize Fm.enc B = xb at *
  generalize Fm.enc C = xc at *
  have r0 := Grew.refl w
  go_enter Tryz.func94, Tryz.ntmps94
  go_wp2_with fail
  refine (KA.out _).mono ?_
  rintro e w1 ⟨v1, rfl, ho1, hg1, _⟩
  have HA1 := Lib.hid ho1.nodes
  obtain ⟨A1, c1, rfl⟩ := nodes_slice ho1.nodes
  clear ho1
  go_wp2_with fail
  refine (KB.out _).mono ?_
  rintro e w2 ⟨v2, rfl, ho2, hg2, _⟩
  have HB2 := Lib.hid ho2.nodes
  obtain ⟨A2, c2, rfl⟩ := nodes_slice ho2.nodes
  clear ho2
  go_wp2_with fail
  refine (KJ.out _ _ _ (HA1.out.grew hg2) HB2.out).mono ?_
  rintro e w3 ⟨v3, rfl, ho3, hg3⟩
  have HC3 := Lib.hid ho3.nodes
  obtain ⟨A3, c3, rfl⟩ := nodes_slice ho3.nodes
  clear ho3
  have g3 := (hg1.trans hg2).trans hg3
  go_wp2_with fail
  refine (KT.out _ _ HC3.out).mono ?_
  rintro e w4 ⟨rfl, hg4⟩
  go_wp2_with fail
  go_ret2
  have hd2 : decide ((xc.length : Int) ≤ 40) = decide (xc.length ≤ 40) := decide_eq_decide.2 (by omega)
  exact ⟨by rw [← hd2]; rfl, g3.trans hg4⟩

theorem l26Joined_c (k : Int) (A B C : Fm.Tree) (w : World) (hA : (Fm.enc A).length ≤ 40) (hB : (Fm.enc B).length ≤ 40) (he : Fm.enc C = Fm.join k (Fm.enc A) (Fm.enc B)) :
    Calls Tryz.prog 67 #[.int .i64 k, .string (tx A), .string (tx B)] w fun e w' => e = .returned (.string (if (Fm.enc C).length ≤ 40 then tx C else ByteArray.empty)) ∧ Grew w w' := by
  have KA := fun w => l02Good_c (tx A) w (by have := tx_size hA; omega)
  have KB := fun w => l02Good_c (tx B) w (by have := tx_size hB; omega)
  unfold GivesG at KA KB
  rw [tx_pf hA] at KA
  rw [tx_pf hB] at KB
  have hC : (Fm.enc C).length ≤ 81 := by rw [he]; simp [Fm.join]; omega
  have KT := Lib.hid (fun v w h => l02Text_c C v w h (by omega))
  have KJ := Lib.hid (fun va vb w (ha : Nodes w va (Fm.enc A)) (hb : Nodes w vb (Fm.enc B)) => by
    have h1 := l02Pair_c k va vb (Fm.enc A) (Fm.enc B) w ha hb (by omega)
    rw [← he] at h1
    exact h1)
  generalize gd (tx A) = ga at *
  generalize gd (tx B) = gb at *
  replace KA := Lib.hid KA
  replace KB := Lib.hid KB
  have hS : bs (Fm.txt C 0) = tx C := rfl
  unfold Says at KT
  rw [hS] at KT
  generalize tx A = a at *
  generalize tx B = b at *
  generalize tx C = c at *
  clear hS he hA hB
  generalize Fm.enc A = xa at *
  generalize Fm.enc B = xb at *
  generalize Fm.enc C = xc at *
  by_cases hl : xc.length ≤ 40
  · rw [if_pos hl]
    go_enter Tryz.func67, Tryz.ntmps67
    go_wp2_with fail
    refine (KA.out _).mono ?_
    rintro e w1 ⟨v1, rfl, ho1, hg1⟩
    have HA1 := Lib.hid ho1.nodes
    obtain ⟨A1, c1, rfl⟩ := nodes_slice ho1.nodes
    clear ho1
    go_wp2_with fail
    refine (KB.out _).mono ?_
    rintro e w2 ⟨v2, rfl, ho2, hg2⟩
    have HB2 := Lib.hid ho2.nodes
    obtain ⟨A2, c2, rfl⟩ := nodes_slice ho2.nodes
    clear ho2
    go_wp2_with fail
    refine (KJ.out _ _ _ (HA1.out.grew hg2) HB2.out).mono ?_
    rintro e w3 ⟨v3, rfl, ho3, hg3⟩
    have HC3 := Lib.hid ho3.nodes
    obtain ⟨A3, c3, rfl⟩ := nodes_slice ho3.nodes
    clear ho3
    have g3 := (hg1.trans hg2).trans hg3
    go_wp2_with fail
    refine (KT.out _ _ HC3.out).mono ?_
    rintro e w4 ⟨rfl, hg4⟩
    go_wp2_with fail
    go_ret
    exact ⟨rfl, g3.trans hg4⟩
  · rw [if_neg hl]
    have hl2 : 40 < xc.length := by omega
    go_enter Tryz.func67, Tryz.ntmps67
    go_wp2_with fail
    refine (KA.out _).mono ?_
    rintro e w1 ⟨v1, rfl, ho1, hg1⟩
    have HA1 := Lib.hid ho1.nodes
    obtain ⟨A1, c1, rfl⟩ := nodes_slice ho1.nodes
    clear ho1
    go_wp2_with fail
    refine (KB.out _).mono ?_
    rintro e w2 ⟨v2, rfl, ho2, hg2⟩
    have HB2 := Lib.hid ho2.nodes
    obtain ⟨A2, c2, rfl⟩ := nodes_slice ho2.nodes
    clear ho2
    go_wp2_with fail
    refine (KJ.out _ _ _ (HA1.out.grew hg2) HB2.out).mono ?_
    rintro e w3 ⟨v3, rfl, ho3, hg3⟩
    have HC3 := Lib.hid ho3.nodes
    obtain ⟨A3, c3, rfl⟩ := nodes_slice ho3.nodes
    clear ho3
    have g3 := (hg1.trans hg2).trans hg3
    go_wp2_with fail
    go_ret
    exact ⟨rfl, g3⟩
end Go.Proofs.YtdndclfjeajhiaaGreat

/- l26Type of the reference. -/
namespace Go.Proofs.YtdndclfjeajhiaaGreat
open Go.RowKit
open Tr (Tm)

theorem strs_map {w : World} {v : Value} {G : List Fm.Tree} (h : Strs w v (G.map tx)) : (∃ A c, v = .slice A G.length c) ∧ ∀ i, i < G.length → ∃ b o c, v = .slice (some ⟨b, o, none⟩) G.length c ∧ ∀ W, Grew w W → W.cell? ⟨b, o + i, none⟩ = some (.string (otx G[i]?)) := by
  constructor
  · obtain ⟨A, c, hv⟩ := strs_slice h
    rw [List.length_map] at hv
    exact ⟨A, c, hv⟩
  · intro i hi
    rcases h.open_ with ⟨_, h0⟩ | ⟨b, o, c, rfl, hc, hm, hb, hf⟩
    · rw [List.map_eq_nil_iff] at h0
      rw [h0] at hi
      exact absurd hi (by simp)
    · refine ⟨b, o, c, by rw [List.length_map], fun W hW => ?_⟩
      have h1 := hf i (by simpa using hi) W hW
      rw [h1]
      have e1 : G[i]? = some G[i] := List.getElem?_eq_getElem hi
      rw [e1]
      simp [st, List.getD, hi, otx]

theorem l26Type_var (x : Tn) (hg : Good (.t0 x)) (G : List Fm.Tree) (va v : Value) (w : World) (_hl : G.length ≤ 12) (hs : Strs w va (G.map tx)) (h : Tms w v (Tr.enc (.t0 x))) :
    Calls Tryz.prog 30 #[va, v] w fun e w' => e = .returned (.string (otx (ty G (.t0 x)))) ∧ Grew w w' := by
  have hk : x.1 = 0 := (good_leaf hg).1 rfl
  have hn := tnB_num0 (Tr.hd_wf hg)
  obtain ⟨b, o, c, rfl, hc, hm, hb, hcl⟩ := tms_head h
  obtain ⟨⟨A, d, hva⟩, hat⟩ := strs_map hs
  have k0 := fun W (hW : Grew w W) => (hcl W hW).1
  have k1 := fun W (hW : Grew w W) => (hcl W hW).2.1
  have k2 := fun W (hW : Grew w W) => (hcl W hW).2.2
  change ∀ W, Grew w W → W.cell? ⟨b, o, none⟩ = some (.int .i64 x.1) at k0
  change ∀ W, Grew w W → W.cell? ⟨b, o + 1, none⟩ = some (.int .i64 x.2.1) at k1
  change ∀ W, Grew w W → W.cell? ⟨b, o + 2, none⟩ = some (.string x.2.2) at k2
  rw [hk] at k0
  have hR : ty G (.t0 x) = G[x.2.1.toNat]? := rfl
  rw [hR]
  have hr := Grew.refl w
  have hx2 : (Tr.hd (.t0 x)).2.1 = x.2.1 := rfl
  rw [hx2] at hn
  have hl1 : (Tr.enc (.t0 x)).length = 1 := rfl
  rw [hl1]
  obtain ⟨m, hm2⟩ : ∃ m : Nat, x.2.1 = m := ⟨x.2.1.toNat, by omega⟩
  rw [hm2] at k1 hn ⊢
  rw [Int.toNat_natCast]
  clear hcl h hg hk hR hx2 hl1 hm2
  have hal := hr.alloc (.cells #[.int .i64 0, .int .i64 m, .string x.2.2] 50)
  by_cases hlt : m < G.length
  · obtain ⟨gb, go, gc, hv, e1⟩ := hat m hlt
    subst hv
    generalize otx G[m]? = R at *
    clear hat hs hva
    have hlt2 : (m : Int) < (G.length : Int) := by omega
    generalize G.length = gl at *
    go_enter Tryz.func30, Tryz.ntmps30
    go_wp2_with fail
    go_ret
    exact ⟨rfl, (Grew.refl w).alloc _⟩
  · have hnone : G[m]? = none := List.getElem?_eq_none (by omega)
    rw [hnone]
    subst hva
    clear hat hs hnone
    have hge : (G.length : Int) ≤ (m : Int) := by omega
    generalize G.length = gl at *
    go_enter Tryz.func30, Tryz.ntmps30
    go_wp2_with fail
    go_ret
    exact ⟨rfl, (Grew.refl w).alloc _⟩

/-- What l26Type gives at a term, whatever the values. -/
def TypS (t : Tm) (G : List Fm.Tree) : Prop := ∀ va v w, Strs w va (G.map tx) → Tms w v (Tr.enc t) → Calls Tryz.prog 30 #[va, v] w fun e w' => e = .returned (.string (otx (ty G t))) ∧ Grew w w'

theorem l26Under_c (A : Fm.Tree) (t : Tm) (G : List Fm.Tree) (K : G.length < 12 → TypS t (G ++ [A])) (va v : Value) (w : World) (hs : Strs w va (G.map tx)) (h : Tms w v (Tr.enc t)) (hl : G.length ≤ 12) :
    Calls Tryz.prog 66 #[va, .string (tx A), v] w fun e w' => e = .returned (.string (otx (if G.length < 12 then ty (G ++ [A]) t else none))) ∧ Grew w w' := by
  obtain ⟨B, d, rfl⟩ := (strs_map hs).1
  by_cases hlt : G.length < 12
  · rw [if_pos hlt]
    have hal := (Grew.refl w).alloc (.cells #[.string (tx A)] 9)
    have hone : Strs (w.alloc (.cells #[.string (tx A)] 9)) (.slice (some ⟨w.heap.size, 0, none⟩) 1 1) [tx A] := rd_lit w (.string (tx A)) 9
    have KW := Lib.hid (l25With_c _ _ (G.map tx) [tx A] _ (hs.grew hal) hone (by rw [List.length_map]; omega) (by simp))
    have HT := Lib.hid h
    obtain ⟨C, c, rfl⟩ := tms_slice h
    have KT := Lib.hid (fun va W (hW : Grew w W) (hva : Strs W va (G.map tx ++ [tx A])) => K hlt va _ W (by rw [List.map_append]; exact hva) (h.grew hW))
    have hlt2 : (G.length : Int) < 12 := by omega
    clear h hs K hone
    generalize G.map tx = gm at *
    generalize otx (ty (G ++ [A]) t) = R at *
    generalize G.length = gl at *
    generalize tx A = ta at *
    go_enter Tryz.func66, Tryz.ntmps66
    go_wp2_with fail
    refine KW.out.mono ?_
    rintro e w1 ⟨u, rfl, ho, hg1⟩
    have HS := Lib.hid ho.strs
    have gw := hal.trans hg1
    go_wp2_with fail
    refine (KT.out _ _ gw HS.out).mono ?_
    rintro e w2 ⟨rfl, hg2⟩
    go_wp2_with fail
    go_ret
    exact ⟨rfl, gw.trans hg2⟩
  · rw [if_neg hlt]
    obtain ⟨C, c, rfl⟩ := tms_slice h
    have hge : (12 : Int) ≤ (G.length : Int) := by omega
    clear h hs K
    generalize G.length = gl at *
    generalize (Tr.enc t).length = n at *
    generalize tx A = ta at *
    go_enter Tryz.func66, Tryz.ntmps66
    go_wp2_with fail
    go_ret
    exact ⟨rfl, Grew.refl w⟩

theorem otx_small (C : Fm.Tree) : otx (smallF C) = if (Fm.enc C).length ≤ 40 then tx C else ByteArray.empty := by
  unfold smallF
  split <;> rfl

theorem l26Type_lam (x : Tn) (a : Tm) (hg : Good (.t1 x a)) (hk : x.1 = 1) (G : List Fm.Tree) (hG : ∀ A ∈ G, FmOk A) (hl : G.length ≤ 12) (IH : G.length < 12 → TypS a (G ++ [fo x.2.2])) (va v : Value) (w : World) (hs : Strs w va (G.map tx)) (h : Tms w v (Tr.enc (.t1 x a))) :
    Calls Tryz.prog 30 #[va, v] w fun e w' => e = .returned (.string (otx (ty G (.t1 x a)))) ∧ Grew w w' := by
  have hA := fo_ok (goodN_text hg.1.2 (by rw [hk]; rfl) (by rw [hk]; decide))
  have hty : ty G (.t1 x a) = tyLam (fo x.2.2) (if G.length < 12 then ty (G ++ [fo x.2.2]) a else none) := by
    rw [ty, if_pos hk]
    split
    · rfl
    · rfl
  rw [hty]
  obtain ⟨b, o, c, rfl, hc, hm, hb, hcl⟩ := tms_head h
  have hlen : (Tr.enc (.t1 x a)).length = (Tr.enc a).length + 1 := by simp [Tr.enc]
  have hsub := sub_one (x := x) (a := a) (by simpa [Tr.enc] using h) (by rw [hlen] at hc; exact hc) hm
  have k0 := fun W (hW : Grew w W) => (hcl W hW).1
  have k1 := fun W (hW : Grew w W) => (hcl W hW).2.1
  have k2 := fun W (hW : Grew w W) => (hcl W hW).2.2
  change ∀ W, Grew w W → W.cell? ⟨b, o, none⟩ = some (.int .i64 x.1) at k0
  change ∀ W, Grew w W → W.cell? ⟨b, o + 1, none⟩ = some (.int .i64 x.2.1) at k1
  change ∀ W, Grew w W → W.cell? ⟨b, o + 2, none⟩ = some (.string x.2.2) at k2
  rw [hk] at k0
  generalize hF : fo x.2.2 = A at *
  rw [← hA.2] at k2
  rw [hlen] at hc ⊢
  have hpos := Tr.enc_pos a
  have KU := Lib.hid (fun W (hW : Grew w W) => l26Under_c A a G IH va (.slice (some ⟨b, o + 3, none⟩) (Tr.enc a).length (c - 1)) W (hs.grew hW) (hsub.grew hW) hl)
  have HOK := Lib.hid (fun B (hlt : G.length < 12) hB => (ty_ok a hg.2 (G ++ [A]) B (fun D hD => by
    rw [List.mem_append] at hD
    rcases hD with hD | hD
    · exact hG D hD
    · simp at hD; subst hD; exact hA.1) hB).1)
  have KJ := Lib.hid (fun B w (hB : (Fm.enc B).length ≤ 40) => l26Joined_c 4 A B (.imp A B) w hA.1.1 hB rfl)
  obtain ⟨D, d, rfl⟩ := (strs_map hs).1
  have hal := (Grew.refl w).alloc (.cells #[.int .i64 1, .int .i64 x.2.1, .string (tx A)] 50)
  have hr := Grew.refl w
  have hc1 : ¬ c = 1 := by omega
  have HOK2 : Hid (∀ B, (if G.length < 12 then ty (G ++ [A]) a else none) = some B → (Fm.enc B).length ≤ 40) := Lib.hid (fun B hB => by
    split at hB
    · exact HOK.out B ‹_› hB
    · cases hB)
  clear hcl h hg hsub hty HOK IH hs hG hA hF
  generalize (if G.length < 12 then ty (G ++ [A]) a else none) = R at *
  generalize G.length = gl at *
  generalize (Tr.enc a).length = n at *
  generalize x.2.1 = xn at *
  cases R with
  | none =>
    have hR : otx (tyLam A none) = ByteArray.empty := rfl
    have hR2 : otx none = ByteArray.empty := rfl
    rw [hR]
    rw [hR2] at KU
    clear hR hR2 HOK2 KJ
    generalize tx A = ta at *
    have i1 : (1 : Int) ≤ (n : Int) + 1 := by omega
    have i2 : (n : Int) + 1 ≤ (c : Int) := by omega
    have i3 : (0 : Int) ≤ (n : Int) := by omega
    have f2 : ∀ W, Grew (w.alloc (.cells #[.int .i64 1, .int .i64 xn, .string ta] 50)) W → W.cell? ⟨w.heap.size, 2, none⟩ = some (.string ta) := fun W hW => (hW.cell (p := ⟨w.heap.size, 2, none⟩) (by simp)).trans (by simp)
    have ra := Grew.refl (w.alloc (.cells #[.int .i64 1, .int .i64 xn, .string ta] 50))
    have da := ra.drew
    have gd := hal.trans da
    go_enter Tryz.func30, Tryz.ntmps30
    go_wp2_with fail
    go_region_held3 (fun w' => Grew (w.alloc (.cells #[.int .i64 1, .int .i64 xn, .string ta] 50)) w') (with_reducible assumption)
      (first | (go_at_call 66; refine (KU.out _ gd).mono ?_; rintro e w1 ⟨rfl, hg1⟩; have hk1 := da.trans hg1))
    go_wp2_with fail
    go_ret
    exact ⟨rfl, hal.trans hk1⟩
  | some B =>
    have hR : otx (tyLam A (some B)) = if (Fm.enc (.imp A B)).length ≤ 40 then tx (.imp A B) else ByteArray.empty := otx_small _
    have hR2 : otx (some B) = tx B := rfl
    have hne := tx_ne B
    rw [hR]
    rw [hR2] at KU
    have KJ2 := Lib.hid (fun w => KJ.out B w (HOK2.out B rfl))
    clear hR hR2 HOK2 KJ
    generalize (if (Fm.enc (.imp A B)).length ≤ 40 then tx (.imp A B) else ByteArray.empty) = Z at *
    generalize tx A = ta at *
    generalize tx B = tb at *
    have i1 : (1 : Int) ≤ (n : Int) + 1 := by omega
    have i2 : (n : Int) + 1 ≤ (c : Int) := by omega
    have i3 : (0 : Int) ≤ (n : Int) := by omega
    have f2 : ∀ W, Grew (w.alloc (.cells #[.int .i64 1, .int .i64 xn, .string ta] 50)) W → W.cell? ⟨w.heap.size, 2, none⟩ = some (.string ta) := fun W hW => (hW.cell (p := ⟨w.heap.size, 2, none⟩) (by simp)).trans (by simp)
    have ra := Grew.refl (w.alloc (.cells #[.int .i64 1, .int .i64 xn, .string ta] 50))
    have da := ra.drew
    have gd := hal.trans da
    go_enter Tryz.func30, Tryz.ntmps30
    go_wp2_with fail
    go_region_held3 (fun w' => Grew (w.alloc (.cells #[.int .i64 1, .int .i64 xn, .string ta] 50)) w') (with_reducible assumption)
      (first | (go_at_call 66; refine (KU.out _ gd).mono ?_; rintro e w1 ⟨rfl, hg1⟩; have hk1 := da.trans hg1))
    go_wp2_with fail
    refine (KJ2.out _).mono ?_
    rintro e w2 ⟨rfl, hg2⟩
    go_wp2_with fail
    go_ret
    exact ⟨rfl, (hal.trans hk1).trans hg2⟩
end Go.Proofs.YtdndclfjeajhiaaGreat

/- l26Type of the projections. -/
namespace Go.Proofs.YtdndclfjeajhiaaGreat
open Go.RowKit
open Tr (Tm)

theorem l26Type_fst (x : Tn) (a : Tm) (hg : Good (.t1 x a)) (hk : x.1 = 4) (G : List Fm.Tree) (hG : ∀ A ∈ G, FmOk A) (_hl : G.length ≤ 12) (IH : TypS a G) (va v : Value) (w : World) (hs : Strs w va (G.map tx)) (h : Tms w v (Tr.enc (.t1 x a))) (hn : (Tr.enc (.t1 x a)).length ≤ 60) :
    Calls Tryz.prog 30 #[va, v] w fun e w' => e = .returned (.string (otx (ty G (.t1 x a)))) ∧ Grew w w' := by
  have hty : ty G (.t1 x a) = (ty G a).bind (ty1 4 (fo x.2.2)) := by
    rw [ty, if_neg (by rw [hk]; decide), hk]
  rw [hty]
  have KP := Lib.hid (fun W (hW : Grew w W) => by
    have h1 := l26Part_c v (.t1 x a) 0 W (h.grew hW) hg (by omega) (by decide : 0 < 1)
    rw [show Tr.kid (.t1 x a) 0 = a from rfl] at h1
    exact h1)
  obtain ⟨b, o, c, rfl, hc, hm, hb, hcl⟩ := tms_head h
  have k0 := fun W (hW : Grew w W) => (hcl W hW).1
  have k1 := fun W (hW : Grew w W) => (hcl W hW).2.1
  have k2 := fun W (hW : Grew w W) => (hcl W hW).2.2
  change ∀ W, Grew w W → W.cell? ⟨b, o, none⟩ = some (.int .i64 x.1) at k0
  change ∀ W, Grew w W → W.cell? ⟨b, o + 1, none⟩ = some (.int .i64 x.2.1) at k1
  change ∀ W, Grew w W → W.cell? ⟨b, o + 2, none⟩ = some (.string x.2.2) at k2
  rw [hk] at k0
  have hpos := Tr.enc_pos (.t1 x a)
  have hal := (Grew.refl w).alloc (.cells #[.int .i64 4, .int .i64 x.2.1, .string x.2.2] 50)
  have hr := Grew.refl w
  have HOK := fun B hB => ty_ok a hg.2 G B hG hB
  have KI := fun u W (hW : Grew w W) hu => IH va u W (hs.grew hW) hu
  obtain ⟨D, d, rfl⟩ := (strs_map hs).1
  clear hcl h hg hty IH hs hG
  generalize fo x.2.2 = A at *
  generalize x.2.1 = xn at *
  generalize x.2.2 = xs at *
  generalize (Tr.enc (.t1 x a)).length = n at *
  generalize G.length = gl at *
  have hC : ty G a = none ∨ (∃ p q, ty G a = some (.and p q)) ∨ ∃ C, ty G a = some C ∧ kindOf C ≠ 2 ∧ ty1 4 A C = none := by
    cases ty G a with
    | none => exact .inl rfl
    | some C =>
      cases C with
      | and p q => exact .inr (.inl ⟨p, q, rfl⟩)
      | _ => exact .inr (.inr ⟨_, rfl, by simp [kindOf], by simp [ty1]⟩)
  rcases hC with hC | ⟨p, q, hC⟩ | ⟨C, hC, hk2, h1⟩
  · rw [hC] at KI ⊢
    change Calls _ _ _ _ (fun e w' => e = .returned (.string ByteArray.empty) ∧ Grew w w')
    rw [show otx none = ByteArray.empty from rfl] at KI
    clear HOK hC
    replace KI := Lib.hid KI
    go_enter Tryz.func30, Tryz.ntmps30
    go_wp2_with fail
    refine (KP.out _ hal).mono ?_
    rintro e w1 ⟨u, rfl, hu, hg1⟩
    have HU := Lib.hid hu
    obtain ⟨U, e1, rfl⟩ := tms_slice hu
    clear hu
    have g1 := hal.trans hg1
    have f0 : ∀ W, Grew w1 W → W.cell? ⟨w.heap.size, 0, none⟩ = some (.int .i64 4) := fun W hW => ((hg1.trans hW).cell (p := ⟨w.heap.size, 0, none⟩) (by simp)).trans (by simp)
    go_wp2_with fail
    refine (KI.out _ _ g1 HU.out).mono ?_
    rintro e w2 ⟨rfl, hg2⟩
    have g2 := g1.trans hg2
    go_wp2_with fail
    go_ret
    exact ⟨rfl, g2⟩
  · rw [hC] at KI ⊢
    change Calls _ _ _ _ (fun e w' => e = .returned (.string (tx p)) ∧ Grew w w')
    have hok := HOK _ hC
    have KL := Lib.hid (fun w => l25Parts_yes 2 (.and p q) p q w hok rfl rfl)
    have hne := tx_ne (.and p q)
    rw [show otx (some (.and p q)) = tx (.and p q) from rfl] at KI
    clear HOK hC hok
    generalize tx (.and p q) = tc at *
    generalize tx p = tp at *
    generalize tx q = tq at *
    replace KI := Lib.hid KI
    go_enter Tryz.func30, Tryz.ntmps30
    go_wp2_with fail
    refine (KP.out _ hal).mono ?_
    rintro e w1 ⟨u, rfl, hu, hg1⟩
    have HU := Lib.hid hu
    obtain ⟨U, e1, rfl⟩ := tms_slice hu
    clear hu
    have g1 := hal.trans hg1
    have f0 : ∀ W, Grew w1 W → W.cell? ⟨w.heap.size, 0, none⟩ = some (.int .i64 4) := fun W hW => ((hg1.trans hW).cell (p := ⟨w.heap.size, 0, none⟩) (by simp)).trans (by simp)
    go_wp2_with fail
    refine (KI.out _ _ g1 HU.out).mono ?_
    rintro e w2 ⟨rfl, hg2⟩
    have g2 := g1.trans hg2
    go_wp2_with fail
    refine (KL.out _).mono ?_
    rintro e w3 ⟨rfl, hg3⟩
    have f3 := f0 _ (hg2.trans hg3)
    go_wp2_with fail
    go_ret
    exact ⟨rfl, g2.trans hg3⟩
  · rw [hC] at KI ⊢
    rw [show (some C).bind (ty1 4 A) = none from h1]
    change Calls _ _ _ _ (fun e w' => e = .returned (.string ByteArray.empty) ∧ Grew w w')
    have hok := HOK _ hC
    have KL := Lib.hid (fun w => l25Parts_no 2 C w hok hk2)
    have hne := tx_ne C
    rw [show otx (some C) = tx C from rfl] at KI
    clear HOK hC hok h1 hk2
    generalize tx C = tc at *
    replace KI := Lib.hid KI
    go_enter Tryz.func30, Tryz.ntmps30
    go_wp2_with fail
    refine (KP.out _ hal).mono ?_
    rintro e w1 ⟨u, rfl, hu, hg1⟩
    have HU := Lib.hid hu
    obtain ⟨U, e1, rfl⟩ := tms_slice hu
    clear hu
    have g1 := hal.trans hg1
    have f0 : ∀ W, Grew w1 W → W.cell? ⟨w.heap.size, 0, none⟩ = some (.int .i64 4) := fun W hW => ((hg1.trans hW).cell (p := ⟨w.heap.size, 0, none⟩) (by simp)).trans (by simp)
    go_wp2_with fail
    refine (KI.out _ _ g1 HU.out).mono ?_
    rintro e w2 ⟨rfl, hg2⟩
    have g2 := g1.trans hg2
    go_wp2_with fail
    refine (KL.out _).mono ?_
    rintro e w3 ⟨rfl, hg3⟩
    go_wp2_with fail
    go_ret
    exact ⟨rfl, g2.trans hg3⟩

theorem l26Type_snd (x : Tn) (a : Tm) (hg : Good (.t1 x a)) (hk : x.1 = 5) (G : List Fm.Tree) (hG : ∀ A ∈ G, FmOk A) (_hl : G.length ≤ 12) (IH : TypS a G) (va v : Value) (w : World) (hs : Strs w va (G.map tx)) (h : Tms w v (Tr.enc (.t1 x a))) (hn : (Tr.enc (.t1 x a)).length ≤ 60) :
    Calls Tryz.prog 30 #[va, v] w fun e w' => e = .returned (.string (otx (ty G (.t1 x a)))) ∧ Grew w w' := by
  have hty : ty G (.t1 x a) = (ty G a).bind (ty1 5 (fo x.2.2)) := by
    rw [ty, if_neg (by rw [hk]; decide), hk]
  rw [hty]
  have KP := Lib.hid (fun W (hW : Grew w W) => by
    have h1 := l26Part_c v (.t1 x a) 0 W (h.grew hW) hg (by omega) (by decide : 0 < 1)
    rw [show Tr.kid (.t1 x a) 0 = a from rfl] at h1
    exact h1)
  obtain ⟨b, o, c, rfl, hc, hm, hb, hcl⟩ := tms_head h
  have k0 := fun W (hW : Grew w W) => (hcl W hW).1
  have k1 := fun W (hW : Grew w W) => (hcl W hW).2.1
  have k2 := fun W (hW : Grew w W) => (hcl W hW).2.2
  change ∀ W, Grew w W → W.cell? ⟨b, o, none⟩ = some (.int .i64 x.1) at k0
  change ∀ W, Grew w W → W.cell? ⟨b, o + 1, none⟩ = some (.int .i64 x.2.1) at k1
  change ∀ W, Grew w W → W.cell? ⟨b, o + 2, none⟩ = some (.string x.2.2) at k2
  rw [hk] at k0
  have hpos := Tr.enc_pos (.t1 x a)
  have hal := (Grew.refl w).alloc (.cells #[.int .i64 5, .int .i64 x.2.1, .string x.2.2] 50)
  have hr := Grew.refl w
  have HOK := fun B hB => ty_ok a hg.2 G B hG hB
  have KI := fun u W (hW : Grew w W) hu => IH va u W (hs.grew hW) hu
  obtain ⟨D, d, rfl⟩ := (strs_map hs).1
  clear hcl h hg hty IH hs hG
  generalize fo x.2.2 = A at *
  generalize x.2.1 = xn at *
  generalize x.2.2 = xs at *
  generalize (Tr.enc (.t1 x a)).length = n at *
  generalize G.length = gl at *
  have hC : ty G a = none ∨ (∃ p q, ty G a = some (.and p q)) ∨ ∃ C, ty G a = some C ∧ kindOf C ≠ 2 ∧ ty1 5 A C = none := by
    cases ty G a with
    | none => exact .inl rfl
    | some C =>
      cases C with
      | and p q => exact .inr (.inl ⟨p, q, rfl⟩)
      | _ => exact .inr (.inr ⟨_, rfl, by simp [kindOf], by simp [ty1]⟩)
  rcases hC with hC | ⟨p, q, hC⟩ | ⟨C, hC, hk2, h1⟩
  · rw [hC] at KI ⊢
    change Calls _ _ _ _ (fun e w' => e = .returned (.string ByteArray.empty) ∧ Grew w w')
    rw [show otx none = ByteArray.empty from rfl] at KI
    clear HOK hC
    replace KI := Lib.hid KI
    go_enter Tryz.func30, Tryz.ntmps30
    go_wp2_with fail
    refine (KP.out _ hal).mono ?_
    rintro e w1 ⟨u, rfl, hu, hg1⟩
    have HU := Lib.hid hu
    obtain ⟨U, e1, rfl⟩ := tms_slice hu
    clear hu
    have g1 := hal.trans hg1
    have f0 : ∀ W, Grew w1 W → W.cell? ⟨w.heap.size, 0, none⟩ = some (.int .i64 5) := fun W hW => ((hg1.trans hW).cell (p := ⟨w.heap.size, 0, none⟩) (by simp)).trans (by simp)
    go_wp2_with fail
    refine (KI.out _ _ g1 HU.out).mono ?_
    rintro e w2 ⟨rfl, hg2⟩
    have g2 := g1.trans hg2
    go_wp2_with fail
    go_ret
    exact ⟨rfl, g2⟩
  · rw [hC] at KI ⊢
    change Calls _ _ _ _ (fun e w' => e = .returned (.string (tx q)) ∧ Grew w w')
    have hok := HOK _ hC
    have KL := Lib.hid (fun w => l25Parts_yes 2 (.and p q) p q w hok rfl rfl)
    have hne := tx_ne (.and p q)
    rw [show otx (some (.and p q)) = tx (.and p q) from rfl] at KI
    clear HOK hC hok
    generalize tx (.and p q) = tc at *
    generalize tx p = tp at *
    generalize tx q = tq at *
    replace KI := Lib.hid KI
    go_enter Tryz.func30, Tryz.ntmps30
    go_wp2_with fail
    refine (KP.out _ hal).mono ?_
    rintro e w1 ⟨u, rfl, hu, hg1⟩
    have HU := Lib.hid hu
    obtain ⟨U, e1, rfl⟩ := tms_slice hu
    clear hu
    have g1 := hal.trans hg1
    have f0 : ∀ W, Grew w1 W → W.cell? ⟨w.heap.size, 0, none⟩ = some (.int .i64 5) := fun W hW => ((hg1.trans hW).cell (p := ⟨w.heap.size, 0, none⟩) (by simp)).trans (by simp)
    go_wp2_with fail
    refine (KI.out _ _ g1 HU.out).mono ?_
    rintro e w2 ⟨rfl, hg2⟩
    have g2 := g1.trans hg2
    go_wp2_with fail
    refine (KL.out _).mono ?_
    rintro e w3 ⟨rfl, hg3⟩
    have f3 := f0 _ (hg2.trans hg3)
    go_wp2_with fail
    go_ret
    exact ⟨rfl, g2.trans hg3⟩
  · rw [hC] at KI ⊢
    rw [show (some C).bind (ty1 5 A) = none from h1]
    change Calls _ _ _ _ (fun e w' => e = .returned (.string ByteArray.empty) ∧ Grew w w')
    have hok := HOK _ hC
    have KL := Lib.hid (fun w => l25Parts_no 2 C w hok hk2)
    have hne := tx_ne C
    rw [show otx (some C) = tx C from rfl] at KI
    clear HOK hC hok h1 hk2
    generalize tx C = tc at *
    replace KI := Lib.hid KI
    go_enter Tryz.func30, Tryz.ntmps30
    go_wp2_with fail
    refine (KP.out _ hal).mono ?_
    rintro e w1 ⟨u, rfl, hu, hg1⟩
    have HU := Lib.hid hu
    obtain ⟨U, e1, rfl⟩ := tms_slice hu
    clear hu
    have g1 := hal.trans hg1
    have f0 : ∀ W, Grew w1 W → W.cell? ⟨w.heap.size, 0, none⟩ = some (.int .i64 5) := fun W hW => ((hg1.trans hW).cell (p := ⟨w.heap.size, 0, none⟩) (by simp)).trans (by simp)
    go_wp2_with fail
    refine (KI.out _ _ g1 HU.out).mono ?_
    rintro e w2 ⟨rfl, hg2⟩
    have g2 := g1.trans hg2
    go_wp2_with fail
    refine (KL.out _).mono ?_
    rintro e w3 ⟨rfl, hg3⟩
    go_wp2_with fail
    go_ret
    exact ⟨rfl, g2.trans hg3⟩
end Go.Proofs.YtdndclfjeajhiaaGreat

/- l26Type of the injections. -/
namespace Go.Proofs.YtdndclfjeajhiaaGreat
open Go.RowKit
open Tr (Tm)

theorem l26Type_inl (x : Tn) (a : Tm) (hg : Good (.t1 x a)) (hk : x.1 = 6) (G : List Fm.Tree) (hG : ∀ A ∈ G, FmOk A) (_hl : G.length ≤ 12) (IH : TypS a G) (va v : Value) (w : World) (hs : Strs w va (G.map tx)) (h : Tms w v (Tr.enc (.t1 x a))) (hn : (Tr.enc (.t1 x a)).length ≤ 60) :
    Calls Tryz.prog 30 #[va, v] w fun e w' => e = .returned (.string (otx (ty G (.t1 x a)))) ∧ Grew w w' := by
  have hty : ty G (.t1 x a) = (ty G a).bind (ty1 6 (fo x.2.2)) := by
    rw [ty, if_neg (by rw [hk]; decide), hk]
  rw [hty]
  have KP := Lib.hid (fun W (hW : Grew w W) => by
    have h1 := l26Part_c v (.t1 x a) 0 W (h.grew hW) hg (by omega) (by decide : 0 < 1)
    rw [show Tr.kid (.t1 x a) 0 = a from rfl] at h1
    exact h1)
  obtain ⟨b, o, c, rfl, hc, hm, hb, hcl⟩ := tms_head h
  have k0 := fun W (hW : Grew w W) => (hcl W hW).1
  have k1 := fun W (hW : Grew w W) => (hcl W hW).2.1
  have k2 := fun W (hW : Grew w W) => (hcl W hW).2.2
  change ∀ W, Grew w W → W.cell? ⟨b, o, none⟩ = some (.int .i64 x.1) at k0
  change ∀ W, Grew w W → W.cell? ⟨b, o + 1, none⟩ = some (.int .i64 x.2.1) at k1
  change ∀ W, Grew w W → W.cell? ⟨b, o + 2, none⟩ = some (.string x.2.2) at k2
  rw [hk] at k0
  have hpos := Tr.enc_pos (.t1 x a)
  have hal := (Grew.refl w).alloc (.cells #[.int .i64 6, .int .i64 x.2.1, .string x.2.2] 50)
  have hr := Grew.refl w
  have HOK := fun B hB => ty_ok a hg.2 G B hG hB
  have KI := fun u W (hW : Grew w W) hu => IH va u W (hs.grew hW) hu
  obtain ⟨D, d, rfl⟩ := (strs_map hs).1
  have hA := fo_ok (goodN_text hg.1.2 (by rw [hk]; rfl) (by rw [hk]; decide))
  clear hcl h hg hty IH hs hG
  generalize fo x.2.2 = A at *
  rw [← hA.2] at k2 hal
  generalize x.2.1 = xn at *
  generalize (Tr.enc (.t1 x a)).length = n at *
  generalize G.length = gl at *
  have hC : ty G a = none ∨ ∃ C, ty G a = some C := by
    cases ty G a with
    | none => exact .inl rfl
    | some C => exact .inr ⟨C, rfl⟩
  rcases hC with hC | ⟨C, hC⟩
  · rw [hC] at KI ⊢
    change Calls _ _ _ _ (fun e w' => e = .returned (.string ByteArray.empty) ∧ Grew w w')
    rw [show otx none = ByteArray.empty from rfl] at KI
    clear HOK hC hA
    generalize tx A = ta at *
    replace KI := Lib.hid KI
    go_enter Tryz.func30, Tryz.ntmps30
    go_wp2_with fail
    refine (KP.out _ hal).mono ?_
    rintro e w1 ⟨u, rfl, hu, hg1⟩
    have HU := Lib.hid hu
    obtain ⟨U, e1, rfl⟩ := tms_slice hu
    clear hu
    have g1 := hal.trans hg1
    have f0 : ∀ W, Grew w1 W → W.cell? ⟨w.heap.size, 0, none⟩ = some (.int .i64 6) := fun W hW => ((hg1.trans hW).cell (p := ⟨w.heap.size, 0, none⟩) (by simp)).trans (by simp)
    go_wp2_with fail
    refine (KI.out _ _ g1 HU.out).mono ?_
    rintro e w2 ⟨rfl, hg2⟩
    have g2 := g1.trans hg2
    go_wp2_with fail
    go_ret
    exact ⟨rfl, g2⟩
  · rw [hC] at KI ⊢
    change Calls _ _ _ _ (fun e w' => e = .returned (.string (otx (smallF (.or C A)))) ∧ Grew w w')
    rw [otx_small]
    have hok := HOK _ hC
    have KL := Lib.hid (fun w => l26Joined_c 3 C A (.or C A) w hok.1 hA.1.1 rfl)
    have hne := tx_ne C
    rw [show otx (some C) = tx C from rfl] at KI
    clear HOK hC hok
    generalize (if (Fm.enc (.or C A)).length ≤ 40 then tx (.or C A) else ByteArray.empty) = Z at *
    clear hA
    generalize tx C = tc at *
    generalize tx A = ta at *
    replace KI := Lib.hid KI
    go_enter Tryz.func30, Tryz.ntmps30
    go_wp2_with fail
    refine (KP.out _ hal).mono ?_
    rintro e w1 ⟨u, rfl, hu, hg1⟩
    have HU := Lib.hid hu
    obtain ⟨U, e1, rfl⟩ := tms_slice hu
    clear hu
    have g1 := hal.trans hg1
    have f0 : ∀ W, Grew w1 W → W.cell? ⟨w.heap.size, 0, none⟩ = some (.int .i64 6) := fun W hW => ((hg1.trans hW).cell (p := ⟨w.heap.size, 0, none⟩) (by simp)).trans (by simp)
    go_wp2_with fail
    refine (KI.out _ _ g1 HU.out).mono ?_
    rintro e w2 ⟨rfl, hg2⟩
    have g2 := g1.trans hg2
    have f2 : ∀ W, Grew w2 W → W.cell? ⟨w.heap.size, 2, none⟩ = some (.string ta) := fun W hW => (((hg1.trans hg2).trans hW).cell (p := ⟨w.heap.size, 2, none⟩) (by simp)).trans (by simp)
    have r2 := Grew.refl w2
    go_wp2_with fail
    refine (KL.out _).mono ?_
    rintro e w3 ⟨rfl, hg3⟩
    go_wp2_with fail
    go_ret
    exact ⟨rfl, g2.trans hg3⟩

theorem l26Type_inr (x : Tn) (a : Tm) (hg : Good (.t1 x a)) (hk : x.1 = 7) (G : List Fm.Tree) (hG : ∀ A ∈ G, FmOk A) (_hl : G.length ≤ 12) (IH : TypS a G) (va v : Value) (w : World) (hs : Strs w va (G.map tx)) (h : Tms w v (Tr.enc (.t1 x a))) (hn : (Tr.enc (.t1 x a)).length ≤ 60) :
    Calls Tryz.prog 30 #[va, v] w fun e w' => e = .returned (.string (otx (ty G (.t1 x a)))) ∧ Grew w w' := by
  have hty : ty G (.t1 x a) = (ty G a).bind (ty1 7 (fo x.2.2)) := by
    rw [ty, if_neg (by rw [hk]; decide), hk]
  rw [hty]
  have KP := Lib.hid (fun W (hW : Grew w W) => by
    have h1 := l26Part_c v (.t1 x a) 0 W (h.grew hW) hg (by omega) (by decide : 0 < 1)
    rw [show Tr.kid (.t1 x a) 0 = a from rfl] at h1
    exact h1)
  obtain ⟨b, o, c, rfl, hc, hm, hb, hcl⟩ := tms_head h
  have k0 := fun W (hW : Grew w W) => (hcl W hW).1
  have k1 := fun W (hW : Grew w W) => (hcl W hW).2.1
  have k2 := fun W (hW : Grew w W) => (hcl W hW).2.2
  change ∀ W, Grew w W → W.cell? ⟨b, o, none⟩ = some (.int .i64 x.1) at k0
  change ∀ W, Grew w W → W.cell? ⟨b, o + 1, none⟩ = some (.int .i64 x.2.1) at k1
  change ∀ W, Grew w W → W.cell? ⟨b, o + 2, none⟩ = some (.string x.2.2) at k2
  rw [hk] at k0
  have hpos := Tr.enc_pos (.t1 x a)
  have hal := (Grew.refl w).alloc (.cells #[.int .i64 7, .int .i64 x.2.1, .string x.2.2] 50)
  have hr := Grew.refl w
  have HOK := fun B hB => ty_ok a hg.2 G B hG hB
  have KI := fun u W (hW : Grew w W) hu => IH va u W (hs.grew hW) hu
  obtain ⟨D, d, rfl⟩ := (strs_map hs).1
  have hA := fo_ok (goodN_text hg.1.2 (by rw [hk]; rfl) (by rw [hk]; decide))
  clear hcl h hg hty IH hs hG
  generalize fo x.2.2 = A at *
  rw [← hA.2] at k2 hal
  generalize x.2.1 = xn at *
  generalize (Tr.enc (.t1 x a)).length = n at *
  generalize G.length = gl at *
  have hC : ty G a = none ∨ ∃ C, ty G a = some C := by
    cases ty G a with
    | none => exact .inl rfl
    | some C => exact .inr ⟨C, rfl⟩
  rcases hC with hC | ⟨C, hC⟩
  · rw [hC] at KI ⊢
    change Calls _ _ _ _ (fun e w' => e = .returned (.string ByteArray.empty) ∧ Grew w w')
    rw [show otx none = ByteArray.empty from rfl] at KI
    clear HOK hC hA
    generalize tx A = ta at *
    replace KI := Lib.hid KI
    go_enter Tryz.func30, Tryz.ntmps30
    go_wp2_with fail
    refine (KP.out _ hal).mono ?_
    rintro e w1 ⟨u, rfl, hu, hg1⟩
    have HU := Lib.hid hu
    obtain ⟨U, e1, rfl⟩ := tms_slice hu
    clear hu
    have g1 := hal.trans hg1
    have f0 : ∀ W, Grew w1 W → W.cell? ⟨w.heap.size, 0, none⟩ = some (.int .i64 7) := fun W hW => ((hg1.trans hW).cell (p := ⟨w.heap.size, 0, none⟩) (by simp)).trans (by simp)
    go_wp2_with fail
    refine (KI.out _ _ g1 HU.out).mono ?_
    rintro e w2 ⟨rfl, hg2⟩
    have g2 := g1.trans hg2
    go_wp2_with fail
    go_ret
    exact ⟨rfl, g2⟩
  · rw [hC] at KI ⊢
    change Calls _ _ _ _ (fun e w' => e = .returned (.string (otx (smallF (.or A C)))) ∧ Grew w w')
    rw [otx_small]
    have hok := HOK _ hC
    have KL := Lib.hid (fun w => l26Joined_c 3 A C (.or A C) w hA.1.1 hok.1 rfl)
    have hne := tx_ne C
    rw [show otx (some C) = tx C from rfl] at KI
    clear HOK hC hok
    generalize (if (Fm.enc (.or A C)).length ≤ 40 then tx (.or A C) else ByteArray.empty) = Z at *
    clear hA
    generalize tx C = tc at *
    generalize tx A = ta at *
    replace KI := Lib.hid KI
    go_enter Tryz.func30, Tryz.ntmps30
    go_wp2_with fail
    refine (KP.out _ hal).mono ?_
    rintro e w1 ⟨u, rfl, hu, hg1⟩
    have HU := Lib.hid hu
    obtain ⟨U, e1, rfl⟩ := tms_slice hu
    clear hu
    have g1 := hal.trans hg1
    have f0 : ∀ W, Grew w1 W → W.cell? ⟨w.heap.size, 0, none⟩ = some (.int .i64 7) := fun W hW => ((hg1.trans hW).cell (p := ⟨w.heap.size, 0, none⟩) (by simp)).trans (by simp)
    go_wp2_with fail
    refine (KI.out _ _ g1 HU.out).mono ?_
    rintro e w2 ⟨rfl, hg2⟩
    have g2 := g1.trans hg2
    have f2 : ∀ W, Grew w2 W → W.cell? ⟨w.heap.size, 2, none⟩ = some (.string ta) := fun W hW => (((hg1.trans hg2).trans hW).cell (p := ⟨w.heap.size, 2, none⟩) (by simp)).trans (by simp)
    have r2 := Grew.refl w2
    go_wp2_with fail
    refine (KL.out _).mono ?_
    rintro e w3 ⟨rfl, hg3⟩
    go_wp2_with fail
    go_ret
    exact ⟨rfl, g2.trans hg3⟩
end Go.Proofs.YtdndclfjeajhiaaGreat

/- l26Type of a pair. -/
namespace Go.Proofs.YtdndclfjeajhiaaGreat
open Go.RowKit
open Tr (Tm)

theorem l26Type_pair (x : Tn) (a b : Tm) (hg : Good (.t2 x a b)) (hk : x.1 = 3) (G : List Fm.Tree) (hG : ∀ A ∈ G, FmOk A) (hl : G.length ≤ 12) (IHa : TypS a G) (IHb : TypS b G) (va v : Value) (w : World) (hs : Strs w va (G.map tx)) (h : Tms w v (Tr.enc (.t2 x a b))) (hn : (Tr.enc (.t2 x a b)).length ≤ 60) :
    Calls Tryz.prog 30 #[va, v] w fun e w' => e = .returned (.string (otx (ty G (.t2 x a b)))) ∧ Grew w w' := by
  have hty : ty G (.t2 x a b) = (ty G a).bind fun C => (ty G b).bind fun D => smallF (.and C D) := by
    rw [ty]
    simp [ty2, hk]
  rw [hty]
  have KP := Lib.hid (fun W (hW : Grew w W) => by
    have h1 := l26Part_c v (.t2 x a b) 0 W (h.grew hW) hg (by omega) (by decide : 0 < 2)
    rw [show Tr.kid (.t2 x a b) 0 = a from rfl] at h1
    exact h1)
  have KQ := Lib.hid (fun W (hW : Grew w W) => by
    have h1 := l26Part_c v (.t2 x a b) 1 W (h.grew hW) hg (by omega) (by decide : 1 < 2)
    rw [show Tr.kid (.t2 x a b) 1 = b from rfl] at h1
    exact h1)
  obtain ⟨bb, o, c, rfl, hc, hm, hb, hcl⟩ := tms_head h
  have k0 := fun W (hW : Grew w W) => (hcl W hW).1
  have k1 := fun W (hW : Grew w W) => (hcl W hW).2.1
  have k2 := fun W (hW : Grew w W) => (hcl W hW).2.2
  change ∀ W, Grew w W → W.cell? ⟨bb, o, none⟩ = some (.int .i64 x.1) at k0
  change ∀ W, Grew w W → W.cell? ⟨bb, o + 1, none⟩ = some (.int .i64 x.2.1) at k1
  change ∀ W, Grew w W → W.cell? ⟨bb, o + 2, none⟩ = some (.string x.2.2) at k2
  rw [hk] at k0
  have hpos := Tr.enc_pos (.t2 x a b)
  have hal := (Grew.refl w).alloc (.cells #[.int .i64 3, .int .i64 x.2.1, .string x.2.2] 50)
  have hr := Grew.refl w
  have HA := fun B hB => ty_ok a hg.2.1 G B hG hB
  have HB := fun B hB => ty_ok b hg.2.2 G B hG hB
  have KI := fun u W (hW : Grew w W) hu => IHa va u W (hs.grew hW) hu
  have KJ := fun u W (hW : Grew w W) hu => IHb va u W (hs.grew hW) hu
  obtain ⟨D0, d, rfl⟩ := (strs_map hs).1
  clear hcl h hg hty IHa IHb hs hG
  generalize x.2.1 = xn at *
  generalize x.2.2 = xs at *
  generalize (Tr.enc (.t2 x a b)).length = n at *
  generalize G.length = gl at *
  generalize ty G a = ra at *
  generalize ty G b = rb at *
  cases ra with
  | none =>
    change Calls _ _ _ _ (fun e w' => e = .returned (.string ByteArray.empty) ∧ Grew w w')
    rw [show otx none = ByteArray.empty from rfl] at KI
    clear HA HB
    replace KI := Lib.hid KI
    replace KJ := Lib.hid KJ
    go_enter Tryz.func30, Tryz.ntmps30
    go_wp2_with fail
    refine (KP.out _ hal).mono ?_
    rintro e w1 ⟨u, rfl, hu, hg1⟩
    have HU := Lib.hid hu
    obtain ⟨U, e1, rfl⟩ := tms_slice hu
    clear hu
    have g1 := hal.trans hg1
    have f0 : ∀ W, Grew w1 W → W.cell? ⟨w.heap.size, 0, none⟩ = some (.int .i64 3) := fun W hW => ((hg1.trans hW).cell (p := ⟨w.heap.size, 0, none⟩) (by simp)).trans (by simp)
    go_wp2_with fail
    refine (KI.out _ _ g1 HU.out).mono ?_
    rintro e w2 ⟨rfl, hg2⟩
    have g2 := g1.trans hg2
    go_wp2_with fail
    go_ret
    exact ⟨rfl, g2⟩
  | some C =>
    have hneC := tx_ne C
    have hokC := (HA C rfl).1
    rw [show otx (some C) = tx C from rfl] at KI
    cases rb with
    | none =>
      change Calls _ _ _ _ (fun e w' => e = .returned (.string ByteArray.empty) ∧ Grew w w')
      rw [show otx none = ByteArray.empty from rfl] at KJ
      clear HA HB hokC
      generalize tx C = tc at *
      replace KI := Lib.hid KI
      replace KJ := Lib.hid KJ
      go_enter Tryz.func30, Tryz.ntmps30
      go_wp2_with fail
      refine (KP.out _ hal).mono ?_
      rintro e w1 ⟨u, rfl, hu, hg1⟩
      have HU := Lib.hid hu
      obtain ⟨U, e1, rfl⟩ := tms_slice hu
      clear hu
      have g1 := hal.trans hg1
      have f0 : ∀ W, Grew w1 W → W.cell? ⟨w.heap.size, 0, none⟩ = some (.int .i64 3) := fun W hW => ((hg1.trans hW).cell (p := ⟨w.heap.size, 0, none⟩) (by simp)).trans (by simp)
      go_wp2_with fail
      refine (KI.out _ _ g1 HU.out).mono ?_
      rintro e w2 ⟨rfl, hg2⟩
      have g2 := g1.trans hg2
      have f1 := f0 _ hg2
      go_wp2_with fail
      refine (KQ.out _ g2).mono ?_
      rintro e w3 ⟨u3, rfl, hu3, hg3⟩
      have HU3 := Lib.hid hu3
      obtain ⟨U3, e3, rfl⟩ := tms_slice hu3
      clear hu3
      have g3 := g2.trans hg3
      go_wp2_with fail
      refine (KJ.out _ _ g3 HU3.out).mono ?_
      rintro e w4 ⟨rfl, hg4⟩
      have g4 := g3.trans hg4
      have f4 := f0 _ ((hg2.trans hg3).trans hg4)
      go_wp2_with fail
      go_ret
      exact ⟨rfl, g4⟩
    | some D =>
      have hneD := tx_ne D
      have hokD := (HB D rfl).1
      rw [show otx (some D) = tx D from rfl] at KJ
      change Calls _ _ _ _ (fun e w' => e = .returned (.string (otx (smallF (.and C D)))) ∧ Grew w w')
      rw [otx_small]
      have KL := Lib.hid (fun w => l26Joined_c 2 C D (.and C D) w hokC hokD rfl)
      clear HA HB hokC hokD
      generalize (if (Fm.enc (.and C D)).length ≤ 40 then tx (.and C D) else ByteArray.empty) = Z at *
      generalize tx C = tc at *
      generalize tx D = td at *
      replace KI := Lib.hid KI
      replace KJ := Lib.hid KJ
      go_enter Tryz.func30, Tryz.ntmps30
      go_wp2_with fail
      refine (KP.out _ hal).mono ?_
      rintro e w1 ⟨u, rfl, hu, hg1⟩
      have HU := Lib.hid hu
      obtain ⟨U, e1, rfl⟩ := tms_slice hu
      clear hu
      have g1 := hal.trans hg1
      have f0 : ∀ W, Grew w1 W → W.cell? ⟨w.heap.size, 0, none⟩ = some (.int .i64 3) := fun W hW => ((hg1.trans hW).cell (p := ⟨w.heap.size, 0, none⟩) (by simp)).trans (by simp)
      go_wp2_with fail
      refine (KI.out _ _ g1 HU.out).mono ?_
      rintro e w2 ⟨rfl, hg2⟩
      have g2 := g1.trans hg2
      have f1 := f0 _ hg2
      go_wp2_with fail
      refine (KQ.out _ g2).mono ?_
      rintro e w3 ⟨u3, rfl, hu3, hg3⟩
      have HU3 := Lib.hid hu3
      obtain ⟨U3, e3, rfl⟩ := tms_slice hu3
      clear hu3
      have g3 := g2.trans hg3
      go_wp2_with fail
      refine (KJ.out _ _ g3 HU3.out).mono ?_
      rintro e w4 ⟨rfl, hg4⟩
      have g4 := g3.trans hg4
      have f4 := f0 _ ((hg2.trans hg3).trans hg4)
      go_wp2_with fail
      refine (KL.out _).mono ?_
      rintro e w5 ⟨rfl, hg5⟩
      go_wp2_with fail
      go_ret
      exact ⟨rfl, g4.trans hg5⟩
end Go.Proofs.YtdndclfjeajhiaaGreat

/- l26Type of an application. -/
namespace Go.Proofs.YtdndclfjeajhiaaGreat
open Go.RowKit
open Tr (Tm)

theorem l26Type_app (x : Tn) (a b : Tm) (hg : Good (.t2 x a b)) (hk : x.1 = 2) (G : List Fm.Tree) (hG : ∀ A ∈ G, FmOk A) (hl : G.length ≤ 12) (IHa : TypS a G) (IHb : TypS b G) (va v : Value) (w : World) (hs : Strs w va (G.map tx)) (h : Tms w v (Tr.enc (.t2 x a b))) (hn : (Tr.enc (.t2 x a b)).length ≤ 60) :
    Calls Tryz.prog 30 #[va, v] w fun e w' => e = .returned (.string (otx (ty G (.t2 x a b)))) ∧ Grew w w' := by
  have hty : ty G (.t2 x a b) = (ty G a).bind fun C => (ty G b).bind fun D => ty2 2 C D := by
    rw [ty, hk]
  rw [hty]
  have KP := Lib.hid (fun W (hW : Grew w W) => by
    have h1 := l26Part_c v (.t2 x a b) 0 W (h.grew hW) hg (by omega) (by decide : 0 < 2)
    rw [show Tr.kid (.t2 x a b) 0 = a from rfl] at h1
    exact h1)
  have KQ := Lib.hid (fun W (hW : Grew w W) => by
    have h1 := l26Part_c v (.t2 x a b) 1 W (h.grew hW) hg (by omega) (by decide : 1 < 2)
    rw [show Tr.kid (.t2 x a b) 1 = b from rfl] at h1
    exact h1)
  obtain ⟨bb, o, c, rfl, hc, hm, hb, hcl⟩ := tms_head h
  have k0 := fun W (hW : Grew w W) => (hcl W hW).1
  have k1 := fun W (hW : Grew w W) => (hcl W hW).2.1
  have k2 := fun W (hW : Grew w W) => (hcl W hW).2.2
  change ∀ W, Grew w W → W.cell? ⟨bb, o, none⟩ = some (.int .i64 x.1) at k0
  change ∀ W, Grew w W → W.cell? ⟨bb, o + 1, none⟩ = some (.int .i64 x.2.1) at k1
  change ∀ W, Grew w W → W.cell? ⟨bb, o + 2, none⟩ = some (.string x.2.2) at k2
  rw [hk] at k0
  have hpos := Tr.enc_pos (.t2 x a b)
  have hal := (Grew.refl w).alloc (.cells #[.int .i64 2, .int .i64 x.2.1, .string x.2.2] 50)
  have hr := Grew.refl w
  have HA := fun B hB => ty_ok a hg.2.1 G B hG hB
  have HB := fun B hB => ty_ok b hg.2.2 G B hG hB
  have KI := fun u W (hW : Grew w W) hu => IHa va u W (hs.grew hW) hu
  have KJ := fun u W (hW : Grew w W) hu => IHb va u W (hs.grew hW) hu
  obtain ⟨D0, d, rfl⟩ := (strs_map hs).1
  clear hcl h hg hty IHa IHb hs hG
  generalize x.2.1 = xn at *
  generalize x.2.2 = xs at *
  generalize (Tr.enc (.t2 x a b)).length = n at *
  generalize G.length = gl at *
  generalize ty G a = ra at *
  generalize ty G b = rb at *
  cases ra with
  | none =>
    change Calls _ _ _ _ (fun e w' => e = .returned (.string ByteArray.empty) ∧ Grew w w')
    rw [show otx none = ByteArray.empty from rfl] at KI
    clear HA HB
    replace KI := Lib.hid KI
    replace KJ := Lib.hid KJ
    go_enter Tryz.func30, Tryz.ntmps30
    go_wp2_with fail
    refine (KP.out _ hal).mono ?_
    rintro e w1 ⟨u, rfl, hu, hg1⟩
    have HU := Lib.hid hu
    obtain ⟨U, e1, rfl⟩ := tms_slice hu
    clear hu
    have g1 := hal.trans hg1
    have f0 : ∀ W, Grew w1 W → W.cell? ⟨w.heap.size, 0, none⟩ = some (.int .i64 2) := fun W hW => ((hg1.trans hW).cell (p := ⟨w.heap.size, 0, none⟩) (by simp)).trans (by simp)
    go_wp2_with fail
    refine (KI.out _ _ g1 HU.out).mono ?_
    rintro e w2 ⟨rfl, hg2⟩
    have g2 := g1.trans hg2
    go_wp2_with fail
    go_ret
    exact ⟨rfl, g2⟩
  | some C =>
    have hneC := tx_ne C
    have hokC := (HA C rfl).1
    rw [show otx (some C) = tx C from rfl] at KI
    cases rb with
    | none =>
      change Calls _ _ _ _ (fun e w' => e = .returned (.string ByteArray.empty) ∧ Grew w w')
      rw [show otx none = ByteArray.empty from rfl] at KJ
      clear HA HB hokC
      generalize tx C = tc at *
      replace KI := Lib.hid KI
      replace KJ := Lib.hid KJ
      go_enter Tryz.func30, Tryz.ntmps30
      go_wp2_with fail
      refine (KP.out _ hal).mono ?_
      rintro e w1 ⟨u, rfl, hu, hg1⟩
      have HU := Lib.hid hu
      obtain ⟨U, e1, rfl⟩ := tms_slice hu
      clear hu
      have g1 := hal.trans hg1
      have f0 : ∀ W, Grew w1 W → W.cell? ⟨w.heap.size, 0, none⟩ = some (.int .i64 2) := fun W hW => ((hg1.trans hW).cell (p := ⟨w.heap.size, 0, none⟩) (by simp)).trans (by simp)
      go_wp2_with fail
      refine (KI.out _ _ g1 HU.out).mono ?_
      rintro e w2 ⟨rfl, hg2⟩
      have g2 := g1.trans hg2
      have f1 := f0 _ hg2
      go_wp2_with fail
      refine (KQ.out _ g2).mono ?_
      rintro e w3 ⟨u3, rfl, hu3, hg3⟩
      have HU3 := Lib.hid hu3
      obtain ⟨U3, e3, rfl⟩ := tms_slice hu3
      clear hu3
      have g3 := g2.trans hg3
      go_wp2_with fail
      refine (KJ.out _ _ g3 HU3.out).mono ?_
      rintro e w4 ⟨rfl, hg4⟩
      have g4 := g3.trans hg4
      have f4 := f0 _ ((hg2.trans hg3).trans hg4)
      go_wp2_with fail
      go_ret
      exact ⟨rfl, g4⟩
    | some D =>
      have hneD := tx_ne D
      have hokD := (HB D rfl).1
      have hokC2 := HA C rfl
      rw [show otx (some D) = tx D from rfl] at KJ
      have hCC : (∃ p q, C = .imp p q) ∨ (kindOf C ≠ 4 ∧ ty2 2 C D = none) := by
        cases C with
        | imp p q => exact .inl ⟨p, q, rfl⟩
        | _ => exact .inr ⟨by simp [kindOf], by simp [ty2]⟩
      rcases hCC with ⟨p, q, rfl⟩ | ⟨hk4, hno⟩
      · have KL := Lib.hid (fun w => l25Parts_yes 4 (.imp p q) p q w hokC2 rfl rfl)
        by_cases hpd : p = D
        · subst hpd
          have hR : ((some (.imp p q)).bind fun C => (some p).bind fun D => ty2 2 C D) = some q := by simp [ty2]
          rw [hR]
          change Calls _ _ _ _ (fun e w' => e = .returned (.string (tx q)) ∧ Grew w w')
          clear HA HB hokC hokD hokC2 hR
          generalize tx (.imp p q) = tc at *
          generalize tx p = td at *
          generalize tx q = tq at *
          replace KI := Lib.hid KI
          replace KJ := Lib.hid KJ
          go_enter Tryz.func30, Tryz.ntmps30
          go_wp2_with fail
          refine (KP.out _ hal).mono ?_
          rintro e w1 ⟨u, rfl, hu, hg1⟩
          have HU := Lib.hid hu
          obtain ⟨U, e1, rfl⟩ := tms_slice hu
          clear hu
          have g1 := hal.trans hg1
          have f0 : ∀ W, Grew w1 W → W.cell? ⟨w.heap.size, 0, none⟩ = some (.int .i64 2) := fun W hW => ((hg1.trans hW).cell (p := ⟨w.heap.size, 0, none⟩) (by simp)).trans (by simp)
          go_wp2_with fail
          refine (KI.out _ _ g1 HU.out).mono ?_
          rintro e w2 ⟨rfl, hg2⟩
          have g2 := g1.trans hg2
          have f1 := f0 _ hg2
          go_wp2_with fail
          refine (KQ.out _ g2).mono ?_
          rintro e w3 ⟨u3, rfl, hu3, hg3⟩
          have HU3 := Lib.hid hu3
          obtain ⟨U3, e3, rfl⟩ := tms_slice hu3
          clear hu3
          have g3 := g2.trans hg3
          go_wp2_with fail
          refine (KJ.out _ _ g3 HU3.out).mono ?_
          rintro e w4 ⟨rfl, hg4⟩
          have g4 := g3.trans hg4
          have f4 := f0 _ ((hg2.trans hg3).trans hg4)
          go_wp2_with fail
          refine (KL.out _).mono ?_
          rintro e w5 ⟨rfl, hg5⟩
          go_wp2_with fail
          go_ret
          exact ⟨rfl, g4.trans hg5⟩
        · have hR : ((some (.imp p q)).bind fun C => (some D).bind fun D => ty2 2 C D) = none := by simp [ty2, hpd]
          rw [hR]
          have hokp := (fmOk_imp hokC2).1.1
          have hneq : tx p ≠ tx D := fun hh => hpd (tx_inj hokp hokD hh)
          have hb1 : ((tx p).toList == (tx D).toList) = false := by
            cases hq : ((tx p).toList == (tx D).toList) with
            | false => rfl
            | true => exact absurd ((Lib.bytes_beq_iff _ _).1 hq) hneq
          have hb2 : ((tx p).toList != (tx D).toList) = true := by rw [bne, hb1]; rfl
          change Calls _ _ _ _ (fun e w' => e = .returned (.string ByteArray.empty) ∧ Grew w w')
          clear HA HB hokC hokD hokC2 hR hokp hneq hpd
          generalize tx (.imp p q) = tc at *
          generalize tx p = tp at *
          generalize tx D = td at *
          generalize tx q = tq at *
          replace KI := Lib.hid KI
          replace KJ := Lib.hid KJ
          go_enter Tryz.func30, Tryz.ntmps30
          go_wp2_with fail
          refine (KP.out _ hal).mono ?_
          rintro e w1 ⟨u, rfl, hu, hg1⟩
          have HU := Lib.hid hu
          obtain ⟨U, e1, rfl⟩ := tms_slice hu
          clear hu
          have g1 := hal.trans hg1
          have f0 : ∀ W, Grew w1 W → W.cell? ⟨w.heap.size, 0, none⟩ = some (.int .i64 2) := fun W hW => ((hg1.trans hW).cell (p := ⟨w.heap.size, 0, none⟩) (by simp)).trans (by simp)
          go_wp2_with fail
          refine (KI.out _ _ g1 HU.out).mono ?_
          rintro e w2 ⟨rfl, hg2⟩
          have g2 := g1.trans hg2
          have f1 := f0 _ hg2
          go_wp2_with fail
          refine (KQ.out _ g2).mono ?_
          rintro e w3 ⟨u3, rfl, hu3, hg3⟩
          have HU3 := Lib.hid hu3
          obtain ⟨U3, e3, rfl⟩ := tms_slice hu3
          clear hu3
          have g3 := g2.trans hg3
          go_wp2_with fail
          refine (KJ.out _ _ g3 HU3.out).mono ?_
          rintro e w4 ⟨rfl, hg4⟩
          have g4 := g3.trans hg4
          have f4 := f0 _ ((hg2.trans hg3).trans hg4)
          go_wp2_with fail
          refine (KL.out _).mono ?_
          rintro e w5 ⟨rfl, hg5⟩
          go_wp2_with fail
          go_ret
          exact ⟨rfl, g4.trans hg5⟩
      · have KL := Lib.hid (fun w => l25Parts_no 4 C w hokC2 hk4)
        rw [show ((some C).bind fun C => (some D).bind fun D => ty2 2 C D) = none from hno]
        change Calls _ _ _ _ (fun e w' => e = .returned (.string ByteArray.empty) ∧ Grew w w')
        clear HA HB hokC hokD hokC2 hno hk4
        generalize tx C = tc at *
        generalize tx D = td at *
        replace KI := Lib.hid KI
        replace KJ := Lib.hid KJ
        go_enter Tryz.func30, Tryz.ntmps30
        go_wp2_with fail
        refine (KP.out _ hal).mono ?_
        rintro e w1 ⟨u, rfl, hu, hg1⟩
        have HU := Lib.hid hu
        obtain ⟨U, e1, rfl⟩ := tms_slice hu
        clear hu
        have g1 := hal.trans hg1
        have f0 : ∀ W, Grew w1 W → W.cell? ⟨w.heap.size, 0, none⟩ = some (.int .i64 2) := fun W hW => ((hg1.trans hW).cell (p := ⟨w.heap.size, 0, none⟩) (by simp)).trans (by simp)
        go_wp2_with fail
        refine (KI.out _ _ g1 HU.out).mono ?_
        rintro e w2 ⟨rfl, hg2⟩
        have g2 := g1.trans hg2
        have f1 := f0 _ hg2
        go_wp2_with fail
        refine (KQ.out _ g2).mono ?_
        rintro e w3 ⟨u3, rfl, hu3, hg3⟩
        have HU3 := Lib.hid hu3
        obtain ⟨U3, e3, rfl⟩ := tms_slice hu3
        clear hu3
        have g3 := g2.trans hg3
        go_wp2_with fail
        refine (KJ.out _ _ g3 HU3.out).mono ?_
        rintro e w4 ⟨rfl, hg4⟩
        have g4 := g3.trans hg4
        have f4 := f0 _ ((hg2.trans hg3).trans hg4)
        go_wp2_with fail
        refine (KL.out _).mono ?_
        rintro e w5 ⟨rfl, hg5⟩
        go_wp2_with fail
        go_ret
        exact ⟨rfl, g4.trans hg5⟩
end Go.Proofs.YtdndclfjeajhiaaGreat

/- l26Type of an abort. -/
namespace Go.Proofs.YtdndclfjeajhiaaGreat
open Go.RowKit
open Tr (Tm)

theorem l26Type_abort (x : Tn) (a : Tm) (hg : Good (.t1 x a)) (hk : x.1 = 9) (G : List Fm.Tree) (hG : ∀ A ∈ G, FmOk A) (hl : G.length ≤ 12) (IH : TypS a G) (va v : Value) (w : World) (hs : Strs w va (G.map tx)) (h : Tms w v (Tr.enc (.t1 x a))) (hn : (Tr.enc (.t1 x a)).length ≤ 60) :
    Calls Tryz.prog 30 #[va, v] w fun e w' => e = .returned (.string (otx (ty G (.t1 x a)))) ∧ Grew w w' := by
  have hty : ty G (.t1 x a) = (ty G a).bind (ty1 9 (fo x.2.2)) := by
    rw [ty, if_neg (by rw [hk]; decide), hk]
  rw [hty]
  have KP := Lib.hid (fun W (hW : Grew w W) => by
    have h1 := l26Part_c v (.t1 x a) 0 W (h.grew hW) hg (by omega) (by decide : 0 < 1)
    rw [show Tr.kid (.t1 x a) 0 = a from rfl] at h1
    exact h1)
  obtain ⟨b, o, c, rfl, hc, hm, hb, hcl⟩ := tms_head h
  have k0 := fun W (hW : Grew w W) => (hcl W hW).1
  have k1 := fun W (hW : Grew w W) => (hcl W hW).2.1
  have k2 := fun W (hW : Grew w W) => (hcl W hW).2.2
  change ∀ W, Grew w W → W.cell? ⟨b, o, none⟩ = some (.int .i64 x.1) at k0
  change ∀ W, Grew w W → W.cell? ⟨b, o + 1, none⟩ = some (.int .i64 x.2.1) at k1
  change ∀ W, Grew w W → W.cell? ⟨b, o + 2, none⟩ = some (.string x.2.2) at k2
  rw [hk] at k0
  have hpos := Tr.enc_pos (.t1 x a)
  have hal := (Grew.refl w).alloc (.cells #[.int .i64 9, .int .i64 x.2.1, .string x.2.2] 50)
  have hr := Grew.refl w
  have HOK := fun B hB => ty_ok a hg.2 G B hG hB
  have KI := fun u W (hW : Grew w W) hu => IH va u W (hs.grew hW) hu
  obtain ⟨D, d, rfl⟩ := (strs_map hs).1
  have hA := fo_ok (goodN_text hg.1.2 (by rw [hk]; rfl) (by rw [hk]; decide))
  clear hcl h hg hty IH hs hG
  generalize fo x.2.2 = A at *
  rw [← hA.2] at k2 hal
  generalize x.2.1 = xn at *
  generalize (Tr.enc (.t1 x a)).length = n at *
  generalize G.length = gl at *
  have hC : ty G a = none ∨ (ty G a = some .fls) ∨ ∃ C, ty G a = some C ∧ C ≠ .fls ∧ ty1 9 A C = none := by
    cases ty G a with
    | none => exact .inl rfl
    | some C =>
      cases C with
      | fls => exact .inr (.inl rfl)
      | _ => exact .inr (.inr ⟨_, rfl, by simp, by simp [ty1]⟩)
  rcases hC with hC | hC | ⟨C, hC, hne9, h1⟩
  · rw [hC] at KI ⊢
    change Calls _ _ _ _ (fun e w' => e = .returned (.string ByteArray.empty) ∧ Grew w w')
    rw [show otx none = ByteArray.empty from rfl] at KI
    clear HOK hC hA
    generalize tx A = ta at *
    replace KI := Lib.hid KI
    go_enter Tryz.func30, Tryz.ntmps30
    go_wp2_with fail
    refine (KP.out _ hal).mono ?_
    rintro e w1 ⟨u, rfl, hu, hg1⟩
    have HU := Lib.hid hu
    obtain ⟨U, e1, rfl⟩ := tms_slice hu
    clear hu
    have g1 := hal.trans hg1
    have f0 : ∀ W, Grew w1 W → W.cell? ⟨w.heap.size, 0, none⟩ = some (.int .i64 9) := fun W hW => ((hg1.trans hW).cell (p := ⟨w.heap.size, 0, none⟩) (by simp)).trans (by simp)
    go_wp2_with fail
    refine (KI.out _ _ g1 HU.out).mono ?_
    rintro e w2 ⟨rfl, hg2⟩
    have g2 := g1.trans hg2
    go_wp2_with fail
    go_ret
    exact ⟨rfl, g2⟩
  · rw [hC] at KI ⊢
    change Calls _ _ _ _ (fun e w' => e = .returned (.string (tx A)) ∧ Grew w w')
    have hF : tx .fls = ⟨#[70]⟩ := rfl
    rw [show otx (some .fls) = tx .fls from rfl, hF] at KI
    clear HOK hC hA hF
    generalize tx A = ta at *
    replace KI := Lib.hid KI
    go_enter Tryz.func30, Tryz.ntmps30
    go_wp2_with fail
    refine (KP.out _ hal).mono ?_
    rintro e w1 ⟨u, rfl, hu, hg1⟩
    have HU := Lib.hid hu
    obtain ⟨U, e1, rfl⟩ := tms_slice hu
    clear hu
    have g1 := hal.trans hg1
    have f0 : ∀ W, Grew w1 W → W.cell? ⟨w.heap.size, 0, none⟩ = some (.int .i64 9) := fun W hW => ((hg1.trans hW).cell (p := ⟨w.heap.size, 0, none⟩) (by simp)).trans (by simp)
    go_wp2_with fail
    refine (KI.out _ _ g1 HU.out).mono ?_
    rintro e w2 ⟨rfl, hg2⟩
    have g2 := g1.trans hg2
    have f2 : ∀ W, Grew w2 W → W.cell? ⟨w.heap.size, 2, none⟩ = some (.string ta) := fun W hW => (((hg1.trans hg2).trans hW).cell (p := ⟨w.heap.size, 2, none⟩) (by simp)).trans (by simp)
    have r2 := Grew.refl w2
    go_wp2_with fail
    go_ret
    exact ⟨rfl, g2⟩
  · rw [hC] at KI ⊢
    rw [show (some C).bind (ty1 9 A) = none from h1]
    change Calls _ _ _ _ (fun e w' => e = .returned (.string ByteArray.empty) ∧ Grew w w')
    have hok := HOK _ hC
    have hne := tx_ne C
    rw [show otx (some C) = tx C from rfl] at KI
    have hneq : tx C ≠ tx .fls := fun hh => hne9 (tx_inj hok.1 (by decide) hh)
    have hb1 : ((tx C).toList == (tx .fls).toList) = false := by
        cases hq : ((tx C).toList == (tx .fls).toList) with
        | false => rfl
        | true => exact absurd ((Lib.bytes_beq_iff _ _).1 hq) hneq
    have hF : tx .fls = ⟨#[70]⟩ := rfl
    rw [hF] at hb1
    have h70 : (⟨#[70]⟩ : ByteArray).toList = [70] := by first | rfl | decide | (simp; done) | (unfold ByteArray.toList ByteArray.toList.loop; simp [ByteArray.size]; unfold ByteArray.toList.loop; simp [ByteArray.size]; done)
    rw [h70] at hb1
    clear HOK hC hok hneq hF hA h1 hne9 h70
    generalize tx C = tc at *
    generalize tx A = ta at *
    replace KI := Lib.hid KI
    go_enter Tryz.func30, Tryz.ntmps30
    go_wp2_with fail
    refine (KP.out _ hal).mono ?_
    rintro e w1 ⟨u, rfl, hu, hg1⟩
    have HU := Lib.hid hu
    obtain ⟨U, e1, rfl⟩ := tms_slice hu
    clear hu
    have g1 := hal.trans hg1
    have f0 : ∀ W, Grew w1 W → W.cell? ⟨w.heap.size, 0, none⟩ = some (.int .i64 9) := fun W hW => ((hg1.trans hW).cell (p := ⟨w.heap.size, 0, none⟩) (by simp)).trans (by simp)
    go_wp2_with fail
    refine (KI.out _ _ g1 HU.out).mono ?_
    rintro e w2 ⟨rfl, hg2⟩
    have g2 := g1.trans hg2
    have f2 : ∀ W, Grew w2 W → W.cell? ⟨w.heap.size, 2, none⟩ = some (.string ta) := fun W hW => (((hg1.trans hg2).trans hW).cell (p := ⟨w.heap.size, 2, none⟩) (by simp)).trans (by simp)
    have r2 := Grew.refl w2
    go_wp2_with fail
    go_ret
    exact ⟨rfl, g2⟩
end Go.Proofs.YtdndclfjeajhiaaGreat

/- l26Type of a case. -/
namespace Go.Proofs.YtdndclfjeajhiaaGreat
open Go.RowKit
open Tr (Tm)

theorem otx_eq {r s : Option Fm.Tree} (hr : ∀ A, r = some A → FmOk A) (hs : ∀ A, s = some A → FmOk A) :
    otx (r.bind fun R => s.bind fun S => if @decide (R = S) (Classical.propDecidable _) then some R else none) = if otx r = otx s then otx r else ByteArray.empty := by
  cases r with
  | none =>
    show ByteArray.empty = if ByteArray.empty = otx s then ByteArray.empty else ByteArray.empty
    rw [ite_self]
  | some R =>
    have hR := (hr R rfl).1
    cases s with
    | none =>
      have hne := tx_ne R
      have : otx (some R) ≠ otx none := by
        intro h
        rw [show otx (some R) = tx R from rfl, show otx none = ByteArray.empty from rfl] at h
        rw [h] at hne
        have h2 : ByteArray.empty.toList.isEmpty = true := by unfold ByteArray.toList ByteArray.toList.loop; rfl
        rw [h2] at hne
        cases hne
      rw [if_neg this]
      rfl
    | some S =>
      have hS := (hs S rfl).1
      by_cases h : R = S
      · subst h; simp [otx]
      · have : otx (some R) ≠ otx (some S) := fun hh => h (tx_inj hR hS hh)
        rw [if_neg this]
        simp [h, otx]

/-- The type of a case whose first part has a type. -/
noncomputable def tyCs (G : List Fm.Tree) (a b : Tm) : Fm.Tree → Option Fm.Tree
  | .or p q => if G.length < 12 then ((ty (G ++ [p]) a).bind fun R => (ty (G ++ [q]) b).bind fun S => if @decide (R = S) (Classical.propDecidable _) then some R else none) else none
  | _ => none
theorem ty_case (x : Tn) (c a b : Tm) (G : List Fm.Tree) : ty G (.t3 x c a b) = (ty G c).bind (tyCs G a b) := by
  rw [ty]
  congr 1
theorem tyCs_not {G : List Fm.Tree} {a b : Tm} {C : Fm.Tree} (h : (kindOf C == 3) = false) : tyCs G a b C = none := by
  cases C with
  | or p q => simp [kindOf] at h
  | _ => rfl

theorem l26Type_case (x : Tn) (c0 a b : Tm) (hg : Good (.t3 x c0 a b)) (hk : x.1 = 8) (G : List Fm.Tree) (hG : ∀ A ∈ G, FmOk A) (hl : G.length ≤ 12) (IHc : TypS c0 G) (IHa : ∀ A, FmOk A → G.length < 12 → TypS a (G ++ [A])) (IHb : ∀ A, FmOk A → G.length < 12 → TypS b (G ++ [A])) (va v : Value) (w : World) (hs : Strs w va (G.map tx)) (h : Tms w v (Tr.enc (.t3 x c0 a b))) (hn : (Tr.enc (.t3 x c0 a b)).length ≤ 60) :
    Calls Tryz.prog 30 #[va, v] w fun e w' => e = .returned (.string (otx (ty G (.t3 x c0 a b)))) ∧ Grew w w' := by
  have KP := Lib.hid (fun W (hW : Grew w W) => by
    have h1 := l26Part_c v (.t3 x c0 a b) 0 W (h.grew hW) hg (by omega) (by decide : 0 < 3)
    rw [show Tr.kid (.t3 x c0 a b) 0 = c0 from rfl] at h1
    exact h1)
  have KQ := Lib.hid (fun W (hW : Grew w W) => by
    have h1 := l26Part_c v (.t3 x c0 a b) 1 W (h.grew hW) hg (by omega) (by decide : 1 < 3)
    rw [show Tr.kid (.t3 x c0 a b) 1 = a from rfl] at h1
    exact h1)
  have KR := Lib.hid (fun W (hW : Grew w W) => by
    have h1 := l26Part_c v (.t3 x c0 a b) 2 W (h.grew hW) hg (by omega) (by decide : 2 < 3)
    rw [show Tr.kid (.t3 x c0 a b) 2 = b from rfl] at h1
    exact h1)
  have hgl : ∀ A, FmOk A → ∀ B ∈ G ++ [A], FmOk B := fun A hA B hB => by
    rw [List.mem_append] at hB
    rcases hB with hB | hB
    · exact hG B hB
    · simp at hB; subst hB; exact hA
  have HOC := fun B hB => ty_ok c0 hg.2.1 G B hG hB
  have HOA := fun A hA B hB => ty_ok a hg.2.2.1 (G ++ [A]) B (hgl A hA) hB
  have HOB := fun A hA B hB => ty_ok b hg.2.2.2 (G ++ [A]) B (hgl A hA) hB
  have KI := fun u W (hW : Grew w W) hu => IHc va u W (hs.grew hW) hu
  have KA := fun A (hA : FmOk A) u W (hW : Grew w W) hu => l26Under_c A a G (IHa A hA) va u W (hs.grew hW) hu hl
  have KB := fun A (hA : FmOk A) u W (hW : Grew w W) hu => l26Under_c A b G (IHb A hA) va u W (hs.grew hW) hu hl
  have hty : ty G (.t3 x c0 a b) = (ty G c0).bind (tyCs G a b) := ty_case x c0 a b G
  rw [hty]
  obtain ⟨bb, o, c, rfl, hc, hm, hb, hcl⟩ := tms_head h
  have k0 := fun W (hW : Grew w W) => (hcl W hW).1
  have k1 := fun W (hW : Grew w W) => (hcl W hW).2.1
  have k2 := fun W (hW : Grew w W) => (hcl W hW).2.2
  change ∀ W, Grew w W → W.cell? ⟨bb, o, none⟩ = some (.int .i64 x.1) at k0
  change ∀ W, Grew w W → W.cell? ⟨bb, o + 1, none⟩ = some (.int .i64 x.2.1) at k1
  change ∀ W, Grew w W → W.cell? ⟨bb, o + 2, none⟩ = some (.string x.2.2) at k2
  rw [hk] at k0
  have hpos := Tr.enc_pos (.t3 x c0 a b)
  have hal := (Grew.refl w).alloc (.cells #[.int .i64 8, .int .i64 x.2.1, .string x.2.2] 50)
  have hr := Grew.refl w
  obtain ⟨D0, d, rfl⟩ := (strs_map hs).1
  clear hcl h hg hty IHa IHb IHc hs hG hgl
  generalize x.2.1 = xn at *
  generalize x.2.2 = xs at *
  generalize (Tr.enc (.t3 x c0 a b)).length = n at *
  generalize ty G c0 = rc at *
  cases rc with
  | none =>
    change Calls _ _ _ _ (fun e w' => e = .returned (.string ByteArray.empty) ∧ Grew w w')
    rw [show otx none = ByteArray.empty from rfl] at KI
    clear HOC HOA HOB KA KB KQ KR hl
    generalize G.length = gl at *
    replace KI := Lib.hid KI
    go_enter Tryz.func30, Tryz.ntmps30
    go_wp2_with fail
    refine (KP.out _ hal).mono ?_
    rintro e w1 ⟨u, rfl, hu, hg1⟩
    have HU := Lib.hid hu
    obtain ⟨U, e1, rfl⟩ := tms_slice hu
    clear hu
    have g1 := hal.trans hg1
    have f0 : ∀ W, Grew w1 W → W.cell? ⟨w.heap.size, 0, none⟩ = some (.int .i64 8) := fun W hW => ((hg1.trans hW).cell (p := ⟨w.heap.size, 0, none⟩) (by simp)).trans (by simp)
    go_wp2_with fail
    refine (KI.out _ _ g1 HU.out).mono ?_
    rintro e w2 ⟨rfl, hg2⟩
    have g2 := g1.trans hg2
    have f1 := f0 _ hg2
    go_wp2_with fail
    go_ret
    exact ⟨rfl, g2⟩
  | some C =>
    have hneC := tx_ne C
    have hokC := HOC C rfl
    rw [show otx (some C) = tx C from rfl] at KI
    have hCC : (∃ p q, C = .or p q) ∨ (kindOf C ≠ 3 ∧ (some C).bind (tyCs G a b) = none) := by
      cases C with
      | or p q => exact .inl ⟨p, q, rfl⟩
      | _ => exact .inr ⟨by simp [kindOf], rfl⟩
    rcases hCC with ⟨p, q, rfl⟩ | ⟨hk3, hno⟩
    · have KL := Lib.hid (fun w => l25Parts_yes 3 (.or p q) p q w hokC rfl rfl)
      obtain ⟨hp, hq⟩ := fmOk_or hokC
      replace KA := KA p hp
      replace KB := KB q hq
      have hR : otx ((some (Fm.Tree.or p q)).bind (tyCs G a b)) = if otx (if G.length < 12 then ty (G ++ [p]) a else none) = otx (if G.length < 12 then ty (G ++ [q]) b else none) then otx (if G.length < 12 then ty (G ++ [p]) a else none) else ByteArray.empty := by
        by_cases h12 : G.length < 12
        · rw [if_pos h12, if_pos h12, ← otx_eq (HOA p hp) (HOB q hq), Option.bind_some, tyCs, if_pos h12]
        · rw [if_neg h12, if_neg h12, Option.bind_some, tyCs, if_neg h12, if_pos rfl]
      rw [hR]
      clear HOC HOA HOB hokC hR hp hq hl
      generalize otx (if G.length < 12 then ty (G ++ [p]) a else none) = sa at *
      generalize otx (if G.length < 12 then ty (G ++ [q]) b else none) = sb at *
      generalize tx (.or p q) = tc at *
      generalize tx p = tp at *
      generalize tx q = tq at *
      generalize G.length = gl at *
      replace KI := Lib.hid KI
      replace KA := Lib.hid KA
      replace KB := Lib.hid KB
      by_cases hab : sa = sb
      · rw [if_pos hab]
        subst hab
        have hx : (sa.toList != sa.toList) = false := by simp
        go_enter Tryz.func30, Tryz.ntmps30
        go_wp2_with fail
        refine (KP.out _ hal).mono ?_
        rintro e w1 ⟨u, rfl, hu, hg1⟩
        have HU := Lib.hid hu
        obtain ⟨U, e1, rfl⟩ := tms_slice hu
        clear hu
        have g1 := hal.trans hg1
        have f0 : ∀ W, Grew w1 W → W.cell? ⟨w.heap.size, 0, none⟩ = some (.int .i64 8) := fun W hW => ((hg1.trans hW).cell (p := ⟨w.heap.size, 0, none⟩) (by simp)).trans (by simp)
        go_wp2_with fail
        refine (KI.out _ _ g1 HU.out).mono ?_
        rintro e w2 ⟨rfl, hg2⟩
        have g2 := g1.trans hg2
        have f1 := f0 _ hg2
        go_wp2_with fail
        refine (KL.out _).mono ?_
        rintro e w3 ⟨rfl, hg3⟩
        have g3 := g2.trans hg3
        go_wp2_with fail
        refine (KQ.out _ g3).mono ?_
        rintro e w4 ⟨u4, rfl, hu4, hg4⟩
        have H4 := Lib.hid hu4
        obtain ⟨U4, e4, rfl⟩ := tms_slice hu4
        clear hu4
        have g4 := g3.trans hg4
        go_wp2_with fail
        refine (KA.out _ _ g4 H4.out).mono ?_
        rintro e w5 ⟨rfl, hg5⟩
        have g5 := g4.trans hg5
        go_wp2_with fail
        refine (KR.out _ g5).mono ?_
        rintro e w6 ⟨u6, rfl, hu6, hg6⟩
        have H6 := Lib.hid hu6
        obtain ⟨U6, e6, rfl⟩ := tms_slice hu6
        clear hu6
        have g6 := g5.trans hg6
        go_wp2_with fail
        refine (KB.out _ _ g6 H6.out).mono ?_
        rintro e w7 ⟨rfl, hg7⟩
        have g7 := g6.trans hg7
        go_wp2_with fail
        go_ret
        exact ⟨rfl, g7⟩
      · rw [if_neg hab]
        have hb1 : (sa.toList == sb.toList) = false := by
          cases hq : (sa.toList == sb.toList) with
          | false => rfl
          | true => exact absurd ((Lib.bytes_beq_iff _ _).1 hq) hab
        have hb2 : (sa.toList != sb.toList) = true := by rw [bne, hb1]; rfl
        clear hab
        go_enter Tryz.func30, Tryz.ntmps30
        go_wp2_with fail
        refine (KP.out _ hal).mono ?_
        rintro e w1 ⟨u, rfl, hu, hg1⟩
        have HU := Lib.hid hu
        obtain ⟨U, e1, rfl⟩ := tms_slice hu
        clear hu
        have g1 := hal.trans hg1
        have f0 : ∀ W, Grew w1 W → W.cell? ⟨w.heap.size, 0, none⟩ = some (.int .i64 8) := fun W hW => ((hg1.trans hW).cell (p := ⟨w.heap.size, 0, none⟩) (by simp)).trans (by simp)
        go_wp2_with fail
        refine (KI.out _ _ g1 HU.out).mono ?_
        rintro e w2 ⟨rfl, hg2⟩
        have g2 := g1.trans hg2
        have f1 := f0 _ hg2
        go_wp2_with fail
        refine (KL.out _).mono ?_
        rintro e w3 ⟨rfl, hg3⟩
        have g3 := g2.trans hg3
        go_wp2_with fail
        refine (KQ.out _ g3).mono ?_
        rintro e w4 ⟨u4, rfl, hu4, hg4⟩
        have H4 := Lib.hid hu4
        obtain ⟨U4, e4, rfl⟩ := tms_slice hu4
        clear hu4
        have g4 := g3.trans hg4
        go_wp2_with fail
        refine (KA.out _ _ g4 H4.out).mono ?_
        rintro e w5 ⟨rfl, hg5⟩
        have g5 := g4.trans hg5
        go_wp2_with fail
        refine (KR.out _ g5).mono ?_
        rintro e w6 ⟨u6, rfl, hu6, hg6⟩
        have H6 := Lib.hid hu6
        obtain ⟨U6, e6, rfl⟩ := tms_slice hu6
        clear hu6
        have g6 := g5.trans hg6
        go_wp2_with fail
        refine (KB.out _ _ g6 H6.out).mono ?_
        rintro e w7 ⟨rfl, hg7⟩
        have g7 := g6.trans hg7
        go_wp2_with fail
        go_ret
        exact ⟨rfl, g7⟩
    · have KL := Lib.hid (fun w => l25Parts_no 3 C w hokC hk3)
      rw [hno]
      change Calls _ _ _ _ (fun e w' => e = .returned (.string ByteArray.empty) ∧ Grew w w')
      clear HOC HOA HOB KA KB KQ KR hokC hk3 hno hl
      generalize tx C = tc at *
      generalize G.length = gl at *
      replace KI := Lib.hid KI
      go_enter Tryz.func30, Tryz.ntmps30
      go_wp2_with fail
      refine (KP.out _ hal).mono ?_
      rintro e w1 ⟨u, rfl, hu, hg1⟩
      have HU := Lib.hid hu
      obtain ⟨U, e1, rfl⟩ := tms_slice hu
      clear hu
      have g1 := hal.trans hg1
      have f0 : ∀ W, Grew w1 W → W.cell? ⟨w.heap.size, 0, none⟩ = some (.int .i64 8) := fun W hW => ((hg1.trans hW).cell (p := ⟨w.heap.size, 0, none⟩) (by simp)).trans (by simp)
      go_wp2_with fail
      refine (KI.out _ _ g1 HU.out).mono ?_
      rintro e w2 ⟨rfl, hg2⟩
      have g2 := g1.trans hg2
      have f1 := f0 _ hg2
      go_wp2_with fail
      refine (KL.out _).mono ?_
      rintro e w5 ⟨rfl, hg5⟩
      go_wp2_with fail
      go_ret
      exact ⟨rfl, g2.trans hg5⟩
end Go.Proofs.YtdndclfjeajhiaaGreat

/- l26Type of every term. -/
namespace Go.Proofs.YtdndclfjeajhiaaGreat
open Go.RowKit
open Tr (Tm)

theorem l26Type_c : ∀ t : Tm, Good t → (Tr.enc t).length ≤ 60 → ∀ G : List Fm.Tree, (∀ A ∈ G, FmOk A) → G.length ≤ 12 → TypS t G := by
  intro t
  have hmore : ∀ (G : List Fm.Tree) (A : Fm.Tree), (∀ B ∈ G, FmOk B) → FmOk A → ∀ B ∈ G ++ [A], FmOk B := fun G A hG hA B hB => by
    rw [List.mem_append] at hB
    rcases hB with hB | hB
    · exact hG B hB
    · simp at hB; subst hB; exact hA
  have hlen1 : ∀ (G : List Fm.Tree) (A : Fm.Tree), G.length < 12 → (G ++ [A]).length ≤ 12 := fun G A h => by simp; omega
  induction t with
  | t0 x => exact fun hg hn G hG hl va v w hs h => l26Type_var x hg G va v w hl hs h
  | t1 x a iha =>
    intro hg hn G hG hl va v w hs h
    have hk := ar_one (show Tr.ar x.1 = 1 from hg.1.1)
    have ha : (Tr.enc a).length ≤ 60 := by simp [Tr.enc] at hn; omega
    have IH := iha hg.2 ha
    rcases hk with hk | hk | hk | hk | hk | hk
    · have hA := (fo_ok (goodN_text hg.1.2 (by rw [hk]; rfl) (by rw [hk]; decide))).1
      exact l26Type_lam x a hg hk G hG hl (fun h12 => IH _ (hmore G _ hG hA) (hlen1 G _ h12)) va v w hs h
    · exact l26Type_fst x a hg hk G hG hl (IH G hG hl) va v w hs h hn
    · exact l26Type_snd x a hg hk G hG hl (IH G hG hl) va v w hs h hn
    · exact l26Type_inl x a hg hk G hG hl (IH G hG hl) va v w hs h hn
    · exact l26Type_inr x a hg hk G hG hl (IH G hG hl) va v w hs h hn
    · exact l26Type_abort x a hg hk G hG hl (IH G hG hl) va v w hs h hn
  | t2 x a b iha ihb =>
    intro hg hn G hG hl va v w hs h
    have hk := ar_two (show Tr.ar x.1 = 2 from hg.1.1)
    have ha : (Tr.enc a).length ≤ 60 := by simp [Tr.enc] at hn; omega
    have hb : (Tr.enc b).length ≤ 60 := by simp [Tr.enc] at hn; omega
    rcases hk with hk | hk
    · exact l26Type_app x a b hg hk G hG hl (iha hg.2.1 ha G hG hl) (ihb hg.2.2 hb G hG hl) va v w hs h hn
    · exact l26Type_pair x a b hg hk G hG hl (iha hg.2.1 ha G hG hl) (ihb hg.2.2 hb G hG hl) va v w hs h hn
  | t3 x c a b ihc iha ihb =>
    intro hg hn G hG hl va v w hs h
    have hk := ar_three (show Tr.ar x.1 = 3 from hg.1.1)
    have hc : (Tr.enc c).length ≤ 60 := by simp [Tr.enc] at hn; omega
    have ha : (Tr.enc a).length ≤ 60 := by simp [Tr.enc] at hn; omega
    have hb : (Tr.enc b).length ≤ 60 := by simp [Tr.enc] at hn; omega
    exact l26Type_case x c a b hg hk G hG hl (ihc hg.2.1 hc G hG hl) (fun A hA h12 => iha hg.2.2.1 ha _ (hmore G A hG hA) (hlen1 G A h12)) (fun A hA h12 => ihb hg.2.2.2 hb _ (hmore G A hG hA) (hlen1 G A h12)) va v w hs h hn
end Go.Proofs.YtdndclfjeajhiaaGreat

/- Lists of one and of two strings. -/
namespace Go.Proofs.YtdndclfjeajhiaaGreat
open Go.RowKit

theorem strs_one {w : World} {v : Value} {a : ByteArray} (h : Strs w v [a]) : ∃ b o c, v = .slice (some ⟨b, o, none⟩) 1 c ∧ 1 ≤ c ∧ c ≤ 9223372036854775807 ∧ b < w.heap.size ∧ ∀ W, Grew w W → W.cell? ⟨b, o, none⟩ = some (.string a) := by
  rcases h.open_ with ⟨_, h0⟩ | ⟨b, o, c, rfl, hc, hm, hb, hf⟩
  · cases h0
  · exact ⟨b, o, c, rfl, hc, hm, hb, fun W hW => by simpa [st] using hf 0 (by simp) W hW⟩
theorem strs_two {w : World} {v : Value} {a a2 : ByteArray} (h : Strs w v [a, a2]) : ∃ b o c, v = .slice (some ⟨b, o, none⟩) 2 c ∧ 2 ≤ c ∧ c ≤ 9223372036854775807 ∧ b < w.heap.size ∧ ∀ W, Grew w W → W.cell? ⟨b, o, none⟩ = some (.string a) ∧ W.cell? ⟨b, o + 1, none⟩ = some (.string a2) := by
  rcases h.open_ with ⟨_, h0⟩ | ⟨b, o, c, rfl, hc, hm, hb, hf⟩
  · cases h0
  · exact ⟨b, o, c, rfl, hc, hm, hb, fun W hW => ⟨by simpa [st] using hf 0 (by simp) W hW, by simpa [st] using hf 1 (by simp) W hW⟩⟩

end Go.Proofs.YtdndclfjeajhiaaGreat

/- Lists of one and of two strings; partsWith where the kind is another. -/
namespace Go.Proofs.YtdndclfjeajhiaaGreat
open Go.RowKit

theorem fm_kinds {A : Fm.Tree} (h : FmOk A) : (kindOf A = 0 ∨ kindOf A = 1) ∨ ∃ p q, TwoF A p q ∧ (kindOf A = 2 ∨ kindOf A = 3 ∨ kindOf A = 4) := by
  cases A with
  | var v => exact .inl (.inl rfl)
  | fls => exact .inl (.inr rfl)
  | and p q => exact .inr ⟨p, q, rfl, .inl rfl⟩
  | or p q => exact .inr ⟨p, q, rfl, .inr (.inl rfl)⟩
  | imp p q => exact .inr ⟨p, q, rfl, .inr (.inr rfl)⟩
  | box p =>
    have := anyP_mem.1 h.2 (5, 0) (by simp [Fm.enc])
    exact absurd this (by decide)
  | dia p =>
    have := anyP_mem.1 h.2 (6, 0) (by simp [Fm.enc])
    exact absurd this (by decide)
theorem partsWith_not (k : Int) (A : Fm.Tree) (w : World) (hA : FmOk A) (hk : (kindOf A == k) = false) :
    Calls Tryz.prog 92 #[.string (tx A), .int .i64 k] w fun e w' => ∃ v, e = .returned (.tuple #[v, .bool false]) ∧ (∃ A n c, v = .slice A n c) ∧ Grew w w' := by
  rcases fm_kinds hA with h0 | ⟨p, q, h2, h3⟩
  · refine (partsWith_none k A w hA h0).mono fun e w' h => ?_
    obtain ⟨rfl, hg⟩ := h
    exact ⟨_, by rw [hk], ⟨_, _, _, rfl⟩, hg⟩
  · refine (partsWith_two k A p q w hA h2 h3).mono fun e w' h => ?_
    obtain ⟨v, rfl, ho, hg⟩ := h
    obtain ⟨B, c, rfl⟩ := strs_slice ho.strs
    exact ⟨_, by rw [hk], ⟨_, _, _, rfl⟩, hg⟩

end Go.Proofs.YtdndclfjeajhiaaGreat

/- nodeType of the program. -/
namespace Go.Proofs.YtdndclfjeajhiaaGreat
open Go.RowKit

/-- The call gives a type, or none. -/
def GivesTy (w : World) (r : Option Fm.Tree) (e : Ending) (w' : World) : Prop := ∃ s, e = .returned (.tuple #[.string s, .bool r.isSome]) ∧ (∀ B, r = some B → s = tx B) ∧ Grew w w'
theorem small_gives {C : Fm.Tree} {w w' : World} (h : Grew w w') : GivesTy w (smallF C) (.returned (.tuple #[.string (tx C), .bool (decide ((Fm.enc C).length ≤ 40))])) w' := by
  refine ⟨tx C, ?_, fun B hB => by rw [(smallF_ok hB).1], h⟩
  unfold smallF
  split
  · rename_i h1; rw [decide_eq_true h1]; rfl
  · rename_i h1; rw [decide_eq_false h1]; rfl
theorem none_gives {s : ByteArray} {w w' : World} (h : Grew w w') : GivesTy w none (.returned (.tuple #[.string s, .bool false])) w' := ⟨s, rfl, fun B hB => (by cases hB), h⟩
theorem some_gives {A : Fm.Tree} {w w' : World} (h : Grew w w') : GivesTy w (some A) (.returned (.tuple #[.string (tx A), .bool true])) w' := ⟨tx A, rfl, fun B hB => (by injection hB with hB; rw [hB]), h⟩

theorem nodeType_lam (m : Int) (A B : Fm.Tree) (vt : Value) (w : World) (hA : FmOk A) (hB : FmOk B) (hs : Strs w vt [tx B]) :
    Calls Tryz.prog 62 #[.agg #[.int .i64 1, .int .i64 m, .string (tx A)], vt] w (GivesTy w (smallF (.imp A B))) := by
  obtain ⟨b, o, c, rfl, hc, hm, hb, hf⟩ := strs_one hs
  have KJ := Lib.hid (fun w => joinTexts_c 4 A B (.imp A B) w hA.1 hB.1 rfl)
  have HE := Lib.hid (fun w' (h : Grew w w') => small_gives (C := .imp A B) h)
  clear hs hA hB
  generalize decide ((Fm.enc (.imp A B)).length ≤ 40) = dd at *
  generalize tx (.imp A B) = tc at *
  generalize tx A = ta at *
  generalize tx B = tb at *
  have hal := (Grew.refl w).alloc (.cells #[.int .i64 1, .int .i64 m, .string ta] 50)
  have r0 := Grew.refl (w.alloc (.cells #[.int .i64 1, .int .i64 m, .string ta] 50))
  have d0 := r0.drew
  have f2 : ∀ W, Grew (w.alloc (.cells #[.int .i64 1, .int .i64 m, .string ta] 50)) W → W.cell? ⟨w.heap.size, 2, none⟩ = some (.string ta) := fun W hW => (hW.cell (p := ⟨w.heap.size, 2, none⟩) (by simp)).trans (by simp)
  have f3 : ∀ W, Grew (w.alloc (.cells #[.int .i64 1, .int .i64 m, .string ta] 50)) W → W.cell? ⟨b, o, none⟩ = some (.string tb) := fun W hW => hf W (hal.trans hW)
  clear hf
  go_enter Tryz.func62, Tryz.ntmps62
  go_wp2_with fail
  go_region_held3 (fun w' => Grew (w.alloc (.cells #[.int .i64 1, .int .i64 m, .string ta] 50)) w') (with_reducible assumption)
    (first | (go_at_call 94; refine (KJ.out _).mono ?_; rintro e w1 ⟨rfl, hg1⟩; have hk1 := d0.trans hg1))
  go_wp2_with fail
  go_ret2
  exact HE.out _ (hal.trans hk1)
theorem nodeType_inl (m : Int) (A B : Fm.Tree) (vt : Value) (w : World) (hA : FmOk A) (hB : FmOk B) (hs : Strs w vt [tx B]) :
    Calls Tryz.prog 62 #[.agg #[.int .i64 6, .int .i64 m, .string (tx A)], vt] w (GivesTy w (smallF (.or B A))) := by
  obtain ⟨b, o, c, rfl, hc, hm, hb, hf⟩ := strs_one hs
  have KJ := Lib.hid (fun w => joinTexts_c 3 B A (.or B A) w hB.1 hA.1 rfl)
  have HE := Lib.hid (fun w' (h : Grew w w') => small_gives (C := .or B A) h)
  clear hs hA hB
  generalize decide ((Fm.enc (.or B A)).length ≤ 40) = dd at *
  generalize tx (.or B A) = tc at *
  generalize tx A = ta at *
  generalize tx B = tb at *
  have hal := (Grew.refl w).alloc (.cells #[.int .i64 6, .int .i64 m, .string ta] 50)
  have r0 := Grew.refl (w.alloc (.cells #[.int .i64 6, .int .i64 m, .string ta] 50))
  have d0 := r0.drew
  have f2 : ∀ W, Grew (w.alloc (.cells #[.int .i64 6, .int .i64 m, .string ta] 50)) W → W.cell? ⟨w.heap.size, 2, none⟩ = some (.string ta) := fun W hW => (hW.cell (p := ⟨w.heap.size, 2, none⟩) (by simp)).trans (by simp)
  have f3 : ∀ W, Grew (w.alloc (.cells #[.int .i64 6, .int .i64 m, .string ta] 50)) W → W.cell? ⟨b, o, none⟩ = some (.string tb) := fun W hW => hf W (hal.trans hW)
  clear hf
  go_enter Tryz.func62, Tryz.ntmps62
  go_wp2_with fail
  go_region_held3 (fun w' => Grew (w.alloc (.cells #[.int .i64 6, .int .i64 m, .string ta] 50)) w') (with_reducible assumption)
    (first | (go_at_call 94; refine (KJ.out _).mono ?_; rintro e w1 ⟨rfl, hg1⟩; have hk1 := d0.trans hg1))
  go_wp2_with fail
  go_ret2
  exact HE.out _ (hal.trans hk1)
theorem nodeType_inr (m : Int) (A B : Fm.Tree) (vt : Value) (w : World) (hA : FmOk A) (hB : FmOk B) (hs : Strs w vt [tx B]) :
    Calls Tryz.prog 62 #[.agg #[.int .i64 7, .int .i64 m, .string (tx A)], vt] w (GivesTy w (smallF (.or A B))) := by
  obtain ⟨b, o, c, rfl, hc, hm, hb, hf⟩ := strs_one hs
  have KJ := Lib.hid (fun w => joinTexts_c 3 A B (.or A B) w hA.1 hB.1 rfl)
  have HE := Lib.hid (fun w' (h : Grew w w') => small_gives (C := .or A B) h)
  clear hs hA hB
  generalize decide ((Fm.enc (.or A B)).length ≤ 40) = dd at *
  generalize tx (.or A B) = tc at *
  generalize tx A = ta at *
  generalize tx B = tb at *
  have hal := (Grew.refl w).alloc (.cells #[.int .i64 7, .int .i64 m, .string ta] 50)
  have r0 := Grew.refl (w.alloc (.cells #[.int .i64 7, .int .i64 m, .string ta] 50))
  have d0 := r0.drew
  have f2 : ∀ W, Grew (w.alloc (.cells #[.int .i64 7, .int .i64 m, .string ta] 50)) W → W.cell? ⟨w.heap.size, 2, none⟩ = some (.string ta) := fun W hW => (hW.cell (p := ⟨w.heap.size, 2, none⟩) (by simp)).trans (by simp)
  have f3 : ∀ W, Grew (w.alloc (.cells #[.int .i64 7, .int .i64 m, .string ta] 50)) W → W.cell? ⟨b, o, none⟩ = some (.string tb) := fun W hW => hf W (hal.trans hW)
  clear hf
  go_enter Tryz.func62, Tryz.ntmps62
  go_wp2_with fail
  go_region_held3 (fun w' => Grew (w.alloc (.cells #[.int .i64 7, .int .i64 m, .string ta] 50)) w') (with_reducible assumption)
    (first | (go_at_call 94; refine (KJ.out _).mono ?_; rintro e w1 ⟨rfl, hg1⟩; have hk1 := d0.trans hg1))
  go_wp2_with fail
  go_ret2
  exact HE.out _ (hal.trans hk1)
theorem nodeType_pair (m : Int) (ts : ByteArray) (A B : Fm.Tree) (vt : Value) (w : World) (hA : FmOk A) (hB : FmOk B) (hs : Strs w vt [tx A, tx B]) :
    Calls Tryz.prog 62 #[.agg #[.int .i64 3, .int .i64 m, .string ts], vt] w (GivesTy w (smallF (.and A B))) := by
  obtain ⟨b, o, c, rfl, hc, hm, hb, hf⟩ := strs_two hs
  have KJ := Lib.hid (fun w => joinTexts_c 2 A B (.and A B) w hA.1 hB.1 rfl)
  have HE := Lib.hid (fun w' (h : Grew w w') => small_gives (C := .and A B) h)
  clear hs hA hB
  generalize decide ((Fm.enc (.and A B)).length ≤ 40) = dd at *
  generalize tx (.and A B) = tc at *
  generalize tx A = ta at *
  generalize tx B = tb at *
  have hal := (Grew.refl w).alloc (.cells #[.int .i64 3, .int .i64 m, .string ts] 50)
  have r0 := Grew.refl (w.alloc (.cells #[.int .i64 3, .int .i64 m, .string ts] 50))
  have d0 := r0.drew
  have f2 : ∀ W, Grew (w.alloc (.cells #[.int .i64 3, .int .i64 m, .string ts] 50)) W → W.cell? ⟨b, o, none⟩ = some (.string ta) := fun W hW => (hf W (hal.trans hW)).1
  have f3 : ∀ W, Grew (w.alloc (.cells #[.int .i64 3, .int .i64 m, .string ts] 50)) W → W.cell? ⟨b, o + 1, none⟩ = some (.string tb) := fun W hW => (hf W (hal.trans hW)).2
  clear hf
  go_enter Tryz.func62, Tryz.ntmps62
  go_wp2_with fail
  go_region_held3 (fun w' => Grew (w.alloc (.cells #[.int .i64 3, .int .i64 m, .string ts] 50)) w') (with_reducible assumption)
    (first | (go_at_call 94; refine (KJ.out _).mono ?_; rintro e w1 ⟨rfl, hg1⟩; have hk1 := d0.trans hg1))
  go_wp2_with fail
  go_ret2
  exact HE.out _ (hal.trans hk1)
theorem nodeType_abort (m : Int) (A B : Fm.Tree) (vt : Value) (w : World) (hA : FmOk A) (hB : FmOk B) (hs : Strs w vt [tx B]) :
    Calls Tryz.prog 62 #[.agg #[.int .i64 9, .int .i64 m, .string (tx A)], vt] w (GivesTy w (ty1 9 A B)) := by
  obtain ⟨b, o, c, rfl, hc, hm, hb, hf⟩ := strs_one hs
  have hq : ((tx B).toList == [70]) = (ty1 9 A B).isSome := by
    have h70 : (⟨#[70]⟩ : ByteArray).toList = [70] := by first | rfl | decide | (simp; done) | (unfold ByteArray.toList ByteArray.toList.loop; simp [ByteArray.size]; unfold ByteArray.toList.loop; simp [ByteArray.size]; done)
    have hF : tx .fls = ⟨#[70]⟩ := rfl
    rw [← h70, ← hF]
    by_cases hh : B = .fls
    · subst hh; simp [ty1]
    · have hneq : tx B ≠ tx .fls := fun h => hh (tx_inj hB.1 (by decide) h)
      have hb1 : ((tx B).toList == (tx .fls).toList) = false := by
        cases hq : ((tx B).toList == (tx .fls).toList) with
        | false => rfl
        | true => exact absurd ((Lib.bytes_beq_iff _ _).1 hq) hneq
      rw [hb1]
      cases B with
      | fls => exact absurd rfl hh
      | _ => simp [ty1]
  have hs2 : ∀ C, ty1 9 A B = some C → tx A = tx C := by
    intro C hC
    cases B with
    | fls => simp [ty1] at hC; rw [hC]
    | _ => simp [ty1] at hC
  have HE := Lib.hid (fun w' (h : Grew w w') => (⟨tx A, by rw [hq], hs2, h⟩ : GivesTy w (ty1 9 A B) (.returned (.tuple #[.string (tx A), .bool ((tx B).toList == [70])])) w'))
  clear hs hA hB hq hs2
  generalize tx A = ta at *
  generalize tx B = tb at *
  have hal := (Grew.refl w).alloc (.cells #[.int .i64 9, .int .i64 m, .string ta] 50)
  have r0 := Grew.refl (w.alloc (.cells #[.int .i64 9, .int .i64 m, .string ta] 50))
  have d0 := r0.drew
  have f2 : ∀ W, Grew (w.alloc (.cells #[.int .i64 9, .int .i64 m, .string ta] 50)) W → W.cell? ⟨w.heap.size, 2, none⟩ = some (.string ta) := fun W hW => (hW.cell (p := ⟨w.heap.size, 2, none⟩) (by simp)).trans (by simp)
  have f3 : ∀ W, Grew (w.alloc (.cells #[.int .i64 9, .int .i64 m, .string ta] 50)) W → W.cell? ⟨b, o, none⟩ = some (.string tb) := fun W hW => hf W (hal.trans hW)
  clear hf
  go_enter Tryz.func62, Tryz.ntmps62
  go_wp2_with fail
  go_quiet (fail)
  go_wp2_with fail
  go_ret2
  exact HE.out _ (hal.drewN _)
theorem nodeType_fst (m : Int) (ts : ByteArray) (T B : Fm.Tree) (vt : Value) (w : World) (hB : FmOk B) (hs : Strs w vt [tx B]) :
    Calls Tryz.prog 62 #[.agg #[.int .i64 4, .int .i64 m, .string ts], vt] w (GivesTy w (ty1 4 T B)) := by
  obtain ⟨b, o, c, rfl, hc, hm, hb, hf⟩ := strs_one hs
  have hBB : (∃ p q, B = .and p q) ∨ ((kindOf B == 2) = false ∧ ty1 4 T B = none) := by
    cases B with
    | and p q => exact .inl ⟨p, q, rfl⟩
    | _ => exact .inr ⟨by simp [kindOf], by simp [ty1]⟩
  rcases hBB with ⟨p, q, rfl⟩ | ⟨hk2, hno⟩
  · have KP := Lib.hid (fun w => partsWith_two 2 (.and p q) p q w hB rfl (.inl rfl))
    rw [show ty1 4 T (.and p q) = some p from rfl]
    have HE := Lib.hid (fun w' (h : Grew w w') => some_gives (A := p) h)
    clear hs hB
    have hk2 : (kindOf (.and p q) == 2) = true := rfl
    rw [hk2] at KP
    generalize tx (.and p q) = tb at *
    generalize tx p = tp at *
    generalize tx q = tq at *
    have hal := (Grew.refl w).alloc (.cells #[.int .i64 4, .int .i64 m, .string ts] 50)
    have r0 := Grew.refl (w.alloc (.cells #[.int .i64 4, .int .i64 m, .string ts] 50))
    have d0 := r0.drew
    have f3 : ∀ W, Grew (w.alloc (.cells #[.int .i64 4, .int .i64 m, .string ts] 50)) W → W.cell? ⟨b, o, none⟩ = some (.string tb) := fun W hW => hf W (hal.trans hW)
    clear hf
    go_enter Tryz.func62, Tryz.ntmps62
    go_wp2_with fail
    refine (KP.out _).mono ?_
    rintro e w1 ⟨v1, rfl, ho1, hg1⟩
    obtain ⟨b1, o1, c1, rfl, hc1, hm1, hb1, hf1⟩ := strs_two ho1.strs
    clear ho1
    have k1 := fun W (hW : Grew w1 W) => (hf1 W hW).1
    have k2 := fun W (hW : Grew w1 W) => (hf1 W hW).2
    clear hf1
    have r1 := Grew.refl w1
    have f0 : ∀ W, Grew w1 W → W.cell? ⟨w.heap.size, 0, none⟩ = some (.int .i64 4) := fun W hW => ((hg1.trans hW).cell (p := ⟨w.heap.size, 0, none⟩) (by simp)).trans (by simp)
    go_wp2_with fail
    go_ret2
    exact HE.out _ (hal.trans hg1)
  · have HE := Lib.hid (fun w' (h : Grew w w') => (by rw [hno]; exact none_gives (s := ByteArray.empty) h : GivesTy w (ty1 4 T B) (.returned (.tuple #[.string ByteArray.empty, .bool false])) w'))
    have KP : ∀ w, Calls Tryz.prog 92 #[.string (tx B), .int .i64 2] w fun e w' => ∃ v, e = .returned (.tuple #[v, .bool false]) ∧ (∃ A n c, v = .slice A n c) ∧ Grew w w' := fun w => partsWith_not 2 B w hB hk2
    replace KP := Lib.hid KP
    clear hs hB hk2 hno
    generalize tx B = tb at *
    have hal := (Grew.refl w).alloc (.cells #[.int .i64 4, .int .i64 m, .string ts] 50)
    have r0 := Grew.refl (w.alloc (.cells #[.int .i64 4, .int .i64 m, .string ts] 50))
    have d0 := r0.drew
    have f3 : ∀ W, Grew (w.alloc (.cells #[.int .i64 4, .int .i64 m, .string ts] 50)) W → W.cell? ⟨b, o, none⟩ = some (.string tb) := fun W hW => hf W (hal.trans hW)
    clear hf
    go_enter Tryz.func62, Tryz.ntmps62
    go_wp2_with fail
    refine (KP.out _).mono ?_
    rintro e w1 ⟨v1, rfl, ⟨A1, n1, c1, rfl⟩, hg1⟩
    go_wp2_with fail
    go_ret2
    exact HE.out _ (hal.trans hg1)
theorem nodeType_snd (m : Int) (ts : ByteArray) (T B : Fm.Tree) (vt : Value) (w : World) (hB : FmOk B) (hs : Strs w vt [tx B]) :
    Calls Tryz.prog 62 #[.agg #[.int .i64 5, .int .i64 m, .string ts], vt] w (GivesTy w (ty1 5 T B)) := by
  obtain ⟨b, o, c, rfl, hc, hm, hb, hf⟩ := strs_one hs
  have hBB : (∃ p q, B = .and p q) ∨ ((kindOf B == 2) = false ∧ ty1 5 T B = none) := by
    cases B with
    | and p q => exact .inl ⟨p, q, rfl⟩
    | _ => exact .inr ⟨by simp [kindOf], by simp [ty1]⟩
  rcases hBB with ⟨p, q, rfl⟩ | ⟨hk2, hno⟩
  · have KP := Lib.hid (fun w => partsWith_two 2 (.and p q) p q w hB rfl (.inl rfl))
    rw [show ty1 5 T (.and p q) = some q from rfl]
    have HE := Lib.hid (fun w' (h : Grew w w') => some_gives (A := q) h)
    clear hs hB
    have hk2 : (kindOf (.and p q) == 2) = true := rfl
    rw [hk2] at KP
    generalize tx (.and p q) = tb at *
    generalize tx p = tp at *
    generalize tx q = tq at *
    have hal := (Grew.refl w).alloc (.cells #[.int .i64 5, .int .i64 m, .string ts] 50)
    have r0 := Grew.refl (w.alloc (.cells #[.int .i64 5, .int .i64 m, .string ts] 50))
    have d0 := r0.drew
    have f3 : ∀ W, Grew (w.alloc (.cells #[.int .i64 5, .int .i64 m, .string ts] 50)) W → W.cell? ⟨b, o, none⟩ = some (.string tb) := fun W hW => hf W (hal.trans hW)
    clear hf
    go_enter Tryz.func62, Tryz.ntmps62
    go_wp2_with fail
    refine (KP.out _).mono ?_
    rintro e w1 ⟨v1, rfl, ho1, hg1⟩
    obtain ⟨b1, o1, c1, rfl, hc1, hm1, hb1, hf1⟩ := strs_two ho1.strs
    clear ho1
    have k1 := fun W (hW : Grew w1 W) => (hf1 W hW).1
    have k2 := fun W (hW : Grew w1 W) => (hf1 W hW).2
    clear hf1
    have r1 := Grew.refl w1
    have f0 : ∀ W, Grew w1 W → W.cell? ⟨w.heap.size, 0, none⟩ = some (.int .i64 5) := fun W hW => ((hg1.trans hW).cell (p := ⟨w.heap.size, 0, none⟩) (by simp)).trans (by simp)
    go_wp2_with fail
    go_ret2
    exact HE.out _ (hal.trans hg1)
  · have HE := Lib.hid (fun w' (h : Grew w w') => (by rw [hno]; exact none_gives (s := ByteArray.empty) h : GivesTy w (ty1 5 T B) (.returned (.tuple #[.string ByteArray.empty, .bool false])) w'))
    have KP : ∀ w, Calls Tryz.prog 92 #[.string (tx B), .int .i64 2] w fun e w' => ∃ v, e = .returned (.tuple #[v, .bool false]) ∧ (∃ A n c, v = .slice A n c) ∧ Grew w w' := fun w => partsWith_not 2 B w hB hk2
    replace KP := Lib.hid KP
    clear hs hB hk2 hno
    generalize tx B = tb at *
    have hal := (Grew.refl w).alloc (.cells #[.int .i64 5, .int .i64 m, .string ts] 50)
    have r0 := Grew.refl (w.alloc (.cells #[.int .i64 5, .int .i64 m, .string ts] 50))
    have d0 := r0.drew
    have f3 : ∀ W, Grew (w.alloc (.cells #[.int .i64 5, .int .i64 m, .string ts] 50)) W → W.cell? ⟨b, o, none⟩ = some (.string tb) := fun W hW => hf W (hal.trans hW)
    clear hf
    go_enter Tryz.func62, Tryz.ntmps62
    go_wp2_with fail
    refine (KP.out _).mono ?_
    rintro e w1 ⟨v1, rfl, ⟨A1, n1, c1, rfl⟩, hg1⟩
    go_wp2_with fail
    go_ret2
    exact HE.out _ (hal.trans hg1)
theorem nodeType_app (m : Int) (ts : ByteArray) (B D : Fm.Tree) (vt : Value) (w : World) (hB : FmOk B) (hD : FmOk D) (hs : Strs w vt [tx B, tx D]) :
    Calls Tryz.prog 62 #[.agg #[.int .i64 2, .int .i64 m, .string ts], vt] w (GivesTy w (ty2 2 B D)) := by
  obtain ⟨b, o, c, rfl, hc, hm, hb, hf⟩ := strs_two hs
  have hBB : (∃ p q, B = .imp p q) ∨ ((kindOf B == 4) = false ∧ ty2 2 B D = none) := by
    cases B with
    | imp p q => exact .inl ⟨p, q, rfl⟩
    | _ => exact .inr ⟨by simp [kindOf], by simp [ty2]⟩
  rcases hBB with ⟨p, q, rfl⟩ | ⟨hk2, hno⟩
  · have KP := Lib.hid (fun w => partsWith_two 4 (.imp p q) p q w hB rfl (.inr (.inr rfl)))
    have hk2 : (kindOf (.imp p q) == 4) = true := rfl
    rw [hk2] at KP
    have hp := (fmOk_imp hB).1.1
    by_cases hpd : p = D
    · subst hpd
      rw [show ty2 2 (.imp p q) p = some q by simp [ty2]]
      have HE := Lib.hid (fun w' (h : Grew w w') => some_gives (A := q) h)
      clear hs hB hD hp
      generalize tx (.imp p q) = tb at *
      generalize tx p = td at *
      generalize tx q = tq at *
      have hal := (Grew.refl w).alloc (.cells #[.int .i64 2, .int .i64 m, .string ts] 50)
      have r0 := Grew.refl (w.alloc (.cells #[.int .i64 2, .int .i64 m, .string ts] 50))
      have d0 := r0.drew
      have f3 : ∀ W, Grew (w.alloc (.cells #[.int .i64 2, .int .i64 m, .string ts] 50)) W → W.cell? ⟨b, o, none⟩ = some (.string tb) := fun W hW => (hf W (hal.trans hW)).1
      have f4 : ∀ W, Grew (w.alloc (.cells #[.int .i64 2, .int .i64 m, .string ts] 50)) W → W.cell? ⟨b, o + 1, none⟩ = some (.string td) := fun W hW => (hf W (hal.trans hW)).2
      clear hf
      have hx : (td.toList != td.toList) = false := by simp
      go_enter Tryz.func62, Tryz.ntmps62
      go_wp2_with fail
      refine (KP.out _).mono ?_
      rintro e w1 ⟨v1, rfl, ho1, hg1⟩
      obtain ⟨b1, o1, c1, rfl, hc1, hm1, hb1, hf1⟩ := strs_two ho1.strs
      clear ho1
      have k1 := fun W (hW : Grew w1 W) => (hf1 W hW).1
      have k2 := fun W (hW : Grew w1 W) => (hf1 W hW).2
      clear hf1
      have r1 := Grew.refl w1
      have d1 := r1.drew
      have f5 := fun W (hW : Grew w1 W) => f4 W (hg1.trans hW)
      go_wp2_with fail
      go_quiet (fail)
      go_wp2_with fail
      go_ret2
      exact HE.out _ ((hal.trans hg1).drewN _)
    · rw [show ty2 2 (.imp p q) D = none by simp [ty2, hpd]]
      have HE := Lib.hid (fun w' (h : Grew w w') => none_gives (s := ByteArray.empty) h)
      have hneq : tx p ≠ tx D := fun hh => hpd (tx_inj hp hD.1 hh)
      have hb1 : ((tx p).toList == (tx D).toList) = false := by
        cases hq : ((tx p).toList == (tx D).toList) with
        | false => rfl
        | true => exact absurd ((Lib.bytes_beq_iff _ _).1 hq) hneq
      have hb2 : ((tx p).toList != (tx D).toList) = true := by rw [bne, hb1]; rfl
      have hb3 : (!(tx p).toList == (tx D).toList) = true := by rw [hb1]; rfl
      clear hs hB hD hp hneq hpd
      generalize tx (.imp p q) = tb at *
      generalize tx p = tp at *
      generalize tx D = td at *
      generalize tx q = tq at *
      have hal := (Grew.refl w).alloc (.cells #[.int .i64 2, .int .i64 m, .string ts] 50)
      have r0 := Grew.refl (w.alloc (.cells #[.int .i64 2, .int .i64 m, .string ts] 50))
      have d0 := r0.drew
      have f3 : ∀ W, Grew (w.alloc (.cells #[.int .i64 2, .int .i64 m, .string ts] 50)) W → W.cell? ⟨b, o, none⟩ = some (.string tb) := fun W hW => (hf W (hal.trans hW)).1
      have f4 : ∀ W, Grew (w.alloc (.cells #[.int .i64 2, .int .i64 m, .string ts] 50)) W → W.cell? ⟨b, o + 1, none⟩ = some (.string td) := fun W hW => (hf W (hal.trans hW)).2
      clear hf
      go_enter Tryz.func62, Tryz.ntmps62
      go_wp2_with fail
      refine (KP.out _).mono ?_
      rintro e w1 ⟨v1, rfl, ho1, hg1⟩
      obtain ⟨b1, o1, c1, rfl, hc1, hm1, hb1, hf1⟩ := strs_two ho1.strs
      clear ho1
      have k1 := fun W (hW : Grew w1 W) => (hf1 W hW).1
      have k2 := fun W (hW : Grew w1 W) => (hf1 W hW).2
      clear hf1
      have r1 := Grew.refl w1
      have d1 := r1.drew
      have f5 := fun W (hW : Grew w1 W) => f4 W (hg1.trans hW)
      go_wp2_with fail
      go_quiet (fail)
      go_wp2_with fail
      go_ret2
      exact HE.out _ ((hal.trans hg1).drewN _)
  · have HE := Lib.hid (fun w' (h : Grew w w') => (by rw [hno]; exact none_gives (s := ByteArray.empty) h : GivesTy w (ty2 2 B D) (.returned (.tuple #[.string ByteArray.empty, .bool false])) w'))
    have KP : ∀ w, Calls Tryz.prog 92 #[.string (tx B), .int .i64 4] w fun e w' => ∃ v, e = .returned (.tuple #[v, .bool false]) ∧ (∃ A n c, v = .slice A n c) ∧ Grew w w' := fun w => partsWith_not 4 B w hB hk2
    replace KP := Lib.hid KP
    clear hs hB hk2 hno
    generalize tx B = tb at *
    generalize tx D = td at *
    have hal := (Grew.refl w).alloc (.cells #[.int .i64 2, .int .i64 m, .string ts] 50)
    have r0 := Grew.refl (w.alloc (.cells #[.int .i64 2, .int .i64 m, .string ts] 50))
    have d0 := r0.drew
    have f3 : ∀ W, Grew (w.alloc (.cells #[.int .i64 2, .int .i64 m, .string ts] 50)) W → W.cell? ⟨b, o, none⟩ = some (.string tb) := fun W hW => (hf W (hal.trans hW)).1
    have f4 : ∀ W, Grew (w.alloc (.cells #[.int .i64 2, .int .i64 m, .string ts] 50)) W → W.cell? ⟨b, o + 1, none⟩ = some (.string td) := fun W hW => (hf W (hal.trans hW)).2
    clear hf
    go_enter Tryz.func62, Tryz.ntmps62
    go_wp2_with fail
    refine (KP.out _).mono ?_
    rintro e w1 ⟨v1, rfl, ⟨A1, n1, c1, rfl⟩, hg1⟩
    go_wp2_with fail
    go_quiet (fail)
    go_wp2_with fail
    go_ret2
    exact HE.out _ ((hal.trans hg1).drewN _)
end Go.Proofs.YtdndclfjeajhiaaGreat

/- typeOf of the program: variables, nodes with one part, nodes with two parts. -/
namespace Go.Proofs.YtdndclfjeajhiaaGreat
open Go.RowKit
open Tr (Tm)

/-- What typeOf gives at a term, whatever the values. -/
def TypV (t : Tm) (G : List Fm.Tree) : Prop := ∀ va v w, Strs w va (G.map tx) → Tms w v (Tr.enc t) → Calls Tryz.prog 27 #[va, v] w (GivesTy w (ty G t))

theorem sizeS_c (v : Value) (L : List ByteArray) (w : World) (h : Strs w v L) :
    Calls Tryz.prog 46 #[v] w fun e w' => e = .returned (.int .i64 L.length) ∧ Grew w w' := by
  obtain ⟨A, c, rfl⟩ := strs_slice h
  have hm := h.2.1
  clear h
  generalize L.length = n at *
  go_enter Tryz.func46, Tryz.ntmps46
  go_wp2_with fail
  go_ret
  exact ⟨rfl, Grew.refl _⟩

theorem typeOf_var (x : Tn) (hg : Good (.t0 x)) (G : List Fm.Tree) (va v : Value) (w : World) (hl : G.length ≤ 12) (hs : Strs w va (G.map tx)) (h : Tms w v (Tr.enc (.t0 x))) :
    Calls Tryz.prog 27 #[va, v] w (GivesTy w (ty G (.t0 x))) := by
  have hk : x.1 = 0 := (good_leaf hg).1 rfl
  have hn := tnB_num0 (Tr.hd_wf hg)
  have KS := Lib.hid (fun W (hW : Grew w W) => by
    have h1 := sizeS_c va (G.map tx) W (hs.grew hW)
    rw [List.length_map] at h1
    exact h1)
  obtain ⟨b, o, c, rfl, hc, hm, hb, hcl⟩ := tms_head h
  obtain ⟨⟨A, d, hva⟩, hat⟩ := strs_map hs
  have k0 := fun W (hW : Grew w W) => (hcl W hW).1
  have k1 := fun W (hW : Grew w W) => (hcl W hW).2.1
  change ∀ W, Grew w W → W.cell? ⟨b, o, none⟩ = some (.int .i64 x.1) at k0
  change ∀ W, Grew w W → W.cell? ⟨b, o + 1, none⟩ = some (.int .i64 x.2.1) at k1
  rw [hk] at k0
  have hR : ty G (.t0 x) = G[x.2.1.toNat]? := rfl
  rw [hR]
  have hr := Grew.refl w
  have hd := hr.drew
  have hx2 : (Tr.hd (.t0 x)).2.1 = x.2.1 := rfl
  rw [hx2] at hn
  have hl1 : (Tr.enc (.t0 x)).length = 1 := rfl
  rw [hl1]
  obtain ⟨m, hm2⟩ : ∃ m : Nat, x.2.1 = m := ⟨x.2.1.toNat, by omega⟩
  rw [hm2] at k1 hn ⊢
  rw [Int.toNat_natCast]
  clear hcl h hg hk hR hx2 hl1 hm2
  by_cases hlt : m < G.length
  · obtain ⟨gb, go, gc, hv, e1⟩ := hat m hlt
    subst hv
    have e2 : G[m]? = some G[m] := List.getElem?_eq_getElem hlt
    have HE := Lib.hid (fun w' (h : Grew w w') => (by rw [e2]; exact some_gives h : GivesTy w G[m]? (.returned (.tuple #[.string (otx G[m]?), .bool true])) w'))
    clear e2
    generalize otx G[m]? = R at *
    clear hat hs hva
    have hlt2 : (m : Int) < (G.length : Int) := by omega
    generalize G.length = gl at *
    go_enter Tryz.func27, Tryz.ntmps27
    go_wp2_with fail
    go_region_held3 (fun w' => Grew w w') (with_reducible assumption)
      (first | (go_at_call 46; refine (KS.out _ hd).mono ?_; rintro e w1 ⟨rfl, hg1⟩; have hk1 := hd.trans hg1))
    go_wp2_with fail
    go_ret2
    exact HE.out _ hk1
  · have hnone : G[m]? = none := List.getElem?_eq_none (by omega)
    rw [hnone]
    subst hva
    have HE := Lib.hid (fun w' (h : Grew w w') => none_gives (s := ByteArray.empty) h)
    clear hat hs hnone
    have hge : (G.length : Int) ≤ (m : Int) := by omega
    generalize G.length = gl at *
    go_enter Tryz.func27, Tryz.ntmps27
    go_wp2_with fail
    go_region_held3 (fun w' => Grew w w') (with_reducible assumption)
      (first | (go_at_call 46; refine (KS.out _ hd).mono ?_; rintro e w1 ⟨rfl, hg1⟩; have hk1 := hd.trans hg1))
    go_wp2_with fail
    go_ret2
    exact HE.out _ hk1
end Go.Proofs.YtdndclfjeajhiaaGreat

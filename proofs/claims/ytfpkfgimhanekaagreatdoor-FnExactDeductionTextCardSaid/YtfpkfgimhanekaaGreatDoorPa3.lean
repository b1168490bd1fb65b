/- Texts in one file: TtI LawTtx ArgT Ints IntArg StrLaw RowLem FitS OwnE Dd StCf StCont DdT TyQ TyP TyB Pw DdP StEq StQ DdR DdRa DdRb. -/
import Derived.Deep.SlicePairs
import Derived.Lib.SmallJoins
import Derived.Carry
import Derived.ProofKit
import Derived.Deep.RegionHeld3
import Derived.Deep.QuietTactic
import Derived.BigQuiet
import Derived.Deep.LoopGhost
import Derived.Deep.OwnRows
import Derived.Outline
import Derived.WalkLawsBesides
import Derived.Shelf.Abstract
import Derived.Test.YtfpkfgimhanekaaGreatDoorProg
import Derived.ArgAppend
import Derived.Lib.SlicesS
import Derived.Test.YtfpkfgimhanekaaGreatDoorPa1
import Derived.Test.YtfpkfgimhanekaaGreatDoorPa2
set_option linter.all false

/- termText of the program; TermText of both. Printed by tti.py. -/
namespace Go.Proofs.YtfpkfgimhanekaaGreatDoor
open Go.RowKit
open Tr (Tm)

/-- The texts of the parts. -/
def ktx (t : Tm) : List ByteArray := (Tr.kids t).map fun s => bs (ttx s)
/-- The text of a term out of its kind, its number, its type, the texts of its parts. -/
inductive TtC : Int → Int → ByteArray → List ByteArray → ByteArray → Prop
  | c0 (n T) (h0 : 0 ≤ n) (h1 : n ≤ 99) : TtC 0 n T [] (⟨#[120]⟩ ++ dcm n.toNat)
  | c1 (n T A) : TtC 1 n T [A] (⟨#[47]⟩ ++ T ++ ⟨#[58]⟩ ++ A)
  | c4 (n T A) : TtC 4 n T [A] (⟨#[49]⟩ ++ A)
  | c5 (n T A) : TtC 5 n T [A] (⟨#[50]⟩ ++ A)
  | c6 (n T A) : TtC 6 n T [A] (⟨#[108]⟩ ++ T ++ ⟨#[58]⟩ ++ A)
  | c7 (n T A) : TtC 7 n T [A] (⟨#[114]⟩ ++ T ++ ⟨#[58]⟩ ++ A)
  | c9 (n T A) : TtC 9 n T [A] (⟨#[102]⟩ ++ T ++ ⟨#[58]⟩ ++ A)
  | c2 (n T A B) : TtC 2 n T [A, B] (⟨#[40]⟩ ++ A ++ ⟨#[32]⟩ ++ B ++ ⟨#[41]⟩)
  | c3 (n T A B) : TtC 3 n T [A, B] (⟨#[91]⟩ ++ A ++ ⟨#[44]⟩ ++ B ++ ⟨#[93]⟩)
  | c8 (n T A B C) : TtC 8 n T [A, B, C] (⟨#[123]⟩ ++ ⟨(joinB [A, B, C] ⟨#[59]⟩).toArray⟩ ++ ⟨#[125]⟩)
theorem TtC.ors {k n : Int} {T : ByteArray} {K : List ByteArray} {R : ByteArray} (h : TtC k n T K R) :
    (k = 0 ∧ 0 ≤ n ∧ n ≤ 99 ∧ K = [] ∧ R = ⟨#[120]⟩ ++ dcm n.toNat) ∨ (k = 1 ∧ ∃ A, K = [A] ∧ R = ⟨#[47]⟩ ++ T ++ ⟨#[58]⟩ ++ A) ∨ (k = 4 ∧ ∃ A, K = [A] ∧ R = ⟨#[49]⟩ ++ A) ∨ (k = 5 ∧ ∃ A, K = [A] ∧ R = ⟨#[50]⟩ ++ A) ∨
    (k = 6 ∧ ∃ A, K = [A] ∧ R = ⟨#[108]⟩ ++ T ++ ⟨#[58]⟩ ++ A) ∨ (k = 7 ∧ ∃ A, K = [A] ∧ R = ⟨#[114]⟩ ++ T ++ ⟨#[58]⟩ ++ A) ∨ (k = 9 ∧ ∃ A, K = [A] ∧ R = ⟨#[102]⟩ ++ T ++ ⟨#[58]⟩ ++ A) ∨
    (k = 2 ∧ ∃ A B, K = [A, B] ∧ R = ⟨#[40]⟩ ++ A ++ ⟨#[32]⟩ ++ B ++ ⟨#[41]⟩) ∨ (k = 3 ∧ ∃ A B, K = [A, B] ∧ R = ⟨#[91]⟩ ++ A ++ ⟨#[44]⟩ ++ B ++ ⟨#[93]⟩) ∨
    (k = 8 ∧ ∃ A B C, K = [A, B, C] ∧ R = ⟨#[123]⟩ ++ ⟨(joinB [A, B, C] ⟨#[59]⟩).toArray⟩ ++ ⟨#[125]⟩) := by
  cases h
  case c0 h0 h1 => exact .inl ⟨rfl, h0, h1, rfl, rfl⟩
  case c1 => exact .inr (.inl ⟨rfl, _, rfl, rfl⟩)
  case c4 => exact .inr (.inr (.inl ⟨rfl, _, rfl, rfl⟩))
  case c5 => exact .inr (.inr (.inr (.inl ⟨rfl, _, rfl, rfl⟩)))
  case c6 => exact .inr (.inr (.inr (.inr (.inl ⟨rfl, _, rfl, rfl⟩))))
  case c7 => exact .inr (.inr (.inr (.inr (.inr (.inl ⟨rfl, _, rfl, rfl⟩)))))
  case c9 => exact .inr (.inr (.inr (.inr (.inr (.inr (.inl ⟨rfl, _, rfl, rfl⟩))))))
  case c2 => exact .inr (.inr (.inr (.inr (.inr (.inr (.inr (.inl ⟨rfl, _, _, rfl, rfl⟩)))))))
  case c3 => exact .inr (.inr (.inr (.inr (.inr (.inr (.inr (.inr (.inl ⟨rfl, _, _, rfl, rfl⟩))))))))
  case c8 => exact .inr (.inr (.inr (.inr (.inr (.inr (.inr (.inr (.inr ⟨rfl, _, _, _, rfl, rfl⟩))))))))
theorem bsc (c : UInt8) : bs [c] = ⟨#[c]⟩ := rfl
theorem ttc_one {x : Tn} {a : Tm} (k : Int) (c : UInt8) (hk : x.1 = k) (h45 : ¬ (k = 4 ∨ k = 5)) (hc : chK k = c) : bs (ttx (.t1 x a)) = ⟨#[c]⟩ ++ x.2.2 ++ ⟨#[58]⟩ ++ bs (ttx a) := by
  have e : x.2.2 = bs (sl x.2.2) := (bs_eq _).symm
  conv => rhs; rw [e]
  rw [← bsc c, ← bsc 58, bs_append, bs_append, bs_append]
  simp only [ttx]
  rw [if_neg (by rw [hk]; exact h45), hk, hc]
  simp
theorem ttc_of {t : Tm} (h : Good t) : TtC (Tr.hd t).1 (Tr.hd t).2.1 (Tr.hd t).2.2 (ktx t) (bs (ttx t)) := by
  cases t with
  | t0 x =>
    have hk : x.1 = 0 := (good_leaf h).1 rfl
    obtain ⟨a1, a2, _⟩ := goodN_var h.2 hk
    have e : bs (ttx (.t0 x)) = ⟨#[120]⟩ ++ dcm x.2.1.toNat := by
      show bs (120 :: decL x.2.1) = _
      obtain ⟨m, hm⟩ : ∃ m : Nat, x.2.1 = m := ⟨x.2.1.toNat, by omega⟩
      rw [hm, Int.toNat_natCast, ← decL_dcm (by omega), ← bsc 120, bs_append]
      rfl
    rw [e]
    show TtC x.1 x.2.1 x.2.2 [] _
    rw [hk]
    exact .c0 _ _ a1 a2
  | t1 x a =>
    show TtC x.1 x.2.1 x.2.2 [bs (ttx a)] _
    rcases ar_one (show Tr.ar x.1 = 1 from h.1.1) with hk | hk | hk | hk | hk | hk
    · rw [ttc_one 1 47 hk (by decide) (by decide), hk]; exact .c1 _ _ _
    · have e : bs (ttx (.t1 x a)) = ⟨#[49]⟩ ++ bs (ttx a) := by rw [← bsc 49, bs_append]; simp only [ttx]; rw [if_pos (by omega), hk]; rfl
      rw [e, hk]; exact .c4 _ _ _
    · have e : bs (ttx (.t1 x a)) = ⟨#[50]⟩ ++ bs (ttx a) := by rw [← bsc 50, bs_append]; simp only [ttx]; rw [if_pos (by omega), hk]; rfl
      rw [e, hk]; exact .c5 _ _ _
    · rw [ttc_one 6 108 hk (by decide) (by decide), hk]; exact .c6 _ _ _
    · rw [ttc_one 7 114 hk (by decide) (by decide), hk]; exact .c7 _ _ _
    · rw [ttc_one 9 102 hk (by decide) (by decide), hk]; exact .c9 _ _ _
  | t2 x a b =>
    show TtC x.1 x.2.1 x.2.2 [bs (ttx a), bs (ttx b)] _
    rcases ar_two (show Tr.ar x.1 = 2 from h.1.1) with hk | hk
    · have e : bs (ttx (.t2 x a b)) = ⟨#[40]⟩ ++ bs (ttx a) ++ ⟨#[32]⟩ ++ bs (ttx b) ++ ⟨#[41]⟩ := by
        rw [← bsc 40, ← bsc 32, ← bsc 41, bs_append, bs_append, bs_append, bs_append]; simp only [ttx]; rw [if_pos hk]; simp
      rw [e, hk]; exact .c2 _ _ _ _
    · have e : bs (ttx (.t2 x a b)) = ⟨#[91]⟩ ++ bs (ttx a) ++ ⟨#[44]⟩ ++ bs (ttx b) ++ ⟨#[93]⟩ := by
        rw [← bsc 91, ← bsc 44, ← bsc 93, bs_append, bs_append, bs_append, bs_append]; simp only [ttx]; rw [if_neg (by omega)]; simp
      rw [e, hk]; exact .c3 _ _ _ _
  | t3 x a b c =>
    show TtC x.1 x.2.1 x.2.2 [bs (ttx a), bs (ttx b), bs (ttx c)] _
    have hk := ar_three (show Tr.ar x.1 = 3 from h.1.1)
    have e : bs (ttx (.t3 x a b c)) = ⟨#[123]⟩ ++ ⟨(joinB [bs (ttx a), bs (ttx b), bs (ttx c)] ⟨#[59]⟩).toArray⟩ ++ ⟨#[125]⟩ := by
      have ej : (⟨(joinB [bs (ttx a), bs (ttx b), bs (ttx c)] ⟨#[59]⟩).toArray⟩ : ByteArray) = bs (ttx a ++ 59 :: (ttx b ++ 59 :: ttx c)) := by
        unfold joinB Lib.join
        show bs _ = bs _
        congr 1
        simp [List.intercalate, bs, List.intersperse]
      rw [ej, ← bsc 123, ← bsc 125, bs_append, bs_append]; simp [ttx]
    rw [e, hk]; exact .c8 _ _ _ _ _
theorem ktx_size {t : Tm} (h : Good t) (hn : (Tr.enc t).length ≤ 60) : ∀ s ∈ ktx t, s.size ≤ 10200 := fun s hs => by
  unfold ktx at hs
  obtain ⟨u, hu, rfl⟩ := List.mem_map.1 hs
  have h1 := ttx_len u (Tr.kids_wf h u hu)
  obtain ⟨i, hi, rfl⟩ := List.getElem_of_mem hu
  have h2 := Tr.kid_lt hi
  rw [bs_size]
  omega
theorem ktx_len (t : Tm) : (ktx t).length = (Tr.kids t).length := by unfold ktx; rw [List.length_map]
theorem ktx_at {t : Tm} {i : Nat} (hi : i < (Tr.kids t).length) : (ktx t).take (i + 1) = (ktx t).take i ++ [bs (ttx (Tr.kid t i))] := by
  have h : (ktx t)[i]? = some (bs (ttx (Tr.kid t i))) := by
    unfold ktx
    rw [List.getElem?_map, List.getElem?_eq_getElem hi, Tr.kid_eq hi]; rfl
  rw [List.take_add_one, h]; rfl
theorem lead_q (k : Int) (w : World) (h : k = 6 ∨ k = 7 ∨ k = 9) : Calls Tryz.prog 40 #[.int .i64 k] w fun e w' => e = .returned (.int .i64 (if k = 9 then 3 else k - 6)) ∧ w' = w := by
  rcases h with rfl | rfl | rfl
  all_goals
    go_enter Tryz.func40, Tryz.ntmps40
    go_wp2_with fail
    go_ret
    exact ⟨rfl, rfl⟩
def TxtI (t : Tm) : Prop := ∀ v w, Tms w v (Tr.enc t) → Calls Tryz.prog 20 #[v] w (Says w (ttx t))

set_option maxRecDepth 20000 in
set_option maxHeartbeats 8000000 in
theorem termText_c : ∀ t : Tm, Good t → (Tr.enc t).length ≤ 60 → TxtI t := by
  intro t0
  refine Tr.ind (P := fun t => Good t → (Tr.enc t).length ≤ 60 → TxtI t) (fun t ih hg hn => ?_) t0
  intro v w h
  have KIH := Lib.hid (fun i (hi : i < (Tr.kids t).length) u W (hu : Tms W u (Tr.enc (Tr.kid t i))) => ih _ (Tr.kid_mem hi) (Tr.kids_wf hg _ (Tr.kid_mem hi)) (by have := Tr.kid_small hi; omega) u W hu)
  have KI := Lib.hid (inner_c v t w h hg (by omega))
  have HT := Lib.hid (ttc_of hg)
  have HSZ := Lib.hid (ktx_size hg hn)
  have HKL := Lib.hid (ktx_len t)
  have HKA := Lib.hid (fun i hi => ktx_at (t := t) (i := i) hi)
  have hT := goodN_fits160 (Tr.hd_wf hg)
  have hkl3 : (Tr.kids t).length ≤ 3 := by rw [Tr.kids_len hg]; exact Tr.ar_le _
  obtain ⟨b, o, c, rfl, hc, hm, hb, hcl⟩ := tms_head h
  have hpos := Tr.enc_pos t
  have k0 := fun W (hW : Grew w W) => (hcl W hW).1
  have k1 := fun W (hW : Grew w W) => (hcl W hW).2.1
  have k2 := fun W (hW : Grew w W) => (hcl W hW).2.2
  unfold TxtI Says at KIH
  unfold Says
  clear hcl h ih
  generalize (Tr.enc t).length = n at *
  generalize hkk : (Tr.hd t).1 = k at *
  generalize (Tr.hd t).2.1 = xn at *
  generalize (Tr.hd t).2.2 = T at *
  generalize hR : bs (ttx t) = R at *
  generalize hK : ktx t = K at *
  generalize hM : (Tr.kids t).length = m at *
  have HM := Lib.hid hM
  clear hkk hM hK hR hg
  have hlk := HKL.out
  go_enter Tryz.func20, Tryz.ntmps20
  go_wp2_with fail
  refine (KI.out).mono ?_
  rintro e w1 ⟨u, rfl, hu, hg1⟩
  rcases hu with ⟨rfl, hnil⟩ | ⟨b1, o1, c1, rfl, hc1, hm1, hb1, hel⟩
  case inl =>
    have hm0 : m = 0 := by rw [← HM.out, hnil]; rfl
    subst hm0
    obtain rfl : K = [] := List.eq_nil_of_length_eq_zero hlk
    have HT2 := HT.out
    clear HT KI KIH HSZ HKA HKL HM hnil hc hlk
    rcases HT2.ors with ⟨rfl, h0, h1, _, rfl⟩ | ⟨_, A, hA, _⟩ | ⟨_, A, hA, _⟩ | ⟨_, A, hA, _⟩ | ⟨_, A, hA, _⟩ | ⟨_, A, hA, _⟩ | ⟨_, A, hA, _⟩ | ⟨_, A, B, hA, _⟩ | ⟨_, A, B, hA, _⟩ | ⟨_, A, B, C, hA, _⟩
    rotate_left
    iterate 9 (cases hA)
    clear HT2
    obtain ⟨q, rfl⟩ : ∃ q : Nat, xn = q := ⟨xn.toNat, by omega⟩
    simp only [Int.toNat_natCast] at *
    have KD := Lib.hid (fun W => decimal_small q W (by omega))
    have hds : (dcm q).size ≤ 3 := by rw [dcm_size]; exact nDigits_le 2 q (by omega)
    generalize hD9 : dcm q = D at *
    have HD9 := Lib.hid hD9
    clear hD9
    have s1 : ¬ 9223372036854775807 < 1 + D.size := by omega
    have z0 := k0 _ hg1
    have z1 := k1 _ hg1
    clear k0 k1 k2
    go_wp2_with fail
    refine wp_loop_rounds 1 ?_; rw [rounds_succ]
    go_wp2_with fail
    refine (KD.out _).mono ?_
    rintro e w2 ⟨rfl, rfl⟩
    go_wp2_with fail
    go_ret
    exact ⟨by rw [Int.toNat_natCast, HD9.out]; rfl, hg1⟩
  case inr =>
    have HEL := Lib.hid hel
    rw [HM.out]
    have hmm := HM.out
    rw [hmm] at hc1
    have HK2 : Hid (K.take m = K) := Lib.hid (by rw [← hlk, List.take_length])
    clear hel KI hmm
    go_wp2_with fail
    go_loopw [3, 9] (fun vv i wr => ∃ (j : Nat), j ≤ m ∧ i = .int .i64 j ∧ Hid (OwnS wr w1.heap.size vv (K.take j)) ∧ Grew w1 wr) (fun _ i _ => m - (intOf i).toNat)
    case atStart => exact ⟨0, Nat.zero_le _, rfl, by rw [List.take_zero]; exact Lib.hid (OwnS.nil_ _ _), Grew.refl _⟩
    case round =>
      obtain ⟨j, hj, rfl, hO, hB1⟩ := hrel
      have hB := hg1.trans hB1
      have hljl : (K.take j).length = j := by rw [List.length_take]; omega
      obtain ⟨AJ, cj, rfl⟩ := strs_slice hO.out.strs
      by_cases hlt : j < m
      · obtain ⟨uj, hcu, htu⟩ := HEL.out j (by rw [HM.out]; exact hlt)
        have KJ := Lib.hid (KIH.out j hlt uj wr (htu.grew hB1))
        have hst := Lib.hid (HKA.out j hlt)
        have z0 := (hB1.cell (p := ⟨b1, o1 + j, none⟩) hb1).trans hcu
        obtain ⟨UA, uc, rfl⟩ := tms_slice htu
        clear htu hcu
        generalize bs (ttx (Tr.kid t j)) = sj at *
        generalize (Tr.enc (Tr.kid t j)).length = lj at *
        rw [hljl]
        rw [hljl] at hO
        generalize hk1 : K.take (j + 1) = K1 at *
        have HK1 := Lib.hid hk1
        clear hk1
        generalize K.take j = K0 at *
        have hlj := Lib.hid (show K0.length ≤ 1048576 by omega)
        go_wp2_with fail
        refine (KJ.out).mono ?_
        rintro e w2 ⟨rfl, hg2⟩
        have hB2 := hB1.trans hg2
        have hO2 := Lib.hid (hO.out.grew hg2)
        go_wp2_with (first | (at_builtin; refine wpList_appStr (w0 := w1) _ _ rfl rfl _ K0 rfl (hO2.out.grew ((Grew.refl _).alloc _)) (hB2.alloc _) _ sj rfl (rd_lit _ _ _) hlj.out ?_; intro v3 w3 hown3 hg3 hby3))
        go_roundw
        case rel => exact ⟨j + 1, by omega, by go_num, by rw [HK1.out, hst.out]; exact Lib.hid hown3, hg3⟩
        case measure => simp [intOf]; omega
      · obtain rfl : j = m := by omega
        rw [HK2.out] at hO hljl
        rw [HK2.out]
        have hst := hO.out.strs
        have HT2 := HT.out
        have hwr := Grew.refl wr
        have q0 := fun W (hW : Grew wr W) => k0 W (hB.trans hW)
        have q1 := fun W (hW : Grew wr W) => k1 W (hB.trans hW)
        have q2 := fun W (hW : Grew wr W) => k2 W (hB.trans hW)
        clear HT KIH HKA HKL HM HEL HK2 k0 k1 k2 hc1 hlt hlk hljl
        rcases HT2.ors with ⟨rfl, h0, h1, rfl, rfl⟩ | ⟨rfl, A, rfl, rfl⟩ | ⟨rfl, A, rfl, rfl⟩ | ⟨rfl, A, rfl, rfl⟩ | ⟨rfl, A, rfl, rfl⟩ | ⟨rfl, A, rfl, rfl⟩ | ⟨rfl, A, rfl, rfl⟩ | ⟨rfl, A, B, rfl, rfl⟩ | ⟨rfl, A, B, rfl, rfl⟩ | ⟨rfl, A, B, C, rfl, rfl⟩
        · clear HT2
          obtain ⟨q, rfl⟩ : ∃ q : Nat, xn = q := ⟨xn.toNat, by omega⟩
          simp only [Int.toNat_natCast, List.length_nil] at *
          have KD := Lib.hid (fun W => decimal_small q W (by omega))
          have hds : (dcm q).size ≤ 3 := by rw [dcm_size]; exact nDigits_le 2 q (by omega)
          generalize hD9 : dcm q = D at *
          have HD9 := Lib.hid hD9
          clear hD9
          have s1 : ¬ 9223372036854775807 < 1 + D.size := by omega
          have z0 := q0 _ hwr
          have z1 := q1 _ hwr
          clear q0 q1 q2
          go_wp2_with fail
          refine (KD.out _).mono ?_
          rintro e w2 ⟨rfl, rfl⟩
          go_wp2_with fail
          go_ret
          exact ⟨by rw [Int.toNat_natCast, HD9.out]; rfl, hB⟩
        · clear HT2
          obtain ⟨ba, oa, ca, hva, hca, hma, hba, fa⟩ := strs_one hst
          have sA := HSZ.out A (by simp)
          cases hva
          simp only [List.length_cons, List.length_nil] at *
          have z0 := q0 _ hwr
          clear HSZ
          have s1 : ¬ 9223372036854775807 < 1 + T.size := by omega
          have s2 : ¬ 9223372036854775807 < 1 + T.size + 1 := by omega
          have s3 : ¬ 9223372036854775807 < 1 + T.size + 1 + A.size := by omega
          go_wp2_with fail
          go_quiet (fail)
          go_wp2_with fail
          go_ret
          exact ⟨rfl, hB.drewN _⟩
        · clear HT2
          obtain ⟨ba, oa, ca, hva, hca, hma, hba, fa⟩ := strs_one hst
          have sA := HSZ.out A (by simp)
          cases hva
          simp only [List.length_cons, List.length_nil] at *
          have z0 := q0 _ hwr
          have z1 := fa _ hwr
          clear q0 q1 q2 fa HSZ
          have s1 : ¬ 9223372036854775807 < 1 + A.size := by omega
          go_wp2_with fail
          go_ret
          exact ⟨rfl, hB⟩
        · clear HT2
          obtain ⟨ba, oa, ca, hva, hca, hma, hba, fa⟩ := strs_one hst
          have sA := HSZ.out A (by simp)
          cases hva
          simp only [List.length_cons, List.length_nil] at *
          have z0 := q0 _ hwr
          have z1 := fa _ hwr
          clear q0 q1 q2 fa HSZ
          have s1 : ¬ 9223372036854775807 < 1 + A.size := by omega
          go_wp2_with fail
          go_ret
          exact ⟨rfl, hB⟩
        · clear HT2
          obtain ⟨ba, oa, ca, hva, hca, hma, hba, fa⟩ := strs_one hst
          have sA := HSZ.out A (by simp)
          cases hva
          simp only [List.length_cons, List.length_nil] at *
          have z0 := q0 _ hwr
          clear HSZ
          have s1 : ¬ 9223372036854775807 < 1 + T.size := by omega
          have s2 : ¬ 9223372036854775807 < 1 + T.size + 1 := by omega
          have s3 : ¬ 9223372036854775807 < 1 + T.size + 1 + A.size := by omega
          have KL : Hid (∀ W, Calls Tryz.prog 40 #[.int .i64 6] W fun e w' => e = .returned (.int .i64 0) ∧ w' = W) := Lib.hid (fun W => lead_q 6 W (by decide))
          go_wp2_with fail
          go_quiet ((first | (go_at_call 40; exact Calls.quiet_of_same (KL.out _))))
          go_wp2_with fail
          go_ret
          exact ⟨rfl, hB.drewN _⟩
        · clear HT2
          obtain ⟨ba, oa, ca, hva, hca, hma, hba, fa⟩ := strs_one hst
          have sA := HSZ.out A (by simp)
          cases hva
          simp only [List.length_cons, List.length_nil] at *
          have z0 := q0 _ hwr
          clear HSZ
          have s1 : ¬ 9223372036854775807 < 1 + T.size := by omega
          have s2 : ¬ 9223372036854775807 < 1 + T.size + 1 := by omega
          have s3 : ¬ 9223372036854775807 < 1 + T.size + 1 + A.size := by omega
          have KL : Hid (∀ W, Calls Tryz.prog 40 #[.int .i64 7] W fun e w' => e = .returned (.int .i64 1) ∧ w' = W) := Lib.hid (fun W => lead_q 7 W (by decide))
          go_wp2_with fail
          go_quiet ((first | (go_at_call 40; exact Calls.quiet_of_same (KL.out _))))
          go_wp2_with fail
          go_ret
          exact ⟨rfl, hB.drewN _⟩
        · clear HT2
          obtain ⟨ba, oa, ca, hva, hca, hma, hba, fa⟩ := strs_one hst
          have sA := HSZ.out A (by simp)
          cases hva
          simp only [List.length_cons, List.length_nil] at *
          have z0 := q0 _ hwr
          clear HSZ
          have s1 : ¬ 9223372036854775807 < 1 + T.size := by omega
          have s2 : ¬ 9223372036854775807 < 1 + T.size + 1 := by omega
          have s3 : ¬ 9223372036854775807 < 1 + T.size + 1 + A.size := by omega
          have KL : Hid (∀ W, Calls Tryz.prog 40 #[.int .i64 9] W fun e w' => e = .returned (.int .i64 3) ∧ w' = W) := Lib.hid (fun W => lead_q 9 W (by decide))
          go_wp2_with fail
          go_quiet ((first | (go_at_call 40; exact Calls.quiet_of_same (KL.out _))))
          go_wp2_with fail
          go_ret
          exact ⟨rfl, hB.drewN _⟩
        · clear HT2
          obtain ⟨ba, oa, ca, hva, hca, hma, hba, fa⟩ := strs_two hst
          have sA := HSZ.out A (by simp)
          have sB := HSZ.out B (by simp)
          have fb := fun W hW => (fa W hW).2
          have fa := fun W hW => (fa W hW).1
          cases hva
          simp only [List.length_cons, List.length_nil] at *
          have z0 := q0 _ hwr
          clear HSZ
          have s1 : ¬ 9223372036854775807 < 1 + A.size := by omega
          have s2 : ¬ 9223372036854775807 < 1 + A.size + 1 := by omega
          have s3 : ¬ 9223372036854775807 < 1 + A.size + 1 + B.size := by omega
          have s4 : ¬ 9223372036854775807 < 1 + A.size + 1 + B.size + 1 := by omega
          go_wp2_with fail
          go_quiet (fail)
          go_wp2_with fail
          go_ret
          exact ⟨rfl, hB.drewN _⟩
        · clear HT2
          obtain ⟨ba, oa, ca, hva, hca, hma, hba, fa⟩ := strs_two hst
          have sA := HSZ.out A (by simp)
          have sB := HSZ.out B (by simp)
          have fb := fun W hW => (fa W hW).2
          have fa := fun W hW => (fa W hW).1
          cases hva
          simp only [List.length_cons, List.length_nil] at *
          have z0 := q0 _ hwr
          clear HSZ
          have s1 : ¬ 9223372036854775807 < 1 + A.size := by omega
          have s2 : ¬ 9223372036854775807 < 1 + A.size + 1 := by omega
          have s3 : ¬ 9223372036854775807 < 1 + A.size + 1 + B.size := by omega
          have s4 : ¬ 9223372036854775807 < 1 + A.size + 1 + B.size + 1 := by omega
          go_wp2_with fail
          go_quiet (fail)
          go_wp2_with fail
          go_ret
          exact ⟨rfl, hB.drewN _⟩
        · clear HT2
          have sA := HSZ.out A (by simp)
          have sB := HSZ.out B (by simp)
          have sC := HSZ.out C (by simp)
          simp only [List.length_cons, List.length_nil] at *
          have z0 := q0 _ hwr
          clear q0 q1 q2 HSZ
          have hjl : (joinB [A, B, C] ⟨#[59]⟩).length ≤ 40000 := by
            have e : joinB [A, B, C] ⟨#[59]⟩ = A.data.toList ++ 59 :: (B.data.toList ++ 59 :: C.data.toList) := by
              unfold joinB Lib.join
              simp [List.intercalate, List.intersperse]
            rw [e]
            have e1 : A.data.toList.length = A.size := rfl
            have e2 : B.data.toList.length = B.size := rfl
            have e3 : C.data.toList.length = C.size := rfl
            simp only [List.length_append, List.length_cons]
            omega
          have KJ := Lib.hid (fun v (hv : Strs wr v [A, B, C]) => joinS_c v [A, B, C] ⟨#[59]⟩ wr hv (by simp) (by omega))
          have HS := Lib.hid hst
          have hsz : (⟨(joinB [A, B, C] ⟨#[59]⟩).toArray⟩ : ByteArray).size ≤ 40000 := by show (joinB [A, B, C] ⟨#[59]⟩).toArray.size ≤ 40000; rw [List.size_toArray]; exact hjl
          clear hst hjl
          generalize hJ : (⟨(joinB [A, B, C] ⟨#[59]⟩).toArray⟩ : ByteArray) = J at *
          have HJ := Lib.hid hJ
          clear hJ
          have s1 : ¬ 9223372036854775807 < 1 + J.size := by omega
          have s2 : ¬ 9223372036854775807 < 1 + J.size + 1 := by omega
          go_wp2_with fail
          refine (KJ.out _ HS.out).mono ?_
          rintro e w2 ⟨rfl, hg2⟩
          go_wp2_with fail
          go_ret
          exact ⟨by rw [HJ.out]; rfl, hB.trans hg2⟩

noncomputable def ttxF (xs : List Tn) : ByteArray × Int := if tmB xs then (bs (ttx (tmT xs)), 0) else (ByteArray.empty, 1)
def GivesStr (w : World) (r : ByteArray × Int) (e : Ending) (w' : World) : Prop := e = .returned (.tuple #[.string r.1, .int .i64 r.2]) ∧ Grew w w'

theorem implTtx_c (v : Value) (xs : List Tn) (w : World) (h : Tms w v xs) (hfit : FitsT xs) (hn : xs.length ≤ 1048576) :
    Calls Tryz.prog 8 #[v] w (GivesStr w (ttxF xs)) := by
  have HI := isTerm_c v xs w h hfit hn
  unfold GivesStr ttxF
  cases hb : tmB xs with
  | false =>
    rw [hb] at HI
    replace HI := Lib.hid HI
    obtain ⟨A, c, rfl⟩ := tms_slice h
    clear h hfit hb
    go_enter Tryz.func8, Tryz.ntmps8
    go_wp2_with fail
    refine (HI.out).mono ?_
    rintro e w1 ⟨rfl, hg1⟩
    go_wp2_with fail
    go_ret2
    exact ⟨rfl, hg1⟩
  | true =>
    rw [hb] at HI
    replace HI := Lib.hid HI
    obtain ⟨t1, t2, t3⟩ := tmT_ok hb
    have HT := Lib.hid (fun W (hW : Grew w W) => termText_c (tmT xs) t1 (by rw [t2]; exact t3) v W (by rw [t2]; exact h.grew hW))
    unfold Says at HT
    rw [if_pos rfl]
    obtain ⟨A, c, rfl⟩ := tms_slice h
    clear h hfit hb t1 t2 t3
    generalize bs (ttx (tmT xs)) = R at *
    go_enter Tryz.func8, Tryz.ntmps8
    go_wp2_with fail
    refine (HI.out).mono ?_
    rintro e w1 ⟨rfl, hg1⟩
    go_wp2_with fail
    refine (HT.out _ hg1).mono ?_
    rintro e w2 ⟨rfl, hg2⟩
    go_wp2_with fail
    go_ret2
    exact ⟨rfl, hg1.trans hg2⟩
theorem specTtx_c (v : Value) (xs : List Tn) (w : World) (h : Tms w v xs) (hfit : FitsT xs) (hn : xs.length ≤ 1048576) :
    Calls Tryz.prog 6 #[v] w (GivesStr w (ttxF xs)) := by
  have HI := l26Is_c v xs w h hfit hn
  unfold GivesStr ttxF
  cases hb : tmB xs with
  | false =>
    rw [hb] at HI
    replace HI := Lib.hid HI
    obtain ⟨A, c, rfl⟩ := tms_slice h
    clear h hfit hb
    go_enter Tryz.func6, Tryz.ntmps6
    go_wp2_with fail
    refine (HI.out).mono ?_
    rintro e w1 ⟨rfl, hg1⟩
    go_wp2_with fail
    go_ret2
    exact ⟨rfl, hg1⟩
  | true =>
    rw [hb] at HI
    replace HI := Lib.hid HI
    obtain ⟨t1, t2, t3⟩ := tmT_ok hb
    have HT := Lib.hid (fun W (hW : Grew w W) => l26Text_c (tmT xs) t1 (by rw [t2]; exact t3) v W (by rw [t2]; exact h.grew hW))
    unfold Says at HT
    rw [if_pos rfl]
    obtain ⟨A, c, rfl⟩ := tms_slice h
    clear h hfit hb t1 t2 t3
    generalize bs (ttx (tmT xs)) = R at *
    go_enter Tryz.func6, Tryz.ntmps6
    go_wp2_with fail
    refine (HI.out).mono ?_
    rintro e w1 ⟨rfl, hg1⟩
    go_wp2_with fail
    refine (HT.out _ hg1).mono ?_
    rintro e w2 ⟨rfl, hg2⟩
    go_wp2_with fail
    go_ret2
    exact ⟨rfl, hg1.trans hg2⟩
end Go.Proofs.YtfpkfgimhanekaaGreatDoor

/- The law FnExactTermText, walked. -/
namespace Go.Proofs.YtfpkfgimhanekaaGreatDoor
open Go.RowKit

theorem lawTtx_c (v0 : Value) (L0 : List Tn) (w : World) (h0 : ArgT w v0 L0) :
    Calls Tryz.prog 3 #[v0] w fun e w' => e = .returned (.bool true) ∧ Grew w w' := by
  have Z0 := Lib.hid (fun W l (hW : Grew w W) (a0 : 0 ≤ l) (a1 : l ≤ 1048576) => szTermNodeS_c v0 L0 l W (h0.grew hW) a0 a1)
  have T0 := Lib.hid (fun W (hW : Grew w W) => toTermNodeS_c v0 L0 W (h0.grew hW))
  clear h0
  go_enter Tryz.func3, Tryz.ntmps3
  go_wp2_with fail
  refine (Z0.out _ _ (Grew.refl w) (by omega) (by omega)).mono ?_
  rintro e w1 ⟨r0, rfl, ⟨hm0, hs0⟩, hg1⟩
  have z1 := Lib.hid hg1.size
  have g1 : Grew w w1 := (Grew.refl w).trans hg1
  clear hg1
  by_cases hr0 : r0 < 0
  · clear hs0
    go_wp2_with fail
    go_ret
    exact ⟨rfl, g1⟩
  obtain ⟨hn0, hf0⟩ := hs0 (by omega)
  have F0 : Hid (FitsT L0) := Lib.hid hf0
  clear hs0 hf0
  have KS := Lib.hid (fun u0 W x0 => specTtx_c u0 L0 W x0 F0.out (by omega))
  have KI := Lib.hid (fun u0 W x0 => implTtx_c u0 L0 W x0 F0.out (by omega))
  unfold GivesStr at KS KI
  generalize ttxF L0 = rr at *
  obtain ⟨ra, rc⟩ := rr
  simp only at KS KI
  have hc1 : (rc != rc) = false := by simp
  have ha1 : (ra.toList != ra.toList) = false := by simp
  go_wp2_with fail
  refine (T0.out _ g1 hn0).mono ?_
  rintro e w2 ⟨a0, rfl, oa0, hg2⟩
  have z2 := Lib.hid hg2.size
  have g2 : Grew w w2 := g1.trans hg2
  clear hg2
  go_wp2_with fail
  refine (KS.out _ _ oa0.tms).mono ?_
  rintro e w3 ⟨rfl, hg3⟩
  have z3 := Lib.hid hg3.size
  have g3 : Grew w w3 := g2.trans hg3
  clear hg3 oa0
  go_wp2_with fail
  refine (T0.out _ g3 hn0).mono ?_
  rintro e w4 ⟨x0, rfl, ox0, hg4⟩
  have z4 := Lib.hid hg4.size
  have g4 : Grew w w4 := g3.trans hg4
  clear hg4
  go_wp2_with fail
  refine (KI.out _ _ ox0.tms).mono ?_
  rintro e w5 ⟨rfl, hg5⟩
  have z5 := Lib.hid hg5.size
  have g5 : Grew w w5 := g4.trans hg5
  replace ox0 := ox0.grew hg5
  clear hg5
  go_wp2_with fail
  refine (T0.out _ g5 hn0).mono ?_
  rintro e w6 ⟨y0, rfl, oy0, hg6⟩
  have z6 := Lib.hid hg6.size
  have g6 : Grew w w6 := g5.trans hg6
  replace ox0 := ox0.grew hg6
  clear hg6
  go_wp2_with fail
  refine (eqTermNodeS_yes _ _ L0 _ ox0.tms oy0.tms (by omega)).mono ?_
  rintro e w7 ⟨rfl, hg7⟩
  have z7 := Lib.hid hg7.size
  have g7 : Grew w w7 := g6.trans hg7
  replace ox0 := ox0.grew hg7
  clear hg7 oy0
  go_wp2_with fail
  go_ret
  exact ⟨rfl, g7⟩
end Go.Proofs.YtfpkfgimhanekaaGreatDoor

/- An argument that is a list of nodes of terms. -/
namespace Go.Proofs.YtfpkfgimhanekaaGreatDoor
open Go.RowKit

theorem cellT_lt {w : World} {a : Addr} {u : Value} (h : w.cell? a = some u) : a.block < w.heap.size := by
  unfold World.cell? at h
  split at h
  · rename_i hh
    exact (Array.getElem?_eq_some_iff.1 hh).1
  · cases h

theorem argT_of_trod {H : Type} {enc : TypeId × Value → H} {P : Program} {W : World} {sp : Nat → Bool} {held : Bool} {n : Nat} {t e : TypeId} {f0 f1 f2 : Field} {v : Value} {y : DataW H × List MemPlace}
    (ht : P.underlying t = some (.slice e)) (he : P.underlying e = some (.struct #[f0, f1, f2])) (ce : P.cellsOf e = 3) (o0 : f0.offset = 0) (o1 : f1.offset = 1) (o2 : f2.offset = 2) (c0 : P.cellsOf f0.type = 1) (c1 : P.cellsOf f1.type = 1) (c2 : P.cellsOf f2.type = 1)
    (u0 : P.underlying f0.type = some (.int .i64)) (u1 : P.underlying f1.type = some (.int .i64)) (u2 : P.underlying f2.type = some .string) (h : DataW.trod enc P W 0 sp held n t [v] = some y) : ∃ xs, ArgT W v xs := by
  rcases Go.Deep.open_slice ht h with ⟨hv, _⟩ | ⟨a, len, cap, m, k, D, Pl, hv, _, hl, hm, hmm, _, hcell⟩
  · obtain rfl : v = .slice none 0 0 := by simpa using hv
    exact ⟨[], ⟨none, 0, rfl, by simp⟩, fun h => absurd h (by simp), fun i hi => absurd hi (by simp)⟩
  · obtain rfl : v = .slice (some a) len cap := by simpa using hv
    have hlm : len ≤ m := by rw [hmm]; split <;> omega
    have hmax : maxLen = 9223372036854775807 := by decide
    rw [hmax] at hm
    have each : ∀ i, i < len → ∃ q : Tn, W.cell? (a.add (i * 3)) = some (.int .i64 q.1) ∧ W.cell? (a.add (i * 3 + 1)) = some (.int .i64 q.2.1) ∧ W.cell? (a.add (i * 3 + 2)) = some (.string q.2.2) ∧ q.2.2.size ≤ maxLen := fun i hi => by
      obtain ⟨cs', h1, h2⟩ := hcell i (by omega)
      rw [ce] at h1
      obtain ⟨_, hlen, hc⟩ := World.cells?_some h1
      obtain ⟨xs, k', hk, hxy, _, hxl, hf⟩ := DataW.trod_struct he h2
      match xs, hxl, cs', hlen with
      | [y0, y1, y2], _, [v0, v1, v2], _ =>
        have g0 := hf 0 f0 rfl
        have g1 := hf 1 f1 rfl
        have g2 := hf 2 f2 rfl
        simp [o0, o1, o2, c0, c1, c2] at g0 g1 g2
        have e0 := hc 0 (by omega)
        have e1 := hc 1 (by omega)
        have e2 := hc 2 (by omega)
        rw [Go.Deep.add_add] at e0 e1 e2
        obtain ⟨x, hx, _⟩ := DataW.trod_int u0 g0
        obtain ⟨z, hz, _⟩ := DataW.trod_int u1 g1
        obtain ⟨s, hs, _, hsz⟩ := DataW.trod_string u2 g2
        obtain rfl : v0 = .int .i64 x := by simpa using hx
        obtain rfl : v1 = .int .i64 z := by simpa using hz
        obtain rfl : v2 = .string s := by simpa using hs
        exact ⟨(x, z, s), by simpa using e0, by simpa using e1, by simpa using e2, hsz⟩
    obtain ⟨q, hq⟩ := Go.Deep.choose_lt each
    have hlen : ((List.range len).map q).length = len := by simp
    have hk0 : ∀ i, i < len → tk ((List.range len).map q) i = (q i).1 := fun i hi => by simp [tk, List.getD, hi]
    have hk1 : ∀ i, i < len → tn ((List.range len).map q) i = (q i).2.1 := fun i hi => by simp [tn, List.getD, hi]
    have hk2 : ∀ i, i < len → tt ((List.range len).map q) i = (q i).2.2 := fun i hi => by simp [tt, List.getD, hi]
    refine ⟨(List.range len).map q, ⟨some a, cap, by rw [hlen], by rw [hlen]; omega⟩, fun hp => ?_, fun i hi => ?_⟩
    · rw [hlen] at hp
      obtain ⟨b, off, spot⟩ := a
      have h0 := (hq 0 (by omega)).1
      have hspot : spot = none := by simpa [Addr.add] using World.cell?_spot h0
      subst hspot
      have hb := cellT_lt h0
      have hadd : ∀ i, (⟨b, off, none⟩ : Addr).add i = ⟨b, off + i, none⟩ := fun i => by
        unfold Addr.add
        split
        · subst_vars; rfl
        · rfl
      rw [hadd] at hb
      unfold Tms Rd
      rw [hlen]
      refine ⟨by rw [tcells_length, hlen], by omega, .inr ⟨b, off, cap, rfl, hl, hm, hb, fun j u hu => ?_⟩⟩
      have hj : j < len * 3 := by
        have := (List.getElem?_eq_some_iff.1 hu).1
        rw [tcells_length, hlen] at this
        exact this
      have hi : j / 3 < len := by omega
      obtain ⟨e0, e1, e2, _⟩ := hq (j / 3) hi
      rw [hadd] at e0 e1 e2
      obtain ⟨k0, k1, k2⟩ := tcells_at ((List.range len).map q) (j / 3) (by rw [hlen]; exact hi)
      rw [hk0 _ hi] at k0
      rw [hk1 _ hi] at k1
      rw [hk2 _ hi] at k2
      have hd := Nat.div_add_mod j 3
      have hmo : j % 3 = 0 ∨ j % 3 = 1 ∨ j % 3 = 2 := by omega
      rcases hmo with hmo | hmo | hmo
      · have e : j = j / 3 * 3 := by omega
        rw [e] at hu ⊢
        rw [k0] at hu
        rw [← hu]
        exact e0
      · have e : j = j / 3 * 3 + 1 := by omega
        rw [e] at hu ⊢
        rw [k1] at hu
        rw [← hu]
        exact e1
      · have e : j = j / 3 * 3 + 2 := by omega
        rw [e] at hu ⊢
        rw [k2] at hu
        rw [← hu]
        exact e2
    · rw [hlen] at hi
      rw [hk2 i hi, ← hmax]
      exact (hq i hi).2.2.2
end Go.Proofs.YtfpkfgimhanekaaGreatDoor

/- Slices of int64 in memory, and the laws' own helpers on them. -/
namespace Go.Proofs.YtfpkfgimhanekaaGreatDoor
open Go.RowKit

def it (L : List Int) (i : Nat) : Int := L.getD i 0
def icells (L : List Int) : List Value := L.map (Value.int .i64)
theorem icells_length (L : List Int) : (icells L).length = L.length * 1 := by simp [icells]
theorem icells_one (L : List Int) : ∀ u ∈ icells L, u.oneCell' = true := by
  intro u hu
  simp only [icells, List.mem_map] at hu
  obtain ⟨s, _, rfl⟩ := hu
  rfl
theorem icells_at {L : List Int} {i : Nat} (h : i < L.length) : (icells L)[i]? = some (.int .i64 (it L i)) := by simp [icells, it, List.getD, h]
theorem icells_append (K L : List Int) : icells (K ++ L) = icells K ++ icells L := by simp [icells]
theorem it_get {L : List Int} {i : Nat} (h : i < L.length) : L[i] = it L i := by simp [it, List.getD, h]
theorem it_ext {K L : List Int} (hl : K.length = L.length) (h : ∀ i, i < K.length → it K i = it L i) : K = L := by
  apply List.ext_getElem hl
  intro i h1 h2
  rw [it_get h1, it_get h2]
  exact h i h1

/-- v reads as the list. -/
def Ints (w : World) (v : Value) (L : List Int) : Prop := Rd w 1 v L.length (icells L)
/-- v is a row of the call's own. -/
def OwnI (w : World) (B : Nat) (v : Value) (L : List Int) : Prop := w.ownsRow B 2 1 v L.length (icells L)
theorem Ints.grew {w w' : World} {v : Value} {L : List Int} (h : Ints w v L) (hb : Grew w w') : Ints w' v L := Rd.grew h hb
theorem Ints.nil_ (w : World) : Ints w (.slice none 0 0) [] := Rd.nil_ w 1
theorem OwnI.ints {w : World} {B : Nat} {v : Value} {L : List Int} (h : OwnI w B v L) : Ints w v L := Rd.of_own h
theorem OwnI.nil_ (w : World) (B : Nat) : OwnI w B (.slice none 0 0) [] := World.ownsRow_nil w B _ 1
theorem OwnI.grew {w w' : World} {B : Nat} {v : Value} {L : List Int} (h : OwnI w B v L) (hb : Grew w w') : OwnI w' B v L := own_grew h hb
theorem OwnI.base {w : World} {B B' : Nat} {v : Value} {L : List Int} (h : OwnI w B v L) (hb : B' ≤ B) : OwnI w B' v L := own_base h hb
theorem Ints.open_ {w : World} {v : Value} {L : List Int} (h : Ints w v L) :
    (v = .slice none 0 0 ∧ L = []) ∨ ∃ b o c, v = .slice (some ⟨b, o, none⟩) L.length c ∧ L.length ≤ c ∧ c ≤ 9223372036854775807 ∧ b < w.heap.size ∧
      ∀ i, i < L.length → ∀ W, Grew w W → W.cell? ⟨b, o + i, none⟩ = some (.int .i64 (it L i)) := by
  obtain ⟨_, _, h3⟩ := h
  rcases h3 with ⟨h4, h5⟩ | ⟨b, o, c, h4, h5, h6, h7, h8⟩
  · exact .inl ⟨h4, List.eq_nil_of_length_eq_zero h5⟩
  · exact .inr ⟨b, o, c, h4, h5, h6, h7, fun i hi W hW => (hW.cell (p := ⟨b, o + i, none⟩) h7).trans (h8 _ _ (icells_at hi))⟩
theorem ints_slice {w : World} {v : Value} {L : List Int} (h : Ints w v L) : ∃ A c, v = .slice A L.length c := by
  rcases h.open_ with ⟨rfl, rfl⟩ | ⟨b, o, c, rfl, _⟩
  · exact ⟨_, _, rfl⟩
  · exact ⟨_, _, rfl⟩
theorem OwnI.mk_ {w : World} {B : Nat} {L : List Int} {g c : Nat} {cur : Array Value} (hB : B ≤ g) (hg : w.heap[g]? = some (.cells cur 2 (0, 0))) (hnc : L.length ≤ c) (hcm : c ≤ 9223372036854775807) (hcs : cur.size = c)
    (hc : ∀ i, i < L.length → cur[i]? = some (.int .i64 (it L i))) : OwnI w B (.slice (some ⟨g, 0, none⟩) L.length c) L := by
  refine ⟨icells_length L, .inr ⟨g, c, cur, rfl, hB, hg, hnc, hcm, by omega, ?_⟩⟩
  apply List.ext_getElem?
  intro j
  rw [List.getElem?_take]
  by_cases hj : j < L.length
  · rw [if_pos (by omega), icells_at hj]
    simpa using hc j hj
  · rw [if_neg (by omega), List.getElem?_eq_none (by rw [icells_length]; omega)]
theorem Tryz.infoI : (Tryz.prog.info? 2).map (fun i => (i.zero, i.size, i.bytes)) = some (some (.int .i64 0), 1, 8) := by kernel_rfl
/-- The call returns a new list of numbers. -/
def GivesI (w : World) (L : List Int) (e : Ending) (w' : World) : Prop := ∃ v, e = .returned v ∧ OwnI w' w.heap.size v L ∧ Grew w w'

theorem one_stepI {cur : Array Value} {F : Nat → Value} {j : Nat} (hs : j < cur.size) (h : ∀ i, i < j → cur[i]? = some (F i)) :
    ∀ i, i < j + 1 → (cur.setIfInBounds j (F j))[i]? = some (F i) := by
  intro i hi
  simp only [Array.getElem?_setIfInBounds]
  rcases Nat.lt_or_ge i j with hk | hk
  · rw [if_neg (by omega)]
    exact h i hk
  · obtain rfl : i = j := by omega
    rw [if_pos rfl, if_pos hs]
end Go.Proofs.YtfpkfgimhanekaaGreatDoor

/- Slices of int64 that came in: szInt64S. -/
namespace Go.Proofs.YtfpkfgimhanekaaGreatDoor
open Go.RowKit

/-- A list of numbers that came in. -/
def ArgI (w : World) (v : Value) (L : List Int) : Prop := (∃ A c, v = .slice A L.length c ∧ L.length ≤ 9223372036854775807) ∧ (0 < L.length → Ints w v L)
theorem ArgI.grew {w w' : World} {v : Value} {L : List Int} (h : ArgI w v L) (hg : Grew w w') : ArgI w' v L := ⟨h.1, fun hp => (h.2 hp).grew hg⟩

theorem szInt64S_c (v : Value) (L : List Int) (left : Int) (w : World) (h : ArgI w v L) (h0 : 0 ≤ left) (h1 : left ≤ 1048576) :
    Calls Tryz.prog 41 #[v, .int .i64 left] w fun e w' => ∃ r : Int, e = .returned (.int .i64 r) ∧ (r ≤ 1048576 ∧ (0 ≤ r → L.length ≤ 1048576)) ∧ Grew w w' := by
  obtain ⟨⟨A, c, rfl, hmax⟩, _⟩ := h
  generalize L.length = n at *
  by_cases hlong : left < n
  · go_enter Tryz.func41, Tryz.ntmps41
    go_wp2_with fail
    go_ret
    exact ⟨_, rfl, ⟨by omega, fun h => absurd h (by omega)⟩, Grew.refl _⟩
  · go_enter Tryz.func41, Tryz.ntmps41
    go_wp2_with fail
    go_ret
    exact ⟨_, rfl, ⟨by omega, fun _ => by omega⟩, Grew.refl _⟩
end Go.Proofs.YtfpkfgimhanekaaGreatDoor

/- The laws' own helpers on slices of strings: szStringS, toStringS, eqStringS. -/
namespace Go.Proofs.YtfpkfgimhanekaaGreatDoor
open Go.RowKit

/-- A list of strings that came in. -/
def ArgS (w : World) (v : Value) (L : List ByteArray) : Prop :=
  (∃ A c, v = .slice A L.length c ∧ L.length ≤ 9223372036854775807) ∧ (0 < L.length → Strs w v L) ∧ ∀ i, i < L.length → (st L i).size ≤ 9223372036854775807
theorem ArgS.grew {w w' : World} {v : Value} {L : List ByteArray} (h : ArgS w v L) (hg : Grew w w') : ArgS w' v L := ⟨h.1, fun hp => (h.2.1 hp).grew hg, h.2.2⟩

/-- None of the first k is long. -/
def Small (L : List ByteArray) (k : Nat) : Prop := ∀ i, i < k → (st L i).size ≤ 1048576
theorem Small.zero (L : List ByteArray) : Small L 0 := fun i hi => absurd hi (by omega)
theorem Small.succ {L : List ByteArray} {k : Nat} (h : Small L k) (h1 : (st L k).size ≤ 1048576) : Small L (k + 1) := by
  intro i hi
  rcases Nat.lt_or_ge i k with hk | hk
  · exact h i hk
  · obtain rfl : i = k := by omega
    exact h1
/-- What the sizes' walk gives. -/
def Sizes (L : List ByteArray) (r : Int) : Prop := r ≤ 1048576 ∧ (0 ≤ r → L.length ≤ 1048576 ∧ Small L L.length)

theorem szStringS_c (v : Value) (L : List ByteArray) (left : Int) (w : World) (h : ArgS w v L) (h0 : 0 ≤ left) (h1 : left ≤ 1048576) :
    Calls Tryz.prog 42 #[v, .int .i64 left] w fun e w' => ∃ r : Int, e = .returned (.int .i64 r) ∧ Sizes L r ∧ Grew w w' := by
  obtain ⟨⟨A, c, rfl, hmax⟩, hS, hz⟩ := h
  by_cases hlong : left < L.length
  · clear hS hz
    go_enter Tryz.func42, Tryz.ntmps42
    go_wp2_with fail
    go_ret
    exact ⟨_, rfl, ⟨by omega, fun h => absurd h (by omega)⟩, Grew.refl _⟩
  · by_cases hp : 0 < L.length
    · rcases (hS hp).open_ with ⟨_, h2⟩ | ⟨b, o, c', hv, hc, hm, hb, hcell⟩
      · rw [h2] at hp; cases hp
      obtain ⟨rfl, rfl⟩ : A = some ⟨b, o, none⟩ ∧ c = c' := by simpa using hv
      clear hS hv
      have HE : Hid (∀ r : Int, (r ≤ 1048576 ∧ (0 ≤ r → L.length ≤ 1048576 ∧ Small L L.length)) → Sizes L r) := Lib.hid (fun _ h => h)
      have HC := Lib.hid hcell
      have HZ := Lib.hid hz
      clear hcell hz
      generalize hN : L.length = n at *
      clear hN
      go_enter Tryz.func42, Tryz.ntmps42
      go_wp2_with fail
      go_loopw [1, 5] (fun kk i wr => ∃ (j : Nat) (l : Int), j ≤ n ∧ i = .int .i64 j ∧ kk = .int .i64 l ∧ 0 ≤ l ∧ l ≤ left ∧ Grew w wr ∧ Hid (Small L j)) (fun _ i _ => n - (intOf i).toNat)
      case atStart => exact ⟨0, left - n, Nat.zero_le _, rfl, rfl, by omega, by omega, Grew.refl _, Small.zero _⟩
      case round =>
        obtain ⟨j, l, hj, rfl, rfl, hl0, hl1, hB, HJ⟩ := hrel
        by_cases hlt : j < n
        · have k1 := HC.out j hlt _ hB
          have k2 := HZ.out j hlt
          have HS := Lib.hid (fun h => HJ.out.succ (k := j) h)
          generalize st L j = x at *
          by_cases hbig : l < x.size
          · go_wp2_with fail
            go_ret
            exact ⟨_, rfl, HE.out _ ⟨by omega, fun h => absurd h (by omega)⟩, hB⟩
          · go_wp2_with fail
            go_roundw
            case rel => exact ⟨j + 1, l - x.size, by omega, by go_num, rfl, by omega, by omega, hB, HS.out (by omega)⟩
            case measure => simp [intOf]; omega
        · obtain rfl : j = n := by omega
          go_wp2_with fail
          go_ret
          exact ⟨_, rfl, HE.out _ ⟨by omega, fun _ => ⟨by omega, HJ.out⟩⟩, hB⟩
    · obtain rfl : L = [] := List.eq_nil_of_length_eq_zero (by omega)
      simp only [List.length_nil] at *
      go_enter Tryz.func42, Tryz.ntmps42
      go_wp2_with fail
      refine wp_loop_rounds 1 ?_; rw [rounds_succ]
      go_wp2_with fail
      go_ret
      exact ⟨_, rfl, ⟨by omega, fun _ => ⟨by simp, fun i hi => absurd hi (by simp)⟩⟩, Grew.refl _⟩

theorem one_step {cur : Array Value} {F : Nat → Value} {j : Nat} (hs : j < cur.size) (h : ∀ i, i < j → cur[i]? = some (F i)) :
    ∀ i, i < j + 1 → (cur.setIfInBounds j (F j))[i]? = some (F i) := by
  intro i hi
  simp only [Array.getElem?_setIfInBounds]
  rcases Nat.lt_or_ge i j with hk | hk
  · rw [if_neg (by omega)]
    exact h i hk
  · obtain rfl : i = j := by omega
    rw [if_pos rfl, if_pos hs]

theorem toStringS_c (v : Value) (L : List ByteArray) (w : World) (h : ArgS w v L) (hn : L.length ≤ 1048576) :
    Calls Tryz.prog 47 #[v] w (GivesS w L) := by
  obtain ⟨⟨A, c, rfl, hmax⟩, hS, _⟩ := h
  have hmk := run_make_row' (P := Tryz.prog) 47 9 (.string ByteArray.empty) 16 Tryz.underlying47 Tryz.infoStr rfl .i64 .i64 L.length (by omega) (by omega)
  have hend : ∀ cur w', w'.heap[w.heap.size]? = some (.cells cur 9 (0, 0)) → cur.size = L.length → (∀ i, i < L.length → cur[i]? = some (.string (st L i))) → OwnS w' w.heap.size (.slice (some ⟨w.heap.size, 0, none⟩) L.length L.length) L :=
    fun cur w' h1 h2 h3 => OwnS.mk_ (Nat.le_refl _) h1 (Nat.le_refl _) (by omega) h2 h3
  have HE := Lib.hid hend
  clear hend
  have hsz : (madeCells #[Value.string ByteArray.empty] L.length).size = L.length := by simp [madeCells]
  have hnew := blk_new w (.cells (madeCells #[Value.string ByteArray.empty] L.length) 9)
  have hal := (Grew.refl w).alloc (.cells (madeCells #[Value.string ByteArray.empty] L.length) 9)
  generalize madeCells #[Value.string ByteArray.empty] L.length = cur0 at *
  by_cases hp : 0 < L.length
  · rcases (hS hp).open_ with ⟨_, h2⟩ | ⟨b, o, c', hv, hc, hm, hb, hcell⟩
    · rw [h2] at hp; cases hp
    obtain ⟨rfl, rfl⟩ : A = some ⟨b, o, none⟩ ∧ c = c' := by simpa using hv
    clear hS hv
    have HC := Lib.hid hcell
    clear hcell
    generalize hN : L.length = n at *
    clear hN
    have HNEW := Lib.hid hnew
    clear hnew
    have HAL := Lib.hid hal
    clear hal
    go_enter Tryz.func47, Tryz.ntmps47
    go_wp2_with fail
    go_loopw [4] (fun i wr => ∃ (j : Nat) (cur : Array Value), j ≤ n ∧ i = .int .i64 j ∧ wr.heap[w.heap.size]? = some (.cells cur 9 (0, 0)) ∧ cur.size = n ∧ Grew w wr ∧ (∀ i, i < j → cur[i]? = some (.string (st L i)))) (fun i _ => n - (intOf i).toNat)
    case atStart => exact ⟨0, cur0, Nat.zero_le _, rfl, HNEW.out, hsz, HAL.out, fun i hi => absurd hi (by omega)⟩
    case round =>
      obtain ⟨j, cur, hj, rfl, hh, hcs, hB, hc2⟩ := hrel
      have HD := Lib.hid hc2
      clear hc2
      by_cases hlt : j < n
      · have k1 := HC.out j hlt _ hB
        have HS := Lib.hid (one_step (F := fun i => .string (st L i)) (j := j) (by omega) HD.out)
        have f1 : ∀ i, wr.frozen? ⟨w.heap.size, i, none⟩ = false := fun i => by simp [World.frozen?, hh]
        obtain ⟨u1, hu1⟩ : ∃ u, wr.cell? ⟨w.heap.size, 0 + j, none⟩ = some u := by
          rw [cell_of_row wr w.heap.size _ cur _ (0, 0) hh]
          exact ⟨_, Array.getElem?_eq_getElem (by omega)⟩
        simp only [Nat.zero_add] at hu1
        have HH := Lib.hid hh
        clear hh
        generalize st L j = x at *
        go_wp2_with fail
        go_roundw
        case rel => exact ⟨j + 1, _, by omega, by go_num, blk_set HH.out _ _, by simp [hcs], hB.setCell (Nat.le_refl _) _, HS.out⟩
        case measure => simp [intOf]; omega
      · obtain rfl : j = n := by omega
        have HH := Lib.hid hh
        clear hh
        go_wp2_with fail
        go_ret
        exact ⟨_, rfl, HE.out _ _ HH.out hcs HD.out, hB⟩
  · have hp0 : L.length ≤ 0 := by omega
    have HNEW := Lib.hid hnew
    clear hnew hS hp
    have HAL := Lib.hid hal
    clear hal
    generalize hN : L.length = n at *
    clear hN
    go_enter Tryz.func47, Tryz.ntmps47
    go_wp2_with fail
    refine wp_loop_rounds 1 ?_; rw [rounds_succ]
    go_wp2_with fail
    go_ret
    exact ⟨_, rfl, HE.out _ _ HNEW.out hsz (fun i hi => absurd hi (by omega)), HAL.out⟩

/-- Two lists of strings that are equal. -/
theorem eqStringS_yes (v1 v2 : Value) (L : List ByteArray) (w : World) (h1 : Strs w v1 L) (h2 : Strs w v2 L) (hn : L.length ≤ 1099511627776) :
    Calls Tryz.prog 57 #[v1, v2] w fun e w' => e = .returned (.bool true) ∧ Grew w w' := by
  rcases h1.open_ with ⟨rfl, rfl⟩ | ⟨b1, o1, c1, rfl, hc1, hm1, hb1, hf⟩
  · obtain ⟨A, c, rfl⟩ := strs_slice h2
    go_enter Tryz.func57, Tryz.ntmps57
    go_wp2_with fail
    refine wp_loop_rounds 1 ?_; rw [rounds_succ]
    go_wp2_with fail
    go_ret
    exact ⟨rfl, Grew.refl _⟩
  · rcases h2.open_ with ⟨rfl, rfl⟩ | ⟨b2, o2, c2, rfl, hc2, hm2, hb2, hh⟩
    · go_enter Tryz.func57, Tryz.ntmps57
      go_wp2_with fail
      refine wp_loop_rounds 1 ?_; rw [rounds_succ]
      go_wp2_with fail
      go_ret
      exact ⟨rfl, Grew.refl _⟩
    · clear h1 h2
      have HF := Lib.hid hf
      have HH := Lib.hid hh
      clear hf hh
      generalize hN : L.length = n at *
      clear hN
      go_enter Tryz.func57, Tryz.ntmps57
      go_wp2_with fail
      go_loopw [5] (fun i wr => ∃ j : Nat, j ≤ n ∧ i = .int .i64 j ∧ Grew w wr) (fun i _ => n - (intOf i).toNat)
      case atStart => exact ⟨0, Nat.zero_le _, rfl, Grew.refl _⟩
      case round =>
        obtain ⟨j, hj, rfl, hB⟩ := hrel
        by_cases hlt : j < n
        · have k1 : ∀ W, Grew w W → W.cell? ⟨b1, o1 + j, none⟩ = some (.string (st L j)) := fun W hW => HF.out j hlt W hW
          have k2 : ∀ W, Grew w W → W.cell? ⟨b2, o2 + j, none⟩ = some (.string (st L j)) := fun W hW => HH.out j hlt W hW
          have k3 := k1 _ hB
          have k4 := k2 _ hB
          generalize st L j = x at *
          have hx : (x.toList != x.toList) = false := by simp
          go_wp2_with fail
          go_quiet (fail)
          go_wp2_with fail
          go_roundw
          case rel => exact ⟨j + 1, by omega, by go_num, by first | assumption | exact hB.drewN _⟩
          case measure => simp [intOf]; omega
        · go_wp2_with fail
          go_ret
          exact ⟨rfl, by assumption⟩
end Go.Proofs.YtfpkfgimhanekaaGreatDoor

/- A row that is written: other rows stay, older worlds have not changed. -/
namespace Go.Proofs.YtfpkfgimhanekaaGreatDoor
open Go.RowKit

theorem own_row {w w' : World} {B : Nat} {e : TypeId} {k n : Nat} {v : Value} {xs : List Value} {row : Option Nat} (h : w.ownsRow B e k v n xs) (hg : w.grownBy w' row) (hne : ∀ g, row = some g → v.ownBlock ≠ some g) : w'.ownsRow B e k v n xs := by
  cases row with
  | none => exact own_grew h ⟨hg.os, hg.tape, hg.output, hg.size, fun i hi => hg.block i hi (by simp)⟩
  | some g => exact own_only h (show Only g w w' from hg) (hne g rfl)
theorem grew_row {W w w' : World} {row : Option Nat} (h : Grew W w) (hg : w.grownBy w' row) (hne : ∀ g, row = some g → W.heap.size ≤ g) : Grew W w' := h.grown hg hne
theorem row_of {w w' : World} {v : Value} (h1 : ∀ g, v.ownBlock = some g → Only g w w') (h2 : v.ownBlock = none → Grew w w') : w.grownBy w' v.ownBlock := by
  cases hv : v.ownBlock with
  | none => exact (h2 hv).by_ _
  | some g => exact h1 g hv
end Go.Proofs.YtfpkfgimhanekaaGreatDoor

/- Strings that are not larger than memory. -/
namespace Go.Proofs.YtfpkfgimhanekaaGreatDoor
open Go.RowKit

/-- No text of the list is long. -/
def Fits (L : List ByteArray) : Prop := ∀ i, i < L.length → (st L i).size ≤ 1048576
end Go.Proofs.YtfpkfgimhanekaaGreatDoor

/- Rows of numbers and of strings of the call's own, or empty slices. -/
namespace Go.Proofs.YtfpkfgimhanekaaGreatDoor
open Go.RowKit

/-- A row of numbers of the call's own, or an empty slice. -/
def OwnIe (w : World) (B : Nat) (v : Value) (L : List Int) : Prop := OwnI w B v L ∨ (L = [] ∧ Ints w v [])
def OwnSe (w : World) (B : Nat) (v : Value) (L : List ByteArray) : Prop := OwnS w B v L ∨ (L = [] ∧ Strs w v [])
theorem OwnIe.ints {w : World} {B : Nat} {v : Value} {L : List Int} (h : OwnIe w B v L) : Ints w v L := by
  rcases h with h | ⟨rfl, h⟩
  · exact h.ints
  · exact h
theorem OwnSe.strs {w : World} {B : Nat} {v : Value} {L : List ByteArray} (h : OwnSe w B v L) : Strs w v L := by
  rcases h with h | ⟨rfl, h⟩
  · exact h.strs
  · exact h
theorem OwnIe.grew {w w' : World} {B : Nat} {v : Value} {L : List Int} (h : OwnIe w B v L) (hb : Grew w w') : OwnIe w' B v L := by
  rcases h with h | ⟨e, h⟩
  · exact .inl (h.grew hb)
  · exact .inr ⟨e, h.grew hb⟩
theorem OwnSe.grew {w w' : World} {B : Nat} {v : Value} {L : List ByteArray} (h : OwnSe w B v L) (hb : Grew w w') : OwnSe w' B v L := by
  rcases h with h | ⟨e, h⟩
  · exact .inl (h.grew hb)
  · exact .inr ⟨e, h.grew hb⟩
theorem OwnIe.base {w : World} {B B' : Nat} {v : Value} {L : List Int} (h : OwnIe w B v L) (hb : B' ≤ B) : OwnIe w B' v L := h.imp (fun h => h.base hb) id
theorem OwnSe.base {w : World} {B B' : Nat} {v : Value} {L : List ByteArray} (h : OwnSe w B v L) (hb : B' ≤ B) : OwnSe w B' v L := h.imp (fun h => h.base hb) id
theorem small_fits {L : List ByteArray} (h : Small L L.length) : Fits L := h
end Go.Proofs.YtfpkfgimhanekaaGreatDoor

/- Slices of Deductions in memory. -/
namespace Go.Proofs.YtfpkfgimhanekaaGreatDoor
open Go.RowKit

abbrev Dd := Int × List Int × List ByteArray × ByteArray × Int
/-- The cells of one. -/
def DdCells (w : World) (b o : Nat) (x : Dd) (up ua : Value) : Prop :=
  w.cell? ⟨b, o, none⟩ = some (.int .i64 x.1) ∧ w.cell? ⟨b, o + 1, none⟩ = some up ∧ w.cell? ⟨b, o + 2, none⟩ = some ua ∧ w.cell? ⟨b, o + 3, none⟩ = some (.string x.2.2.2.1) ∧ w.cell? ⟨b, o + 4, none⟩ = some (.int .i64 x.2.2.2.2)
theorem DdCells.grew {w w' : World} {b o : Nat} {x : Dd} {up ua : Value} (h : DdCells w b o x up ua) (hb : b < w.heap.size) (hg : Grew w w') : DdCells w' b o x up ua :=
  ⟨(hg.cell (p := ⟨b, o, none⟩) hb).trans h.1, (hg.cell (p := ⟨b, o + 1, none⟩) hb).trans h.2.1, (hg.cell (p := ⟨b, o + 2, none⟩) hb).trans h.2.2.1, (hg.cell (p := ⟨b, o + 3, none⟩) hb).trans h.2.2.2.1, (hg.cell (p := ⟨b, o + 4, none⟩) hb).trans h.2.2.2.2⟩
/-- The value reads as the list; the inner lists are read by PI and PS. -/
def DdRd (PI : World → Value → List Int → Prop) (PS : World → Value → List ByteArray → Prop) (w : World) (v : Value) (xs : List Dd) : Prop :=
  (v = .slice none 0 0 ∧ xs = []) ∨ ∃ b o c, v = .slice (some ⟨b, o, none⟩) xs.length c ∧ xs.length ≤ c ∧ c ≤ 9223372036854775807 ∧ b < w.heap.size ∧
    ∀ i x, xs[i]? = some x → ∃ up ua, DdCells w b (o + i * 5) x up ua ∧ PI w up x.2.1 ∧ PS w ua x.2.2.1
theorem DdRd.grew {PI : World → Value → List Int → Prop} {PS : World → Value → List ByteArray → Prop} (hI : ∀ w w' v L, Grew w w' → PI w v L → PI w' v L) (hS : ∀ w w' v L, Grew w w' → PS w v L → PS w' v L) {w w' : World} {v : Value} {xs : List Dd} (h : DdRd PI PS w v xs) (hg : Grew w w') : DdRd PI PS w' v xs := by
  rcases h with h | ⟨b, o, c, h1, h2, h3, h4, h5⟩
  · exact .inl h
  · refine .inr ⟨b, o, c, h1, h2, h3, Nat.lt_of_lt_of_le h4 hg.size, fun i x hx => ?_⟩
    obtain ⟨up, ua, k1, k2, k3⟩ := h5 i x hx
    exact ⟨up, ua, k1.grew h4 hg, hI _ _ _ _ hg k2, hS _ _ _ _ hg k3⟩
/-- The value reads as the list. -/
def Dds (w : World) (v : Value) (xs : List Dd) : Prop := DdRd Ints Strs w v xs
theorem Dds.grew {w w' : World} {v : Value} {xs : List Dd} (h : Dds w v xs) (hg : Grew w w') : Dds w' v xs := DdRd.grew (fun _ _ _ _ g k => k.grew g) (fun _ _ _ _ g k => k.grew g) h hg
/-- A list that came in. -/
def ArgDd (w : World) (v : Value) (xs : List Dd) : Prop :=
  (∃ A c, v = .slice A xs.length c ∧ xs.length ≤ 9223372036854775807) ∧ (0 < xs.length → DdRd ArgI ArgS w v xs) ∧ ∀ x ∈ xs, x.2.2.2.1.size ≤ 9223372036854775807
theorem ArgDd.grew {w w' : World} {v : Value} {xs : List Dd} (h : ArgDd w v xs) (hg : Grew w w') : ArgDd w' v xs := ⟨h.1, fun hp => DdRd.grew (fun _ _ _ _ g k => k.grew g) (fun _ _ _ _ g k => k.grew g) (h.2.1 hp) hg, h.2.2⟩
theorem Dds_slice {w : World} {v : Value} {xs : List Dd} (h : Dds w v xs) : ∃ A c, v = .slice A xs.length c := by
  rcases h with ⟨rfl, rfl⟩ | ⟨b, o, c, rfl, _⟩
  · exact ⟨_, _, rfl⟩
  · exact ⟨_, _, rfl⟩
theorem DdRd.open_ {PI : World → Value → List Int → Prop} {PS : World → Value → List ByteArray → Prop} {w : World} {v : Value} {xs : List Dd} (h : DdRd PI PS w v xs) (hp : 0 < xs.length) : ∃ b o c, v = .slice (some ⟨b, o, none⟩) xs.length c ∧ xs.length ≤ c ∧ c ≤ 9223372036854775807 ∧ b < w.heap.size ∧
    ∀ i x, xs[i]? = some x → ∃ up ua, (∀ W, Grew w W → DdCells W b (o + i * 5) x up ua) ∧ PI w up x.2.1 ∧ PS w ua x.2.2.1 := by
  rcases h with ⟨_, h⟩ | ⟨b, o, c, h1, h2, h3, h4, h5⟩
  · rw [h] at hp; cases hp
  · refine ⟨b, o, c, h1, h2, h3, h4, fun i x hx => ?_⟩
    obtain ⟨up, ua, k1, k2, k3⟩ := h5 i x hx
    exact ⟨up, ua, fun W hW => k1.grew h4 hW, k2, k3⟩

/-- The cells of one in a row. -/
def DdRow (cur : Array Value) (k : Nat) (x : Dd) (up ua : Value) : Prop :=
  cur[k]? = some (.int .i64 x.1) ∧ cur[k + 1]? = some up ∧ cur[k + 2]? = some ua ∧ cur[k + 3]? = some (.string x.2.2.2.1) ∧ cur[k + 4]? = some (.int .i64 x.2.2.2.2)
/-- A row of the call's own, with rows of the call's own. -/
def OwnDd (w : World) (B : Nat) (v : Value) (xs : List Dd) : Prop :=
  (v = .slice none 0 0 ∧ xs = []) ∨ ∃ g c cur, v = .slice (some ⟨g, 0, none⟩) xs.length c ∧ B ≤ g ∧ w.heap[g]? = some (.cells cur 52 (0, 0)) ∧ xs.length ≤ c ∧ c ≤ 9223372036854775807 ∧ cur.size = c * 5 ∧
    ∀ i x, xs[i]? = some x → ∃ up ua, DdRow cur (i * 5) x up ua ∧ OwnIe w B up x.2.1 ∧ OwnSe w B ua x.2.2.1
theorem OwnDd.grew {w w' : World} {B : Nat} {v : Value} {xs : List Dd} (h : OwnDd w B v xs) (hg : Grew w w') : OwnDd w' B v xs := by
  rcases h with h | ⟨g, c, cur, h1, h2, h3, h4, h5, h6, h7⟩
  · exact .inl h
  · refine .inr ⟨g, c, cur, h1, h2, (hg.block (blk_lt h3)).trans h3, h4, h5, h6, fun i x hx => ?_⟩
    obtain ⟨up, ua, k1, k2, k3⟩ := h7 i x hx
    exact ⟨up, ua, k1, k2.grew hg, k3.grew hg⟩
theorem OwnDd.base {w : World} {B B' : Nat} {v : Value} {xs : List Dd} (h : OwnDd w B v xs) (hb : B' ≤ B) : OwnDd w B' v xs := by
  rcases h with h | ⟨g, c, cur, h1, h2, h3, h4, h5, h6, h7⟩
  · exact .inl h
  · refine .inr ⟨g, c, cur, h1, Nat.le_trans hb h2, h3, h4, h5, h6, fun i x hx => ?_⟩
    obtain ⟨up, ua, k1, k2, k3⟩ := h7 i x hx
    exact ⟨up, ua, k1, k2.base hb, k3.base hb⟩
theorem DdRow.cells {w : World} {g : Nat} {cur : Array Value} {t : TypeId} {k : Nat} {x : Dd} {up ua : Value} (h : DdRow cur k x up ua) (hg : w.heap[g]? = some (.cells cur t (0, 0))) : DdCells w g k x up ua :=
  ⟨(blk_cell hg _).trans h.1, (blk_cell hg _).trans h.2.1, (blk_cell hg _).trans h.2.2.1, (blk_cell hg _).trans h.2.2.2.1, (blk_cell hg _).trans h.2.2.2.2⟩
theorem OwnDd.rd {w : World} {B : Nat} {v : Value} {xs : List Dd} (h : OwnDd w B v xs) : Dds w v xs := by
  rcases h with h | ⟨g, c, cur, h1, h2, h3, h4, h5, h6, h7⟩
  · exact .inl h
  · refine .inr ⟨g, 0, c, h1, h4, h5, blk_lt h3, fun i x hx => ?_⟩
    obtain ⟨up, ua, k1, k2, k3⟩ := h7 i x hx
    refine ⟨up, ua, ?_, k2.ints, k3.strs⟩
    rw [Nat.zero_add]
    exact k1.cells h3
/-- None is larger than memory. -/
def FitDd (x : Dd) : Prop := x.2.1.length ≤ 1048576 ∧ x.2.2.1.length ≤ 1048576 ∧ Fits x.2.2.1 ∧ x.2.2.2.1.size ≤ 1048576
def FitsDd (xs : List Dd) : Prop := ∀ x ∈ xs, FitDd x
/-- The sizes' walk. -/
def SizesDd (xs : List Dd) (r : Int) : Prop := r ≤ 1048576 ∧ (0 ≤ r → xs.length ≤ 1048576 ∧ FitsDd xs)
theorem infoDd : (Tryz.prog.info? 52).map (fun i => (i.zero, i.size, i.bytes)) = some (some (.agg #[.int .i64 0, .slice none 0 0, .slice none 0 0, .string ByteArray.empty, .int .i64 0]), 5, 80) := by kernel_rfl
end Go.Proofs.YtfpkfgimhanekaaGreatDoor

/- A predicate on strings: IndexFunc, ContainsFunc. -/
namespace Go.Proofs.YtfpkfgimhanekaaGreatDoor
open Go.RowKit

/-- None of the first k strings meets the predicate. -/
def NoneS (p : ByteArray → Bool) (L : List ByteArray) (k : Nat) : Prop := ∀ i, i < k → p (st L i) = false
theorem NoneS.zero (p : ByteArray → Bool) (L : List ByteArray) : NoneS p L 0 := fun i hi => absurd hi (by omega)
theorem NoneS.succ {p : ByteArray → Bool} {L : List ByteArray} {k : Nat} (h : NoneS p L k) (h1 : p (st L k) = false) : NoneS p L (k + 1) := by
  intro i hi
  rcases Nat.lt_or_ge i k with hk | hk
  · exact h i hk
  · obtain rfl : i = k := by omega
    exact h1
theorem noneS_any {p : ByteArray → Bool} {L : List ByteArray} (h : NoneS p L L.length) : L.any p = false := by
  rw [List.any_eq_false]
  intro x hx
  obtain ⟨i, hi, rfl⟩ := List.getElem_of_mem hx
  rw [st_get hi, h i hi]
  simp
theorem anyS_at {p : ByteArray → Bool} {L : List ByteArray} {k : Nat} (hk : k < L.length) (h : p (st L k) = true) : L.any p = true := by
  rw [List.any_eq_true]
  exact ⟨L[k], List.getElem_mem hk, by rw [st_get hk]; exact h⟩

/-- What the function value gives at a string. -/
def PredS (f : Nat) (p : ByteArray → Bool) : Prop := ∀ s W, s.size ≤ 140737488355328 → Calls Tryz.prog f #[.string s] W fun e W' => e = .returned (.bool (p s)) ∧ Grew W W'

theorem indexFuncS_c (v : Value) (L : List ByteArray) (f : Nat) (p : ByteArray → Bool) (w : World) (h : Strs w v L) (hfit : Fits L) (hf : PredS f p) (eg : ∀ args w, (callFunc f args).run Tryz.prog w = .ok (.enter f args) w) :
    Calls Tryz.prog 126 #[v, .func (.func f) #[] #[]] w fun e w' => ∃ r : Int, e = .returned (.int .i64 r) ∧ Grew w w' ∧ decide (0 ≤ r) = L.any p := by
  rcases h.open_ with ⟨rfl, rfl⟩ | ⟨b, o, c, rfl, hc, hm, hb, hcell⟩
  · rw [noneS_any (NoneS.zero _ _)]
    clear h hf hfit
    go_enter Tryz.func126, Tryz.ntmps126
    go_wp2_with fail
    refine wp_loop_rounds 1 ?_; rw [rounds_succ]
    go_wp2_with fail
    go_ret
    exact ⟨_, rfl, Grew.refl _, rfl⟩
  obtain ⟨R, hR⟩ : ∃ R, R = L.any p := ⟨_, rfl⟩
  rw [← hR]
  have HA := Lib.hid (fun k hk h => hR.trans (@anyS_at p L k hk h))
  have HZ := Lib.hid (fun h => hR.trans (@noneS_any p L h))
  have HC := Lib.hid hcell
  have HF := Lib.hid hf
  unfold Fits at hfit
  have HT := Lib.hid hfit
  clear hcell h hf hR hfit
  generalize hN : L.length = n at *
  clear hN
  go_enter Tryz.func126, Tryz.ntmps126
  go_wp2_with fail
  go_loopw [5, 8] (fun _ i wr => ∃ j : Nat, j ≤ n ∧ i = .int .i64 j ∧ Grew w wr ∧ Hid (NoneS p L j)) (fun _ i _ => n - (intOf i).toNat)
  case atStart => exact ⟨0, Nat.zero_le _, rfl, Grew.refl _, NoneS.zero _ _⟩
  case round =>
    obtain ⟨j, hj, rfl, hB, HJ⟩ := hrel
    by_cases hlt : j < n
    · have k1 := HC.out j hlt _ hB
      have hz := HT.out j hlt
      have hA := Lib.hid (HA.out j hlt)
      have hS := Lib.hid (fun h => HJ.out.succ (k := j) h)
      generalize st L j = x at *
      go_wp2_with fail
      go_at_fn f
      refine (HF.out x _ (by omega)).mono ?_
      rintro e w1 ⟨rfl, hg1⟩
      have hB1 := hB.trans hg1
      cases hp : p x with
      | true =>
        have hv := hA.out hp
        go_wp2_with fail
        go_ret
        exact ⟨_, rfl, hB1, by rw [hv]; simp⟩
      | false =>
        have hs := Lib.hid (hS.out hp)
        go_wp2_with fail
        go_roundw
        case rel => exact ⟨j + 1, by omega, by go_num, hB1, hs⟩
        case measure => simp [intOf]; omega
    · obtain rfl : j = n := by omega
      have hv := Lib.hid (HZ.out HJ.out)
      go_wp2_with fail
      go_ret
      exact ⟨_, rfl, hB, by rw [hv.out]; rfl⟩

theorem containsFuncS_c (v : Value) (L : List ByteArray) (f : Nat) (p : ByteArray → Bool) (w : World) (h : Strs w v L) (hfit : Fits L) (hf : PredS f p) (eg : ∀ args w, (callFunc f args).run Tryz.prog w = .ok (.enter f args) w) :
    Calls Tryz.prog 103 #[v, .func (.func f) #[] #[]] w fun e w' => e = .returned (.bool (L.any p)) ∧ Grew w w' := by
  have HI := Lib.hid (indexFuncS_c v L f p w h hfit hf eg)
  clear h hf eg hfit
  generalize L.any p = R at *
  go_enter Tryz.func103, Tryz.ntmps103
  go_wp2_with fail
  refine HI.out.mono ?_
  rintro e w1 ⟨r, rfl, hg1, hr⟩
  go_wp2_with fail
  go_ret
  exact ⟨by rw [← hr]; rfl, hg1⟩
end Go.Proofs.YtfpkfgimhanekaaGreatDoor

/- A predicate on strings: IndexFunc, ContainsFunc; assumption lists: isAssumptionList of the program, l25List of the reference. -/
namespace Go.Proofs.YtfpkfgimhanekaaGreatDoor
open Go.RowKit

/-- Is it an assumption list? -/
noncomputable def asl (L : List ByteArray) : Bool := decide (L.length ≤ 12) && !L.any fun s => !gp s
theorem asl_map {L : List ByteArray} (h : asl L = true) : L.length ≤ 12 ∧ ∀ s ∈ L, gp s = true := by
  unfold asl at h
  simp only [Bool.and_eq_true, decide_eq_true_eq, Bool.not_eq_true', List.any_eq_false] at h
  exact ⟨h.1, fun s hs => by simpa using h.2 s hs⟩

theorem isAssumptionList1_ok : PredS 104 (fun s => !gp s) := by
  intro s w hs
  have HP := Lib.hid (fun w => isPlainText_c s w hs)
  show Calls _ _ _ _ (fun e W' => e = .returned (.bool (!gp s)) ∧ Grew w W')
  generalize gp s = q at *
  go_enter Tryz.func104, Tryz.ntmps104
  go_wp2_with fail
  refine (HP.out _).mono ?_
  rintro e w1 ⟨rfl, hg1⟩
  go_wp2_with fail
  go_ret
  exact ⟨rfl, hg1⟩

theorem isAssumptionList_c (v : Value) (L : List ByteArray) (w : World) (h : Strs w v L) (hfit : Fits L) :
    Calls Tryz.prog 83 #[v] w fun e w' => e = .returned (.bool (asl L)) ∧ Grew w w' := by
  unfold asl
  have HC := Lib.hid (fun w h => containsFuncS_c v L _ _ w h hfit isAssumptionList1_ok (enters_of Tryz.func104 (by kernel_rfl) rfl))
  obtain ⟨A, c, rfl⟩ := strs_slice h
  have HN := Lib.hid h
  clear h hfit
  by_cases hl : L.length ≤ 12
  · rw [decide_eq_true hl, Bool.true_and]
    generalize (L.any fun s => !gp s) = q at *
    generalize L.length = n at *
    go_enter Tryz.func83, Tryz.ntmps83
    go_wp2_with fail
    refine (HC.out _ HN.out).mono ?_
    rintro e w1 ⟨rfl, hg1⟩
    go_wp2_with fail
    go_ret
    exact ⟨rfl, hg1⟩
  · rw [decide_eq_false hl, Bool.false_and]
    clear HC HN
    generalize L.length = n at *
    go_enter Tryz.func83, Tryz.ntmps83
    go_wp2_with fail
    go_ret
    exact ⟨rfl, Grew.refl _⟩

theorem l25List_c (v : Value) (L : List ByteArray) (w : World) (h : Strs w v L) (hfit : Fits L) :
    Calls Tryz.prog 80 #[v] w fun e w' => e = .returned (.bool (asl L)) ∧ Grew w w' := by
  unfold asl
  rcases h.open_ with ⟨rfl, rfl⟩ | ⟨b, o, c, rfl, hc, hm, hb, hcell⟩
  · clear h hfit
    go_enter Tryz.func80, Tryz.ntmps80
    go_wp2_with fail
    refine wp_loop_rounds 1 ?_; rw [rounds_succ]
    go_wp2_with fail
    go_ret
    exact ⟨rfl, Grew.refl _⟩
  by_cases hl : L.length ≤ 12
  · rw [decide_eq_true hl, Bool.true_and]
    obtain ⟨R, hR⟩ : ∃ R, R = (L.any fun s => !gp s) := ⟨_, rfl⟩
    rw [← hR]
    have HA := Lib.hid (fun k hk h => hR.trans (@anyS_at (fun s => !gp s) L k hk h))
    have HZ := Lib.hid (fun h => hR.trans (@noneS_any (fun s => !gp s) L h))
    have HC := Lib.hid hcell
    unfold Fits at hfit
    have HT := Lib.hid hfit
    clear hcell h hR hfit
    generalize hN : L.length = n at *
    clear hN
    go_enter Tryz.func80, Tryz.ntmps80
    go_wp2_with fail
    go_loopw [3] (fun i wr => ∃ j : Nat, j ≤ n ∧ i = .int .i64 j ∧ Grew w wr ∧ Hid (NoneS (fun s => !gp s) L j)) (fun i _ => n - (intOf i).toNat)
    case atStart => exact ⟨0, Nat.zero_le _, rfl, Grew.refl _, NoneS.zero _ _⟩
    case round =>
      obtain ⟨j, hj, rfl, hB, HJ⟩ := hrel
      by_cases hlt : j < n
      · have k1 := HC.out j hlt _ hB
        have hz := HT.out j hlt
        have hA := Lib.hid (HA.out j hlt)
        have hS := Lib.hid (fun h => HJ.out.succ (k := j) h)
        have HF := Lib.hid (fun w => l25Formula_c (st L j) w (by omega))
        unfold GivesP at HF
        generalize st L j = x at *
        generalize (Fm.pf x).1 = xs at *
        cases hp : gp x with
        | true =>
          rw [hp] at HF
          have hs := Lib.hid (hS.out (by simp [hp]))
          clear hp
          go_wp2_with fail
          refine (HF.out _).mono ?_
          rintro e w1 ⟨u, rfl, ho1, hg1⟩
          have hB1 := hB.trans hg1
          go_wp2_with fail
          go_roundw
          case rel => exact ⟨j + 1, by omega, by go_num, hB1, hs⟩
          case measure => simp [intOf]; omega
        | false =>
          rw [hp] at HF
          have hv := Lib.hid (hA.out (by simp [hp]))
          clear hp
          go_wp2_with fail
          refine (HF.out _).mono ?_
          rintro e w1 ⟨u, rfl, ho1, hg1⟩
          have hB1 := hB.trans hg1
          go_wp2_with fail
          go_ret
          exact ⟨by rw [hv.out]; rfl, hB1⟩
      · obtain rfl : j = n := by omega
        have hv := Lib.hid (HZ.out HJ.out)
        go_wp2_with fail
        go_ret
        exact ⟨by rw [hv.out]; rfl, hB⟩
  · rw [decide_eq_false hl, Bool.false_and]
    clear hcell h hfit
    generalize L.length = n at *
    go_enter Tryz.func80, Tryz.ntmps80
    go_wp2_with fail
    go_ret
    exact ⟨rfl, Grew.refl _⟩
end Go.Proofs.YtfpkfgimhanekaaGreatDoor

/- When a step of a deduction is correct. No program is in sight. -/
namespace Go.Proofs.YtfpkfgimhanekaaGreatDoor
open Go.RowKit

/-- What a step concludes: the assumptions, the conclusion. -/
abbrev Jg := List ByteArray × ByteArray
def jd (x : Dd) : Jg := (x.2.2.1, x.2.2.2.1)
/-- The parts of a formula with two parts. -/
def lft : Fm.Tree → Fm.Tree
  | .and p _ => p
  | .or p _ => p
  | .imp p _ => p
  | t => t
def rgt : Fm.Tree → Fm.Tree
  | .and _ q => q
  | .or _ q => q
  | .imp _ q => q
  | t => t
/-- The kind of the formula of a text, the texts of its parts. -/
noncomputable def kT (s : ByteArray) : Int := kindOf (fo s)
noncomputable def pl (s : ByteArray) : ByteArray := tx (lft (fo s))
noncomputable def pr (s : ByteArray) : ByteArray := tx (rgt (fo s))
def txF : ByteArray := ⟨#[70]⟩

/-- A rule that puts formulas together. -/
def introP (x : Dd) (J : List Jg) : Prop :=
  (x.1 = 1 ∧ (0 ≤ x.2.2.2.2 ∧ x.2.2.2.2 ≤ (x.2.2.1.length : Int) - 1) ∧ st x.2.2.1 x.2.2.2.2.toNat = x.2.2.2.1 ∧ J = []) ∨
  (x.1 = 2 ∧ J = [(x.2.2.1, txF)]) ∨
  (x.1 = 3 ∧ kT x.2.2.2.1 = 2 ∧ J = [(x.2.2.1, pl x.2.2.2.1), (x.2.2.1, pr x.2.2.2.1)]) ∨
  (x.1 = 6 ∧ kT x.2.2.2.1 = 3 ∧ J = [(x.2.2.1, pl x.2.2.2.1)]) ∨
  (x.1 = 7 ∧ kT x.2.2.2.1 = 3 ∧ J = [(x.2.2.1, pr x.2.2.2.1)]) ∨
  (x.1 = 9 ∧ kT x.2.2.2.1 = 4 ∧ J = [(x.2.2.1 ++ [pl x.2.2.2.1], pr x.2.2.2.1)])
/-- A rule that takes formulas apart. -/
def elimP (x : Dd) (J : List Jg) : Prop :=
  (x.1 = 4 ∧ ∃ D, J = [(x.2.2.1, D)] ∧ kT D = 2 ∧ pl D = x.2.2.2.1) ∨
  (x.1 = 5 ∧ ∃ D, J = [(x.2.2.1, D)] ∧ kT D = 2 ∧ pr D = x.2.2.2.1) ∨
  (x.1 = 8 ∧ ∃ D, kT D = 3 ∧ J = [(x.2.2.1, D), (x.2.2.1 ++ [pl D], x.2.2.2.1), (x.2.2.1 ++ [pr D], x.2.2.2.1)]) ∨
  (x.1 = 10 ∧ ∃ D, kT D = 4 ∧ pr D = x.2.2.2.1 ∧ J = [(x.2.2.1, D), (x.2.2.1, pl D)])
/-- What the premises conclude. -/
def given (bef : List Dd) (P : List Int) : List Jg := P.map fun k => jd (bef.getD k.toNat (0, [], [], ByteArray.empty, 0))
/-- A correct step behind others. -/
def goodP (bef : List Dd) (x : Dd) : Prop :=
  (asl x.2.2.1 = true ∧ gp x.2.2.2.1 = true ∧ (x.1 = 1 ∨ x.2.2.2.2 = 0)) ∧ (∀ k ∈ x.2.1, 0 ≤ k ∧ k ≤ (bef.length : Int) - 1) ∧ (introP x (given bef x.2.1) ∨ elimP x (given bef x.2.1))
noncomputable def dcd (p : Prop) : Bool := @decide p (Classical.propDecidable _)
theorem dcd_true {p : Prop} (h : p) : dcd p = true := @decide_eq_true _ (Classical.propDecidable _) h
theorem dcd_false {p : Prop} (h : ¬ p) : dcd p = false := @decide_eq_false _ (Classical.propDecidable _) h
theorem of_dcd {p : Prop} (h : dcd p = true) : p := @of_decide_eq_true _ (Classical.propDecidable _) h
theorem not_dcd {p : Prop} (h : dcd p = false) : ¬ p := @of_decide_eq_false _ (Classical.propDecidable _) h
theorem dcd_congr {p q : Prop} (h : p ↔ q) : dcd p = dcd q := by rw [propext h]
/-- The first of the first n steps that is not correct, or -1. -/
noncomputable def fbd (xs : List Dd) : Nat → Int
  | 0 => -1
  | n + 1 => if 0 ≤ fbd xs n then fbd xs n else if dcd (∃ x, xs[n]? = some x ∧ goodP (xs.take n) x) then -1 else n
theorem fbd_bad {xs : List Dd} {n m : Nat} (h : fbd xs n = -1) (hb : ¬ ∃ x, xs[n]? = some x ∧ goodP (xs.take n) x) (hm : n < m) : fbd xs m = n := by
  induction m with
  | zero => omega
  | succ m ih =>
    rw [fbd]
    rcases Nat.lt_or_ge n m with hk | hk
    · rw [ih hk, if_pos (by omega)]
    · obtain rfl : n = m := by omega
      rw [h, if_neg (by omega), dcd_false hb]; rfl
theorem fbd_good {xs : List Dd} {n : Nat} {x : Dd} (h : fbd xs n = -1) (hx : xs[n]? = some x) (hg : goodP (xs.take n) x) : fbd xs (n + 1) = -1 := by
  rw [fbd, h, if_neg (by omega), dcd_true ⟨x, hx, hg⟩]; rfl
theorem fbd_all {xs : List Dd} {n : Nat} (h : fbd xs n = -1) : ∀ i, i < n → ∃ x, xs[i]? = some x ∧ goodP (xs.take i) x := by
  induction n with
  | zero => intro i hi; omega
  | succ n ih =>
    intro i hi
    rw [fbd] at h
    split at h
    · omega
    · have h0 : fbd xs n = -1 := by
        rename_i h1
        have : ∀ m, fbd xs m = -1 ∨ 0 ≤ fbd xs m := by
          intro m
          induction m with
          | zero => exact .inl rfl
          | succ m ihm =>
            rw [fbd]
            split
            · exact .inr ‹_›
            · split
              · exact .inl rfl
              · exact .inr (by omega)
        exact (this n).resolve_right h1
      split at h
      · rename_i h2
        rcases Nat.lt_or_ge i n with hk | hk
        · exact ih h0 i hk
        · obtain rfl : i = n := by omega
          exact of_dcd h2
      · omega
/-- The first steps conclude formulas. -/
theorem fbd_plain {xs : List Dd} {n : Nat} (h : fbd xs n = -1) : ∀ y ∈ xs.take n, gp y.2.2.2.1 = true := by
  intro y hy
  obtain ⟨i, hi, rfl⟩ := List.getElem_of_mem hy
  have hi2 : i < n := by simp at hi; omega
  obtain ⟨x, hx, hg⟩ := fbd_all h i hi2
  have : (xs.take n)[i] = x := by
    rw [List.getElem_take]
    exact (List.getElem?_eq_some_iff.1 hx).2
  rw [this]
  exact hg.1.2.1
end Go.Proofs.YtfpkfgimhanekaaGreatDoor

/- The parts of a formula by their texts: l25Parts of the reference. -/
namespace Go.Proofs.YtfpkfgimhanekaaGreatDoor
open Go.RowKit

theorem l25Parts_yes (k : Int) (A p q : Fm.Tree) (w : World) (hA : FmOk A) (hk : kindOf A = k) (h2 : TwoF A p q) :
    Calls Tryz.prog 101 #[.string (tx A), .int .i64 k] w fun e w' => e = .returned (.tuple #[.string (tx p), .string (tx q), .bool true]) ∧ Grew w w' := by
  have KA := fun w => l25Formula_c (tx A) w (by have := tx_size hA.1; omega)
  unfold GivesP at KA
  rw [gp_tx hA, tx_pf hA.1] at KA
  replace KA := Lib.hid KA
  have hl := h2.len
  have hA1 := hA.1
  have KL := Lib.hid (fun v w h => l02Left_c v (Fm.enc A) p w h (by omega) (at_first h2))
  have KR := Lib.hid (fun v w h => l02Right_c v (Fm.enc A) p q w h (by omega) (at_first h2) (at_second h2) hl)
  have KP := Lib.hid (fun v w h => l02Text_c p v w h (by omega))
  have KQ := Lib.hid (fun v w h => l02Text_c q v w h (by omega))
  have e1 : bs (Fm.txt p 0) = tx p := rfl
  have e2 : bs (Fm.txt q 0) = tx q := rfl
  unfold Says at KP KQ
  rw [e1] at KP
  rw [e2] at KQ
  clear e1 e2 hl
  go_enter Tryz.func101, Tryz.ntmps101
  go_wp2_with fail
  refine (KA.out _).mono ?_
  rintro e w1 ⟨v1, rfl, ho1, hg1⟩
  have HA1 := Lib.hid ho1.nodes
  obtain ⟨b1, o1, c1, rfl, hc1, hm1, k1⟩ := nodes_head ho1.nodes
  rw [hk] at k1
  clear ho1
  have r1 := Grew.refl w1
  have d1 := r1.drew
  have hpos := Fm.enc_pos A
  go_wp2_with fail
  refine (KL.out _ _ HA1.out).mono ?_
  rintro e w2 ⟨v2, rfl, hn2, hg2⟩
  have H2 := Lib.hid hn2
  obtain ⟨A2, c2, rfl⟩ := nodes_slice hn2
  clear hn2
  go_wp2_with fail
  refine (KP.out _ _ H2.out).mono ?_
  rintro e w3 ⟨rfl, hg3⟩
  have g13 := hg2.trans hg3
  go_wp2_with fail
  refine (KR.out _ _ (HA1.out.grew g13)).mono ?_
  rintro e w4 ⟨v4, rfl, hn4, hg4⟩
  have H4 := Lib.hid hn4
  obtain ⟨A4, c4, rfl⟩ := nodes_slice hn4
  clear hn4
  go_wp2_with fail
  refine (KQ.out _ _ H4.out).mono ?_
  rintro e w5 ⟨rfl, hg5⟩
  go_wp2_with fail
  go_ret3
  exact ⟨rfl, ((hg1.trans g13).trans hg4).trans hg5⟩

theorem l25Parts_no (k : Int) (A : Fm.Tree) (w : World) (hA : FmOk A) (hk : kindOf A ≠ k) :
    Calls Tryz.prog 101 #[.string (tx A), .int .i64 k] w fun e w' => e = .returned (.tuple #[.string ByteArray.empty, .string ByteArray.empty, .bool false]) ∧ Grew w w' := by
  have KA := fun w => l25Formula_c (tx A) w (by have := tx_size hA.1; omega)
  unfold GivesP at KA
  rw [gp_tx hA, tx_pf hA.1] at KA
  replace KA := Lib.hid KA
  have hA1 := hA.1
  have hkk : (kindOf A != k) = true := by simpa using hk
  go_enter Tryz.func101, Tryz.ntmps101
  go_wp2_with fail
  refine (KA.out _).mono ?_
  rintro e w1 ⟨v1, rfl, ho1, hg1⟩
  have HA1 := Lib.hid ho1.nodes
  obtain ⟨b1, o1, c1, rfl, hc1, hm1, k1⟩ := nodes_head ho1.nodes
  clear ho1
  have r1 := Grew.refl w1
  have d1 := r1.drew
  have hpos := Fm.enc_pos A
  generalize kindOf A = kk at *
  go_wp2_with fail
  go_ret3
  exact ⟨rfl, hg1⟩
end Go.Proofs.YtfpkfgimhanekaaGreatDoor

/- The parts of a formula by their texts: parts, partTexts, partsWith of the program. -/
namespace Go.Proofs.YtfpkfgimhanekaaGreatDoor
open Go.RowKit

/-- What partsWith gives. -/
theorem partsWith_two (k : Int) (A p q : Fm.Tree) (w : World) (hA : FmOk A) (h2 : TwoF A p q) (hk : kindOf A = 2 ∨ kindOf A = 3 ∨ kindOf A = 4) :
    Calls Tryz.prog 106 #[.string (tx A), .int .i64 k] w fun e w' => ∃ v, e = .returned (.tuple #[v, .bool (kindOf A == k)]) ∧ OwnS w' w.heap.size v [tx p, tx q] ∧ Grew w w' := by
  have hA1 := hA.1
  have KA := fun w => parsed_c (tx A) w (by have := tx_size hA1; omega)
  rw [tx_pf hA1] at KA
  replace KA := Lib.hid KA
  have KP := Lib.hid (fun v w h => partTexts_two v A p q w h hA1 h2 hk)
  have hpos := Fm.enc_pos A
  clear h2 hk
  go_enter Tryz.func106, Tryz.ntmps106
  go_wp2_with fail
  refine (KA.out _).mono ?_
  rintro e w1 ⟨v1, rfl, ho1, hg1, _⟩
  have HA1 := Lib.hid ho1.nodes
  obtain ⟨b1, o1, c1, rfl, hc1, hm1, k1⟩ := nodes_head ho1.nodes
  clear ho1
  have r1 := Grew.refl w1
  have d1 := r1.drew
  have hz : 0 < (Fm.enc A).length := by omega
  have hz2 : (0 : Int) < ((Fm.enc A).length : Int) := by omega
  have HA2 := Lib.hid (HA1.out.grew d1)
  go_wp2_with fail
  go_region_held3 (fun w' => Grew w1 w') (with_reducible assumption)
    (first | (go_at_call 127; refine (KP.out _ _ HA2.out).mono ?_; rintro e w2 ⟨v2, rfl, ho2, hg2⟩; have hk2 := d1.trans hg2))
  go_wp2_with fail
  go_ret2
  exact ⟨_, rfl, ho2.base (hg1.trans d1).size, hg1.trans hk2⟩
theorem partsWith_none (k : Int) (A : Fm.Tree) (w : World) (hA : FmOk A) (hk : kindOf A = 0 ∨ kindOf A = 1) :
    Calls Tryz.prog 106 #[.string (tx A), .int .i64 k] w fun e w' => e = .returned (.tuple #[.slice none 0 0, .bool (kindOf A == k)]) ∧ Grew w w' := by
  have hA1 := hA.1
  have KA := fun w => parsed_c (tx A) w (by have := tx_size hA1; omega)
  rw [tx_pf hA1] at KA
  replace KA := Lib.hid KA
  have KP := Lib.hid (fun v w h => partTexts_none v A w h hk)
  have hpos := Fm.enc_pos A
  clear hk
  go_enter Tryz.func106, Tryz.ntmps106
  go_wp2_with fail
  refine (KA.out _).mono ?_
  rintro e w1 ⟨v1, rfl, ho1, hg1, _⟩
  have HA1 := Lib.hid ho1.nodes
  obtain ⟨b1, o1, c1, rfl, hc1, hm1, k1⟩ := nodes_head ho1.nodes
  clear ho1
  have r1 := Grew.refl w1
  have d1 := r1.drew
  have hz : 0 < (Fm.enc A).length := by omega
  have hz2 : (0 : Int) < ((Fm.enc A).length : Int) := by omega
  have HA2 := Lib.hid (HA1.out.grew d1)
  go_wp2_with fail
  go_region_held3 (fun w' => Grew w1 w') (with_reducible assumption)
    (first | (go_at_call 127; refine (KP.out _ _ HA2.out).mono ?_; rintro e w2 ⟨rfl, hg2⟩; have hk2 := d1.trans hg2))
  go_wp2_with fail
  go_ret2
  exact ⟨rfl, hg1.trans hk2⟩
end Go.Proofs.YtfpkfgimhanekaaGreatDoor

/- Assumption lists with one more: slices.Clip and behind of the program, l11Copy and l25With of the reference. -/
namespace Go.Proofs.YtfpkfgimhanekaaGreatDoor
open Go.RowKit

/-- 'out = append(out, list...)', out a row of strings of the call's own. -/
theorem wpList_appStrs {ops : Array Oper} {rest : List Oper} {o : Oper} {a : Act} {Q : Exit → Act → World → Prop} {w w0 : World} (s x : Operand) (hgd : o.guard = none)
    (ho : o.op = .call { callee := .builtin .append, args := #[s, x], argTypes := #[47, 47] })
    (v : Value) (L : List ByteArray) (hs : a.eval s = v) (hown : OwnS w w0.heap.size v L) (hg : Grew w0 w) (vx : Value) (M : List ByteArray) (hx : a.eval x = vx) (hr : Strs w vx M) (hn : L.length + M.length ≤ 1048576)
    (h : ∀ v' w', OwnS w' w0.heap.size v' (L ++ M) → Grew w0 w' → w.grownBy w' v.ownBlock → wpList Tryz.prog ops Q rest (a.put o.dst v') w') : wpList Tryz.prog ops Q (o :: rest) a w := by
  obtain ⟨i0, hi0, hz0, hz1, hz2⟩ := info_parts Tryz.infoStr
  refine wpList_append_rd w hgd s x _ ho w0.heap.size 9 i0 _ 1 16 Tryz.underlying47 hi0 hz0 hz1 hz2 rfl (by omega) v L.length (scells L) hs hown vx M.length (scells M) hx hr (scells_one M) (by unfold maxLen; omega) (by omega) hg.size ?_
  intro v' w' h1 h2 h3
  refine h v' w' ?_ (hg.grown h2 fun k hk => (hown.lt k hk).1) h2
  unfold OwnS
  rw [List.length_append, scells_append]
  exact h1
theorem own_emptyS (w : World) : OwnS (w.alloc (.cells #[] 9)) w.heap.size (.slice (some ⟨w.heap.size, 0, none⟩) 0 0) [] :=
  World.ownsRow_lit (e := 9) (size := 1) w #[] 0 (Nat.le_refl _) (by omega) rfl

theorem l11Copy_c (v : Value) (L : List ByteArray) (w : World) (h : Strs w v L) (hn : L.length ≤ 1000) :
    Calls Tryz.prog 125 #[v] w (GivesS w L) := by
  have he := own_emptyS w
  have hg0 := (Grew.refl w).alloc (.cells #[] 9)
  have HV := Lib.hid (h.grew hg0)
  obtain ⟨A, c, rfl⟩ := strs_slice h
  clear h
  go_enter Tryz.func125, Tryz.ntmps125
  go_wp2_with (first | (at_builtin; refine wpList_appStrs (w0 := w) _ _ rfl rfl _ [] rfl he hg0 _ L rfl HV.out (by simp; omega) ?_; intro v1 w1 hown1 hg1 hgr1))
  go_ret
  exact ⟨_, rfl, by simpa using hown1, hg1⟩

theorem l25With_c (v u : Value) (L M : List ByteArray) (w : World) (h : Strs w v L) (hu : Strs w u M) (hn : L.length ≤ 1000) (hm : M.length ≤ 1000) :
    Calls Tryz.prog 102 #[v, u] w (GivesS w (L ++ M)) := by
  have KC := Lib.hid (fun W (hW : Grew w W) => l11Copy_c v L W (h.grew hW) hn)
  have HU := Lib.hid hu
  obtain ⟨A, c, rfl⟩ := strs_slice h
  obtain ⟨A2, c2, rfl⟩ := strs_slice hu
  clear h hu
  go_enter Tryz.func102, Tryz.ntmps102
  go_wp2_with fail
  refine (KC.out _ (Grew.refl w)).mono ?_
  rintro e w1 ⟨v1, rfl, ho1, hg1⟩
  have HU1 := Lib.hid (HU.out.grew hg1)
  go_wp2_with (first | (at_builtin; refine wpList_appStrs (w0 := w) _ _ rfl rfl _ L rfl ho1 hg1 _ M rfl HU1.out (by omega) ?_; intro v2 w2 hown2 hg2 hgr2))
  go_ret
  exact ⟨_, rfl, hown2, hg2⟩

theorem clip_c (A : Option Addr) (n c : Nat) (w : World) (hc : n ≤ c) (_hm : c ≤ 9223372036854775807) :
    Calls Tryz.prog 128 #[.slice A n c] w fun e w' => e = .returned (.slice A n n) ∧ Grew w w' := by
  have h0 : (0 : Int) ≤ (n : Int) := by omega
  have h1 : (n : Int) ≤ (c : Int) := by omega
  go_enter Tryz.func128, Tryz.ntmps128
  go_wp2_with fail
  go_ret
  exact ⟨rfl, Grew.refl _⟩

theorem behind_c (v : Value) (L : List ByteArray) (s : ByteArray) (w : World) (h : Strs w v L) (hn : L.length ≤ 1000) :
    Calls Tryz.prog 107 #[v, .string s] w (GivesS w (L ++ [s])) := by
  obtain ⟨i0, hi0, hz0, hz1, hz2⟩ := info_parts Tryz.infoStr
  have HI := Lib.hid (⟨hi0, hz0, hz1, hz2⟩ : _ ∧ _ ∧ _ ∧ _)
  clear hi0 hz0 hz1 hz2
  have hlit := fun w => rd_lit w (.string s) 9
  rcases h.open_ with ⟨rfl, rfl⟩ | ⟨b, o, c, rfl, hc, hm, hb, hf⟩
  · have KC := Lib.hid (fun w => clip_c none 0 0 w (by omega) (by omega))
    clear h
    have hnil := OwnS.nil_ w w.heap.size
    go_enter Tryz.func107, Tryz.ntmps107
    go_wp2_with fail
    refine (KC.out _).mono ?_
    rintro e w1 ⟨rfl, hg1⟩
    have ho1 := hnil.grew (hg1.trans ((Grew.refl w1).alloc (.cells #[.string s] 9)))
    go_wp2_with (first | (at_builtin; refine wpList_appStr (w0 := w) _ _ rfl rfl _ [] rfl ho1 (hg1.alloc _) _ s rfl (rd_lit _ _ _) (by simp) ?_; intro v2 w2 hown2 hg2 hgr2))
    go_ret
    exact ⟨_, rfl, hown2, hg2⟩
  · have KC := Lib.hid (fun w => clip_c (some ⟨b, o, none⟩) L.length c w hc hm)
    have HF := Lib.hid hf
    clear h hf
    go_enter Tryz.func107, Tryz.ntmps107
    go_wp2_with fail
    refine (KC.out _).mono ?_
    rintro e w1 ⟨rfl, hg1⟩
    have hga := hg1.alloc (.cells #[.string s] 9)
    have hlen : (scells L).length = L.length := by simp [scells]
    go_wp2_with (first | (at_builtin; refine wpList_append_grows _ rfl _ _ _ rfl 9 i0 _ 1 16 Tryz.underlying47 HI.out.1 HI.out.2.1 HI.out.2.2.1 HI.out.2.2.2 rfl (by omega) (some ⟨b, o, none⟩) L.length L.length (scells L) rfl (by intro h; cases h) (by omega) ?_ ⟨w1.heap.size, 0, none⟩ 1 1 [.string s] rfl rfl ?_ (by simp [Value.oneCell']) (by omega) (by unfold maxLen; omega) (by omega) ?_))
    · intro bb hbb j u hj
      cases hbb
      have hjl : j < L.length := by
        have := (List.getElem?_eq_some_iff.1 hj).1
        omega
      rw [scells_at hjl] at hj
      cases hj
      rw [Addr.add_lit]
      exact HF.out j hjl _ hga
    · intro j u hj
      have hj0 : j = 0 := by
        have := (List.getElem?_eq_some_iff.1 hj).1
        simp at this
        omega
      subst hj0
      simp at hj
      subst hj
      rw [Addr.add_lit]
      simp
    · intro v2 w2 hown2 hgr2
      have hg2 : Grew (w1.alloc (.cells #[.string s] 9)) w2 := ⟨hgr2.os, hgr2.tape, hgr2.output, hgr2.size, fun i hi => hgr2.block i hi (by simp)⟩
      have hown3 : OwnS w2 (w1.heap.size + 1) v2 (L ++ [s]) := by
        unfold OwnS
        rw [List.length_append, scells_append]
        exact hown2
      have hown4 := hown3.base (Nat.le_trans hg1.size (Nat.le_succ _))
      have hg3 := hga.trans hg2
      clear hown2 hgr2 hown3
      go_wp2_with fail
      go_ret
      exact ⟨_, rfl, hown4, hg3⟩
end Go.Proofs.YtfpkfgimhanekaaGreatDoor

/- Lists of one and of two strings; partsWith where the kind is another. -/
namespace Go.Proofs.YtfpkfgimhanekaaGreatDoor
open Go.RowKit

theorem fm_kinds {A : Fm.Tree} (h : FmOk A) : (kindOf A = 0 ∨ kindOf A = 1) ∨ ∃ p q, TwoF A p q ∧ (kindOf A = 2 ∨ kindOf A = 3 ∨ kindOf A = 4) := by
  cases A with
  | var v => exact .inl (.inl rfl)
  | fls => exact .inl (.inr rfl)
  | and p q => exact .inr ⟨p, q, rfl, .inl rfl⟩
  | or p q => exact .inr ⟨p, q, rfl, .inr (.inl rfl)⟩
  | imp p q => exact .inr ⟨p, q, rfl, .inr (.inr rfl)⟩
  | box p =>
    have := anyP_mem.1 h.2 (5, 0) (by simp [Fm.enc])
    exact absurd this (by decide)
  | dia p =>
    have := anyP_mem.1 h.2 (6, 0) (by simp [Fm.enc])
    exact absurd this (by decide)
theorem partsWith_not (k : Int) (A : Fm.Tree) (w : World) (hA : FmOk A) (hk : (kindOf A == k) = false) :
    Calls Tryz.prog 106 #[.string (tx A), .int .i64 k] w fun e w' => ∃ v, e = .returned (.tuple #[v, .bool false]) ∧ (∃ A n c, v = .slice A n c) ∧ Grew w w' := by
  rcases fm_kinds hA with h0 | ⟨p, q, h2, h3⟩
  · refine (partsWith_none k A w hA h0).mono fun e w' h => ?_
    obtain ⟨rfl, hg⟩ := h
    exact ⟨_, by rw [hk], ⟨_, _, _, rfl⟩, hg⟩
  · refine (partsWith_two k A p q w hA h2 h3).mono fun e w' h => ?_
    obtain ⟨v, rfl, ho, hg⟩ := h
    obtain ⟨B, c, rfl⟩ := strs_slice ho.strs
    exact ⟨_, by rw [hk], ⟨_, _, _, rfl⟩, hg⟩

end Go.Proofs.YtfpkfgimhanekaaGreatDoor

/- The parts of a formula by its text, as steps of deductions use them: partsWith of the program, l25Parts of the reference. -/
namespace Go.Proofs.YtfpkfgimhanekaaGreatDoor
open Go.RowKit

theorem two_of {s : ByteArray} (h : gp s = true) (hk : kT s = 2 ∨ kT s = 3 ∨ kT s = 4) : TwoF (fo s) (lft (fo s)) (rgt (fo s)) ∧ FmOk (fo s) ∧ tx (fo s) = s := by
  obtain ⟨h1, h2⟩ := fo_ok h
  refine ⟨?_, h1, h2⟩
  unfold kT at hk
  cases hf : fo s with
  | and p q => rfl
  | or p q => rfl
  | imp p q => rfl
  | var v => rw [hf] at hk; simp [kindOf] at hk
  | fls => rw [hf] at hk; simp [kindOf] at hk
  | box p => rw [hf] at hk; simp [kindOf] at hk
  | dia p => rw [hf] at hk; simp [kindOf] at hk

theorem pw_yes (k : Int) (s : ByteArray) (w : World) (h : gp s = true) (hk : kT s = k) (h3 : k = 2 ∨ k = 3 ∨ k = 4) :
    Calls Tryz.prog 106 #[.string s, .int .i64 k] w fun e w' => ∃ v, e = .returned (.tuple #[v, .bool true]) ∧ OwnS w' w.heap.size v [pl s, pr s] ∧ Grew w w' := by
  obtain ⟨h4, h5, h6⟩ := two_of h (by rw [hk]; exact h3)
  have h7 := partsWith_two k (fo s) (lft (fo s)) (rgt (fo s)) w h5 h4 (by unfold kT at hk; rw [hk]; exact h3)
  rw [h6] at h7
  have h8 : (kindOf (fo s) == k) = true := by unfold kT at hk; rw [hk]; simp
  rw [h8] at h7
  exact h7
theorem pw_no (k : Int) (s : ByteArray) (w : World) (h : gp s = true) (hk : kT s ≠ k) :
    Calls Tryz.prog 106 #[.string s, .int .i64 k] w fun e w' => ∃ v, e = .returned (.tuple #[v, .bool false]) ∧ (∃ A n c, v = .slice A n c) ∧ Grew w w' := by
  obtain ⟨h1, h2⟩ := fo_ok h
  have h7 := partsWith_not k (fo s) w h1 (by unfold kT at hk; simpa using hk)
  rw [h2] at h7
  exact h7
theorem lp_yes (k : Int) (s : ByteArray) (w : World) (h : gp s = true) (hk : kT s = k) (h3 : k = 2 ∨ k = 3 ∨ k = 4) :
    Calls Tryz.prog 101 #[.string s, .int .i64 k] w fun e w' => e = .returned (.tuple #[.string (pl s), .string (pr s), .bool true]) ∧ Grew w w' := by
  obtain ⟨h4, h5, h6⟩ := two_of h (by rw [hk]; exact h3)
  have h7 := l25Parts_yes k (fo s) (lft (fo s)) (rgt (fo s)) w h5 hk h4
  rw [h6] at h7
  exact h7
theorem lp_no (k : Int) (s : ByteArray) (w : World) (h : gp s = true) (hk : kT s ≠ k) :
    Calls Tryz.prog 101 #[.string s, .int .i64 k] w fun e w' => e = .returned (.tuple #[.string ByteArray.empty, .string ByteArray.empty, .bool false]) ∧ Grew w w' := by
  obtain ⟨h1, h2⟩ := fo_ok h
  have h7 := l25Parts_no k (fo s) w h1 hk
  rw [h2] at h7
  exact h7
end Go.Proofs.YtfpkfgimhanekaaGreatDoor

/- Two lists of strings compared: slices.Equal of the program, l01Words and l25Same of the reference. -/
namespace Go.Proofs.YtfpkfgimhanekaaGreatDoor
open Go.RowKit

/-- The first k strings are the same. -/
def AgreeS (xs ys : List ByteArray) (k : Nat) : Prop := ∀ i, i < k → st xs i = st ys i
theorem AgreeS.zero (xs ys : List ByteArray) : AgreeS xs ys 0 := fun i hi => absurd hi (by omega)
theorem AgreeS.succ {xs ys : List ByteArray} {k : Nat} (h : AgreeS xs ys k) (h1 : st xs k = st ys k) : AgreeS xs ys (k + 1) := by
  intro i hi
  rcases Nat.lt_or_ge i k with hk | hk
  · exact h i hk
  · obtain rfl : i = k := by omega
    exact h1
theorem agreeS_all {xs ys : List ByteArray} (hl : xs.length = ys.length) (h : AgreeS xs ys xs.length) : xs = ys := by
  apply List.ext_getElem hl
  intro i h1 h2
  rw [st_get h1, st_get h2]
  exact h i h1
theorem bytes_ne {a b : ByteArray} (h : a ≠ b) : (a.toList == b.toList) = false := by
  cases hq : (a.toList == b.toList) with
  | false => rfl
  | true => exact absurd ((Lib.bytes_beq_iff _ _).1 hq) h

theorem equalS_c (v1 v2 : Value) (xs ys : List ByteArray) (w : World) (h1 : Strs w v1 xs) (h2 : Strs w v2 ys) :
    Calls Tryz.prog 111 #[v1, v2] w fun e w' => e = .returned (.bool (@decide (xs = ys) (Classical.propDecidable _))) ∧ Grew w w' := by
  by_cases hl : xs.length = ys.length
  · rcases h1.open_ with ⟨rfl, rfl⟩ | ⟨b1, o1, c1, rfl, hc1, hm1, hb1, hf⟩
    · obtain rfl : ys = [] := List.eq_nil_of_length_eq_zero (by simpa using hl.symm)
      obtain ⟨A, c, rfl⟩ := strs_slice h2
      simp only [List.length_nil]
      clear hl h1 h2
      go_enter Tryz.func111, Tryz.ntmps111
      go_wp2_with fail
      refine wp_loop_rounds 1 ?_; rw [rounds_succ]
      go_wp2_with fail
      go_ret
      exact ⟨by simp, Grew.refl _⟩
    · rcases h2.open_ with ⟨rfl, rfl⟩ | ⟨b2, o2, c2, rfl, hc2, hm2, hb2, hh⟩
      · obtain rfl : xs = [] := List.eq_nil_of_length_eq_zero (by simpa using hl)
        simp only [List.length_nil]
        clear hl hf h1 h2
        go_enter Tryz.func111, Tryz.ntmps111
        go_wp2_with fail
        refine wp_loop_rounds 1 ?_; rw [rounds_succ]
        go_wp2_with fail
        go_ret
        exact ⟨by simp, Grew.refl _⟩
      · clear h1 h2
        have HE := Lib.hid (fun h => agreeS_all hl h)
        rw [← hl] at hc2 hh ⊢
        have HF := Lib.hid hf
        have HH := Lib.hid hh
        have HX := Lib.hid (fun (h : xs = ys) (i : Nat) => (by rw [h] : st xs i = st ys i))
        obtain ⟨D, hD⟩ : ∃ D, D = @decide (xs = ys) (Classical.propDecidable _) := ⟨_, rfl⟩
        rw [← hD]
        have HD := Lib.hid hD
        clear hl hf hh hD
        generalize hN : xs.length = n at *
        clear hN
        go_enter Tryz.func111, Tryz.ntmps111
        go_wp2_with fail
        go_loopg [4, 13] n (fun k _ i wr => ∃ j : Nat, j ≤ n ∧ k = n - j ∧ i = .int .i64 j ∧ Grew w wr ∧ Hid (AgreeS xs ys j))
        case atStart => exact ⟨0, Nat.zero_le _, by omega, rfl, Grew.refl _, AgreeS.zero _ _⟩
        case round =>
          obtain ⟨j, hj, rfl, rfl, hB, HA⟩ := hrel
          by_cases hlt : j < n
          · have k1 : ∀ W, Grew w W → W.cell? ⟨b1, o1 + j, none⟩ = some (.string (st xs j)) := fun W hW => HF.out j hlt W hW
            have k3 : ∀ W, Grew w W → W.cell? ⟨b2, o2 + j, none⟩ = some (.string (st ys j)) := fun W hW => HH.out j hlt W hW
            by_cases he : st xs j = st ys j
            · have HB := Lib.hid (HA.out.succ he)
              rw [he] at k1
              have hq : ((st ys j).toList != (st ys j).toList) = false := by simp
              clear he HA
              generalize st ys j = z at *
              go_wp2_with fail
              go_quiet (fail)
              go_wp2_with fail
              go_roundg (n - (j + 1))
              case measure => omega
              case rel => exact ⟨j + 1, by omega, rfl, by go_num, hB.drewN _, HB⟩
            · have hv : Hid (D = false) := Lib.hid (by rw [HD.out]; exact @decide_eq_false _ (Classical.propDecidable _) fun h => he (HX.out h j))
              have hb1 := bytes_ne he
              have hq : ((st xs j).toList != (st ys j).toList) = true := by rw [bne, hb1]; rfl
              have hq2 : (!(st xs j).toList == (st ys j).toList) = true := by rw [hb1]; rfl
              clear he HA hb1
              generalize st ys j = z at *
              generalize st xs j = y at *
              go_wp2_with fail
              go_quiet (fail)
              go_wp2_with fail
              go_ret
              rw [hv.out]
              exact ⟨rfl, hB.drewN _⟩
          · have hjn : j = n := by omega
            subst hjn
            have hv : Hid (D = true) := Lib.hid (by rw [HD.out]; exact @decide_eq_true _ (Classical.propDecidable _) (HE.out HA.out))
            go_wp2_with fail
            go_ret
            rw [hv.out]
            exact ⟨rfl, hB⟩
  · have hne : xs ≠ ys := fun h => hl (by rw [h])
    rw [@decide_eq_false _ (Classical.propDecidable _) hne]
    obtain ⟨A, c, rfl⟩ := strs_slice h1
    obtain ⟨B, d, rfl⟩ := strs_slice h2
    have hl' : (((xs.length : Nat) : Int) != ((ys.length : Nat) : Int)) = true := by simp; omega
    clear hl h1 h2 hne
    generalize xs.length = n at *
    generalize ys.length = m at *
    go_enter Tryz.func111, Tryz.ntmps111
    go_wp2_with fail
    go_ret
    exact ⟨rfl, Grew.refl _⟩

theorem l01Words_c (v1 v2 : Value) (xs ys : List ByteArray) (w : World) (h1 : Strs w v1 xs) (h2 : Strs w v2 ys) :
    Calls Tryz.prog 122 #[v1, v2] w fun e w' => e = .returned (.bool (@decide (xs = ys) (Classical.propDecidable _))) ∧ Grew w w' := by
  by_cases hl : xs.length = ys.length
  · rcases h1.open_ with ⟨rfl, rfl⟩ | ⟨b1, o1, c1, rfl, hc1, hm1, hb1, hf⟩
    · obtain rfl : ys = [] := List.eq_nil_of_length_eq_zero (by simpa using hl.symm)
      obtain ⟨A, c, rfl⟩ := strs_slice h2
      simp only [List.length_nil]
      clear hl h1 h2
      go_enter Tryz.func122, Tryz.ntmps122
      go_wp2_with fail
      refine wp_loop_rounds 1 ?_; rw [rounds_succ]
      go_wp2_with fail
      go_ret
      exact ⟨by simp, Grew.refl _⟩
    · rcases h2.open_ with ⟨rfl, rfl⟩ | ⟨b2, o2, c2, rfl, hc2, hm2, hb2, hh⟩
      · obtain rfl : xs = [] := List.eq_nil_of_length_eq_zero (by simpa using hl)
        simp only [List.length_nil]
        clear hl hf h1 h2
        go_enter Tryz.func122, Tryz.ntmps122
        go_wp2_with fail
        refine wp_loop_rounds 1 ?_; rw [rounds_succ]
        go_wp2_with fail
        go_ret
        exact ⟨by simp, Grew.refl _⟩
      · clear h1 h2
        have HE := Lib.hid (fun h => agreeS_all hl h)
        rw [← hl] at hc2 hh ⊢
        have HF := Lib.hid hf
        have HH := Lib.hid hh
        have HX := Lib.hid (fun (h : xs = ys) (i : Nat) => (by rw [h] : st xs i = st ys i))
        obtain ⟨D, hD⟩ : ∃ D, D = @decide (xs = ys) (Classical.propDecidable _) := ⟨_, rfl⟩
        rw [← hD]
        have HD := Lib.hid hD
        clear hl hf hh hD
        generalize hN : xs.length = n at *
        clear hN
        go_enter Tryz.func122, Tryz.ntmps122
        go_wp2_with fail
        go_loopg [5] n (fun k i wr => ∃ j : Nat, j ≤ n ∧ k = n - j ∧ i = .int .i64 j ∧ Grew w wr ∧ Hid (AgreeS xs ys j))
        case atStart => exact ⟨0, Nat.zero_le _, by omega, rfl, Grew.refl _, AgreeS.zero _ _⟩
        case round =>
          obtain ⟨j, hj, rfl, rfl, hB, HA⟩ := hrel
          by_cases hlt : j < n
          · have k1 : ∀ W, Grew w W → W.cell? ⟨b1, o1 + j, none⟩ = some (.string (st xs j)) := fun W hW => HF.out j hlt W hW
            have k3 : ∀ W, Grew w W → W.cell? ⟨b2, o2 + j, none⟩ = some (.string (st ys j)) := fun W hW => HH.out j hlt W hW
            by_cases he : st xs j = st ys j
            · have HB := Lib.hid (HA.out.succ he)
              rw [he] at k1
              have hq : ((st ys j).toList != (st ys j).toList) = false := by simp
              clear he HA
              generalize st ys j = z at *
              go_wp2_with fail
              go_quiet (fail)
              go_wp2_with fail
              go_roundg (n - (j + 1))
              case measure => omega
              case rel => exact ⟨j + 1, by omega, rfl, by go_num, hB.drewN _, HB⟩
            · have hv : Hid (D = false) := Lib.hid (by rw [HD.out]; exact @decide_eq_false _ (Classical.propDecidable _) fun h => he (HX.out h j))
              have hb1 := bytes_ne he
              have hq : ((st xs j).toList != (st ys j).toList) = true := by rw [bne, hb1]; rfl
              have hq2 : (!(st xs j).toList == (st ys j).toList) = true := by rw [hb1]; rfl
              clear he HA hb1
              generalize st ys j = z at *
              generalize st xs j = y at *
              go_wp2_with fail
              go_quiet (fail)
              go_wp2_with fail
              go_ret
              rw [hv.out]
              exact ⟨rfl, hB.drewN _⟩
          · have hjn : j = n := by omega
            subst hjn
            have hv : Hid (D = true) := Lib.hid (by rw [HD.out]; exact @decide_eq_true _ (Classical.propDecidable _) (HE.out HA.out))
            go_wp2_with fail
            go_ret
            rw [hv.out]
            exact ⟨rfl, hB⟩
  · have hne : xs ≠ ys := fun h => hl (by rw [h])
    rw [@decide_eq_false _ (Classical.propDecidable _) hne]
    obtain ⟨A, c, rfl⟩ := strs_slice h1
    obtain ⟨B, d, rfl⟩ := strs_slice h2
    have hl' : (((xs.length : Nat) : Int) != ((ys.length : Nat) : Int)) = true := by simp; omega
    clear hl h1 h2 hne
    generalize xs.length = n at *
    generalize ys.length = m at *
    go_enter Tryz.func122, Tryz.ntmps122
    go_wp2_with fail
    go_ret
    exact ⟨rfl, Grew.refl _⟩

theorem l25Same_c (v1 v2 : Value) (xs ys : List ByteArray) (w : World) (h1 : Strs w v1 xs) (h2 : Strs w v2 ys) :
    Calls Tryz.prog 100 #[v1, v2] w fun e w' => e = .returned (.bool (@decide (xs = ys) (Classical.propDecidable _))) ∧ Grew w w' := by
  have KW := Lib.hid (l01Words_c v1 v2 xs ys w h1 h2)
  obtain ⟨A, c, rfl⟩ := strs_slice h1
  obtain ⟨B, d, rfl⟩ := strs_slice h2
  clear h1 h2
  generalize @decide (xs = ys) (Classical.propDecidable _) = R at *
  generalize xs.length = n at *
  generalize ys.length = m at *
  go_enter Tryz.func100, Tryz.ntmps100
  go_wp2_with fail
  refine KW.out.mono ?_
  rintro e w1 ⟨rfl, hg1⟩
  go_wp2_with fail
  go_ret
  exact ⟨rfl, hg1⟩
end Go.Proofs.YtfpkfgimhanekaaGreatDoor

/- Comparing lists of strings in the reference: such a call only draws. -/
namespace Go.Proofs.YtfpkfgimhanekaaGreatDoor
open Go.RowKit

/-- Nothing but draws lies between. -/
def Drw (w w' : World) : Prop := ∃ m, w' = w.drewN m
theorem Drw.refl (w : World) : Drw w w := ⟨0, by first | rfl | simp⟩
theorem Drw.drewN {w w' : World} (h : Drw w w') (n : Nat) : Drw w (w'.drewN n) := by
  obtain ⟨m, rfl⟩ := h
  exact ⟨m + n, by rw [World.drewN_drewN]⟩
theorem Drw.grew {w w' : World} (h : Drw w w') : Grew w w' := by
  obtain ⟨m, rfl⟩ := h
  exact (Grew.refl w).drewN m

theorem l01Words_q (v1 v2 : Value) (xs ys : List ByteArray) (w : World) (h1 : Strs w v1 xs) (h2 : Strs w v2 ys) :
    Calls Tryz.prog 122 #[v1, v2] w fun e w' => e = .returned (.bool (@decide (xs = ys) (Classical.propDecidable _))) ∧ Drw w w' := by
  by_cases hl : xs.length = ys.length
  · rcases h1.open_ with ⟨rfl, rfl⟩ | ⟨b1, o1, c1, rfl, hc1, hm1, hb1, hf⟩
    · obtain rfl : ys = [] := List.eq_nil_of_length_eq_zero (by simpa using hl.symm)
      obtain ⟨A, c, rfl⟩ := strs_slice h2
      simp only [List.length_nil]
      clear hl h1 h2
      go_enter Tryz.func122, Tryz.ntmps122
      go_wp2_with fail
      refine wp_loop_rounds 1 ?_; rw [rounds_succ]
      go_wp2_with fail
      go_ret
      exact ⟨by simp, Drw.refl _⟩
    · rcases h2.open_ with ⟨rfl, rfl⟩ | ⟨b2, o2, c2, rfl, hc2, hm2, hb2, hh⟩
      · obtain rfl : xs = [] := List.eq_nil_of_length_eq_zero (by simpa using hl)
        simp only [List.length_nil]
        clear hl hf h1 h2
        go_enter Tryz.func122, Tryz.ntmps122
        go_wp2_with fail
        refine wp_loop_rounds 1 ?_; rw [rounds_succ]
        go_wp2_with fail
        go_ret
        exact ⟨by simp, Drw.refl _⟩
      · clear h1 h2
        have HE := Lib.hid (fun h => agreeS_all hl h)
        rw [← hl] at hc2 hh ⊢
        have HF := Lib.hid hf
        have HH := Lib.hid hh
        have HX := Lib.hid (fun (h : xs = ys) (i : Nat) => (by rw [h] : st xs i = st ys i))
        obtain ⟨D, hD⟩ : ∃ D, D = @decide (xs = ys) (Classical.propDecidable _) := ⟨_, rfl⟩
        rw [← hD]
        have HD := Lib.hid hD
        clear hl hf hh hD
        generalize hN : xs.length = n at *
        clear hN
        go_enter Tryz.func122, Tryz.ntmps122
        go_wp2_with fail
        go_loopg [5] n (fun k i wr => ∃ j : Nat, j ≤ n ∧ k = n - j ∧ i = .int .i64 j ∧ Drw w wr ∧ Hid (AgreeS xs ys j))
        case atStart => exact ⟨0, Nat.zero_le _, by omega, rfl, Drw.refl _, AgreeS.zero _ _⟩
        case round =>
          obtain ⟨j, hj, rfl, rfl, hB, HA⟩ := hrel
          have hBg := hB.grew
          by_cases hlt : j < n
          · have k1 : ∀ W, Grew w W → W.cell? ⟨b1, o1 + j, none⟩ = some (.string (st xs j)) := fun W hW => HF.out j hlt W hW
            have k3 : ∀ W, Grew w W → W.cell? ⟨b2, o2 + j, none⟩ = some (.string (st ys j)) := fun W hW => HH.out j hlt W hW
            by_cases he : st xs j = st ys j
            · have HB := Lib.hid (HA.out.succ he)
              rw [he] at k1
              have hq : ((st ys j).toList != (st ys j).toList) = false := by simp
              clear he HA
              generalize st ys j = z at *
              go_wp2_with fail
              go_quiet (fail)
              go_wp2_with fail
              go_roundg (n - (j + 1))
              case measure => omega
              case rel => exact ⟨j + 1, by omega, rfl, by go_num, hB.drewN _, HB⟩
            · have hv : Hid (D = false) := Lib.hid (by rw [HD.out]; exact @decide_eq_false _ (Classical.propDecidable _) fun h => he (HX.out h j))
              have hb1 := bytes_ne he
              have hq : ((st xs j).toList != (st ys j).toList) = true := by rw [bne, hb1]; rfl
              have hq2 : (!(st xs j).toList == (st ys j).toList) = true := by rw [hb1]; rfl
              clear he HA hb1
              generalize st ys j = z at *
              generalize st xs j = y at *
              go_wp2_with fail
              go_quiet (fail)
              go_wp2_with fail
              go_ret
              rw [hv.out]
              exact ⟨rfl, hB.drewN _⟩
          · have hjn : j = n := by omega
            subst hjn
            have hv : Hid (D = true) := Lib.hid (by rw [HD.out]; exact @decide_eq_true _ (Classical.propDecidable _) (HE.out HA.out))
            go_wp2_with fail
            go_ret
            rw [hv.out]
            exact ⟨rfl, hB⟩
  · have hne : xs ≠ ys := fun h => hl (by rw [h])
    rw [@decide_eq_false _ (Classical.propDecidable _) hne]
    obtain ⟨A, c, rfl⟩ := strs_slice h1
    obtain ⟨B, d, rfl⟩ := strs_slice h2
    have hl' : (((xs.length : Nat) : Int) != ((ys.length : Nat) : Int)) = true := by simp; omega
    clear hl h1 h2 hne
    generalize xs.length = n at *
    generalize ys.length = m at *
    go_enter Tryz.func122, Tryz.ntmps122
    go_wp2_with fail
    go_ret
    exact ⟨rfl, Drw.refl _⟩

theorem l25Same_q (v1 v2 : Value) (xs ys : List ByteArray) (w : World) (h1 : Strs w v1 xs) (h2 : Strs w v2 ys) :
    Calls Tryz.prog 100 #[v1, v2] w fun e w' => e = .returned (.bool (@decide (xs = ys) (Classical.propDecidable _))) ∧ Drw w w' := by
  have KW := Lib.hid (l01Words_q v1 v2 xs ys w h1 h2)
  obtain ⟨A, c, rfl⟩ := strs_slice h1
  obtain ⟨B, d, rfl⟩ := strs_slice h2
  clear h1 h2
  generalize @decide (xs = ys) (Classical.propDecidable _) = R at *
  generalize xs.length = n at *
  generalize ys.length = m at *
  go_enter Tryz.func100, Tryz.ntmps100
  go_wp2_with fail
  refine KW.out.mono ?_
  rintro e w1 ⟨rfl, hg1⟩
  go_wp2_with fail
  go_ret
  exact ⟨rfl, hg1⟩
end Go.Proofs.YtfpkfgimhanekaaGreatDoor

/- l25Rule of the reference. -/
namespace Go.Proofs.YtfpkfgimhanekaaGreatDoor
open Go.RowKit

theorem lenL1 {α : Type} {p : List α} (h : p.length = 1) : ∃ a, p = [a] := by
  match p, h with
  | [a], _ => exact ⟨a, rfl⟩
theorem lenL2 {α : Type} {p : List α} (h : p.length = 2) : ∃ a b, p = [a, b] := by
  match p, h with
  | [a, b], _ => exact ⟨a, b, rfl⟩
theorem lenL3 {α : Type} {p : List α} (h : p.length = 3) : ∃ a b c, p = [a, b, c] := by
  match p, h with
  | [a, b, c], _ => exact ⟨a, b, c, rfl⟩
theorem same_c (v1 v2 : Value) (xs ys : List ByteArray) (w : World) (h1 : Strs w v1 xs) (h2 : Strs w v2 ys) :
    Calls Tryz.prog 100 #[v1, v2] w fun e w' => e = .returned (.bool (dcd (xs = ys))) ∧ Drw w w' := l25Same_q v1 v2 xs ys w h1 h2
theorem txF_list : txF.toList = [70] := by first | rfl | decide | (simp [txF]; done) | (unfold txF ByteArray.toList ByteArray.toList.loop; simp [ByteArray.size]; unfold ByteArray.toList.loop; simp [ByteArray.size]; done)
theorem txF_yes : (txF.toList == [70]) = true := by rw [txF_list]; rfl
theorem txF_no {s : ByteArray} (h : s ≠ txF) : (s.toList == [70]) = false := by rw [← txF_list]; exact bytes_ne h
theorem strs_lit1 (a : ByteArray) (W : World) : Strs (W.alloc (.cells #[.string a] 9)) (.slice (some ⟨W.heap.size, 0, none⟩) 1 1) [a] := rd_lit W (.string a) 9
/-- The premises' lists and conclusions in memory. -/
theorem dds_at {w : World} {v : Value} {p : List Dd} (h : Dds w v p) (hp : 0 < p.length) : ∃ b o c, v = .slice (some ⟨b, o, none⟩) p.length c ∧ p.length ≤ c ∧ c ≤ 9223372036854775807 ∧
    ∀ i y, p[i]? = some y → ∃ ua, (∀ W, Grew w W → W.cell? ⟨b, o + i * 5 + 2, none⟩ = some ua) ∧ (∀ W, Grew w W → W.cell? ⟨b, o + i * 5 + 3, none⟩ = some (.string y.2.2.2.1)) ∧ Strs w ua y.2.2.1 := by
  obtain ⟨b, o, c, h1, h2, h3, _, h5⟩ := h.open_ hp
  refine ⟨b, o, c, h1, h2, h3, fun i y hy => ?_⟩
  obtain ⟨up, ua, k1, _, k3⟩ := h5 i y hy
  exact ⟨ua, fun W hW => (k1 W hW).2.2.1, fun W hW => (k1 W hW).2.2.2.1, k3⟩
/-- What l25Rule gives at a step. -/
def RuleC (x : Dd) (k : Nat) : Prop := ∀ (up ua vp : Value) (p : List Dd) (w : World), Ints w up x.2.1 → Strs w ua x.2.2.1 → Dds w vp p → gp x.2.2.2.1 = true → (∀ y ∈ p, gp y.2.2.2.1 = true) → x.2.2.1.length ≤ 12 → p.length = k →
    Calls Tryz.prog 82 #[.agg #[.int .i64 x.1, up, ua, .string x.2.2.2.1, .int .i64 x.2.2.2.2], vp] w fun e w' => e = .returned (.bool (dcd (introP x (p.map jd) ∨ elimP x (p.map jd)))) ∧ Grew w w'
end Go.Proofs.YtfpkfgimhanekaaGreatDoor

/- l25Rule of the reference at some rules. -/
namespace Go.Proofs.YtfpkfgimhanekaaGreatDoor
open Go.RowKit

set_option maxHeartbeats 8000000 in
set_option maxRecDepth 8192 in
theorem rule_2 (P : List Int) (A : List ByteArray) (C : ByteArray) (N : Int) : RuleC (2, P, A, C, N) 1 := by
  intro up ua vp p w hup hs hv hC hp hl hk
  simp only at hup hs hC hl hk ⊢
  obtain ⟨y0, rfl⟩ := lenL1 hk
  obtain ⟨r0, P0, A0, C0, N0⟩ := y0
  obtain ⟨pb, po, pc, rfl, hpc, hpm, hat⟩ := dds_at hv (by simp)
  have hiff : (introP (2, P, A, C, N) ([(r0, P0, A0, C0, N0)].map jd) ∨ elimP (2, P, A, C, N) ([(r0, P0, A0, C0, N0)].map jd)) ↔ (A0 = A ∧ C0 = txF) := by
    simp [introP, elimP, jd]
    try grind
  rw [dcd_congr hiff]
  clear hiff
  obtain ⟨ua0, q0a, q0c, hu0⟩ := hat 0 _ rfl
  have hg0 : gp C0 = true := hp (r0, P0, A0, C0, N0) (by simp)
  simp only [Nat.zero_mul, Nat.add_zero] at q0a q0c hu0
  have KS0 := fun W (hW : Grew w W) => same_c ua0 ua A0 A W (hu0.grew hW) (hs.grew hW)
  simp only [List.length_cons, List.length_nil] at hpc ⊢
  obtain ⟨VP, cp, rfl⟩ := ints_slice hup
  obtain ⟨UA, ca, rfl⟩ := strs_slice hs
  obtain ⟨U0, c0, rfl⟩ := strs_slice hu0
  have hal := (Grew.refl w).alloc (.cells #[.int .i64 2, .slice VP P.length cp, .slice UA A.length ca, .string C, .int .i64 N] 52)
  have f0 : ∀ W, Grew (w.alloc (.cells #[.int .i64 2, .slice VP P.length cp, .slice UA A.length ca, .string C, .int .i64 N] 52)) W → W.cell? ⟨w.heap.size, 0, none⟩ = some (.int .i64 2) := fun W hW => (hW.cell (p := ⟨w.heap.size, 0, none⟩) (by simp)).trans (by simp)
  have f2 : ∀ W, Grew (w.alloc (.cells #[.int .i64 2, .slice VP P.length cp, .slice UA A.length ca, .string C, .int .i64 N] 52)) W → W.cell? ⟨w.heap.size, 2, none⟩ = some (.slice UA A.length ca) := fun W hW => (hW.cell (p := ⟨w.heap.size, 2, none⟩) (by simp)).trans (by simp)
  have f3 : ∀ W, Grew (w.alloc (.cells #[.int .i64 2, .slice VP P.length cp, .slice UA A.length ca, .string C, .int .i64 N] 52)) W → W.cell? ⟨w.heap.size, 3, none⟩ = some (.string C) := fun W hW => (hW.cell (p := ⟨w.heap.size, 3, none⟩) (by simp)).trans (by simp)
  clear hup hs hv hat hp hl hk hu0
  generalize P.length = pln at *
  generalize A.length = al at *
  generalize A0.length = al0 at *
  by_cases h0 : A0 = A
  · have hh : True := trivial
    rw [dcd_true h0] at KS0
    by_cases h1 : C0 = txF
    · have hh : True := trivial
      have hb1 : (C0.toList == [70]) = true := by rw [h1]; exact txF_yes
      rw [dcd_true ⟨h0, h1⟩]
      have hT := txF_yes
      replace KS0 := Lib.hid KS0
      clear h0 h1
      go_enter Tryz.func82, Tryz.ntmps82
      go_wp2_with fail
      have hg1 := Grew.refl (w.alloc (.cells #[.int .i64 2, .slice VP pln cp, .slice UA al ca, .string C, .int .i64 N] 52))
      have g1 := hal
      have r1 := Grew.refl (w.alloc (.cells #[.int .i64 2, .slice VP pln cp, .slice UA al ca, .string C, .int .i64 N] 52))
      have d1 := r1.drew
      have gd := g1.trans d1
      have e0 := fun W (hW : Grew (w.alloc (.cells #[.int .i64 2, .slice VP pln cp, .slice UA al ca, .string C, .int .i64 N] 52)) W) => f0 W (hg1.trans hW)
      have e2 := fun W (hW : Grew (w.alloc (.cells #[.int .i64 2, .slice VP pln cp, .slice UA al ca, .string C, .int .i64 N] 52)) W) => f2 W (hg1.trans hW)
      have e3 := fun W (hW : Grew (w.alloc (.cells #[.int .i64 2, .slice VP pln cp, .slice UA al ca, .string C, .int .i64 N] 52)) W) => f3 W (hg1.trans hW)
      have p0a := fun W (hW : Grew (w.alloc (.cells #[.int .i64 2, .slice VP pln cp, .slice UA al ca, .string C, .int .i64 N] 52)) W) => q0a W (g1.trans hW)
      have p0c := fun W (hW : Grew (w.alloc (.cells #[.int .i64 2, .slice VP pln cp, .slice UA al ca, .string C, .int .i64 N] 52)) W) => q0c W (g1.trans hW)
      clear f0 f2 f3 q0a q0c
      have KT0 := Lib.hid (fun n => KS0.out ((w.alloc (.cells #[.int .i64 2, .slice VP pln cp, .slice UA al ca, .string C, .int .i64 N] 52)).drewN n) (g1.drewN n))
      go_quiet ((first | (go_at_call 100; exact Calls.quiet_of (KT0.out _))))
      go_wp2_with fail
      go_ret
      exact ⟨rfl, g1.drewN _⟩
    · rw [dcd_false (fun h => h1 (h.2))]
      have hb1 := txF_no h1
      replace KS0 := Lib.hid KS0
      clear h0 h1
      go_enter Tryz.func82, Tryz.ntmps82
      go_wp2_with fail
      have hg1 := Grew.refl (w.alloc (.cells #[.int .i64 2, .slice VP pln cp, .slice UA al ca, .string C, .int .i64 N] 52))
      have g1 := hal
      have r1 := Grew.refl (w.alloc (.cells #[.int .i64 2, .slice VP pln cp, .slice UA al ca, .string C, .int .i64 N] 52))
      have d1 := r1.drew
      have gd := g1.trans d1
      have e0 := fun W (hW : Grew (w.alloc (.cells #[.int .i64 2, .slice VP pln cp, .slice UA al ca, .string C, .int .i64 N] 52)) W) => f0 W (hg1.trans hW)
      have e2 := fun W (hW : Grew (w.alloc (.cells #[.int .i64 2, .slice VP pln cp, .slice UA al ca, .string C, .int .i64 N] 52)) W) => f2 W (hg1.trans hW)
      have e3 := fun W (hW : Grew (w.alloc (.cells #[.int .i64 2, .slice VP pln cp, .slice UA al ca, .string C, .int .i64 N] 52)) W) => f3 W (hg1.trans hW)
      have p0a := fun W (hW : Grew (w.alloc (.cells #[.int .i64 2, .slice VP pln cp, .slice UA al ca, .string C, .int .i64 N] 52)) W) => q0a W (g1.trans hW)
      have p0c := fun W (hW : Grew (w.alloc (.cells #[.int .i64 2, .slice VP pln cp, .slice UA al ca, .string C, .int .i64 N] 52)) W) => q0c W (g1.trans hW)
      clear f0 f2 f3 q0a q0c
      have KT0 := Lib.hid (fun n => KS0.out ((w.alloc (.cells #[.int .i64 2, .slice VP pln cp, .slice UA al ca, .string C, .int .i64 N] 52)).drewN n) (g1.drewN n))
      go_quiet ((first | (go_at_call 100; exact Calls.quiet_of (KT0.out _))))
      go_wp2_with fail
      go_ret
      exact ⟨rfl, g1.drewN _⟩
  · rw [dcd_false (fun h => h0 (h.1))]
    rw [dcd_false h0] at KS0
    replace KS0 := Lib.hid KS0
    clear h0
    go_enter Tryz.func82, Tryz.ntmps82
    go_wp2_with fail
    have hg1 := Grew.refl (w.alloc (.cells #[.int .i64 2, .slice VP pln cp, .slice UA al ca, .string C, .int .i64 N] 52))
    have g1 := hal
    have r1 := Grew.refl (w.alloc (.cells #[.int .i64 2, .slice VP pln cp, .slice UA al ca, .string C, .int .i64 N] 52))
    have d1 := r1.drew
    have gd := g1.trans d1
    have e0 := fun W (hW : Grew (w.alloc (.cells #[.int .i64 2, .slice VP pln cp, .slice UA al ca, .string C, .int .i64 N] 52)) W) => f0 W (hg1.trans hW)
    have e2 := fun W (hW : Grew (w.alloc (.cells #[.int .i64 2, .slice VP pln cp, .slice UA al ca, .string C, .int .i64 N] 52)) W) => f2 W (hg1.trans hW)
    have e3 := fun W (hW : Grew (w.alloc (.cells #[.int .i64 2, .slice VP pln cp, .slice UA al ca, .string C, .int .i64 N] 52)) W) => f3 W (hg1.trans hW)
    have p0a := fun W (hW : Grew (w.alloc (.cells #[.int .i64 2, .slice VP pln cp, .slice UA al ca, .string C, .int .i64 N] 52)) W) => q0a W (g1.trans hW)
    have p0c := fun W (hW : Grew (w.alloc (.cells #[.int .i64 2, .slice VP pln cp, .slice UA al ca, .string C, .int .i64 N] 52)) W) => q0c W (g1.trans hW)
    clear f0 f2 f3 q0a q0c
    have KT0 := Lib.hid (fun n => KS0.out ((w.alloc (.cells #[.int .i64 2, .slice VP pln cp, .slice UA al ca, .string C, .int .i64 N] 52)).drewN n) (g1.drewN n))
    go_quiet ((first | (go_at_call 100; exact Calls.quiet_of (KT0.out _))))
    go_wp2_with fail
    go_ret
    exact ⟨rfl, g1.drewN _⟩

set_option maxHeartbeats 8000000 in
set_option maxRecDepth 8192 in
theorem rule_3 (P : List Int) (A : List ByteArray) (C : ByteArray) (N : Int) : RuleC (3, P, A, C, N) 2 := by
  intro up ua vp p w hup hs hv hC hp hl hk
  simp only at hup hs hC hl hk ⊢
  obtain ⟨y0, y1, rfl⟩ := lenL2 hk
  obtain ⟨r0, P0, A0, C0, N0⟩ := y0
  obtain ⟨r1, P1, A1, C1, N1⟩ := y1
  obtain ⟨pb, po, pc, rfl, hpc, hpm, hat⟩ := dds_at hv (by simp)
  have hiff : (introP (3, P, A, C, N) ([(r0, P0, A0, C0, N0), (r1, P1, A1, C1, N1)].map jd) ∨ elimP (3, P, A, C, N) ([(r0, P0, A0, C0, N0), (r1, P1, A1, C1, N1)].map jd)) ↔ (kT C = 2 ∧ A0 = A ∧ A1 = A ∧ C0 = pl C ∧ C1 = pr C) := by
    simp [introP, elimP, jd]
    try grind
  rw [dcd_congr hiff]
  clear hiff
  obtain ⟨ua0, q0a, q0c, hu0⟩ := hat 0 _ rfl
  have hg0 : gp C0 = true := hp (r0, P0, A0, C0, N0) (by simp)
  simp only [Nat.zero_mul, Nat.add_zero] at q0a q0c hu0
  obtain ⟨ua1, q1a, q1c, hu1⟩ := hat 1 _ rfl
  have hg1 : gp C1 = true := hp (r1, P1, A1, C1, N1) (by simp)
  simp only [Nat.one_mul] at q1a q1c hu1
  have KS0 := fun W (hW : Grew w W) => same_c ua0 ua A0 A W (hu0.grew hW) (hs.grew hW)
  have KS1 := fun W (hW : Grew w W) => same_c ua1 ua A1 A W (hu1.grew hW) (hs.grew hW)
  simp only [List.length_cons, List.length_nil] at hpc ⊢
  obtain ⟨VP, cp, rfl⟩ := ints_slice hup
  obtain ⟨UA, ca, rfl⟩ := strs_slice hs
  obtain ⟨U0, c0, rfl⟩ := strs_slice hu0
  obtain ⟨U1, c1, rfl⟩ := strs_slice hu1
  have hal := (Grew.refl w).alloc (.cells #[.int .i64 3, .slice VP P.length cp, .slice UA A.length ca, .string C, .int .i64 N] 52)
  have f0 : ∀ W, Grew (w.alloc (.cells #[.int .i64 3, .slice VP P.length cp, .slice UA A.length ca, .string C, .int .i64 N] 52)) W → W.cell? ⟨w.heap.size, 0, none⟩ = some (.int .i64 3) := fun W hW => (hW.cell (p := ⟨w.heap.size, 0, none⟩) (by simp)).trans (by simp)
  have f2 : ∀ W, Grew (w.alloc (.cells #[.int .i64 3, .slice VP P.length cp, .slice UA A.length ca, .string C, .int .i64 N] 52)) W → W.cell? ⟨w.heap.size, 2, none⟩ = some (.slice UA A.length ca) := fun W hW => (hW.cell (p := ⟨w.heap.size, 2, none⟩) (by simp)).trans (by simp)
  have f3 : ∀ W, Grew (w.alloc (.cells #[.int .i64 3, .slice VP P.length cp, .slice UA A.length ca, .string C, .int .i64 N] 52)) W → W.cell? ⟨w.heap.size, 3, none⟩ = some (.string C) := fun W hW => (hW.cell (p := ⟨w.heap.size, 3, none⟩) (by simp)).trans (by simp)
  clear hup hs hv hat hp hl hk hu0 hu1
  generalize P.length = pln at *
  generalize A.length = al at *
  generalize A0.length = al0 at *
  generalize A1.length = al1 at *
  by_cases h0 : kT C = 2
  · have hh : True := trivial
    have KP := Lib.hid (fun W => lp_yes 2 C W hC h0 (by decide))
    by_cases h1 : A0 = A
    · have hh : True := trivial
      rw [dcd_true h1] at KS0
      by_cases h2 : A1 = A
      · have hh : True := trivial
        rw [dcd_true h2] at KS1
        by_cases h3 : C0 = pl C
        · have hh : True := trivial
          have hb3 : (C0.toList == (pl C).toList) = true := by rw [h3]; simp
          by_cases h4 : C1 = pr C
          · have hh : True := trivial
            have hb4 : (C1.toList == (pr C).toList) = true := by rw [h4]; simp
            rw [dcd_true ⟨h0, h1, h2, h3, h4⟩]
            replace KS0 := Lib.hid KS0
            replace KS1 := Lib.hid KS1
            clear h0 h1 h2 h3 h4
            go_enter Tryz.func82, Tryz.ntmps82
            go_wp2_with fail
            refine (KP.out _).mono ?_
            rintro e w1 ⟨rfl, hg1⟩
            have g1 := hal.trans hg1
            have hm1 := hg1
            have r1 := Grew.refl w1
            have d1 := r1.drew
            have gd := g1.trans d1
            have e0 := fun W (hW : Grew w1 W) => f0 W (hg1.trans hW)
            have e2 := fun W (hW : Grew w1 W) => f2 W (hg1.trans hW)
            have e3 := fun W (hW : Grew w1 W) => f3 W (hg1.trans hW)
            have p0a := fun W (hW : Grew w1 W) => q0a W (g1.trans hW)
            have p0c := fun W (hW : Grew w1 W) => q0c W (g1.trans hW)
            have p1a := fun W (hW : Grew w1 W) => q1a W (g1.trans hW)
            have p1c := fun W (hW : Grew w1 W) => q1c W (g1.trans hW)
            clear f0 f2 f3 q0a q0c q1a q1c
            go_wp2_with fail
            have KT0 := Lib.hid (fun n => KS0.out (w1.drewN n) (g1.drewN n))
            have KT1 := Lib.hid (fun n => KS1.out (w1.drewN n) (g1.drewN n))
            go_quiet ((first | (go_at_call 100; exact Calls.quiet_of (KT0.out _)) | (go_at_call 100; exact Calls.quiet_of (KT1.out _))))
            go_wp2_with fail
            go_ret
            exact ⟨rfl, g1.drewN _⟩
          · rw [dcd_false (fun h => h4 (h.2.2.2.2))]
            have hb4 := bytes_ne h4
            replace KS0 := Lib.hid KS0
            replace KS1 := Lib.hid KS1
            clear h0 h1 h2 h3 h4
            go_enter Tryz.func82, Tryz.ntmps82
            go_wp2_with fail
            refine (KP.out _).mono ?_
            rintro e w1 ⟨rfl, hg1⟩
            have g1 := hal.trans hg1
            have hm1 := hg1
            have r1 := Grew.refl w1
            have d1 := r1.drew
            have gd := g1.trans d1
            have e0 := fun W (hW : Grew w1 W) => f0 W (hg1.trans hW)
            have e2 := fun W (hW : Grew w1 W) => f2 W (hg1.trans hW)
            have e3 := fun W (hW : Grew w1 W) => f3 W (hg1.trans hW)
            have p0a := fun W (hW : Grew w1 W) => q0a W (g1.trans hW)
            have p0c := fun W (hW : Grew w1 W) => q0c W (g1.trans hW)
            have p1a := fun W (hW : Grew w1 W) => q1a W (g1.trans hW)
            have p1c := fun W (hW : Grew w1 W) => q1c W (g1.trans hW)
            clear f0 f2 f3 q0a q0c q1a q1c
            go_wp2_with fail
            have KT0 := Lib.hid (fun n => KS0.out (w1.drewN n) (g1.drewN n))
            have KT1 := Lib.hid (fun n => KS1.out (w1.drewN n) (g1.drewN n))
            go_quiet ((first | (go_at_call 100; exact Calls.quiet_of (KT0.out _)) | (go_at_call 100; exact Calls.quiet_of (KT1.out _))))
            go_wp2_with fail
            go_ret
            exact ⟨rfl, g1.drewN _⟩
        · rw [dcd_false (fun h => h3 (h.2.2.2.1))]
          have hb3 := bytes_ne h3
          replace KS0 := Lib.hid KS0
          replace KS1 := Lib.hid KS1
          clear h0 h1 h2 h3
          go_enter Tryz.func82, Tryz.ntmps82
          go_wp2_with fail
          refine (KP.out _).mono ?_
          rintro e w1 ⟨rfl, hg1⟩
          have g1 := hal.trans hg1
          have hm1 := hg1
          have r1 := Grew.refl w1
          have d1 := r1.drew
          have gd := g1.trans d1
          have e0 := fun W (hW : Grew w1 W) => f0 W (hg1.trans hW)
          have e2 := fun W (hW : Grew w1 W) => f2 W (hg1.trans hW)
          have e3 := fun W (hW : Grew w1 W) => f3 W (hg1.trans hW)
          have p0a := fun W (hW : Grew w1 W) => q0a W (g1.trans hW)
          have p0c := fun W (hW : Grew w1 W) => q0c W (g1.trans hW)
          have p1a := fun W (hW : Grew w1 W) => q1a W (g1.trans hW)
          have p1c := fun W (hW : Grew w1 W) => q1c W (g1.trans hW)
          clear f0 f2 f3 q0a q0c q1a q1c
          go_wp2_with fail
          have KT0 := Lib.hid (fun n => KS0.out (w1.drewN n) (g1.drewN n))
          have KT1 := Lib.hid (fun n => KS1.out (w1.drewN n) (g1.drewN n))
          go_quiet ((first | (go_at_call 100; exact Calls.quiet_of (KT0.out _)) | (go_at_call 100; exact Calls.quiet_of (KT1.out _))))
          go_wp2_with fail
          go_ret
          exact ⟨rfl, g1.drewN _⟩
      · rw [dcd_false (fun h => h2 (h.2.2.1))]
        rw [dcd_false h2] at KS1
        replace KS0 := Lib.hid KS0
        replace KS1 := Lib.hid KS1
        clear h0 h1 h2
        go_enter Tryz.func82, Tryz.ntmps82
        go_wp2_with fail
        refine (KP.out _).mono ?_
        rintro e w1 ⟨rfl, hg1⟩
        have g1 := hal.trans hg1
        have hm1 := hg1
        have r1 := Grew.refl w1
        have d1 := r1.drew
        have gd := g1.trans d1
        have e0 := fun W (hW : Grew w1 W) => f0 W (hg1.trans hW)
        have e2 := fun W (hW : Grew w1 W) => f2 W (hg1.trans hW)
        have e3 := fun W (hW : Grew w1 W) => f3 W (hg1.trans hW)
        have p0a := fun W (hW : Grew w1 W) => q0a W (g1.trans hW)
        have p0c := fun W (hW : Grew w1 W) => q0c W (g1.trans hW)
        have p1a := fun W (hW : Grew w1 W) => q1a W (g1.trans hW)
        have p1c := fun W (hW : Grew w1 W) => q1c W (g1.trans hW)
        clear f0 f2 f3 q0a q0c q1a q1c
        go_wp2_with fail
        have KT0 := Lib.hid (fun n => KS0.out (w1.drewN n) (g1.drewN n))
        have KT1 := Lib.hid (fun n => KS1.out (w1.drewN n) (g1.drewN n))
        go_quiet ((first | (go_at_call 100; exact Calls.quiet_of (KT0.out _)) | (go_at_call 100; exact Calls.quiet_of (KT1.out _))))
        go_wp2_with fail
        go_ret
        exact ⟨rfl, g1.drewN _⟩
    · rw [dcd_false (fun h => h1 (h.2.1))]
      rw [dcd_false h1] at KS0
      replace KS0 := Lib.hid KS0
      replace KS1 := Lib.hid KS1
      clear h0 h1
      go_enter Tryz.func82, Tryz.ntmps82
      go_wp2_with fail
      refine (KP.out _).mono ?_
      rintro e w1 ⟨rfl, hg1⟩
      have g1 := hal.trans hg1
      have hm1 := hg1
      have r1 := Grew.refl w1
      have d1 := r1.drew
      have gd := g1.trans d1
      have e0 := fun W (hW : Grew w1 W) => f0 W (hg1.trans hW)
      have e2 := fun W (hW : Grew w1 W) => f2 W (hg1.trans hW)
      have e3 := fun W (hW : Grew w1 W) => f3 W (hg1.trans hW)
      have p0a := fun W (hW : Grew w1 W) => q0a W (g1.trans hW)
      have p0c := fun W (hW : Grew w1 W) => q0c W (g1.trans hW)
      have p1a := fun W (hW : Grew w1 W) => q1a W (g1.trans hW)
      have p1c := fun W (hW : Grew w1 W) => q1c W (g1.trans hW)
      clear f0 f2 f3 q0a q0c q1a q1c
      go_wp2_with fail
      have KT0 := Lib.hid (fun n => KS0.out (w1.drewN n) (g1.drewN n))
      go_quiet ((first | (go_at_call 100; exact Calls.quiet_of (KT0.out _))))
      go_wp2_with fail
      go_ret
      exact ⟨rfl, g1.drewN _⟩
  · rw [dcd_false (fun h => h0 (h.1))]
    have KP := Lib.hid (fun W => lp_no 2 C W hC h0)
    replace KS0 := Lib.hid KS0
    replace KS1 := Lib.hid KS1
    clear h0
    go_enter Tryz.func82, Tryz.ntmps82
    go_wp2_with fail
    refine (KP.out _).mono ?_
    rintro e w1 ⟨rfl, hg1⟩
    have g1 := hal.trans hg1
    have hm1 := hg1
    have r1 := Grew.refl w1
    have d1 := r1.drew
    have gd := g1.trans d1
    have e0 := fun W (hW : Grew w1 W) => f0 W (hg1.trans hW)
    have e2 := fun W (hW : Grew w1 W) => f2 W (hg1.trans hW)
    have e3 := fun W (hW : Grew w1 W) => f3 W (hg1.trans hW)
    have p0a := fun W (hW : Grew w1 W) => q0a W (g1.trans hW)
    have p0c := fun W (hW : Grew w1 W) => q0c W (g1.trans hW)
    have p1a := fun W (hW : Grew w1 W) => q1a W (g1.trans hW)
    have p1c := fun W (hW : Grew w1 W) => q1c W (g1.trans hW)
    clear f0 f2 f3 q0a q0c q1a q1c
    go_wp2_with fail
    go_quiet (fail)
    go_wp2_with fail
    go_ret
    exact ⟨rfl, g1.drewN _⟩
end Go.Proofs.YtfpkfgimhanekaaGreatDoor

/- l25Rule of the reference at some rules. -/
namespace Go.Proofs.YtfpkfgimhanekaaGreatDoor
open Go.RowKit

set_option maxHeartbeats 8000000 in
set_option maxRecDepth 8192 in
theorem rule_4 (P : List Int) (A : List ByteArray) (C : ByteArray) (N : Int) : RuleC (4, P, A, C, N) 1 := by
  intro up ua vp p w hup hs hv hC hp hl hk
  simp only at hup hs hC hl hk ⊢
  obtain ⟨y0, rfl⟩ := lenL1 hk
  obtain ⟨r0, P0, A0, C0, N0⟩ := y0
  obtain ⟨pb, po, pc, rfl, hpc, hpm, hat⟩ := dds_at hv (by simp)
  have hiff : (introP (4, P, A, C, N) ([(r0, P0, A0, C0, N0)].map jd) ∨ elimP (4, P, A, C, N) ([(r0, P0, A0, C0, N0)].map jd)) ↔ (kT C0 = 2 ∧ A0 = A ∧ C = pl C0) := by
    simp [introP, elimP, jd]
    try grind
  rw [dcd_congr hiff]
  clear hiff
  obtain ⟨ua0, q0a, q0c, hu0⟩ := hat 0 _ rfl
  have hg0 : gp C0 = true := hp (r0, P0, A0, C0, N0) (by simp)
  simp only [Nat.zero_mul, Nat.add_zero] at q0a q0c hu0
  have KS0 := fun W (hW : Grew w W) => same_c ua0 ua A0 A W (hu0.grew hW) (hs.grew hW)
  simp only [List.length_cons, List.length_nil] at hpc ⊢
  obtain ⟨VP, cp, rfl⟩ := ints_slice hup
  obtain ⟨UA, ca, rfl⟩ := strs_slice hs
  obtain ⟨U0, c0, rfl⟩ := strs_slice hu0
  have hal := (Grew.refl w).alloc (.cells #[.int .i64 4, .slice VP P.length cp, .slice UA A.length ca, .string C, .int .i64 N] 52)
  have f0 : ∀ W, Grew (w.alloc (.cells #[.int .i64 4, .slice VP P.length cp, .slice UA A.length ca, .string C, .int .i64 N] 52)) W → W.cell? ⟨w.heap.size, 0, none⟩ = some (.int .i64 4) := fun W hW => (hW.cell (p := ⟨w.heap.size, 0, none⟩) (by simp)).trans (by simp)
  have f2 : ∀ W, Grew (w.alloc (.cells #[.int .i64 4, .slice VP P.length cp, .slice UA A.length ca, .string C, .int .i64 N] 52)) W → W.cell? ⟨w.heap.size, 2, none⟩ = some (.slice UA A.length ca) := fun W hW => (hW.cell (p := ⟨w.heap.size, 2, none⟩) (by simp)).trans (by simp)
  have f3 : ∀ W, Grew (w.alloc (.cells #[.int .i64 4, .slice VP P.length cp, .slice UA A.length ca, .string C, .int .i64 N] 52)) W → W.cell? ⟨w.heap.size, 3, none⟩ = some (.string C) := fun W hW => (hW.cell (p := ⟨w.heap.size, 3, none⟩) (by simp)).trans (by simp)
  clear hup hs hv hat hp hl hk hu0
  generalize P.length = pln at *
  generalize A.length = al at *
  generalize A0.length = al0 at *
  by_cases h0 : kT C0 = 2
  · have hh : True := trivial
    have KP := Lib.hid (fun W => lp_yes 2 C0 W hg0 h0 (by decide))
    by_cases h1 : A0 = A
    · have hh : True := trivial
      rw [dcd_true h1] at KS0
      by_cases h2 : C = pl C0
      · have hh : True := trivial
        have hb2 : (C.toList == (pl C0).toList) = true := by rw [h2]; simp
        rw [dcd_true ⟨h0, h1, h2⟩]
        replace KS0 := Lib.hid KS0
        clear h0 h1 h2
        go_enter Tryz.func82, Tryz.ntmps82
        go_wp2_with fail
        refine (KP.out _).mono ?_
        rintro e w1 ⟨rfl, hg1⟩
        have g1 := hal.trans hg1
        have hm1 := hg1
        have r1 := Grew.refl w1
        have d1 := r1.drew
        have gd := g1.trans d1
        have e0 := fun W (hW : Grew w1 W) => f0 W (hg1.trans hW)
        have e2 := fun W (hW : Grew w1 W) => f2 W (hg1.trans hW)
        have e3 := fun W (hW : Grew w1 W) => f3 W (hg1.trans hW)
        have p0a := fun W (hW : Grew w1 W) => q0a W (g1.trans hW)
        have p0c := fun W (hW : Grew w1 W) => q0c W (g1.trans hW)
        clear f0 f2 f3 q0a q0c
        go_wp2_with fail
        have KT0 := Lib.hid (fun n => KS0.out (w1.drewN n) (g1.drewN n))
        go_quiet ((first | (go_at_call 100; exact Calls.quiet_of (KT0.out _))))
        go_wp2_with fail
        go_ret
        exact ⟨rfl, g1.drewN _⟩
      · rw [dcd_false (fun h => h2 (h.2.2))]
        have hb2 := bytes_ne h2
        replace KS0 := Lib.hid KS0
        clear h0 h1 h2
        go_enter Tryz.func82, Tryz.ntmps82
        go_wp2_with fail
        refine (KP.out _).mono ?_
        rintro e w1 ⟨rfl, hg1⟩
        have g1 := hal.trans hg1
        have hm1 := hg1
        have r1 := Grew.refl w1
        have d1 := r1.drew
        have gd := g1.trans d1
        have e0 := fun W (hW : Grew w1 W) => f0 W (hg1.trans hW)
        have e2 := fun W (hW : Grew w1 W) => f2 W (hg1.trans hW)
        have e3 := fun W (hW : Grew w1 W) => f3 W (hg1.trans hW)
        have p0a := fun W (hW : Grew w1 W) => q0a W (g1.trans hW)
        have p0c := fun W (hW : Grew w1 W) => q0c W (g1.trans hW)
        clear f0 f2 f3 q0a q0c
        go_wp2_with fail
        have KT0 := Lib.hid (fun n => KS0.out (w1.drewN n) (g1.drewN n))
        go_quiet ((first | (go_at_call 100; exact Calls.quiet_of (KT0.out _))))
        go_wp2_with fail
        go_ret
        exact ⟨rfl, g1.drewN _⟩
    · rw [dcd_false (fun h => h1 (h.2.1))]
      rw [dcd_false h1] at KS0
      replace KS0 := Lib.hid KS0
      clear h0 h1
      go_enter Tryz.func82, Tryz.ntmps82
      go_wp2_with fail
      refine (KP.out _).mono ?_
      rintro e w1 ⟨rfl, hg1⟩
      have g1 := hal.trans hg1
      have hm1 := hg1
      have r1 := Grew.refl w1
      have d1 := r1.drew
      have gd := g1.trans d1
      have e0 := fun W (hW : Grew w1 W) => f0 W (hg1.trans hW)
      have e2 := fun W (hW : Grew w1 W) => f2 W (hg1.trans hW)
      have e3 := fun W (hW : Grew w1 W) => f3 W (hg1.trans hW)
      have p0a := fun W (hW : Grew w1 W) => q0a W (g1.trans hW)
      have p0c := fun W (hW : Grew w1 W) => q0c W (g1.trans hW)
      clear f0 f2 f3 q0a q0c
      go_wp2_with fail
      have KT0 := Lib.hid (fun n => KS0.out (w1.drewN n) (g1.drewN n))
      go_quiet ((first | (go_at_call 100; exact Calls.quiet_of (KT0.out _))))
      go_wp2_with fail
      go_ret
      exact ⟨rfl, g1.drewN _⟩
  · rw [dcd_false (fun h => h0 (h.1))]
    have KP := Lib.hid (fun W => lp_no 2 C0 W hg0 h0)
    replace KS0 := Lib.hid KS0
    clear h0
    go_enter Tryz.func82, Tryz.ntmps82
    go_wp2_with fail
    refine (KP.out _).mono ?_
    rintro e w1 ⟨rfl, hg1⟩
    have g1 := hal.trans hg1
    have hm1 := hg1
    have r1 := Grew.refl w1
    have d1 := r1.drew
    have gd := g1.trans d1
    have e0 := fun W (hW : Grew w1 W) => f0 W (hg1.trans hW)
    have e2 := fun W (hW : Grew w1 W) => f2 W (hg1.trans hW)
    have e3 := fun W (hW : Grew w1 W) => f3 W (hg1.trans hW)
    have p0a := fun W (hW : Grew w1 W) => q0a W (g1.trans hW)
    have p0c := fun W (hW : Grew w1 W) => q0c W (g1.trans hW)
    clear f0 f2 f3 q0a q0c
    go_wp2_with fail
    go_quiet (fail)
    go_wp2_with fail
    go_ret
    exact ⟨rfl, g1.drewN _⟩

set_option maxHeartbeats 8000000 in
set_option maxRecDepth 8192 in
theorem rule_5 (P : List Int) (A : List ByteArray) (C : ByteArray) (N : Int) : RuleC (5, P, A, C, N) 1 := by
  intro up ua vp p w hup hs hv hC hp hl hk
  simp only at hup hs hC hl hk ⊢
  obtain ⟨y0, rfl⟩ := lenL1 hk
  obtain ⟨r0, P0, A0, C0, N0⟩ := y0
  obtain ⟨pb, po, pc, rfl, hpc, hpm, hat⟩ := dds_at hv (by simp)
  have hiff : (introP (5, P, A, C, N) ([(r0, P0, A0, C0, N0)].map jd) ∨ elimP (5, P, A, C, N) ([(r0, P0, A0, C0, N0)].map jd)) ↔ (kT C0 = 2 ∧ A0 = A ∧ C = pr C0) := by
    simp [introP, elimP, jd]
    try grind
  rw [dcd_congr hiff]
  clear hiff
  obtain ⟨ua0, q0a, q0c, hu0⟩ := hat 0 _ rfl
  have hg0 : gp C0 = true := hp (r0, P0, A0, C0, N0) (by simp)
  simp only [Nat.zero_mul, Nat.add_zero] at q0a q0c hu0
  have KS0 := fun W (hW : Grew w W) => same_c ua0 ua A0 A W (hu0.grew hW) (hs.grew hW)
  simp only [List.length_cons, List.length_nil] at hpc ⊢
  obtain ⟨VP, cp, rfl⟩ := ints_slice hup
  obtain ⟨UA, ca, rfl⟩ := strs_slice hs
  obtain ⟨U0, c0, rfl⟩ := strs_slice hu0
  have hal := (Grew.refl w).alloc (.cells #[.int .i64 5, .slice VP P.length cp, .slice UA A.length ca, .string C, .int .i64 N] 52)
  have f0 : ∀ W, Grew (w.alloc (.cells #[.int .i64 5, .slice VP P.length cp, .slice UA A.length ca, .string C, .int .i64 N] 52)) W → W.cell? ⟨w.heap.size, 0, none⟩ = some (.int .i64 5) := fun W hW => (hW.cell (p := ⟨w.heap.size, 0, none⟩) (by simp)).trans (by simp)
  have f2 : ∀ W, Grew (w.alloc (.cells #[.int .i64 5, .slice VP P.length cp, .slice UA A.length ca, .string C, .int .i64 N] 52)) W → W.cell? ⟨w.heap.size, 2, none⟩ = some (.slice UA A.length ca) := fun W hW => (hW.cell (p := ⟨w.heap.size, 2, none⟩) (by simp)).trans (by simp)
  have f3 : ∀ W, Grew (w.alloc (.cells #[.int .i64 5, .slice VP P.length cp, .slice UA A.length ca, .string C, .int .i64 N] 52)) W → W.cell? ⟨w.heap.size, 3, none⟩ = some (.string C) := fun W hW => (hW.cell (p := ⟨w.heap.size, 3, none⟩) (by simp)).trans (by simp)
  clear hup hs hv hat hp hl hk hu0
  generalize P.length = pln at *
  generalize A.length = al at *
  generalize A0.length = al0 at *
  by_cases h0 : kT C0 = 2
  · have hh : True := trivial
    have KP := Lib.hid (fun W => lp_yes 2 C0 W hg0 h0 (by decide))
    by_cases h1 : A0 = A
    · have hh : True := trivial
      rw [dcd_true h1] at KS0
      by_cases h2 : C = pr C0
      · have hh : True := trivial
        have hb2 : (C.toList == (pr C0).toList) = true := by rw [h2]; simp
        rw [dcd_true ⟨h0, h1, h2⟩]
        replace KS0 := Lib.hid KS0
        clear h0 h1 h2
        go_enter Tryz.func82, Tryz.ntmps82
        go_wp2_with fail
        refine (KP.out _).mono ?_
        rintro e w1 ⟨rfl, hg1⟩
        have g1 := hal.trans hg1
        have hm1 := hg1
        have r1 := Grew.refl w1
        have d1 := r1.drew
        have gd := g1.trans d1
        have e0 := fun W (hW : Grew w1 W) => f0 W (hg1.trans hW)
        have e2 := fun W (hW : Grew w1 W) => f2 W (hg1.trans hW)
        have e3 := fun W (hW : Grew w1 W) => f3 W (hg1.trans hW)
        have p0a := fun W (hW : Grew w1 W) => q0a W (g1.trans hW)
        have p0c := fun W (hW : Grew w1 W) => q0c W (g1.trans hW)
        clear f0 f2 f3 q0a q0c
        go_wp2_with fail
        have KT0 := Lib.hid (fun n => KS0.out (w1.drewN n) (g1.drewN n))
        go_quiet ((first | (go_at_call 100; exact Calls.quiet_of (KT0.out _))))
        go_wp2_with fail
        go_ret
        exact ⟨rfl, g1.drewN _⟩
      · rw [dcd_false (fun h => h2 (h.2.2))]
        have hb2 := bytes_ne h2
        replace KS0 := Lib.hid KS0
        clear h0 h1 h2
        go_enter Tryz.func82, Tryz.ntmps82
        go_wp2_with fail
        refine (KP.out _).mono ?_
        rintro e w1 ⟨rfl, hg1⟩
        have g1 := hal.trans hg1
        have hm1 := hg1
        have r1 := Grew.refl w1
        have d1 := r1.drew
        have gd := g1.trans d1
        have e0 := fun W (hW : Grew w1 W) => f0 W (hg1.trans hW)
        have e2 := fun W (hW : Grew w1 W) => f2 W (hg1.trans hW)
        have e3 := fun W (hW : Grew w1 W) => f3 W (hg1.trans hW)
        have p0a := fun W (hW : Grew w1 W) => q0a W (g1.trans hW)
        have p0c := fun W (hW : Grew w1 W) => q0c W (g1.trans hW)
        clear f0 f2 f3 q0a q0c
        go_wp2_with fail
        have KT0 := Lib.hid (fun n => KS0.out (w1.drewN n) (g1.drewN n))
        go_quiet ((first | (go_at_call 100; exact Calls.quiet_of (KT0.out _))))
        go_wp2_with fail
        go_ret
        exact ⟨rfl, g1.drewN _⟩
    · rw [dcd_false (fun h => h1 (h.2.1))]
      rw [dcd_false h1] at KS0
      replace KS0 := Lib.hid KS0
      clear h0 h1
      go_enter Tryz.func82, Tryz.ntmps82
      go_wp2_with fail
      refine (KP.out _).mono ?_
      rintro e w1 ⟨rfl, hg1⟩
      have g1 := hal.trans hg1
      have hm1 := hg1
      have r1 := Grew.refl w1
      have d1 := r1.drew
      have gd := g1.trans d1
      have e0 := fun W (hW : Grew w1 W) => f0 W (hg1.trans hW)
      have e2 := fun W (hW : Grew w1 W) => f2 W (hg1.trans hW)
      have e3 := fun W (hW : Grew w1 W) => f3 W (hg1.trans hW)
      have p0a := fun W (hW : Grew w1 W) => q0a W (g1.trans hW)
      have p0c := fun W (hW : Grew w1 W) => q0c W (g1.trans hW)
      clear f0 f2 f3 q0a q0c
      go_wp2_with fail
      have KT0 := Lib.hid (fun n => KS0.out (w1.drewN n) (g1.drewN n))
      go_quiet ((first | (go_at_call 100; exact Calls.quiet_of (KT0.out _))))
      go_wp2_with fail
      go_ret
      exact ⟨rfl, g1.drewN _⟩
  · rw [dcd_false (fun h => h0 (h.1))]
    have KP := Lib.hid (fun W => lp_no 2 C0 W hg0 h0)
    replace KS0 := Lib.hid KS0
    clear h0
    go_enter Tryz.func82, Tryz.ntmps82
    go_wp2_with fail
    refine (KP.out _).mono ?_
    rintro e w1 ⟨rfl, hg1⟩
    have g1 := hal.trans hg1
    have hm1 := hg1
    have r1 := Grew.refl w1
    have d1 := r1.drew
    have gd := g1.trans d1
    have e0 := fun W (hW : Grew w1 W) => f0 W (hg1.trans hW)
    have e2 := fun W (hW : Grew w1 W) => f2 W (hg1.trans hW)
    have e3 := fun W (hW : Grew w1 W) => f3 W (hg1.trans hW)
    have p0a := fun W (hW : Grew w1 W) => q0a W (g1.trans hW)
    have p0c := fun W (hW : Grew w1 W) => q0c W (g1.trans hW)
    clear f0 f2 f3 q0a q0c
    go_wp2_with fail
    go_quiet (fail)
    go_wp2_with fail
    go_ret
    exact ⟨rfl, g1.drewN _⟩
end Go.Proofs.YtfpkfgimhanekaaGreatDoor

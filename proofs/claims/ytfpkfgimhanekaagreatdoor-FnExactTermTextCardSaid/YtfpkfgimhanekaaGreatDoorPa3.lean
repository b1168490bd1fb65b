/- Texts in one file: TtI LawTtx ArgT. -/
import Derived.Deep.SlicePairs
import Derived.Lib.SmallJoins
import Derived.Carry
import Derived.ProofKit
import Derived.Test.YtfpkfgimhanekaaGreatDoorPa1
import Derived.Test.YtfpkfgimhanekaaGreatDoorPa2
set_option linter.all false

/- termText of the program; TermText of both. Printed by tti.py. -/
namespace Go.Proofs.YtfpkfgimhanekaaGreatDoor
open Go.RowKit
open Tr (Tm)

/-- The texts of the parts. -/
def ktx (t : Tm) : List ByteArray := (Tr.kids t).map fun s => bs (ttx s)
/-- The text of a term out of its kind, its number, its type, the texts of its parts. -/
inductive TtC : Int → Int → ByteArray → List ByteArray → ByteArray → Prop
  | c0 (n T) (h0 : 0 ≤ n) (h1 : n ≤ 99) : TtC 0 n T [] (⟨#[120]⟩ ++ dcm n.toNat)
  | c1 (n T A) : TtC 1 n T [A] (⟨#[47]⟩ ++ T ++ ⟨#[58]⟩ ++ A)
  | c4 (n T A) : TtC 4 n T [A] (⟨#[49]⟩ ++ A)
  | c5 (n T A) : TtC 5 n T [A] (⟨#[50]⟩ ++ A)
  | c6 (n T A) : TtC 6 n T [A] (⟨#[108]⟩ ++ T ++ ⟨#[58]⟩ ++ A)
  | c7 (n T A) : TtC 7 n T [A] (⟨#[114]⟩ ++ T ++ ⟨#[58]⟩ ++ A)
  | c9 (n T A) : TtC 9 n T [A] (⟨#[102]⟩ ++ T ++ ⟨#[58]⟩ ++ A)
  | c2 (n T A B) : TtC 2 n T [A, B] (⟨#[40]⟩ ++ A ++ ⟨#[32]⟩ ++ B ++ ⟨#[41]⟩)
  | c3 (n T A B) : TtC 3 n T [A, B] (⟨#[91]⟩ ++ A ++ ⟨#[44]⟩ ++ B ++ ⟨#[93]⟩)
  | c8 (n T A B C) : TtC 8 n T [A, B, C] (⟨#[123]⟩ ++ ⟨(joinB [A, B, C] ⟨#[59]⟩).toArray⟩ ++ ⟨#[125]⟩)
theorem TtC.ors {k n : Int} {T : ByteArray} {K : List ByteArray} {R : ByteArray} (h : TtC k n T K R) :
    (k = 0 ∧ 0 ≤ n ∧ n ≤ 99 ∧ K = [] ∧ R = ⟨#[120]⟩ ++ dcm n.toNat) ∨ (k = 1 ∧ ∃ A, K = [A] ∧ R = ⟨#[47]⟩ ++ T ++ ⟨#[58]⟩ ++ A) ∨ (k = 4 ∧ ∃ A, K = [A] ∧ R = ⟨#[49]⟩ ++ A) ∨ (k = 5 ∧ ∃ A, K = [A] ∧ R = ⟨#[50]⟩ ++ A) ∨
    (k = 6 ∧ ∃ A, K = [A] ∧ R = ⟨#[108]⟩ ++ T ++ ⟨#[58]⟩ ++ A) ∨ (k = 7 ∧ ∃ A, K = [A] ∧ R = ⟨#[114]⟩ ++ T ++ ⟨#[58]⟩ ++ A) ∨ (k = 9 ∧ ∃ A, K = [A] ∧ R = ⟨#[102]⟩ ++ T ++ ⟨#[58]⟩ ++ A) ∨
    (k = 2 ∧ ∃ A B, K = [A, B] ∧ R = ⟨#[40]⟩ ++ A ++ ⟨#[32]⟩ ++ B ++ ⟨#[41]⟩) ∨ (k = 3 ∧ ∃ A B, K = [A, B] ∧ R = ⟨#[91]⟩ ++ A ++ ⟨#[44]⟩ ++ B ++ ⟨#[93]⟩) ∨
    (k = 8 ∧ ∃ A B C, K = [A, B, C] ∧ R = ⟨#[123]⟩ ++ ⟨(joinB [A, B, C] ⟨#[59]⟩).toArray⟩ ++ ⟨#[125]⟩) := by
  cases h
  case c0 h0 h1 => exact .inl ⟨rfl, h0, h1, rfl, rfl⟩
  case c1 => exact .inr (.inl ⟨rfl, _, rfl, rfl⟩)
  case c4 => exact .inr (.inr (.inl ⟨rfl, _, rfl, rfl⟩))
  case c5 => exact .inr (.inr (.inr (.inl ⟨rfl, _, rfl, rfl⟩)))
  case c6 => exact .inr (.inr (.inr (.inr (.inl ⟨rfl, _, rfl, rfl⟩))))
  case c7 => exact .inr (.inr (.inr (.inr (.inr (.inl ⟨rfl, _, rfl, rfl⟩)))))
  case c9 => exact .inr (.inr (.inr (.inr (.inr (.inr (.inl ⟨rfl, _, rfl, rfl⟩))))))
  case c2 => exact .inr (.inr (.inr (.inr (.inr (.inr (.inr (.inl ⟨rfl, _, _, rfl, rfl⟩)))))))
  case c3 => exact .inr (.inr (.inr (.inr (.inr (.inr (.inr (.inr (.inl ⟨rfl, _, _, rfl, rfl⟩))))))))
  case c8 => exact .inr (.inr (.inr (.inr (.inr (.inr (.inr (.inr (.inr ⟨rfl, _, _, _, rfl, rfl⟩))))))))
theorem bsc (c : UInt8) : bs [c] = ⟨#[c]⟩ := rfl
theorem ttc_one {x : Tn} {a : Tm} (k : Int) (c : UInt8) (hk : x.1 = k) (h45 : ¬ (k = 4 ∨ k = 5)) (hc : chK k = c) : bs (ttx (.t1 x a)) = ⟨#[c]⟩ ++ x.2.2 ++ ⟨#[58]⟩ ++ bs (ttx a) := by
  have e : x.2.2 = bs (sl x.2.2) := (bs_eq _).symm
  conv => rhs; rw [e]
  rw [← bsc c, ← bsc 58, bs_append, bs_append, bs_append]
  simp only [ttx]
  rw [if_neg (by rw [hk]; exact h45), hk, hc]
  simp
theorem ttc_of {t : Tm} (h : Good t) : TtC (Tr.hd t).1 (Tr.hd t).2.1 (Tr.hd t).2.2 (ktx t) (bs (ttx t)) := by
  cases t with
  | t0 x =>
    have hk : x.1 = 0 := (good_leaf h).1 rfl
    obtain ⟨a1, a2, _⟩ := goodN_var h.2 hk
    have e : bs (ttx (.t0 x)) = ⟨#[120]⟩ ++ dcm x.2.1.toNat := by
      show bs (120 :: decL x.2.1) = _
      obtain ⟨m, hm⟩ : ∃ m : Nat, x.2.1 = m := ⟨x.2.1.toNat, by omega⟩
      rw [hm, Int.toNat_natCast, ← decL_dcm (by omega), ← bsc 120, bs_append]
      rfl
    rw [e]
    show TtC x.1 x.2.1 x.2.2 [] _
    rw [hk]
    exact .c0 _ _ a1 a2
  | t1 x a =>
    show TtC x.1 x.2.1 x.2.2 [bs (ttx a)] _
    rcases ar_one (show Tr.ar x.1 = 1 from h.1.1) with hk | hk | hk | hk | hk | hk
    · rw [ttc_one 1 47 hk (by decide) (by decide), hk]; exact .c1 _ _ _
    · have e : bs (ttx (.t1 x a)) = ⟨#[49]⟩ ++ bs (ttx a) := by rw [← bsc 49, bs_append]; simp only [ttx]; rw [if_pos (by omega), hk]; rfl
      rw [e, hk]; exact .c4 _ _ _
    · have e : bs (ttx (.t1 x a)) = ⟨#[50]⟩ ++ bs (ttx a) := by rw [← bsc 50, bs_append]; simp only [ttx]; rw [if_pos (by omega), hk]; rfl
      rw [e, hk]; exact .c5 _ _ _
    · rw [ttc_one 6 108 hk (by decide) (by decide), hk]; exact .c6 _ _ _
    · rw [ttc_one 7 114 hk (by decide) (by decide), hk]; exact .c7 _ _ _
    · rw [ttc_one 9 102 hk (by decide) (by decide), hk]; exact .c9 _ _ _
  | t2 x a b =>
    show TtC x.1 x.2.1 x.2.2 [bs (ttx a), bs (ttx b)] _
    rcases ar_two (show Tr.ar x.1 = 2 from h.1.1) with hk | hk
    · have e : bs (ttx (.t2 x a b)) = ⟨#[40]⟩ ++ bs (ttx a) ++ ⟨#[32]⟩ ++ bs (ttx b) ++ ⟨#[41]⟩ := by
        rw [← bsc 40, ← bsc 32, ← bsc 41, bs_append, bs_append, bs_append, bs_append]; simp only [ttx]; rw [if_pos hk]; simp
      rw [e, hk]; exact .c2 _ _ _ _
    · have e : bs (ttx (.t2 x a b)) = ⟨#[91]⟩ ++ bs (ttx a) ++ ⟨#[44]⟩ ++ bs (ttx b) ++ ⟨#[93]⟩ := by
        rw [← bsc 91, ← bsc 44, ← bsc 93, bs_append, bs_append, bs_append, bs_append]; simp only [ttx]; rw [if_neg (by omega)]; simp
      rw [e, hk]; exact .c3 _ _ _ _
  | t3 x a b c =>
    show TtC x.1 x.2.1 x.2.2 [bs (ttx a), bs (ttx b), bs (ttx c)] _
    have hk := ar_three (show Tr.ar x.1 = 3 from h.1.1)
    have e : bs (ttx (.t3 x a b c)) = ⟨#[123]⟩ ++ ⟨(joinB [bs (ttx a), bs (ttx b), bs (ttx c)] ⟨#[59]⟩).toArray⟩ ++ ⟨#[125]⟩ := by
      have ej : (⟨(joinB [bs (ttx a), bs (ttx b), bs (ttx c)] ⟨#[59]⟩).toArray⟩ : ByteArray) = bs (ttx a ++ 59 :: (ttx b ++ 59 :: ttx c)) := by
        unfold joinB Lib.join
        show bs _ = bs _
        congr 1
        simp [List.intercalate, bs, List.intersperse]
      rw [ej, ← bsc 123, ← bsc 125, bs_append, bs_append]; simp [ttx]
    rw [e, hk]; exact .c8 _ _ _ _ _
theorem ktx_size {t : Tm} (h : Good t) (hn : (Tr.enc t).length ≤ 60) : ∀ s ∈ ktx t, s.size ≤ 10200 := fun s hs => by
  unfold ktx at hs
  obtain ⟨u, hu, rfl⟩ := List.mem_map.1 hs
  have h1 := ttx_len u (Tr.kids_wf h u hu)
  obtain ⟨i, hi, rfl⟩ := List.getElem_of_mem hu
  have h2 := Tr.kid_lt hi
  rw [bs_size]
  omega
theorem ktx_len (t : Tm) : (ktx t).length = (Tr.kids t).length := by unfold ktx; rw [List.length_map]
theorem ktx_at {t : Tm} {i : Nat} (hi : i < (Tr.kids t).length) : (ktx t).take (i + 1) = (ktx t).take i ++ [bs (ttx (Tr.kid t i))] := by
  have h : (ktx t)[i]? = some (bs (ttx (Tr.kid t i))) := by
    unfold ktx
    rw [List.getElem?_map, List.getElem?_eq_getElem hi, Tr.kid_eq hi]; rfl
  rw [List.take_add_one, h]; rfl
theorem lead_q (k : Int) (w : World) (h : k = 6 ∨ k = 7 ∨ k = 9) : Calls Tryz.prog 40 #[.int .i64 k] w fun e w' => e = .returned (.int .i64 (if k = 9 then 3 else k - 6)) ∧ w' = w := by
  rcases h with rfl | rfl | rfl
  all_goals
    go_enter Tryz.func40, Tryz.ntmps40
    go_wp2_with fail
    go_ret
    exact ⟨rfl, rfl⟩
def TxtI (t : Tm) : Prop := ∀ v w, Tms w v (Tr.enc t) → Calls Tryz.prog 20 #[v] w (Says w (ttx t))

set_option maxRecDepth 20000 in
set_option maxHeartbeats 8000000 in
theorem termText_c : ∀ t : Tm, Good t → (Tr.enc t).length ≤ 60 → TxtI t := by
  intro t0
  refine Tr.ind (P := fun t => Good t → (Tr.enc t).length ≤ 60 → TxtI t) (fun t ih hg hn => ?_) t0
  intro v w h
  have KIH := Lib.hid (fun i (hi : i < (Tr.kids t).length) u W (hu : Tms W u (Tr.enc (Tr.kid t i))) => ih _ (Tr.kid_mem hi) (Tr.kids_wf hg _ (Tr.kid_mem hi)) (by have := Tr.kid_small hi; omega) u W hu)
  have KI := Lib.hid (inner_c v t w h hg (by omega))
  have HT := Lib.hid (ttc_of hg)
  have HSZ := Lib.hid (ktx_size hg hn)
  have HKL := Lib.hid (ktx_len t)
  have HKA := Lib.hid (fun i hi => ktx_at (t := t) (i := i) hi)
  have hT := goodN_fits160 (Tr.hd_wf hg)
  have hkl3 : (Tr.kids t).length ≤ 3 := by rw [Tr.kids_len hg]; exact Tr.ar_le _
  obtain ⟨b, o, c, rfl, hc, hm, hb, hcl⟩ := tms_head h
  have hpos := Tr.enc_pos t
  have k0 := fun W (hW : Grew w W) => (hcl W hW).1
  have k1 := fun W (hW : Grew w W) => (hcl W hW).2.1
  have k2 := fun W (hW : Grew w W) => (hcl W hW).2.2
  unfold TxtI Says at KIH
  unfold Says
  clear hcl h ih
  generalize (Tr.enc t).length = n at *
  generalize hkk : (Tr.hd t).1 = k at *
  generalize (Tr.hd t).2.1 = xn at *
  generalize (Tr.hd t).2.2 = T at *
  generalize hR : bs (ttx t) = R at *
  generalize hK : ktx t = K at *
  generalize hM : (Tr.kids t).length = m at *
  have HM := Lib.hid hM
  clear hkk hM hK hR hg
  have hlk := HKL.out
  go_enter Tryz.func20, Tryz.ntmps20
  go_wp2_with fail
  refine (KI.out).mono ?_
  rintro e w1 ⟨u, rfl, hu, hg1⟩
  rcases hu with ⟨rfl, hnil⟩ | ⟨b1, o1, c1, rfl, hc1, hm1, hb1, hel⟩
  case inl =>
    have hm0 : m = 0 := by rw [← HM.out, hnil]; rfl
    subst hm0
    obtain rfl : K = [] := List.eq_nil_of_length_eq_zero hlk
    have HT2 := HT.out
    clear HT KI KIH HSZ HKA HKL HM hnil hc hlk
    rcases HT2.ors with ⟨rfl, h0, h1, _, rfl⟩ | ⟨_, A, hA, _⟩ | ⟨_, A, hA, _⟩ | ⟨_, A, hA, _⟩ | ⟨_, A, hA, _⟩ | ⟨_, A, hA, _⟩ | ⟨_, A, hA, _⟩ | ⟨_, A, B, hA, _⟩ | ⟨_, A, B, hA, _⟩ | ⟨_, A, B, C, hA, _⟩
    rotate_left
    iterate 9 (cases hA)
    clear HT2
    obtain ⟨q, rfl⟩ : ∃ q : Nat, xn = q := ⟨xn.toNat, by omega⟩
    simp only [Int.toNat_natCast] at *
    have KD := Lib.hid (fun W => decimal_small q W (by omega))
    have hds : (dcm q).size ≤ 3 := by rw [dcm_size]; exact nDigits_le 2 q (by omega)
    generalize hD9 : dcm q = D at *
    have HD9 := Lib.hid hD9
    clear hD9
    have s1 : ¬ 9223372036854775807 < 1 + D.size := by omega
    have z0 := k0 _ hg1
    have z1 := k1 _ hg1
    clear k0 k1 k2
    go_wp2_with fail
    refine wp_loop_rounds 1 ?_; rw [rounds_succ]
    go_wp2_with fail
    refine (KD.out _).mono ?_
    rintro e w2 ⟨rfl, rfl⟩
    go_wp2_with fail
    go_ret
    exact ⟨by rw [Int.toNat_natCast, HD9.out]; rfl, hg1⟩
  case inr =>
    have HEL := Lib.hid hel
    rw [HM.out]
    have hmm := HM.out
    rw [hmm] at hc1
    have HK2 : Hid (K.take m = K) := Lib.hid (by rw [← hlk, List.take_length])
    clear hel KI hmm
    go_wp2_with fail
    go_loopw [3, 9] (fun vv i wr => ∃ (j : Nat), j ≤ m ∧ i = .int .i64 j ∧ Hid (OwnS wr w1.heap.size vv (K.take j)) ∧ Grew w1 wr) (fun _ i _ => m - (intOf i).toNat)
    case atStart => exact ⟨0, Nat.zero_le _, rfl, by rw [List.take_zero]; exact Lib.hid (OwnS.nil_ _ _), Grew.refl _⟩
    case round =>
      obtain ⟨j, hj, rfl, hO, hB1⟩ := hrel
      have hB := hg1.trans hB1
      have hljl : (K.take j).length = j := by rw [List.length_take]; omega
      obtain ⟨AJ, cj, rfl⟩ := strs_slice hO.out.strs
      by_cases hlt : j < m
      · obtain ⟨uj, hcu, htu⟩ := HEL.out j (by rw [HM.out]; exact hlt)
        have KJ := Lib.hid (KIH.out j hlt uj wr (htu.grew hB1))
        have hst := Lib.hid (HKA.out j hlt)
        have z0 := (hB1.cell (p := ⟨b1, o1 + j, none⟩) hb1).trans hcu
        obtain ⟨UA, uc, rfl⟩ := tms_slice htu
        clear htu hcu
        generalize bs (ttx (Tr.kid t j)) = sj at *
        generalize (Tr.enc (Tr.kid t j)).length = lj at *
        rw [hljl]
        rw [hljl] at hO
        generalize hk1 : K.take (j + 1) = K1 at *
        have HK1 := Lib.hid hk1
        clear hk1
        generalize K.take j = K0 at *
        have hlj := Lib.hid (show K0.length ≤ 1048576 by omega)
        go_wp2_with fail
        refine (KJ.out).mono ?_
        rintro e w2 ⟨rfl, hg2⟩
        have hB2 := hB1.trans hg2
        have hO2 := Lib.hid (hO.out.grew hg2)
        go_wp2_with (first | (at_builtin; refine wpList_appStr (w0 := w1) _ _ rfl rfl _ K0 rfl (hO2.out.grew ((Grew.refl _).alloc _)) (hB2.alloc _) _ sj rfl (rd_lit _ _ _) hlj.out ?_; intro v3 w3 hown3 hg3 hby3))
        go_roundw
        case rel => exact ⟨j + 1, by omega, by go_num, by rw [HK1.out, hst.out]; exact Lib.hid hown3, hg3⟩
        case measure => simp [intOf]; omega
      · obtain rfl : j = m := by omega
        rw [HK2.out] at hO hljl
        rw [HK2.out]
        have hst := hO.out.strs
        have HT2 := HT.out
        have hwr := Grew.refl wr
        have q0 := fun W (hW : Grew wr W) => k0 W (hB.trans hW)
        have q1 := fun W (hW : Grew wr W) => k1 W (hB.trans hW)
        have q2 := fun W (hW : Grew wr W) => k2 W (hB.trans hW)
        clear HT KIH HKA HKL HM HEL HK2 k0 k1 k2 hc1 hlt hlk hljl
        rcases HT2.ors with ⟨rfl, h0, h1, rfl, rfl⟩ | ⟨rfl, A, rfl, rfl⟩ | ⟨rfl, A, rfl, rfl⟩ | ⟨rfl, A, rfl, rfl⟩ | ⟨rfl, A, rfl, rfl⟩ | ⟨rfl, A, rfl, rfl⟩ | ⟨rfl, A, rfl, rfl⟩ | ⟨rfl, A, B, rfl, rfl⟩ | ⟨rfl, A, B, rfl, rfl⟩ | ⟨rfl, A, B, C, rfl, rfl⟩
        · clear HT2
          obtain ⟨q, rfl⟩ : ∃ q : Nat, xn = q := ⟨xn.toNat, by omega⟩
          simp only [Int.toNat_natCast, List.length_nil] at *
          have KD := Lib.hid (fun W => decimal_small q W (by omega))
          have hds : (dcm q).size ≤ 3 := by rw [dcm_size]; exact nDigits_le 2 q (by omega)
          generalize hD9 : dcm q = D at *
          have HD9 := Lib.hid hD9
          clear hD9
          have s1 : ¬ 9223372036854775807 < 1 + D.size := by omega
          have z0 := q0 _ hwr
          have z1 := q1 _ hwr
          clear q0 q1 q2
          go_wp2_with fail
          refine (KD.out _).mono ?_
          rintro e w2 ⟨rfl, rfl⟩
          go_wp2_with fail
          go_ret
          exact ⟨by rw [Int.toNat_natCast, HD9.out]; rfl, hB⟩
        · clear HT2
          obtain ⟨ba, oa, ca, hva, hca, hma, hba, fa⟩ := strs_one hst
          have sA := HSZ.out A (by simp)
          cases hva
          simp only [List.length_cons, List.length_nil] at *
          have z0 := q0 _ hwr
          clear HSZ
          have s1 : ¬ 9223372036854775807 < 1 + T.size := by omega
          have s2 : ¬ 9223372036854775807 < 1 + T.size + 1 := by omega
          have s3 : ¬ 9223372036854775807 < 1 + T.size + 1 + A.size := by omega
          go_wp2_with fail
          go_quiet (fail)
          go_wp2_with fail
          go_ret
          exact ⟨rfl, hB.drewN _⟩
        · clear HT2
          obtain ⟨ba, oa, ca, hva, hca, hma, hba, fa⟩ := strs_one hst
          have sA := HSZ.out A (by simp)
          cases hva
          simp only [List.length_cons, List.length_nil] at *
          have z0 := q0 _ hwr
          have z1 := fa _ hwr
          clear q0 q1 q2 fa HSZ
          have s1 : ¬ 9223372036854775807 < 1 + A.size := by omega
          go_wp2_with fail
          go_ret
          exact ⟨rfl, hB⟩
        · clear HT2
          obtain ⟨ba, oa, ca, hva, hca, hma, hba, fa⟩ := strs_one hst
          have sA := HSZ.out A (by simp)
          cases hva
          simp only [List.length_cons, List.length_nil] at *
          have z0 := q0 _ hwr
          have z1 := fa _ hwr
          clear q0 q1 q2 fa HSZ
          have s1 : ¬ 9223372036854775807 < 1 + A.size := by omega
          go_wp2_with fail
          go_ret
          exact ⟨rfl, hB⟩
        · clear HT2
          obtain ⟨ba, oa, ca, hva, hca, hma, hba, fa⟩ := strs_one hst
          have sA := HSZ.out A (by simp)
          cases hva
          simp only [List.length_cons, List.length_nil] at *
          have z0 := q0 _ hwr
          clear HSZ
          have s1 : ¬ 9223372036854775807 < 1 + T.size := by omega
          have s2 : ¬ 9223372036854775807 < 1 + T.size + 1 := by omega
          have s3 : ¬ 9223372036854775807 < 1 + T.size + 1 + A.size := by omega
          have KL : Hid (∀ W, Calls Tryz.prog 40 #[.int .i64 6] W fun e w' => e = .returned (.int .i64 0) ∧ w' = W) := Lib.hid (fun W => lead_q 6 W (by decide))
          go_wp2_with fail
          go_quiet ((first | (go_at_call 40; exact Calls.quiet_of_same (KL.out _))))
          go_wp2_with fail
          go_ret
          exact ⟨rfl, hB.drewN _⟩
        · clear HT2
          obtain ⟨ba, oa, ca, hva, hca, hma, hba, fa⟩ := strs_one hst
          have sA := HSZ.out A (by simp)
          cases hva
          simp only [List.length_cons, List.length_nil] at *
          have z0 := q0 _ hwr
          clear HSZ
          have s1 : ¬ 9223372036854775807 < 1 + T.size := by omega
          have s2 : ¬ 9223372036854775807 < 1 + T.size + 1 := by omega
          have s3 : ¬ 9223372036854775807 < 1 + T.size + 1 + A.size := by omega
          have KL : Hid (∀ W, Calls Tryz.prog 40 #[.int .i64 7] W fun e w' => e = .returned (.int .i64 1) ∧ w' = W) := Lib.hid (fun W => lead_q 7 W (by decide))
          go_wp2_with fail
          go_quiet ((first | (go_at_call 40; exact Calls.quiet_of_same (KL.out _))))
          go_wp2_with fail
          go_ret
          exact ⟨rfl, hB.drewN _⟩
        · clear HT2
          obtain ⟨ba, oa, ca, hva, hca, hma, hba, fa⟩ := strs_one hst
          have sA := HSZ.out A (by simp)
          cases hva
          simp only [List.length_cons, List.length_nil] at *
          have z0 := q0 _ hwr
          clear HSZ
          have s1 : ¬ 9223372036854775807 < 1 + T.size := by omega
          have s2 : ¬ 9223372036854775807 < 1 + T.size + 1 := by omega
          have s3 : ¬ 9223372036854775807 < 1 + T.size + 1 + A.size := by omega
          have KL : Hid (∀ W, Calls Tryz.prog 40 #[.int .i64 9] W fun e w' => e = .returned (.int .i64 3) ∧ w' = W) := Lib.hid (fun W => lead_q 9 W (by decide))
          go_wp2_with fail
          go_quiet ((first | (go_at_call 40; exact Calls.quiet_of_same (KL.out _))))
          go_wp2_with fail
          go_ret
          exact ⟨rfl, hB.drewN _⟩
        · clear HT2
          obtain ⟨ba, oa, ca, hva, hca, hma, hba, fa⟩ := strs_two hst
          have sA := HSZ.out A (by simp)
          have sB := HSZ.out B (by simp)
          have fb := fun W hW => (fa W hW).2
          have fa := fun W hW => (fa W hW).1
          cases hva
          simp only [List.length_cons, List.length_nil] at *
          have z0 := q0 _ hwr
          clear HSZ
          have s1 : ¬ 9223372036854775807 < 1 + A.size := by omega
          have s2 : ¬ 9223372036854775807 < 1 + A.size + 1 := by omega
          have s3 : ¬ 9223372036854775807 < 1 + A.size + 1 + B.size := by omega
          have s4 : ¬ 9223372036854775807 < 1 + A.size + 1 + B.size + 1 := by omega
          go_wp2_with fail
          go_quiet (fail)
          go_wp2_with fail
          go_ret
          exact ⟨rfl, hB.drewN _⟩
        · clear HT2
          obtain ⟨ba, oa, ca, hva, hca, hma, hba, fa⟩ := strs_two hst
          have sA := HSZ.out A (by simp)
          have sB := HSZ.out B (by simp)
          have fb := fun W hW => (fa W hW).2
          have fa := fun W hW => (fa W hW).1
          cases hva
          simp only [List.length_cons, List.length_nil] at *
          have z0 := q0 _ hwr
          clear HSZ
          have s1 : ¬ 9223372036854775807 < 1 + A.size := by omega
          have s2 : ¬ 9223372036854775807 < 1 + A.size + 1 := by omega
          have s3 : ¬ 9223372036854775807 < 1 + A.size + 1 + B.size := by omega
          have s4 : ¬ 9223372036854775807 < 1 + A.size + 1 + B.size + 1 := by omega
          go_wp2_with fail
          go_quiet (fail)
          go_wp2_with fail
          go_ret
          exact ⟨rfl, hB.drewN _⟩
        · clear HT2
          have sA := HSZ.out A (by simp)
          have sB := HSZ.out B (by simp)
          have sC := HSZ.out C (by simp)
          simp only [List.length_cons, List.length_nil] at *
          have z0 := q0 _ hwr
          clear q0 q1 q2 HSZ
          have hjl : (joinB [A, B, C] ⟨#[59]⟩).length ≤ 40000 := by
            have e : joinB [A, B, C] ⟨#[59]⟩ = A.data.toList ++ 59 :: (B.data.toList ++ 59 :: C.data.toList) := by
              unfold joinB Lib.join
              simp [List.intercalate, List.intersperse]
            rw [e]
            have e1 : A.data.toList.length = A.size := rfl
            have e2 : B.data.toList.length = B.size := rfl
            have e3 : C.data.toList.length = C.size := rfl
            simp only [List.length_append, List.length_cons]
            omega
          have KJ := Lib.hid (fun v (hv : Strs wr v [A, B, C]) => joinS_c v [A, B, C] ⟨#[59]⟩ wr hv (by simp) (by omega))
          have HS := Lib.hid hst
          have hsz : (⟨(joinB [A, B, C] ⟨#[59]⟩).toArray⟩ : ByteArray).size ≤ 40000 := by show (joinB [A, B, C] ⟨#[59]⟩).toArray.size ≤ 40000; rw [List.size_toArray]; exact hjl
          clear hst hjl
          generalize hJ : (⟨(joinB [A, B, C] ⟨#[59]⟩).toArray⟩ : ByteArray) = J at *
          have HJ := Lib.hid hJ
          clear hJ
          have s1 : ¬ 9223372036854775807 < 1 + J.size := by omega
          have s2 : ¬ 9223372036854775807 < 1 + J.size + 1 := by omega
          go_wp2_with fail
          refine (KJ.out _ HS.out).mono ?_
          rintro e w2 ⟨rfl, hg2⟩
          go_wp2_with fail
          go_ret
          exact ⟨by rw [HJ.out]; rfl, hB.trans hg2⟩

noncomputable def ttxF (xs : List Tn) : ByteArray × Int := if tmB xs then (bs (ttx (tmT xs)), 0) else (ByteArray.empty, 1)
def GivesStr (w : World) (r : ByteArray × Int) (e : Ending) (w' : World) : Prop := e = .returned (.tuple #[.string r.1, .int .i64 r.2]) ∧ Grew w w'

theorem implTtx_c (v : Value) (xs : List Tn) (w : World) (h : Tms w v xs) (hfit : FitsT xs) (hn : xs.length ≤ 1048576) :
    Calls Tryz.prog 8 #[v] w (GivesStr w (ttxF xs)) := by
  have HI := isTerm_c v xs w h hfit hn
  unfold GivesStr ttxF
  cases hb : tmB xs with
  | false =>
    rw [hb] at HI
    replace HI := Lib.hid HI
    obtain ⟨A, c, rfl⟩ := tms_slice h
    clear h hfit hb
    go_enter Tryz.func8, Tryz.ntmps8
    go_wp2_with fail
    refine (HI.out).mono ?_
    rintro e w1 ⟨rfl, hg1⟩
    go_wp2_with fail
    go_ret2
    exact ⟨rfl, hg1⟩
  | true =>
    rw [hb] at HI
    replace HI := Lib.hid HI
    obtain ⟨t1, t2, t3⟩ := tmT_ok hb
    have HT := Lib.hid (fun W (hW : Grew w W) => termText_c (tmT xs) t1 (by rw [t2]; exact t3) v W (by rw [t2]; exact h.grew hW))
    unfold Says at HT
    rw [if_pos rfl]
    obtain ⟨A, c, rfl⟩ := tms_slice h
    clear h hfit hb t1 t2 t3
    generalize bs (ttx (tmT xs)) = R at *
    go_enter Tryz.func8, Tryz.ntmps8
    go_wp2_with fail
    refine (HI.out).mono ?_
    rintro e w1 ⟨rfl, hg1⟩
    go_wp2_with fail
    refine (HT.out _ hg1).mono ?_
    rintro e w2 ⟨rfl, hg2⟩
    go_wp2_with fail
    go_ret2
    exact ⟨rfl, hg1.trans hg2⟩
theorem specTtx_c (v : Value) (xs : List Tn) (w : World) (h : Tms w v xs) (hfit : FitsT xs) (hn : xs.length ≤ 1048576) :
    Calls Tryz.prog 6 #[v] w (GivesStr w (ttxF xs)) := by
  have HI := l26Is_c v xs w h hfit hn
  unfold GivesStr ttxF
  cases hb : tmB xs with
  | false =>
    rw [hb] at HI
    replace HI := Lib.hid HI
    obtain ⟨A, c, rfl⟩ := tms_slice h
    clear h hfit hb
    go_enter Tryz.func6, Tryz.ntmps6
    go_wp2_with fail
    refine (HI.out).mono ?_
    rintro e w1 ⟨rfl, hg1⟩
    go_wp2_with fail
    go_ret2
    exact ⟨rfl, hg1⟩
  | true =>
    rw [hb] at HI
    replace HI := Lib.hid HI
    obtain ⟨t1, t2, t3⟩ := tmT_ok hb
    have HT := Lib.hid (fun W (hW : Grew w W) => l26Text_c (tmT xs) t1 (by rw [t2]; exact t3) v W (by rw [t2]; exact h.grew hW))
    unfold Says at HT
    rw [if_pos rfl]
    obtain ⟨A, c, rfl⟩ := tms_slice h
    clear h hfit hb t1 t2 t3
    generalize bs (ttx (tmT xs)) = R at *
    go_enter Tryz.func6, Tryz.ntmps6
    go_wp2_with fail
    refine (HI.out).mono ?_
    rintro e w1 ⟨rfl, hg1⟩
    go_wp2_with fail
    refine (HT.out _ hg1).mono ?_
    rintro e w2 ⟨rfl, hg2⟩
    go_wp2_with fail
    go_ret2
    exact ⟨rfl, hg1.trans hg2⟩
end Go.Proofs.YtfpkfgimhanekaaGreatDoor

/- The law FnExactTermText, walked. -/
namespace Go.Proofs.YtfpkfgimhanekaaGreatDoor
open Go.RowKit

theorem lawTtx_c (v0 : Value) (L0 : List Tn) (w : World) (h0 : ArgT w v0 L0) :
    Calls Tryz.prog 3 #[v0] w fun e w' => e = .returned (.bool true) ∧ Grew w w' := by
  have Z0 := Lib.hid (fun W l (hW : Grew w W) (a0 : 0 ≤ l) (a1 : l ≤ 1048576) => szTermNodeS_c v0 L0 l W (h0.grew hW) a0 a1)
  have T0 := Lib.hid (fun W (hW : Grew w W) => toTermNodeS_c v0 L0 W (h0.grew hW))
  clear h0
  go_enter Tryz.func3, Tryz.ntmps3
  go_wp2_with fail
  refine (Z0.out _ _ (Grew.refl w) (by omega) (by omega)).mono ?_
  rintro e w1 ⟨r0, rfl, ⟨hm0, hs0⟩, hg1⟩
  have z1 := Lib.hid hg1.size
  have g1 : Grew w w1 := (Grew.refl w).trans hg1
  clear hg1
  by_cases hr0 : r0 < 0
  · clear hs0
    go_wp2_with fail
    go_ret
    exact ⟨rfl, g1⟩
  obtain ⟨hn0, hf0⟩ := hs0 (by omega)
  have F0 : Hid (FitsT L0) := Lib.hid hf0
  clear hs0 hf0
  have KS := Lib.hid (fun u0 W x0 => specTtx_c u0 L0 W x0 F0.out (by omega))
  have KI := Lib.hid (fun u0 W x0 => implTtx_c u0 L0 W x0 F0.out (by omega))
  unfold GivesStr at KS KI
  generalize ttxF L0 = rr at *
  obtain ⟨ra, rc⟩ := rr
  simp only at KS KI
  have hc1 : (rc != rc) = false := by simp
  have ha1 : (ra.toList != ra.toList) = false := by simp
  go_wp2_with fail
  refine (T0.out _ g1 hn0).mono ?_
  rintro e w2 ⟨a0, rfl, oa0, hg2⟩
  have z2 := Lib.hid hg2.size
  have g2 : Grew w w2 := g1.trans hg2
  clear hg2
  go_wp2_with fail
  refine (KS.out _ _ oa0.tms).mono ?_
  rintro e w3 ⟨rfl, hg3⟩
  have z3 := Lib.hid hg3.size
  have g3 : Grew w w3 := g2.trans hg3
  clear hg3 oa0
  go_wp2_with fail
  refine (T0.out _ g3 hn0).mono ?_
  rintro e w4 ⟨x0, rfl, ox0, hg4⟩
  have z4 := Lib.hid hg4.size
  have g4 : Grew w w4 := g3.trans hg4
  clear hg4
  go_wp2_with fail
  refine (KI.out _ _ ox0.tms).mono ?_
  rintro e w5 ⟨rfl, hg5⟩
  have z5 := Lib.hid hg5.size
  have g5 : Grew w w5 := g4.trans hg5
  replace ox0 := ox0.grew hg5
  clear hg5
  go_wp2_with fail
  refine (T0.out _ g5 hn0).mono ?_
  rintro e w6 ⟨y0, rfl, oy0, hg6⟩
  have z6 := Lib.hid hg6.size
  have g6 : Grew w w6 := g5.trans hg6
  replace ox0 := ox0.grew hg6
  clear hg6
  go_wp2_with fail
  refine (eqTermNodeS_yes _ _ L0 _ ox0.tms oy0.tms (by omega)).mono ?_
  rintro e w7 ⟨rfl, hg7⟩
  have z7 := Lib.hid hg7.size
  have g7 : Grew w w7 := g6.trans hg7
  replace ox0 := ox0.grew hg7
  clear hg7 oy0
  go_wp2_with fail
  go_ret
  exact ⟨rfl, g7⟩
end Go.Proofs.YtfpkfgimhanekaaGreatDoor

/- An argument that is a list of nodes of terms. -/
namespace Go.Proofs.YtfpkfgimhanekaaGreatDoor
open Go.RowKit

theorem cellT_lt {w : World} {a : Addr} {u : Value} (h : w.cell? a = some u) : a.block < w.heap.size := by
  unfold World.cell? at h
  split at h
  · rename_i hh
    exact (Array.getElem?_eq_some_iff.1 hh).1
  · cases h

theorem argT_of_trod {H : Type} {enc : TypeId × Value → H} {P : Program} {W : World} {sp : Nat → Bool} {held : Bool} {n : Nat} {t e : TypeId} {f0 f1 f2 : Field} {v : Value} {y : DataW H × List MemPlace}
    (ht : P.underlying t = some (.slice e)) (he : P.underlying e = some (.struct #[f0, f1, f2])) (ce : P.cellsOf e = 3) (o0 : f0.offset = 0) (o1 : f1.offset = 1) (o2 : f2.offset = 2) (c0 : P.cellsOf f0.type = 1) (c1 : P.cellsOf f1.type = 1) (c2 : P.cellsOf f2.type = 1)
    (u0 : P.underlying f0.type = some (.int .i64)) (u1 : P.underlying f1.type = some (.int .i64)) (u2 : P.underlying f2.type = some .string) (h : DataW.trod enc P W 0 sp held n t [v] = some y) : ∃ xs, ArgT W v xs := by
  rcases Go.Deep.open_slice ht h with ⟨hv, _⟩ | ⟨a, len, cap, m, k, D, Pl, hv, _, hl, hm, hmm, _, hcell⟩
  · obtain rfl : v = .slice none 0 0 := by simpa using hv
    exact ⟨[], ⟨none, 0, rfl, by simp⟩, fun h => absurd h (by simp), fun i hi => absurd hi (by simp)⟩
  · obtain rfl : v = .slice (some a) len cap := by simpa using hv
    have hlm : len ≤ m := by rw [hmm]; split <;> omega
    have hmax : maxLen = 9223372036854775807 := by decide
    rw [hmax] at hm
    have each : ∀ i, i < len → ∃ q : Tn, W.cell? (a.add (i * 3)) = some (.int .i64 q.1) ∧ W.cell? (a.add (i * 3 + 1)) = some (.int .i64 q.2.1) ∧ W.cell? (a.add (i * 3 + 2)) = some (.string q.2.2) ∧ q.2.2.size ≤ maxLen := fun i hi => by
      obtain ⟨cs', h1, h2⟩ := hcell i (by omega)
      rw [ce] at h1
      obtain ⟨_, hlen, hc⟩ := World.cells?_some h1
      obtain ⟨xs, k', hk, hxy, _, hxl, hf⟩ := DataW.trod_struct he h2
      match xs, hxl, cs', hlen with
      | [y0, y1, y2], _, [v0, v1, v2], _ =>
        have g0 := hf 0 f0 rfl
        have g1 := hf 1 f1 rfl
        have g2 := hf 2 f2 rfl
        simp [o0, o1, o2, c0, c1, c2] at g0 g1 g2
        have e0 := hc 0 (by omega)
        have e1 := hc 1 (by omega)
        have e2 := hc 2 (by omega)
        rw [Go.Deep.add_add] at e0 e1 e2
        obtain ⟨x, hx, _⟩ := DataW.trod_int u0 g0
        obtain ⟨z, hz, _⟩ := DataW.trod_int u1 g1
        obtain ⟨s, hs, _, hsz⟩ := DataW.trod_string u2 g2
        obtain rfl : v0 = .int .i64 x := by simpa using hx
        obtain rfl : v1 = .int .i64 z := by simpa using hz
        obtain rfl : v2 = .string s := by simpa using hs
        exact ⟨(x, z, s), by simpa using e0, by simpa using e1, by simpa using e2, hsz⟩
    obtain ⟨q, hq⟩ := Go.Deep.choose_lt each
    have hlen : ((List.range len).map q).length = len := by simp
    have hk0 : ∀ i, i < len → tk ((List.range len).map q) i = (q i).1 := fun i hi => by simp [tk, List.getD, hi]
    have hk1 : ∀ i, i < len → tn ((List.range len).map q) i = (q i).2.1 := fun i hi => by simp [tn, List.getD, hi]
    have hk2 : ∀ i, i < len → tt ((List.range len).map q) i = (q i).2.2 := fun i hi => by simp [tt, List.getD, hi]
    refine ⟨(List.range len).map q, ⟨some a, cap, by rw [hlen], by rw [hlen]; omega⟩, fun hp => ?_, fun i hi => ?_⟩
    · rw [hlen] at hp
      obtain ⟨b, off, spot⟩ := a
      have h0 := (hq 0 (by omega)).1
      have hspot : spot = none := by simpa [Addr.add] using World.cell?_spot h0
      subst hspot
      have hb := cellT_lt h0
      have hadd : ∀ i, (⟨b, off, none⟩ : Addr).add i = ⟨b, off + i, none⟩ := fun i => by
        unfold Addr.add
        split
        · subst_vars; rfl
        · rfl
      rw [hadd] at hb
      unfold Tms Rd
      rw [hlen]
      refine ⟨by rw [tcells_length, hlen], by omega, .inr ⟨b, off, cap, rfl, hl, hm, hb, fun j u hu => ?_⟩⟩
      have hj : j < len * 3 := by
        have := (List.getElem?_eq_some_iff.1 hu).1
        rw [tcells_length, hlen] at this
        exact this
      have hi : j / 3 < len := by omega
      obtain ⟨e0, e1, e2, _⟩ := hq (j / 3) hi
      rw [hadd] at e0 e1 e2
      obtain ⟨k0, k1, k2⟩ := tcells_at ((List.range len).map q) (j / 3) (by rw [hlen]; exact hi)
      rw [hk0 _ hi] at k0
      rw [hk1 _ hi] at k1
      rw [hk2 _ hi] at k2
      have hd := Nat.div_add_mod j 3
      have hmo : j % 3 = 0 ∨ j % 3 = 1 ∨ j % 3 = 2 := by omega
      rcases hmo with hmo | hmo | hmo
      · have e : j = j / 3 * 3 := by omega
        rw [e] at hu ⊢
        rw [k0] at hu
        rw [← hu]
        exact e0
      · have e : j = j / 3 * 3 + 1 := by omega
        rw [e] at hu ⊢
        rw [k1] at hu
        rw [← hu]
        exact e1
      · have e : j = j / 3 * 3 + 2 := by omega
        rw [e] at hu ⊢
        rw [k2] at hu
        rw [← hu]
        exact e2
    · rw [hlen] at hi
      rw [hk2 i hi, ← hmax]
      exact (hq i hi).2.2.2
end Go.Proofs.YtfpkfgimhanekaaGreatDoor

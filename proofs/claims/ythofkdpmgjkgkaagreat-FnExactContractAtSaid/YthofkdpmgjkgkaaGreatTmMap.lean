/- mapNumbers and putTerm of the program. -/
import Derived.Test.YthofkdpmgjkgkaaGreatTmMapT
import Derived.Test.YthofkdpmgjkgkaaGreatTmFits
namespace Go.Proofs.YthofkdpmgjkgkaaGreat
open Go.RowKit
open Tr (Tm)

theorem OwnT.one (w : World) (B : Nat) (x : Tn) (hB : B ≤ w.heap.size) : OwnT (w.alloc (.cells #[.int .i64 x.1, .int .i64 x.2.1, .string x.2.2] 66)) B (.slice (some ⟨w.heap.size, 0, none⟩) 1 1) [x] :=
  OwnT.lit w B [x] _ hB (by simp) rfl

/-- What the function value gives at a variable and what it is read with, in every world from w0 on. -/
def MapOk (f : Nat) (caps : Array Value) (w0 : World) (lo hi : Int) (F : Tn → Int → List Tn) : Prop := ∀ (x : Tn) n W, Grew w0 W → GoodN x → lo ≤ n → n ≤ hi → Calls Tryz.prog f (#[.agg #[.int .i64 x.1, .int .i64 x.2.1, .string x.2.2], .int .i64 n] ++ caps) W (GivesT W (F x n))

theorem mapNumbers_c (f : Nat) (caps : Array Value) (w0 : World) (lo hi : Int) (F : Tn → Int → List Tn) (M : Nat) (hM : 1 ≤ M) (hM2 : M ≤ 1000) (hFl : ∀ x n, (F x n).length ≤ M) (hf : MapOk f caps w0 lo hi F) (h0 : 0 ≤ lo) (h1 : hi ≤ 1000000)
    (eg : ∀ args w, (callFunc f args).run Tryz.prog w = .ok (.enter f args) w) :
    ∀ t : Tm, Good t → ∀ (v : Value) (n : Int) (w : World), Grew w0 w → Tms w v (Tr.enc t) → (Tr.enc t).length ≤ 1000 → lo ≤ n → n + (Tr.enc t).length ≤ hi →
    Calls Tryz.prog 95 #[v, .int .i64 n, .func (.func f) #[] caps] w (GivesT w (Tr.mapN F t n)) := by
  intro t
  refine Tr.ind (P := fun t => Good t → ∀ (v : Value) (n : Int) (w : World), Grew w0 w → Tms w v (Tr.enc t) → (Tr.enc t).length ≤ 1000 → lo ≤ n → n + (Tr.enc t).length ≤ hi →
    Calls Tryz.prog 95 #[v, .int .i64 n, .func (.func f) #[] caps] w (GivesT w (Tr.mapN F t n))) ?_ t
  intro t ih hg v n w hw0 h hlen hn0 hn1
  obtain ⟨b, o, c, rfl, hc, hm, hb, hcl⟩ := tms_head h
  have hpos := Tr.enc_pos t
  obtain ⟨k1, k2, k3⟩ := hcl _ (Grew.refl w)
  by_cases hleaf : Tr.kids t = []
  · have hk := (good_leaf hg).1 hleaf
    rw [Tr.mapN_leaf hleaf]
    have HF := Lib.hid (hf (Tr.hd t) n w hw0 (Tr.hd_wf hg) hn0 (by omega))
    rw [hk] at k1 HF
    clear hcl ih hg h hf hk hleaf hFl
    generalize F (Tr.hd t) n = R at *
    generalize (Tr.hd t).2.1 = a at *
    generalize (Tr.hd t).2.2 = z at *
    generalize (Tr.enc t).length = nn at *
    go_enter Tryz.func95, Tryz.ntmps95
    go_wp2_with fail
    go_at_fn f
    refine HF.out.mono ?_
    rintro e w1 ⟨u, rfl, ho, hg1⟩
    go_wp2_with fail
    go_ret
    exact ⟨_, rfl, ho, hg1⟩
  · have hk : ((Tr.hd t).1 == 0) = false := by
      have := mt (good_leaf hg).2 hleaf
      simpa using this
    have hm1 : 0 < (Tr.kids t).length := List.length_pos_iff.2 hleaf
    have hkl := Tr.kids_len hg
    have har := Tr.ar_le (Tr.hd t).1
    rw [Tr.mapN_kids hleaf]
    have HI := Lib.hid (fun W (hW : Grew w W) => inner_o _ t w W h hW hg (by omega))
    have HK := Lib.hid (fun W (hW : Grew w W) => (hcl W hW).1)
    have HLN := Lib.hid (fun j hj => Nat.le_trans (Tr.mapL_len hM hFl (t := t) (n := n) j hj) (Nat.mul_le_mul (show Tr.off t j ≤ 1000 from by
      rcases Nat.lt_or_ge j (Tr.kids t).length with hh | hh
      · have := Tr.off_end hh; omega
      · have e : Tr.off t j = Tr.off t (Tr.kids t).length := by unfold Tr.off; rw [List.take_of_length_le hh, List.take_length]
        rw [e]
        have := Tr.off_end (t := t) (i := (Tr.kids t).length - 1) (by omega)
        have e2 := Tr.off_next (t := t) (i := (Tr.kids t).length - 1) (by omega)
        rw [show (Tr.kids t).length - 1 + 1 = (Tr.kids t).length by omega] at e2
        omega) hM2))
    have HLN2 := Lib.hid (fun j d (hj : j < (Tr.kids t).length) => Nat.le_trans (Tr.mapN_len hM hFl (Tr.kid t j) (n + d)) (Nat.mul_le_mul (show (Tr.enc (Tr.kid t j)).length ≤ 1000 from by have := Tr.kid_small hj; omega) hM2))
    have HIH := Lib.hid (fun i (hi : i < (Tr.kids t).length) u d W (hW : Grew w W) (hd0 : 0 ≤ d) (hd1 : d ≤ 1) hu => ih _ (Tr.kid_mem hi) (Tr.kids_wf hg _ (Tr.kid_mem hi)) u (n + d) W (hw0.trans hW) hu (by have := Tr.kid_small hi; omega) (by omega) (by have := Tr.kid_small hi; omega))
    have HBD := Lib.hid (fun i (hi : i < (Tr.kids t).length) w => bindsIn_c (Tr.hd t).1 i w (by omega))
    have HB2 := Lib.hid (fun i => (by unfold Tr.bd; split <;> omega : 0 ≤ Tr.bd (Tr.hd t).1 i ∧ Tr.bd (Tr.hd t).1 i ≤ 1))
    obtain ⟨ML, hML⟩ : ∃ ML, ML = Tr.mapL F t n := ⟨_, rfl⟩
    have HST := Lib.hid (fun j => (by rw [hML]; rfl : ML (j + 1) = ML j ++ Tr.mapN F (Tr.kid t j) (n + Tr.bd (Tr.hd t).1 j)))
    have HS0 : Hid (ML 0 = [((Tr.hd t).1, (Tr.hd t).2.1, (Tr.hd t).2.2)]) := Lib.hid (by rw [hML]; rfl)
    rw [← hML] at HLN ⊢
    clear hML
    clear hcl ih hg h hf hleaf hFl
    generalize (Tr.hd t).1 = kk at *
    generalize (Tr.hd t).2.1 = aa at *
    generalize (Tr.hd t).2.2 = zz at *
    generalize (Tr.enc t).length = nn at *
    generalize hMM : (Tr.kids t).length = m at *
    go_enter Tryz.func95, Tryz.ntmps95
    go_wp2_with fail
    have hone := OwnT.one w w.heap.size (kk, aa, zz) (Nat.le_refl _)
    refine (HI.out _ ((Grew.refl w).alloc _)).mono ?_
    rintro e w1 ⟨u, us, rfl, hU1, hul, hhold, hg1⟩
    have ho1 := hone.grew hg1
    have hgw := Grew.of_alloc hg1
    obtain ⟨g2, c2, rfl, hc2, hm2, _, _⟩ := hU1.open_ (by omega)
    rw [hul] at hc2 hU1 ⊢
    have hU1 := Lib.hid hU1
    have HH := Lib.hid hhold
    clear hone hhold
    go_wp2_with fail
    go_loopw [7, 8, 9, 28] (fun vv _ _ i wr => ∃ j : Nat, j ≤ m ∧ i = .int .i64 j ∧ Grew w wr ∧ OwnT wr w.heap.size vv (ML j) ∧ Hid (OwnVT wr (w.alloc (.cells #[.int .i64 kk, .int .i64 aa, .string zz] 66)).heap.size (.slice (some ⟨g2, 0, none⟩) m c2) us)) (fun _ _ _ i _ => m - (intOf i).toNat)
    case atStart => exact ⟨0, Nat.zero_le _, rfl, hgw, by rw [HS0.out]; exact ho1, hU1.out⟩
    case round =>
      clear ho1 hU1
      obtain ⟨j, hj, rfl, hB, hO, hU⟩ := hrel
      by_cases hlt : j < m
      · obtain ⟨x, hx1⟩ : ∃ x, us[j]? = some x := ⟨_, List.getElem?_eq_getElem (by omega)⟩
        have e1 : wr.cell? ⟨g2, j, none⟩ = some x := hU.out.cell hx1
        have e2 : wr.cell? ⟨b, o, none⟩ = some (.int .i64 kk) := HK.out _ hB
        have hx3 : Tms wr x (Tr.enc (Tr.kid t j)) := (HH.out j x hx1).grew hB
        obtain ⟨A3, c3, rfl⟩ := tms_slice hx3
        have hih := Lib.hid (fun W (hW : Grew wr W) => HIH.out j hlt _ (Tr.bd kk j) W (hB.trans hW) (HB2.out j).1 (HB2.out j).2 (hx3.grew hW))
        have hbd := Lib.hid (HBD.out j hlt)
        have hb01 := HB2.out j
        have hl1 := HLN.out j hj
        have hl2 := HLN2.out j (Tr.bd kk j) hlt
        have hst := Lib.hid (HST.out j)
        clear hx1 hx3
        generalize Tr.bd kk j = d at *
        generalize (Tr.enc (Tr.kid t j)).length = ln at *
        generalize Tr.mapN F (Tr.kid t j) (n + d) = X at *
        generalize ML j = Y at *
        obtain ⟨hb0, hb1⟩ := hb01
        go_wp2_with fail
        refine (hbd.out _).mono ?_
        rintro e w2 ⟨rfl, hg2⟩
        go_wp2_with fail
        refine (hih.out _ hg2).mono ?_
        rintro e w3 ⟨q, rfl, hq, hg3⟩
        have hk3 := hg2.trans hg3
        have hO3 := hO.grew hk3
        have hw3 := hB.trans hk3
        go_wp2_with (first | (at_builtin; refine wpList_appT (w0 := w) _ _ rfl rfl _ Y rfl hO3 hw3 _ X rfl hq.tms (by omega) ?_; intro v4 w4 hown4 hg4 hgr4))
        go_roundw
        case rel => exact ⟨j + 1, by omega, by go_num, hg4, by rw [hst.out]; exact hown4, ownVT_app (own_grew hU.out hk3) hO3 hgr4⟩
        case measure => simp [intOf]; omega
      · obtain rfl : j = m := by omega
        go_wp2_with fail
        go_ret
        exact ⟨_, rfl, hO, hB⟩
end Go.Proofs.YthofkdpmgjkgkaaGreat

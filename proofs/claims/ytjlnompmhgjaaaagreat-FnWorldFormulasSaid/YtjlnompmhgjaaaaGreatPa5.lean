/- Texts in one file: LawWf Args0 ArgB. -/
import Derived.ChangeSlices
import Derived.Deep.Strs
import Derived.Lib.SmallJoins
import Derived.Carry
import Derived.ProofKit
import Derived.Test.YtjlnompmhgjaaaaGreatPa1
import Derived.Test.YtjlnompmhgjaaaaGreatPa2
import Derived.Test.YtjlnompmhgjaaaaGreatPa3
import Derived.Test.YtjlnompmhgjaaaaGreatPa4
set_option linter.all false

/- The law FnWorldFormulas, walked. -/
namespace Go.Proofs.YtjlnompmhgjaaaaGreat
open Go.RowKit
open Fm (Nd Tree)

theorem step_appIsW {ops : Array Oper} {o : Oper} {a : Act} {K : Act → World → Prop} {Q : Exit → Act → World → Prop} {E : Prop} {w : World} (B : Nat) (hgd : o.guard = none) (s x : Operand)
    (ho : o.op = .call { callee := .builtin .append, args := #[s, x], argTypes := #[24, 24] })
    (v : Value) (hs : a.eval s = v) (hown : OwnI w B v []) (hB : B ≤ w.heap.size) (vx : Value) (L : List Int) (hx : a.eval x = vx) (hr : Ints w vx L) (hn : L.length ≤ 1048576)
    (h : ∀ v' w', OwnI w' B v' L → w.grownBy w' v.ownBlock → K (a.put o.dst v') w') : if Region.wanted o (yielded ops a.tmps) = true then Oper.wp Tryz.prog o a w K Q else E := by
  obtain ⟨i0, hi0, hz0, hz1, hz2⟩ := info_parts Tryz.infoI
  refine step_apprd w hgd s x _ ho B 2 i0 _ 1 8 Tryz.underlying24 hi0 hz0 hz1 hz2 rfl (by omega) v 0 [] hs hown vx L.length (icells L) hx hr (fun u hu => by
    obtain ⟨z, _, rfl⟩ := List.mem_map.1 hu
    rfl) (by unfold maxLen; omega) (by omega) hB ?_
  intro v' w' h1 h2
  refine h v' w' ?_ h2
  rw [Nat.zero_add, List.nil_append] at h1
  exact h1
theorem grew_set3 {a b : World} (h : Grew a b) {c : Nat} (hc : a.heap.size ≤ c) (x y z : Value) : Grew a (((b.setCell ⟨c, 0, none⟩ x).setCell ⟨c, 1, none⟩ y).setCell ⟨c, 2, none⟩ z) :=
  ((h.setCell (p := ⟨c, 0, none⟩) hc x).setCell (p := ⟨c, 1, none⟩) hc y).setCell (p := ⟨c, 2, none⟩) hc z
theorem ints_slice6 {w : World} {v : Value} {L : List Int} (h : Ints w v L) (hl : L.length = 6) : ∃ A c, v = .slice A 6 c := by
  obtain ⟨A, c, e⟩ := ints_slice h
  rw [hl] at e
  exact ⟨A, c, e⟩
set_option maxHeartbeats 8000000 in
set_option maxRecDepth 100000 in
theorem lawWf_c (v : Value) (N : Nat) (w : World) (h : ArgB w v N) :
    Calls Tryz.prog 3 #[v] w fun e w' => e = .returned (.bool true) ∧ Grew w w' := by
  have HB := big_c v N w h.1
  by_cases hbig : 4096 < N
  · rw [decide_eq_true hbig] at HB
    replace HB := Lib.hid HB
    obtain ⟨⟨A, c, rfl⟩, _⟩ := h
    go_enter Tryz.func3, Tryz.ntmps3
    go_wp2_with fail
    refine HB.out.mono ?_
    rintro e w1 ⟨rfl, hg1⟩
    go_wp2_with fail
    go_ret
    exact ⟨rfl, hg1⟩
  rw [decide_eq_false hbig] at HB
  replace HB := Lib.hid HB
  have HD := Lib.hid (fun W (hW : Grew w W) => drawWf_c v N W (h.grew hW) (by omega))
  obtain ⟨⟨A, c, rfl⟩, _⟩ := h
  go_enter Tryz.func3, Tryz.ntmps3
  go_wp2_with fail
  refine HB.out.mono ?_
  rintro e w1 ⟨rfl, hg1⟩
  go_wp2_with fail
  refine (HD.out _ hg1).mono ?_
  rintro e w2 ⟨n, va, vu, L, V, x, k, nv, rfl, hva, hu, hg2⟩
  have g2 := hg1.trans hg2
  have hvaE := ints_slice hva
  have huE := ints_slice hu
  obtain ⟨wa, hwa, ga, a0, a1, a2⟩ := mdl_box1 w2 (.int .i64 n) va vu
  have KW := Lib.hid (fun W (hW : Grew wa W) => WorldFormula_c n va vu L V x k nv W (hva.grew (ga.trans hW)) (hu.grew (ga.trans hW)))
  have KS := Lib.hid (fun W (hW : Grew wa W) => specWorld_c n va vu L V x k nv W (hva.grew (ga.trans hW)) (hu.grew (ga.trans hW)))
  have HLEN := Lib.hid (fun t (ht : (wfF n L V x k nv).1 = some t) => wfF_len ht)
  have HZ := Lib.hid (@wfF_zero n L V x k nv)
  have HVA := Lib.hid (fun W (hW : Grew wa W) => hva.grew (ga.trans hW))
  have HVU := Lib.hid (fun W (hW : Grew wa W) => hu.grew (ga.trans hW))
  have GA := Lib.hid (g2.trans ga)
  obtain ⟨Aa, ca, rfl⟩ := hvaE
  obtain ⟨Au, cu, rfl⟩ := huE
  unfold GivesWf at KW KS
  obtain ⟨rr, hrr⟩ : ∃ rr, rr = wfF n L V x k nv := ⟨_, rfl⟩
  rw [← hrr] at KW KS HLEN HZ
  have HRR := Lib.hid hrr
  clear hva hu hrr ga HD HB
  have ra := Grew.refl wa
  go_wp2_with fail
  simp only [← hwa]
  clear hwa
  refine (KW.out _ ra).mono ?_
  rintro e w3 ⟨f3, rfl, hf3, hg3⟩
  have HF3 := Lib.hid hf3.nodes
  obtain ⟨A3, n3, c3, rfl⟩ := hf3.slice
  clear hf3
  go_wp2_with fail
  refine (KS.out _ hg3).mono ?_
  rintro e w4 ⟨f4, rfl, hf4, hg4⟩
  have HF4 := Lib.hid hf4.nodes
  obtain ⟨A4, n4, c4, rfl⟩ := hf4.slice
  have hg4a := hg3.trans hg4
  have hlen : (encO rr.1).length ≤ 1099511627776 := by
    cases hr1 : rr.1 with
    | none => simp [encO]
    | some t => have := HLEN.out t hr1; show (Fm.enc t).length ≤ _; omega
  have KL := Lib.hid (likeF_same _ _ _ w4 (HF3.out.grew hg4) HF4.out hlen)
  clear hf4 hlen HF3
  go_wp2_with fail
  refine KL.out.mono ?_
  rintro e w5 ⟨rfl, hg5⟩
  have hg5a := hg4a.trans hg5
  have HF5 := Lib.hid (HF4.out.grew hg5)
  clear HF4 KL
  by_cases hz : rr.2 = 0
  · obtain ⟨hmd, hx, hk, hv, t, ht, hw⟩ := HZ.out hz
    clear HRR
    obtain ⟨e1, h8, e3, hA, e5, hVl, hV⟩ := mdB_ok hmd
    generalize nats L = A at *
    generalize nats V = U at *
    subst e1 e3 e5 hw
    obtain ⟨xn, rfl⟩ : ∃ xn : Nat, x = (xn : Int) := ⟨x.toNat, by omega⟩
    obtain ⟨kn, rfl⟩ : ∃ kn : Nat, k = (kn : Int) := ⟨k.toNat, by omega⟩
    obtain ⟨nn, rfl⟩ : ∃ nn : Nat, nv = (nn : Int) := ⟨nv.toNat, by omega⟩
    simp only [Int.toNat_natCast] at ht
    have hxn : xn < A.length := by omega
    have hkn : kn ≤ 16 := by omega
    have hnn : nn ≤ 6 := by omega
    have hd5 : Grew wa w5.drew := hg5a.drew
    have hsz := hg5a.size
    have hlz : (zs U).length ≤ 1048576 := by rw [zs_len]; omega
    have HPL := Lib.hid (And.intro h8 (And.intro hA (And.intro hVl (And.intro hV (And.intro hmd ht)))))
    have h06 : (zs U).length = 6 := by rw [zs_len]; exact hVl
    have hlA : (zs A).length = A.length := zs_len A
    rw [h06] at a2 HVU
    rw [hlA] at a1 HVA
    clear hx hk hv hz h8 hA hVl hV hmd ht HZ HLEN KW KS
    have hz0 : ((0 : Int) != 0) = false := rfl
    go_wp2_with fail
    have o1 : OwnI (w5.alloc (.cells #[] 2)).drew w5.heap.size (.slice (some ⟨w5.heap.size, 0, none⟩) 0 0) [] := own_grew (own_emptyI w5) (Grew.refl _).drew
    have o2 : OwnI ((w5.alloc (.cells #[] 2)).alloc (.cells #[.int .i64 0, .slice none 0 0, .slice none 0 0] 28)).drew w5.heap.size (.slice (some ⟨w5.heap.size, 0, none⟩) 0 0) [] := own_grew (own_emptyI w5) ((Grew.refl _).alloc _).drew
    have o3 : OwnI ((w5.alloc (.cells #[.int .i64 0, .slice none 0 0, .slice none 0 0] 28)).alloc (.cells #[] 2)).drew w5.heap.size (.slice (some ⟨w5.heap.size + 1, 0, none⟩) 0 0) [] := by
      have := own_base (own_grew (own_emptyI (w5.alloc (.cells #[.int .i64 0, .slice none 0 0, .slice none 0 0] 28))) (Grew.refl _).drew) (show w5.heap.size ≤ _ by simp)
      rw [show (w5.alloc (.cells #[.int .i64 0, .slice none 0 0, .slice none 0 0] 28)).heap.size = w5.heap.size + 1 by simp] at this
      exact this
    have p1 : Grew w5 (w5.alloc (.cells #[] 2)).drew := ((Grew.refl w5).alloc _).drew
    have p2 : Grew w5 ((w5.alloc (.cells #[] 2)).alloc (.cells #[.int .i64 0, .slice none 0 0, .slice none 0 0] 28)).drew := (((Grew.refl w5).alloc _).alloc _).drew
    have p3 : Grew w5 ((w5.alloc (.cells #[.int .i64 0, .slice none 0 0, .slice none 0 0] 28)).alloc (.cells #[] 2)).drew := (((Grew.refl w5).alloc _).alloc _).drew
    have hx2 : ((w5.alloc (.cells #[] 2)).alloc (.cells #[.int .i64 0, .slice none 0 0, .slice none 0 0] 28)).drew.heap[w5.heap.size + 1]? = some (.cells #[.int .i64 0, .slice none 0 0, .slice none 0 0] 28 (0, 0)) := by
      have := blk_new (w5.alloc (.cells #[] 2)) (.cells #[.int .i64 0, .slice none 0 0, .slice none 0 0] 28)
      rw [show (w5.alloc (.cells #[] 2)).heap.size = w5.heap.size + 1 by simp] at this
      exact this
    have hx3 : ((w5.alloc (.cells #[.int .i64 0, .slice none 0 0, .slice none 0 0] 28)).alloc (.cells #[] 2)).drew.heap[w5.heap.size]? = some (.cells #[.int .i64 0, .slice none 0 0, .slice none 0 0] 28 (0, 0)) :=
      ((Grew.refl _).alloc (.cells #[] 2)).drew.block (by simp) |>.trans (blk_new w5 _)
    have d1 : Grew wa (w5.alloc (.cells #[] 2)).drew := hg5a.trans p1
    have d2 : Grew wa ((w5.alloc (.cells #[] 2)).alloc (.cells #[.int .i64 0, .slice none 0 0, .slice none 0 0] 28)).drew := hg5a.trans p2
    have d3 : Grew wa ((w5.alloc (.cells #[.int .i64 0, .slice none 0 0, .slice none 0 0] 28)).alloc (.cells #[] 2)).drew := hg5a.trans p3
    go_cut [11] from 57 (fun a11 wx => ∃ cb A8 c8, a11 = .pointer (some ⟨cb, 0, none⟩) ∧ wx.heap[cb]? = some (.cells #[.int .i64 (A.length : Int), .slice Aa A.length ca, .slice A8 6 c8] 28 (0, 0)) ∧ OwnI wx w5.heap.size (.slice A8 6 c8) (zs U) ∧ Grew w5 wx)
    case first =>
      go_region_held3 (fun W => Grew wa W) (first | assumption | exact Grew.drew ‹_› | exact Grew.alloc ‹_› _ | exact grew_set3 hG8 (by omega) _ _ _ | exact Grew.alloc hG8 _) (first
        | (refine step_appIsW w5.heap.size rfl (.tmp 59) (.tmp 61) rfl _ (by simp [Act.eval, Act.put]; rfl) (by first | exact o1 | exact o2 | exact o3) (by first | exact p1.size | exact p2.size | exact p3.size) (.slice Au 6 cu) (zs U) (by simp [Act.eval, Act.put]) (HVU.out _ (by first | exact d1 | exact d2 | exact d3)) hlz ?_; intro v8 w8 hO8 hg8; have hG58 : Grew w5 w8 := Grew.grown (by first | exact p1 | exact p2 | exact p3) hg8 (fun b hb => by simp [Value.ownBlock] at hb; omega); have hG8 : Grew wa w8 := hg5a.trans hG58; have hE8 := ints_slice6 hO8.ints h06; obtain ⟨A8, c8, rfl⟩ := hE8; (try (have hy8 := (hg8.block _ (blk_lt' hx2) (by simp [Value.ownBlock])).trans hx2; have y80 := blk_cell hy8 0; have y81 := blk_cell hy8 1; have y82 := blk_cell hy8 2; have yf0 := blk_frozen hy8 0; have yf1 := blk_frozen hy8 1; have yf2 := blk_frozen hy8 2)); (try (have hy8 := (hg8.block _ (blk_lt' hx3) (by simp [Value.ownBlock])).trans hx3; have y80 := blk_cell hy8 0; have y81 := blk_cell hy8 1; have y82 := blk_cell hy8 2; have yf0 := blk_frozen hy8 0; have yf1 := blk_frozen hy8 1; have yf2 := blk_frozen hy8 2))))
      all_goals go_wp2_with fail
      all_goals go_meet
      · exact ⟨_, A8, c8, rfl, blk_new w8 _, own_grew hO8 ((Grew.refl _).alloc _), hG58.alloc _⟩
      · exact ⟨_, A8, c8, rfl, blk_set (blk_set (blk_set hy8 0 _) 1 _) 2 _, own_only hO8 ((((Only.refl _ _).setCell _).setCell _).setCell _) (own_ne hO8 hy8 tyM1), grew_set3 hG58 (by omega) _ _ _⟩
      · exact ⟨_, A8, c8, rfl, blk_set (blk_set (blk_set hy8 0 _) 1 _) 2 _, own_only hO8 ((((Only.refl _ _).setCell _).setCell _).setCell _) (own_ne hO8 hy8 tyM1), grew_set3 hG58 (by omega) _ _ _⟩
    case rest =>
      obtain ⟨cb, A8, c8, rfl, hbx, hO8, hg8⟩ := hcut
      obtain ⟨gr, cur, hgre, hgr, hcur, hcs, hall⟩ := own_irow (L := zs U) (by rw [h06]; exact hO8) (by omega)
      subst hgre
      have hNR := Lib.hid (show NRow _ gr 6 c8 (fV U nn nn) from ⟨cur, hcur, hcs.2.2, by omega, hcs.2.1, fun i hi => by rw [hall i (by omega), zs_it (by rw [zs_len] at h06; omega), fV_start]⟩)
      have hne : cb ≠ gr := by
        rintro rfl
        rw [hcur] at hbx
        simp only [Option.some.injEq, Obj.cells.injEq] at hbx
        exact tyM1 hbx.2.1
      have HBX := Lib.hid hbx
      clear o1 o2 o3 p1 p2 p3 hx2 hx3 d1 d2 d3 hd5 hbx hO8 hcur hcs hall
      go_wp2_with fail
      go_loopw [12] (fun i wr => ∃ (j : Nat), nn ≤ j ∧ j ≤ 6 ∧ i = .int .i64 (j : Int) ∧ Grew w5 wr ∧ Hid (NRow wr gr 6 c8 (fV U nn j)) ∧ Hid (wr.heap[cb]? = some (.cells #[.int .i64 (A.length : Int), .slice Aa A.length ca, .slice (some ⟨gr, 0, none⟩) 6 c8] 28 (0, 0)))) (fun i _ => 6 - (intOf i).toNat)
      case atStart => exact ⟨nn, by omega, by omega, rfl, hg8, hNR, HBX⟩
      case round =>
        clear hNR HBX hg8
        obtain ⟨j, hjn, hj, rfl, hB, hNR, hBX⟩ := hrel
        have d2 : wr.cell? ⟨cb, 2, none⟩ = some (.slice (some ⟨gr, 0, none⟩) 6 c8) := by rw [blk_cell hBX.out]; rfl
        by_cases hlt : j < 6
        · have q1 := hNR.out.cell hlt
          have q2 := hNR.out.free j
          have hj0 : (0 : Int) ≤ (j : Int) := by omega
          have hj1 : (j : Int) < 6 := by omega
          have hN2 := Lib.hid (hNR.out.set (f' := fV U nn (j + 1)) hlt (z := 0) (fV_at hjn) (fun i _ hne => fV_ne hne))
          have hB2 := hB.setCell (p := ⟨gr, j, none⟩) hgr (.int .i64 0)
          have hBX2 := Lib.hid ((((Only.refl gr wr).setCell (o := j) (.int .i64 0)).block (blk_lt' hBX.out) hne).trans hBX.out)
          clear hNR hBX hB
          go_wp2_with fail
          go_roundw
          case rel => exact ⟨j + 1, by omega, by omega, by go_num, hB2, hN2, hBX2⟩
          case measure => simp [intOf]; omega
        · obtain rfl : j = 6 := by omega
          obtain ⟨h8, hA, hVl, hV, hmd, ht⟩ := HPL.out
          have hmdc := mdB_cV (nv := nn) hmd hVl hV
          obtain ⟨hw1, hw2⟩ := wfF_cV hmd hVl hV hxn hkn hnn ht
          have hlaw := wl_law hA hVl hV hxn hnn hw2
          have hCI : Ints wr (.slice (some ⟨gr, 0, none⟩) 6 c8) (zs (cV U nn)) := (hNR.out.ownW hgr).ints
          have hAI : Ints wr (.slice Aa A.length ca) (zs A) := HVA.out wr (hg5a.trans hB)
          have hlt40 := wlT_len hnn ht
          have hFM : Nodes wr (.slice A4 n4 c4) (Fm.enc t) := HF5.out.grew hB
          have hsmc : Sm (cV U nn) := sm_of h8 (cV_lt hVl hV)
          have KW := Lib.hid (fun W (hW : Grew wr W) => (show Calls Tryz.prog 6 #[.agg #[.int .i64 (A.length : Int), .slice Aa A.length ca, .slice (some ⟨gr, 0, none⟩) 6 c8], .int .i64 (xn : Int), .int .i64 (kn : Int), .int .i64 (nn : Int)] W (GivesWf W (some t, 0)) from by
            have := WorldFormula_c (A.length : Int) (.slice Aa A.length ca) (.slice (some ⟨gr, 0, none⟩) 6 c8) (zs A) (zs (cV U nn)) (xn : Int) (kn : Int) (nn : Int) W (hAI.grew hW) (hCI.grew hW)
            rwa [hw1] at this))
          unfold GivesWf at KW
          have KT := Lib.hid (fun W (hW : Grew wr W) => (show Calls Tryz.prog 9 #[.agg #[.int .i64 (A.length : Int), .slice Aa A.length ca, .slice (some ⟨gr, 0, none⟩) 6 c8], .slice A4 n4 c4] W fun e w' => e = .returned (.tuple #[.int .i64 ((nt (lks A (cV U nn) kn) xn : Nat) : Int), .int .i64 0]) ∧ Grew W w' from by
            have := TruthSet_c (.slice Aa A.length ca) (.slice (some ⟨gr, 0, none⟩) 6 c8) (.slice A4 n4 c4) A (cV U nn) t W (hAI.grew hW) (hCI.grew hW) (hFM.grew hW) hA (cV_lt hVl hV) (cV_len U nn) hlt40 hmdc
            rwa [hlaw] at this))
          have KB := Lib.hid (fun W (hW : Grew wr W) => BoundedBis_c (.slice Aa A.length ca) (.slice (some ⟨gr, 0, none⟩) 6 c8) A (cV U nn) kn W (hAI.grew hW) (hCI.grew hW) hA h8 (cV_len U nn) hsmc hkn hmdc)
          have KD := Lib.hid (fun W (hW : Grew wr W) => specBounded_c (.slice Aa A.length ca) (.slice (some ⟨gr, 0, none⟩) 6 c8) A (cV U nn) kn W (hAI.grew hW) (hCI.grew hW) hA h8 (cV_len U nn) hsmc hkn hmdc)
          have hll := lks_len A (cV U nn) kn
          have hA8 : A.length ≤ 8 := h8
          have HFM := Lib.hid (fun W (hW : Grew wr W) => hFM.grew hW)
          have HEND := Lib.hid (GA.out.trans (hg5a.trans hB))
          have d0 := fun W (hW : Grew wr W) => (show W.cell? ⟨cb, 0, none⟩ = some (.int .i64 (A.length : Int)) from by rw [blk_cell ((hW.block (blk_lt' hBX.out)).trans hBX.out)]; rfl)
          have d1 := fun W (hW : Grew wr W) => (show W.cell? ⟨cb, 1, none⟩ = some (.slice Aa A.length ca) from by rw [blk_cell ((hW.block (blk_lt' hBX.out)).trans hBX.out)]; rfl)
          have d2' := fun W (hW : Grew wr W) => (show W.cell? ⟨cb, 2, none⟩ = some (.slice (some ⟨gr, 0, none⟩) 6 c8) from by rw [blk_cell ((hW.block (blk_lt' hBX.out)).trans hBX.out)]; rfl)
          clear d2 HPL h8 hA hVl hV hmd ht hmdc hw1 hw2 hlaw hCI hAI hFM hsmc a0 a1 a2 HVA HVU hB hg5a
          generalize hlk : lks A (cV U nn) kn = LK at *
          have rr := Grew.refl wr
          go_wp2_with fail
          refine (KW.out _ rr).mono ?_
          rintro e w6 ⟨f6, rfl, hf6, hg6⟩
          have HF6 := Lib.hid (show Nodes w6 f6 (Fm.enc t) from hf6.nodes)
          obtain ⟨A6, n6, c6, rfl⟩ := hf6.slice
          clear hf6
          go_wp2_with fail
          refine (KT.out _ hg6).mono ?_
          rintro e w7 ⟨rfl, hg7⟩
          have hg7a := hg6.trans hg7
          go_wp2_with fail
          refine (KB.out _ hg7a).mono ?_
          rintro e w8 ⟨r8, rfl, hO8, hg8⟩
          have hg8a := hg7a.trans hg8
          obtain ⟨A8, c8', hr8⟩ := ints_sliceN hO8.ints
          rw [hll] at hr8
          subst hr8
          have HO8 := Lib.hid hO8.ints
          clear hO8
          go_wp2_with fail
          refine (KD.out _ hg8a).mono ?_
          rintro e w9 ⟨r9, rfl, hO9, hg9⟩
          have hg9a := hg8a.trans hg9
          obtain ⟨A9, c9, hr9⟩ := ints_sliceN hO9.ints
          subst hr9
          obtain ⟨b9, o9, rfl, hc9⟩ := cellsN hO9.ints (by omega)
          have HO9 := Lib.hid hO9.ints
          rw [hll] at HO9 ⊢
          have HC9 := Lib.hid (fun W (hW : Grew w9 W) => hc9 xn (by omega) W hW)
          have KL := Lib.hid (likeF_same _ _ _ w9 (HF6.out.grew ((hg7.trans hg8).trans hg9)) (HFM.out w9 hg9a) (by omega))
          clear hO9 hc9 KW KT KB KD
          go_wp2_with fail
          refine KL.out.mono ?_
          rintro e w10 ⟨rfl, hg10⟩
          have KI := Lib.hid (likeInts_same _ _ _ w10 (HO8.out.grew (hg9.trans hg10)) (HO9.out.grew hg10) (by rw [zs_len]; omega))
          go_wp2_with fail
          refine KI.out.mono ?_
          rintro e w11 ⟨rfl, hg11⟩
          have k9 := HC9.out w11 (hg10.trans hg11)
          have hx0 : (0 : Int) ≤ (xn : Int) := by omega
          have hx1 : (xn : Int) < (A.length : Int) := by omega
          go_wp2_with fail
          go_ret
          exact ⟨rfl, HEND.out.trans ((hg9a.trans hg10).trans hg11)⟩
  · clear HZ HLEN
    generalize rr.2 = r2 at *
    have hzb : (r2 != 0) = true := by simpa using hz
    go_wp2_with fail
    go_ret
    exact ⟨rfl, GA.out.trans hg5a⟩
end Go.Proofs.YtjlnompmhgjaaaaGreat


/- A cell that is read lies in a block that is there. -/
namespace Go.Proofs.YtjlnompmhgjaaaaGreat
open Go.RowKit

theorem cell_lt {w : World} {a : Addr} {u : Value} (h : w.cell? a = some u) : a.block < w.heap.size := by
  unfold World.cell? at h
  split at h
  · rename_i hh
    exact (Array.getElem?_eq_some_iff.1 hh).1
  · cases h

end Go.Proofs.YtjlnompmhgjaaaaGreat


/- An argument that is a list of bytes. -/
namespace Go.Proofs.YtjlnompmhgjaaaaGreat
open Go.RowKit

theorem argB_of_trod {H : Type} {enc : TypeId × Value → H} {P : Program} {W : World} {sp : Nat → Bool} {held : Bool} {n : Nat} {t e : TypeId} {v : Value} {y : DataW H × List MemPlace}
    (ht : P.underlying t = some (.slice e)) (he : P.underlying e = some (.int .u8)) (hc : P.cellsOf e = 1) (h : DataW.trod enc P W 0 sp held n t [v] = some y) : ∃ N, ArgB W v N := by
  rcases Go.ChangeShapes.open_ints ht he hc h with ⟨hv, _⟩ | ⟨a, len, cap, zs, hv, _, hl, hm, hz, _, hcell, hwf⟩
  · obtain rfl : v = .slice none 0 0 := by simpa using hv
    exact ⟨0, ⟨none, 0, rfl⟩, by omega, fun h => absurd h (by omega)⟩
  · obtain rfl : v = .slice (some a) len cap := by simpa using hv
    have hlm : len ≤ zs.length := by rw [hz]; split <;> omega
    have hmax : maxLen = 9223372036854775807 := by decide
    rw [hmax] at hm
    refine ⟨len, ⟨some a, cap, rfl⟩, by omega, fun hp => ?_⟩
    obtain ⟨b, off, spot⟩ := a
    have h0 := hcell 0 (by omega)
    have hspot : spot = none := by simpa [Addr.add] using World.cell?_spot h0
    subst hspot
    have hb := cell_lt h0
    have hadd : ∀ i, (⟨b, off, none⟩ : Addr).add i = ⟨b, off + i, none⟩ := fun i => by
      unfold Addr.add
      split
      · subst_vars; rfl
      · rfl
    rw [hadd] at hb
    refine ⟨b, off, cap, rfl, hb, hl, hm, fun j hj => ⟨zs.getD j 0, ?_, ?_, ?_⟩⟩
    · have hw := hwf (zs.getD j 0) (by simp [List.getD, show j < zs.length by omega])
      simp [Lit.wf, IntKind.min, IntKind.max, IntKind.signed, IntKind.bits] at hw
      have := hw.1
      simpa [List.getD] using this
    · have hw := hwf (zs.getD j 0) (by simp [List.getD, show j < zs.length by omega])
      simp [Lit.wf, IntKind.min, IntKind.max, IntKind.signed, IntKind.bits] at hw
      have := hw.2
      simp [List.getD] at this ⊢
      omega
    · rw [← hadd]
      exact hcell j (by omega)
end Go.Proofs.YtjlnompmhgjaaaaGreat


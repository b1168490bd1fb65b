/- l03Match of the reference. -/
import Derived.Test.YtpbaiadaanpllaaDoorMatchT
import Derived.Test.YtpbaiadaanpllaaDoorOwnV
import Derived.Test.YtpbaiadaanpllaaDoorOwn
import Derived.Test.YtpbaiadaanpllaaDoorEqual
import Derived.Deep.OwnRows
import Derived.Deep.LoopGhost
import Derived.Deep.RegionHeld3
import Derived.Deep.QuietTactic
import Derived.BigQuiet
import Derived.WalkLawsBesides
import Derived.Outline
namespace Go.Proofs.YtpbaiadaanpllaaDoor
open Go.RowKit
open Fm (Nd Tree)

theorem infoB : (Tryd.prog.info? 4).map (fun i => (i.zero, i.size, i.bytes)) = some (some (.bool false), 1, 1) := by kernel_rfl
def AllSl (us : List Value) : Prop := ∀ u ∈ us, ∃ A n c, u = .slice A n c
theorem l03Self_c (w : World) :
    Calls Tryd.prog 49 #[] w fun e w' => ∃ v us, e = .returned v ∧ OwnV w' w.heap.size v us ∧ us.length = 6 ∧ AllSl us ∧ Grew w w' := by
  go_enter Tryd.func49, Tryd.ntmps49
  go_wp2_with fail
  go_loopw [1, 2] (fun vv i wr => ∃ (j : Nat) (us : List Value), j ≤ 6 ∧ us.length = j ∧ i = .int .i64 j ∧ OwnV wr w.heap.size vv us ∧ Grew w wr ∧ Hid (AllSl us)) (fun _ i _ => 6 - (intOf i).toNat)
  case atStart => exact ⟨0, [], by omega, rfl, rfl, own_empty w, (Grew.refl w).alloc _, fun u hu => absurd hu (by simp)⟩
  case round =>
    obtain ⟨j, us, hj, hu, rfl, hO, hB, HH⟩ := hrel
    by_cases hlt : j < 6
    · go_wp2_with fail
      refine (l02Var_c _ _).mono ?_
      rintro e w1 ⟨u, rfl, ho1, hg1⟩
      have hone := own_one ho1
      obtain ⟨A, cc, rfl⟩ := nodes_slice ho1.nodes
      have hB1 := hB.trans hg1
      have hO1 : OwnV (w1.alloc (.cells #[.slice A (Fm.vari j).length cc] 22)) w.heap.size u1 us := own_grew hO (hg1.trans ((Grew.refl w1).alloc _))
      have HH2 : Hid (AllSl (us ++ [.slice A (Fm.vari j).length cc])) := Lib.hid (fun x hx => by
        rcases List.mem_append.1 hx with hx | hx
        · exact HH.out x hx
        · simp at hx; exact ⟨_, _, _, hx⟩)
      go_wp2_with (first | (at_builtin; refine wpList_appV (w0 := w) _ _ rfl rfl _ us rfl hO1 (hB1.alloc _) _ _ rfl (rd_lit _ _ _) hone (by omega) ?_; intro v2 w2 hown2 hg2 hgr2))
      go_roundw
      case rel => exact ⟨j + 1, _, by omega, by rw [List.length_append, hu]; rfl, by go_num, hown2, hg2, HH2⟩
      case measure => simp [intOf]; omega
    · obtain rfl : j = 6 := by omega
      go_wp2_with fail
      go_ret
      exact ⟨_, _, rfl, hO, hu, HH.out, hB⟩

/-- The images of the reference, and which are known. -/
def ImgS (w : World) (B : Nat) (cur kc : Array Value) (σ : Nat → List Nd) : Prop := ∀ v, v < 6 → ∃ A n c, cur[v]? = some (.slice A n c) ∧ (σ v ≠ [] → Own w B (.slice A n c) (σ v) ∧ (σ v).length ≤ 1048576) ∧ kc[v]? = some (.bool (decide (σ v ≠ [])))
theorem ImgS.grew {w w' : World} {B : Nat} {cur kc : Array Value} {σ : Nat → List Nd} (h : ImgS w B cur kc σ) (hg : Grew w w') : ImgS w' B cur kc σ := fun v hv => by
  obtain ⟨A, n, c, h1, h2, h3⟩ := h v hv
  exact ⟨A, n, c, h1, fun hz => ⟨(h2 hz).1.grew hg, (h2 hz).2⟩, h3⟩
theorem ImgS.only {w w' : World} {B g : Nat} {cur kc : Array Value} {σ : Nat → List Nd} (h : ImgS w B cur kc σ) (hg : Only g w w') (hB : g < B) : ImgS w' B cur kc σ := fun v hv => by
  obtain ⟨A, n, c, h1, h2, h3⟩ := h v hv
  exact ⟨A, n, c, h1, fun hz => ⟨(h2 hz).1.only hg (fun e => by have := own_of_ge (h2 hz).1 e; omega), (h2 hz).2⟩, h3⟩
theorem ImgS.set {w : World} {B : Nat} {cur kc : Array Value} {σ : Nat → List Nd} {v nn cc : Nat} {A : Option Addr} {c : List Nd} (h : ImgS w B cur kc σ) (hv : v < cur.size) (hk : v < kc.size) (hu : Own w B (.slice A nn cc) c) (hl : c.length ≤ 1048576) (hc : c ≠ []) : ImgS w B (cur.setIfInBounds v (.slice A nn cc)) (kc.setIfInBounds v (.bool true)) (upd σ v c) := fun x hx => by
  unfold upd
  by_cases hxv : x = v
  · subst hxv
    refine ⟨A, nn, cc, ?_, ?_, ?_⟩
    · rw [Array.getElem?_setIfInBounds, if_pos rfl, if_pos hv]
    · rw [if_pos rfl]; exact fun _ => ⟨hu, hl⟩
    · rw [Array.getElem?_setIfInBounds, if_pos rfl, if_pos hk, if_pos rfl, decide_eq_true hc]
  · obtain ⟨A', n', c', h1, h2, h3⟩ := h x hx
    refine ⟨A', n', c', ?_, ?_, ?_⟩
    · rw [Array.getElem?_setIfInBounds, if_neg (fun e => hxv e.symm)]; exact h1
    · rw [if_neg hxv]; exact h2
    · rw [Array.getElem?_setIfInBounds, if_neg (fun e => hxv e.symm), if_neg hxv]; exact h3
theorem ImgS.start {w : World} {B : Nat} {cur kc : Array Value} (h : ∀ v, v < 6 → ∃ A n c, cur[v]? = some (.slice A n c)) (hk : ∀ v, v < 6 → kc[v]? = some (.bool false)) : ImgS w B cur kc (fun _ => []) := fun v hv => by
  obtain ⟨A, n, c, h1⟩ := h v hv
  exact ⟨A, n, c, h1, fun hz => absurd rfl hz, hk v hv⟩
theorem opened {w : World} {B : Nat} {v : Value} {us : List Value} (h : OwnV w B v us) (hl : us.length = 6) (ha : AllSl us) :
    ∃ g cap cur, v = .slice (some ⟨g, 0, none⟩) 6 cap ∧ B ≤ g ∧ w.heap[g]? = some (.cells cur 22 (0, 0)) ∧ 6 ≤ cur.size ∧ ∀ x, x < 6 → ∃ A n c, cur[x]? = some (.slice A n c) := by
  rcases h.2 with ⟨_, h0⟩ | ⟨g, cap, cur, rfl, hb, hg, hnc, hcm, hcs, ht⟩
  · omega
  · refine ⟨g, cap, cur, by rw [hl], hb, hg, by omega, fun x hx => ?_⟩
    obtain ⟨A, n, c, h1⟩ := ha us[x] (List.getElem_mem (by omega))
    refine ⟨A, n, c, ?_⟩
    have h2 : us[x]? = some (.slice A n c) := by rw [List.getElem?_eq_getElem (by omega), h1]
    rw [← ht, List.getElem?_take, if_pos (by omega)] at h2
    simpa using h2

set_option maxHeartbeats 1600000 in
theorem l03Match_c (v u : Value) (s t : Tree) (w : World) (h1 : Nodes w v (Fm.enc s)) (h2 : Nodes w u (Fm.enc t)) (hs : (Fm.enc s).length ≤ 1048576) (ht : (Fm.enc t).length ≤ 1048576) :
    Calls Tryd.prog 38 #[v, u] w fun e w' => ∃ q, e = .returned (.tuple #[q, .bool (mrun (Fm.enc t) (Fm.enc s) 0 (fun _ => []))]) ∧ Grew w w' := by
  rcases h1.open_ with ⟨_, h0⟩ | ⟨b1, o1, c1, rfl, hc1, hm1, hb1, hf1⟩
  · have := Fm.enc_pos s; rw [h0] at this; simp at this
  rcases h2.open_ with ⟨_, h0⟩ | ⟨b2, o2, c2, rfl, hc2, hm2, hb2, hf2⟩
  · have := Fm.enc_pos t; rw [h0] at this; simp at this
  have hbal := Bal.start s t
  have hmk : ∀ w : World, (Instr.makeSlice 71 (.int .i64 6) (.int .i64 6)).run Tryd.prog w = .ok (.slice (some ⟨w.heap.size, 0, none⟩) 6 6) (w.alloc (.cells (madeCells #[Value.bool false] 6) 4)) := run_make_row' (P := Tryd.prog) 71 4 (.bool false) 1 Tryd.underlying71 infoB rfl .i64 .i64 6 (by omega) (by omega)
  obtain ⟨R, hR⟩ : ∃ R, R = mrun (Fm.enc t) (Fm.enc s) 0 (fun _ => []) := ⟨_, rfl⟩
  rw [← hR]
  have hsz : (madeCells #[Value.bool false] 6).size = 6 := by simp [madeCells]
  have hkc : ∀ x, x < 6 → (madeCells #[Value.bool false] 6)[x]? = some (.bool false) := fun x hx => by
    obtain rfl | rfl | rfl | rfl | rfl | rfl : x = 0 ∨ x = 1 ∨ x = 2 ∨ x = 3 ∨ x = 4 ∨ x = 5 := by omega
    all_goals simp [madeCells]
  generalize madeCells #[Value.bool false] 6 = kc0 at *
  generalize Fm.enc s = a at *
  generalize Fm.enc t = xs at *
  have HC1 := Lib.hid hf1
  have HC2 := Lib.hid hf2
  have HR : Hid (R = mrun xs (a.drop 0) 0 (fun _ => [])) := Lib.hid hR
  have H2 := Lib.hid h2
  have HBAL := Lib.hid hbal
  clear hf1 hf2 hR h1 h2 hbal
  generalize hN : a.length = n at *
  generalize hM : xs.length = m at *
  have hr := Grew.refl w
  have hd := (Grew.refl w).drew
  go_enter Tryd.func38, Tryd.ntmps38
  go_wp2_with fail
  go_region_held3 (fun w' => Grew w w') (first | with_reducible assumption | exact Grew.alloc (by with_reducible assumption) _)
    (first | (go_at_call 49; refine (l03Self_c _).mono ?_; rintro e w1 ⟨v1, us, rfl, ho1, hus, hall, hg1⟩; have hk1 : Grew w w1 := by first | exact Grew.trans hd hg1 | exact Grew.trans (hd.alloc _) hg1))
  all_goals go_wp2_with fail
  · obtain ⟨g1, cap, cur0, rfl, hg1b, hh1, hcs0, himg⟩ := opened ho1 hus hall
    have hs1 : w1.heap.size ≤ w1.heap.size := Nat.le_refl _
    have hdz : w.drew.heap.size = w.heap.size := rfl
    have hlt1 := blk_lt hh1
    have hne12 : g1 ≠ w1.heap.size := by omega
    have hh2 := blk_new w1 (.cells kc0 4)
    have hh1 := (((Grew.refl w1).alloc (.cells kc0 4)).block hlt1).trans hh1
    have hB0 : Grew w (w1.alloc (.cells kc0 4)) := hk1.alloc _
    have hg1w : w.heap.size ≤ g1 := by omega
    have hg2w : w.heap.size ≤ w1.heap.size := hk1.size
    have hg1B : g1 < (w1.alloc (.cells kc0 4)).heap.size := by simp; omega
    have hg2B : w1.heap.size < (w1.alloc (.cells kc0 4)).heap.size := by simp
    clear ho1 hg1 hk1 hlt1 hs1 hg1b
    generalize w1.alloc (.cells kc0 4) = W0 at *
    generalize w1.heap.size = g2 at *
    have HIMG := Lib.hid (ImgS.start (w := W0) (B := W0.heap.size) himg hkc)
    have HH1 := Lib.hid hh1
    have HH2 := Lib.hid hh2
    clear hh1 hh2 himg
    go_loopw [8, 9] (fun x i wr => ∃ (j p : Nat) (cur kc : Array Value) (σ : Nat → List Nd), j ≤ n ∧ p ≤ m ∧ x = .int .i64 p ∧ i = .int .i64 j ∧ wr.heap[g1]? = some (.cells cur 22 (0, 0)) ∧ wr.heap[g2]? = some (.cells kc 4 (0, 0)) ∧ 6 ≤ cur.size ∧ kc.size = 6 ∧ Grew w wr ∧ W0.heap.size ≤ wr.heap.size ∧ Hid (ImgS wr W0.heap.size cur kc σ) ∧ Hid (Bal a j xs p) ∧ Hid (R = mrun xs (a.drop j) p σ)) (fun _ i _ => n - (intOf i).toNat)
    case atStart => exact ⟨0, 0, cur0, kc0, _, Nat.zero_le _, Nat.zero_le _, rfl, rfl, HH1.out, HH2.out, hcs0, hsz, hB0, Nat.le_refl _, HIMG.out, HBAL.out, HR.out⟩
    case round =>
      obtain ⟨j, p, cur, kc, σ, hj, hp, rfl, rfl, hh1, hh2, hcs, hks, hB, hB0s, HI, HL, HR'⟩ := hrel
      clear HBAL HR HH1 HH2 HIMG
      by_cases hlt : j < n
      · have k1 := (HC1.out j hlt _ hB).1
        have k2 := (HC1.out j hlt _ hB).2
        have hpm : p < m := by rw [← hM]; exact HL.out.lt (by rw [hN]; exact hlt)
        have k3 : ∀ W, Grew w W → W.cell? ⟨b2, o2 + p * 2, none⟩ = some (.int .i64 (kd xs p)) := fun W hW => (HC2.out p hpm W hW).1
        have k4 : ∀ W, Grew w W → W.cell? ⟨b2, o2 + p * 2 + 1, none⟩ = some (.int .i64 (sy xs p)) := fun W hW => (HC2.out p hpm W hW).2
        have k5 : ∀ W, Grew w W → W.cell? ⟨b1, o1 + j * 2, none⟩ = some (.int .i64 (kd a j)) := fun W hW => (HC1.out j hlt W hW).1
        have k6 : ∀ W, Grew w W → W.cell? ⟨b1, o1 + j * 2 + 1, none⟩ = some (.int .i64 (sy a j)) := fun W hW => (HC1.out j hlt W hW).2
        have hr1 := Grew.refl wr
        have hd1 := (Grew.refl wr).drew
        have hwd := hB.drew
        by_cases h0 : kd a j = 0
        · obtain ⟨tr, vv, ht1, hv, hsy, hbal⟩ := HL.out.var (by rw [hN]; exact hlt) h0
          have hmr := mrun_var (σ := σ) (by rw [hN]; exact hlt) h0 hsy ht1
          rw [← HR'.out] at hmr
          have hle := ht1.le
          have hpos := Fm.enc_pos tr
          rw [hM] at hle
          have hP := Lib.hid (fun W (hW : Grew w W) => l02Part_at _ xs p tr W (H2.out.grew hW) (by rw [hM]; omega) ht1)
          have hnp := fun W (hW : Grew w W) => (H2.out.grew hW).sub p (Fm.enc tr).length (c2 - p) (by rw [hM]; exact hle) (by omega) (by omega)
          rw [ht1.take] at hnp
          have HNP := Lib.hid hnp
          obtain ⟨A3, n3, c3, hu1, hu2, hkv⟩ := HI.out vv hv
          rw [h0] at k1
          rw [hsy] at k2
          have k7 : ∀ W, Grew wr W → W.cell? ⟨b1, o1 + j * 2 + 1, none⟩ = some (.int .i64 vv) := fun W hW => by rw [k6 _ (hB.trans hW), hsy]
          clear h0 hsy ht1 hnp k5 k6
          have HBAL := Lib.hid hbal
          have HMR := Lib.hid hmr
          clear hbal hmr HL
          generalize Fm.enc tr = c at *
          have hcne : c ≠ [] := fun h => by rw [h] at hpos; simp at hpos
          have HW1 : Hid (∀ W, Grew wr W → W.heap[g1]? = some (.cells cur 22 (0, 0))) := Lib.hid fun W hW => (hW.block (blk_lt hh1)).trans hh1
          have HW2 : Hid (∀ W, Grew wr W → W.heap[g2]? = some (.cells kc 4 (0, 0))) := Lib.hid fun W hW => (hW.block (blk_lt hh2)).trans hh2
          have HUP := Lib.hid (fun W A nn cc hu hI => ImgS.set (w := W) (B := W0.heap.size) (cur := cur) (kc := kc) (σ := σ) (v := vv) (A := A) (nn := nn) (cc := cc) (c := c) hI (by omega) (by omega) hu (by omega) hcne)
          clear hh1 hh2
          have HI1 := Lib.hid (fun W (hW : Grew wr W) => HI.out.grew hW)
          have hq0 : (0 : Int) ≤ (p : Int) := by omega
          have hq1 : (p : Int) ≤ (p : Int) + (c.length : Int) := by omega
          have hq2 : (p : Int) + (c.length : Int) ≤ (c2 : Int) := by omega
          have hi0 : (0 : Int) ≤ (vv : Int) := by omega
          have hi6 : (vv : Int) < 6 := by omega
          have hj0 : (0 : Int) ≤ (j : Int) := by omega
          have hjn : (j : Int) < (n : Int) := by omega
          have hsub : ((p : Int) + (c.length : Int)) - (p : Int) = (c.length : Int) := by omega
          by_cases hz : σ vv = []
          · have hv2 : R = mrun xs (a.drop (j + 1)) (p + c.length) (upd σ vv c) := by rw [HMR.out, if_neg (by simp [hz])]
            have HV2 := Lib.hid hv2
            rw [show decide (σ vv ≠ []) = false by simp [hz]] at hkv
            clear hv2 HMR hz hu2
            go_wp2_with fail
            go_region_held3 (fun w' => Grew wr w') (with_reducible assumption)
              (first | (go_at_call 48; refine (hP.out _ hwd).mono ?_; rintro e w1 ⟨rfl, hg1⟩; have hk1 : Grew wr w1 := hd1.trans hg1))
            have e1 : w1.cell? ⟨g2, vv, none⟩ = some (.bool false) := (blk_cell (HW2.out _ hk1) vv).trans hkv
            have e2 : w1.cell? ⟨g1, vv, none⟩ = some (.slice A3 n3 c3) := (blk_cell (HW1.out _ hk1) vv).trans hu1
            have hk2 := hk1
            have hh2 := HW2.out _ hk2
            have hh1 := HW1.out _ hk2
            have f2 := blk_frozen hh2 vv
            have e3 : w1.cell? ⟨g2, vv, none⟩ = some (.bool false) := (blk_cell hh2 vv).trans hkv
            have HX2 := Lib.hid (blk_set hh2 vv (.bool true))
            have HX1 := Lib.hid ((Below.heap_setCell w1 ⟨g2, vv, none⟩ (.bool true) g1 (by simpa using hne12)).trans hh1)
            have hO2 : Only g2 w1 (w1.setCell ⟨g2, vv, none⟩ (.bool true)) := (Only.refl g2 w1).setCell _
            have hBx : Grew w (w1.setCell ⟨g2, vv, none⟩ (.bool true)) := (hB.trans hk2).setCell hg2w _
            have HIx := Lib.hid ((HI1.out _ hk2).only hO2 hg2B)
            clear hh1 hh2
            go_wp2_with fail
            (try rw [Nat.add_sub_cancel_left])
            refine (l02Own_c _ c _ (HNP.out _ hBx) (by omega)).mono ?_
            rintro e w4 ⟨q4, rfl, ho4, hg4⟩
            obtain ⟨A4, k4, rfl⟩ := nodes_slice ho4.nodes
            have hh3 := (hg4.block (blk_lt HX1.out)).trans HX1.out
            have hh4 := (hg4.block (blk_lt HX2.out)).trans HX2.out
            have f3 := blk_frozen hh3 vv
            have e4 : w4.cell? ⟨g1, vv, none⟩ = some (.slice A3 n3 c3) := (blk_cell hh3 vv).trans hu1
            have HY1 := Lib.hid (blk_set hh3 vv (.slice A4 c.length k4))
            have HY2 := Lib.hid ((Below.heap_setCell w4 ⟨g1, vv, none⟩ (.slice A4 c.length k4) g2 (by simpa using hne12.symm)).trans hh4)
            have hBy : Grew w (w4.setCell ⟨g1, vv, none⟩ (.slice A4 c.length k4)) := (hBx.trans hg4).setCell hg1w _
            have hsz4 := Nat.le_trans hB0s (Nat.le_trans hk2.size (show w1.heap.size ≤ (w1.setCell ⟨g2, vv, none⟩ (.bool true)).heap.size by simp))
            have HIy := Lib.hid ((HUP.out _ _ _ _ (ho4.base hsz4) (HIx.out.grew hg4)).only ((Only.refl g1 w4).setCell (o := vv) (.slice A4 c.length k4)) hg1B)
            have hcs2 : 6 ≤ (cur.setIfInBounds vv (.slice A4 c.length k4)).size := by simpa using hcs
            have hks2 : (kc.setIfInBounds vv (.bool true)).size = 6 := by simpa using hks
            clear hh3 hh4
            go_wp2_with fail
            go_roundw
            case rel => exact ⟨j + 1, p + c.length, _, _, _, by omega, by omega, by go_num, by go_num, HY1.out, HY2.out, hcs2, hks2, hBy, Nat.le_trans hsz4 (Nat.le_trans hg4.size (by simp)), HIy.out, HBAL.out, HV2.out⟩
            case measure => simp [intOf]; omega
          · obtain ⟨hown, hlen⟩ := hu2 hz
            rw [show decide (σ vv ≠ []) = true by simp [hz]] at hkv
            have hs1 := fun W (hW : Grew wr W) => l02Equal_c _ _ (σ vv) c W (hown.nodes.grew hW) (HNP.out W (hB.trans hW)) (by omega)
            by_cases hz2 : σ vv = c
            · have hv2 : R = mrun xs (a.drop (j + 1)) (p + c.length) (upd σ vv c) := by rw [HMR.out, if_neg (by simp [hz2])]
              have HV2 := Lib.hid hv2
              rw [decide_eq_true hz2] at hs1
              have HS := Lib.hid hs1
              clear hs1 hv2 HMR hu2 hz hz2 hown hlen
              go_wp2_with fail
              go_region_held3 (fun w' => Grew wr w') (with_reducible assumption)
                (first | (go_at_call 48; refine (hP.out _ hwd).mono ?_; rintro e w1 ⟨rfl, hg1⟩; have hk1 : Grew wr w1 := hd1.trans hg1))
              have e1 : w1.cell? ⟨g2, vv, none⟩ = some (.bool true) := (blk_cell (HW2.out _ hk1) vv).trans hkv
              have e2 : w1.cell? ⟨g1, vv, none⟩ = some (.slice A3 n3 c3) := (blk_cell (HW1.out _ hk1) vv).trans hu1
              go_wp2_with fail
              refine (HS.out _ hk1).mono ?_
              rintro e w2 ⟨rfl, hg2⟩
              have hk2 := hk1.trans hg2
              have hh2 := HW2.out _ hk2
              have hh1 := HW1.out _ hk2
              have f2 := blk_frozen hh2 vv
              have e3 : w2.cell? ⟨g2, vv, none⟩ = some (.bool true) := (blk_cell hh2 vv).trans hkv
              have HX2 := Lib.hid (blk_set hh2 vv (.bool true))
              have HX1 := Lib.hid ((Below.heap_setCell w2 ⟨g2, vv, none⟩ (.bool true) g1 (by simpa using hne12)).trans hh1)
              have hO2 : Only g2 w2 (w2.setCell ⟨g2, vv, none⟩ (.bool true)) := (Only.refl g2 w2).setCell _
              have hBx : Grew w (w2.setCell ⟨g2, vv, none⟩ (.bool true)) := (hB.trans hk2).setCell hg2w _
              have HIx := Lib.hid ((HI1.out _ hk2).only hO2 hg2B)
              clear hh1 hh2
              go_wp2_with fail
              (try rw [Nat.add_sub_cancel_left])
              refine (l02Own_c _ c _ (HNP.out _ hBx) (by omega)).mono ?_
              rintro e w4 ⟨q4, rfl, ho4, hg4⟩
              obtain ⟨A4, k4, rfl⟩ := nodes_slice ho4.nodes
              have hh3 := (hg4.block (blk_lt HX1.out)).trans HX1.out
              have hh4 := (hg4.block (blk_lt HX2.out)).trans HX2.out
              have f3 := blk_frozen hh3 vv
              have e4 : w4.cell? ⟨g1, vv, none⟩ = some (.slice A3 n3 c3) := (blk_cell hh3 vv).trans hu1
              have HY1 := Lib.hid (blk_set hh3 vv (.slice A4 c.length k4))
              have HY2 := Lib.hid ((Below.heap_setCell w4 ⟨g1, vv, none⟩ (.slice A4 c.length k4) g2 (by simpa using hne12.symm)).trans hh4)
              have hBy : Grew w (w4.setCell ⟨g1, vv, none⟩ (.slice A4 c.length k4)) := (hBx.trans hg4).setCell hg1w _
              have hsz4 := Nat.le_trans hB0s (Nat.le_trans hk2.size (show w2.heap.size ≤ (w2.setCell ⟨g2, vv, none⟩ (.bool true)).heap.size by simp))
              have HIy := Lib.hid ((HUP.out _ _ _ _ (ho4.base hsz4) (HIx.out.grew hg4)).only ((Only.refl g1 w4).setCell (o := vv) (.slice A4 c.length k4)) hg1B)
              have hcs2 : 6 ≤ (cur.setIfInBounds vv (.slice A4 c.length k4)).size := by simpa using hcs
              have hks2 : (kc.setIfInBounds vv (.bool true)).size = 6 := by simpa using hks
              clear hh3 hh4
              go_wp2_with fail
              go_roundw
              case rel => exact ⟨j + 1, p + c.length, _, _, _, by omega, by omega, by go_num, by go_num, HY1.out, HY2.out, hcs2, hks2, hBy, Nat.le_trans hsz4 (Nat.le_trans hg4.size (by simp)), HIy.out, HBAL.out, HV2.out⟩
              case measure => simp [intOf]; omega
            · have hv2 : R = false := by rw [HMR.out, if_pos ⟨hz, hz2⟩]
              have HV2 := Lib.hid hv2
              rw [decide_eq_false hz2] at hs1
              have HS := Lib.hid hs1
              clear hs1 hv2 HMR hu2 hz hz2 hown hlen
              go_wp2_with fail
              go_region_held3 (fun w' => Grew wr w') (with_reducible assumption)
                (first | (go_at_call 48; refine (hP.out _ hwd).mono ?_; rintro e w1 ⟨rfl, hg1⟩; have hk1 : Grew wr w1 := hd1.trans hg1))
              have e1 : w1.cell? ⟨g2, vv, none⟩ = some (.bool true) := (blk_cell (HW2.out _ hk1) vv).trans hkv
              have e2 : w1.cell? ⟨g1, vv, none⟩ = some (.slice A3 n3 c3) := (blk_cell (HW1.out _ hk1) vv).trans hu1
              go_wp2_with fail
              refine (HS.out _ hk1).mono ?_
              rintro e w2 ⟨rfl, hg2⟩
              have hk2 := hk1.trans hg2
              go_wp2_with fail
              go_ret2
              exact ⟨_, by rw [HV2.out]; rfl, hB.trans hk2⟩
        · have hne : (kd a j != 0) = true := by simp [h0]
          have hmr := mrun_node (xs := xs) (j := p) (σ := σ) (by rw [hN]; exact hlt) h0
          rw [← HR'.out] at hmr
          have hgd := Tryd.ndGuard
          by_cases he : kd xs p = kd a j ∧ sy xs p = sy a j
          · have hq : ∀ W, (binOp .neq 44 (.agg #[.int .i64 (kd a j), .int .i64 (sy a j)]) (.agg #[.int .i64 (kd xs p), .int .i64 (sy xs p)])).run Tryd.prog W = .ok (.bool false) W := fun W => by
              rw [Tryd.ndNeq]
              rw [he.1, he.2]; simp
            have hbal := Lib.hid (HL.out.node (by rw [hN]; exact hlt) he.1)
            rw [if_pos he] at hmr
            have HMR := Lib.hid hmr
            clear hmr he h0 HL HR'
            go_wp2_with fail
            go_quiet (fail)
            go_wp2_with fail
            go_roundw
            case rel => exact ⟨j + 1, p + 1, cur, kc, σ, by omega, by omega, by go_num, by go_num, hh1, hh2, hcs, hks, hB.drewN _, hB0s, HI.out.grew ((Grew.refl _).drewN _), hbal, HMR⟩
            case measure => simp [intOf]; omega
          · have hq : ∀ W, (binOp .neq 44 (.agg #[.int .i64 (kd a j), .int .i64 (sy a j)]) (.agg #[.int .i64 (kd xs p), .int .i64 (sy xs p)])).run Tryd.prog W = .ok (.bool true) W := fun W => by
              rw [Tryd.ndNeq]
              have hz : (kd a j == kd xs p && sy a j == sy xs p) = false := by
                cases hz : (kd a j == kd xs p && sy a j == sy xs p) with
                | false => rfl
                | true => simp at hz; exact absurd ⟨hz.1.symm, hz.2.symm⟩ he
              rw [hz]; rfl
            rw [if_neg he] at hmr
            have HMR := Lib.hid hmr
            clear hmr he h0 HL HR'
            go_wp2_with fail
            go_quiet (fail)
            go_wp2_with fail
            go_ret2
            exact ⟨_, by rw [HMR.out]; rfl, hB.drewN _⟩
      · obtain rfl : j = n := by omega
        have hv : R = true := by rw [HR'.out, mrun_end]; omega
        have hfin : p = m := by rw [← hM]; exact HL.out.fin (by omega)
        have HV := Lib.hid hv
        subst hfin
        clear HL HR' HI hv HC1 HC2
        have hpp : ((p : Int) == (p : Int)) = true := by simp
        go_wp2_with fail
        go_ret2
        exact ⟨_, by rw [HV.out]; rfl, hB⟩
  · obtain ⟨g1, cap, cur0, rfl, hg1b, hh1, hcs0, himg⟩ := opened ho1 hus hall
    have hdz : w.drew.heap.size = w.heap.size := rfl
    have hlt1 := blk_lt hh1
    have hg1b' : w.heap.size + 1 ≤ g1 := by simpa using hg1b
    have hne12 : g1 ≠ w.heap.size := by omega
    have hh2 : w1.heap[w.heap.size]? = some (.cells kc0 4 (0, 0)) := (hg1.block (by simp [hdz])).trans (blk_new w.drew _)
    have hB0 : Grew w w1 := hk1
    have hg1w : w.heap.size ≤ g1 := by omega
    have hg2w : w.heap.size ≤ w.heap.size := Nat.le_refl _
    have hg1B : g1 < w1.heap.size := hlt1
    have hg2B : w.heap.size < w1.heap.size := by omega
    clear ho1 hg1 hk1 hlt1 hg1b hg1b'
    generalize w1 = W0 at *
    obtain ⟨g2, hg2e⟩ : ∃ g2, g2 = w.heap.size := ⟨_, rfl⟩
    rw [← hg2e] at hne12 hh2 hg2B
    rw [← hg2e]
    have hg2w : w.heap.size ≤ g2 := by omega
    clear hg2e
    have HIMG := Lib.hid (ImgS.start (w := W0) (B := W0.heap.size) himg hkc)
    have HH1 := Lib.hid hh1
    have HH2 := Lib.hid hh2
    clear hh1 hh2 himg
    go_loopw [8, 9] (fun x i wr => ∃ (j p : Nat) (cur kc : Array Value) (σ : Nat → List Nd), j ≤ n ∧ p ≤ m ∧ x = .int .i64 p ∧ i = .int .i64 j ∧ wr.heap[g1]? = some (.cells cur 22 (0, 0)) ∧ wr.heap[g2]? = some (.cells kc 4 (0, 0)) ∧ 6 ≤ cur.size ∧ kc.size = 6 ∧ Grew w wr ∧ W0.heap.size ≤ wr.heap.size ∧ Hid (ImgS wr W0.heap.size cur kc σ) ∧ Hid (Bal a j xs p) ∧ Hid (R = mrun xs (a.drop j) p σ)) (fun _ i _ => n - (intOf i).toNat)
    case atStart => exact ⟨0, 0, cur0, kc0, _, Nat.zero_le _, Nat.zero_le _, rfl, rfl, HH1.out, HH2.out, hcs0, hsz, hB0, Nat.le_refl _, HIMG.out, HBAL.out, HR.out⟩
    case round =>
      obtain ⟨j, p, cur, kc, σ, hj, hp, rfl, rfl, hh1, hh2, hcs, hks, hB, hB0s, HI, HL, HR'⟩ := hrel
      clear HBAL HR HH1 HH2 HIMG
      by_cases hlt : j < n
      · have k1 := (HC1.out j hlt _ hB).1
        have k2 := (HC1.out j hlt _ hB).2
        have hpm : p < m := by rw [← hM]; exact HL.out.lt (by rw [hN]; exact hlt)
        have k3 : ∀ W, Grew w W → W.cell? ⟨b2, o2 + p * 2, none⟩ = some (.int .i64 (kd xs p)) := fun W hW => (HC2.out p hpm W hW).1
        have k4 : ∀ W, Grew w W → W.cell? ⟨b2, o2 + p * 2 + 1, none⟩ = some (.int .i64 (sy xs p)) := fun W hW => (HC2.out p hpm W hW).2
        have k5 : ∀ W, Grew w W → W.cell? ⟨b1, o1 + j * 2, none⟩ = some (.int .i64 (kd a j)) := fun W hW => (HC1.out j hlt W hW).1
        have k6 : ∀ W, Grew w W → W.cell? ⟨b1, o1 + j * 2 + 1, none⟩ = some (.int .i64 (sy a j)) := fun W hW => (HC1.out j hlt W hW).2
        have hr1 := Grew.refl wr
        have hd1 := (Grew.refl wr).drew
        have hwd := hB.drew
        by_cases h0 : kd a j = 0
        · obtain ⟨tr, vv, ht1, hv, hsy, hbal⟩ := HL.out.var (by rw [hN]; exact hlt) h0
          have hmr := mrun_var (σ := σ) (by rw [hN]; exact hlt) h0 hsy ht1
          rw [← HR'.out] at hmr
          have hle := ht1.le
          have hpos := Fm.enc_pos tr
          rw [hM] at hle
          have hP := Lib.hid (fun W (hW : Grew w W) => l02Part_at _ xs p tr W (H2.out.grew hW) (by rw [hM]; omega) ht1)
          have hnp := fun W (hW : Grew w W) => (H2.out.grew hW).sub p (Fm.enc tr).length (c2 - p) (by rw [hM]; exact hle) (by omega) (by omega)
          rw [ht1.take] at hnp
          have HNP := Lib.hid hnp
          obtain ⟨A3, n3, c3, hu1, hu2, hkv⟩ := HI.out vv hv
          rw [h0] at k1
          rw [hsy] at k2
          have k7 : ∀ W, Grew wr W → W.cell? ⟨b1, o1 + j * 2 + 1, none⟩ = some (.int .i64 vv) := fun W hW => by rw [k6 _ (hB.trans hW), hsy]
          clear h0 hsy ht1 hnp k5 k6
          have HBAL := Lib.hid hbal
          have HMR := Lib.hid hmr
          clear hbal hmr HL
          generalize Fm.enc tr = c at *
          have hcne : c ≠ [] := fun h => by rw [h] at hpos; simp at hpos
          have HW1 : Hid (∀ W, Grew wr W → W.heap[g1]? = some (.cells cur 22 (0, 0))) := Lib.hid fun W hW => (hW.block (blk_lt hh1)).trans hh1
          have HW2 : Hid (∀ W, Grew wr W → W.heap[g2]? = some (.cells kc 4 (0, 0))) := Lib.hid fun W hW => (hW.block (blk_lt hh2)).trans hh2
          have HUP := Lib.hid (fun W A nn cc hu hI => ImgS.set (w := W) (B := W0.heap.size) (cur := cur) (kc := kc) (σ := σ) (v := vv) (A := A) (nn := nn) (cc := cc) (c := c) hI (by omega) (by omega) hu (by omega) hcne)
          clear hh1 hh2
          have HI1 := Lib.hid (fun W (hW : Grew wr W) => HI.out.grew hW)
          have hq0 : (0 : Int) ≤ (p : Int) := by omega
          have hq1 : (p : Int) ≤ (p : Int) + (c.length : Int) := by omega
          have hq2 : (p : Int) + (c.length : Int) ≤ (c2 : Int) := by omega
          have hi0 : (0 : Int) ≤ (vv : Int) := by omega
          have hi6 : (vv : Int) < 6 := by omega
          have hj0 : (0 : Int) ≤ (j : Int) := by omega
          have hjn : (j : Int) < (n : Int) := by omega
          have hsub : ((p : Int) + (c.length : Int)) - (p : Int) = (c.length : Int) := by omega
          by_cases hz : σ vv = []
          · have hv2 : R = mrun xs (a.drop (j + 1)) (p + c.length) (upd σ vv c) := by rw [HMR.out, if_neg (by simp [hz])]
            have HV2 := Lib.hid hv2
            rw [show decide (σ vv ≠ []) = false by simp [hz]] at hkv
            clear hv2 HMR hz hu2
            go_wp2_with fail
            go_region_held3 (fun w' => Grew wr w') (with_reducible assumption)
              (first | (go_at_call 48; refine (hP.out _ hwd).mono ?_; rintro e w1 ⟨rfl, hg1⟩; have hk1 : Grew wr w1 := hd1.trans hg1))
            have e1 : w1.cell? ⟨g2, vv, none⟩ = some (.bool false) := (blk_cell (HW2.out _ hk1) vv).trans hkv
            have e2 : w1.cell? ⟨g1, vv, none⟩ = some (.slice A3 n3 c3) := (blk_cell (HW1.out _ hk1) vv).trans hu1
            have hk2 := hk1
            have hh2 := HW2.out _ hk2
            have hh1 := HW1.out _ hk2
            have f2 := blk_frozen hh2 vv
            have e3 : w1.cell? ⟨g2, vv, none⟩ = some (.bool false) := (blk_cell hh2 vv).trans hkv
            have HX2 := Lib.hid (blk_set hh2 vv (.bool true))
            have HX1 := Lib.hid ((Below.heap_setCell w1 ⟨g2, vv, none⟩ (.bool true) g1 (by simpa using hne12)).trans hh1)
            have hO2 : Only g2 w1 (w1.setCell ⟨g2, vv, none⟩ (.bool true)) := (Only.refl g2 w1).setCell _
            have hBx : Grew w (w1.setCell ⟨g2, vv, none⟩ (.bool true)) := (hB.trans hk2).setCell hg2w _
            have HIx := Lib.hid ((HI1.out _ hk2).only hO2 hg2B)
            clear hh1 hh2
            go_wp2_with fail
            (try rw [Nat.add_sub_cancel_left])
            refine (l02Own_c _ c _ (HNP.out _ hBx) (by omega)).mono ?_
            rintro e w4 ⟨q4, rfl, ho4, hg4⟩
            obtain ⟨A4, k4, rfl⟩ := nodes_slice ho4.nodes
            have hh3 := (hg4.block (blk_lt HX1.out)).trans HX1.out
            have hh4 := (hg4.block (blk_lt HX2.out)).trans HX2.out
            have f3 := blk_frozen hh3 vv
            have e4 : w4.cell? ⟨g1, vv, none⟩ = some (.slice A3 n3 c3) := (blk_cell hh3 vv).trans hu1
            have HY1 := Lib.hid (blk_set hh3 vv (.slice A4 c.length k4))
            have HY2 := Lib.hid ((Below.heap_setCell w4 ⟨g1, vv, none⟩ (.slice A4 c.length k4) g2 (by simpa using hne12.symm)).trans hh4)
            have hBy : Grew w (w4.setCell ⟨g1, vv, none⟩ (.slice A4 c.length k4)) := (hBx.trans hg4).setCell hg1w _
            have hsz4 := Nat.le_trans hB0s (Nat.le_trans hk2.size (show w1.heap.size ≤ (w1.setCell ⟨g2, vv, none⟩ (.bool true)).heap.size by simp))
            have HIy := Lib.hid ((HUP.out _ _ _ _ (ho4.base hsz4) (HIx.out.grew hg4)).only ((Only.refl g1 w4).setCell (o := vv) (.slice A4 c.length k4)) hg1B)
            have hcs2 : 6 ≤ (cur.setIfInBounds vv (.slice A4 c.length k4)).size := by simpa using hcs
            have hks2 : (kc.setIfInBounds vv (.bool true)).size = 6 := by simpa using hks
            clear hh3 hh4
            go_wp2_with fail
            go_roundw
            case rel => exact ⟨j + 1, p + c.length, _, _, _, by omega, by omega, by go_num, by go_num, HY1.out, HY2.out, hcs2, hks2, hBy, Nat.le_trans hsz4 (Nat.le_trans hg4.size (by simp)), HIy.out, HBAL.out, HV2.out⟩
            case measure => simp [intOf]; omega
          · obtain ⟨hown, hlen⟩ := hu2 hz
            rw [show decide (σ vv ≠ []) = true by simp [hz]] at hkv
            have hs1 := fun W (hW : Grew wr W) => l02Equal_c _ _ (σ vv) c W (hown.nodes.grew hW) (HNP.out W (hB.trans hW)) (by omega)
            by_cases hz2 : σ vv = c
            · have hv2 : R = mrun xs (a.drop (j + 1)) (p + c.length) (upd σ vv c) := by rw [HMR.out, if_neg (by simp [hz2])]
              have HV2 := Lib.hid hv2
              rw [decide_eq_true hz2] at hs1
              have HS := Lib.hid hs1
              clear hs1 hv2 HMR hu2 hz hz2 hown hlen
              go_wp2_with fail
              go_region_held3 (fun w' => Grew wr w') (with_reducible assumption)
                (first | (go_at_call 48; refine (hP.out _ hwd).mono ?_; rintro e w1 ⟨rfl, hg1⟩; have hk1 : Grew wr w1 := hd1.trans hg1))
              have e1 : w1.cell? ⟨g2, vv, none⟩ = some (.bool true) := (blk_cell (HW2.out _ hk1) vv).trans hkv
              have e2 : w1.cell? ⟨g1, vv, none⟩ = some (.slice A3 n3 c3) := (blk_cell (HW1.out _ hk1) vv).trans hu1
              go_wp2_with fail
              refine (HS.out _ hk1).mono ?_
              rintro e w2 ⟨rfl, hg2⟩
              have hk2 := hk1.trans hg2
              have hh2 := HW2.out _ hk2
              have hh1 := HW1.out _ hk2
              have f2 := blk_frozen hh2 vv
              have e3 : w2.cell? ⟨g2, vv, none⟩ = some (.bool true) := (blk_cell hh2 vv).trans hkv
              have HX2 := Lib.hid (blk_set hh2 vv (.bool true))
              have HX1 := Lib.hid ((Below.heap_setCell w2 ⟨g2, vv, none⟩ (.bool true) g1 (by simpa using hne12)).trans hh1)
              have hO2 : Only g2 w2 (w2.setCell ⟨g2, vv, none⟩ (.bool true)) := (Only.refl g2 w2).setCell _
              have hBx : Grew w (w2.setCell ⟨g2, vv, none⟩ (.bool true)) := (hB.trans hk2).setCell hg2w _
              have HIx := Lib.hid ((HI1.out _ hk2).only hO2 hg2B)
              clear hh1 hh2
              go_wp2_with fail
              (try rw [Nat.add_sub_cancel_left])
              refine (l02Own_c _ c _ (HNP.out _ hBx) (by omega)).mono ?_
              rintro e w4 ⟨q4, rfl, ho4, hg4⟩
              obtain ⟨A4, k4, rfl⟩ := nodes_slice ho4.nodes
              have hh3 := (hg4.block (blk_lt HX1.out)).trans HX1.out
              have hh4 := (hg4.block (blk_lt HX2.out)).trans HX2.out
              have f3 := blk_frozen hh3 vv
              have e4 : w4.cell? ⟨g1, vv, none⟩ = some (.slice A3 n3 c3) := (blk_cell hh3 vv).trans hu1
              have HY1 := Lib.hid (blk_set hh3 vv (.slice A4 c.length k4))
              have HY2 := Lib.hid ((Below.heap_setCell w4 ⟨g1, vv, none⟩ (.slice A4 c.length k4) g2 (by simpa using hne12.symm)).trans hh4)
              have hBy : Grew w (w4.setCell ⟨g1, vv, none⟩ (.slice A4 c.length k4)) := (hBx.trans hg4).setCell hg1w _
              have hsz4 := Nat.le_trans hB0s (Nat.le_trans hk2.size (show w2.heap.size ≤ (w2.setCell ⟨g2, vv, none⟩ (.bool true)).heap.size by simp))
              have HIy := Lib.hid ((HUP.out _ _ _ _ (ho4.base hsz4) (HIx.out.grew hg4)).only ((Only.refl g1 w4).setCell (o := vv) (.slice A4 c.length k4)) hg1B)
              have hcs2 : 6 ≤ (cur.setIfInBounds vv (.slice A4 c.length k4)).size := by simpa using hcs
              have hks2 : (kc.setIfInBounds vv (.bool true)).size = 6 := by simpa using hks
              clear hh3 hh4
              go_wp2_with fail
              go_roundw
              case rel => exact ⟨j + 1, p + c.length, _, _, _, by omega, by omega, by go_num, by go_num, HY1.out, HY2.out, hcs2, hks2, hBy, Nat.le_trans hsz4 (Nat.le_trans hg4.size (by simp)), HIy.out, HBAL.out, HV2.out⟩
              case measure => simp [intOf]; omega
            · have hv2 : R = false := by rw [HMR.out, if_pos ⟨hz, hz2⟩]
              have HV2 := Lib.hid hv2
              rw [decide_eq_false hz2] at hs1
              have HS := Lib.hid hs1
              clear hs1 hv2 HMR hu2 hz hz2 hown hlen
              go_wp2_with fail
              go_region_held3 (fun w' => Grew wr w') (with_reducible assumption)
                (first | (go_at_call 48; refine (hP.out _ hwd).mono ?_; rintro e w1 ⟨rfl, hg1⟩; have hk1 : Grew wr w1 := hd1.trans hg1))
              have e1 : w1.cell? ⟨g2, vv, none⟩ = some (.bool true) := (blk_cell (HW2.out _ hk1) vv).trans hkv
              have e2 : w1.cell? ⟨g1, vv, none⟩ = some (.slice A3 n3 c3) := (blk_cell (HW1.out _ hk1) vv).trans hu1
              go_wp2_with fail
              refine (HS.out _ hk1).mono ?_
              rintro e w2 ⟨rfl, hg2⟩
              have hk2 := hk1.trans hg2
              go_wp2_with fail
              go_ret2
              exact ⟨_, by rw [HV2.out]; rfl, hB.trans hk2⟩
        · have hne : (kd a j != 0) = true := by simp [h0]
          have hmr := mrun_node (xs := xs) (j := p) (σ := σ) (by rw [hN]; exact hlt) h0
          rw [← HR'.out] at hmr
          have hgd := Tryd.ndGuard
          by_cases he : kd xs p = kd a j ∧ sy xs p = sy a j
          · have hq : ∀ W, (binOp .neq 44 (.agg #[.int .i64 (kd a j), .int .i64 (sy a j)]) (.agg #[.int .i64 (kd xs p), .int .i64 (sy xs p)])).run Tryd.prog W = .ok (.bool false) W := fun W => by
              rw [Tryd.ndNeq]
              rw [he.1, he.2]; simp
            have hbal := Lib.hid (HL.out.node (by rw [hN]; exact hlt) he.1)
            rw [if_pos he] at hmr
            have HMR := Lib.hid hmr
            clear hmr he h0 HL HR'
            go_wp2_with fail
            go_quiet (fail)
            go_wp2_with fail
            go_roundw
            case rel => exact ⟨j + 1, p + 1, cur, kc, σ, by omega, by omega, by go_num, by go_num, hh1, hh2, hcs, hks, hB.drewN _, hB0s, HI.out.grew ((Grew.refl _).drewN _), hbal, HMR⟩
            case measure => simp [intOf]; omega
          · have hq : ∀ W, (binOp .neq 44 (.agg #[.int .i64 (kd a j), .int .i64 (sy a j)]) (.agg #[.int .i64 (kd xs p), .int .i64 (sy xs p)])).run Tryd.prog W = .ok (.bool true) W := fun W => by
              rw [Tryd.ndNeq]
              have hz : (kd a j == kd xs p && sy a j == sy xs p) = false := by
                cases hz : (kd a j == kd xs p && sy a j == sy xs p) with
                | false => rfl
                | true => simp at hz; exact absurd ⟨hz.1.symm, hz.2.symm⟩ he
              rw [hz]; rfl
            rw [if_neg he] at hmr
            have HMR := Lib.hid hmr
            clear hmr he h0 HL HR'
            go_wp2_with fail
            go_quiet (fail)
            go_wp2_with fail
            go_ret2
            exact ⟨_, by rw [HMR.out]; rfl, hB.drewN _⟩
      · obtain rfl : j = n := by omega
        have hv : R = true := by rw [HR'.out, mrun_end]; omega
        have hfin : p = m := by rw [← hM]; exact HL.out.fin (by omega)
        have HV := Lib.hid hv
        subst hfin
        clear HL HR' HI hv HC1 HC2
        have hpp : ((p : Int) == (p : Int)) = true := by simp
        go_wp2_with fail
        go_ret2
        exact ⟨_, by rw [HV.out]; rfl, hB⟩
end Go.Proofs.YtpbaiadaanpllaaDoor

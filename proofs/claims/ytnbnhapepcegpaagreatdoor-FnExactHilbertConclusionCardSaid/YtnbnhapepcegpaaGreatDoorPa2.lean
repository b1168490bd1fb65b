/- Texts in one file: MatchS Cont Range IsF FmTree IsS Strs Tab EncI Join TakeP WalkP WalkA ParseI Take WalkQ WalkB ParseF Write Good Parsed Scheme InstB HT Uu HdS. -/
import Derived.Deep.OwnRows
import Derived.Deep.LoopGhost
import Derived.Deep.RegionHeld3
import Derived.Deep.QuietTactic
import Derived.BigQuiet
import Derived.WalkLawsBesides
import Derived.Outline
import Derived.Shelf.Abstract
import Derived.Test.YtnbnhapepcegpaaGreatDoorProg
import Derived.ProofKit
import Derived.LaidMore
import Derived.OpenShut
import Derived.Lib.LaidTab
import Derived.Lib.SlicesS
import Derived.Lib.OthersKept
import Derived.Test.YtnbnhapepcegpaaGreatDoorPa1
set_option linter.all false

/- l03Match of the reference. -/
namespace Go.Proofs.YtnbnhapepcegpaaGreatDoor
open Go.RowKit
open Fm (Nd Tree)

theorem infoB : (Tryz.prog.info? 4).map (fun i => (i.zero, i.size, i.bytes)) = some (some (.bool false), 1, 1) := by kernel_rfl
def AllSl (us : List Value) : Prop := ∀ u ∈ us, ∃ A n c, u = .slice A n c
theorem l03Self_c (w : World) :
    Calls Tryz.prog 85 #[] w fun e w' => ∃ v us, e = .returned v ∧ OwnV w' w.heap.size v us ∧ us.length = 6 ∧ AllSl us ∧ Grew w w' := by
  go_enter Tryz.func85, Tryz.ntmps85
  go_wp2_with fail
  go_loopw [1, 2] (fun vv i wr => ∃ (j : Nat) (us : List Value), j ≤ 6 ∧ us.length = j ∧ i = .int .i64 j ∧ OwnV wr w.heap.size vv us ∧ Grew w wr ∧ Hid (AllSl us)) (fun _ i _ => 6 - (intOf i).toNat)
  case atStart => exact ⟨0, [], by omega, rfl, rfl, own_empty w, (Grew.refl w).alloc _, fun u hu => absurd hu (by simp)⟩
  case round =>
    obtain ⟨j, us, hj, hu, rfl, hO, hB, HH⟩ := hrel
    by_cases hlt : j < 6
    · go_wp2_with fail
      refine (l02Var_c _ _).mono ?_
      rintro e w1 ⟨u, rfl, ho1, hg1⟩
      have hone := own_one ho1
      obtain ⟨A, cc, rfl⟩ := nodes_slice ho1.nodes
      have hB1 := hB.trans hg1
      have hO1 : OwnV (w1.alloc (.cells #[.slice A (Fm.vari j).length cc] 35)) w.heap.size u1 us := own_grew hO (hg1.trans ((Grew.refl w1).alloc _))
      have HH2 : Hid (AllSl (us ++ [.slice A (Fm.vari j).length cc])) := Lib.hid (fun x hx => by
        rcases List.mem_append.1 hx with hx | hx
        · exact HH.out x hx
        · simp at hx; exact ⟨_, _, _, hx⟩)
      go_wp2_with (first | (at_builtin; refine wpList_appV (w0 := w) _ _ rfl rfl _ us rfl hO1 (hB1.alloc _) _ _ rfl (rd_lit _ _ _) hone (by omega) ?_; intro v2 w2 hown2 hg2 hgr2))
      go_roundw
      case rel => exact ⟨j + 1, _, by omega, by rw [List.length_append, hu]; rfl, by go_num, hown2, hg2, HH2⟩
      case measure => simp [intOf]; omega
    · obtain rfl : j = 6 := by omega
      go_wp2_with fail
      go_ret
      exact ⟨_, _, rfl, hO, hu, HH.out, hB⟩

/-- The images of the reference, and which are known. -/
def ImgS (w : World) (B : Nat) (cur kc : Array Value) (σ : Nat → List Nd) : Prop := ∀ v, v < 6 → ∃ A n c, cur[v]? = some (.slice A n c) ∧ (σ v ≠ [] → Own w B (.slice A n c) (σ v) ∧ (σ v).length ≤ 1048576) ∧ kc[v]? = some (.bool (decide (σ v ≠ [])))
theorem ImgS.grew {w w' : World} {B : Nat} {cur kc : Array Value} {σ : Nat → List Nd} (h : ImgS w B cur kc σ) (hg : Grew w w') : ImgS w' B cur kc σ := fun v hv => by
  obtain ⟨A, n, c, h1, h2, h3⟩ := h v hv
  exact ⟨A, n, c, h1, fun hz => ⟨(h2 hz).1.grew hg, (h2 hz).2⟩, h3⟩
theorem ImgS.only {w w' : World} {B g : Nat} {cur kc : Array Value} {σ : Nat → List Nd} (h : ImgS w B cur kc σ) (hg : Only g w w') (hB : g < B) : ImgS w' B cur kc σ := fun v hv => by
  obtain ⟨A, n, c, h1, h2, h3⟩ := h v hv
  exact ⟨A, n, c, h1, fun hz => ⟨(h2 hz).1.only hg (fun e => by have := own_of_ge (h2 hz).1 e; omega), (h2 hz).2⟩, h3⟩
theorem ImgS.set {w : World} {B : Nat} {cur kc : Array Value} {σ : Nat → List Nd} {v nn cc : Nat} {A : Option Addr} {c : List Nd} (h : ImgS w B cur kc σ) (hv : v < cur.size) (hk : v < kc.size) (hu : Own w B (.slice A nn cc) c) (hl : c.length ≤ 1048576) (hc : c ≠ []) : ImgS w B (cur.setIfInBounds v (.slice A nn cc)) (kc.setIfInBounds v (.bool true)) (upd σ v c) := fun x hx => by
  unfold upd
  by_cases hxv : x = v
  · subst hxv
    refine ⟨A, nn, cc, ?_, ?_, ?_⟩
    · rw [Array.getElem?_setIfInBounds, if_pos rfl, if_pos hv]
    · rw [if_pos rfl]; exact fun _ => ⟨hu, hl⟩
    · rw [Array.getElem?_setIfInBounds, if_pos rfl, if_pos hk, if_pos rfl, decide_eq_true hc]
  · obtain ⟨A', n', c', h1, h2, h3⟩ := h x hx
    refine ⟨A', n', c', ?_, ?_, ?_⟩
    · rw [Array.getElem?_setIfInBounds, if_neg (fun e => hxv e.symm)]; exact h1
    · rw [if_neg hxv]; exact h2
    · rw [Array.getElem?_setIfInBounds, if_neg (fun e => hxv e.symm), if_neg hxv]; exact h3
theorem ImgS.start {w : World} {B : Nat} {cur kc : Array Value} (h : ∀ v, v < 6 → ∃ A n c, cur[v]? = some (.slice A n c)) (hk : ∀ v, v < 6 → kc[v]? = some (.bool false)) : ImgS w B cur kc (fun _ => []) := fun v hv => by
  obtain ⟨A, n, c, h1⟩ := h v hv
  exact ⟨A, n, c, h1, fun hz => absurd rfl hz, hk v hv⟩
theorem opened {w : World} {B : Nat} {v : Value} {us : List Value} (h : OwnV w B v us) (hl : us.length = 6) (ha : AllSl us) :
    ∃ g cap cur, v = .slice (some ⟨g, 0, none⟩) 6 cap ∧ B ≤ g ∧ w.heap[g]? = some (.cells cur 35 (0, 0)) ∧ 6 ≤ cur.size ∧ ∀ x, x < 6 → ∃ A n c, cur[x]? = some (.slice A n c) := by
  rcases h.2 with ⟨_, h0⟩ | ⟨g, cap, cur, rfl, hb, hg, hnc, hcm, hcs, ht⟩
  · omega
  · refine ⟨g, cap, cur, by rw [hl], hb, hg, by omega, fun x hx => ?_⟩
    obtain ⟨A, n, c, h1⟩ := ha us[x] (List.getElem_mem (by omega))
    refine ⟨A, n, c, ?_⟩
    have h2 : us[x]? = some (.slice A n c) := by rw [List.getElem?_eq_getElem (by omega), h1]
    rw [← ht, List.getElem?_take, if_pos (by omega)] at h2
    simpa using h2

set_option maxHeartbeats 1600000 in
set_option maxRecDepth 100000 in
set_option maxRecDepth 100000 in
theorem l03Match_c (v u : Value) (s t : Tree) (w : World) (h1 : Nodes w v (Fm.enc s)) (h2 : Nodes w u (Fm.enc t)) (hs : (Fm.enc s).length ≤ 1048576) (ht : (Fm.enc t).length ≤ 1048576) :
    Calls Tryz.prog 68 #[v, u] w fun e w' => ∃ q, e = .returned (.tuple #[q, .bool (mrun (Fm.enc t) (Fm.enc s) 0 (fun _ => []))]) ∧ Grew w w' := by
  rcases h1.open_ with ⟨_, h0⟩ | ⟨b1, o1, c1, rfl, hc1, hm1, hb1, hf1⟩
  · have := Fm.enc_pos s; rw [h0] at this; simp at this
  rcases h2.open_ with ⟨_, h0⟩ | ⟨b2, o2, c2, rfl, hc2, hm2, hb2, hf2⟩
  · have := Fm.enc_pos t; rw [h0] at this; simp at this
  have hbal := Bal.start s t
  have hmk : ∀ w : World, (Instr.makeSlice 108 (.int .i64 6) (.int .i64 6)).run Tryz.prog w = .ok (.slice (some ⟨w.heap.size, 0, none⟩) 6 6) (w.alloc (.cells (madeCells #[Value.bool false] 6) 4)) := run_make_row' (P := Tryz.prog) 108 4 (.bool false) 1 Tryz.underlying108 infoB rfl .i64 .i64 6 (by omega) (by omega)
  obtain ⟨R, hR⟩ : ∃ R, R = mrun (Fm.enc t) (Fm.enc s) 0 (fun _ => []) := ⟨_, rfl⟩
  rw [← hR]
  have hsz : (madeCells #[Value.bool false] 6).size = 6 := by simp [madeCells]
  have hkc : ∀ x, x < 6 → (madeCells #[Value.bool false] 6)[x]? = some (.bool false) := fun x hx => by
    obtain rfl | rfl | rfl | rfl | rfl | rfl : x = 0 ∨ x = 1 ∨ x = 2 ∨ x = 3 ∨ x = 4 ∨ x = 5 := by omega
    all_goals simp [madeCells]
  generalize madeCells #[Value.bool false] 6 = kc0 at *
  generalize Fm.enc s = a at *
  generalize Fm.enc t = xs at *
  have HC1 := Lib.hid hf1
  have HC2 := Lib.hid hf2
  have HR : Hid (R = mrun xs (a.drop 0) 0 (fun _ => [])) := Lib.hid hR
  have H2 := Lib.hid h2
  have HBAL := Lib.hid hbal
  clear hf1 hf2 hR h1 h2 hbal
  generalize hN : a.length = n at *
  generalize hM : xs.length = m at *
  have hr := Grew.refl w
  have hd := (Grew.refl w).drew
  go_enter Tryz.func68, Tryz.ntmps68
  go_wp2_with fail
  go_region_held3 (fun w' => Grew w w') (first | with_reducible assumption | exact Grew.alloc (by with_reducible assumption) _)
    (first | (go_at_call 85; refine (l03Self_c _).mono ?_; rintro e w1 ⟨v1, us, rfl, ho1, hus, hall, hg1⟩; have hk1 : Grew w w1 := by first | exact Grew.trans hd hg1 | exact Grew.trans (hd.alloc _) hg1))
  all_goals go_wp2_with fail
  · obtain ⟨g1, cap, cur0, rfl, hg1b, hh1, hcs0, himg⟩ := opened ho1 hus hall
    have hs1 : w1.heap.size ≤ w1.heap.size := Nat.le_refl _
    have hdz : w.drew.heap.size = w.heap.size := rfl
    have hlt1 := blk_lt hh1
    have hne12 : g1 ≠ w1.heap.size := by omega
    have hh2 := blk_new w1 (.cells kc0 4)
    have hh1 := (((Grew.refl w1).alloc (.cells kc0 4)).block hlt1).trans hh1
    have hB0 : Grew w (w1.alloc (.cells kc0 4)) := hk1.alloc _
    have hg1w : w.heap.size ≤ g1 := by omega
    have hg2w : w.heap.size ≤ w1.heap.size := hk1.size
    have hg1B : g1 < (w1.alloc (.cells kc0 4)).heap.size := by simp; omega
    have hg2B : w1.heap.size < (w1.alloc (.cells kc0 4)).heap.size := by simp
    clear ho1 hg1 hk1 hlt1 hs1 hg1b
    generalize w1.alloc (.cells kc0 4) = W0 at *
    generalize w1.heap.size = g2 at *
    have HIMG := Lib.hid (ImgS.start (w := W0) (B := W0.heap.size) himg hkc)
    have HH1 := Lib.hid hh1
    have HH2 := Lib.hid hh2
    clear hh1 hh2 himg
    go_loopw [8, 9] (fun x i wr => ∃ (j p : Nat) (cur kc : Array Value) (σ : Nat → List Nd), j ≤ n ∧ p ≤ m ∧ x = .int .i64 p ∧ i = .int .i64 j ∧ wr.heap[g1]? = some (.cells cur 35 (0, 0)) ∧ wr.heap[g2]? = some (.cells kc 4 (0, 0)) ∧ 6 ≤ cur.size ∧ kc.size = 6 ∧ Grew w wr ∧ W0.heap.size ≤ wr.heap.size ∧ Hid (ImgS wr W0.heap.size cur kc σ) ∧ Hid (Bal a j xs p) ∧ Hid (R = mrun xs (a.drop j) p σ)) (fun _ i _ => n - (intOf i).toNat)
    case atStart => exact ⟨0, 0, cur0, kc0, _, Nat.zero_le _, Nat.zero_le _, rfl, rfl, HH1.out, HH2.out, hcs0, hsz, hB0, Nat.le_refl _, HIMG.out, HBAL.out, HR.out⟩
    case round =>
      obtain ⟨j, p, cur, kc, σ, hj, hp, rfl, rfl, hh1, hh2, hcs, hks, hB, hB0s, HI, HL, HR'⟩ := hrel
      clear HBAL HR HH1 HH2 HIMG
      by_cases hlt : j < n
      · have k1 := (HC1.out j hlt _ hB).1
        have k2 := (HC1.out j hlt _ hB).2
        have hpm : p < m := by rw [← hM]; exact HL.out.lt (by rw [hN]; exact hlt)
        have k3 : ∀ W, Grew w W → W.cell? ⟨b2, o2 + p * 2, none⟩ = some (.int .i64 (kd xs p)) := fun W hW => (HC2.out p hpm W hW).1
        have k4 : ∀ W, Grew w W → W.cell? ⟨b2, o2 + p * 2 + 1, none⟩ = some (.int .i64 (sy xs p)) := fun W hW => (HC2.out p hpm W hW).2
        have k5 : ∀ W, Grew w W → W.cell? ⟨b1, o1 + j * 2, none⟩ = some (.int .i64 (kd a j)) := fun W hW => (HC1.out j hlt W hW).1
        have k6 : ∀ W, Grew w W → W.cell? ⟨b1, o1 + j * 2 + 1, none⟩ = some (.int .i64 (sy a j)) := fun W hW => (HC1.out j hlt W hW).2
        have hr1 := Grew.refl wr
        have hd1 := (Grew.refl wr).drew
        have hwd := hB.drew
        by_cases h0 : kd a j = 0
        · obtain ⟨tr, vv, ht1, hv, hsy, hbal⟩ := HL.out.var (by rw [hN]; exact hlt) h0
          have hmr := mrun_var (σ := σ) (by rw [hN]; exact hlt) h0 hsy ht1
          rw [← HR'.out] at hmr
          have hle := ht1.le
          have hpos := Fm.enc_pos tr
          rw [hM] at hle
          have hP := Lib.hid (fun W (hW : Grew w W) => l02Part_at _ xs p tr W (H2.out.grew hW) (by rw [hM]; omega) ht1)
          have hnp := fun W (hW : Grew w W) => (H2.out.grew hW).sub p (Fm.enc tr).length (c2 - p) (by rw [hM]; exact hle) (by omega) (by omega)
          rw [ht1.take] at hnp
          have HNP := Lib.hid hnp
          obtain ⟨A3, n3, c3, hu1, hu2, hkv⟩ := HI.out vv hv
          rw [h0] at k1
          rw [hsy] at k2
          have k7 : ∀ W, Grew wr W → W.cell? ⟨b1, o1 + j * 2 + 1, none⟩ = some (.int .i64 vv) := fun W hW => by rw [k6 _ (hB.trans hW), hsy]
          clear h0 hsy ht1 hnp k5 k6
          have HBAL := Lib.hid hbal
          have HMR := Lib.hid hmr
          clear hbal hmr HL
          generalize Fm.enc tr = c at *
          have hcne : c ≠ [] := fun h => by rw [h] at hpos; simp at hpos
          have HW1 : Hid (∀ W, Grew wr W → W.heap[g1]? = some (.cells cur 35 (0, 0))) := Lib.hid fun W hW => (hW.block (blk_lt hh1)).trans hh1
          have HW2 : Hid (∀ W, Grew wr W → W.heap[g2]? = some (.cells kc 4 (0, 0))) := Lib.hid fun W hW => (hW.block (blk_lt hh2)).trans hh2
          have HUP := Lib.hid (fun W A nn cc hu hI => ImgS.set (w := W) (B := W0.heap.size) (cur := cur) (kc := kc) (σ := σ) (v := vv) (A := A) (nn := nn) (cc := cc) (c := c) hI (by omega) (by omega) hu (by omega) hcne)
          clear hh1 hh2
          have HI1 := Lib.hid (fun W (hW : Grew wr W) => HI.out.grew hW)
          have hq0 : (0 : Int) ≤ (p : Int) := by omega
          have hq1 : (p : Int) ≤ (p : Int) + (c.length : Int) := by omega
          have hq2 : (p : Int) + (c.length : Int) ≤ (c2 : Int) := by omega
          have hi0 : (0 : Int) ≤ (vv : Int) := by omega
          have hi6 : (vv : Int) < 6 := by omega
          have hj0 : (0 : Int) ≤ (j : Int) := by omega
          have hjn : (j : Int) < (n : Int) := by omega
          have hsub : ((p : Int) + (c.length : Int)) - (p : Int) = (c.length : Int) := by omega
          by_cases hz : σ vv = []
          · have hv2 : R = mrun xs (a.drop (j + 1)) (p + c.length) (upd σ vv c) := by rw [HMR.out, if_neg (by simp [hz])]
            have HV2 := Lib.hid hv2
            rw [show decide (σ vv ≠ []) = false by simp [hz]] at hkv
            clear hv2 HMR hz hu2
            go_wp2_with fail
            go_region_held3 (fun w' => Grew wr w') (with_reducible assumption)
              (first | (go_at_call 67; refine (hP.out _ hwd).mono ?_; rintro e w1 ⟨rfl, hg1⟩; have hk1 : Grew wr w1 := hd1.trans hg1))
            have e1 : w1.cell? ⟨g2, vv, none⟩ = some (.bool false) := (blk_cell (HW2.out _ hk1) vv).trans hkv
            have e2 : w1.cell? ⟨g1, vv, none⟩ = some (.slice A3 n3 c3) := (blk_cell (HW1.out _ hk1) vv).trans hu1
            have hk2 := hk1
            have hh2 := HW2.out _ hk2
            have hh1 := HW1.out _ hk2
            have f2 := blk_frozen hh2 vv
            have e3 : w1.cell? ⟨g2, vv, none⟩ = some (.bool false) := (blk_cell hh2 vv).trans hkv
            have HX2 := Lib.hid (blk_set hh2 vv (.bool true))
            have HX1 := Lib.hid ((Below.heap_setCell w1 ⟨g2, vv, none⟩ (.bool true) g1 (by simpa using hne12)).trans hh1)
            have hO2 : Only g2 w1 (w1.setCell ⟨g2, vv, none⟩ (.bool true)) := (Only.refl g2 w1).setCell _
            have hBx : Grew w (w1.setCell ⟨g2, vv, none⟩ (.bool true)) := (hB.trans hk2).setCell hg2w _
            have HIx := Lib.hid ((HI1.out _ hk2).only hO2 hg2B)
            clear hh1 hh2
            go_wp2_with fail
            (try rw [Nat.add_sub_cancel_left])
            refine (l02Own_c _ c _ (HNP.out _ hBx) (by omega)).mono ?_
            rintro e w4 ⟨q4, rfl, ho4, hg4⟩
            obtain ⟨A4, k4, rfl⟩ := nodes_slice ho4.nodes
            have hh3 := (hg4.block (blk_lt HX1.out)).trans HX1.out
            have hh4 := (hg4.block (blk_lt HX2.out)).trans HX2.out
            have f3 := blk_frozen hh3 vv
            have e4 : w4.cell? ⟨g1, vv, none⟩ = some (.slice A3 n3 c3) := (blk_cell hh3 vv).trans hu1
            have HY1 := Lib.hid (blk_set hh3 vv (.slice A4 c.length k4))
            have HY2 := Lib.hid ((Below.heap_setCell w4 ⟨g1, vv, none⟩ (.slice A4 c.length k4) g2 (by simpa using hne12.symm)).trans hh4)
            have hBy : Grew w (w4.setCell ⟨g1, vv, none⟩ (.slice A4 c.length k4)) := (hBx.trans hg4).setCell hg1w _
            have hsz4 := Nat.le_trans hB0s (Nat.le_trans hk2.size (show w1.heap.size ≤ (w1.setCell ⟨g2, vv, none⟩ (.bool true)).heap.size by simp))
            have HIy := Lib.hid ((HUP.out _ _ _ _ (ho4.base hsz4) (HIx.out.grew hg4)).only ((Only.refl g1 w4).setCell (o := vv) (.slice A4 c.length k4)) hg1B)
            have hcs2 : 6 ≤ (cur.setIfInBounds vv (.slice A4 c.length k4)).size := by simpa using hcs
            have hks2 : (kc.setIfInBounds vv (.bool true)).size = 6 := by simpa using hks
            clear hh3 hh4
            go_wp2_with fail
            go_roundw
            case rel => exact ⟨j + 1, p + c.length, _, _, _, by omega, by omega, by go_num, by go_num, HY1.out, HY2.out, hcs2, hks2, hBy, Nat.le_trans hsz4 (Nat.le_trans hg4.size (by simp)), HIy.out, HBAL.out, HV2.out⟩
            case measure => simp [intOf]; omega
          · obtain ⟨hown, hlen⟩ := hu2 hz
            rw [show decide (σ vv ≠ []) = true by simp [hz]] at hkv
            have hs1 := fun W (hW : Grew wr W) => l02Equal_c _ _ (σ vv) c W (hown.nodes.grew hW) (HNP.out W (hB.trans hW)) (by omega)
            by_cases hz2 : σ vv = c
            · have hv2 : R = mrun xs (a.drop (j + 1)) (p + c.length) (upd σ vv c) := by rw [HMR.out, if_neg (by simp [hz2])]
              have HV2 := Lib.hid hv2
              rw [decide_eq_true hz2] at hs1
              have HS := Lib.hid hs1
              clear hs1 hv2 HMR hu2 hz hz2 hown hlen
              go_wp2_with fail
              go_region_held3 (fun w' => Grew wr w') (with_reducible assumption)
                (first | (go_at_call 67; refine (hP.out _ hwd).mono ?_; rintro e w1 ⟨rfl, hg1⟩; have hk1 : Grew wr w1 := hd1.trans hg1))
              have e1 : w1.cell? ⟨g2, vv, none⟩ = some (.bool true) := (blk_cell (HW2.out _ hk1) vv).trans hkv
              have e2 : w1.cell? ⟨g1, vv, none⟩ = some (.slice A3 n3 c3) := (blk_cell (HW1.out _ hk1) vv).trans hu1
              go_wp2_with fail
              refine (HS.out _ hk1).mono ?_
              rintro e w2 ⟨rfl, hg2⟩
              have hk2 := hk1.trans hg2
              have hh2 := HW2.out _ hk2
              have hh1 := HW1.out _ hk2
              have f2 := blk_frozen hh2 vv
              have e3 : w2.cell? ⟨g2, vv, none⟩ = some (.bool true) := (blk_cell hh2 vv).trans hkv
              have HX2 := Lib.hid (blk_set hh2 vv (.bool true))
              have HX1 := Lib.hid ((Below.heap_setCell w2 ⟨g2, vv, none⟩ (.bool true) g1 (by simpa using hne12)).trans hh1)
              have hO2 : Only g2 w2 (w2.setCell ⟨g2, vv, none⟩ (.bool true)) := (Only.refl g2 w2).setCell _
              have hBx : Grew w (w2.setCell ⟨g2, vv, none⟩ (.bool true)) := (hB.trans hk2).setCell hg2w _
              have HIx := Lib.hid ((HI1.out _ hk2).only hO2 hg2B)
              clear hh1 hh2
              go_wp2_with fail
              (try rw [Nat.add_sub_cancel_left])
              refine (l02Own_c _ c _ (HNP.out _ hBx) (by omega)).mono ?_
              rintro e w4 ⟨q4, rfl, ho4, hg4⟩
              obtain ⟨A4, k4, rfl⟩ := nodes_slice ho4.nodes
              have hh3 := (hg4.block (blk_lt HX1.out)).trans HX1.out
              have hh4 := (hg4.block (blk_lt HX2.out)).trans HX2.out
              have f3 := blk_frozen hh3 vv
              have e4 : w4.cell? ⟨g1, vv, none⟩ = some (.slice A3 n3 c3) := (blk_cell hh3 vv).trans hu1
              have HY1 := Lib.hid (blk_set hh3 vv (.slice A4 c.length k4))
              have HY2 := Lib.hid ((Below.heap_setCell w4 ⟨g1, vv, none⟩ (.slice A4 c.length k4) g2 (by simpa using hne12.symm)).trans hh4)
              have hBy : Grew w (w4.setCell ⟨g1, vv, none⟩ (.slice A4 c.length k4)) := (hBx.trans hg4).setCell hg1w _
              have hsz4 := Nat.le_trans hB0s (Nat.le_trans hk2.size (show w2.heap.size ≤ (w2.setCell ⟨g2, vv, none⟩ (.bool true)).heap.size by simp))
              have HIy := Lib.hid ((HUP.out _ _ _ _ (ho4.base hsz4) (HIx.out.grew hg4)).only ((Only.refl g1 w4).setCell (o := vv) (.slice A4 c.length k4)) hg1B)
              have hcs2 : 6 ≤ (cur.setIfInBounds vv (.slice A4 c.length k4)).size := by simpa using hcs
              have hks2 : (kc.setIfInBounds vv (.bool true)).size = 6 := by simpa using hks
              clear hh3 hh4
              go_wp2_with fail
              go_roundw
              case rel => exact ⟨j + 1, p + c.length, _, _, _, by omega, by omega, by go_num, by go_num, HY1.out, HY2.out, hcs2, hks2, hBy, Nat.le_trans hsz4 (Nat.le_trans hg4.size (by simp)), HIy.out, HBAL.out, HV2.out⟩
              case measure => simp [intOf]; omega
            · have hv2 : R = false := by rw [HMR.out, if_pos ⟨hz, hz2⟩]
              have HV2 := Lib.hid hv2
              rw [decide_eq_false hz2] at hs1
              have HS := Lib.hid hs1
              clear hs1 hv2 HMR hu2 hz hz2 hown hlen
              go_wp2_with fail
              go_region_held3 (fun w' => Grew wr w') (with_reducible assumption)
                (first | (go_at_call 67; refine (hP.out _ hwd).mono ?_; rintro e w1 ⟨rfl, hg1⟩; have hk1 : Grew wr w1 := hd1.trans hg1))
              have e1 : w1.cell? ⟨g2, vv, none⟩ = some (.bool true) := (blk_cell (HW2.out _ hk1) vv).trans hkv
              have e2 : w1.cell? ⟨g1, vv, none⟩ = some (.slice A3 n3 c3) := (blk_cell (HW1.out _ hk1) vv).trans hu1
              go_wp2_with fail
              refine (HS.out _ hk1).mono ?_
              rintro e w2 ⟨rfl, hg2⟩
              have hk2 := hk1.trans hg2
              go_wp2_with fail
              go_ret2
              exact ⟨_, by rw [HV2.out]; rfl, hB.trans hk2⟩
        · have hne : (kd a j != 0) = true := by simp [h0]
          have hmr := mrun_node (xs := xs) (j := p) (σ := σ) (by rw [hN]; exact hlt) h0
          rw [← HR'.out] at hmr
          have hgd := Tryz.ndGuard
          by_cases he : kd xs p = kd a j ∧ sy xs p = sy a j
          · have hq : ∀ W, (binOp .neq 68 (.agg #[.int .i64 (kd a j), .int .i64 (sy a j)]) (.agg #[.int .i64 (kd xs p), .int .i64 (sy xs p)])).run Tryz.prog W = .ok (.bool false) W := fun W => by
              rw [Tryz.ndNeq]
              rw [he.1, he.2]; simp
            have hbal := Lib.hid (HL.out.node (by rw [hN]; exact hlt) he.1)
            rw [if_pos he] at hmr
            have HMR := Lib.hid hmr
            clear hmr he h0 HL HR'
            go_wp2_with fail
            go_quiet (fail)
            go_wp2_with fail
            go_roundw
            case rel => exact ⟨j + 1, p + 1, cur, kc, σ, by omega, by omega, by go_num, by go_num, hh1, hh2, hcs, hks, hB.drewN _, hB0s, HI.out.grew ((Grew.refl _).drewN _), hbal, HMR⟩
            case measure => simp [intOf]; omega
          · have hq : ∀ W, (binOp .neq 68 (.agg #[.int .i64 (kd a j), .int .i64 (sy a j)]) (.agg #[.int .i64 (kd xs p), .int .i64 (sy xs p)])).run Tryz.prog W = .ok (.bool true) W := fun W => by
              rw [Tryz.ndNeq]
              have hz : (kd a j == kd xs p && sy a j == sy xs p) = false := by
                cases hz : (kd a j == kd xs p && sy a j == sy xs p) with
                | false => rfl
                | true => simp at hz; exact absurd ⟨hz.1.symm, hz.2.symm⟩ he
              rw [hz]; rfl
            rw [if_neg he] at hmr
            have HMR := Lib.hid hmr
            clear hmr he h0 HL HR'
            go_wp2_with fail
            go_quiet (fail)
            go_wp2_with fail
            go_ret2
            exact ⟨_, by rw [HMR.out]; rfl, hB.drewN _⟩
      · obtain rfl : j = n := by omega
        have hv : R = true := by rw [HR'.out, mrun_end]; omega
        have hfin : p = m := by rw [← hM]; exact HL.out.fin (by omega)
        have HV := Lib.hid hv
        subst hfin
        clear HL HR' HI hv HC1 HC2
        have hpp : ((p : Int) == (p : Int)) = true := by simp
        go_wp2_with fail
        go_ret2
        exact ⟨_, by rw [HV.out]; rfl, hB⟩
  · obtain ⟨g1, cap, cur0, rfl, hg1b, hh1, hcs0, himg⟩ := opened ho1 hus hall
    have hdz : w.drew.heap.size = w.heap.size := rfl
    have hlt1 := blk_lt hh1
    have hg1b' : w.heap.size + 1 ≤ g1 := by simpa using hg1b
    have hne12 : g1 ≠ w.heap.size := by omega
    have hh2 : w1.heap[w.heap.size]? = some (.cells kc0 4 (0, 0)) := (hg1.block (by simp [hdz])).trans (blk_new w.drew _)
    have hB0 : Grew w w1 := hk1
    have hg1w : w.heap.size ≤ g1 := by omega
    have hg2w : w.heap.size ≤ w.heap.size := Nat.le_refl _
    have hg1B : g1 < w1.heap.size := hlt1
    have hg2B : w.heap.size < w1.heap.size := by omega
    clear ho1 hg1 hk1 hlt1 hg1b hg1b'
    generalize w1 = W0 at *
    obtain ⟨g2, hg2e⟩ : ∃ g2, g2 = w.heap.size := ⟨_, rfl⟩
    rw [← hg2e] at hne12 hh2 hg2B
    rw [← hg2e]
    have hg2w : w.heap.size ≤ g2 := by omega
    clear hg2e
    have HIMG := Lib.hid (ImgS.start (w := W0) (B := W0.heap.size) himg hkc)
    have HH1 := Lib.hid hh1
    have HH2 := Lib.hid hh2
    clear hh1 hh2 himg
    go_loopw [8, 9] (fun x i wr => ∃ (j p : Nat) (cur kc : Array Value) (σ : Nat → List Nd), j ≤ n ∧ p ≤ m ∧ x = .int .i64 p ∧ i = .int .i64 j ∧ wr.heap[g1]? = some (.cells cur 35 (0, 0)) ∧ wr.heap[g2]? = some (.cells kc 4 (0, 0)) ∧ 6 ≤ cur.size ∧ kc.size = 6 ∧ Grew w wr ∧ W0.heap.size ≤ wr.heap.size ∧ Hid (ImgS wr W0.heap.size cur kc σ) ∧ Hid (Bal a j xs p) ∧ Hid (R = mrun xs (a.drop j) p σ)) (fun _ i _ => n - (intOf i).toNat)
    case atStart => exact ⟨0, 0, cur0, kc0, _, Nat.zero_le _, Nat.zero_le _, rfl, rfl, HH1.out, HH2.out, hcs0, hsz, hB0, Nat.le_refl _, HIMG.out, HBAL.out, HR.out⟩
    case round =>
      obtain ⟨j, p, cur, kc, σ, hj, hp, rfl, rfl, hh1, hh2, hcs, hks, hB, hB0s, HI, HL, HR'⟩ := hrel
      clear HBAL HR HH1 HH2 HIMG
      by_cases hlt : j < n
      · have k1 := (HC1.out j hlt _ hB).1
        have k2 := (HC1.out j hlt _ hB).2
        have hpm : p < m := by rw [← hM]; exact HL.out.lt (by rw [hN]; exact hlt)
        have k3 : ∀ W, Grew w W → W.cell? ⟨b2, o2 + p * 2, none⟩ = some (.int .i64 (kd xs p)) := fun W hW => (HC2.out p hpm W hW).1
        have k4 : ∀ W, Grew w W → W.cell? ⟨b2, o2 + p * 2 + 1, none⟩ = some (.int .i64 (sy xs p)) := fun W hW => (HC2.out p hpm W hW).2
        have k5 : ∀ W, Grew w W → W.cell? ⟨b1, o1 + j * 2, none⟩ = some (.int .i64 (kd a j)) := fun W hW => (HC1.out j hlt W hW).1
        have k6 : ∀ W, Grew w W → W.cell? ⟨b1, o1 + j * 2 + 1, none⟩ = some (.int .i64 (sy a j)) := fun W hW => (HC1.out j hlt W hW).2
        have hr1 := Grew.refl wr
        have hd1 := (Grew.refl wr).drew
        have hwd := hB.drew
        by_cases h0 : kd a j = 0
        · obtain ⟨tr, vv, ht1, hv, hsy, hbal⟩ := HL.out.var (by rw [hN]; exact hlt) h0
          have hmr := mrun_var (σ := σ) (by rw [hN]; exact hlt) h0 hsy ht1
          rw [← HR'.out] at hmr
          have hle := ht1.le
          have hpos := Fm.enc_pos tr
          rw [hM] at hle
          have hP := Lib.hid (fun W (hW : Grew w W) => l02Part_at _ xs p tr W (H2.out.grew hW) (by rw [hM]; omega) ht1)
          have hnp := fun W (hW : Grew w W) => (H2.out.grew hW).sub p (Fm.enc tr).length (c2 - p) (by rw [hM]; exact hle) (by omega) (by omega)
          rw [ht1.take] at hnp
          have HNP := Lib.hid hnp
          obtain ⟨A3, n3, c3, hu1, hu2, hkv⟩ := HI.out vv hv
          rw [h0] at k1
          rw [hsy] at k2
          have k7 : ∀ W, Grew wr W → W.cell? ⟨b1, o1 + j * 2 + 1, none⟩ = some (.int .i64 vv) := fun W hW => by rw [k6 _ (hB.trans hW), hsy]
          clear h0 hsy ht1 hnp k5 k6
          have HBAL := Lib.hid hbal
          have HMR := Lib.hid hmr
          clear hbal hmr HL
          generalize Fm.enc tr = c at *
          have hcne : c ≠ [] := fun h => by rw [h] at hpos; simp at hpos
          have HW1 : Hid (∀ W, Grew wr W → W.heap[g1]? = some (.cells cur 35 (0, 0))) := Lib.hid fun W hW => (hW.block (blk_lt hh1)).trans hh1
          have HW2 : Hid (∀ W, Grew wr W → W.heap[g2]? = some (.cells kc 4 (0, 0))) := Lib.hid fun W hW => (hW.block (blk_lt hh2)).trans hh2
          have HUP := Lib.hid (fun W A nn cc hu hI => ImgS.set (w := W) (B := W0.heap.size) (cur := cur) (kc := kc) (σ := σ) (v := vv) (A := A) (nn := nn) (cc := cc) (c := c) hI (by omega) (by omega) hu (by omega) hcne)
          clear hh1 hh2
          have HI1 := Lib.hid (fun W (hW : Grew wr W) => HI.out.grew hW)
          have hq0 : (0 : Int) ≤ (p : Int) := by omega
          have hq1 : (p : Int) ≤ (p : Int) + (c.length : Int) := by omega
          have hq2 : (p : Int) + (c.length : Int) ≤ (c2 : Int) := by omega
          have hi0 : (0 : Int) ≤ (vv : Int) := by omega
          have hi6 : (vv : Int) < 6 := by omega
          have hj0 : (0 : Int) ≤ (j : Int) := by omega
          have hjn : (j : Int) < (n : Int) := by omega
          have hsub : ((p : Int) + (c.length : Int)) - (p : Int) = (c.length : Int) := by omega
          by_cases hz : σ vv = []
          · have hv2 : R = mrun xs (a.drop (j + 1)) (p + c.length) (upd σ vv c) := by rw [HMR.out, if_neg (by simp [hz])]
            have HV2 := Lib.hid hv2
            rw [show decide (σ vv ≠ []) = false by simp [hz]] at hkv
            clear hv2 HMR hz hu2
            go_wp2_with fail
            go_region_held3 (fun w' => Grew wr w') (with_reducible assumption)
              (first | (go_at_call 67; refine (hP.out _ hwd).mono ?_; rintro e w1 ⟨rfl, hg1⟩; have hk1 : Grew wr w1 := hd1.trans hg1))
            have e1 : w1.cell? ⟨g2, vv, none⟩ = some (.bool false) := (blk_cell (HW2.out _ hk1) vv).trans hkv
            have e2 : w1.cell? ⟨g1, vv, none⟩ = some (.slice A3 n3 c3) := (blk_cell (HW1.out _ hk1) vv).trans hu1
            have hk2 := hk1
            have hh2 := HW2.out _ hk2
            have hh1 := HW1.out _ hk2
            have f2 := blk_frozen hh2 vv
            have e3 : w1.cell? ⟨g2, vv, none⟩ = some (.bool false) := (blk_cell hh2 vv).trans hkv
            have HX2 := Lib.hid (blk_set hh2 vv (.bool true))
            have HX1 := Lib.hid ((Below.heap_setCell w1 ⟨g2, vv, none⟩ (.bool true) g1 (by simpa using hne12)).trans hh1)
            have hO2 : Only g2 w1 (w1.setCell ⟨g2, vv, none⟩ (.bool true)) := (Only.refl g2 w1).setCell _
            have hBx : Grew w (w1.setCell ⟨g2, vv, none⟩ (.bool true)) := (hB.trans hk2).setCell hg2w _
            have HIx := Lib.hid ((HI1.out _ hk2).only hO2 hg2B)
            clear hh1 hh2
            go_wp2_with fail
            (try rw [Nat.add_sub_cancel_left])
            refine (l02Own_c _ c _ (HNP.out _ hBx) (by omega)).mono ?_
            rintro e w4 ⟨q4, rfl, ho4, hg4⟩
            obtain ⟨A4, k4, rfl⟩ := nodes_slice ho4.nodes
            have hh3 := (hg4.block (blk_lt HX1.out)).trans HX1.out
            have hh4 := (hg4.block (blk_lt HX2.out)).trans HX2.out
            have f3 := blk_frozen hh3 vv
            have e4 : w4.cell? ⟨g1, vv, none⟩ = some (.slice A3 n3 c3) := (blk_cell hh3 vv).trans hu1
            have HY1 := Lib.hid (blk_set hh3 vv (.slice A4 c.length k4))
            have HY2 := Lib.hid ((Below.heap_setCell w4 ⟨g1, vv, none⟩ (.slice A4 c.length k4) g2 (by simpa using hne12.symm)).trans hh4)
            have hBy : Grew w (w4.setCell ⟨g1, vv, none⟩ (.slice A4 c.length k4)) := (hBx.trans hg4).setCell hg1w _
            have hsz4 := Nat.le_trans hB0s (Nat.le_trans hk2.size (show w1.heap.size ≤ (w1.setCell ⟨g2, vv, none⟩ (.bool true)).heap.size by simp))
            have HIy := Lib.hid ((HUP.out _ _ _ _ (ho4.base hsz4) (HIx.out.grew hg4)).only ((Only.refl g1 w4).setCell (o := vv) (.slice A4 c.length k4)) hg1B)
            have hcs2 : 6 ≤ (cur.setIfInBounds vv (.slice A4 c.length k4)).size := by simpa using hcs
            have hks2 : (kc.setIfInBounds vv (.bool true)).size = 6 := by simpa using hks
            clear hh3 hh4
            go_wp2_with fail
            go_roundw
            case rel => exact ⟨j + 1, p + c.length, _, _, _, by omega, by omega, by go_num, by go_num, HY1.out, HY2.out, hcs2, hks2, hBy, Nat.le_trans hsz4 (Nat.le_trans hg4.size (by simp)), HIy.out, HBAL.out, HV2.out⟩
            case measure => simp [intOf]; omega
          · obtain ⟨hown, hlen⟩ := hu2 hz
            rw [show decide (σ vv ≠ []) = true by simp [hz]] at hkv
            have hs1 := fun W (hW : Grew wr W) => l02Equal_c _ _ (σ vv) c W (hown.nodes.grew hW) (HNP.out W (hB.trans hW)) (by omega)
            by_cases hz2 : σ vv = c
            · have hv2 : R = mrun xs (a.drop (j + 1)) (p + c.length) (upd σ vv c) := by rw [HMR.out, if_neg (by simp [hz2])]
              have HV2 := Lib.hid hv2
              rw [decide_eq_true hz2] at hs1
              have HS := Lib.hid hs1
              clear hs1 hv2 HMR hu2 hz hz2 hown hlen
              go_wp2_with fail
              go_region_held3 (fun w' => Grew wr w') (with_reducible assumption)
                (first | (go_at_call 67; refine (hP.out _ hwd).mono ?_; rintro e w1 ⟨rfl, hg1⟩; have hk1 : Grew wr w1 := hd1.trans hg1))
              have e1 : w1.cell? ⟨g2, vv, none⟩ = some (.bool true) := (blk_cell (HW2.out _ hk1) vv).trans hkv
              have e2 : w1.cell? ⟨g1, vv, none⟩ = some (.slice A3 n3 c3) := (blk_cell (HW1.out _ hk1) vv).trans hu1
              go_wp2_with fail
              refine (HS.out _ hk1).mono ?_
              rintro e w2 ⟨rfl, hg2⟩
              have hk2 := hk1.trans hg2
              have hh2 := HW2.out _ hk2
              have hh1 := HW1.out _ hk2
              have f2 := blk_frozen hh2 vv
              have e3 : w2.cell? ⟨g2, vv, none⟩ = some (.bool true) := (blk_cell hh2 vv).trans hkv
              have HX2 := Lib.hid (blk_set hh2 vv (.bool true))
              have HX1 := Lib.hid ((Below.heap_setCell w2 ⟨g2, vv, none⟩ (.bool true) g1 (by simpa using hne12)).trans hh1)
              have hO2 : Only g2 w2 (w2.setCell ⟨g2, vv, none⟩ (.bool true)) := (Only.refl g2 w2).setCell _
              have hBx : Grew w (w2.setCell ⟨g2, vv, none⟩ (.bool true)) := (hB.trans hk2).setCell hg2w _
              have HIx := Lib.hid ((HI1.out _ hk2).only hO2 hg2B)
              clear hh1 hh2
              go_wp2_with fail
              (try rw [Nat.add_sub_cancel_left])
              refine (l02Own_c _ c _ (HNP.out _ hBx) (by omega)).mono ?_
              rintro e w4 ⟨q4, rfl, ho4, hg4⟩
              obtain ⟨A4, k4, rfl⟩ := nodes_slice ho4.nodes
              have hh3 := (hg4.block (blk_lt HX1.out)).trans HX1.out
              have hh4 := (hg4.block (blk_lt HX2.out)).trans HX2.out
              have f3 := blk_frozen hh3 vv
              have e4 : w4.cell? ⟨g1, vv, none⟩ = some (.slice A3 n3 c3) := (blk_cell hh3 vv).trans hu1
              have HY1 := Lib.hid (blk_set hh3 vv (.slice A4 c.length k4))
              have HY2 := Lib.hid ((Below.heap_setCell w4 ⟨g1, vv, none⟩ (.slice A4 c.length k4) g2 (by simpa using hne12.symm)).trans hh4)
              have hBy : Grew w (w4.setCell ⟨g1, vv, none⟩ (.slice A4 c.length k4)) := (hBx.trans hg4).setCell hg1w _
              have hsz4 := Nat.le_trans hB0s (Nat.le_trans hk2.size (show w2.heap.size ≤ (w2.setCell ⟨g2, vv, none⟩ (.bool true)).heap.size by simp))
              have HIy := Lib.hid ((HUP.out _ _ _ _ (ho4.base hsz4) (HIx.out.grew hg4)).only ((Only.refl g1 w4).setCell (o := vv) (.slice A4 c.length k4)) hg1B)
              have hcs2 : 6 ≤ (cur.setIfInBounds vv (.slice A4 c.length k4)).size := by simpa using hcs
              have hks2 : (kc.setIfInBounds vv (.bool true)).size = 6 := by simpa using hks
              clear hh3 hh4
              go_wp2_with fail
              go_roundw
              case rel => exact ⟨j + 1, p + c.length, _, _, _, by omega, by omega, by go_num, by go_num, HY1.out, HY2.out, hcs2, hks2, hBy, Nat.le_trans hsz4 (Nat.le_trans hg4.size (by simp)), HIy.out, HBAL.out, HV2.out⟩
              case measure => simp [intOf]; omega
            · have hv2 : R = false := by rw [HMR.out, if_pos ⟨hz, hz2⟩]
              have HV2 := Lib.hid hv2
              rw [decide_eq_false hz2] at hs1
              have HS := Lib.hid hs1
              clear hs1 hv2 HMR hu2 hz hz2 hown hlen
              go_wp2_with fail
              go_region_held3 (fun w' => Grew wr w') (with_reducible assumption)
                (first | (go_at_call 67; refine (hP.out _ hwd).mono ?_; rintro e w1 ⟨rfl, hg1⟩; have hk1 : Grew wr w1 := hd1.trans hg1))
              have e1 : w1.cell? ⟨g2, vv, none⟩ = some (.bool true) := (blk_cell (HW2.out _ hk1) vv).trans hkv
              have e2 : w1.cell? ⟨g1, vv, none⟩ = some (.slice A3 n3 c3) := (blk_cell (HW1.out _ hk1) vv).trans hu1
              go_wp2_with fail
              refine (HS.out _ hk1).mono ?_
              rintro e w2 ⟨rfl, hg2⟩
              have hk2 := hk1.trans hg2
              go_wp2_with fail
              go_ret2
              exact ⟨_, by rw [HV2.out]; rfl, hB.trans hk2⟩
        · have hne : (kd a j != 0) = true := by simp [h0]
          have hmr := mrun_node (xs := xs) (j := p) (σ := σ) (by rw [hN]; exact hlt) h0
          rw [← HR'.out] at hmr
          have hgd := Tryz.ndGuard
          by_cases he : kd xs p = kd a j ∧ sy xs p = sy a j
          · have hq : ∀ W, (binOp .neq 68 (.agg #[.int .i64 (kd a j), .int .i64 (sy a j)]) (.agg #[.int .i64 (kd xs p), .int .i64 (sy xs p)])).run Tryz.prog W = .ok (.bool false) W := fun W => by
              rw [Tryz.ndNeq]
              rw [he.1, he.2]; simp
            have hbal := Lib.hid (HL.out.node (by rw [hN]; exact hlt) he.1)
            rw [if_pos he] at hmr
            have HMR := Lib.hid hmr
            clear hmr he h0 HL HR'
            go_wp2_with fail
            go_quiet (fail)
            go_wp2_with fail
            go_roundw
            case rel => exact ⟨j + 1, p + 1, cur, kc, σ, by omega, by omega, by go_num, by go_num, hh1, hh2, hcs, hks, hB.drewN _, hB0s, HI.out.grew ((Grew.refl _).drewN _), hbal, HMR⟩
            case measure => simp [intOf]; omega
          · have hq : ∀ W, (binOp .neq 68 (.agg #[.int .i64 (kd a j), .int .i64 (sy a j)]) (.agg #[.int .i64 (kd xs p), .int .i64 (sy xs p)])).run Tryz.prog W = .ok (.bool true) W := fun W => by
              rw [Tryz.ndNeq]
              have hz : (kd a j == kd xs p && sy a j == sy xs p) = false := by
                cases hz : (kd a j == kd xs p && sy a j == sy xs p) with
                | false => rfl
                | true => simp at hz; exact absurd ⟨hz.1.symm, hz.2.symm⟩ he
              rw [hz]; rfl
            rw [if_neg he] at hmr
            have HMR := Lib.hid hmr
            clear hmr he h0 HL HR'
            go_wp2_with fail
            go_quiet (fail)
            go_wp2_with fail
            go_ret2
            exact ⟨_, by rw [HMR.out]; rfl, hB.drewN _⟩
      · obtain rfl : j = n := by omega
        have hv : R = true := by rw [HR'.out, mrun_end]; omega
        have hfin : p = m := by rw [← hM]; exact HL.out.fin (by omega)
        have HV := Lib.hid hv
        subst hfin
        clear HL HR' HI hv HC1 HC2
        have hpp : ((p : Int) == (p : Int)) = true := by simp
        go_wp2_with fail
        go_ret2
        exact ⟨_, by rw [HV.out]; rfl, hB⟩
end Go.Proofs.YtnbnhapepcegpaaGreatDoor

/- A predicate on nodes: IndexFunc, ContainsFunc. -/
namespace Go.Proofs.YtnbnhapepcegpaaGreatDoor
open Go.RowKit
open Fm (Nd)

/-- None of the first k nodes meets the predicate. -/
def NoneP (p : Int → Int → Bool) (xs : List Nd) (k : Nat) : Prop := ∀ i, i < k → p (kd xs i) (sy xs i) = false
theorem NoneP.zero (p : Int → Int → Bool) (xs : List Nd) : NoneP p xs 0 := fun i hi => absurd hi (by omega)
theorem NoneP.succ {p : Int → Int → Bool} {xs : List Nd} {k : Nat} (h : NoneP p xs k) (h1 : p (kd xs k) (sy xs k) = false) : NoneP p xs (k + 1) := by
  intro i hi
  rcases Nat.lt_or_ge i k with hk | hk
  · exact h i hk
  · obtain rfl : i = k := by omega
    exact h1
/-- Some node meets the predicate. -/
noncomputable def anyP (p : Int → Int → Bool) (xs : List Nd) : Bool := !@decide (NoneP p xs xs.length) (Classical.propDecidable _)
theorem anyP_no {p : Int → Int → Bool} {xs : List Nd} (h : NoneP p xs xs.length) : anyP p xs = false := by
  unfold anyP
  rw [@decide_eq_true _ (Classical.propDecidable _) h]
  rfl
theorem anyP_at {p : Int → Int → Bool} {xs : List Nd} {k : Nat} (hk : k < xs.length) (h : p (kd xs k) (sy xs k) = true) : anyP p xs = true := by
  unfold anyP
  rw [@decide_eq_false _ (Classical.propDecidable _) fun H => by rw [H k hk] at h; cases h]
  rfl

/-- What the function value gives at a node. -/
def PredOk (f : Nat) (p : Int → Int → Bool) : Prop := ∀ a b W, Calls Tryz.prog f #[.agg #[.int .i64 a, .int .i64 b]] W fun e w' => e = .returned (.bool (p a b)) ∧ Grew W w'

theorem indexFunc_c (v : Value) (xs : List Nd) (f : Nat) (p : Int → Int → Bool) (w : World) (h : Nodes w v xs) (hn : xs.length ≤ 1099511627776) (hf : PredOk f p) (eg : ∀ args w, (callFunc f args).run Tryz.prog w = .ok (.enter f args) w) :
    Calls Tryz.prog 88 #[v, .func (.func f) #[] #[]] w fun e w' => ∃ r : Int, e = .returned (.int .i64 r) ∧ Grew w w' ∧ decide (0 ≤ r) = anyP p xs := by
  rcases h.open_ with ⟨rfl, rfl⟩ | ⟨b, o, c, rfl, hc, hm, hb, hcell⟩
  · rw [anyP_no (NoneP.zero _ _)]
    clear h hf
    go_enter Tryz.func88, Tryz.ntmps88
    go_wp2_with fail
    refine wp_loop_rounds 1 ?_; rw [rounds_succ]
    go_wp2_with fail
    go_ret
    exact ⟨_, rfl, Grew.refl _, rfl⟩
  obtain ⟨R, hR⟩ : ∃ R, R = anyP p xs := ⟨_, rfl⟩
  rw [← hR]
  have HA := Lib.hid (fun k hk h => hR.trans (@anyP_at p xs k hk h))
  have HZ := Lib.hid (fun h => hR.trans (@anyP_no p xs h))
  have HC := Lib.hid hcell
  have HF := Lib.hid hf
  clear hcell h hf hR
  generalize hN : xs.length = n at *
  clear hN
  go_enter Tryz.func88, Tryz.ntmps88
  go_wp2_with fail
  go_loopw [5, 8] (fun _ i wr => ∃ j : Nat, j ≤ n ∧ i = .int .i64 j ∧ Grew w wr ∧ Hid (NoneP p xs j)) (fun _ i _ => n - (intOf i).toNat)
  case atStart => exact ⟨0, Nat.zero_le _, rfl, Grew.refl _, NoneP.zero _ _⟩
  case round =>
    obtain ⟨j, hj, rfl, hB, HJ⟩ := hrel
    by_cases hlt : j < n
    · have k1 := (HC.out j hlt _ hB).1
      have k2 := (HC.out j hlt _ hB).2
      have hA := Lib.hid (HA.out j hlt)
      have hS := Lib.hid (fun h => HJ.out.succ (k := j) h)
      generalize kd xs j = x at *
      generalize sy xs j = y at *
      go_wp2_with fail
      go_at_fn f
      refine (HF.out x y _).mono ?_
      rintro e w1 ⟨rfl, hg1⟩
      have hB1 := hB.trans hg1
      cases hp : p x y with
      | true =>
        have hv := hA.out hp
        go_wp2_with fail
        go_ret
        exact ⟨_, rfl, hB1, by rw [hv]; simp⟩
      | false =>
        have hs := Lib.hid (hS.out hp)
        go_wp2_with fail
        go_roundw
        case rel => exact ⟨j + 1, by omega, by go_num, hB1, hs⟩
        case measure => simp [intOf]; omega
    · obtain rfl : j = n := by omega
      have hv := Lib.hid (HZ.out HJ.out)
      go_wp2_with fail
      go_ret
      exact ⟨_, rfl, hB, by rw [hv.out]; rfl⟩

theorem containsFunc_c (v : Value) (xs : List Nd) (f : Nat) (p : Int → Int → Bool) (w : World) (h : Nodes w v xs) (hn : xs.length ≤ 1099511627776) (hf : PredOk f p) (eg : ∀ args w, (callFunc f args).run Tryz.prog w = .ok (.enter f args) w) :
    Calls Tryz.prog 72 #[v, .func (.func f) #[] #[]] w fun e w' => e = .returned (.bool (anyP p xs)) ∧ Grew w w' := by
  have HI := Lib.hid (indexFunc_c v xs f p w h hn hf eg)
  clear h hf eg
  generalize anyP p xs = R at *
  go_enter Tryz.func72, Tryz.ntmps72
  go_wp2_with fail
  refine HI.out.mono ?_
  rintro e w1 ⟨r, rfl, hg1, hr⟩
  go_wp2_with fail
  go_ret
  exact ⟨by rw [← hr]; rfl, hg1⟩

end Go.Proofs.YtnbnhapepcegpaaGreatDoor

/- A number between two bounds. -/
namespace Go.Proofs.YtnbnhapepcegpaaGreatDoor
open Go.RowKit

theorem l01In_c (k lo hi : Int) (w : World) : Calls Tryz.prog 46 #[.int .i64 k, .int .i64 lo, .int .i64 hi] w fun e w' => e = .returned (.bool (decide (lo ≤ k ∧ k ≤ hi))) ∧ Grew w w' := by
  by_cases h : lo ≤ k
  · have hd : decide (lo ≤ k ∧ k ≤ hi) = decide (k ≤ hi) := by simp [h]
    rw [hd]
    go_enter Tryz.func46, Tryz.ntmps46
    go_wp2_with fail
    go_ret
    exact ⟨rfl, Grew.refl _⟩
  · have hd : decide (lo ≤ k ∧ k ≤ hi) = false := by simp [h]
    rw [hd]
    go_enter Tryz.func46, Tryz.ntmps46
    go_wp2_with fail
    go_ret
    exact ⟨rfl, Grew.refl _⟩

theorem inRange_c (k lo hi : Int) (w : World) : Calls Tryz.prog 57 #[.int .i64 k, .int .i64 lo, .int .i64 hi] w fun e w' => e = .returned (.bool (decide (lo ≤ k ∧ k ≤ hi))) ∧ Grew w w' := by
  by_cases h : lo ≤ k
  · have hd : decide (lo ≤ k ∧ k ≤ hi) = decide (k ≤ hi) := by simp [h]
    rw [hd]
    go_enter Tryz.func57, Tryz.ntmps57
    go_wp2_with fail
    go_ret
    exact ⟨rfl, Grew.refl _⟩
  · have hd : decide (lo ≤ k ∧ k ≤ hi) = false := by simp [h]
    rw [hd]
    go_enter Tryz.func57, Tryz.ntmps57
    go_wp2_with fail
    go_ret
    exact ⟨rfl, Grew.refl _⟩
end Go.Proofs.YtnbnhapepcegpaaGreatDoor

/- isFormula of the program, at any list. -/
namespace Go.Proofs.YtnbnhapepcegpaaGreatDoor
open Go.RowKit
open Fm (Nd Tree)

theorem isVariable_c (k : Int) (w : World) : Calls Tryz.prog 89 #[.int .i64 k] w fun e w' => e = .returned (.bool (decide (0 ≤ k ∧ k ≤ 5))) ∧ Grew w w' := by
  have HR := Lib.hid (inRange_c k 0 5 w)
  generalize decide (0 ≤ k ∧ k ≤ 5) = R at *
  go_enter Tryz.func89, Tryz.ntmps89
  go_wp2_with fail
  refine HR.out.mono ?_
  rintro e w1 ⟨rfl, hg1⟩
  go_wp2_with fail
  go_ret
  exact ⟨rfl, hg1⟩

/-- Is it a node? -/
def nodeB (a b : Int) : Bool := if a == 0 then decide (0 ≤ b ∧ b ≤ 5) else decide (1 ≤ a ∧ a ≤ 6) && b == 0

theorem isNode_c (a b : Int) (w : World) : Calls Tryz.prog 74 #[.agg #[.int .i64 a, .int .i64 b]] w fun e w' => e = .returned (.bool (nodeB a b)) ∧ Grew w w' := by
  unfold nodeB
  cases h0 : (a == 0) with
  | true =>
    rw [if_pos rfl]
    go_enter Tryz.func74, Tryz.ntmps74
    go_wp2_with fail
    refine (isVariable_c _ _).mono ?_
    rintro e w1 ⟨rfl, hg1⟩
    go_wp2_with fail
    go_ret
    exact ⟨by simp, Grew.of_alloc hg1⟩
  | false =>
    rw [if_neg (by simp)]
    have HR := fun w => inRange_c a 1 6 w
    generalize decide (1 ≤ a ∧ a ≤ 6) = R at *
    cases R with
    | true =>
      replace HR := Lib.hid HR
      go_enter Tryz.func74, Tryz.ntmps74
      go_wp2_with fail
      refine (HR.out _).mono ?_
      rintro e w1 ⟨rfl, hg1⟩
      have k1 : w1.cell? ⟨w.heap.size, 1, none⟩ = some (.int .i64 b) := (hg1.cell (by simp)).trans (by simp)
      go_wp2_with fail
      go_ret
      exact ⟨by simp, Grew.of_alloc hg1⟩
    | false =>
      replace HR := Lib.hid HR
      go_enter Tryz.func74, Tryz.ntmps74
      go_wp2_with fail
      refine (HR.out _).mono ?_
      rintro e w1 ⟨rfl, hg1⟩
      go_wp2_with fail
      go_ret
      exact ⟨by simp, Grew.of_alloc hg1⟩

def noNode (a b : Int) : Bool := !nodeB a b
theorem isFormula1_ok : PredOk 73 noNode := by
  intro a b w
  unfold noNode
  have HR := Lib.hid (fun w => isNode_c a b w)
  generalize nodeB a b = R at *
  go_enter Tryz.func73, Tryz.ntmps73
  go_wp2_with fail
  refine (HR.out _).mono ?_
  rintro e w1 ⟨rfl, hg1⟩
  go_wp2_with fail
  go_ret
  exact ⟨rfl, Grew.of_alloc hg1⟩

theorem enc_nodes (t : Tree) : ∀ n ∈ Fm.enc t, nodeB n.1 n.2 = true := by
  induction t with
  | var v =>
    intro n hn
    simp only [Fm.enc, List.mem_singleton] at hn
    subst hn
    have := v.isLt
    simp [nodeB]
    omega
  | fls =>
    intro n hn
    simp only [Fm.enc, List.mem_singleton] at hn
    subst hn
    rfl
  | and x y hx hy =>
    intro n hn
    simp only [Fm.enc, List.mem_cons, List.mem_append] at hn
    rcases hn with rfl | hn | hn
    · rfl
    · exact hx n hn
    · exact hy n hn
  | or x y hx hy =>
    intro n hn
    simp only [Fm.enc, List.mem_cons, List.mem_append] at hn
    rcases hn with rfl | hn | hn
    · rfl
    · exact hx n hn
    · exact hy n hn
  | imp x y hx hy =>
    intro n hn
    simp only [Fm.enc, List.mem_cons, List.mem_append] at hn
    rcases hn with rfl | hn | hn
    · rfl
    · exact hx n hn
    · exact hy n hn
  | box x hx =>
    intro n hn
    simp only [Fm.enc, List.mem_cons] at hn
    rcases hn with rfl | hn
    · rfl
    · exact hx n hn
  | dia x hx =>
    intro n hn
    simp only [Fm.enc, List.mem_cons] at hn
    rcases hn with rfl | hn
    · rfl
    · exact hx n hn
theorem enc_noNode (t : Tree) : anyP noNode (Fm.enc t) = false := by
  apply anyP_no
  intro i hi
  have h := enc_nodes t (Fm.enc t)[i] (List.getElem_mem hi)
  have h1 : kd (Fm.enc t) i = (Fm.enc t)[i].1 := by simp [kd, List.getD, hi]
  have h2 : sy (Fm.enc t) i = (Fm.enc t)[i].2 := by simp [sy, List.getD, hi]
  rw [noNode, h1, h2, h]
  rfl
theorem at_all (t : Tree) : At (Fm.enc t) 0 t := ⟨[], by simp⟩


/-- Is the list a formula's? -/
noncomputable def fmB (xs : List Nd) : Bool := decide (1 ≤ xs.length ∧ xs.length ≤ 40) && !anyP noNode xs && (pend xs 0 == (xs.length : Int))

theorem isFormula_g (v : Value) (xs : List Nd) (w : World) (h : Nodes w v xs) (hn : xs.length ≤ 1099511627776) :
    Calls Tryz.prog 55 #[v] w fun e w' => e = .returned (.bool (fmB xs)) ∧ Grew w w' := by
  have HC := Lib.hid (fun w h => containsFunc_c v xs _ _ w h hn isFormula1_ok (enters_of Tryz.func73 (by kernel_rfl) rfl))
  have HP := Lib.hid (fun w h => partEnd_c v xs 0 w h hn (by omega))
  obtain ⟨A, c, rfl⟩ := nodes_slice h
  have HN := Lib.hid h
  clear h
  unfold fmB
  generalize pend xs 0 = p at *
  generalize anyP noNode xs = q at *
  generalize hL : xs.length = n at *
  clear hL
  by_cases h1 : 1 ≤ n
  · by_cases h2 : n ≤ 40
    · rw [decide_eq_true (⟨h1, h2⟩ : 1 ≤ n ∧ n ≤ 40), Bool.true_and]
      cases q with
      | true =>
        go_enter Tryz.func55, Tryz.ntmps55
        go_wp2_with fail
        refine (HC.out _ HN.out).mono ?_
        rintro e w1 ⟨rfl, hg1⟩
        go_wp2_with fail
        go_ret
        exact ⟨by simp, hg1⟩
      | false =>
        go_enter Tryz.func55, Tryz.ntmps55
        go_wp2_with fail
        refine (HC.out _ HN.out).mono ?_
        rintro e w1 ⟨rfl, hg1⟩
        go_wp2_with fail
        refine (HP.out _ (HN.out.grew hg1)).mono ?_
        rintro e w2 ⟨rfl, hg2⟩
        go_wp2_with fail
        go_ret
        exact ⟨by simp, hg1.trans hg2⟩
    · rw [decide_eq_false (fun h : 1 ≤ n ∧ n ≤ 40 => h2 h.2), Bool.false_and, Bool.false_and]
      go_enter Tryz.func55, Tryz.ntmps55
      go_wp2_with fail
      go_ret
      exact ⟨rfl, Grew.refl _⟩
  · rw [decide_eq_false (fun h : 1 ≤ n ∧ n ≤ 40 => h1 h.1), Bool.false_and, Bool.false_and]
    go_enter Tryz.func55, Tryz.ntmps55
    go_wp2_with fail
    go_ret
    exact ⟨rfl, Grew.refl _⟩
end Go.Proofs.YtnbnhapepcegpaaGreatDoor

/- A list of good nodes that a scan reads whole is the list of a formula's tree. No program is in sight. -/
namespace Go.Proofs.YtnbnhapepcegpaaGreatDoor
open Go.RowKit
open Fm (Nd Tree)

theorem nodeB_cases {x : Nd} (h : nodeB x.1 x.2 = true) : (∃ v : Fin 6, x = (0, (v.val : Int))) ∨ x = (1, 0) ∨ x = (2, 0) ∨ x = (3, 0) ∨ x = (4, 0) ∨ x = (5, 0) ∨ x = (6, 0) := by
  obtain ⟨a, b⟩ := x
  unfold nodeB at h
  simp only at h
  split at h
  · rename_i h0
    have ha : a = 0 := by simpa using h0
    have hb := of_decide_eq_true h
    left
    refine ⟨⟨b.toNat, by omega⟩, ?_⟩
    rw [ha]
    congr 1
    simp; omega
  · simp only [Bool.and_eq_true, decide_eq_true_eq, beq_iff_eq] at h
    obtain ⟨⟨h1, h2⟩, rfl⟩ := h
    right
    obtain rfl | rfl | rfl | rfl | rfl | rfl : a = 1 ∨ a = 2 ∨ a = 3 ∨ a = 4 ∨ a = 5 ∨ a = 6 := by omega
    all_goals simp

theorem fm_trees : ∀ (xs : List Nd) (o n : Nat), Fm.scan xs o = some n → (∀ x ∈ xs, nodeB x.1 x.2 = true) → ∃ (ts : List Tree) (rest : List Nd), ts.length = o ∧ xs = ts.flatMap Fm.enc ++ rest ∧ n = (ts.flatMap Fm.enc).length := by
  intro xs
  induction xs with
  | nil =>
    intro o n h _
    cases o with
    | zero => simp [Fm.scan_zero] at h; exact ⟨[], [], rfl, rfl, by simp [h]⟩
    | succ o => simp [Fm.scan_nil] at h
  | cons x xs ih =>
    intro o n h hp
    cases o with
    | zero => simp [Fm.scan_zero] at h; exact ⟨[], x :: xs, rfl, by simp, by simp [h]⟩
    | succ o =>
      rw [Fm.scan_cons] at h
      cases hs : Fm.scan xs (o + Fm.arity x.1) with
      | none => rw [hs] at h; simp at h
      | some m =>
        rw [hs] at h
        simp only [Option.map_some, Option.some.injEq] at h
        obtain ⟨ts, rest, h1, h2, h3⟩ := ih _ _ hs (fun y hy => hp y (by simp [hy]))
        have two : ∀ (f : Tree → Tree → Tree), (∀ a b, Fm.enc (f a b) = x :: (Fm.enc a ++ Fm.enc b)) → Fm.arity x.1 = 2 → ∃ (ts : List Tree) (rest : List Nd), ts.length = o + 1 ∧ x :: xs = ts.flatMap Fm.enc ++ rest ∧ n = (ts.flatMap Fm.enc).length := by
          intro f hf ha
          rw [ha] at h1
          match ts, h1, h2, h3 with
          | a :: b :: ts, h1, h2, h3 =>
            refine ⟨f a b :: ts, rest, by simp at h1; simp [h1], by simp [hf, h2], ?_⟩
            rw [← h, h3]
            simp only [List.flatMap_cons, hf, List.length_append, List.length_cons]
            omega
          | [_], h1, _, _ => simp at h1
        have one : ∀ (f : Tree → Tree), (∀ a, Fm.enc (f a) = x :: Fm.enc a) → Fm.arity x.1 = 1 → ∃ (ts : List Tree) (rest : List Nd), ts.length = o + 1 ∧ x :: xs = ts.flatMap Fm.enc ++ rest ∧ n = (ts.flatMap Fm.enc).length := by
          intro f hf ha
          rw [ha] at h1
          match ts, h1, h2, h3 with
          | a :: ts, h1, h2, h3 =>
            refine ⟨f a :: ts, rest, by simp at h1; simp [h1], by simp [hf, h2], ?_⟩
            rw [← h, h3]
            simp only [List.flatMap_cons, hf, List.length_append, List.length_cons]
            omega
        have zero : ∀ (f : Tree), Fm.enc f = [x] → Fm.arity x.1 = 0 → ∃ (ts : List Tree) (rest : List Nd), ts.length = o + 1 ∧ x :: xs = ts.flatMap Fm.enc ++ rest ∧ n = (ts.flatMap Fm.enc).length := by
          intro f hf ha
          rw [ha] at h1
          refine ⟨f :: ts, rest, by simp [h1], by simp [hf, h2], ?_⟩
          rw [← h, h3]
          simp only [List.flatMap_cons, hf, List.length_append, List.length_cons, List.length_nil]
          omega
        rcases nodeB_cases (hp x (by simp)) with ⟨v, rfl⟩ | rfl | rfl | rfl | rfl | rfl | rfl
        · exact zero (.var v) rfl rfl
        · exact zero .fls rfl rfl
        · exact two .and (fun _ _ => rfl) rfl
        · exact two .or (fun _ _ => rfl) rfl
        · exact two .imp (fun _ _ => rfl) rfl
        · exact one .box (fun _ => rfl) rfl
        · exact one .dia (fun _ => rfl) rfl

/-- A list that is a formula's is the list of a tree. -/
theorem fmB_tree {xs : List Nd} (h : fmB xs = true) : ∃ t, xs = Fm.enc t ∧ xs.length ≤ 40 := by
  unfold fmB at h
  simp only [Bool.and_eq_true, decide_eq_true_eq, Bool.not_eq_true', beq_iff_eq] at h
  obtain ⟨⟨⟨h1, h2⟩, h3⟩, h4⟩ := h
  have hall : ∀ x ∈ xs, nodeB x.1 x.2 = true := by
    intro x hx
    obtain ⟨i, hi, rfl⟩ := List.getElem_of_mem hx
    cases hb : nodeB (xs[i]).1 (xs[i]).2 with
    | true => rfl
    | false =>
      rw [kd_lt hi] at hb
      have := anyP_at (p := noNode) hi (by rw [noNode, hb]; rfl)
      rw [this] at h3
      cases h3
  have hs : Fm.scan xs 1 = some xs.length := by
    unfold pend at h4
    rw [List.drop_zero] at h4
    cases hz : Fm.scan xs 1 with
    | none => rw [hz] at h4; simp only [pval] at h4; omega
    | some n => rw [hz] at h4; simp only [pval] at h4; congr 1; omega
  obtain ⟨ts, rest, e1, e2, e3⟩ := fm_trees xs 1 _ hs hall
  match ts, e1 with
  | [t], _ =>
    refine ⟨t, ?_, h2⟩
    have hl := congrArg List.length e2
    rw [List.length_append] at hl
    have : rest = [] := List.eq_nil_of_length_eq_zero (by omega)
    rw [this] at e2
    simpa using e2
end Go.Proofs.YtnbnhapepcegpaaGreatDoor

/- l02Is of the reference, at any list. -/
namespace Go.Proofs.YtnbnhapepcegpaaGreatDoor
open Go.RowKit
open Fm (Nd Tree)

theorem nodeB_bad1 {a b : Int} (h : decide (0 ≤ a ∧ a ≤ 6) = false) : nodeB a b = false := by
  unfold nodeB
  have h' := of_decide_eq_false h
  rw [if_neg (by simp; omega), decide_eq_false (by omega)]
  rfl
theorem nodeB_bad2 {a b : Int} (h : decide (0 ≤ b ∧ b ≤ 5) = false) : nodeB a b = false := by
  unfold nodeB
  have h' := of_decide_eq_false h
  split
  · exact h
  · have : (b == 0) = false := by simp; omega
    rw [this, Bool.and_false]
theorem nodeB_bad3 {a b : Int} (h0 : (a != 0) = true) (h1 : (b != 0) = true) : nodeB a b = false := by
  unfold nodeB
  simp at h0 h1
  rw [if_neg (by simpa using h0)]
  simp [h1]
theorem nodeB_ok {a b : Int} (h1 : decide (0 ≤ a ∧ a ≤ 6) = true) (h2 : decide (0 ≤ b ∧ b ≤ 5) = true) (h : (a != 0) = false ∨ (b != 0) = false) : nodeB a b = true := by
  unfold nodeB
  have h1' := of_decide_eq_true h1
  split
  · exact h2
  · rename_i hne
    rcases h with h | h
    · simp at h; simp [h] at hne
    · simp at h
      subst h
      have : a ≠ 0 := by simpa using hne
      simp; omega

theorem l02Tree_c (v : Value) (xs : List Nd) (w : World) (h : Nodes w v xs) (hn : xs.length ≤ 1099511627776) :
    Calls Tryz.prog 45 #[v] w fun e w' => e = .returned (.bool (decide (1 ≤ xs.length) && !anyP noNode xs && (pend xs 0 == (xs.length : Int)))) ∧ Grew w w' := by
  rcases h.open_ with ⟨rfl, rfl⟩ | ⟨b, o, c, rfl, hc, hm, hb, hcell⟩
  · clear h
    go_enter Tryz.func45, Tryz.ntmps45
    go_wp2_with fail
    refine wp_loop_rounds 1 ?_; rw [rounds_succ]
    go_wp2_with fail
    go_ret
    exact ⟨rfl, Grew.refl _⟩
  obtain ⟨R, hR⟩ : ∃ R, R = anyP noNode xs := ⟨_, rfl⟩
  rw [← hR]
  have HA := Lib.hid (fun k hk h => hR.trans (@anyP_at noNode xs k hk h))
  have HZ := Lib.hid (fun h => hR.trans (@anyP_no noNode xs h))
  have HP := Lib.hid (fun W (hW : Grew w W) => l02Part_c _ xs 0 W (h.grew hW) hn (by omega))
  have HC := Lib.hid hcell
  clear hcell h hR
  generalize pend xs 0 = p at *
  generalize hN : xs.length = n at *
  clear hN
  go_enter Tryz.func45, Tryz.ntmps45
  go_wp2_with fail
  go_loopw [3] (fun i wr => ∃ j : Nat, j ≤ n ∧ i = .int .i64 j ∧ Grew w wr ∧ Hid (NoneP noNode xs j)) (fun i _ => n - (intOf i).toNat)
  case atStart => exact ⟨0, Nat.zero_le _, rfl, Grew.refl _, NoneP.zero _ _⟩
  case round =>
    obtain ⟨j, hj, rfl, hB, HJ⟩ := hrel
    by_cases hlt : j < n
    · have k1 : ∀ W, Grew w W → W.cell? ⟨b, o + j * 2, none⟩ = some (.int .i64 (kd xs j)) := fun W hW => (HC.out j hlt W hW).1
      have k2 : ∀ W, Grew w W → W.cell? ⟨b, o + j * 2 + 1, none⟩ = some (.int .i64 (sy xs j)) := fun W hW => (HC.out j hlt W hW).2
      have hA : Hid (nodeB (kd xs j) (sy xs j) = false → R = true) := Lib.hid (fun h => HA.out j hlt (by rw [noNode, h]; rfl))
      have hS : Hid (nodeB (kd xs j) (sy xs j) = true → NoneP noNode xs (j + 1)) := Lib.hid (fun h => HJ.out.succ (k := j) (by rw [noNode, h]; rfl))
      generalize kd xs j = x at *
      generalize sy xs j = y at *
      have I1 := fun w => l01In_c x 0 6 w
      have I2 := fun w => l01In_c y 0 5 w
      have hd : ∀ W, Grew w W → Grew w W.drew := fun W h => h.drew
      cases d1 : decide (0 ≤ x ∧ x ≤ 6) with
      | false =>
        have hv := Lib.hid (hA.out (nodeB_bad1 d1))
        rw [d1] at I1
        replace I1 := Lib.hid I1
        replace I2 := Lib.hid I2
        clear d1
        go_wp2_with fail
        refine (I1.out _).mono ?_
        rintro e w1 ⟨rfl, hg1⟩
        have hB1 := hB.trans hg1
        go_wp2_with fail
        go_ret
        rw [hv.out]
        exact ⟨by simp, hB1⟩
      | true =>
        rw [d1] at I1
        replace I1 := Lib.hid I1
        cases d2 : decide (0 ≤ y ∧ y ≤ 5) with
        | false =>
          have hv := Lib.hid (hA.out (nodeB_bad2 d2))
          rw [d2] at I2
          replace I2 := Lib.hid I2
          clear d1 d2
          go_wp2_with fail
          refine (I1.out _).mono ?_
          rintro e w1 ⟨rfl, hg1⟩
          have hB1 := hB.trans hg1
          go_wp2_with fail
          refine (I2.out _).mono ?_
          rintro e w2 ⟨rfl, hg2⟩
          have hB2 := hB1.trans hg2
          go_wp2_with fail
          go_ret
          rw [hv.out]
          exact ⟨by simp, hB2⟩
        | true =>
          rw [d2] at I2
          replace I2 := Lib.hid I2
          cases d3 : (x != 0) with
          | false =>
            have hs := Lib.hid (hS.out (nodeB_ok d1 d2 (.inl d3)))
            clear d1 d2
            go_wp2_with fail
            refine (I1.out _).mono ?_
            rintro e w1 ⟨rfl, hg1⟩
            have hB1 := hB.trans hg1
            go_wp2_with fail
            refine (I2.out _).mono ?_
            rintro e w2 ⟨rfl, hg2⟩
            have hB2 := hB1.trans hg2
            go_wp2_with fail
            go_roundw
            case rel => exact ⟨j + 1, by omega, by go_num, hB2, hs⟩
            case measure => simp [intOf]; omega
          | true =>
            cases d4 : (y != 0) with
            | true =>
              have hv := Lib.hid (hA.out (nodeB_bad3 d3 d4))
              clear d1 d2
              go_wp2_with fail
              refine (I1.out _).mono ?_
              rintro e w1 ⟨rfl, hg1⟩
              have hB1 := hB.trans hg1
              go_wp2_with fail
              refine (I2.out _).mono ?_
              rintro e w2 ⟨rfl, hg2⟩
              have hB2 := hB1.trans hg2
              go_wp2_with fail
              go_ret
              rw [hv.out]
              exact ⟨by simp, hB2⟩
            | false =>
              have hs := Lib.hid (hS.out (nodeB_ok d1 d2 (.inr d4)))
              clear d1 d2
              go_wp2_with fail
              refine (I1.out _).mono ?_
              rintro e w1 ⟨rfl, hg1⟩
              have hB1 := hB.trans hg1
              go_wp2_with fail
              refine (I2.out _).mono ?_
              rintro e w2 ⟨rfl, hg2⟩
              have hB2 := hB1.trans hg2
              go_wp2_with fail
              go_roundw
              case rel => exact ⟨j + 1, by omega, by go_num, hB2, hs⟩
              case measure => simp [intOf]; omega
    · obtain rfl : j = n := by omega
      have hv := Lib.hid (HZ.out HJ.out)
      by_cases hz : 0 < j
      · have hz1 : decide (1 ≤ j) = true := by simp; omega
        go_wp2_with fail
        refine (HP.out _ hB).mono ?_
        rintro e w1 ⟨rfl, hg1⟩
        go_wp2_with fail
        go_ret
        rw [hv.out]
        exact ⟨by rw [hz1]; simp, hB.trans hg1⟩
      · have hz1 : decide (1 ≤ j) = false := by simp; omega
        go_wp2_with fail
        go_ret
        rw [hv.out, hz1]
        exact ⟨by simp, hB⟩

theorem l02Is_c (v : Value) (xs : List Nd) (w : World) (h : Nodes w v xs) (hn : xs.length ≤ 1099511627776) :
    Calls Tryz.prog 36 #[v] w fun e w' => e = .returned (.bool (fmB xs)) ∧ Grew w w' := by
  have HT := fun W (hW : Grew w W) => l02Tree_c v xs W (h.grew hW) hn
  obtain ⟨A, c, rfl⟩ := nodes_slice h
  clear h
  unfold fmB
  generalize pend xs 0 = p at *
  generalize anyP noNode xs = q at *
  generalize hL : xs.length = n at *
  clear hL
  by_cases h2 : n ≤ 40
  · rw [show decide (1 ≤ n ∧ n ≤ 40) = decide (1 ≤ n) from by simp [h2]]
    generalize (decide (1 ≤ n) && !q && (p == (n : Int))) = r at *
    replace HT := Lib.hid HT
    go_enter Tryz.func36, Tryz.ntmps36
    go_wp2_with fail
    refine (HT.out _ (Grew.refl _)).mono ?_
    rintro e w1 ⟨rfl, hg1⟩
    go_wp2_with fail
    go_ret
    exact ⟨rfl, hg1⟩
  · rw [show decide (1 ≤ n ∧ n ≤ 40) = false from by simp [h2], Bool.false_and, Bool.false_and]
    replace HT := Lib.hid HT
    go_enter Tryz.func36, Tryz.ntmps36
    go_wp2_with fail
    go_ret
    exact ⟨rfl, Grew.refl _⟩
end Go.Proofs.YtnbnhapepcegpaaGreatDoor

/- Slices of strings. -/
namespace Go.Proofs.YtnbnhapepcegpaaGreatDoor
open Go.RowKit

def st (L : List ByteArray) (i : Nat) : ByteArray := L.getD i ByteArray.empty
def scells (L : List ByteArray) : List Value := L.map Value.string
theorem scells_length (L : List ByteArray) : (scells L).length = L.length * 1 := by simp [scells]
theorem scells_one (L : List ByteArray) : ∀ u ∈ scells L, u.oneCell' = true := by
  intro u hu
  simp only [scells, List.mem_map] at hu
  obtain ⟨x, _, rfl⟩ := hu
  rfl
theorem scells_at {L : List ByteArray} {i : Nat} (h : i < L.length) : (scells L)[i]? = some (.string (st L i)) := by simp [scells, st, List.getD, h]
theorem scells_append (K L : List ByteArray) : scells (K ++ L) = scells K ++ scells L := by simp [scells]
theorem st_get {L : List ByteArray} {i : Nat} (h : i < L.length) : L[i] = st L i := by simp [st, List.getD, h]

/-- The value reads as the list of strings. -/
def Strs (w : World) (v : Value) (L : List ByteArray) : Prop := Rd w 1 v L.length (scells L)
/-- A row of the call's own that holds the strings. -/
def OwnS (w : World) (B : Nat) (v : Value) (L : List ByteArray) : Prop := w.ownsRow B 9 1 v L.length (scells L)
theorem Strs.grew {w w' : World} {v : Value} {L : List ByteArray} (h : Strs w v L) (hb : Grew w w') : Strs w' v L := Rd.grew h hb
theorem Strs.nil_ (w : World) : Strs w (.slice none 0 0) [] := Rd.nil_ w 1
theorem OwnS.strs {w : World} {B : Nat} {v : Value} {L : List ByteArray} (h : OwnS w B v L) : Strs w v L := Rd.of_own h
theorem OwnS.nil_ (w : World) (B : Nat) : OwnS w B (.slice none 0 0) [] := World.ownsRow_nil w B _ 1
theorem OwnS.grew {w w' : World} {B : Nat} {v : Value} {L : List ByteArray} (h : OwnS w B v L) (hb : Grew w w') : OwnS w' B v L := own_grew h hb
theorem OwnS.base {w : World} {B B' : Nat} {v : Value} {L : List ByteArray} (h : OwnS w B v L) (hb : B' ≤ B) : OwnS w B' v L := own_base h hb

theorem Strs.open_ {w : World} {v : Value} {L : List ByteArray} (h : Strs w v L) :
    (v = .slice none 0 0 ∧ L = []) ∨ ∃ b o c, v = .slice (some ⟨b, o, none⟩) L.length c ∧ L.length ≤ c ∧ c ≤ 9223372036854775807 ∧ b < w.heap.size ∧
      ∀ i, i < L.length → ∀ W, Grew w W → W.cell? ⟨b, o + i, none⟩ = some (.string (st L i)) := by
  obtain ⟨_, _, h3⟩ := h
  rcases h3 with ⟨h4, h5⟩ | ⟨b, o, c, h4, h5, h6, h7, h8⟩
  · exact .inl ⟨h4, List.eq_nil_of_length_eq_zero h5⟩
  · exact .inr ⟨b, o, c, h4, h5, h6, h7, fun i hi W hW => (hW.cell (p := ⟨b, o + i, none⟩) h7).trans (h8 _ _ (scells_at hi))⟩
theorem strs_slice {w : World} {v : Value} {L : List ByteArray} (h : Strs w v L) : ∃ A c, v = .slice A L.length c := by
  rcases h.open_ with ⟨rfl, rfl⟩ | ⟨b, o, c, rfl, _⟩
  · exact ⟨_, _, rfl⟩
  · exact ⟨_, _, rfl⟩
/-- A literal of strings in a new block. -/
theorem OwnS.lit (w : World) (B : Nat) (L : List ByteArray) (cs : Array Value) (hB : B ≤ w.heap.size) (hn : L.length ≤ 9223372036854775807) (hc : cs.toList = scells L) :
    OwnS (w.alloc (.cells cs 9)) B (.slice (some ⟨w.heap.size, 0, none⟩) L.length L.length) L := by
  have hl : cs.size = L.length * 1 := by rw [← Array.length_toList, hc, scells_length]
  have h := World.ownsRow_lit (e := 9) (size := 1) w cs L.length hB hn hl
  rw [hc] at h
  exact h
theorem OwnS.mk_ {w : World} {B : Nat} {L : List ByteArray} {g c : Nat} {cur : Array Value} (hB : B ≤ g) (hg : w.heap[g]? = some (.cells cur 9 (0, 0))) (hnc : L.length ≤ c) (hcm : c ≤ 9223372036854775807) (hcs : cur.size = c)
    (hc : ∀ i, i < L.length → cur[i]? = some (.string (st L i))) : OwnS w B (.slice (some ⟨g, 0, none⟩) L.length c) L := by
  refine ⟨scells_length L, .inr ⟨g, c, cur, rfl, hB, hg, hnc, hcm, by omega, ?_⟩⟩
  apply List.ext_getElem?
  intro j
  rw [List.getElem?_take]
  by_cases hj : j < L.length
  · rw [if_pos (by omega), scells_at hj]
    simpa using hc j hj
  · rw [if_neg (by omega), List.getElem?_eq_none (by rw [scells_length]; omega)]

theorem Tryz.infoStr : (Tryz.prog.info? 9).map (fun i => (i.zero, i.size, i.bytes)) = some (some (.string ByteArray.empty), 1, 16) := by kernel_rfl

/-- The call returns a new list of strings. -/
def GivesS (w : World) (L : List ByteArray) (e : Ending) (w' : World) : Prop := ∃ v, e = .returned v ∧ OwnS w' w.heap.size v L ∧ Grew w w'

end Go.Proofs.YtnbnhapepcegpaaGreatDoor

/- A table of strings that is a package-level variable: what the row's condition gives. -/
namespace Go.Proofs.YtnbnhapepcegpaaGreatDoor
open Go.RowKit

/-- The table as a row lists it. -/
def tabS {H : Type} (L : List ByteArray) : DataW H := .agg (L.map fun s => .lit (.string s.data.toList))

theorem cells_of_strs {H : Type} {enc : TypeId × Value → H} {P : Program} {w : World} {base : Nat} {sp : Nat → Bool} {held : Bool} {fuel : Nat} {t e : TypeId} {n : Nat} {cs : List Value} {L : List ByteArray} {p : List MemPlace}
    (ht : P.underlying t = some (.array n e)) (he : P.underlying e = some .string) (hce : P.cellsOf e = 1) (hct : P.cellsOf t = n)
    (h : DataW.trod enc P w base sp held fuel t cs = some (tabS L, p)) : cs = scells L := by
  obtain ⟨xs, m, _, hx, hl, hxl, hi⟩ := DataW.trod_array ht h
  rw [hct] at hl
  simp only [tabS, Prod.mk.injEq, DataW.agg.injEq] at hx
  have hLn : L.length = n := by
    have := congrArg List.length hx.1
    simp only [List.length_map] at this
    omega
  apply List.ext_getElem?
  intro i
  by_cases h1 : i < n
  · have hk := hi i h1
    rw [hce, Nat.mul_one] at hk
    have hxi : xs[i]? = some xs[i] := List.getElem?_eq_getElem (by omega)
    rw [hxi] at hk
    obtain ⟨s, hc, hs, _⟩ := DataW.trod_string he hk
    have h2 : cs[i]? = some (.string s) := by
      have := congrArg (·[0]?) hc
      simpa [List.getElem?_take, List.getElem?_drop] using this
    have h3 := congrArg (·[i]?) hx.1
    simp only [List.getElem?_map, hxi, Option.map_some, hs] at h3
    have h4 : L[i]? = some L[i] := List.getElem?_eq_getElem (by omega)
    rw [h4] at h3
    simp only [Option.map_some, Option.some.injEq, DataW.lit.injEq, Lit.string.injEq] at h3
    have h5 : L[i] = s := by
      apply ByteArray.ext
      apply Array.ext'
      exact h3
    rw [h2, scells, List.getElem?_map, h4, Option.map_some, h5]
  · rw [List.getElem?_eq_none (by omega), List.getElem?_eq_none (by rw [scells_length]; omega)]

/-- Block g holds the table, none of it frozen. -/
def TabAt (w : World) (g : Nat) (L : List ByteArray) : Prop := ∃ t, w.heap[g]? = some (.cells (scells L).toArray t (0, 0))
theorem TabAt.grew {w w' : World} {g : Nat} {L : List ByteArray} (h : TabAt w g L) (hg : Grew w w') : TabAt w' g L := by
  obtain ⟨t, h⟩ := h
  exact ⟨t, (hg.block (blk_lt h)).trans h⟩
theorem TabAt.lt {w : World} {g : Nat} {L : List ByteArray} (h : TabAt w g L) : g < w.heap.size := by
  obtain ⟨t, h⟩ := h
  exact blk_lt h
theorem TabAt.cell {w : World} {g : Nat} {L : List ByteArray} (h : TabAt w g L) {i : Nat} (hi : i < L.length) : w.cell? ⟨g, i, none⟩ = some (.string (st L i)) := by
  obtain ⟨t, h⟩ := h
  rw [blk_cell h]
  have := scells_at hi
  simpa using this
/-- What one variable of the condition gives. -/
theorem laid_tab {P : Program} {W : World} {name : String} {L : List ByteArray} {rest : List (String × DataW Unit)} {g : Nat} {t e : TypeId} {n : Nat} {ps : List MemPlace}
    (hg : P.globalNamed name = some g) (hty : (P.globals[g]?).map (·.type) = some t) (ht : P.underlying t = some (.array n e)) (he : P.underlying e = some .string) (hce : P.cellsOf e = 1) (hct : P.cellsOf t = n) (hn : 0 < L.length)
    (h : DataW.LaidVars P W ((name, tabS L) :: rest) ps) (hcell : ∀ b off, MemPlace.cell b off ∈ ps → (∃ c t, W.heap[b]? = some (.cells c t (0, 0))) ∧ ∀ u v, W.cell? ⟨b, off, none⟩ = some (.iface u v) → Value.okWide P W .any 0 u v) :
    W.var? P name = some (scells L).toArray ∧ TabAt W g L ∧ ∃ q, DataW.LaidVars P W rest q ∧ ∀ x ∈ q, x ∈ ps := by
  obtain ⟨g', t', cs, f, p, q, hg', ht', hv, hd, hr, hps⟩ := h
  obtain rfl := Option.some.inj (hg.symm.trans hg')
  obtain rfl := Option.some.inj (hty.symm.trans ht')
  have hc := cells_of_strs ht he hce hct hd
  have hcs : cs = (scells L).toArray := by apply Array.ext'; simpa using hc
  subst hcs
  refine ⟨hv, ?_, q, hr, fun x hx => by rw [hps]; simp [hx]⟩
  have hm : MemPlace.cell g 0 ∈ ps := by
    rw [hps]
    apply List.mem_append_left
    apply List.mem_append_left
    rw [MemPlace.mem_row]
    exact ⟨0, by simp [scells, hn], rfl⟩
  obtain ⟨⟨c, t2, hb⟩, _⟩ := hcell g 0 hm
  simp only [World.var?, hg, Option.bind_some, hb, Option.some.injEq] at hv
  exact ⟨t2, by rw [hb, hv]⟩
end Go.Proofs.YtnbnhapepcegpaaGreatDoor

/- A list of nodes is that of one formula at most. No program is in sight. -/
namespace Go.Proofs.YtnbnhapepcegpaaGreatDoor
open Fm (Nd)

theorem enc_pre (t : Fm.Tree) : ∀ (u : Fm.Tree) (a b : List Nd), Fm.enc t ++ a = Fm.enc u ++ b → t = u ∧ a = b := by
  induction t with
  | var v =>
    intro u a b h
    cases u <;> simp [Fm.enc] at h
    exact ⟨congrArg Fm.Tree.var (Fin.ext (by have := h.1; omega)), h.2⟩
  | fls =>
    intro u a b h
    cases u <;> simp [Fm.enc] at h
    exact ⟨rfl, h⟩
  | and x y hx hy =>
    intro u a b h
    cases u <;> simp [Fm.enc] at h
    obtain ⟨e1, h1⟩ := hx _ _ _ h
    obtain ⟨e2, h2⟩ := hy _ _ _ h1
    exact ⟨by rw [e1, e2], h2⟩
  | or x y hx hy =>
    intro u a b h
    cases u <;> simp [Fm.enc] at h
    obtain ⟨e1, h1⟩ := hx _ _ _ h
    obtain ⟨e2, h2⟩ := hy _ _ _ h1
    exact ⟨by rw [e1, e2], h2⟩
  | imp x y hx hy =>
    intro u a b h
    cases u <;> simp [Fm.enc] at h
    obtain ⟨e1, h1⟩ := hx _ _ _ h
    obtain ⟨e2, h2⟩ := hy _ _ _ h1
    exact ⟨by rw [e1, e2], h2⟩
  | box x hx =>
    intro u a b h
    cases u <;> simp [Fm.enc] at h
    obtain ⟨e1, h1⟩ := hx _ _ _ h
    exact ⟨by rw [e1], h1⟩
  | dia x hx =>
    intro u a b h
    cases u <;> simp [Fm.enc] at h
    obtain ⟨e1, h1⟩ := hx _ _ _ h
    exact ⟨by rw [e1], h1⟩
theorem enc_inj {t u : Fm.Tree} (h : Fm.enc t = Fm.enc u) : t = u := (enc_pre t u [] [] (by simpa using h)).1

end Go.Proofs.YtnbnhapepcegpaaGreatDoor

/- The program's makers over slices.Concat. -/
namespace Go.Proofs.YtnbnhapepcegpaaGreatDoor
open Go.RowKit
open Fm (Nd)

/-- A block that has just been made and holds slices of nodes. -/
theorem lists_new (w : World) (t : TypeId) (us : List Value) (L : List (List Nd)) (hm : L.length ≤ 9223372036854775807)
    (h : ∀ i, i < L.length → ∃ u, us[i]? = some u ∧ Nodes w u (L.getD i [])) : Lists (w.alloc (.cells us.toArray t)) (.slice (some ⟨w.heap.size, 0, none⟩) L.length L.length) L := by
  refine .inr ⟨w.heap.size, 0, L.length, rfl, Nat.le_refl _, hm, by simp, fun i hi => ?_⟩
  obtain ⟨u, h1, h2⟩ := h i hi
  refine ⟨u, ?_, h2.grew ((Grew.refl w).alloc _)⟩
  rw [Nat.zero_add, blk_cell (blk_new w _)]
  simpa using h1

theorem join_c (k : Int) (va vb : Value) (xs ys : List Nd) (w : World) (ha : Nodes w va xs) (hb : Nodes w vb ys) (hn : xs.length + ys.length ≤ 1099511627775) :
    Calls Tryz.prog 60 #[.int .i64 k, va, vb] w (Gives w (Fm.join k xs ys)) := by
  have o1 := Own.one w w.heap.size k 0 (Nat.le_refl _)
  have g1 := (Grew.refl w).alloc (.cells #[.int .i64 k, .int .i64 0] 68)
  have hl := lists_new (w.alloc (.cells #[.int .i64 k, .int .i64 0] 68)) 35 [.slice (some ⟨w.heap.size, 0, none⟩) 1 1, va, vb] [[(k, 0)], xs, ys] (by simp) (fun i hi => by
    match i, hi with
    | 0, _ => exact ⟨_, rfl, o1.nodes⟩
    | 1, _ => exact ⟨_, rfl, ha.grew g1⟩
    | 2, _ => exact ⟨_, rfl, hb.grew g1⟩)
  obtain ⟨A, ca, rfl⟩ := nodes_slice ha
  obtain ⟨B, cb, rfl⟩ := nodes_slice hb
  simp only [List.length_cons, List.length_nil, World.size_alloc] at hl
  go_enter Tryz.func60, Tryz.ntmps60
  go_wp2_with fail
  refine (concat_c _ _ _ hl (by simp) (by simp; omega)).mono ?_
  rintro e w1 ⟨v1, rfl, ho1, hg1⟩
  go_wp2_with fail
  go_ret
  exact ⟨_, rfl, by simpa [Fm.join] using ho1.base (by simp; omega), hg1.of_alloc.of_alloc⟩

theorem prefix_c (k : Int) (va : Value) (xs : List Nd) (w : World) (ha : Nodes w va xs) (hn : xs.length ≤ 1099511627775) :
    Calls Tryz.prog 61 #[.int .i64 k, va] w (Gives w (Fm.pre k xs)) := by
  have o1 := Own.one w w.heap.size k 0 (Nat.le_refl _)
  have g1 := (Grew.refl w).alloc (.cells #[.int .i64 k, .int .i64 0] 68)
  have hl := lists_new (w.alloc (.cells #[.int .i64 k, .int .i64 0] 68)) 35 [.slice (some ⟨w.heap.size, 0, none⟩) 1 1, va] [[(k, 0)], xs] (by simp) (fun i hi => by
    match i, hi with
    | 0, _ => exact ⟨_, rfl, o1.nodes⟩
    | 1, _ => exact ⟨_, rfl, ha.grew g1⟩)
  obtain ⟨A, ca, rfl⟩ := nodes_slice ha
  simp only [List.length_cons, List.length_nil, World.size_alloc] at hl
  go_enter Tryz.func61, Tryz.ntmps61
  go_wp2_with fail
  refine (concat_c _ _ _ hl (by simp) (by simp; omega)).mono ?_
  rintro e w1 ⟨v1, rfl, ho1, hg1⟩
  go_wp2_with fail
  go_ret
  exact ⟨_, rfl, by simpa [Fm.pre] using ho1.base (by simp; omega), hg1.of_alloc.of_alloc⟩

theorem negation_c (va : Value) (xs : List Nd) (w : World) (ha : Nodes w va xs) (hn : xs.length ≤ 1099511627774) :
    Calls Tryz.prog 138 #[va] w (Gives w (Fm.neg xs)) := by
  go_enter Tryz.func138, Tryz.ntmps138
  go_wp2_with fail
  refine (falsum_c _).mono ?_
  rintro e w1 ⟨v1, rfl, ho1, hg1⟩
  go_wp2_with fail
  refine (join_c _ _ _ xs Fm.falsum _ (ha.grew hg1) ho1.nodes (by simp [Fm.falsum]; omega)).mono ?_
  rintro e w2 ⟨v2, rfl, ho2, hg2⟩
  go_wp2_with fail
  go_ret
  exact ⟨_, rfl, ho2.base hg1.size, hg1.trans hg2⟩
end Go.Proofs.YtnbnhapepcegpaaGreatDoor

/- The readers' first steps: take, need, l02Take, l02Need. -/
namespace Go.Proofs.YtnbnhapepcegpaaGreatDoor
open Go.RowKit

/-- Block g holds a reader: its text, its position, whether it is bad. -/
def Rdr (w : World) (g : Nat) (T : TypeId) (s : ByteArray) (st : Fm.St) : Prop := w.heap[g]? = some (.cells #[.string s, .int .i64 st.1, .bool st.2] T (0, 0))
theorem Rdr.text {w : World} {g T : Nat} {s : ByteArray} {st : Fm.St} (h : Rdr w g T s st) : w.cell? ⟨g, 0, none⟩ = some (.string s) := by rw [blk_cell h]; rfl
theorem Rdr.at_ {w : World} {g T : Nat} {s : ByteArray} {st : Fm.St} (h : Rdr w g T s st) : w.cell? ⟨g, 1, none⟩ = some (.int .i64 st.1) := by rw [blk_cell h]; rfl
theorem Rdr.bad {w : World} {g T : Nat} {s : ByteArray} {st : Fm.St} (h : Rdr w g T s st) : w.cell? ⟨g, 2, none⟩ = some (.bool st.2) := by rw [blk_cell h]; rfl
theorem Rdr.free {w : World} {g T : Nat} {s : ByteArray} {st : Fm.St} (h : Rdr w g T s st) (i : Nat) : w.frozen? ⟨g, i, none⟩ = false := blk_frozen h i
theorem Rdr.lt {w : World} {g T : Nat} {s : ByteArray} {st : Fm.St} (h : Rdr w g T s st) : g < w.heap.size := blk_lt h
theorem Rdr.grew {w w' : World} {g T : Nat} {s : ByteArray} {st : Fm.St} (h : Rdr w g T s st) (hg : Grew w w') : Rdr w' g T s st := (hg.block h.lt).trans h
theorem Rdr.move {w : World} {g T : Nat} {s : ByteArray} {st : Fm.St} (h : Rdr w g T s st) (n : Nat) : Rdr (w.setCell ⟨g, 1, none⟩ (.int .i64 n)) g T s (n, st.2) := blk_set h 1 _
theorem Rdr.spoil {w : World} {g T : Nat} {s : ByteArray} {st : Fm.St} (h : Rdr w g T s st) : Rdr (w.setCell ⟨g, 2, none⟩ (.bool true)) g T s (st.1, true) := blk_set h 2 _

/-- What 'take' leaves. -/
def Took (w : World) (g : Nat) (T : TypeId) (s : ByteArray) (st : Fm.St) (c : UInt8) (e : Ending) (w' : World) : Prop :=
  e = .returned (.bool (Fm.sees s.data.toList st c)) ∧ Rdr w' g T s (if Fm.sees s.data.toList st c then Fm.step st else st) ∧ Only g w w'

theorem sees_bad (s : List UInt8) (p : Nat) (c : UInt8) : Fm.sees s (p, true) c = false := rfl
theorem sees_end (s : ByteArray) (p : Nat) (c : UInt8) (h : s.size ≤ p) : Fm.sees s.data.toList (p, false) c = false := by
  have : s.data.toList[p]? = none := by rw [Array.getElem?_toList, Array.getElem?_eq_none]; exact h
  simp [Fm.sees, this]
theorem sees_in (s : ByteArray) (p : Nat) (c : UInt8) (h : p < s.size) : Fm.sees s.data.toList (p, false) c = (s[p] == c) := by
  have : s.data.toList[p]? = some s[p] := by rw [Array.getElem?_toList]; exact Array.getElem?_eq_getElem h
  simp [Fm.sees, this]
theorem byte_eq (a b : UInt8) : ((a.toNat : Int) == b.toNat) = (a == b) := by
  rw [Bool.eq_iff_iff]; simp only [beq_iff_eq, ← UInt8.toNat_inj]; omega
theorem byte_ne (a b : UInt8) : ((a.toNat : Int) != b.toNat) = !(a == b) := by
  rw [bne, byte_eq]

theorem Took.no {w w' : World} {g T : Nat} {s : ByteArray} {st : Fm.St} {c : UInt8} (h : Rdr w g T s st) (hs : Fm.sees s.data.toList st c = false) (hw : Grew w w') : Took w g T s st c (.returned (.bool false)) w' := by
  unfold Took; rw [hs]; exact ⟨rfl, h.grew hw, hw.only⟩
theorem Took.yes {w w' : World} {g T : Nat} {s : ByteArray} {p : Nat} {b : Bool} {c : UInt8} (h : Rdr w g T s (p, b)) (hs : Fm.sees s.data.toList (p, b) c = true) (hw : Grew w w') : Took w g T s (p, b) c (.returned (.bool true)) (w'.setCell ⟨g, 1, none⟩ (.int .i64 ((p : Int) + 1))) := by
  unfold Took; rw [hs]; exact ⟨rfl, (h.grew hw).move (p + 1), hw.only.setCell _⟩

theorem take_c (g T : Nat) (s : ByteArray) (st : Fm.St) (c : UInt8) (m : Int) (w : World) (h : Rdr w g T s st) (hs : s.size ≤ 1099511627776) (hat : st.1 ≤ s.size) (hm : m = (c.toNat : Int)) :
    Calls Tryz.prog 132 #[.pointer (some ⟨g, 0, none⟩), .int .u8 m] w (Took w g T s st c) := by
  subst hm
  have c0 := h.text
  have c1 := h.at_
  have c2 := h.bad
  have hf := h.free 1
  obtain ⟨p, b⟩ := st
  simp only at c0 c1 c2 hat
  by_cases hb : b = true
  · subst hb
    have HH := Lib.hid h
    clear h
    go_enter Tryz.func132, Tryz.ntmps132
    go_wp2_with fail
    go_quiet (fail)
    go_wp2_with fail
    go_ret
    exact Took.no HH.out (sees_bad _ _ _) ((Grew.refl _).drewN _)
  · have hb' : b = false := by simpa using hb
    subst hb'
    by_cases hlt : p < s.size
    · have hd : decide ((s.size : Int) ≤ (p : Int)) = false := by simp; omega
      have HH := Lib.hid h
      clear h hb
      go_enter Tryz.func132, Tryz.ntmps132
      go_wp2_with fail
      go_quiet (fail)
      go_wp2_with fail
      · have h1 : s.size ≤ p ∨ ((s[p].toNat : Int) != c.toNat) = true := by assumption
        go_ret
        exact Took.no HH.out (by rw [sees_in s p c hlt]; rcases h1 with h1 | h1; omega; rw [byte_ne] at h1; simpa using h1) ((Grew.refl _).drewN _)
      · have h1 : ¬ s.size ≤ p ∧ ((s[p].toNat : Int) != c.toNat) = false := by assumption
        go_ret
        exact Took.yes HH.out (by rw [sees_in s p c hlt]; have := h1.2; rw [byte_ne] at this; simpa using this) ((Grew.refl _).drewN _)
    · have hd : decide ((s.size : Int) ≤ (p : Int)) = true := by simp; omega
      have HH := Lib.hid h
      clear h hb
      go_enter Tryz.func132, Tryz.ntmps132
      go_wp2_with fail
      go_quiet (fail)
      go_wp2_with fail
      go_ret
      exact Took.no HH.out (sees_end _ _ _ (by omega)) ((Grew.refl _).drewN _)

theorem take_yes (g T : Nat) (s : ByteArray) (st : Fm.St) (c : UInt8) (m : Int) (w : World) (h : Rdr w g T s st) (hs : s.size ≤ 1099511627776) (hat : st.1 ≤ s.size) (hm : m = (c.toNat : Int)) (hsee : Fm.sees s.data.toList st c = true) :
    Calls Tryz.prog 132 #[.pointer (some ⟨g, 0, none⟩), .int .u8 m] w fun e w' => e = .returned (.bool true) ∧ Rdr w' g T s (Fm.step st) ∧ Only g w w' :=
  (take_c g T s st c m w h hs hat hm).mono fun e w' hh => by
    unfold Took at hh; rw [hsee] at hh; exact hh
theorem take_no (g T : Nat) (s : ByteArray) (st : Fm.St) (c : UInt8) (m : Int) (w : World) (h : Rdr w g T s st) (hs : s.size ≤ 1099511627776) (hat : st.1 ≤ s.size) (hm : m = (c.toNat : Int)) (hsee : Fm.sees s.data.toList st c = false) :
    Calls Tryz.prog 132 #[.pointer (some ⟨g, 0, none⟩), .int .u8 m] w fun e w' => e = .returned (.bool false) ∧ Rdr w' g T s st ∧ Only g w w' :=
  (take_c g T s st c m w h hs hat hm).mono fun e w' hh => by
    unfold Took at hh; rw [hsee] at hh; exact hh
theorem need_c (g T : Nat) (s : ByteArray) (st : Fm.St) (c : UInt8) (m : Int) (w : World) (h : Rdr w g T s st) (hs : s.size ≤ 1099511627776) (hat : st.1 ≤ s.size) (hm : m = (c.toNat : Int)) :
    Calls Tryz.prog 139 #[.pointer (some ⟨g, 0, none⟩), .int .u8 m] w fun e w' => e = .returned (.tuple #[]) ∧ Rdr w' g T s (Fm.need s.data.toList st c) ∧ Only g w w' := by
  subst hm
  by_cases hsee : Fm.sees s.data.toList st c = true
  · have hn : Fm.need s.data.toList st c = Fm.step st := by unfold Fm.need; rw [if_pos hsee]
    rw [hn]
    clear hn
    go_enter Tryz.func139, Tryz.ntmps139
    go_wp2_with fail
    refine (take_yes g T s st c _ _ h hs hat rfl hsee).mono ?_
    rintro e w1 ⟨rfl, h1, o1⟩
    go_wp2_with fail
    go_end0
    exact ⟨rfl, h1, o1⟩
  · have hsee' : Fm.sees s.data.toList st c = false := by simpa using hsee
    have hn : Fm.need s.data.toList st c = (st.1, true) := by unfold Fm.need; rw [if_neg hsee]
    rw [hn]
    clear hn hsee
    go_enter Tryz.func139, Tryz.ntmps139
    go_wp2_with fail
    refine (take_no g T s st c _ _ h hs hat rfl hsee').mono ?_
    rintro e w1 ⟨rfl, h1, o1⟩
    have c2 := h1.bad
    have hf := h1.free 2
    have HH := Lib.hid h1
    clear h1
    go_wp2_with fail
    go_end0
    exact ⟨rfl, HH.out.spoil, o1.setCell _⟩

end Go.Proofs.YtnbnhapepcegpaaGreatDoor

/- The program's reader: what its functions read is what the plain parser gives. -/
namespace Go.Proofs.YtnbnhapepcegpaaGreatDoor
open Go.RowKit
open Fm (Nd)

/-- The call returns the list r.1 in new memory, and the reader stands at r.2. -/
def Reads (w : World) (g : Nat) (T : TypeId) (s : ByteArray) (r : Fm.Res) (e : Ending) (w' : World) : Prop :=
  ∃ v, e = .returned v ∧ Own w' w.heap.size v r.1 ∧ Rdr w' g T s r.2 ∧ Only g w w'

theorem own_rdr_ne {w : World} {B g : Nat} {v : Value} {xs : List Nd} {T : TypeId} {s : ByteArray} {st : Fm.St} (h : Own w B v xs) (hr : Rdr w g T s st) (hne : 68 ≠ T) : v.ownBlock ≠ some g := own_ne h hr hne

theorem size_toList (s : ByteArray) : s.data.toList.length = s.size := by simp

/-- One 'join' in a loop of 'and' or 'or'. -/
theorem Reads.ok_len {s : ByteArray} {st : Fm.St} {r : Fm.Res} (h : Fm.Ok s.data.toList st r) (hs : s.size ≤ 1048576) : r.1.length ≤ 3145729 := by
  obtain ⟨h1, h2, h3⟩ := h
  rw [size_toList] at h2
  omega

/-- The contract of a function that reads, for a plain function sub and all states from which less than f bytes are left. -/
def Sub (F : FuncId) (T : TypeId) (s : ByteArray) (f : Nat) (sub : Fm.St → Fm.Res) : Prop :=
  ∀ (g : Nat) (st : Fm.St) (w : World), Rdr w g T s st → st.1 ≤ s.size → s.size - st.1 < f → Calls Tryz.prog F #[.pointer (some ⟨g, 0, none⟩)] w (Reads w g T s (sub st))

theorem and_c (T : TypeId) (hT : 68 ≠ T) (s : ByteArray) (f m : Nat) (sub : Fm.St → Fm.Res) (hs : s.size ≤ 1048576) (hm : s.size < m) (hok : ∀ st : Fm.St, st.1 ≤ s.data.toList.length → Fm.Ok s.data.toList st (sub st))
    (hsub : Sub 136 T s f sub) : Sub 134 T s f (fun st => Fm.loop s.data.toList 2 38 sub m (sub st).1 (sub st).2) := by
  intro g st w hR hat hfu
  have HS := Lib.hid hsub
  have HO := Lib.hid hok
  clear hsub hok
  have hsz := size_toList s
  have h0 : Fm.Ok s.data.toList st (sub st) := HO.out st (by rw [hsz]; exact hat)
  show Calls _ _ _ _ (Reads w g T s (Fm.loop s.data.toList 2 38 sub m (sub st).1 (sub st).2))
  obtain ⟨R, hR0⟩ : ∃ R, R = Fm.loop s.data.toList 2 38 sub m (sub st).1 (sub st).2 := ⟨_, rfl⟩
  rw [← hR0]
  have hend := Lib.hid hR0
  clear hR0
  have HZ := Lib.hid hsz
  clear hsz
  go_enter Tryz.func134, Tryz.ntmps134
  go_wp2_with fail
  refine (HS.out g st _ hR hat hfu).mono ?_
  rintro e w1 ⟨v1, rfl, ho1, hR1, hO1⟩
  generalize sub st = r1 at *
  obtain ⟨k1, k2, k3⟩ := h0
  rw [HZ.out] at k2
  go_wp2_with fail
  go_loopg [3] m (fun i v wr => ∃ (a : List Nd) (st' : Fm.St), Own wr w.heap.size v a ∧ Rdr wr g T s st' ∧ Only g w wr ∧ Hid (Fm.loop s.data.toList 2 38 sub i a st' = R) ∧ s.size - st'.1 < i ∧ st.1 ≤ st'.1 ∧ st'.1 ≤ s.size ∧ a.length ≤ 3 * st'.1 + 1)
  case atStart => exact ⟨r1.1, r1.2, ho1, hR1, hO1, hend.out.symm, by omega, by omega, by omega, by omega⟩
  case round =>
    obtain ⟨a, st', hown, hR', hO', hl, hi, hst, hst2, hlen⟩ := hrel
    have hne := own_rdr_ne hown hR' hT
    clear hend ho1 hR1 hO1 k1 k2 k3 hR
    obtain ⟨j, rfl⟩ : ∃ j, gk = j + 1 := ⟨gk - 1, by omega⟩
    by_cases hsee : Fm.sees s.data.toList st' 38 = true
    · have hlt := Fm.sees_lt hsee
      rw [HZ.out] at hlt
      have hl2 : Hid (Fm.loop s.data.toList 2 38 sub j (Fm.join 2 a (sub (Fm.step st')).1) (sub (Fm.step st')).2 = R) := by
        have := hl.out
        rw [Fm.loop, if_pos hsee] at this
        exact this
      obtain ⟨k1, k2, k3⟩ : Fm.Ok s.data.toList (Fm.step st') (sub (Fm.step st')) := HO.out (Fm.step st') (by rw [HZ.out]; exact hlt)
      rw [HZ.out] at k2
      have e1 : (Fm.step st').1 = st'.1 + 1 := rfl
      rw [e1] at k1 k3
      have hfu2 : s.size - (Fm.step st').1 < f := by rw [e1]; omega
      have hat2 : (Fm.step st').1 ≤ s.size := by rw [e1]; omega
      clear hl e1
      go_wp2_with fail
      refine (take_yes g T s st' 38 _ _ hR' (by omega) hst2 rfl hsee).mono ?_
      rintro e w2 ⟨rfl, hR2, hO2⟩
      clear hsee hR'
      generalize Fm.step st' = st2 at *
      go_wp2_with fail
      refine (HS.out g st2 _ hR2 hat2 hfu2).mono ?_
      rintro e w3 ⟨v3, rfl, ho3, hR3, hO3⟩
      generalize sub st2 = r3 at *
      go_wp2_with fail
      refine (join_c 2 _ _ a r3.1 _ ((hown.only hO2 hne).only hO3 hne).nodes ho3.nodes (by omega)).mono ?_
      rintro e w4 ⟨v4, rfl, ho4, hg4⟩
      go_wp2_with fail
      go_roundg j
      case measure => omega
      case rel => exact ⟨_, r3.2, ho4.base (by have := hO'.size; have := hO2.size; have := hO3.size; omega), hR3.grew hg4, ((hO'.trans hO2).trans hO3).grew hg4, hl2, by omega, by omega, by omega, by simp only [Fm.join, List.length_cons, List.length_append]; omega⟩
    · have hsee' : Fm.sees s.data.toList st' 38 = false := by simpa using hsee
      have hl2 : Hid (R = (a, st')) := by
        have := hl.out
        rw [Fm.loop, if_neg hsee] at this
        exact this.symm
      clear hsee hl
      go_wp2_with fail
      refine (take_no g T s st' 38 _ _ hR' (by omega) hst2 rfl hsee').mono ?_
      rintro e w2 ⟨rfl, hR2, hO2⟩
      go_wp2_with fail
      go_ret
      rw [hl2.out]
      exact ⟨_, rfl, hown.only hO2 hne, hR2, hO'.trans hO2⟩
theorem or_c (T : TypeId) (hT : 68 ≠ T) (s : ByteArray) (f m : Nat) (sub : Fm.St → Fm.Res) (hs : s.size ≤ 1048576) (hm : s.size < m) (hok : ∀ st : Fm.St, st.1 ≤ s.data.toList.length → Fm.Ok s.data.toList st (sub st))
    (hsub : Sub 134 T s f sub) : Sub 131 T s f (fun st => Fm.loop s.data.toList 3 124 sub m (sub st).1 (sub st).2) := by
  intro g st w hR hat hfu
  have HS := Lib.hid hsub
  have HO := Lib.hid hok
  clear hsub hok
  have hsz := size_toList s
  have h0 : Fm.Ok s.data.toList st (sub st) := HO.out st (by rw [hsz]; exact hat)
  show Calls _ _ _ _ (Reads w g T s (Fm.loop s.data.toList 3 124 sub m (sub st).1 (sub st).2))
  obtain ⟨R, hR0⟩ : ∃ R, R = Fm.loop s.data.toList 3 124 sub m (sub st).1 (sub st).2 := ⟨_, rfl⟩
  rw [← hR0]
  have hend := Lib.hid hR0
  clear hR0
  have HZ := Lib.hid hsz
  clear hsz
  go_enter Tryz.func131, Tryz.ntmps131
  go_wp2_with fail
  refine (HS.out g st _ hR hat hfu).mono ?_
  rintro e w1 ⟨v1, rfl, ho1, hR1, hO1⟩
  generalize sub st = r1 at *
  obtain ⟨k1, k2, k3⟩ := h0
  rw [HZ.out] at k2
  go_wp2_with fail
  go_loopg [3] m (fun i v wr => ∃ (a : List Nd) (st' : Fm.St), Own wr w.heap.size v a ∧ Rdr wr g T s st' ∧ Only g w wr ∧ Hid (Fm.loop s.data.toList 3 124 sub i a st' = R) ∧ s.size - st'.1 < i ∧ st.1 ≤ st'.1 ∧ st'.1 ≤ s.size ∧ a.length ≤ 3 * st'.1 + 1)
  case atStart => exact ⟨r1.1, r1.2, ho1, hR1, hO1, hend.out.symm, by omega, by omega, by omega, by omega⟩
  case round =>
    obtain ⟨a, st', hown, hR', hO', hl, hi, hst, hst2, hlen⟩ := hrel
    have hne := own_rdr_ne hown hR' hT
    clear hend ho1 hR1 hO1 k1 k2 k3 hR
    obtain ⟨j, rfl⟩ : ∃ j, gk = j + 1 := ⟨gk - 1, by omega⟩
    by_cases hsee : Fm.sees s.data.toList st' 124 = true
    · have hlt := Fm.sees_lt hsee
      rw [HZ.out] at hlt
      have hl2 : Hid (Fm.loop s.data.toList 3 124 sub j (Fm.join 3 a (sub (Fm.step st')).1) (sub (Fm.step st')).2 = R) := by
        have := hl.out
        rw [Fm.loop, if_pos hsee] at this
        exact this
      obtain ⟨k1, k2, k3⟩ : Fm.Ok s.data.toList (Fm.step st') (sub (Fm.step st')) := HO.out (Fm.step st') (by rw [HZ.out]; exact hlt)
      rw [HZ.out] at k2
      have e1 : (Fm.step st').1 = st'.1 + 1 := rfl
      rw [e1] at k1 k3
      have hfu2 : s.size - (Fm.step st').1 < f := by rw [e1]; omega
      have hat2 : (Fm.step st').1 ≤ s.size := by rw [e1]; omega
      clear hl e1
      go_wp2_with fail
      refine (take_yes g T s st' 124 _ _ hR' (by omega) hst2 rfl hsee).mono ?_
      rintro e w2 ⟨rfl, hR2, hO2⟩
      clear hsee hR'
      generalize Fm.step st' = st2 at *
      go_wp2_with fail
      refine (HS.out g st2 _ hR2 hat2 hfu2).mono ?_
      rintro e w3 ⟨v3, rfl, ho3, hR3, hO3⟩
      generalize sub st2 = r3 at *
      go_wp2_with fail
      refine (join_c 3 _ _ a r3.1 _ ((hown.only hO2 hne).only hO3 hne).nodes ho3.nodes (by omega)).mono ?_
      rintro e w4 ⟨v4, rfl, ho4, hg4⟩
      go_wp2_with fail
      go_roundg j
      case measure => omega
      case rel => exact ⟨_, r3.2, ho4.base (by have := hO'.size; have := hO2.size; have := hO3.size; omega), hR3.grew hg4, ((hO'.trans hO2).trans hO3).grew hg4, hl2, by omega, by omega, by omega, by simp only [Fm.join, List.length_cons, List.length_append]; omega⟩
    · have hsee' : Fm.sees s.data.toList st' 124 = false := by simpa using hsee
      have hl2 : Hid (R = (a, st')) := by
        have := hl.out
        rw [Fm.loop, if_neg hsee] at this
        exact this.symm
      clear hsee hl
      go_wp2_with fail
      refine (take_no g T s st' 124 _ _ hR' (by omega) hst2 rfl hsee').mono ?_
      rintro e w2 ⟨rfl, hR2, hO2⟩
      go_wp2_with fail
      go_ret
      rw [hl2.out]
      exact ⟨_, rfl, hown.only hO2 hne, hR2, hO'.trans hO2⟩

theorem imply_c (T : TypeId) (hT : 68 ≠ T) (s : ByteArray) (f m : Nat) (sub : Fm.St → Fm.Res) (hs : s.size ≤ 1048576) (hok : ∀ st : Fm.St, st.1 ≤ s.data.toList.length → Fm.Ok s.data.toList st (sub st))
    (hsub : Sub 131 T s f (Fm.orF s.data.toList m sub)) : ∀ (i : Nat) (g : Nat) (st : Fm.St) (w : World), Rdr w g T s st → st.1 ≤ s.size → s.size - st.1 < i → s.size - st.1 < f →
      Calls Tryz.prog 126 #[.pointer (some ⟨g, 0, none⟩)] w (Reads w g T s (Fm.impF s.data.toList m sub i st)) := by
  intro i
  induction i with
  | zero => intro g st w _ _ h; omega
  | succ i ih =>
    intro g st w hR hat hi hfu
    have HS := Lib.hid hsub
    have HI := Lib.hid ih
    clear hsub ih
    have hsz := size_toList s
    have h0 : Fm.Ok s.data.toList st (Fm.orF s.data.toList m sub st) := Fm.orF_ok hok st (by rw [hsz]; exact hat)
    have hy := @Fm.impF_yes s.data.toList m i sub st
    have hn := @Fm.impF_no s.data.toList m i sub st
    have hk := fun st h => Fm.impF_ok (m := m) hok i st h
    have HK := Lib.hid hk
    have HZ := Lib.hid hsz
    clear hsz hok hk
    have HC := fun g h1 => HS.out g st w h1 hat hfu
    have HD := Lib.hid HC
    clear HC HS
    generalize Fm.orF s.data.toList m sub st = r1 at *
    obtain ⟨k1, k2, k3⟩ := h0
    rw [HZ.out] at k2
    by_cases hsee : Fm.sees s.data.toList r1.2 62 = true
    · have hlt := Fm.sees_lt hsee
      rw [HZ.out] at hlt
      have e1 : (Fm.step r1.2).1 = r1.2.1 + 1 := rfl
      obtain ⟨q1, q2, q3⟩ := HK.out (Fm.step r1.2) (by rw [HZ.out, e1]; exact hlt)
      rw [HZ.out] at q2
      rw [e1] at q1 q3
      have hq := HI.out g (Fm.step r1.2)
      rw [e1] at hq
      have HQ := Lib.hid hq
      rw [hy hsee]
      clear hy hn HI hq HK e1
      go_enter Tryz.func126, Tryz.ntmps126
      go_wp2_with fail
      refine (HD.out g hR).mono ?_
      rintro e w1 ⟨v1, rfl, ho1, hR1, hO1⟩
      have hne := own_rdr_ne ho1 hR1 hT
      go_wp2_with fail
      refine (take_yes g T s r1.2 62 _ _ hR1 (by omega) (by omega) rfl hsee).mono ?_
      rintro e w2 ⟨rfl, hR2, hO2⟩
      go_wp2_with fail
      refine (HQ.out _ hR2 (by omega) (by omega) (by omega)).mono ?_
      rintro e w3 ⟨v3, rfl, ho3, hR3, hO3⟩
      generalize Fm.impF s.data.toList m sub i (Fm.step r1.2) = r3 at *
      go_wp2_with fail
      refine (join_c 4 _ _ r1.1 r3.1 _ ((ho1.only hO2 hne).only hO3 hne).nodes ho3.nodes (by omega)).mono ?_
      rintro e w4 ⟨v4, rfl, ho4, hg4⟩
      go_wp2_with fail
      go_ret
      exact ⟨_, rfl, ho4.base (by have := hO1.size; have := hO2.size; have := hO3.size; omega), hR3.grew hg4, ((hO1.trans hO2).trans hO3).grew hg4⟩
    · have hsee' : Fm.sees s.data.toList r1.2 62 = false := by simpa using hsee
      rw [hn hsee']
      clear hy hn HI HK hsee
      go_enter Tryz.func126, Tryz.ntmps126
      go_wp2_with fail
      refine (HD.out g hR).mono ?_
      rintro e w1 ⟨v1, rfl, ho1, hR1, hO1⟩
      have hne := own_rdr_ne ho1 hR1 hT
      go_wp2_with fail
      refine (take_no g T s r1.2 62 _ _ hR1 (by omega) (by omega) rfl hsee').mono ?_
      rintro e w2 ⟨rfl, hR2, hO2⟩
      go_wp2_with fail
      go_ret
      exact ⟨_, rfl, ho1.only hO2 hne, hR2, hO1.trans hO2⟩

end Go.Proofs.YtnbnhapepcegpaaGreatDoor

/- The program's reader: the two lowest levels. -/
namespace Go.Proofs.YtnbnhapepcegpaaGreatDoor
open Go.RowKit
open Fm (Nd)

/-- The range over the letters, at a block of the call's own. -/
def letters : ByteArray := ⟨#[112, 113, 114, 115, 116, 117]⟩
theorem only_iterAt {g k : Nat} {a b : World} (h : Only g a b) (hk : a.heap.size ≤ k) (s : ByteArray) (p : Nat) : Only g a (b.iterAt k s p) :=
  ⟨h.os, h.tape, h.output, by rw [Lib.iterAt_size]; exact h.size, fun i hi hne => (Lib.iterAt_other b k i s p (by omega)).trans (World.grownBy.block h i hi hne)⟩
theorem Rdr.iterAt {w : World} {g T k : Nat} {s : ByteArray} {st : Fm.St} (h : Rdr w g T s st) (hk : g ≠ k) (x : ByteArray) (p : Nat) : Rdr (w.iterAt k x p) g T s st := (Lib.iterAt_other w k g x p hk).trans h

theorem next_letter {P : Program} (w : World) (k i : Nat) (ty : TypeId) (hk : w.heap[k]? = some (.stringIter letters i)) (hi : i < 6) :
    (Instr.next (.pointer (some ⟨k, 0, none⟩)) true ty).run P w = .ok (.tuple #[.bool true, .int .i64 i, .int .i32 (112 + (i : Int))]) (w.iterAt k letters (i + 1)) := by
  have h6 : i = 0 ∨ i = 1 ∨ i = 2 ∨ i = 3 ∨ i = 4 ∨ i = 5 := by omega
  rcases h6 with rfl | rfl | rfl | rfl | rfl | rfl <;> exact Lib.run_next_ascii_at w k letters _ ty hk (by decide) (by decide)
theorem letter_byte {i : Nat} (hi : i < 6) : 112 + (i : Int) = ((UInt8.ofNat (112 + i)).toNat : Int) := by
  rw [UInt8.toNat_ofNat']; omega

theorem atom_c (T : TypeId) (hT : 68 ≠ T) (s : ByteArray) (f m : Nat) (hs : s.size ≤ 1048576)
    (himp : Sub 126 T s f (Fm.impF s.data.toList m (Fm.preF s.data.toList m f) m)) (g : Nat) (st : Fm.St) (w : World) (hR : Rdr w g T s st) (hat : st.1 ≤ s.size) (hfu : s.size - st.1 < f + 1)
    (h126 : Fm.sees s.data.toList st 126 = false) (h91 : Fm.sees s.data.toList st 91 = false) (h60 : Fm.sees s.data.toList st 60 = false) :
    Calls Tryz.prog 140 #[.pointer (some ⟨g, 0, none⟩)] w (Reads w g T s (Fm.preF s.data.toList m (f + 1) st)) := by
  have HI := Lib.hid himp
  have HZ := Lib.hid (size_toList s)
  clear himp
  by_cases h70 : Fm.sees s.data.toList st 70 = true
  · rw [Fm.preF_fls h70]
    go_enter Tryz.func140, Tryz.ntmps140
    go_wp2_with fail
    refine (take_yes g T s st 70 _ _ hR (by omega) hat rfl h70).mono ?_
    rintro e w1 ⟨rfl, hR1, hO1⟩
    go_wp2_with fail
    refine (falsum_c _).mono ?_
    rintro e w2 ⟨v2, rfl, ho2, hg2⟩
    go_wp2_with fail
    go_ret
    exact ⟨_, rfl, ho2.base hO1.size, hR1.grew hg2, hO1.grew hg2⟩
  have h70' : Fm.sees s.data.toList st 70 = false := by simpa using h70
  by_cases h84 : Fm.sees s.data.toList st 84 = true
  · rw [Fm.preF_tru h84]
    clear h70
    go_enter Tryz.func140, Tryz.ntmps140
    go_wp2_with fail
    refine (take_no g T s st 70 _ _ hR (by omega) hat rfl h70').mono ?_
    rintro e w1 ⟨rfl, hR1, hO1⟩
    go_wp2_with fail
    refine (take_yes g T s st 84 _ _ hR1 (by omega) hat rfl h84).mono ?_
    rintro e w2 ⟨rfl, hR2, hO2⟩
    go_wp2_with fail
    refine (truth_c _).mono ?_
    rintro e w3 ⟨v3, rfl, ho3, hg3⟩
    go_wp2_with fail
    go_ret
    exact ⟨_, rfl, ho3.base (Nat.le_trans hO1.size hO2.size), hR2.grew hg3, (hO1.trans hO2).grew hg3⟩
  have h84' : Fm.sees s.data.toList st 84 = false := by simpa using h84
  clear h70 h84
  by_cases h40 : Fm.sees s.data.toList st 40 = true
  · rw [Fm.preF_par h40]
    have hlt := Fm.sees_lt h40
    rw [HZ.out] at hlt
    have hk : Fm.Ok s.data.toList (Fm.step st) (Fm.impF s.data.toList m (Fm.preF s.data.toList m f) m (Fm.step st)) := Fm.impF_ok (fun st h => Fm.preF_ok f st h) m (Fm.step st) (by rw [HZ.out]; exact hlt)
    have e1 : (Fm.step st).1 = st.1 + 1 := rfl
    obtain ⟨k1, k2, k3⟩ := hk
    rw [HZ.out] at k2
    rw [e1] at k1 k3
    have hq := HI.out g (Fm.step st)
    rw [e1] at hq
    have HQ := Lib.hid hq
    clear hq e1 HI
    generalize Fm.impF s.data.toList m (Fm.preF s.data.toList m f) m (Fm.step st) = r at *
    go_enter Tryz.func140, Tryz.ntmps140
    go_wp2_with fail
    refine (take_no g T s st 70 _ _ hR (by omega) hat rfl h70').mono ?_
    rintro e w1 ⟨rfl, hR1, hO1⟩
    go_wp2_with fail
    refine (take_no g T s st 84 _ _ hR1 (by omega) hat rfl h84').mono ?_
    rintro e w2 ⟨rfl, hR2, hO2⟩
    go_wp2_with fail
    refine (take_yes g T s st 40 _ _ hR2 (by omega) hat rfl h40).mono ?_
    rintro e w3 ⟨rfl, hR3, hO3⟩
    go_wp2_with fail
    refine (HQ.out _ hR3 (by omega) (by omega)).mono ?_
    rintro e w4 ⟨v4, rfl, ho4, hR4, hO4⟩
    have hne := own_rdr_ne ho4 hR4 hT
    go_wp2_with fail
    refine (need_c g T s r.2 41 _ _ hR4 (by omega) (by omega) rfl).mono ?_
    rintro e w5 ⟨rfl, hR5, hO5⟩
    go_wp2_with fail
    go_ret
    exact ⟨_, rfl, (ho4.only hO5 hne).base (by have := hO1.size; have := hO2.size; have := hO3.size; omega), hR5, (((hO1.trans hO2).trans hO3).trans hO4).trans hO5⟩
  have h40' : Fm.sees s.data.toList st 40 = false := by simpa using h40
  clear h40 HI
  cases hl : Fm.letter s.data.toList st with
  | some v =>
    rw [Fm.preF_var hl]
    have hv := (Fm.letter_some hl).1
    have hvs := (Fm.letter_some hl).2
    have hno := fun i hi hne => @Fm.letter_ne s.data.toList st v i hl hi hne
    have HN := Lib.hid hno
    clear hno hl
    go_enter Tryz.func140, Tryz.ntmps140
    go_wp2_with fail
    refine (take_no g T s st 70 _ _ hR (by omega) hat rfl h70').mono ?_
    rintro e w1 ⟨rfl, hR1, hO1⟩
    go_wp2_with fail
    refine (take_no g T s st 84 _ _ hR1 (by omega) hat rfl h84').mono ?_
    rintro e w2 ⟨rfl, hR2, hO2⟩
    go_wp2_with fail
    refine (take_no g T s st 40 _ _ hR2 (by omega) hat rfl h40').mono ?_
    rintro e w3 ⟨rfl, hR3, hO3⟩
    go_wp2_with fail
    have hit := World.iter_heap w3 letters 0
    have hR4 : Rdr (w3.iter letters 0) g T s st := hR3.grew ((Grew.refl w3).alloc _)
    have hO4 : Only g w (w3.iter letters 0) := ((hO1.trans hO2).trans hO3).alloc _
    have hgk : g ≠ w3.heap.size := by have := hR3.lt; omega
    have hk : w.heap.size ≤ w3.heap.size := ((hO1.trans hO2).trans hO3).size
    have HW := Lib.hid hit
    clear hit hR3 hO3 hR2 hO2 hR1 hO1
    go_loopg [4, 5] 6 (fun n _ _ wr => ∃ i : Nat, n = 6 - i ∧ i ≤ v ∧ Rdr wr g T s st ∧ Only g w wr ∧ Hid (wr.heap[w3.heap.size]? = some (.stringIter letters i)))
    case atStart => exact ⟨0, rfl, Nat.zero_le _, hR4, hO4, HW.out⟩
    case round =>
      obtain ⟨i, rfl, hiv, hRr, hOr, HX⟩ := hrel
      have hnx := fun ty => next_letter (P := Tryz.prog) wr w3.heap.size i ty HX.out (by omega)
      have HY : Hid ((wr.iterAt w3.heap.size letters (i + 1)).heap[w3.heap.size]? = some (.stringIter letters (i + 1))) := Lib.hid (Lib.iterAt_heap wr w3.heap.size letters i (i + 1) HX.out)
      have hR5 := hRr.iterAt hgk letters (i + 1)
      have hO5 := only_iterAt hOr hk letters (i + 1)
      by_cases hiv2 : i = v
      · subst hiv2
        go_wp2_with fail
        refine (take_yes g T s st _ _ _ hR5 (by omega) hat (letter_byte (by omega)) hvs).mono ?_
        rintro e w4 ⟨rfl, hR6, hO6⟩
        go_wp2_with fail
        refine (variable_c _ _).mono ?_
        rintro e w5 ⟨v5, rfl, ho5, hg5⟩
        go_wp2_with fail
        go_ret
        exact ⟨_, rfl, ho5.base (hO5.trans hO6).size, hR6.grew hg5, (hO5.trans hO6).grew hg5⟩
      · have hs0 := HN.out i (by omega) hiv2
        go_wp2_with fail
        refine (take_no g T s st _ _ _ hR5 (by omega) hat (letter_byte (by omega)) hs0).mono ?_
        rintro e w4 ⟨rfl, hR6, hO6⟩
        have HV : Hid (w4.heap[w3.heap.size]? = some (.stringIter letters (i + 1))) := Lib.hid ((hO6.block (blk_lt HY.out) (Ne.symm hgk)).trans HY.out)
        go_wp2_with fail
        go_roundg (6 - (i + 1))
        case measure => omega
        case rel => exact ⟨i + 1, rfl, by omega, hR6, hO5.trans hO6, HV⟩
  | none =>
    rw [Fm.preF_bad h126 h91 h60 h70' h84' h40' hl]
    have hno := fun i hi => @Fm.letter_none s.data.toList st hl i hi
    have HN := Lib.hid hno
    clear hno hl
    go_enter Tryz.func140, Tryz.ntmps140
    go_wp2_with fail
    refine (take_no g T s st 70 _ _ hR (by omega) hat rfl h70').mono ?_
    rintro e w1 ⟨rfl, hR1, hO1⟩
    go_wp2_with fail
    refine (take_no g T s st 84 _ _ hR1 (by omega) hat rfl h84').mono ?_
    rintro e w2 ⟨rfl, hR2, hO2⟩
    go_wp2_with fail
    refine (take_no g T s st 40 _ _ hR2 (by omega) hat rfl h40').mono ?_
    rintro e w3 ⟨rfl, hR3, hO3⟩
    go_wp2_with fail
    have hit := World.iter_heap w3 letters 0
    have hR4 : Rdr (w3.iter letters 0) g T s st := hR3.grew ((Grew.refl w3).alloc _)
    have hO4 : Only g w (w3.iter letters 0) := ((hO1.trans hO2).trans hO3).alloc _
    have hgk : g ≠ w3.heap.size := by have := hR3.lt; omega
    have hk : w.heap.size ≤ w3.heap.size := ((hO1.trans hO2).trans hO3).size
    have HW := Lib.hid hit
    clear hit hR3 hO3 hR2 hO2 hR1 hO1
    go_loopg [4, 5] 7 (fun n _ _ wr => ∃ i : Nat, n = 7 - i ∧ i ≤ 6 ∧ Rdr wr g T s st ∧ Only g w wr ∧ Hid (wr.heap[w3.heap.size]? = some (.stringIter letters i)))
    case atStart => exact ⟨0, rfl, Nat.zero_le _, hR4, hO4, HW.out⟩
    case round =>
      obtain ⟨i, rfl, hiv, hRr, hOr, HX⟩ := hrel
      by_cases hi6 : i < 6
      · have hnx := fun ty => next_letter (P := Tryz.prog) wr w3.heap.size i ty HX.out hi6
        have HY : Hid ((wr.iterAt w3.heap.size letters (i + 1)).heap[w3.heap.size]? = some (.stringIter letters (i + 1))) := Lib.hid (Lib.iterAt_heap wr w3.heap.size letters i (i + 1) HX.out)
        have hR5 := hRr.iterAt hgk letters (i + 1)
        have hO5 := only_iterAt hOr hk letters (i + 1)
        have hs0 := HN.out i hi6
        go_wp2_with fail
        refine (take_no g T s st _ _ _ hR5 (by omega) hat (letter_byte hi6) hs0).mono ?_
        rintro e w4 ⟨rfl, hR6, hO6⟩
        have HV : Hid (w4.heap[w3.heap.size]? = some (.stringIter letters (i + 1))) := Lib.hid ((hO6.block (blk_lt HY.out) (Ne.symm hgk)).trans HY.out)
        go_wp2_with fail
        go_roundg (7 - (i + 1))
        case measure => omega
        case rel => exact ⟨i + 1, rfl, by omega, hR6, hO5.trans hO6, HV⟩
      · have hi66 : i = 6 := by omega
        subst hi66
        have hnx := fun ty => Lib.run_next_end_at (P := Tryz.prog) wr w3.heap.size letters 6 ty HX.out (by decide)
        have c2 := hRr.bad
        have hf := hRr.free 2
        go_wp2_with fail
        refine (falsum_c _).mono ?_
        rintro e w5 ⟨v5, rfl, ho5, hg5⟩
        go_wp2_with fail
        go_ret
        exact ⟨_, rfl, ho5.base (hOr.setCell _).size, hRr.spoil.grew hg5, (hOr.setCell _).grew hg5⟩

theorem prefix_sub (T : TypeId) (hT : 68 ≠ T) (s : ByteArray) (m : Nat) (hs : s.size ≤ 1048576) (hm : s.size < m) : ∀ f, f ≤ m → Sub 136 T s f (Fm.preF s.data.toList m f) := by
  intro f
  induction f with
  | zero => intro _ g st w _ _ h; omega
  | succ f ih =>
    intro hfm g st w hR hat hfu
    have hp := ih (by omega)
    have hok : ∀ st : Fm.St, st.1 ≤ s.data.toList.length → Fm.Ok s.data.toList st (Fm.preF s.data.toList m f st) := fun st h => Fm.preF_ok f st h
    have hand := and_c T hT s f m _ hs hm hok hp
    have hor := or_c T hT s f m _ hs hm (fun st h => Fm.andF_ok (m := m) hok st h) hand
    have himp := imply_c T hT s f m _ hs hok hor m
    have HA := Lib.hid (fun g st w h1 h2 h3 => atom_c T hT s f m hs (fun g st w h1 h2 h3 => himp g st w h1 h2 (by omega) h3) g st w h1 h2 h3)
    have HP := Lib.hid hp
    have HZ := Lib.hid (size_toList s)
    have HK := Lib.hid hok
    clear ih hp hand hor himp hok
    by_cases h126 : Fm.sees s.data.toList st 126 = true
    · rw [Fm.preF_not h126]
      have hlt := Fm.sees_lt h126
      rw [HZ.out] at hlt
      have e1 : (Fm.step st).1 = st.1 + 1 := rfl
      obtain ⟨k1, k2, k3⟩ := HK.out (Fm.step st) (by rw [HZ.out]; exact hlt)
      rw [HZ.out] at k2
      rw [e1] at k1 k3
      have hq := HP.out g (Fm.step st)
      rw [e1] at hq
      have HQ := Lib.hid hq
      clear hq e1 HA HK HP
      generalize Fm.preF s.data.toList m f (Fm.step st) = r at *
      go_enter Tryz.func136, Tryz.ntmps136
      go_wp2_with fail
      refine (take_yes g T s st 126 _ _ hR (by omega) hat rfl h126).mono ?_
      rintro e w1 ⟨rfl, hR1, hO1⟩
      go_wp2_with fail
      refine (HQ.out _ hR1 (by omega) (by omega)).mono ?_
      rintro e w2 ⟨v2, rfl, ho2, hR2, hO2⟩
      go_wp2_with fail
      refine (negation_c _ r.1 _ ho2.nodes (by omega)).mono ?_
      rintro e w3 ⟨v3, rfl, ho3, hg3⟩
      go_wp2_with fail
      go_ret
      exact ⟨_, rfl, ho3.base (hO1.trans hO2).size, hR2.grew hg3, (hO1.trans hO2).grew hg3⟩
    have h126' : Fm.sees s.data.toList st 126 = false := by simpa using h126
    clear h126
    by_cases h91 : Fm.sees s.data.toList st 91 = true
    · rw [Fm.preF_box h91]
      have hlt := Fm.sees_lt h91
      rw [HZ.out] at hlt
      have e1 : (Fm.step st).1 = st.1 + 1 := rfl
      have hn := Fm.need_pos (s := s.data.toList) (st := Fm.step st) (c := 93) (by rw [HZ.out, e1]; exact hlt)
      rw [HZ.out, e1] at hn
      obtain ⟨n1, n2⟩ := hn
      obtain ⟨k1, k2, k3⟩ := HK.out (Fm.need s.data.toList (Fm.step st) 93) (by rw [HZ.out]; exact n2)
      rw [HZ.out] at k2
      have HQ := Lib.hid (HP.out g (Fm.need s.data.toList (Fm.step st) 93))
      have hat1 : (Fm.step st).1 ≤ s.size := by rw [e1]; omega
      clear e1 HA HK HP
      go_enter Tryz.func136, Tryz.ntmps136
      go_wp2_with fail
      refine (take_no g T s st 126 _ _ hR (by omega) hat rfl h126').mono ?_
      rintro e w1 ⟨rfl, hR1, hO1⟩
      go_wp2_with fail
      refine (take_yes g T s st 91 _ _ hR1 (by omega) hat rfl h91).mono ?_
      rintro e w2 ⟨rfl, hR2, hO2⟩
      go_wp2_with fail
      refine (need_c g T s (Fm.step st) 93 _ _ hR2 (by omega) hat1 rfl).mono ?_
      rintro e w3 ⟨rfl, hR3, hO3⟩
      generalize Fm.need s.data.toList (Fm.step st) 93 = st2 at *
      generalize Fm.preF s.data.toList m f st2 = r at *
      go_wp2_with fail
      refine (HQ.out _ hR3 (by omega) (by omega)).mono ?_
      rintro e w4 ⟨v4, rfl, ho4, hR4, hO4⟩
      go_wp2_with fail
      refine (prefix_c 5 _ r.1 _ ho4.nodes (by omega)).mono ?_
      rintro e w5 ⟨v5, rfl, ho5, hg5⟩
      go_wp2_with fail
      go_ret
      exact ⟨_, rfl, ho5.base (((hO1.trans hO2).trans hO3).trans hO4).size, hR4.grew hg5, (((hO1.trans hO2).trans hO3).trans hO4).grew hg5⟩
    have h91' : Fm.sees s.data.toList st 91 = false := by simpa using h91
    clear h91
    by_cases h60 : Fm.sees s.data.toList st 60 = true
    · rw [Fm.preF_dia h60]
      have hlt := Fm.sees_lt h60
      rw [HZ.out] at hlt
      have e1 : (Fm.step st).1 = st.1 + 1 := rfl
      have hn := Fm.need_pos (s := s.data.toList) (st := Fm.step st) (c := 62) (by rw [HZ.out, e1]; exact hlt)
      rw [HZ.out, e1] at hn
      obtain ⟨n1, n2⟩ := hn
      obtain ⟨k1, k2, k3⟩ := HK.out (Fm.need s.data.toList (Fm.step st) 62) (by rw [HZ.out]; exact n2)
      rw [HZ.out] at k2
      have HQ := Lib.hid (HP.out g (Fm.need s.data.toList (Fm.step st) 62))
      have hat1 : (Fm.step st).1 ≤ s.size := by rw [e1]; omega
      clear e1 HA HK HP
      go_enter Tryz.func136, Tryz.ntmps136
      go_wp2_with fail
      refine (take_no g T s st 126 _ _ hR (by omega) hat rfl h126').mono ?_
      rintro e w1 ⟨rfl, hR1, hO1⟩
      go_wp2_with fail
      refine (take_no g T s st 91 _ _ hR1 (by omega) hat rfl h91').mono ?_
      rintro e w11 ⟨rfl, hR11, hO11⟩
      go_wp2_with fail
      refine (take_yes g T s st 60 _ _ hR11 (by omega) hat rfl h60).mono ?_
      rintro e w2 ⟨rfl, hR2, hO2⟩
      go_wp2_with fail
      refine (need_c g T s (Fm.step st) 62 _ _ hR2 (by omega) hat1 rfl).mono ?_
      rintro e w3 ⟨rfl, hR3, hO3⟩
      generalize Fm.need s.data.toList (Fm.step st) 62 = st2 at *
      generalize Fm.preF s.data.toList m f st2 = r at *
      go_wp2_with fail
      refine (HQ.out _ hR3 (by omega) (by omega)).mono ?_
      rintro e w4 ⟨v4, rfl, ho4, hR4, hO4⟩
      go_wp2_with fail
      refine (prefix_c 6 _ r.1 _ ho4.nodes (by omega)).mono ?_
      rintro e w5 ⟨v5, rfl, ho5, hg5⟩
      go_wp2_with fail
      go_ret
      exact ⟨_, rfl, ho5.base ((((hO1.trans hO11).trans hO2).trans hO3).trans hO4).size, hR4.grew hg5, ((((hO1.trans hO11).trans hO2).trans hO3).trans hO4).grew hg5⟩
    have h60' : Fm.sees s.data.toList st 60 = false := by simpa using h60
    clear h60 HK HP
    have HQ := Lib.hid (fun w hR => HA.out g st w hR hat hfu h126' h91' h60')
    clear HA
    generalize Fm.preF s.data.toList m (f + 1) st = r at *
    go_enter Tryz.func136, Tryz.ntmps136
    go_wp2_with fail
    refine (take_no g T s st 126 _ _ hR (by omega) hat rfl h126').mono ?_
    rintro e w1 ⟨rfl, hR1, hO1⟩
    go_wp2_with fail
    refine (take_no g T s st 91 _ _ hR1 (by omega) hat rfl h91').mono ?_
    rintro e w2 ⟨rfl, hR2, hO2⟩
    go_wp2_with fail
    refine (take_no g T s st 60 _ _ hR2 (by omega) hat rfl h60').mono ?_
    rintro e w3 ⟨rfl, hR3, hO3⟩
    go_wp2_with fail
    refine (HQ.out _ hR3).mono ?_
    rintro e w4 ⟨v4, rfl, ho4, hR4, hO4⟩
    go_wp2_with fail
    go_ret
    exact ⟨_, rfl, ho4.base ((hO1.trans hO2).trans hO3).size, hR4, ((hO1.trans hO2).trans hO3).trans hO4⟩

/-- The program's reader at a text's beginning. -/
theorem imply_top (T : TypeId) (hT : 68 ≠ T) (s : ByteArray) (m : Nat) (hs : s.size ≤ 1048576) (hm : s.size < m) (g : Nat) (w : World) (hR : Rdr w g T s (0, false)) :
    Calls Tryz.prog 126 #[.pointer (some ⟨g, 0, none⟩)] w (Reads w g T s (Fm.parse s.data.toList m)) := by
  have hok : ∀ st : Fm.St, st.1 ≤ s.data.toList.length → Fm.Ok s.data.toList st (Fm.preF s.data.toList m m st) := fun st h => Fm.preF_ok m st h
  have hand := and_c T hT s m m _ hs hm hok (prefix_sub T hT s m hs hm m (Nat.le_refl _))
  have hor := or_c T hT s m m _ hs hm (fun st h => Fm.andF_ok (m := m) hok st h) hand
  exact imply_c T hT s m m _ hs hok hor m g (0, false) w hR (by simp) (by simpa using hm) (by simpa using hm)
end Go.Proofs.YtnbnhapepcegpaaGreatDoor

/- ParseFormula, of the program and of the reference: both give what the plain parser gives. -/
namespace Go.Proofs.YtnbnhapepcegpaaGreatDoor
open Go.RowKit
open Fm (Nd)

/-- The call returns a new list and two numbers. -/
def Gives3 (w : World) (r : List Nd × Nat × Int) (e : Ending) (w' : World) : Prop := ∃ v, e = .returned (.tuple #[v, .int .i64 r.2.1, .int .i64 r.2.2]) ∧ Own w' w.heap.size v r.1 ∧ Grew w w' ∧ (r.1 = [] → v = .slice none 0 0)

theorem Rdr.new (w : World) (T : TypeId) (s : ByteArray) : Rdr (w.alloc (.cells #[.string s, .int .i64 0, .bool false] T)) w.heap.size T s (0, false) := blk_new w _

/-- A new list and one number: what l02Read returns. -/
def Gives2 (w : World) (xs : List Nd) (n : Int) (e : Ending) (w' : World) : Prop := ∃ v, e = .returned (.tuple #[v, .int .i64 n]) ∧ Own w' w.heap.size v xs ∧ Grew w w'

theorem parse_c (s : ByteArray) (w : World) (hs : s.size ≤ 140737488355328) :
    Calls Tryz.prog 120 #[.string s] w (Gives3 w (Fm.pf s)) := by
  by_cases hbig : 200 < s.size
  · have hp : Fm.pf s = ([], 0, 3) := by unfold Fm.pf; rw [if_pos hbig]
    rw [hp]
    clear hp
    go_enter Tryz.func120, Tryz.ntmps120
    go_wp2_with fail
    go_ret3
    exact ⟨_, rfl, Own.nil_ _ _, Grew.refl _, fun _ => rfl⟩
  obtain ⟨hr1, hr2⟩ := Fm.read_ok s
  have hxs : Hid ((Fm.read s).1 ≠ []) := Fm.read_ne s
  have HT := Lib.hid (fun g w hR => imply_top 151 (by decide) s Fm.fuel (by omega) (by unfold Fm.fuel; omega) g w hR)
  have hpf : Hid (Fm.pf s = if Fm.whole s = false then ([], (Fm.read s).2.1, 6) else if 40 < (Fm.read s).1.length then ([], 0, 3) else ((Fm.read s).1, 0, 0)) := by
    unfold Fm.pf Hid; rw [if_neg hbig]
  have hwh : Hid (Fm.whole s = (!(Fm.read s).2.2 && decide (s.size ≤ (Fm.read s).2.1))) := rfl
  generalize Fm.pf s = P at *
  generalize Fm.whole s = W at *
  have hrd : Fm.parse s.data.toList Fm.fuel = Fm.read s := rfl
  rw [hrd] at HT
  clear hrd
  generalize Fm.read s = r at *
  obtain ⟨xs, p, b⟩ := r
  simp only at hr1 hr2 hpf hwh hxs
  have hR0 := Rdr.new w 151 s
  have HR0 := Lib.hid hR0
  clear hR0
  by_cases hb : b = true
  · subst hb
    have hP : P = ([], p, 6) := by rw [hpf.out, hwh.out]; simp
    subst hP
    clear hpf hwh
    go_enter Tryz.func120, Tryz.ntmps120
    go_wp2_with fail
    refine (HT.out _ _ HR0.out).mono ?_
    rintro e w1 ⟨v1, rfl, ho1, hR1, hO1⟩
    have c1 := hR1.at_
    have c2 := hR1.bad
    have hG := hO1.grew_of ((Grew.refl w).alloc _) (Nat.le_refl _)
    clear hR1 hO1
    go_wp2_with fail
    go_quiet (fail)
    go_wp2_with fail
    go_ret3
    exact ⟨_, rfl, Own.nil_ _ _, hG.drewN _, fun _ => rfl⟩
  have hb' : b = false := by simpa using hb
  subst hb'
  clear hb
  by_cases hlt : p < s.size
  · have hP : P = ([], p, 6) := by
      rw [hpf.out, hwh.out]
      simp [hlt]
    subst hP
    clear hpf hwh
    go_enter Tryz.func120, Tryz.ntmps120
    go_wp2_with fail
    refine (HT.out _ _ HR0.out).mono ?_
    rintro e w1 ⟨v1, rfl, ho1, hR1, hO1⟩
    have c1 := hR1.at_
    have c2 := hR1.bad
    have hG := hO1.grew_of ((Grew.refl w).alloc _) (Nat.le_refl _)
    clear hR1 hO1
    go_wp2_with fail
    go_quiet (fail)
    go_wp2_with fail
    go_ret3
    exact ⟨_, rfl, Own.nil_ _ _, hG.drewN _, fun _ => rfl⟩
  by_cases h40 : 40 < xs.length
  · have hP : P = ([], 0, 3) := by
      rw [hpf.out, hwh.out]
      simp [Nat.le_of_not_lt hlt, h40]
    subst hP
    clear hpf hwh
    go_enter Tryz.func120, Tryz.ntmps120
    go_wp2_with fail
    refine (HT.out _ _ HR0.out).mono ?_
    rintro e w1 ⟨v1, rfl, ho1, hR1, hO1⟩
    have c1 := hR1.at_
    have c2 := hR1.bad
    have hG := hO1.grew_of ((Grew.refl w).alloc _) (Nat.le_refl _)
    obtain ⟨A, ca, rfl⟩ := nodes_slice ho1.nodes
    clear hR1 hO1
    go_wp2_with fail
    go_ret3
    exact ⟨_, rfl, Own.nil_ _ _, hG, fun _ => rfl⟩
  · have hP : P = (xs, 0, 0) := by
      rw [hpf.out, hwh.out]
      simp [Nat.le_of_not_lt hlt, h40]
    subst hP
    clear hpf hwh
    go_enter Tryz.func120, Tryz.ntmps120
    go_wp2_with fail
    refine (HT.out _ _ HR0.out).mono ?_
    rintro e w1 ⟨v1, rfl, ho1, hR1, hO1⟩
    have c1 := hR1.at_
    have c2 := hR1.bad
    have hG := hO1.grew_of ((Grew.refl w).alloc _) (Nat.le_refl _)
    obtain ⟨A, ca, rfl⟩ := nodes_slice ho1.nodes
    clear hR1 hO1
    go_wp2_with fail
    go_ret3
    exact ⟨_, rfl, ho1.base (by simp), hG, fun h => absurd h hxs.out⟩
end Go.Proofs.YtnbnhapepcegpaaGreatDoor

/- The reference's reader: l02Take, l02Need. -/
namespace Go.Proofs.YtnbnhapepcegpaaGreatDoor
open Go.RowKit

theorem l02Take_c (g T : Nat) (s : ByteArray) (st : Fm.St) (c : UInt8) (m : Int) (w : World) (h : Rdr w g T s st) (hs : s.size ≤ 1099511627776) (hat : st.1 ≤ s.size) (hm : m = (c.toNat : Int)) :
    Calls Tryz.prog 128 #[.pointer (some ⟨g, 0, none⟩), .int .u8 m] w (Took w g T s st c) := by
  subst hm
  have c0 := h.text
  have c1 := h.at_
  have c2 := h.bad
  have hf := h.free 1
  obtain ⟨p, b⟩ := st
  simp only at c0 c1 c2 hat
  by_cases hb : b = true
  · subst hb
    have HH := Lib.hid h
    clear h
    go_enter Tryz.func128, Tryz.ntmps128
    go_wp2_with fail
    go_quiet (fail)
    go_wp2_with fail
    go_ret
    exact Took.no HH.out (sees_bad _ _ _) ((Grew.refl _).drewN _)
  · have hb' : b = false := by simpa using hb
    subst hb'
    by_cases hlt : p < s.size
    · have hd : decide ((p : Int) < (s.size : Int)) = true := by simp; omega
      have HH := Lib.hid h
      clear h hb
      go_enter Tryz.func128, Tryz.ntmps128
      go_wp2_with fail
      go_quiet (fail)
      go_wp2_with fail
      · have h1 : ((s[p].toNat : Int) == c.toNat) = true := by assumption
        go_ret
        exact Took.yes HH.out (by rw [sees_in s p c hlt]; rw [byte_eq] at h1; simpa using h1) ((Grew.refl _).drewN _)
      · have h1 : ((s[p].toNat : Int) == c.toNat) = false := by assumption
        go_ret
        exact Took.no HH.out (by rw [sees_in s p c hlt]; rw [byte_eq] at h1; simpa using h1) ((Grew.refl _).drewN _)
    · have hd : decide ((p : Int) < (s.size : Int)) = false := by simp; omega
      have HH := Lib.hid h
      clear h hb
      go_enter Tryz.func128, Tryz.ntmps128
      go_wp2_with fail
      go_quiet (fail)
      go_wp2_with fail
      go_ret
      exact Took.no HH.out (sees_end _ _ _ (by omega)) ((Grew.refl _).drewN _)

theorem l02Take_yes (g T : Nat) (s : ByteArray) (st : Fm.St) (c : UInt8) (m : Int) (w : World) (h : Rdr w g T s st) (hs : s.size ≤ 1099511627776) (hat : st.1 ≤ s.size) (hm : m = (c.toNat : Int)) (hsee : Fm.sees s.data.toList st c = true) :
    Calls Tryz.prog 128 #[.pointer (some ⟨g, 0, none⟩), .int .u8 m] w fun e w' => e = .returned (.bool true) ∧ Rdr w' g T s (Fm.step st) ∧ Only g w w' :=
  (l02Take_c g T s st c m w h hs hat hm).mono fun e w' hh => by
    unfold Took at hh; rw [hsee] at hh; exact hh
theorem l02Take_no (g T : Nat) (s : ByteArray) (st : Fm.St) (c : UInt8) (m : Int) (w : World) (h : Rdr w g T s st) (hs : s.size ≤ 1099511627776) (hat : st.1 ≤ s.size) (hm : m = (c.toNat : Int)) (hsee : Fm.sees s.data.toList st c = false) :
    Calls Tryz.prog 128 #[.pointer (some ⟨g, 0, none⟩), .int .u8 m] w fun e w' => e = .returned (.bool false) ∧ Rdr w' g T s st ∧ Only g w w' :=
  (l02Take_c g T s st c m w h hs hat hm).mono fun e w' hh => by
    unfold Took at hh; rw [hsee] at hh; exact hh
theorem l02Need_c (g T : Nat) (s : ByteArray) (st : Fm.St) (c : UInt8) (m : Int) (w : World) (h : Rdr w g T s st) (hs : s.size ≤ 1099511627776) (hat : st.1 ≤ s.size) (hm : m = (c.toNat : Int)) :
    Calls Tryz.prog 137 #[.pointer (some ⟨g, 0, none⟩), .int .u8 m] w fun e w' => e = .returned (.tuple #[]) ∧ Rdr w' g T s (Fm.need s.data.toList st c) ∧ Only g w w' := by
  subst hm
  by_cases hsee : Fm.sees s.data.toList st c = true
  · have hn : Fm.need s.data.toList st c = Fm.step st := by unfold Fm.need; rw [if_pos hsee]
    rw [hn]
    clear hn
    go_enter Tryz.func137, Tryz.ntmps137
    go_wp2_with fail
    refine (l02Take_yes g T s st c _ _ h hs hat rfl hsee).mono ?_
    rintro e w1 ⟨rfl, h1, o1⟩
    go_wp2_with fail
    go_end0
    exact ⟨rfl, h1, o1⟩
  · have hsee' : Fm.sees s.data.toList st c = false := by simpa using hsee
    have hn : Fm.need s.data.toList st c = (st.1, true) := by unfold Fm.need; rw [if_neg hsee]
    rw [hn]
    clear hn hsee
    go_enter Tryz.func137, Tryz.ntmps137
    go_wp2_with fail
    refine (l02Take_no g T s st c _ _ h hs hat rfl hsee').mono ?_
    rintro e w1 ⟨rfl, h1, o1⟩
    have c2 := h1.bad
    have hf := h1.free 2
    have HH := Lib.hid h1
    clear h1
    go_wp2_with fail
    go_end0
    exact ⟨rfl, HH.out.spoil, o1.setCell _⟩
end Go.Proofs.YtnbnhapepcegpaaGreatDoor

/- The reference's reader: what l02Imply, l02Or, l02And read is what the plain parser gives. -/
namespace Go.Proofs.YtnbnhapepcegpaaGreatDoor
open Go.RowKit
open Fm (Nd)

theorem l02And_c (T : TypeId) (hT : 68 ≠ T) (s : ByteArray) (f m : Nat) (sub : Fm.St → Fm.Res) (hs : s.size ≤ 1048576) (hm : s.size < m) (hok : ∀ st : Fm.St, st.1 ≤ s.data.toList.length → Fm.Ok s.data.toList st (sub st))
    (hsub : Sub 135 T s f sub) : Sub 133 T s f (fun st => Fm.loop s.data.toList 2 38 sub m (sub st).1 (sub st).2) := by
  intro g st w hR hat hfu
  have HS := Lib.hid hsub
  have HO := Lib.hid hok
  clear hsub hok
  have hsz := size_toList s
  have h0 : Fm.Ok s.data.toList st (sub st) := HO.out st (by rw [hsz]; exact hat)
  show Calls _ _ _ _ (Reads w g T s (Fm.loop s.data.toList 2 38 sub m (sub st).1 (sub st).2))
  obtain ⟨R, hR0⟩ : ∃ R, R = Fm.loop s.data.toList 2 38 sub m (sub st).1 (sub st).2 := ⟨_, rfl⟩
  rw [← hR0]
  have hend := Lib.hid hR0
  clear hR0
  have HZ := Lib.hid hsz
  clear hsz
  go_enter Tryz.func133, Tryz.ntmps133
  go_wp2_with fail
  refine (HS.out g st _ hR hat hfu).mono ?_
  rintro e w1 ⟨v1, rfl, ho1, hR1, hO1⟩
  generalize sub st = r1 at *
  obtain ⟨k1, k2, k3⟩ := h0
  rw [HZ.out] at k2
  go_wp2_with fail
  go_loopg [3] m (fun i v wr => ∃ (a : List Nd) (st' : Fm.St), Own wr w.heap.size v a ∧ Rdr wr g T s st' ∧ Only g w wr ∧ Hid (Fm.loop s.data.toList 2 38 sub i a st' = R) ∧ s.size - st'.1 < i ∧ st.1 ≤ st'.1 ∧ st'.1 ≤ s.size ∧ a.length ≤ 3 * st'.1 + 1)
  case atStart => exact ⟨r1.1, r1.2, ho1, hR1, hO1, hend.out.symm, by omega, by omega, by omega, by omega⟩
  case round =>
    obtain ⟨a, st', hown, hR', hO', hl, hi, hst, hst2, hlen⟩ := hrel
    have hne := own_rdr_ne hown hR' hT
    clear hend ho1 hR1 hO1 k1 k2 k3 hR
    obtain ⟨j, rfl⟩ : ∃ j, gk = j + 1 := ⟨gk - 1, by omega⟩
    by_cases hsee : Fm.sees s.data.toList st' 38 = true
    · have hlt := Fm.sees_lt hsee
      rw [HZ.out] at hlt
      have hl2 : Hid (Fm.loop s.data.toList 2 38 sub j (Fm.join 2 a (sub (Fm.step st')).1) (sub (Fm.step st')).2 = R) := by
        have := hl.out
        rw [Fm.loop, if_pos hsee] at this
        exact this
      obtain ⟨k1, k2, k3⟩ : Fm.Ok s.data.toList (Fm.step st') (sub (Fm.step st')) := HO.out (Fm.step st') (by rw [HZ.out]; exact hlt)
      rw [HZ.out] at k2
      have e1 : (Fm.step st').1 = st'.1 + 1 := rfl
      rw [e1] at k1 k3
      have hfu2 : s.size - (Fm.step st').1 < f := by rw [e1]; omega
      have hat2 : (Fm.step st').1 ≤ s.size := by rw [e1]; omega
      clear hl e1
      go_wp2_with fail
      refine (l02Take_yes g T s st' 38 _ _ hR' (by omega) hst2 rfl hsee).mono ?_
      rintro e w2 ⟨rfl, hR2, hO2⟩
      clear hsee hR'
      generalize Fm.step st' = st2 at *
      go_wp2_with fail
      refine (HS.out g st2 _ hR2 hat2 hfu2).mono ?_
      rintro e w3 ⟨v3, rfl, ho3, hR3, hO3⟩
      generalize sub st2 = r3 at *
      go_wp2_with fail
      refine (l02Pair_c 2 _ _ a r3.1 _ ((hown.only hO2 hne).only hO3 hne).nodes ho3.nodes (by omega)).mono ?_
      rintro e w4 ⟨v4, rfl, ho4, hg4⟩
      go_wp2_with fail
      go_roundg j
      case measure => omega
      case rel => exact ⟨_, r3.2, ho4.base (by have := hO'.size; have := hO2.size; have := hO3.size; omega), hR3.grew hg4, ((hO'.trans hO2).trans hO3).grew hg4, hl2, by omega, by omega, by omega, by simp only [Fm.join, List.length_cons, List.length_append]; omega⟩
    · have hsee' : Fm.sees s.data.toList st' 38 = false := by simpa using hsee
      have hl2 : Hid (R = (a, st')) := by
        have := hl.out
        rw [Fm.loop, if_neg hsee] at this
        exact this.symm
      clear hsee hl
      go_wp2_with fail
      refine (l02Take_no g T s st' 38 _ _ hR' (by omega) hst2 rfl hsee').mono ?_
      rintro e w2 ⟨rfl, hR2, hO2⟩
      go_wp2_with fail
      go_ret
      rw [hl2.out]
      exact ⟨_, rfl, hown.only hO2 hne, hR2, hO'.trans hO2⟩
theorem l02Or_c (T : TypeId) (hT : 68 ≠ T) (s : ByteArray) (f m : Nat) (sub : Fm.St → Fm.Res) (hs : s.size ≤ 1048576) (hm : s.size < m) (hok : ∀ st : Fm.St, st.1 ≤ s.data.toList.length → Fm.Ok s.data.toList st (sub st))
    (hsub : Sub 133 T s f sub) : Sub 127 T s f (fun st => Fm.loop s.data.toList 3 124 sub m (sub st).1 (sub st).2) := by
  intro g st w hR hat hfu
  have HS := Lib.hid hsub
  have HO := Lib.hid hok
  clear hsub hok
  have hsz := size_toList s
  have h0 : Fm.Ok s.data.toList st (sub st) := HO.out st (by rw [hsz]; exact hat)
  show Calls _ _ _ _ (Reads w g T s (Fm.loop s.data.toList 3 124 sub m (sub st).1 (sub st).2))
  obtain ⟨R, hR0⟩ : ∃ R, R = Fm.loop s.data.toList 3 124 sub m (sub st).1 (sub st).2 := ⟨_, rfl⟩
  rw [← hR0]
  have hend := Lib.hid hR0
  clear hR0
  have HZ := Lib.hid hsz
  clear hsz
  go_enter Tryz.func127, Tryz.ntmps127
  go_wp2_with fail
  refine (HS.out g st _ hR hat hfu).mono ?_
  rintro e w1 ⟨v1, rfl, ho1, hR1, hO1⟩
  generalize sub st = r1 at *
  obtain ⟨k1, k2, k3⟩ := h0
  rw [HZ.out] at k2
  go_wp2_with fail
  go_loopg [3] m (fun i v wr => ∃ (a : List Nd) (st' : Fm.St), Own wr w.heap.size v a ∧ Rdr wr g T s st' ∧ Only g w wr ∧ Hid (Fm.loop s.data.toList 3 124 sub i a st' = R) ∧ s.size - st'.1 < i ∧ st.1 ≤ st'.1 ∧ st'.1 ≤ s.size ∧ a.length ≤ 3 * st'.1 + 1)
  case atStart => exact ⟨r1.1, r1.2, ho1, hR1, hO1, hend.out.symm, by omega, by omega, by omega, by omega⟩
  case round =>
    obtain ⟨a, st', hown, hR', hO', hl, hi, hst, hst2, hlen⟩ := hrel
    have hne := own_rdr_ne hown hR' hT
    clear hend ho1 hR1 hO1 k1 k2 k3 hR
    obtain ⟨j, rfl⟩ : ∃ j, gk = j + 1 := ⟨gk - 1, by omega⟩
    by_cases hsee : Fm.sees s.data.toList st' 124 = true
    · have hlt := Fm.sees_lt hsee
      rw [HZ.out] at hlt
      have hl2 : Hid (Fm.loop s.data.toList 3 124 sub j (Fm.join 3 a (sub (Fm.step st')).1) (sub (Fm.step st')).2 = R) := by
        have := hl.out
        rw [Fm.loop, if_pos hsee] at this
        exact this
      obtain ⟨k1, k2, k3⟩ : Fm.Ok s.data.toList (Fm.step st') (sub (Fm.step st')) := HO.out (Fm.step st') (by rw [HZ.out]; exact hlt)
      rw [HZ.out] at k2
      have e1 : (Fm.step st').1 = st'.1 + 1 := rfl
      rw [e1] at k1 k3
      have hfu2 : s.size - (Fm.step st').1 < f := by rw [e1]; omega
      have hat2 : (Fm.step st').1 ≤ s.size := by rw [e1]; omega
      clear hl e1
      go_wp2_with fail
      refine (l02Take_yes g T s st' 124 _ _ hR' (by omega) hst2 rfl hsee).mono ?_
      rintro e w2 ⟨rfl, hR2, hO2⟩
      clear hsee hR'
      generalize Fm.step st' = st2 at *
      go_wp2_with fail
      refine (HS.out g st2 _ hR2 hat2 hfu2).mono ?_
      rintro e w3 ⟨v3, rfl, ho3, hR3, hO3⟩
      generalize sub st2 = r3 at *
      go_wp2_with fail
      refine (l02Pair_c 3 _ _ a r3.1 _ ((hown.only hO2 hne).only hO3 hne).nodes ho3.nodes (by omega)).mono ?_
      rintro e w4 ⟨v4, rfl, ho4, hg4⟩
      go_wp2_with fail
      go_roundg j
      case measure => omega
      case rel => exact ⟨_, r3.2, ho4.base (by have := hO'.size; have := hO2.size; have := hO3.size; omega), hR3.grew hg4, ((hO'.trans hO2).trans hO3).grew hg4, hl2, by omega, by omega, by omega, by simp only [Fm.join, List.length_cons, List.length_append]; omega⟩
    · have hsee' : Fm.sees s.data.toList st' 124 = false := by simpa using hsee
      have hl2 : Hid (R = (a, st')) := by
        have := hl.out
        rw [Fm.loop, if_neg hsee] at this
        exact this.symm
      clear hsee hl
      go_wp2_with fail
      refine (l02Take_no g T s st' 124 _ _ hR' (by omega) hst2 rfl hsee').mono ?_
      rintro e w2 ⟨rfl, hR2, hO2⟩
      go_wp2_with fail
      go_ret
      rw [hl2.out]
      exact ⟨_, rfl, hown.only hO2 hne, hR2, hO'.trans hO2⟩

theorem l02Imply_c (T : TypeId) (hT : 68 ≠ T) (s : ByteArray) (f m : Nat) (sub : Fm.St → Fm.Res) (hs : s.size ≤ 1048576) (hok : ∀ st : Fm.St, st.1 ≤ s.data.toList.length → Fm.Ok s.data.toList st (sub st))
    (hsub : Sub 127 T s f (Fm.orF s.data.toList m sub)) : ∀ (i : Nat) (g : Nat) (st : Fm.St) (w : World), Rdr w g T s st → st.1 ≤ s.size → s.size - st.1 < i → s.size - st.1 < f →
      Calls Tryz.prog 122 #[.pointer (some ⟨g, 0, none⟩)] w (Reads w g T s (Fm.impF s.data.toList m sub i st)) := by
  intro i
  induction i with
  | zero => intro g st w _ _ h; omega
  | succ i ih =>
    intro g st w hR hat hi hfu
    have HS := Lib.hid hsub
    have HI := Lib.hid ih
    clear hsub ih
    have hsz := size_toList s
    have h0 : Fm.Ok s.data.toList st (Fm.orF s.data.toList m sub st) := Fm.orF_ok hok st (by rw [hsz]; exact hat)
    have hy := @Fm.impF_yes s.data.toList m i sub st
    have hn := @Fm.impF_no s.data.toList m i sub st
    have hk := fun st h => Fm.impF_ok (m := m) hok i st h
    have HK := Lib.hid hk
    have HZ := Lib.hid hsz
    clear hsz hok hk
    have HC := fun g h1 => HS.out g st w h1 hat hfu
    have HD := Lib.hid HC
    clear HC HS
    generalize Fm.orF s.data.toList m sub st = r1 at *
    obtain ⟨k1, k2, k3⟩ := h0
    rw [HZ.out] at k2
    by_cases hsee : Fm.sees s.data.toList r1.2 62 = true
    · have hlt := Fm.sees_lt hsee
      rw [HZ.out] at hlt
      have e1 : (Fm.step r1.2).1 = r1.2.1 + 1 := rfl
      obtain ⟨q1, q2, q3⟩ := HK.out (Fm.step r1.2) (by rw [HZ.out, e1]; exact hlt)
      rw [HZ.out] at q2
      rw [e1] at q1 q3
      have hq := HI.out g (Fm.step r1.2)
      rw [e1] at hq
      have HQ := Lib.hid hq
      rw [hy hsee]
      clear hy hn HI hq HK e1
      go_enter Tryz.func122, Tryz.ntmps122
      go_wp2_with fail
      refine (HD.out g hR).mono ?_
      rintro e w1 ⟨v1, rfl, ho1, hR1, hO1⟩
      have hne := own_rdr_ne ho1 hR1 hT
      go_wp2_with fail
      refine (l02Take_yes g T s r1.2 62 _ _ hR1 (by omega) (by omega) rfl hsee).mono ?_
      rintro e w2 ⟨rfl, hR2, hO2⟩
      go_wp2_with fail
      refine (HQ.out _ hR2 (by omega) (by omega) (by omega)).mono ?_
      rintro e w3 ⟨v3, rfl, ho3, hR3, hO3⟩
      generalize Fm.impF s.data.toList m sub i (Fm.step r1.2) = r3 at *
      go_wp2_with fail
      refine (l02Pair_c 4 _ _ r1.1 r3.1 _ ((ho1.only hO2 hne).only hO3 hne).nodes ho3.nodes (by omega)).mono ?_
      rintro e w4 ⟨v4, rfl, ho4, hg4⟩
      go_wp2_with fail
      go_ret
      exact ⟨_, rfl, ho4.base (by have := hO1.size; have := hO2.size; have := hO3.size; omega), hR3.grew hg4, ((hO1.trans hO2).trans hO3).grew hg4⟩
    · have hsee' : Fm.sees s.data.toList r1.2 62 = false := by simpa using hsee
      rw [hn hsee']
      clear hy hn HI HK hsee
      go_enter Tryz.func122, Tryz.ntmps122
      go_wp2_with fail
      refine (HD.out g hR).mono ?_
      rintro e w1 ⟨v1, rfl, ho1, hR1, hO1⟩
      have hne := own_rdr_ne ho1 hR1 hT
      go_wp2_with fail
      refine (l02Take_no g T s r1.2 62 _ _ hR1 (by omega) (by omega) rfl hsee').mono ?_
      rintro e w2 ⟨rfl, hR2, hO2⟩
      go_wp2_with fail
      go_ret
      exact ⟨_, rfl, ho1.only hO2 hne, hR2, hO1.trans hO2⟩

end Go.Proofs.YtnbnhapepcegpaaGreatDoor

/- The reference's reader: l02Prefix and l02Imply. -/
namespace Go.Proofs.YtnbnhapepcegpaaGreatDoor
open Go.RowKit
open Fm (Nd)

theorem index_letter (w : World) (i : Nat) (hi : i < 6) :
    (Instr.index 9 (.string ⟨#[112, 113, 114, 115, 116, 117]⟩) (.int .i64 i)).run Tryz.prog w = .ok (.int .u8 (112 + (i : Int))) w := by
  have h6 : i = 0 ∨ i = 1 ∨ i = 2 ∨ i = 3 ∨ i = 4 ∨ i = 5 := by omega
  rcases h6 with rfl | rfl | rfl | rfl | rfl | rfl <;> (simp [Instr.index, run_underlying Tryz.underlying9, go_sem]; rfl)
theorem letter_byte2 {i : Nat} (hi : i < 6) : 112 + (i : Int) = ((UInt8.ofNat (112 + i)).toNat : Int) := by
  rw [UInt8.toNat_ofNat']; omega

set_option maxHeartbeats 1000000 in
theorem l02Prefix_step (T : TypeId) (hT : 68 ≠ T) (s : ByteArray) (f m : Nat) (hs : s.size ≤ 1048576)
    (himp : Sub 122 T s f (Fm.impF s.data.toList m (Fm.preF s.data.toList m f) m)) (hp : Sub 135 T s f (Fm.preF s.data.toList m f))
    (g : Nat) (st : Fm.St) (w : World) (hR : Rdr w g T s st) (hat : st.1 ≤ s.size) (hfu : s.size - st.1 < f + 1) :
    Calls Tryz.prog 135 #[.pointer (some ⟨g, 0, none⟩)] w (Reads w g T s (Fm.preF s.data.toList m (f + 1) st)) := by
  have HI := Lib.hid himp
  have HP := Lib.hid hp
  have HZ := Lib.hid (size_toList s)
  clear himp hp
  cases hl : Fm.letter s.data.toList st with
  | some v =>
    rw [Fm.preF_var hl]
    have hv := (Fm.letter_some hl).1
    have hvs := (Fm.letter_some hl).2
    have HN := Lib.hid (fun i hi hne => @Fm.letter_ne s.data.toList st v i hl hi hne)
    clear hl HI HP
    go_enter Tryz.func135, Tryz.ntmps135
    go_wp2_with fail
    go_loopg [4] 6 (fun n x wr => ∃ i : Nat, n = 6 - i ∧ i ≤ v ∧ x = .int .i64 i ∧ Rdr wr g T s st ∧ Only g w wr)
    case atStart => exact ⟨0, rfl, Nat.zero_le _, rfl, hR, Only.refl _ _⟩
    case round =>
      obtain ⟨i, rfl, hiv, rfl, hRr, hOr⟩ := hrel
      have hix := fun w => index_letter w i (by omega)
      by_cases hiv2 : i = v
      · subst hiv2
        go_wp2_with fail
        refine (l02Take_yes g T s st _ _ _ hRr (by omega) hat (letter_byte2 (by omega)) hvs).mono ?_
        rintro e w4 ⟨rfl, hR6, hO6⟩
        go_wp2_with fail
        refine (l02Var_c _ _).mono ?_
        rintro e w5 ⟨v5, rfl, ho5, hg5⟩
        go_wp2_with fail
        go_ret
        exact ⟨_, rfl, ho5.base (hOr.trans hO6).size, hR6.grew hg5, (hOr.trans hO6).grew hg5⟩
      · have hs0 := HN.out i (by omega) hiv2
        go_wp2_with fail
        refine (l02Take_no g T s st _ _ _ hRr (by omega) hat (letter_byte2 (by omega)) hs0).mono ?_
        rintro e w4 ⟨rfl, hR6, hO6⟩
        go_wp2_with fail
        go_roundg (6 - (i + 1))
        case measure => omega
        case rel => exact ⟨i + 1, rfl, by omega, by go_num, hR6, hOr.trans hO6⟩
  | none =>
    have HN := Lib.hid (fun i hi => @Fm.letter_none s.data.toList st hl i hi)
    have HL := Lib.hid hl
    clear hl
    obtain ⟨R, hR0⟩ : ∃ R, R = Fm.preF s.data.toList m (f + 1) st := ⟨_, rfl⟩
    rw [← hR0]
    have HE := Lib.hid hR0
    clear hR0
    go_enter Tryz.func135, Tryz.ntmps135
    go_wp2_with fail
    go_loopg [4] 7 (fun n x wr => ∃ i : Nat, n = 7 - i ∧ i ≤ 6 ∧ x = .int .i64 i ∧ Rdr wr g T s st ∧ Only g w wr)
    case atStart => exact ⟨0, rfl, Nat.zero_le _, rfl, hR, Only.refl _ _⟩
    case round =>
      obtain ⟨i, rfl, hiv, rfl, hRr, hOr⟩ := hrel
      clear hR
      by_cases hi6 : i < 6
      · have hix := fun w => index_letter w i hi6
        have hs0 := HN.out i hi6
        go_wp2_with fail
        refine (l02Take_no g T s st _ _ _ hRr (by omega) hat (letter_byte2 hi6) hs0).mono ?_
        rintro e w4 ⟨rfl, hR6, hO6⟩
        go_wp2_with fail
        go_roundg (7 - (i + 1))
        case measure => omega
        case rel => exact ⟨i + 1, rfl, by omega, by go_num, hR6, hOr.trans hO6⟩
      · have hi66 : i = 6 := by omega
        subst hi66
        clear HN hi6 hiv
        go_wp2_with fail
        by_cases h70 : Fm.sees s.data.toList st 70 = true
        · have hE := HE.out
          rw [Fm.preF_fls h70] at hE
          subst hE
          refine (l02Take_yes g T s st 70 _ _ hRr (by omega) hat rfl h70).mono ?_
          rintro e w101 ⟨rfl, hR101, hO101⟩
          go_wp2_with fail
          refine (l02False_c _).mono ?_
          rintro e wz ⟨vz, rfl, hoz, hgz⟩
          go_wp2_with fail
          go_ret
          exact ⟨_, rfl, hoz.base ((hOr).trans hO101).size, hR101.grew hgz, ((hOr).trans hO101).grew hgz⟩
        have h70' : Fm.sees s.data.toList st 70 = false := by simpa using h70
        clear h70
        refine (l02Take_no g T s st 70 _ _ hRr (by omega) hat rfl h70').mono ?_
        rintro e w1 ⟨rfl, hR1, hO1⟩
        go_wp2_with fail
        by_cases h84 : Fm.sees s.data.toList st 84 = true
        · have hE := HE.out
          rw [Fm.preF_tru h84] at hE
          subst hE
          refine (l02Take_yes g T s st 84 _ _ hR1 (by omega) hat rfl h84).mono ?_
          rintro e w102 ⟨rfl, hR102, hO102⟩
          go_wp2_with fail
          refine (l02True_c _).mono ?_
          rintro e wz ⟨vz, rfl, hoz, hgz⟩
          go_wp2_with fail
          go_ret
          exact ⟨_, rfl, hoz.base (((hOr).trans hO1).trans hO102).size, hR102.grew hgz, (((hOr).trans hO1).trans hO102).grew hgz⟩
        have h84' : Fm.sees s.data.toList st 84 = false := by simpa using h84
        clear h84
        refine (l02Take_no g T s st 84 _ _ hR1 (by omega) hat rfl h84').mono ?_
        rintro e w2 ⟨rfl, hR2, hO2⟩
        go_wp2_with fail
        by_cases h126 : Fm.sees s.data.toList st 126 = true
        · have hE := HE.out
          rw [Fm.preF_not h126] at hE
          subst hE
          have hlt := Fm.sees_lt h126
          rw [HZ.out] at hlt
          have e1 : (Fm.step st).1 = st.1 + 1 := rfl
          have hk : Fm.Ok s.data.toList (Fm.step st) (Fm.preF s.data.toList m f (Fm.step st)) := Fm.preF_ok f (Fm.step st) (by rw [HZ.out]; exact hlt)
          obtain ⟨k1, k2, k3⟩ := hk
          rw [HZ.out] at k2
          rw [e1] at k1 k3
          have hq := HP.out g (Fm.step st)
          rw [e1] at hq
          have HQ := Lib.hid hq
          clear hq e1 HI HP
          generalize Fm.preF s.data.toList m f (Fm.step st) = r at *
          refine (l02Take_yes g T s st 126 _ _ hR2 (by omega) hat rfl h126).mono ?_
          rintro e w103 ⟨rfl, hR103, hO103⟩
          go_wp2_with fail
          refine (HQ.out _ hR103 (by omega) (by omega)).mono ?_
          rintro e wx ⟨vx, rfl, hox, hRx, hOx⟩
          go_wp2_with fail
          refine (l02Not_c _ r.1 _ hox.nodes (by omega)).mono ?_
          rintro e wz ⟨vz, rfl, hoz, hgz⟩
          go_wp2_with fail
          go_ret
          exact ⟨_, rfl, hoz.base (((((hOr).trans hO1).trans hO2).trans hO103).trans hOx).size, hRx.grew hgz, (((((hOr).trans hO1).trans hO2).trans hO103).trans hOx).grew hgz⟩
        have h126' : Fm.sees s.data.toList st 126 = false := by simpa using h126
        clear h126
        refine (l02Take_no g T s st 126 _ _ hR2 (by omega) hat rfl h126').mono ?_
        rintro e w3 ⟨rfl, hR3, hO3⟩
        go_wp2_with fail
        by_cases h91 : Fm.sees s.data.toList st 91 = true
        · have hE := HE.out
          rw [Fm.preF_box h91] at hE
          subst hE
          have hlt := Fm.sees_lt h91
          rw [HZ.out] at hlt
          have e1 : (Fm.step st).1 = st.1 + 1 := rfl
          have hn := Fm.need_pos (s := s.data.toList) (st := Fm.step st) (c := 93) (by rw [HZ.out, e1]; exact hlt)
          rw [HZ.out, e1] at hn
          obtain ⟨n1, n2⟩ := hn
          have hk : Fm.Ok s.data.toList (Fm.need s.data.toList (Fm.step st) 93) (Fm.preF s.data.toList m f (Fm.need s.data.toList (Fm.step st) 93)) := Fm.preF_ok f _ (by rw [HZ.out]; exact n2)
          obtain ⟨k1, k2, k3⟩ := hk
          rw [HZ.out] at k2
          have HQ := Lib.hid (HP.out g (Fm.need s.data.toList (Fm.step st) 93))
          have hat1 : (Fm.step st).1 ≤ s.size := by rw [e1]; omega
          clear e1 HI HP
          refine (l02Take_yes g T s st 91 _ _ hR3 (by omega) hat rfl h91).mono ?_
          rintro e w104 ⟨rfl, hR104, hO104⟩
          go_wp2_with fail
          refine (l02Need_c g T s (Fm.step st) 93 _ _ hR104 (by omega) hat1 rfl).mono ?_
          rintro e wy ⟨rfl, hRy, hOy⟩
          generalize Fm.need s.data.toList (Fm.step st) 93 = st2 at *
          generalize Fm.preF s.data.toList m f st2 = r at *
          go_wp2_with fail
          refine (HQ.out _ hRy (by omega) (by omega)).mono ?_
          rintro e wx ⟨vx, rfl, hox, hRx, hOx⟩
          go_wp2_with fail
          refine (l02Pre_c 5 _ r.1 _ hox.nodes (by omega)).mono ?_
          rintro e wz ⟨vz, rfl, hoz, hgz⟩
          go_wp2_with fail
          go_ret
          exact ⟨_, rfl, hoz.base (((((((hOr).trans hO1).trans hO2).trans hO3).trans hO104).trans hOy).trans hOx).size, hRx.grew hgz, (((((((hOr).trans hO1).trans hO2).trans hO3).trans hO104).trans hOy).trans hOx).grew hgz⟩
        have h91' : Fm.sees s.data.toList st 91 = false := by simpa using h91
        clear h91
        refine (l02Take_no g T s st 91 _ _ hR3 (by omega) hat rfl h91').mono ?_
        rintro e w4 ⟨rfl, hR4, hO4⟩
        go_wp2_with fail
        by_cases h60 : Fm.sees s.data.toList st 60 = true
        · have hE := HE.out
          rw [Fm.preF_dia h60] at hE
          subst hE
          have hlt := Fm.sees_lt h60
          rw [HZ.out] at hlt
          have e1 : (Fm.step st).1 = st.1 + 1 := rfl
          have hn := Fm.need_pos (s := s.data.toList) (st := Fm.step st) (c := 62) (by rw [HZ.out, e1]; exact hlt)
          rw [HZ.out, e1] at hn
          obtain ⟨n1, n2⟩ := hn
          have hk : Fm.Ok s.data.toList (Fm.need s.data.toList (Fm.step st) 62) (Fm.preF s.data.toList m f (Fm.need s.data.toList (Fm.step st) 62)) := Fm.preF_ok f _ (by rw [HZ.out]; exact n2)
          obtain ⟨k1, k2, k3⟩ := hk
          rw [HZ.out] at k2
          have HQ := Lib.hid (HP.out g (Fm.need s.data.toList (Fm.step st) 62))
          have hat1 : (Fm.step st).1 ≤ s.size := by rw [e1]; omega
          clear e1 HI HP
          refine (l02Take_yes g T s st 60 _ _ hR4 (by omega) hat rfl h60).mono ?_
          rintro e w105 ⟨rfl, hR105, hO105⟩
          go_wp2_with fail
          refine (l02Need_c g T s (Fm.step st) 62 _ _ hR105 (by omega) hat1 rfl).mono ?_
          rintro e wy ⟨rfl, hRy, hOy⟩
          generalize Fm.need s.data.toList (Fm.step st) 62 = st2 at *
          generalize Fm.preF s.data.toList m f st2 = r at *
          go_wp2_with fail
          refine (HQ.out _ hRy (by omega) (by omega)).mono ?_
          rintro e wx ⟨vx, rfl, hox, hRx, hOx⟩
          go_wp2_with fail
          refine (l02Pre_c 6 _ r.1 _ hox.nodes (by omega)).mono ?_
          rintro e wz ⟨vz, rfl, hoz, hgz⟩
          go_wp2_with fail
          go_ret
          exact ⟨_, rfl, hoz.base ((((((((hOr).trans hO1).trans hO2).trans hO3).trans hO4).trans hO105).trans hOy).trans hOx).size, hRx.grew hgz, ((((((((hOr).trans hO1).trans hO2).trans hO3).trans hO4).trans hO105).trans hOy).trans hOx).grew hgz⟩
        have h60' : Fm.sees s.data.toList st 60 = false := by simpa using h60
        clear h60
        refine (l02Take_no g T s st 60 _ _ hR4 (by omega) hat rfl h60').mono ?_
        rintro e w5 ⟨rfl, hR5, hO5⟩
        go_wp2_with fail
        by_cases h40 : Fm.sees s.data.toList st 40 = true
        · have hE := HE.out
          rw [Fm.preF_par h40] at hE
          subst hE
          have hlt := Fm.sees_lt h40
          rw [HZ.out] at hlt
          have hk : Fm.Ok s.data.toList (Fm.step st) (Fm.impF s.data.toList m (Fm.preF s.data.toList m f) m (Fm.step st)) := Fm.impF_ok (fun st h => Fm.preF_ok f st h) m (Fm.step st) (by rw [HZ.out]; exact hlt)
          have e1 : (Fm.step st).1 = st.1 + 1 := rfl
          obtain ⟨k1, k2, k3⟩ := hk
          rw [HZ.out] at k2
          rw [e1] at k1 k3
          have hq := HI.out g (Fm.step st)
          rw [e1] at hq
          have HQ := Lib.hid hq
          clear hq e1 HI HP
          generalize Fm.impF s.data.toList m (Fm.preF s.data.toList m f) m (Fm.step st) = r at *
          refine (l02Take_yes g T s st 40 _ _ hR5 (by omega) hat rfl h40).mono ?_
          rintro e w106 ⟨rfl, hR106, hO106⟩
          go_wp2_with fail
          refine (HQ.out _ hR106 (by omega) (by omega)).mono ?_
          rintro e wx ⟨vx, rfl, hox, hRx, hOx⟩
          have hne := own_rdr_ne hox hRx hT
          go_wp2_with fail
          refine (l02Need_c g T s r.2 41 _ _ hRx (by omega) (by omega) rfl).mono ?_
          rintro e wz ⟨rfl, hRz, hOz⟩
          go_wp2_with fail
          go_ret
          exact ⟨_, rfl, (hox.only hOz hne).base (((((((hOr).trans hO1).trans hO2).trans hO3).trans hO4).trans hO5).trans hO106).size, hRz, ((((((((hOr).trans hO1).trans hO2).trans hO3).trans hO4).trans hO5).trans hO106).trans hOx).trans hOz⟩
        have h40' : Fm.sees s.data.toList st 40 = false := by simpa using h40
        clear h40
        refine (l02Take_no g T s st 40 _ _ hR5 (by omega) hat rfl h40').mono ?_
        rintro e w6 ⟨rfl, hR6, hO6⟩
        have hE := HE.out
        have h126x := Fm.preF_bad (m := m) (f := f) h126' h91' h60' h70' h84' h40' HL.out
        rw [h126x] at hE
        subst hE
        clear h126x HL
        have c2 := hR6.bad
        have hf := hR6.free 2
        have HH := Lib.hid hR6
        clear hRr hR1 hR2 hR3 hR4 hR5 hR6
        go_wp2_with fail
        refine (l02False_c _).mono ?_
        rintro e wz ⟨vz, rfl, hoz, hgz⟩
        go_wp2_with fail
        go_ret
        exact ⟨_, rfl, hoz.base ((((((((hOr).trans hO1).trans hO2).trans hO3).trans hO4).trans hO5).trans hO6).setCell _).size, HH.out.spoil.grew hgz, ((((((((hOr).trans hO1).trans hO2).trans hO3).trans hO4).trans hO5).trans hO6).setCell _).grew hgz⟩

theorem l02Prefix_sub (T : TypeId) (hT : 68 ≠ T) (s : ByteArray) (m : Nat) (hs : s.size ≤ 1048576) (hm : s.size < m) : ∀ f, f ≤ m → Sub 135 T s f (Fm.preF s.data.toList m f) := by
  intro f
  induction f with
  | zero => intro _ g st w _ _ h; omega
  | succ f ih =>
    intro hfm g st w hR hat hfu
    have hp := ih (by omega)
    have hok : ∀ st : Fm.St, st.1 ≤ s.data.toList.length → Fm.Ok s.data.toList st (Fm.preF s.data.toList m f st) := fun st h => Fm.preF_ok f st h
    have hand := l02And_c T hT s f m _ hs hm hok hp
    have hor := l02Or_c T hT s f m _ hs hm (fun st h => Fm.andF_ok (m := m) hok st h) hand
    have himp := l02Imply_c T hT s f m _ hs hok hor m
    exact l02Prefix_step T hT s f m hs (fun g st w h1 h2 h3 => himp g st w h1 h2 (by omega) h3) hp g st w hR hat hfu

/-- The reference's reader at a text's beginning. -/
theorem l02Imply_top (T : TypeId) (hT : 68 ≠ T) (s : ByteArray) (m : Nat) (hs : s.size ≤ 1048576) (hm : s.size < m) (g : Nat) (w : World) (hR : Rdr w g T s (0, false)) :
    Calls Tryz.prog 122 #[.pointer (some ⟨g, 0, none⟩)] w (Reads w g T s (Fm.parse s.data.toList m)) := by
  have hok : ∀ st : Fm.St, st.1 ≤ s.data.toList.length → Fm.Ok s.data.toList st (Fm.preF s.data.toList m m st) := fun st h => Fm.preF_ok m st h
  have hand := l02And_c T hT s m m _ hs hm hok (l02Prefix_sub T hT s m hs hm m (Nat.le_refl _))
  have hor := l02Or_c T hT s m m _ hs hm (fun st h => Fm.andF_ok (m := m) hok st h) hand
  exact l02Imply_c T hT s m m _ hs hok hor m g (0, false) w hR (by simp) (by simpa using hm) (by simpa using hm)
end Go.Proofs.YtnbnhapepcegpaaGreatDoor

/- The readers of whole texts: ParseFormula of the reference. -/
namespace Go.Proofs.YtnbnhapepcegpaaGreatDoor
open Go.RowKit
open Fm (Nd)

theorem l02Read_c (s : ByteArray) (w : World) (hs : s.size ≤ 1048576) :
    Calls Tryz.prog 118 #[.string s] w (Gives2 w (Fm.rd s).1 (Fm.rd s).2) := by
  obtain ⟨hr1, hr2⟩ := Fm.read_ok s
  have hxs : Hid ((Fm.read s).1 ≠ []) := Fm.read_ne s
  have HT := Lib.hid (fun g w hR => l02Imply_top 147 (by decide) s Fm.fuel (by omega) (by unfold Fm.fuel; omega) g w hR)
  have hpf : Hid (Fm.rd s = if Fm.whole s = false then ([], ((Fm.read s).2.1 : Int)) else ((Fm.read s).1, -1)) := rfl
  have hwh : Hid (Fm.whole s = (!(Fm.read s).2.2 && decide (s.size ≤ (Fm.read s).2.1))) := rfl
  generalize Fm.rd s = P at *
  generalize Fm.whole s = W at *
  have hrd : Fm.parse s.data.toList Fm.fuel = Fm.read s := rfl
  rw [hrd] at HT
  clear hrd
  generalize Fm.read s = r at *
  obtain ⟨xs, p, b⟩ := r
  simp only at hr1 hr2 hpf hwh
  clear hxs
  have HR0 := Lib.hid (Rdr.new w 147 s)
  by_cases hb : b = true
  · subst hb
    have hP : P = ([], (p : Int)) := by rw [hpf.out, hwh.out]; simp
    subst hP
    clear hpf hwh
    go_enter Tryz.func118, Tryz.ntmps118
    go_wp2_with fail
    refine (HT.out _ _ HR0.out).mono ?_
    rintro e w1 ⟨v1, rfl, ho1, hR1, hO1⟩
    have c1 := hR1.at_
    have c2 := hR1.bad
    have hG := hO1.grew_of ((Grew.refl w).alloc _) (Nat.le_refl _)
    clear hR1 hO1
    go_wp2_with fail
    go_quiet (fail)
    go_wp2_with fail
    go_ret2
    exact ⟨_, rfl, Own.nil_ _ _, hG.drewN _⟩
  have hb' : b = false := by simpa using hb
  subst hb'
  clear hb
  by_cases hlt : p < s.size
  · have hP : P = ([], (p : Int)) := by
      rw [hpf.out, hwh.out]
      simp [hlt]
    subst hP
    clear hpf hwh
    go_enter Tryz.func118, Tryz.ntmps118
    go_wp2_with fail
    refine (HT.out _ _ HR0.out).mono ?_
    rintro e w1 ⟨v1, rfl, ho1, hR1, hO1⟩
    have c1 := hR1.at_
    have c2 := hR1.bad
    have hG := hO1.grew_of ((Grew.refl w).alloc _) (Nat.le_refl _)
    clear hR1 hO1
    go_wp2_with fail
    go_quiet (fail)
    go_wp2_with fail
    go_ret2
    exact ⟨_, rfl, Own.nil_ _ _, hG.drewN _⟩
  · have hP : P = (xs, -1) := by
      rw [hpf.out, hwh.out]
      simp [Nat.le_of_not_lt hlt]
    subst hP
    clear hpf hwh
    go_enter Tryz.func118, Tryz.ntmps118
    go_wp2_with fail
    refine (HT.out _ _ HR0.out).mono ?_
    rintro e w1 ⟨v1, rfl, ho1, hR1, hO1⟩
    have c1 := hR1.at_
    have c2 := hR1.bad
    have hG := hO1.grew_of ((Grew.refl w).alloc _) (Nat.le_refl _)
    obtain ⟨A, ca, rfl⟩ := nodes_slice ho1.nodes
    clear hR1 hO1
    go_wp2_with fail
    go_ret2
    exact ⟨_, rfl, ho1.base (by simp), hG⟩

theorem specParse_c (s : ByteArray) (w : World) (hs : s.size ≤ 140737488355328) :
    Calls Tryz.prog 107 #[.string s] w (Gives3 w (Fm.pf s)) := by
  by_cases hbig : 200 < s.size
  · have hp : Fm.pf s = ([], 0, 3) := by unfold Fm.pf; rw [if_pos hbig]
    rw [hp]
    clear hp
    go_enter Tryz.func107, Tryz.ntmps107
    go_wp2_with fail
    go_ret3
    exact ⟨_, rfl, Own.nil_ _ _, Grew.refl _, fun _ => rfl⟩
  have hL := fun w => l02Read_c s w (by omega)
  have hpf : Hid (Fm.pf s = if Fm.whole s = false then ([], (Fm.read s).2.1, 6) else if 40 < (Fm.read s).1.length then ([], 0, 3) else ((Fm.read s).1, 0, 0)) := by
    unfold Fm.pf Hid; rw [if_neg hbig]
  have hrd : Hid (Fm.rd s = if Fm.whole s = false then ([], ((Fm.read s).2.1 : Int)) else ((Fm.read s).1, -1)) := rfl
  obtain ⟨hr1, hr2⟩ := Fm.read_ok s
  have hxs : Hid ((Fm.read s).1 ≠ []) := Fm.read_ne s
  have HL := Lib.hid hL
  clear hL
  generalize Fm.pf s = P at *
  generalize Fm.rd s = Q at *
  generalize Fm.whole s = W at *
  generalize Fm.read s = r at *
  obtain ⟨xs, p, b⟩ := r
  simp only at hr1 hr2 hpf hrd hxs
  by_cases hW : W = false
  · have hP : P = ([], p, 6) := by rw [hpf.out, if_pos hW]
    have hQ : Q = ([], (p : Int)) := by rw [hrd.out, if_pos hW]
    subst hP hQ
    clear hpf hrd hW
    go_enter Tryz.func107, Tryz.ntmps107
    go_wp2_with fail
    refine (HL.out _).mono ?_
    rintro e w1 ⟨v1, rfl, ho1, hG⟩
    go_wp2_with fail
    go_ret3
    exact ⟨_, rfl, Own.nil_ _ _, hG, fun _ => rfl⟩
  · have hQ : Q = (xs, -1) := by rw [hrd.out, if_neg hW]
    subst hQ
    by_cases h40 : 40 < xs.length
    · have hP : P = ([], 0, 3) := by rw [hpf.out, if_neg hW, if_pos h40]
      subst hP
      clear hpf hrd hW
      go_enter Tryz.func107, Tryz.ntmps107
      go_wp2_with fail
      refine (HL.out _).mono ?_
      rintro e w1 ⟨v1, rfl, ho1, hG⟩
      obtain ⟨A, ca, rfl⟩ := nodes_slice ho1.nodes
      go_wp2_with fail
      go_ret3
      exact ⟨_, rfl, Own.nil_ _ _, hG, fun _ => rfl⟩
    · have hP : P = (xs, 0, 0) := by rw [hpf.out, if_neg hW, if_neg h40]
      subst hP
      clear hpf hrd hW
      go_enter Tryz.func107, Tryz.ntmps107
      go_wp2_with fail
      refine (HL.out _).mono ?_
      rintro e w1 ⟨v1, rfl, ho1, hG⟩
      obtain ⟨A, ca, rfl⟩ := nodes_slice ho1.nodes
      go_wp2_with fail
      go_ret3
      exact ⟨_, rfl, ho1, hG, fun h => absurd h hxs.out⟩
end Go.Proofs.YtnbnhapepcegpaaGreatDoor

/- The text of a formula: the reference's l02Write. -/
namespace Go.Proofs.YtnbnhapepcegpaaGreatDoor
open Go.RowKit
open Fm (Nd Tree)

theorem l02Left_c (v : Value) (xs : List Nd) (a : Tree) (w : World) (h : Nodes w v xs) (hn : xs.length ≤ 1099511627776) (ha : At xs 1 a) :
    Calls Tryz.prog 123 #[v] w (Cuts w (Fm.enc a)) := by
  have hle := ha.le
  have hpos := Fm.enc_pos a
  rcases h.open_ with ⟨rfl, rfl⟩ | ⟨b, o, c, rfl, hc, hm, hb, hf⟩
  · simp only [List.length_nil] at hle; omega
  · have hsub := h.sub 1 (Fm.enc a).length (c - 1) hle (by omega) (by omega)
    rw [ha.take] at hsub
    have HH := Lib.hid h
    have HS := Lib.hid hsub
    have HT := Lib.hid ha
    clear h hf hsub ha
    go_enter Tryz.func123, Tryz.ntmps123
    go_wp2_with fail
    refine (l02Part_at _ xs 1 a _ HH.out hn HT.out).mono ?_
    rintro e w1 ⟨rfl, hg1⟩
    go_wp2_with fail
    go_ret
    refine ⟨_, rfl, ?_, hg1⟩
    rw [Nat.add_sub_cancel_left]
    exact HS.out.grew hg1

theorem l02Right_c (v : Value) (xs : List Nd) (a t : Tree) (w : World) (h : Nodes w v xs) (hn : xs.length ≤ 1099511627776) (ha : At xs 1 a) (ht : At xs (1 + (Fm.enc a).length) t) (hl : xs.length = 1 + (Fm.enc a).length + (Fm.enc t).length) :
    Calls Tryz.prog 124 #[v] w (Cuts w (Fm.enc t)) := by
  have hle := ha.le
  have hpos := Fm.enc_pos t
  rcases h.open_ with ⟨rfl, rfl⟩ | ⟨b, o, c, rfl, hc, hm, hb, hf⟩
  · simp only [List.length_nil] at hle; omega
  · have hsub := h.sub (1 + (Fm.enc a).length) (Fm.enc t).length (c - (1 + (Fm.enc a).length)) (by omega) (by omega) (by omega)
    rw [ht.take] at hsub
    have HH := Lib.hid h
    have HS := Lib.hid hsub
    have HA := Lib.hid ha
    have hk : (Fm.enc t).length = xs.length - (1 + (Fm.enc a).length) := by omega
    rw [hk] at HS
    have hlt : 1 + (Fm.enc a).length < xs.length := by omega
    clear h hf hsub ha ht hl hk hpos
    go_enter Tryz.func124, Tryz.ntmps124
    go_wp2_with fail
    refine (l02Part_at _ xs 1 a _ HH.out hn HA.out).mono ?_
    rintro e w1 ⟨rfl, hg1⟩
    go_wp2_with fail
    go_ret
    exact ⟨_, rfl, HS.out.grew hg1, hg1⟩

def WriteOk (t : Tree) : Prop := ∀ (l : Nat) (v : Value) (w : World), l ≤ 3 → Nodes w v (Fm.enc t) → (Fm.enc t).length ≤ 1048576 →
  Calls Tryz.prog 119 #[v, .int .i64 l] w (Says w (Fm.txt t l))

theorem enc_fls {t : Tree} (h : Fm.enc t = [(1, 0)]) : t = .fls := by
  cases t <;> simp_all [Fm.enc]
theorem enc_truth {x y : Tree} (h : Fm.enc (.imp x y) = Fm.truth) : x = .fls ∧ y = .fls := by
  have hx := Fm.enc_pos x
  have hy := Fm.enc_pos y
  have h1 : Fm.enc x ++ Fm.enc y = [(1, 0), (1, 0)] := by
    have : (4, 0) :: (Fm.enc x ++ Fm.enc y) = ((4, 0) : Nd) :: [(1, 0), (1, 0)] := h
    injection this
  have hl := congrArg List.length h1
  simp only [List.length_append, List.length_cons, List.length_nil] at hl
  have h2 : Fm.enc x = [(1, 0)] := by
    have := congrArg (List.take 1) h1
    rw [List.take_append_of_le_length hx, List.take_of_length_le (by omega)] at this
    exact this
  have h3 : Fm.enc y = [(1, 0)] := by
    rw [h2] at h1
    simpa using h1
  exact ⟨enc_fls h2, enc_fls h3⟩

theorem write_and_n (x y : Tree) (hx : WriteOk x) (hy : WriteOk y) (l : Nat) (v : Value) (w : World) (hl : l ≤ 2) (h : Nodes w v (Fm.enc (.and x y))) (hn : (Fm.enc (.and x y)).length ≤ 1048576) :
    Calls Tryz.prog 119 #[v, .int .i64 l] w (Says w (Fm.txt (.and x y) l)) := by
  have hE : Fm.txt (.and x y) l = Fm.txt x 2 ++ [38] ++ Fm.txt y 3 := by
    rw [Fm.txt, Fm.wrap, if_neg (by omega)]
  rw [hE]
  obtain ⟨b, o, c, rfl, hc, hm, k1⟩ := nodes_head h
  have hpos := Fm.enc_pos (.and x y)
  have HH := Lib.hid h
  have hg0 := Grew.refl w
  rw [show kindOf (.and x y) = 2 from rfl] at k1
  have HA := Lib.hid (at_first (xs := Fm.enc (.and x y)) (k := (2, 0)) (a := x) (rest := Fm.enc y) rfl)
  have HB := Lib.hid (at_second (xs := Fm.enc (.and x y)) (k := (2, 0)) (a := x) (b := y) rfl)
  have hlen : (Fm.enc (.and x y)).length = 1 + (Fm.enc x).length + (Fm.enc y).length := by simp [Fm.enc]; omega
  have HN := Lib.hid hlen
  have h1 := Fm.txt_len x 2
  have h2 := Fm.txt_len y 3
  have HX := Lib.hid hx
  have HY := Lib.hid hy
  have hn1 : (Fm.enc x).length ≤ 1048576 := by omega
  have hn2 : (Fm.enc y).length ≤ 1048576 := by omega
  have hpy := Fm.enc_pos y
  clear hE h hx hy hlen
  generalize Fm.enc (.and x y) = T at *
  have s1 := bs_size (Fm.txt x 2)
  have s2 := bs_size (Fm.txt y 3)
  have z1 : (bs (Fm.txt x 2)).size ≤ 4194304 := by omega
  have z2 : (bs (Fm.txt y 3)).size ≤ 4194304 := by omega
  have HE : Hid (bs (Fm.txt x 2) ++ bs [38] ++ bs (Fm.txt y 3) = bs (Fm.txt x 2 ++ [38] ++ Fm.txt y 3)) := by unfold Hid; simp only [bs_append]
  clear s1 s2 h1 h2
  generalize Fm.txt x 2 ++ [38] ++ Fm.txt y 3 = Z at *
  go_enter Tryz.func119, Tryz.ntmps119
  go_wp2_with fail
  refine (l02Left_c _ T x _ (HH.out.grew (Grew.refl w)) (by omega) HA.out).mono ?_
  rintro e w2 ⟨v2, rfl, hN2, hg2⟩
  go_wp2_with fail
  refine (HX.out 2 _ _ (by omega) hN2 hn1).mono ?_
  rintro e w3 ⟨rfl, hg3⟩
  go_wp2_with fail
  refine (l02Right_c _ T x y _ (HH.out.grew (((Grew.refl w).trans hg2).trans hg3)) (by omega) HA.out HB.out HN.out).mono ?_
  rintro e w4 ⟨v4, rfl, hN4, hg4⟩
  go_wp2_with fail
  refine (HY.out 3 _ _ (by omega) hN4 hn2).mono ?_
  rintro e w5 ⟨rfl, hg5⟩
  go_wp2_with fail
  go_ret
  exact ⟨congrArg (fun z => Ending.returned (.string z)) HE.out, ((((Grew.refl w).trans hg2).trans hg3).trans hg4).trans hg5⟩

theorem write_or_n (x y : Tree) (hx : WriteOk x) (hy : WriteOk y) (l : Nat) (v : Value) (w : World) (hl : l ≤ 1) (h : Nodes w v (Fm.enc (.or x y))) (hn : (Fm.enc (.or x y)).length ≤ 1048576) :
    Calls Tryz.prog 119 #[v, .int .i64 l] w (Says w (Fm.txt (.or x y) l)) := by
  have hE : Fm.txt (.or x y) l = Fm.txt x 1 ++ [124] ++ Fm.txt y 2 := by
    rw [Fm.txt, Fm.wrap, if_neg (by omega)]
  rw [hE]
  obtain ⟨b, o, c, rfl, hc, hm, k1⟩ := nodes_head h
  have hpos := Fm.enc_pos (.or x y)
  have HH := Lib.hid h
  have hg0 := Grew.refl w
  rw [show kindOf (.or x y) = 3 from rfl] at k1
  have HA := Lib.hid (at_first (xs := Fm.enc (.or x y)) (k := (3, 0)) (a := x) (rest := Fm.enc y) rfl)
  have HB := Lib.hid (at_second (xs := Fm.enc (.or x y)) (k := (3, 0)) (a := x) (b := y) rfl)
  have hlen : (Fm.enc (.or x y)).length = 1 + (Fm.enc x).length + (Fm.enc y).length := by simp [Fm.enc]; omega
  have HN := Lib.hid hlen
  have h1 := Fm.txt_len x 1
  have h2 := Fm.txt_len y 2
  have HX := Lib.hid hx
  have HY := Lib.hid hy
  have hn1 : (Fm.enc x).length ≤ 1048576 := by omega
  have hn2 : (Fm.enc y).length ≤ 1048576 := by omega
  have hpy := Fm.enc_pos y
  clear hE h hx hy hlen
  generalize Fm.enc (.or x y) = T at *
  have s1 := bs_size (Fm.txt x 1)
  have s2 := bs_size (Fm.txt y 2)
  have z1 : (bs (Fm.txt x 1)).size ≤ 4194304 := by omega
  have z2 : (bs (Fm.txt y 2)).size ≤ 4194304 := by omega
  have HE : Hid (bs (Fm.txt x 1) ++ bs [124] ++ bs (Fm.txt y 2) = bs (Fm.txt x 1 ++ [124] ++ Fm.txt y 2)) := by unfold Hid; simp only [bs_append]
  clear s1 s2 h1 h2
  generalize Fm.txt x 1 ++ [124] ++ Fm.txt y 2 = Z at *
  go_enter Tryz.func119, Tryz.ntmps119
  go_wp2_with fail
  refine (l02Left_c _ T x _ (HH.out.grew (Grew.refl w)) (by omega) HA.out).mono ?_
  rintro e w2 ⟨v2, rfl, hN2, hg2⟩
  go_wp2_with fail
  refine (HX.out 1 _ _ (by omega) hN2 hn1).mono ?_
  rintro e w3 ⟨rfl, hg3⟩
  go_wp2_with fail
  refine (l02Right_c _ T x y _ (HH.out.grew (((Grew.refl w).trans hg2).trans hg3)) (by omega) HA.out HB.out HN.out).mono ?_
  rintro e w4 ⟨v4, rfl, hN4, hg4⟩
  go_wp2_with fail
  refine (HY.out 2 _ _ (by omega) hN4 hn2).mono ?_
  rintro e w5 ⟨rfl, hg5⟩
  go_wp2_with fail
  go_ret
  exact ⟨congrArg (fun z => Ending.returned (.string z)) HE.out, ((((Grew.refl w).trans hg2).trans hg3).trans hg4).trans hg5⟩

theorem write_imp_n (x y : Tree) (hf : Fm.isF y = false) (hx : WriteOk x) (hy : WriteOk y) (l : Nat) (v : Value) (w : World) (hl : l ≤ 0) (h : Nodes w v (Fm.enc (.imp x y))) (hn : (Fm.enc (.imp x y)).length ≤ 1048576) :
    Calls Tryz.prog 119 #[v, .int .i64 l] w (Says w (Fm.txt (.imp x y) l)) := by
  have hE : Fm.txt (.imp x y) l = Fm.txt x 1 ++ [62] ++ Fm.txt y 0 := by
    rw [Fm.txt, if_neg (by simp [hf]), Fm.wrap, if_neg (by omega)]
  rw [hE]
  obtain ⟨b, o, c, rfl, hc, hm, k1⟩ := nodes_head h
  have hpos := Fm.enc_pos (.imp x y)
  have HH := Lib.hid h
  have hg0 := Grew.refl w
  have HQ := Lib.hid (fun v2 w h1 h2 => l02Equal_c (.slice (some ⟨b, o, none⟩) (Fm.enc (.imp x y)).length c) v2 (Fm.enc (.imp x y)) Fm.truth w h1 h2 (by omega))
  rw [decide_eq_false (fun h => by have := (enc_truth h).2; rw [this] at hf; cases hf)] at HQ
  have hky : (kindOf y == 1) = false := by rw [← isF_kind]; exact hf
  rw [show kindOf (.imp x y) = 4 from rfl] at k1
  have HA := Lib.hid (at_first (xs := Fm.enc (.imp x y)) (k := (4, 0)) (a := x) (rest := Fm.enc y) rfl)
  have HB := Lib.hid (at_second (xs := Fm.enc (.imp x y)) (k := (4, 0)) (a := x) (b := y) rfl)
  have hlen : (Fm.enc (.imp x y)).length = 1 + (Fm.enc x).length + (Fm.enc y).length := by simp [Fm.enc]; omega
  have HN := Lib.hid hlen
  have h1 := Fm.txt_len x 1
  have h2 := Fm.txt_len y 0
  have HX := Lib.hid hx
  have HY := Lib.hid hy
  have hn1 : (Fm.enc x).length ≤ 1048576 := by omega
  have hn2 : (Fm.enc y).length ≤ 1048576 := by omega
  have hpy := Fm.enc_pos y
  clear hE h hx hy hlen hf
  generalize Fm.enc (.imp x y) = T at *
  have s1 := bs_size (Fm.txt x 1)
  have s2 := bs_size (Fm.txt y 0)
  have z1 : (bs (Fm.txt x 1)).size ≤ 4194304 := by omega
  have z2 : (bs (Fm.txt y 0)).size ≤ 4194304 := by omega
  have HE : Hid (bs (Fm.txt x 1) ++ bs [62] ++ bs (Fm.txt y 0) = bs (Fm.txt x 1 ++ [62] ++ Fm.txt y 0)) := by unfold Hid; simp only [bs_append]
  clear s1 s2 h1 h2
  generalize Fm.txt x 1 ++ [62] ++ Fm.txt y 0 = Z at *
  go_enter Tryz.func119, Tryz.ntmps119
  go_wp2_with fail
  refine (l02True_c _).mono ?_
  rintro e w01 ⟨v01, rfl, ho01, hg01⟩
  go_wp2_with fail
  refine (HQ.out _ _ (HH.out.grew hg01) ho01.nodes).mono ?_
  rintro e w02 ⟨rfl, hg02⟩
  have hg2x := hg01.trans hg02
  go_wp2_with fail
  refine (l02Right_c _ T x y _ (HH.out.grew hg2x) (by omega) HA.out HB.out HN.out).mono ?_
  rintro e w03 ⟨v03, rfl, hN03, hg03⟩
  obtain ⟨b3, o3, c3, rfl, hc3, hm3, k3⟩ := nodes_head hN03
  have hg3x := hg2x.trans hg03
  have hgr3 := Grew.refl w03
  go_wp2_with fail
  clear k3
  refine (l02Left_c _ T x _ (HH.out.grew hg3x) (by omega) HA.out).mono ?_
  rintro e w2 ⟨v2, rfl, hN2, hg2⟩
  go_wp2_with fail
  refine (HX.out 1 _ _ (by omega) hN2 hn1).mono ?_
  rintro e w3 ⟨rfl, hg3⟩
  go_wp2_with fail
  refine (l02Right_c _ T x y _ (HH.out.grew ((hg3x.trans hg2).trans hg3)) (by omega) HA.out HB.out HN.out).mono ?_
  rintro e w4 ⟨v4, rfl, hN4, hg4⟩
  go_wp2_with fail
  refine (HY.out 0 _ _ (by omega) hN4 hn2).mono ?_
  rintro e w5 ⟨rfl, hg5⟩
  go_wp2_with fail
  go_ret
  exact ⟨congrArg (fun z => Ending.returned (.string z)) HE.out, (((hg3x.trans hg2).trans hg3).trans hg4).trans hg5⟩

theorem write_and_w (x y : Tree) (hx : WriteOk x) (hy : WriteOk y) (l : Nat) (v : Value) (w : World) (hl : 2 < l) (h : Nodes w v (Fm.enc (.and x y))) (hn : (Fm.enc (.and x y)).length ≤ 1048576) :
    Calls Tryz.prog 119 #[v, .int .i64 l] w (Says w (Fm.txt (.and x y) l)) := by
  have hE : Fm.txt (.and x y) l = [40] ++ (Fm.txt x 2 ++ [38] ++ Fm.txt y 3) ++ [41] := by
    rw [Fm.txt, Fm.wrap, if_pos (by omega)]
  rw [hE]
  obtain ⟨b, o, c, rfl, hc, hm, k1⟩ := nodes_head h
  have hpos := Fm.enc_pos (.and x y)
  have HH := Lib.hid h
  have hg0 := Grew.refl w
  rw [show kindOf (.and x y) = 2 from rfl] at k1
  have HA := Lib.hid (at_first (xs := Fm.enc (.and x y)) (k := (2, 0)) (a := x) (rest := Fm.enc y) rfl)
  have HB := Lib.hid (at_second (xs := Fm.enc (.and x y)) (k := (2, 0)) (a := x) (b := y) rfl)
  have hlen : (Fm.enc (.and x y)).length = 1 + (Fm.enc x).length + (Fm.enc y).length := by simp [Fm.enc]; omega
  have HN := Lib.hid hlen
  have h1 := Fm.txt_len x 2
  have h2 := Fm.txt_len y 3
  have HX := Lib.hid hx
  have HY := Lib.hid hy
  have hn1 : (Fm.enc x).length ≤ 1048576 := by omega
  have hn2 : (Fm.enc y).length ≤ 1048576 := by omega
  have hpy := Fm.enc_pos y
  clear hE h hx hy hlen
  generalize Fm.enc (.and x y) = T at *
  have s1 := bs_size (Fm.txt x 2)
  have s2 := bs_size (Fm.txt y 3)
  have z1 : (bs (Fm.txt x 2)).size ≤ 4194304 := by omega
  have z2 : (bs (Fm.txt y 3)).size ≤ 4194304 := by omega
  have HE : Hid (bs [40] ++ (bs (Fm.txt x 2) ++ bs [38] ++ bs (Fm.txt y 3)) ++ bs [41] = bs ([40] ++ (Fm.txt x 2 ++ [38] ++ Fm.txt y 3) ++ [41])) := by unfold Hid; simp only [bs_append]
  clear s1 s2 h1 h2
  generalize [40] ++ (Fm.txt x 2 ++ [38] ++ Fm.txt y 3) ++ [41] = Z at *
  go_enter Tryz.func119, Tryz.ntmps119
  go_wp2_with fail
  refine (l02Left_c _ T x _ (HH.out.grew (Grew.refl w)) (by omega) HA.out).mono ?_
  rintro e w2 ⟨v2, rfl, hN2, hg2⟩
  go_wp2_with fail
  refine (HX.out 2 _ _ (by omega) hN2 hn1).mono ?_
  rintro e w3 ⟨rfl, hg3⟩
  go_wp2_with fail
  refine (l02Right_c _ T x y _ (HH.out.grew (((Grew.refl w).trans hg2).trans hg3)) (by omega) HA.out HB.out HN.out).mono ?_
  rintro e w4 ⟨v4, rfl, hN4, hg4⟩
  go_wp2_with fail
  refine (HY.out 3 _ _ (by omega) hN4 hn2).mono ?_
  rintro e w5 ⟨rfl, hg5⟩
  go_wp2_with fail
  go_ret
  exact ⟨congrArg (fun z => Ending.returned (.string z)) HE.out, ((((Grew.refl w).trans hg2).trans hg3).trans hg4).trans hg5⟩

theorem write_or_w (x y : Tree) (hx : WriteOk x) (hy : WriteOk y) (l : Nat) (v : Value) (w : World) (hl : 1 < l) (h : Nodes w v (Fm.enc (.or x y))) (hn : (Fm.enc (.or x y)).length ≤ 1048576) :
    Calls Tryz.prog 119 #[v, .int .i64 l] w (Says w (Fm.txt (.or x y) l)) := by
  have hE : Fm.txt (.or x y) l = [40] ++ (Fm.txt x 1 ++ [124] ++ Fm.txt y 2) ++ [41] := by
    rw [Fm.txt, Fm.wrap, if_pos (by omega)]
  rw [hE]
  obtain ⟨b, o, c, rfl, hc, hm, k1⟩ := nodes_head h
  have hpos := Fm.enc_pos (.or x y)
  have HH := Lib.hid h
  have hg0 := Grew.refl w
  rw [show kindOf (.or x y) = 3 from rfl] at k1
  have HA := Lib.hid (at_first (xs := Fm.enc (.or x y)) (k := (3, 0)) (a := x) (rest := Fm.enc y) rfl)
  have HB := Lib.hid (at_second (xs := Fm.enc (.or x y)) (k := (3, 0)) (a := x) (b := y) rfl)
  have hlen : (Fm.enc (.or x y)).length = 1 + (Fm.enc x).length + (Fm.enc y).length := by simp [Fm.enc]; omega
  have HN := Lib.hid hlen
  have h1 := Fm.txt_len x 1
  have h2 := Fm.txt_len y 2
  have HX := Lib.hid hx
  have HY := Lib.hid hy
  have hn1 : (Fm.enc x).length ≤ 1048576 := by omega
  have hn2 : (Fm.enc y).length ≤ 1048576 := by omega
  have hpy := Fm.enc_pos y
  clear hE h hx hy hlen
  generalize Fm.enc (.or x y) = T at *
  have s1 := bs_size (Fm.txt x 1)
  have s2 := bs_size (Fm.txt y 2)
  have z1 : (bs (Fm.txt x 1)).size ≤ 4194304 := by omega
  have z2 : (bs (Fm.txt y 2)).size ≤ 4194304 := by omega
  have HE : Hid (bs [40] ++ (bs (Fm.txt x 1) ++ bs [124] ++ bs (Fm.txt y 2)) ++ bs [41] = bs ([40] ++ (Fm.txt x 1 ++ [124] ++ Fm.txt y 2) ++ [41])) := by unfold Hid; simp only [bs_append]
  clear s1 s2 h1 h2
  generalize [40] ++ (Fm.txt x 1 ++ [124] ++ Fm.txt y 2) ++ [41] = Z at *
  go_enter Tryz.func119, Tryz.ntmps119
  go_wp2_with fail
  refine (l02Left_c _ T x _ (HH.out.grew (Grew.refl w)) (by omega) HA.out).mono ?_
  rintro e w2 ⟨v2, rfl, hN2, hg2⟩
  go_wp2_with fail
  refine (HX.out 1 _ _ (by omega) hN2 hn1).mono ?_
  rintro e w3 ⟨rfl, hg3⟩
  go_wp2_with fail
  refine (l02Right_c _ T x y _ (HH.out.grew (((Grew.refl w).trans hg2).trans hg3)) (by omega) HA.out HB.out HN.out).mono ?_
  rintro e w4 ⟨v4, rfl, hN4, hg4⟩
  go_wp2_with fail
  refine (HY.out 2 _ _ (by omega) hN4 hn2).mono ?_
  rintro e w5 ⟨rfl, hg5⟩
  go_wp2_with fail
  go_ret
  exact ⟨congrArg (fun z => Ending.returned (.string z)) HE.out, ((((Grew.refl w).trans hg2).trans hg3).trans hg4).trans hg5⟩

theorem write_imp_w (x y : Tree) (hf : Fm.isF y = false) (hx : WriteOk x) (hy : WriteOk y) (l : Nat) (v : Value) (w : World) (hl : 0 < l) (h : Nodes w v (Fm.enc (.imp x y))) (hn : (Fm.enc (.imp x y)).length ≤ 1048576) :
    Calls Tryz.prog 119 #[v, .int .i64 l] w (Says w (Fm.txt (.imp x y) l)) := by
  have hE : Fm.txt (.imp x y) l = [40] ++ (Fm.txt x 1 ++ [62] ++ Fm.txt y 0) ++ [41] := by
    rw [Fm.txt, if_neg (by simp [hf]), Fm.wrap, if_pos (by omega)]
  rw [hE]
  obtain ⟨b, o, c, rfl, hc, hm, k1⟩ := nodes_head h
  have hpos := Fm.enc_pos (.imp x y)
  have HH := Lib.hid h
  have hg0 := Grew.refl w
  have HQ := Lib.hid (fun v2 w h1 h2 => l02Equal_c (.slice (some ⟨b, o, none⟩) (Fm.enc (.imp x y)).length c) v2 (Fm.enc (.imp x y)) Fm.truth w h1 h2 (by omega))
  rw [decide_eq_false (fun h => by have := (enc_truth h).2; rw [this] at hf; cases hf)] at HQ
  have hky : (kindOf y == 1) = false := by rw [← isF_kind]; exact hf
  rw [show kindOf (.imp x y) = 4 from rfl] at k1
  have HA := Lib.hid (at_first (xs := Fm.enc (.imp x y)) (k := (4, 0)) (a := x) (rest := Fm.enc y) rfl)
  have HB := Lib.hid (at_second (xs := Fm.enc (.imp x y)) (k := (4, 0)) (a := x) (b := y) rfl)
  have hlen : (Fm.enc (.imp x y)).length = 1 + (Fm.enc x).length + (Fm.enc y).length := by simp [Fm.enc]; omega
  have HN := Lib.hid hlen
  have h1 := Fm.txt_len x 1
  have h2 := Fm.txt_len y 0
  have HX := Lib.hid hx
  have HY := Lib.hid hy
  have hn1 : (Fm.enc x).length ≤ 1048576 := by omega
  have hn2 : (Fm.enc y).length ≤ 1048576 := by omega
  have hpy := Fm.enc_pos y
  clear hE h hx hy hlen hf
  generalize Fm.enc (.imp x y) = T at *
  have s1 := bs_size (Fm.txt x 1)
  have s2 := bs_size (Fm.txt y 0)
  have z1 : (bs (Fm.txt x 1)).size ≤ 4194304 := by omega
  have z2 : (bs (Fm.txt y 0)).size ≤ 4194304 := by omega
  have HE : Hid (bs [40] ++ (bs (Fm.txt x 1) ++ bs [62] ++ bs (Fm.txt y 0)) ++ bs [41] = bs ([40] ++ (Fm.txt x 1 ++ [62] ++ Fm.txt y 0) ++ [41])) := by unfold Hid; simp only [bs_append]
  clear s1 s2 h1 h2
  generalize [40] ++ (Fm.txt x 1 ++ [62] ++ Fm.txt y 0) ++ [41] = Z at *
  go_enter Tryz.func119, Tryz.ntmps119
  go_wp2_with fail
  refine (l02True_c _).mono ?_
  rintro e w01 ⟨v01, rfl, ho01, hg01⟩
  go_wp2_with fail
  refine (HQ.out _ _ (HH.out.grew hg01) ho01.nodes).mono ?_
  rintro e w02 ⟨rfl, hg02⟩
  have hg2x := hg01.trans hg02
  go_wp2_with fail
  refine (l02Right_c _ T x y _ (HH.out.grew hg2x) (by omega) HA.out HB.out HN.out).mono ?_
  rintro e w03 ⟨v03, rfl, hN03, hg03⟩
  obtain ⟨b3, o3, c3, rfl, hc3, hm3, k3⟩ := nodes_head hN03
  have hg3x := hg2x.trans hg03
  have hgr3 := Grew.refl w03
  go_wp2_with fail
  clear k3
  refine (l02Left_c _ T x _ (HH.out.grew hg3x) (by omega) HA.out).mono ?_
  rintro e w2 ⟨v2, rfl, hN2, hg2⟩
  go_wp2_with fail
  refine (HX.out 1 _ _ (by omega) hN2 hn1).mono ?_
  rintro e w3 ⟨rfl, hg3⟩
  go_wp2_with fail
  refine (l02Right_c _ T x y _ (HH.out.grew ((hg3x.trans hg2).trans hg3)) (by omega) HA.out HB.out HN.out).mono ?_
  rintro e w4 ⟨v4, rfl, hN4, hg4⟩
  go_wp2_with fail
  refine (HY.out 0 _ _ (by omega) hN4 hn2).mono ?_
  rintro e w5 ⟨rfl, hg5⟩
  go_wp2_with fail
  go_ret
  exact ⟨congrArg (fun z => Ending.returned (.string z)) HE.out, (((hg3x.trans hg2).trans hg3).trans hg4).trans hg5⟩

theorem write_box (x : Tree) (hx : WriteOk x) : WriteOk (.box x) := by
  intro l v w hl h hn
  have hE : Fm.txt (.box x) l = [91, 93] ++ Fm.txt x 3 := rfl
  rw [hE]
  obtain ⟨b, o, c, rfl, hc, hm, k1⟩ := nodes_head h
  have hpos := Fm.enc_pos (.box x)
  have HH := Lib.hid h
  have hg0 := Grew.refl w
  rw [show kindOf (.box x) = 5 from rfl] at k1
  have ha := at_first (xs := Fm.enc (.box x)) (k := (5, 0)) (a := x) (rest := []) (by simp [Fm.enc])
  have hlen : (Fm.enc (.box x)).length = 1 + (Fm.enc x).length := by simp [Fm.enc]; omega
  have hsub := h.sub 1 (Fm.enc x).length (c - 1) (by omega) (by omega) (by omega)
  rw [ha.take] at hsub
  have HS := Lib.hid hsub
  have hpx := Fm.enc_pos x
  rw [show (Fm.enc x).length = (Fm.enc (.box x)).length - 1 by omega] at HS
  have h1 := Fm.txt_len x 3
  have HX := Lib.hid hx
  have hn1 : (Fm.enc x).length ≤ 1048576 := by omega
  have hc1 : 1 < (Fm.enc (.box x)).length := by omega
  clear hE h hx hlen ha hsub
  generalize Fm.enc (.box x) = T at *
  have s1 := bs_size (Fm.txt x 3)
  have z1 : (bs (Fm.txt x 3)).size ≤ 4194304 := by omega
  have HE : Hid (bs [91, 93] ++ bs (Fm.txt x 3) = bs ([91, 93] ++ Fm.txt x 3)) := by unfold Hid; rw [bs_append]
  clear s1 h1
  generalize [91, 93] ++ Fm.txt x 3 = Z at *
  go_enter Tryz.func119, Tryz.ntmps119
  go_wp2_with fail
  refine (HX.out 3 _ _ (by omega) HS.out hn1).mono ?_
  rintro e w3 ⟨rfl, hg3⟩
  go_wp2_with fail
  go_ret
  exact ⟨congrArg (fun z => Ending.returned (.string z)) HE.out, hg3⟩

theorem write_dia (x : Tree) (hx : WriteOk x) : WriteOk (.dia x) := by
  intro l v w hl h hn
  have hE : Fm.txt (.dia x) l = [60, 62] ++ Fm.txt x 3 := rfl
  rw [hE]
  obtain ⟨b, o, c, rfl, hc, hm, k1⟩ := nodes_head h
  have hpos := Fm.enc_pos (.dia x)
  have HH := Lib.hid h
  have hg0 := Grew.refl w
  rw [show kindOf (.dia x) = 6 from rfl] at k1
  have ha := at_first (xs := Fm.enc (.dia x)) (k := (6, 0)) (a := x) (rest := []) (by simp [Fm.enc])
  have hlen : (Fm.enc (.dia x)).length = 1 + (Fm.enc x).length := by simp [Fm.enc]; omega
  have hsub := h.sub 1 (Fm.enc x).length (c - 1) (by omega) (by omega) (by omega)
  rw [ha.take] at hsub
  have HS := Lib.hid hsub
  have hpx := Fm.enc_pos x
  rw [show (Fm.enc x).length = (Fm.enc (.dia x)).length - 1 by omega] at HS
  have h1 := Fm.txt_len x 3
  have HX := Lib.hid hx
  have hn1 : (Fm.enc x).length ≤ 1048576 := by omega
  have hc1 : 1 < (Fm.enc (.dia x)).length := by omega
  clear hE h hx hlen ha hsub
  generalize Fm.enc (.dia x) = T at *
  have s1 := bs_size (Fm.txt x 3)
  have z1 : (bs (Fm.txt x 3)).size ≤ 4194304 := by omega
  have HE : Hid (bs [60, 62] ++ bs (Fm.txt x 3) = bs ([60, 62] ++ Fm.txt x 3)) := by unfold Hid; rw [bs_append]
  clear s1 h1
  generalize [60, 62] ++ Fm.txt x 3 = Z at *
  go_enter Tryz.func119, Tryz.ntmps119
  go_wp2_with fail
  refine (HX.out 3 _ _ (by omega) HS.out hn1).mono ?_
  rintro e w3 ⟨rfl, hg3⟩
  go_wp2_with fail
  go_ret
  exact ⟨congrArg (fun z => Ending.returned (.string z)) HE.out, hg3⟩

theorem write_tru (x : Tree) (hf : Fm.isF x = true) : WriteOk (.imp x .fls) := by
  intro l v w hl h hn
  have hE : Fm.txt (.imp x .fls) l = [84] := by
    rw [Fm.txt, if_pos (show Fm.isF .fls = true from rfl), if_pos hf]
  rw [hE]
  obtain ⟨b, o, c, rfl, hc, hm, k1⟩ := nodes_head h
  have hpos := Fm.enc_pos (.imp x .fls)
  have HH := Lib.hid h
  have hg0 := Grew.refl w
  have HQ := Lib.hid (fun v2 w h1 h2 => l02Equal_c (.slice (some ⟨b, o, none⟩) (Fm.enc (.imp x .fls)).length c) v2 (Fm.enc (.imp x .fls)) Fm.truth w h1 h2 (by omega))
  rw [decide_eq_true (by rw [Fm.isF_eq hf]; rfl)] at HQ
  rw [show kindOf (.imp x .fls) = 4 from rfl] at k1
  have HA := Lib.hid (at_first (xs := Fm.enc (.imp x .fls)) (k := (4, 0)) (a := x) (rest := Fm.enc .fls) rfl)
  have HB := Lib.hid (at_second (xs := Fm.enc (.imp x .fls)) (k := (4, 0)) (a := x) (b := .fls) rfl)
  have hlen : (Fm.enc (.imp x .fls)).length = 1 + (Fm.enc x).length + (Fm.enc .fls).length := by simp [Fm.enc]; omega
  have HN := Lib.hid hlen
  have hn1 : (Fm.enc x).length ≤ 1048576 := by omega
  clear hE h hlen hf
  generalize Fm.enc (.imp x .fls) = T at *
  go_enter Tryz.func119, Tryz.ntmps119
  go_wp2_with fail
  refine (l02True_c _).mono ?_
  rintro e w01 ⟨v01, rfl, ho01, hg01⟩
  go_wp2_with fail
  refine (HQ.out _ _ (HH.out.grew hg01) ho01.nodes).mono ?_
  rintro e w02 ⟨rfl, hg02⟩
  have hg2x := hg01.trans hg02
  go_wp2_with fail
  go_ret
  exact ⟨rfl, hg2x⟩

theorem write_not (x : Tree) (hf : Fm.isF x = false) (hx : WriteOk x) : WriteOk (.imp x .fls) := by
  intro l v w hl h hn
  have hE : Fm.txt (.imp x .fls) l = [126] ++ Fm.txt x 3 := by
    rw [Fm.txt, if_pos (show Fm.isF .fls = true from rfl), if_neg (by simp [hf])]
  rw [hE]
  obtain ⟨b, o, c, rfl, hc, hm, k1⟩ := nodes_head h
  have hpos := Fm.enc_pos (.imp x .fls)
  have HH := Lib.hid h
  have hg0 := Grew.refl w
  have HQ := Lib.hid (fun v2 w h1 h2 => l02Equal_c (.slice (some ⟨b, o, none⟩) (Fm.enc (.imp x .fls)).length c) v2 (Fm.enc (.imp x .fls)) Fm.truth w h1 h2 (by omega))
  rw [decide_eq_false (fun h => by have := (enc_truth h).1; rw [this] at hf; cases hf)] at HQ
  rw [show kindOf (.imp x .fls) = 4 from rfl] at k1
  have HA := Lib.hid (at_first (xs := Fm.enc (.imp x .fls)) (k := (4, 0)) (a := x) (rest := Fm.enc .fls) rfl)
  have HB := Lib.hid (at_second (xs := Fm.enc (.imp x .fls)) (k := (4, 0)) (a := x) (b := .fls) rfl)
  have hlen : (Fm.enc (.imp x .fls)).length = 1 + (Fm.enc x).length + (Fm.enc .fls).length := by simp [Fm.enc]; omega
  have HN := Lib.hid hlen
  have hn1 : (Fm.enc x).length ≤ 1048576 := by omega
  have h1 := Fm.txt_len x 3
  have HX := Lib.hid hx
  have s1 := bs_size (Fm.txt x 3)
  have z1 : (bs (Fm.txt x 3)).size ≤ 4194304 := by omega
  have HE : Hid (bs [126] ++ bs (Fm.txt x 3) = bs ([126] ++ Fm.txt x 3)) := by unfold Hid; rw [bs_append]
  clear s1 h1 hx
  generalize [126] ++ Fm.txt x 3 = Z at *
  clear hE h hlen hf
  generalize Fm.enc (.imp x .fls) = T at *
  go_enter Tryz.func119, Tryz.ntmps119
  go_wp2_with fail
  refine (l02True_c _).mono ?_
  rintro e w01 ⟨v01, rfl, ho01, hg01⟩
  go_wp2_with fail
  refine (HQ.out _ _ (HH.out.grew hg01) ho01.nodes).mono ?_
  rintro e w02 ⟨rfl, hg02⟩
  have hg2x := hg01.trans hg02
  go_wp2_with fail
  refine (l02Right_c _ T x .fls _ (HH.out.grew hg2x) (by omega) HA.out HB.out HN.out).mono ?_
  rintro e w03 ⟨v03, rfl, hN03, hg03⟩
  obtain ⟨b3, o3, c3, rfl, hc3, hm3, k3⟩ := nodes_head hN03
  rw [show kindOf .fls = 1 from rfl] at k3
  have hp3 := Fm.enc_pos .fls
  have hg3x := hg2x.trans hg03
  have hgr3 := Grew.refl w03
  go_wp2_with fail
  clear k3
  refine (l02Left_c _ T x _ (HH.out.grew hg3x) (by omega) HA.out).mono ?_
  rintro e w4 ⟨v4, rfl, hN4, hg4⟩
  go_wp2_with fail
  refine (HX.out 3 _ _ (by omega) hN4 hn1).mono ?_
  rintro e w5 ⟨rfl, hg5⟩
  go_wp2_with fail
  go_ret
  exact ⟨congrArg (fun z => Ending.returned (.string z)) HE.out, (hg3x.trans hg4).trans hg5⟩

theorem write_fls : WriteOk .fls := by
  intro l v w hl h hn
  have hE : Fm.txt .fls l = [70] := rfl
  rw [hE]
  obtain ⟨b, o, c, rfl, hc, hm, k1⟩ := nodes_head h
  have hpos := Fm.enc_pos (.fls)
  have HH := Lib.hid h
  have hg0 := Grew.refl w
  rw [show kindOf .fls = 1 from rfl] at k1
  clear hE h
  generalize Fm.enc .fls = T at *
  go_enter Tryz.func119, Tryz.ntmps119
  go_wp2_with fail
  go_ret
  exact ⟨rfl, hg0⟩

theorem write_var (n : Fin 6) : WriteOk (.var n) := by
  intro l v w hl h hn
  have hE : Fm.txt (.var n) l = [UInt8.ofNat (112 + n.val)] := rfl
  rw [hE]
  have k2 : ∃ b o c, v = .slice (some ⟨b, o, none⟩) (Fm.enc (.var n)).length c ∧ ∀ W, Grew w W → W.cell? ⟨b, o + 1, none⟩ = some (.int .i64 (n.val : Int)) := by
    rcases h.open_ with ⟨_, h0⟩ | ⟨b, o, c, hv, _, _, _, hf⟩
    · simp [Fm.enc] at h0
    · refine ⟨b, o, c, hv, fun W hW => ?_⟩
      have := (hf 0 (by simp [Fm.enc]) W hW).2
      rw [show sy (Fm.enc (.var n)) 0 = (n.val : Int) from rfl] at this
      simpa using this
  obtain ⟨b, o, c, rfl, hc, hm, k1⟩ := nodes_head h
  have hpos := Fm.enc_pos (.var n)
  have HH := Lib.hid h
  have hg0 := Grew.refl w
  obtain ⟨b', o', c', hv', k2⟩ := k2
  simp only [Value.slice.injEq, Option.some.injEq, Addr.mk.injEq, and_true, true_and] at hv'
  obtain ⟨⟨rfl, rfl⟩, rfl⟩ := hv'
  rw [show kindOf (.var n) = 0 from rfl] at k1
  have hn6 := n.isLt
  clear hE h
  generalize Fm.enc (.var n) = T at *
  generalize n.val = q at *
  go_enter Tryz.func119, Tryz.ntmps119
  go_wp2_with fail
  go_quiet (fail)
  go_wp2_with fail
  go_ret
  exact ⟨congrArg (fun z => Ending.returned (.string z)) (letter_cut hn6), hg0.drewN _⟩

theorem write_ok (t : Tree) : WriteOk t := by
  induction t with
  | var n => exact write_var n
  | fls => exact write_fls
  | and x y hx hy =>
    intro l v w hl h hn
    rcases Nat.lt_or_ge 2 l with hw | hw
    · exact write_and_w x y hx hy l v w hw h hn
    · exact write_and_n x y hx hy l v w hw h hn
  | or x y hx hy =>
    intro l v w hl h hn
    rcases Nat.lt_or_ge 1 l with hw | hw
    · exact write_or_w x y hx hy l v w hw h hn
    · exact write_or_n x y hx hy l v w hw h hn
  | imp x y hx hy =>
    cases hf : Fm.isF y with
    | true =>
      obtain rfl := Fm.isF_eq hf
      cases hg : Fm.isF x with
      | true => exact write_tru x hg
      | false => exact write_not x hg hx
    | false =>
      intro l v w hl h hn
      rcases Nat.lt_or_ge 0 l with hw | hw
      · exact write_imp_w x y hf hx hy l v w hw h hn
      · exact write_imp_n x y hf hx hy l v w hw h hn
  | box x hx => exact write_box x hx
  | dia x hx => exact write_dia x hx

theorem l02Text_c (t : Tree) (v : Value) (w : World) (h : Nodes w v (Fm.enc t)) (hn : (Fm.enc t).length ≤ 1048576) :
    Calls Tryz.prog 108 #[v] w (Says w (Fm.txt t 0)) := by
  have HT := Lib.hid (write_ok t 0 v w (by omega) h hn)
  go_enter Tryz.func108, Tryz.ntmps108
  go_wp2_with fail
  refine HT.out.mono ?_
  rintro e w1 ⟨rfl, hg1⟩
  go_wp2_with fail
  go_ret
  exact ⟨rfl, hg1⟩
end Go.Proofs.YtnbnhapepcegpaaGreatDoor

/- A text that reads to a tree whose text it is. -/
namespace Go.Proofs.YtnbnhapepcegpaaGreatDoor
open Go.RowKit
open Fm (Nd)

/-- The text is the text of a formula. -/
def IsGood (s : ByteArray) : Prop := ∃ t, Fm.pf s = (Fm.enc t, 0, 0) ∧ bs (Fm.txt t 0) = s
noncomputable def gd (s : ByteArray) : Bool := @decide (IsGood s) (Classical.propDecidable _)
theorem gd_true {s : ByteArray} (h : IsGood s) : gd s = true := by
  unfold gd
  exact @decide_eq_true _ (Classical.propDecidable _) h
theorem gd_false {s : ByteArray} (h : ¬ IsGood s) : gd s = false := by
  unfold gd
  exact @decide_eq_false _ (Classical.propDecidable _) h

theorem pf_cases (s : ByteArray) : (∃ t, Fm.pf s = (Fm.enc t, 0, 0)) ∨ ∃ p c, Fm.pf s = ([], p, c) ∧ (c == 0) = false := by
  unfold Fm.pf
  split
  · exact .inr ⟨_, _, rfl, by decide⟩
  · split
    · exact .inr ⟨_, _, rfl, by decide⟩
    · split
      · exact .inr ⟨_, _, rfl, by decide⟩
      · obtain ⟨t, ht⟩ := Fm.parse_enc s.data.toList Fm.fuel
        refine .inl ⟨t, ?_⟩
        rw [← ht]
        rfl
theorem gd_bad {s : ByteArray} {p : Nat} {c : Int} (h : Fm.pf s = ([], p, c)) (hc : (c == 0) = false) : gd s = false := by
  apply gd_false
  rintro ⟨t, ht, _⟩
  rw [h] at ht
  simp only [Prod.mk.injEq] at ht
  rw [ht.2.2] at hc
  cases hc
theorem gd_tree {s : ByteArray} {t : Fm.Tree} (h : Fm.pf s = (Fm.enc t, 0, 0)) : gd s = ((bs (Fm.txt t 0)).toList == s.toList) := by
  have e : ((bs (Fm.txt t 0)).toList == s.toList) = true ↔ bs (Fm.txt t 0) = s := by
    exact Lib.bytes_beq_iff _ _
  cases hb : ((bs (Fm.txt t 0)).toList == s.toList) with
  | true => exact gd_true ⟨t, h, e.1 hb⟩
  | false =>
    apply gd_false
    rintro ⟨u, hu, hs⟩
    rw [h] at hu
    simp only [Prod.mk.injEq, and_true] at hu
    have := enc_inj hu
    subst this
    rw [e.2 hs] at hb
    cases hb

/-- What the reference's test of a text gives. -/
def GivesG (w : World) (s : ByteArray) (e : Ending) (w' : World) : Prop := ∃ v, e = .returned (.tuple #[v, .bool (gd s)]) ∧ Own w' w.heap.size v (Fm.pf s).1 ∧ Grew w w'

theorem l02Good_c (s : ByteArray) (w : World) (hs : s.size ≤ 140737488355328) :
    Calls Tryz.prog 86 #[.string s] w (GivesG w s) := by
  have HP := fun w => specParse_c s w hs
  unfold GivesG
  rcases pf_cases s with ⟨t, ht⟩ | ⟨p, c, hp, hc⟩
  · have hn := Fm.pf_len s
    rw [gd_tree ht]
    rw [ht] at HP hn ⊢
    simp only at HP hn ⊢
    replace HP := Lib.hid HP
    have HT := Lib.hid (fun v w h => l02Text_c t v w h (by omega))
    clear ht
    generalize Fm.enc t = xs at *
    go_enter Tryz.func86, Tryz.ntmps86
    go_wp2_with fail
    refine (HP.out _).mono ?_
    rintro e w1 ⟨v1, rfl, ho1, hg1, _⟩
    go_wp2_with fail
    refine (HT.out _ _ ho1.nodes).mono ?_
    rintro e w2 ⟨rfl, hg2⟩
    go_wp2_with fail
    go_ret2
    exact ⟨_, rfl, ho1.grew hg2, hg1.trans hg2⟩
  · rw [gd_bad hp hc]
    rw [hp] at HP ⊢
    replace HP := Lib.hid HP
    clear hp
    go_enter Tryz.func86, Tryz.ntmps86
    go_wp2_with fail
    refine (HP.out _).mono ?_
    rintro e w1 ⟨v1, rfl, ho1, hg1, _⟩
    go_wp2_with fail
    go_ret2
    exact ⟨.slice none 0 0, rfl, Own.nil_ _ _, hg1⟩
end Go.Proofs.YtnbnhapepcegpaaGreatDoor

/- The program's 'parsed'. -/
namespace Go.Proofs.YtnbnhapepcegpaaGreatDoor
open Go.RowKit
open Fm (Nd)

/-- A new list, nil where it is empty. -/
def GivesN (w : World) (xs : List Nd) (e : Ending) (w' : World) : Prop := ∃ v, e = .returned v ∧ Own w' w.heap.size v xs ∧ Grew w w' ∧ (xs = [] → v = .slice none 0 0)

theorem parsed_c (s : ByteArray) (w : World) (hs : s.size ≤ 140737488355328) :
    Calls Tryz.prog 111 #[.string s] w (GivesN w (Fm.pf s).1) := by
  have HP := Lib.hid (fun w => parse_c s w hs)
  generalize Fm.pf s = r at *
  go_enter Tryz.func111, Tryz.ntmps111
  go_wp2_with fail
  refine (HP.out _).mono ?_
  rintro e w1 ⟨v1, rfl, ho1, hg1, hz1⟩
  have HZ := Lib.hid hz1
  clear hz1
  go_wp2_with fail
  go_ret
  exact ⟨_, rfl, ho1, hg1, HZ.out⟩
end Go.Proofs.YtnbnhapepcegpaaGreatDoor

/- SchemeFormula, of the program and of the reference. -/
namespace Go.Proofs.YtnbnhapepcegpaaGreatDoor
open Go.RowKit

def schTexts : List ByteArray := [⟨#[112, 62, 113, 62, 112]⟩, ⟨#[40, 112, 62, 113, 62, 114, 41, 62, 40, 112, 62, 113, 41, 62, 112, 62, 114]⟩, ⟨#[112, 38, 113, 62, 112]⟩, ⟨#[112, 38, 113, 62, 113]⟩, ⟨#[112, 62, 113, 62, 112, 38, 113]⟩, ⟨#[112, 62, 112, 124, 113]⟩, ⟨#[113, 62, 112, 124, 113]⟩, ⟨#[40, 112, 62, 114, 41, 62, 40, 113, 62, 114, 41, 62, 112, 124, 113, 62, 114]⟩, ⟨#[70, 62, 112]⟩, ⟨#[126, 126, 112, 62, 112]⟩, ⟨#[91, 93, 40, 112, 62, 113, 41, 62, 91, 93, 112, 62, 91, 93, 113]⟩, ⟨#[60, 62, 112, 62, 126, 91, 93, 126, 112]⟩, ⟨#[126, 91, 93, 126, 112, 62, 60, 62, 112]⟩, ⟨#[91, 93, 112, 62, 112]⟩, ⟨#[91, 93, 112, 62, 91, 93, 91, 93, 112]⟩, ⟨#[60, 62, 112, 62, 91, 93, 60, 62, 112]⟩, ⟨#[112, 62, 91, 93, 60, 62, 112]⟩, ⟨#[91, 93, 112, 62, 60, 62, 112]⟩, ⟨#[91, 93, 40, 91, 93, 112, 62, 112, 41, 62, 91, 93, 112]⟩]
theorem schTexts_len : schTexts.length = 19 := rfl
theorem schTexts_small {i : Nat} (h : i < 19) : (st schTexts i).size ≤ 200 := by
  have : ∀ j : Fin 19, (st schTexts j.val).size ≤ 200 := by decide
  exact this ⟨i, h⟩

theorem l13Texts_c (w : World) : Calls Tryz.prog 87 #[] w (GivesS w schTexts) := by
  have h := OwnS.lit w w.heap.size schTexts #[.string ⟨#[112, 62, 113, 62, 112]⟩, .string ⟨#[40, 112, 62, 113, 62, 114, 41, 62, 40, 112, 62, 113, 41, 62, 112, 62, 114]⟩, .string ⟨#[112, 38, 113, 62, 112]⟩, .string ⟨#[112, 38, 113, 62, 113]⟩, .string ⟨#[112, 62, 113, 62, 112, 38, 113]⟩, .string ⟨#[112, 62, 112, 124, 113]⟩, .string ⟨#[113, 62, 112, 124, 113]⟩, .string ⟨#[40, 112, 62, 114, 41, 62, 40, 113, 62, 114, 41, 62, 112, 124, 113, 62, 114]⟩, .string ⟨#[70, 62, 112]⟩, .string ⟨#[126, 126, 112, 62, 112]⟩, .string ⟨#[91, 93, 40, 112, 62, 113, 41, 62, 91, 93, 112, 62, 91, 93, 113]⟩, .string ⟨#[60, 62, 112, 62, 126, 91, 93, 126, 112]⟩, .string ⟨#[126, 91, 93, 126, 112, 62, 60, 62, 112]⟩, .string ⟨#[91, 93, 112, 62, 112]⟩, .string ⟨#[91, 93, 112, 62, 91, 93, 91, 93, 112]⟩, .string ⟨#[60, 62, 112, 62, 91, 93, 60, 62, 112]⟩, .string ⟨#[112, 62, 91, 93, 60, 62, 112]⟩, .string ⟨#[91, 93, 112, 62, 60, 62, 112]⟩, .string ⟨#[91, 93, 40, 91, 93, 112, 62, 112, 41, 62, 91, 93, 112]⟩] (Nat.le_refl _) (by rw [schTexts_len]; omega) rfl
  rw [schTexts_len] at h
  go_enter Tryz.func87, Tryz.ntmps87
  go_wp2_with fail
  go_ret
  exact ⟨_, rfl, h, (Grew.refl w).alloc _⟩

/-- The schemes as trees. -/
def schTrees : List Fm.Tree := [(.imp (.var 0) (.imp (.var 1) (.var 0))), (.imp (.imp (.var 0) (.imp (.var 1) (.var 2))) (.imp (.imp (.var 0) (.var 1)) (.imp (.var 0) (.var 2)))), (.imp (.and (.var 0) (.var 1)) (.var 0)), (.imp (.and (.var 0) (.var 1)) (.var 1)), (.imp (.var 0) (.imp (.var 1) (.and (.var 0) (.var 1)))), (.imp (.var 0) (.or (.var 0) (.var 1))), (.imp (.var 1) (.or (.var 0) (.var 1))), (.imp (.imp (.var 0) (.var 2)) (.imp (.imp (.var 1) (.var 2)) (.imp (.or (.var 0) (.var 1)) (.var 2)))), (.imp .fls (.var 0)), (.imp (.imp (.imp (.var 0) .fls) .fls) (.var 0)), (.imp (.box (.imp (.var 0) (.var 1))) (.imp (.box (.var 0)) (.box (.var 1)))), (.imp (.dia (.var 0)) (.imp (.box (.imp (.var 0) .fls)) .fls)), (.imp (.imp (.box (.imp (.var 0) .fls)) .fls) (.dia (.var 0))), (.imp (.box (.var 0)) (.var 0)), (.imp (.box (.var 0)) (.box (.box (.var 0)))), (.imp (.dia (.var 0)) (.box (.dia (.var 0)))), (.imp (.var 0) (.box (.dia (.var 0)))), (.imp (.box (.var 0)) (.dia (.var 0))), (.imp (.box (.imp (.box (.var 0)) (.var 0))) (.box (.var 0)))]
def schTree (i : Nat) : Fm.Tree := schTrees.getD i .fls
theorem schTree_text {i : Nat} (h : i < 19) : st schTexts i = bs (Fm.txt (schTree i) 0) := by
  have : ∀ j : Fin 19, st schTexts j.val = bs (Fm.txt (schTree j.val) 0) := by decide
  exact this ⟨i, h⟩
theorem schTree_len {i : Nat} (h : i < 19) : (Fm.enc (schTree i)).length ≤ 40 ∧ (Fm.txt (schTree i) 0).length ≤ 200 := by
  have : ∀ j : Fin 19, (Fm.enc (schTree j.val)).length ≤ 40 ∧ (Fm.txt (schTree j.val) 0).length ≤ 200 := by decide
  exact this ⟨i, h⟩
theorem sch_pf {i : Nat} (h : i < 19) : Fm.pf (st schTexts i) = (Fm.enc (schTree i), 0, 0) := by
  rw [schTree_text h, Fm.pf_txt _ (schTree_len h).2 (schTree_len h).1]

/-- What SchemeFormula gives. -/
def schF (k : Int) : List Fm.Nd × Int := if 0 ≤ k ∧ k ≤ 18 then (Fm.enc (schTree k.toNat), 0) else ([], 2)
theorem schF_in {k : Nat} (h : k < 19) : schF (k : Int) = (Fm.enc (schTree k), 0) := by
  rw [schF, if_pos (by omega)]; rfl
theorem schF_out {k : Int} (h : ¬ (0 ≤ k ∧ k ≤ 18)) : schF k = ([], 2) := by rw [schF, if_neg h]
theorem schF_len (k : Int) : (schF k).1.length ≤ 40 := by
  unfold schF
  split
  · exact (schTree_len (by omega)).1
  · simp

theorem l13Scheme_c (k : Nat) (w : World) (hk : k < 19) :
    Calls Tryz.prog 69 #[.int .i64 k] w (Gives w (Fm.enc (schTree k))) := by
  have hG := fun w => l02Good_c (st schTexts k) w (by have := schTexts_small hk; omega)
  unfold GivesG at hG
  rw [sch_pf hk] at hG
  simp only at hG
  have HG := Lib.hid hG
  have hlen := schTexts_len
  clear hG
  go_enter Tryz.func69, Tryz.ntmps69
  go_wp2_with fail
  refine (l13Texts_c _).mono ?_
  rintro e w1 ⟨v1, rfl, ho1, hg1⟩
  rcases ho1.strs.open_ with ⟨rfl, h0⟩ | ⟨b, o, c, rfl, hc, hm, hb, hcell⟩
  · cases h0
  rw [hlen] at hc hcell ⊢
  have k1 := hcell k hk _ (Grew.refl _)
  clear hcell ho1 hlen
  generalize st schTexts k = tx at *
  go_wp2_with fail
  refine (HG.out _).mono ?_
  rintro e w4 ⟨v4, rfl, ho4, hg4⟩
  go_wp2_with fail
  go_ret
  exact ⟨_, rfl, ho4.base hg1.size, hg1.trans hg4⟩

theorem scheme_c (k : Nat) (w : World) (hk : k < 19) (hX : TabAt w 0 schTexts) :
    Calls Tryz.prog 93 #[.int .i64 k] w (Gives w (Fm.enc (schTree k))) := by
  have hP := fun w => parsed_c (st schTexts k) w (by have := schTexts_small hk; omega)
  rw [sch_pf hk] at hP
  have k1 : w.cell? ⟨0, k, none⟩ = some (.string (st schTexts k)) := hX.cell hk
  have HP := Lib.hid hP
  clear hP hX
  generalize st schTexts k = tx at *
  go_enter Tryz.func93, Tryz.ntmps93
  go_wp2_with fail
  refine (HP.out _).mono ?_
  rintro e w3 ⟨v3, rfl, ho3, hg3, _⟩
  go_wp2_with fail
  go_ret
  exact ⟨_, rfl, ho3, hg3⟩
end Go.Proofs.YtnbnhapepcegpaaGreatDoor

/- Is a formula an instance of a scheme? isInstance of the program, l13Instance of the reference. -/
namespace Go.Proofs.YtnbnhapepcegpaaGreatDoor
open Go.RowKit
open Fm (Nd Tree)

/-- Does the scheme match the formula? -/
def instB (k : Nat) (xs : List Nd) : Bool := mrun xs (Fm.enc (schTree k)) 0 (fun _ => [])
theorem isInstance_c (k : Nat) (v : Value) (t : Tree) (w : World) (hk : k < 19) (hX : TabAt w 0 schTexts) (h : Nodes w v (Fm.enc t)) (hn : (Fm.enc t).length ≤ 40) :
    Calls Tryz.prog 78 #[.int .i64 k, v] w fun e w' => e = .returned (.bool (instB k (Fm.enc t))) ∧ Grew w w' := by
  have hl := schTree_len hk
  have HS := Lib.hid (scheme_c k w hk hX)
  have HM := Lib.hid (fun W u (hW : Grew w W) (hu : Nodes W u (Fm.enc (schTree k))) => match_c u v (schTree k) t W hu (h.grew hW) (by omega) (by omega))
  unfold instB
  generalize mrun (Fm.enc t) (Fm.enc (schTree k)) 0 (fun _ => []) = R at *
  generalize Fm.enc (schTree k) = a at *
  clear h hX
  go_enter Tryz.func78, Tryz.ntmps78
  go_wp2_with fail
  refine HS.out.mono ?_
  rintro e w1 ⟨u, rfl, ho1, hg1⟩
  go_wp2_with fail
  refine (HM.out _ _ hg1 ho1.nodes).mono ?_
  rintro e w2 ⟨q, rfl, hg2⟩
  go_wp2_with fail
  go_ret
  exact ⟨rfl, hg1.trans hg2⟩
theorem l13Instance_c (k : Nat) (v : Value) (t : Tree) (w : World) (hk : k < 19) (h : Nodes w v (Fm.enc t)) (hn : (Fm.enc t).length ≤ 40) :
    Calls Tryz.prog 48 #[.int .i64 k, v] w fun e w' => e = .returned (.bool (instB k (Fm.enc t))) ∧ Grew w w' := by
  have hl := schTree_len hk
  have HS := Lib.hid (l13Scheme_c k w hk)
  have HM := Lib.hid (fun W u (hW : Grew w W) (hu : Nodes W u (Fm.enc (schTree k))) => l03Match_c u v (schTree k) t W hu (h.grew hW) (by omega) (by omega))
  unfold instB
  generalize mrun (Fm.enc t) (Fm.enc (schTree k)) 0 (fun _ => []) = R at *
  generalize Fm.enc (schTree k) = a at *
  clear h
  go_enter Tryz.func48, Tryz.ntmps48
  go_wp2_with fail
  refine HS.out.mono ?_
  rintro e w1 ⟨u, rfl, ho1, hg1⟩
  go_wp2_with fail
  refine (HM.out _ _ hg1 ho1.nodes).mono ?_
  rintro e w2 ⟨q, rfl, hg2⟩
  go_wp2_with fail
  go_ret
  exact ⟨rfl, hg1.trans hg2⟩

end Go.Proofs.YtnbnhapepcegpaaGreatDoor

/- When is a list of lines a Hilbert proof? No program is in sight. -/
namespace Go.Proofs.YtnbnhapepcegpaaGreatDoor
open Fm (Nd)

/-- The j-th line. -/
def hl (L : List Hl) (j : Nat) : Hl := L.getD j (0, 0, 0, [])
theorem hl_get {L : List Hl} {j : Nat} {x : Hl} (h : L[j]? = some x) : hl L j = x := by
  unfold hl; rw [List.getD, h]; rfl
theorem hl_some {L : List Hl} {j : Nat} (h : j < L.length) : L[j]? = some (hl L j) := by
  rw [List.getElem?_eq_getElem h]; simp [hl, List.getD, h]
/-- Does a line depend on a hypothesis, where those before it do as told? -/
def neOne (F : List Bool) (x : Hl) : Bool :=
  if x.1 == 2 then true else if x.1 == 3 then F.getD x.2.1.toNat false || F.getD x.2.2.1.toNat false else if x.1 == 4 then F.getD x.2.1.toNat false else false
def nes (L : List Hl) : Nat → List Bool
  | 0 => []
  | k + 1 => nes L k ++ [neOne (nes L k) (hl L k)]
theorem nes_len (L : List Hl) (k : Nat) : (nes L k).length = k := by
  induction k with
  | zero => rfl
  | succ k ih => simp [nes, ih]
/-- Does the k-th line depend on a hypothesis? -/
def ne (L : List Hl) (k : Nat) : Bool := neOne (nes L k) (hl L k)
theorem nes_at (L : List Hl) {j k : Nat} (h : j < k) : (nes L k).getD j false = ne L j := by
  induction k with
  | zero => omega
  | succ k ih =>
    have hl := nes_len L k
    rw [nes, List.getD_eq_getElem?_getD]
    rcases Nat.lt_or_ge j k with hk | hk
    · rw [List.getElem?_append_left (by omega), ← List.getD_eq_getElem?_getD, ih hk]
    · obtain rfl : j = k := by omega
      rw [List.getElem?_append_right (by omega), hl]
      simp [ne]
noncomputable def axB (s : ByteArray) (H : List (List Nd)) (x : Hl) : Bool :=
  x.2.2.1 == 0 && (if x.1 == 2 then decide (0 ≤ x.2.1 ∧ x.2.1 ≤ (H.length : Int) - 1) && decide (H.getD x.2.1.toNat [] = x.2.2.2) else (decide (x.2.1 ∈ (sysL s).getD []) && instB x.2.1.toNat x.2.2.2))
/-- Is the k-th line as in a proof, where those before it are? -/
noncomputable def fineX (s : ByteArray) (H : List (List Nd)) (L : List Hl) (k : Nat) (x : Hl) : Bool :=
  fmB x.2.2.2 && (if x.1 == 1 || x.1 == 2 then axB s H x
    else if x.1 == 3 then decide (0 ≤ x.2.1 ∧ x.2.1 ≤ (k : Int) - 1) && (decide (0 ≤ x.2.2.1 ∧ x.2.2.1 ≤ (k : Int) - 1) && decide ((hl L x.2.1.toNat).2.2.2 = Fm.join 4 (hl L x.2.2.1.toNat).2.2.2 x.2.2.2))
    else if x.1 == 4 then !(s.toList == [73, 110, 116]) && (!(s.toList == [67, 76]) && (decide (0 ≤ x.2.1 ∧ x.2.1 ≤ (k : Int) - 1) && (x.2.2.1 == 0 && (!ne L x.2.1.toNat && decide (x.2.2.2 = Fm.pre 5 (hl L x.2.1.toNat).2.2.2)))))
    else false)
noncomputable def fine (s : ByteArray) (H : List (List Nd)) (L : List Hl) (k : Nat) : Bool := fineX s H L k (hl L k)
theorem fx_no {s : ByteArray} {H : List (List Nd)} {L : List Hl} {k : Nat} {r a b : Int} {f : List Nd} (h : fmB f = false) : fineX s H L k (r, a, b, f) = false := by unfold fineX; simp only [h, Bool.false_and]
theorem fx_1 {s : ByteArray} {H : List (List Nd)} {L : List Hl} {k : Nat} {a b : Int} {f : List Nd} (h : fmB f = true) : fineX s H L k (1, a, b, f) = (b == 0 && (decide (a ∈ (sysL s).getD []) && instB a.toNat f)) := by
  unfold fineX axB
  simp only [h, Bool.true_and, show ((1 : Int) == 1) = true from rfl, show ((1 : Int) == 2) = false from rfl, Bool.or_false, Bool.false_eq_true, if_false, if_true]
theorem fx_2 {s : ByteArray} {H : List (List Nd)} {L : List Hl} {k : Nat} {a b : Int} {f : List Nd} (h : fmB f = true) : fineX s H L k (2, a, b, f) = (b == 0 && (decide (0 ≤ a ∧ a ≤ (H.length : Int) - 1) && decide (H.getD a.toNat [] = f))) := by
  unfold fineX axB
  simp only [h, Bool.true_and, show ((2 : Int) == 1) = false from rfl, show ((2 : Int) == 2) = true from rfl, Bool.false_or, if_true]
theorem fx_3 {s : ByteArray} {H : List (List Nd)} {L : List Hl} {k : Nat} {a b : Int} {f : List Nd} (h : fmB f = true) : fineX s H L k (3, a, b, f) = (decide (0 ≤ a ∧ a ≤ (k : Int) - 1) && (decide (0 ≤ b ∧ b ≤ (k : Int) - 1) && decide ((hl L a.toNat).2.2.2 = Fm.join 4 (hl L b.toNat).2.2.2 f))) := by
  unfold fineX
  simp only [h, Bool.true_and, show ((3 : Int) == 1) = false from rfl, show ((3 : Int) == 2) = false from rfl, show ((3 : Int) == 3) = true from rfl, Bool.or_self, Bool.false_eq_true, if_false, if_true]
theorem fx_4 {s : ByteArray} {H : List (List Nd)} {L : List Hl} {k : Nat} {a b : Int} {f : List Nd} (h : fmB f = true) : fineX s H L k (4, a, b, f) = (!(s.toList == [73, 110, 116]) && (!(s.toList == [67, 76]) && (decide (0 ≤ a ∧ a ≤ (k : Int) - 1) && (b == 0 && (!ne L a.toNat && decide (f = Fm.pre 5 (hl L a.toNat).2.2.2)))))) := by
  unfold fineX
  simp only [h, Bool.true_and, show ((4 : Int) == 1) = false from rfl, show ((4 : Int) == 2) = false from rfl, show ((4 : Int) == 3) = false from rfl, show ((4 : Int) == 4) = true from rfl, Bool.or_self, Bool.false_eq_true, if_false, if_true]
theorem fx_0 {s : ByteArray} {H : List (List Nd)} {L : List Hl} {k : Nat} {r a b : Int} {f : List Nd} (h1 : r ≠ 1) (h2 : r ≠ 2) (h3 : r ≠ 3) (h4 : r ≠ 4) : fineX s H L k (r, a, b, f) = false := by
  unfold fineX
  simp only [show (r == 1) = false by simpa using h1, show (r == 2) = false by simpa using h2, show (r == 3) = false by simpa using h3, show (r == 4) = false by simpa using h4, Bool.or_self, Bool.false_eq_true, if_false, Bool.and_false]
/-- The lines whose indices a fine line has lie ahead. -/
theorem fine_in {s : ByteArray} {H : List (List Nd)} {L : List Hl} {k : Nat} (h : fine s H L k = true) (hr : (hl L k).1 = 3 ∨ (hl L k).1 = 4) : 0 ≤ (hl L k).2.1 ∧ (hl L k).2.1 < (k : Int) := by
  unfold fine fineX at h
  generalize hl L k = x at *
  rcases hr with hr | hr
  · simp only [hr, Bool.and_eq_true, decide_eq_true_eq, show ((3 : Int) == 1) = false from rfl, show ((3 : Int) == 2) = false from rfl, show ((3 : Int) == 3) = true from rfl, Bool.or_self, Bool.false_eq_true, if_false, if_true] at h
    omega
  · simp only [hr, Bool.and_eq_true, decide_eq_true_eq, show ((4 : Int) == 1) = false from rfl, show ((4 : Int) == 2) = false from rfl, show ((4 : Int) == 3) = false from rfl, show ((4 : Int) == 4) = true from rfl, Bool.or_self, Bool.false_eq_true, if_false, if_true] at h
    omega
theorem fine_in2 {s : ByteArray} {H : List (List Nd)} {L : List Hl} {k : Nat} (h : fine s H L k = true) (hr : (hl L k).1 = 3) : 0 ≤ (hl L k).2.2.1 ∧ (hl L k).2.2.1 < (k : Int) := by
  unfold fine fineX at h
  generalize hl L k = x at *
  simp only [hr, Bool.and_eq_true, decide_eq_true_eq, show ((3 : Int) == 1) = false from rfl, show ((3 : Int) == 2) = false from rfl, show ((3 : Int) == 3) = true from rfl, Bool.or_self, Bool.false_eq_true, if_false, if_true] at h
  omega
theorem fine_fm {s : ByteArray} {H : List (List Nd)} {L : List Hl} {k : Nat} (h : fine s H L k = true) : fmB (hl L k).2.2.2 = true := by
  unfold fine fineX at h
  rw [Bool.and_eq_true] at h
  exact h.1

/-- The first place where f fails, or -1. -/
def fbI (f : Nat → Bool) (n : Nat) : Int := match (List.range n).find? (fun i => !f i) with | some i => (i : Int) | none => -1
theorem fbI_at {f : Nat → Bool} {n j : Nat} (hj : j < n) (h : ∀ i, i < j → f i = true) (hf : f j = false) : fbI f n = (j : Int) := by
  have : (List.range n).find? (fun i => !f i) = some j := by
    rw [List.find?_range_eq_some]
    refine ⟨by simp [hf], by simpa using hj, fun i hi => by simp [h i hi]⟩
  rw [fbI, this]
theorem fbI_end {f : Nat → Bool} {n : Nat} (h : ∀ i, i < n → f i = true) : fbI f n = -1 := by
  have : (List.range n).find? (fun i => !f i) = none := by
    rw [List.find?_eq_none]
    intro i hi
    rw [List.mem_range] at hi
    simp [h i hi]
  rw [fbI, this]

/-- The first j are fine. -/
def FineTo (f : Nat → Bool) (j : Nat) : Prop := ∀ i, i < j → f i = true
theorem FineTo.zero (f : Nat → Bool) : FineTo f 0 := fun i hi => absurd hi (by omega)
theorem FineTo.succ {f : Nat → Bool} {j : Nat} (h : FineTo f j) (h1 : f j = true) : FineTo f (j + 1) := by
  intro i hi
  rcases Nat.lt_or_ge i j with hk | hk
  · exact h i hk
  · obtain rfl : i = j := by omega
    exact h1

/-- A list of numbers that tells on which hypotheses the k-th line depends: it is short, and empty where there are none. -/
structure DepOk (L : List Hl) (k : Nat) (U : List Int) : Prop where
  nodup : U.Nodup
  sub : ∀ a ∈ U, a ∈ (L.take (k + 1)).map fun x => x.2.1
  emp : U = [] ↔ ne L k = false
theorem nodup_len : ∀ (U M : List Int), U.Nodup → (∀ a ∈ U, a ∈ M) → U.length ≤ M.length
  | [], _, _, _ => Nat.zero_le _
  | a :: U, M, h, hs => by
    have ha := hs a (by simp)
    rw [List.nodup_cons] at h
    have ih := nodup_len U (M.erase a) h.2 (fun b hb => (List.mem_erase_of_ne (by rintro rfl; exact h.1 hb)).2 (hs b (by simp [hb])))
    rw [List.length_erase_of_mem ha] at ih
    have := List.length_pos_of_mem ha
    simp; omega
theorem DepOk.len {L : List Hl} {k : Nat} {U : List Int} (h : DepOk L k U) : U.length ≤ k + 1 := by
  have h1 := nodup_len _ _ h.nodup h.sub
  simp at h1
  omega
/-- The lists of the lines. -/
def DepsOk (L : List Hl) (Us : List (List Int)) : Prop := ∀ j, j < Us.length → DepOk L j (Us.getD j [])
theorem DepsOk.nil (L : List Hl) : DepsOk L [] := fun j hj => absurd hj (by simp)
theorem DepsOk.snoc {L : List Hl} {Us : List (List Int)} {U : List Int} (h : DepsOk L Us) (hU : DepOk L Us.length U) : DepsOk L (Us ++ [U]) := by
  intro j hj
  rw [List.length_append] at hj
  rw [List.getD_eq_getElem?_getD]
  rcases Nat.lt_or_ge j Us.length with hk | hk
  · rw [List.getElem?_append_left hk, ← List.getD_eq_getElem?_getD]
    exact h j hk
  · obtain rfl : j = Us.length := by simp at hj; omega
    simpa using hU
theorem take_mono {L : List Hl} {i j : Nat} (h : i ≤ j) {a : Int} (ha : a ∈ (L.take i).map fun x => x.2.1) : a ∈ (L.take j).map fun x => x.2.1 := by
  rw [List.mem_map] at ha ⊢
  obtain ⟨x, hx, rfl⟩ := ha
  refine ⟨x, ?_, rfl⟩
  have e : L.take i = (L.take j).take i := by rw [List.take_take]; congr 1; omega
  rw [e] at hx
  exact List.mem_of_mem_take hx
theorem self_mem {L : List Hl} {k : Nat} (hk : k < L.length) : (hl L k).2.1 ∈ (L.take (k + 1)).map fun x => x.2.1 := by
  rw [List.mem_map]
  refine ⟨hl L k, ?_, rfl⟩
  rw [List.take_succ_eq_append_getElem hk]
  have e : L[k] = hl L k := by simp [hl, List.getD, hk]
  simp [e]
theorem sub_take {L : List Hl} {i k : Nat} (hik : i < k) {U : List Int} (h : DepOk L i U) : ∀ a ∈ U, a ∈ (L.take (k + 1)).map fun x => x.2.1 := fun a ha => take_mono (by omega) (h.sub a ha)
theorem dep_rule {L : List Hl} {k : Nat} {r : Int} (h : (hl L k).1 = r) (h2 : r ≠ 2) (h3 : r ≠ 3) (h4 : r ≠ 4) : DepOk L k [] := by
  refine ⟨List.nodup_nil, fun a ha => absurd ha (by simp), ?_⟩
  unfold ne neOne
  rw [h, if_neg (by simpa using h2), if_neg (by simpa using h3), if_neg (by simpa using h4)]
  simp
theorem dep_two {L : List Hl} {k : Nat} (hk : k < L.length) (h : (hl L k).1 = 2) : DepOk L k [(hl L k).2.1] := by
  refine ⟨by simp, fun a ha => ?_, ?_⟩
  · simp at ha; subst ha; exact self_mem hk
  · unfold ne neOne
    simp only [h, show ((2 : Int) == 2) = true from rfl, if_true]
    simp
theorem dep_four {L : List Hl} {k i : Nat} (h : (hl L k).1 = 4) (hi : (hl L k).2.1 = (i : Int)) (hik : i < k) {U : List Int} (hU : DepOk L i U) : DepOk L k U := by
  refine ⟨hU.nodup, sub_take hik hU, ?_⟩
  rw [hU.emp]
  conv => rhs; unfold ne neOne
  simp only [h, hi, Int.toNat_natCast, nes_at L hik, show ((4 : Int) == 2) = false from rfl, show ((4 : Int) == 3) = false from rfl, show ((4 : Int) == 4) = true from rfl, Bool.false_eq_true, if_false, if_true]
/-- Of two lists: what the third has. -/
theorem dep_three {L : List Hl} {k i j : Nat} (h : (hl L k).1 = 3) (hi : (hl L k).2.1 = (i : Int)) (hj : (hl L k).2.2.1 = (j : Int)) (hik : i < k) (hjk : j < k) {U V X : List Int} (hU : DepOk L i U) (hV : DepOk L j V)
    (hn : X.Nodup) (hm : ∀ a, a ∈ X ↔ a ∈ U ∨ a ∈ V) : DepOk L k X := by
  refine ⟨hn, fun a ha => ?_, ?_⟩
  · rcases (hm a).1 ha with ha | ha
    · exact sub_take hik hU a ha
    · exact sub_take hjk hV a ha
  · have e : X = [] ↔ U = [] ∧ V = [] := by
      constructor
      · rintro rfl
        refine ⟨List.eq_nil_iff_forall_not_mem.2 fun a ha => ?_, List.eq_nil_iff_forall_not_mem.2 fun a ha => ?_⟩
        · exact absurd ((hm a).2 (.inl ha)) (by simp)
        · exact absurd ((hm a).2 (.inr ha)) (by simp)
      · rintro ⟨rfl, rfl⟩
        exact List.eq_nil_iff_forall_not_mem.2 fun a ha => by simpa using (hm a).1 ha
    rw [e, hU.emp, hV.emp]
    conv => rhs; unfold ne neOne
    simp only [h, hi, hj, Int.toNat_natCast, nes_at L hik, nes_at L hjk, show ((3 : Int) == 2) = false from rfl, show ((3 : Int) == 3) = true from rfl, Bool.false_eq_true, if_false, if_true, Bool.or_eq_false_iff]
/-- The list so far: the first list and the first m of the second that are not in it. -/
structure Uni (U V : List Int) (m : Nat) (X : List Int) : Prop where
  nodup : X.Nodup
  mem : ∀ a, a ∈ X ↔ a ∈ U ∨ a ∈ V.take m
theorem Uni.zero {U V : List Int} (h : U.Nodup) : Uni U V 0 U := ⟨h, fun a => by simp⟩
theorem Uni.had {U V : List Int} {m : Nat} {X : List Int} (h : Uni U V m X) (hm : m < V.length) (hx : V.getD m 0 ∈ X) : Uni U V (m + 1) X := by
  refine ⟨h.nodup, fun a => ?_⟩
  have e : V.take (m + 1) = V.take m ++ [V.getD m 0] := by rw [List.take_succ_eq_append_getElem hm]; simp [List.getD, hm]
  rw [e, List.mem_append, ← or_assoc, ← h.mem a]
  constructor
  · exact .inl
  · rintro (hh | hh)
    · exact hh
    · simp only [List.mem_singleton] at hh; subst hh; exact hx
theorem Uni.add {U V : List Int} {m : Nat} {X : List Int} (h : Uni U V m X) (hm : m < V.length) (hx : V.getD m 0 ∉ X) : Uni U V (m + 1) (X ++ [V.getD m 0]) := by
  refine ⟨?_, fun a => ?_⟩
  · rw [List.nodup_append]
    refine ⟨h.nodup, by simp, fun a ha b hb => ?_⟩
    simp only [List.mem_singleton] at hb
    subst hb
    rintro rfl
    exact hx ha
  · have e : V.take (m + 1) = V.take m ++ [V.getD m 0] := by rw [List.take_succ_eq_append_getElem hm]; simp [List.getD, hm]
    rw [e, List.mem_append, List.mem_append, ← or_assoc, ← h.mem a]
theorem Uni.len {U V : List Int} {m : Nat} {X : List Int} (h : Uni U V m X) : X.length ≤ U.length + (V.take m).length := by
  have := nodup_len X (U ++ V.take m) h.nodup (fun a ha => by rw [List.mem_append]; exact (h.mem a).1 ha)
  simpa using this
theorem Uni.all {U V X : List Int} (h : Uni U V V.length X) (a : Int) : a ∈ X ↔ a ∈ U ∨ a ∈ V := by rw [h.mem, List.take_length]
end Go.Proofs.YtnbnhapepcegpaaGreatDoor

/- Rows of rows of numbers of the call's own, that grow by append; l01Has, l01Own of numbers. -/
namespace Go.Proofs.YtnbnhapepcegpaaGreatDoor
open Go.RowKit

theorem infoIs : (Tryz.prog.info? 69).map (fun i => (i.zero, i.size, i.bytes)) = some (some (.slice none 0 0), 1, 24) := by kernel_rfl
theorem tyIs : (2 : TypeId) ≠ 69 := by decide
/-- A row of the call's own, newer than block B, of rows of the call's own. -/
def OwnU (w : World) (B : Nat) (v : Value) (Us : List (List Int)) : Prop :=
  ∃ us : List Value, us.length = Us.length ∧ w.ownsRow B 69 1 v Us.length us ∧ ∀ j, j < Us.length → OwnI w B (us.getD j (.bool false)) (Us.getD j [])
theorem OwnU.grew {w w' : World} {B : Nat} {v : Value} {Us : List (List Int)} (h : OwnU w B v Us) (hg : Grew w w') : OwnU w' B v Us := by
  obtain ⟨us, h1, h2, h3⟩ := h
  exact ⟨us, h1, own_grew h2 hg, fun j hj => (h3 j hj).grew hg⟩
theorem OwnU.base {w : World} {B B' : Nat} {v : Value} {Us : List (List Int)} (h : OwnU w B v Us) (hb : B' ≤ B) : OwnU w B' v Us := by
  obtain ⟨us, h1, h2, h3⟩ := h
  exact ⟨us, h1, own_base h2 hb, fun j hj => (h3 j hj).base hb⟩
theorem OwnU.nil_ (w : World) (B : Nat) : OwnU w B (.slice none 0 0) [] := ⟨[], rfl, World.ownsRow_nil w B _ 1, fun j hj => absurd hj (by simp)⟩
theorem OwnU.lit (w : World) : OwnU (w.alloc (.cells #[] 69)) w.heap.size (.slice (some ⟨w.heap.size, 0, none⟩) 0 0) [] :=
  ⟨[], rfl, World.ownsRow_lit (e := 69) (size := 1) w #[] 0 (Nat.le_refl _) (by first | omega | decide | simp) rfl, fun j hj => absurd hj (by simp)⟩
theorem kept_of {w w' : World} {base : Nat} {e : TypeId} {k n : Nat} {v : Value} {xs : List Value} {r : Option Nat} (h : w.ownsRow base e k v n xs) (hg : w.grownBy w' r) (hne : ∀ g, r = some g → v.ownBlock ≠ some g) : w'.ownsRow base e k v n xs := by
  cases r with
  | none => exact h.kept (row := none) hg (by cases hv : v.ownBlock <;> simp)
  | some g => exact own_only h (g := g) hg (hne g rfl)
/-- Rows of different types lie in different blocks. -/
theorem types_ne {w : World} {B B' : Nat} {e e' : TypeId} {k k' n n' : Nat} {v v' : Value} {xs xs' : List Value} (h : w.ownsRow B e k v n xs) (h' : w.ownsRow B' e' k' v' n' xs') (hne : e ≠ e') : ∀ g, v'.ownBlock = some g → v.ownBlock ≠ some g := by
  intro g hg
  rcases h'.2 with ⟨rfl, _⟩ | ⟨g', cap, cur, rfl, _, hh, _⟩
  · simp [Value.ownBlock] at hg
  · have : g' = g := by simpa [Value.ownBlock] using hg
    subst this
    exact own_ne h hh hne
/-- What a row of rows holds at a place. -/
theorem OwnU.at_ {w : World} {B : Nat} {v : Value} {Us : List (List Int)} (h : OwnU w B v Us) {i : Nat} (hi : i < Us.length) : ∃ g c u, v = .slice (some ⟨g, 0, none⟩) Us.length c ∧ (∀ W, Grew w W → W.cell? ⟨g, i, none⟩ = some u) ∧ OwnI w B u (Us.getD i []) := by
  obtain ⟨us, h1, h2, h3⟩ := h
  obtain ⟨_, h4⟩ := h2
  rcases h4 with ⟨_, h5⟩ | ⟨g, cap, cur, rfl, hb, hg, hnc, hcm, hcs, ht⟩
  · omega
  · refine ⟨g, cap, us.getD i (.bool false), rfl, fun W hW => ?_, h3 i hi⟩
    rw [hW.cell (p := ⟨g, i, none⟩) (blk_lt hg), blk_cell hg]
    have e : us[i]? = some (us.getD i (.bool false)) := by rw [List.getElem?_eq_getElem (by omega)]; simp [List.getD, h1, hi]
    rw [← e, ← ht, List.getElem?_take, if_pos (by omega)]
    simp
theorem OwnU.slice {w : World} {B : Nat} {v : Value} {Us : List (List Int)} (h : OwnU w B v Us) : ∃ A c, v = .slice A Us.length c := by
  obtain ⟨us, h1, h2, h3⟩ := h
  obtain ⟨_, h4⟩ := h2
  rcases h4 with ⟨rfl, h5⟩ | ⟨g, cap, cur, rfl, hb, hg, hnc, hcm, hcs, ht⟩
  · rw [h5]; exact ⟨_, _, rfl⟩
  · exact ⟨_, _, rfl⟩
theorem own_of_geU {w : World} {B : Nat} {v : Value} {Us : List (List Int)} (h : OwnU w B v Us) {g : Nat} (hg : v.ownBlock = some g) : B ≤ g := by
  obtain ⟨us, h1, h2, h3⟩ := h
  exact own_of_ge h2 hg
theorem snocU {w w' : World} {B : Nat} {v v' u : Value} {Us : List (List Int)} {U : List Int} {us : List Value} (h1 : us.length = Us.length) (h2 : w.ownsRow B 69 1 v Us.length us) (h3 : ∀ j, j < Us.length → OwnI w B (us.getD j (.bool false)) (Us.getD j [])) (hu : OwnI w B u U)
    (k1 : w'.ownsRow B 69 1 v' (Us.length + 1) (us ++ [u])) (k2 : w.grownBy w' v.ownBlock) : OwnU w' B v' (Us ++ [U]) := by
  refine ⟨us ++ [u], by simp [h1], by rw [List.length_append]; exact k1, fun j hj => ?_⟩
  rw [List.getD_eq_getElem?_getD, List.getD_eq_getElem?_getD]
  rcases Nat.lt_or_ge j Us.length with hk | hk
  · rw [List.getElem?_append_left (by omega), List.getElem?_append_left hk, ← List.getD_eq_getElem?_getD, ← List.getD_eq_getElem?_getD]
    have := h3 j hk
    exact kept_of this k2 (types_ne this h2 tyIs)
  · obtain rfl : j = Us.length := by simp at hj; omega
    have e : us.length ≤ Us.length := by omega
    rw [List.getElem?_append_right e, List.getElem?_append_right (Nat.le_refl _), h1, Nat.sub_self]
    exact kept_of hu k2 (types_ne hu h2 tyIs)
/-- 'append(out, x)', out a row of rows. -/
theorem wpList_appU {ops : Array Oper} {rest : List Oper} {o : Oper} {a : Act} {Q : Exit → Act → World → Prop} {w : World} (B : Nat) (s x : Operand) (hgd : o.guard = none)
    (ho : o.op = .call { callee := .builtin .append, args := #[s, x], argTypes := #[56, 56] })
    (v : Value) (Us : List (List Int)) (hs : a.eval s = v) (hown : OwnU w B v Us) (hB : B ≤ w.heap.size) (vx u : Value) (U : List Int) (hx : a.eval x = vx) (hr : Rd w 1 vx 1 [u]) (hu : OwnI w B u U) (hn : Us.length ≤ 1048576)
    (h : ∀ v' w', OwnU w' B v' (Us ++ [U]) → w.grownBy w' v.ownBlock → wpList Tryz.prog ops Q rest (a.put o.dst v') w') : wpList Tryz.prog ops Q (o :: rest) a w := by
  obtain ⟨i0, hi0, hz0, hz1, hz2⟩ := info_parts infoIs
  obtain ⟨us, h1, h2, h3⟩ := hown
  have hu1 : u.oneCell' = true := by
    obtain ⟨A, c, rfl⟩ := ints_slice hu.ints
    rfl
  refine wpList_append_rd w hgd s x _ ho B 69 i0 _ 1 24 Tryz.underlying56 hi0 hz0 hz1 hz2 rfl (by omega) v Us.length us hs h2 vx 1 [u] hx hr (by simpa using hu1) (by unfold maxLen; omega) (by omega) hB ?_
  intro v' w' k1 k2 _
  exact h v' w' (snocU h1 h2 h3 hu k1 k2) k2
theorem rd_litU (w : World) (u : Value) (t : TypeId) : Rd (w.alloc (.cells #[u] t)) 1 (.slice (some ⟨w.heap.size, 0, none⟩) 1 1) 1 [u] := by
  refine ⟨rfl, by omega, .inr ⟨w.heap.size, 0, 1, rfl, by omega, by omega, by simp, fun j x hx => ?_⟩⟩
  have hj : j = 0 := by
    have := (List.getElem?_eq_some_iff.1 hx).1
    simp at this
    omega
  subst hj
  simp at hx
  subst hx
  simp
theorem rd_litU' (w : World) (n : Nat) (hn : w.heap.size = n) (u : Value) (t : TypeId) : Rd (w.alloc (.cells #[u] t)) 1 (.slice (some ⟨n, 0, none⟩) 1 1) 1 [u] := by
  subst hn
  exact rd_litU w u t
theorem litI1' (w : World) (n : Nat) (hn : w.heap.size = n) (k : Int) : OwnI (w.alloc (.cells #[.int .i64 k] 2)) n (.slice (some ⟨n, 0, none⟩) 1 1) [k] := by
  subst hn
  exact litI1 w k
theorem rd_litI' (w : World) (n : Nat) (hn : w.heap.size = n) (k : Int) (t : TypeId) : Rd (w.alloc (.cells #[.int .i64 k] t)) 1 (.slice (some ⟨n, 0, none⟩) 1 1) 1 [.int .i64 k] := by
  subst hn
  exact rd_litI w k t

theorem l01OwnI_c (v : Value) (L : List Int) (w : World) (h : Ints w v L) (hn : L.length ≤ 1048575) :
    Calls Tryz.prog 70 #[v] w (GivesI w L) := by
  have he := own_emptyI w
  have hr := h.grew ((Grew.refl w).alloc (.cells #[] 2))
  go_enter Tryz.func70, Tryz.ntmps70
  go_wp2_with (at_builtin; refine wpList_appIs (w0 := w) _ _ rfl rfl _ [] rfl he ((Grew.refl w).alloc _) v L rfl hr (by simp; omega) ?_; intro v1 w1 hown1 hg1 _)
  go_ret
  exact ⟨_, rfl, by simpa using hown1, hg1⟩
/-- None of the first k is x. -/
def NotI (L : List Int) (x : Int) (k : Nat) : Prop := ∀ i, i < k → it L i ≠ x
theorem NotI.zero (L : List Int) (x : Int) : NotI L x 0 := fun i hi => absurd hi (by omega)
theorem NotI.succ {L : List Int} {x : Int} {k : Nat} (h : NotI L x k) (h1 : it L k ≠ x) : NotI L x (k + 1) := by
  intro i hi
  rcases Nat.lt_or_ge i k with hk | hk
  · exact h i hk
  · obtain rfl : i = k := by omega
    exact h1
theorem NotI.all {L : List Int} {x : Int} (h : NotI L x L.length) : decide (x ∈ L) = false := by
  rw [decide_eq_false_iff_not]
  intro hx
  obtain ⟨i, hi, rfl⟩ := List.getElem_of_mem hx
  exact h i hi (it_get hi).symm
theorem it_mem {L : List Int} {i : Nat} (h : i < L.length) : it L i ∈ L := by rw [← it_get h]; exact List.getElem_mem h
theorem l01Has_c (v : Value) (L : List Int) (x : Int) (w : World) (h : Ints w v L) :
    Calls Tryz.prog 47 #[v, .int .i64 x] w fun e w' => e = .returned (.bool (decide (x ∈ L))) ∧ Grew w w' := by
  rcases h.open_ with ⟨rfl, rfl⟩ | ⟨b, o, c, rfl, hc, hm, hb, hcell⟩
  · clear h
    go_enter Tryz.func47, Tryz.ntmps47
    go_wp2_with fail
    refine wp_loop_rounds 1 ?_; rw [rounds_succ]
    go_wp2_with fail
    go_ret
    exact ⟨by simp, Grew.refl _⟩
  · obtain ⟨R, hR⟩ : ∃ R, R = decide (x ∈ L) := ⟨_, rfl⟩
    rw [← hR]
    have HY := Lib.hid (fun i (hi : i < L.length) (he : it L i = x) => (by rw [hR]; exact decide_eq_true (by rw [← he]; exact it_mem hi) : R = true))
    have HZ := Lib.hid (fun (h : NotI L x L.length) => hR.trans h.all)
    have HC := Lib.hid hcell
    clear h hcell hR
    generalize hN : L.length = n at *
    clear hN
    go_enter Tryz.func47, Tryz.ntmps47
    go_wp2_with fail
    go_loopw [5] (fun i wr => ∃ j : Nat, j ≤ n ∧ i = .int .i64 j ∧ Grew w wr ∧ Hid (NotI L x j)) (fun i _ => n - (intOf i).toNat)
    case atStart => exact ⟨0, Nat.zero_le _, rfl, Grew.refl _, NotI.zero _ _⟩
    case round =>
      obtain ⟨j, hj, rfl, hB, HJ⟩ := hrel
      by_cases hlt : j < n
      · have k1 := HC.out j hlt _ hB
        have hS := Lib.hid (fun h => HJ.out.succ (k := j) h)
        have hY := Lib.hid (HY.out j hlt)
        generalize it L j = y at *
        by_cases hy : y = x
        · have hv := hY.out hy
          subst hy
          go_wp2_with fail
          go_ret
          exact ⟨by first | rfl | (rw [hv]; rfl), hB⟩
        · have hs := Lib.hid (hS.out hy)
          have hq : (y == x) = false := by simpa using hy
          clear hy
          go_wp2_with fail
          go_roundw
          case rel => exact ⟨j + 1, by omega, by go_num, hB, hs⟩
          case measure => simp [intOf]; omega
      · obtain rfl : j = n := by omega
        have hv := Lib.hid (HZ.out HJ.out)
        go_wp2_with fail
        go_ret
        exact ⟨by rw [hv.out]; rfl, hB⟩
end Go.Proofs.YtnbnhapepcegpaaGreatDoor

/- l13Depends of the reference: for each line the hypotheses on which it depends. -/
namespace Go.Proofs.YtnbnhapepcegpaaGreatDoor
open Go.RowKit
open Fm (Nd)

/-- The premises of the lines lie ahead. -/
def PremIn (L : List Hl) (k : Nat) : Prop := ∀ j, j < k → ((hl L j).1 = 3 → ∃ a b : Nat, (hl L j).2.1 = (a : Int) ∧ (hl L j).2.2.1 = (b : Int) ∧ a < j ∧ b < j) ∧ ((hl L j).1 = 4 → ∃ a : Nat, (hl L j).2.1 = (a : Int) ∧ a < j)
theorem FineTo.prem {s : ByteArray} {H : List (List Nd)} {L : List Hl} {k : Nat} (h : FineTo (fine s H L) k) : PremIn L k := by
  intro j hj
  have h1 := h j hj
  refine ⟨fun hr => ?_, fun hr => ?_⟩
  · have a := fine_in h1 (.inl hr)
    have b := fine_in2 h1 hr
    exact ⟨(hl L j).2.1.toNat, (hl L j).2.2.1.toNat, by omega, by omega, by omega, by omega⟩
  · have a := fine_in h1 (.inr hr)
    exact ⟨(hl L j).2.1.toNat, by omega, by omega⟩

set_option maxHeartbeats 4000000 in
set_option maxRecDepth 100000 in
theorem l13Depends_c (A : Option Addr) (c : Nat) (L : List Hl) (k : Nat) (w : World) (hkL : k ≤ L.length) (hk : k ≤ 200) (hkc : k ≤ c) (hP : PremIn L k)
    (hcell : 0 < k → ∃ b o, A = some ⟨b, o, none⟩ ∧ ∀ i, i < k → ∀ W, Grew w W → W.cell? ⟨b, o + i * 4, none⟩ = some (.int .i64 (hl L i).1) ∧ W.cell? ⟨b, o + i * 4 + 1, none⟩ = some (.int .i64 (hl L i).2.1) ∧ W.cell? ⟨b, o + i * 4 + 2, none⟩ = some (.int .i64 (hl L i).2.2.1)) :
    Calls Tryz.prog 52 #[.slice A k c] w fun e w' => ∃ v Us, e = .returned v ∧ OwnU w' w.heap.size v Us ∧ Us.length = k ∧ DepsOk L Us ∧ Grew w w' := by
  have HC := Lib.hid hcell
  have HP := Lib.hid hP
  clear hcell hP
  have hU0 := OwnU.lit w
  have hG0 := (Grew.refl w).alloc (.cells #[] 69)
  go_enter Tryz.func52, Tryz.ntmps52
  go_wp2_with fail
  go_loopg [3, 4, 5, 6, 7] k (fun g vo i _ _ _ wr => ∃ (j : Nat) (Us : List (List Int)), j ≤ k ∧ g = k - j ∧ i = .int .i64 j ∧ OwnU wr w.heap.size vo Us ∧ Us.length = j ∧ Hid (DepsOk L Us) ∧ Grew w wr)
  case atStart => exact ⟨0, [], Nat.zero_le _, by omega, rfl, hU0, rfl, Lib.hid (DepsOk.nil L), hG0⟩
  case round =>
    obtain ⟨j, Us, hj, rfl, rfl, hU, hUl, HD, hB⟩ := hrel
    by_cases hlt : j < k
    · obtain ⟨b, o, rfl, hcl⟩ := HC.out (by omega)
      have k1 := fun W (hW : Grew wr W) => (hcl j hlt W (hB.trans hW)).1
      have k2 := fun W (hW : Grew wr W) => (hcl j hlt W (hB.trans hW)).2.1
      have k3 := fun W (hW : Grew wr W) => (hcl j hlt W (hB.trans hW)).2.2
      obtain ⟨HP3, HP4⟩ := HP.out j hlt
      have HP3 := Lib.hid HP3
      have HP4 := Lib.hid HP4
      obtain ⟨AO, cO, rfl⟩ := hU.slice
      have SN := Lib.hid (fun U (hu : DepOk L j U) => HD.out.snoc (by rw [hUl]; exact hu))
      have DA := Lib.hid (fun i (hi : i < j) => HD.out i (by omega))
      have UA := Lib.hid (fun i (hi : i < j) => hU.at_ (i := i) (by omega))
      have hUb : Us.length ≤ 1048576 := by omega
      have HUL := Lib.hid hUl
      have HUB := Lib.hid hUb
      rw [hUl] at hU UA ⊢
      have HU := Lib.hid hU
      clear hUl hUb
      have hr0 := (Grew.refl wr).alloc (.cells #[] 2)
      have hre := own_emptyI wr
      clear hcl hU
      have D2 := Lib.hid (fun h => dep_two (L := L) (k := j) (by omega) h)
      have D4 := Lib.hid (fun i h hi hik U hu => dep_four (L := L) (k := j) (i := i) h hi hik (U := U) hu)
      have D3 := Lib.hid (fun i m h hi hm hik hmk U V X hu hv hn hmm => dep_three (L := L) (k := j) (i := i) (j := m) h hi hm hik hmk (U := U) (V := V) (X := X) hu hv hn hmm)
      have D0 := Lib.hid (fun r h h2 h3 h4 => dep_rule (L := L) (k := j) (r := r) h h2 h3 h4)
      generalize hx : hl L j = x at *
      have hx := Lib.hid hx
      obtain ⟨rr, fi, se, fo⟩ := x
      simp only at k1 k2 k3 HP3 HP4 D2 D4 D3 D0
      by_cases h2 : rr = 2
      · subst h2
        have hd := D2.out rfl
        have hgL := hr0.alloc (.cells #[.int .i64 fi] 2)
        have hli := (litI1' (wr.alloc (.cells #[] 2)) (wr.heap.size + 1) (by simp) fi).base (B' := w.heap.size) (by have := hB.size; omega)
        have hrd := rd_litU' ((wr.alloc (.cells #[] 2)).alloc (.cells #[.int .i64 fi] 2)) (wr.heap.size + 2) (by simp) (.slice (some ⟨wr.heap.size + 1, 0, none⟩) 1 1) 69
        have hre2 := hli.grew ((Grew.refl _).alloc (.cells #[.slice (some ⟨wr.heap.size + 1, 0, none⟩) 1 1] 69))
        have hU2 := HU.out.grew (hgL.alloc (.cells #[.slice (some ⟨wr.heap.size + 1, 0, none⟩) 1 1] 69))
        have hgA := hgL.alloc (.cells #[.slice (some ⟨wr.heap.size + 1, 0, none⟩) 1 1] 69)
        have hsz2 := Nat.le_trans hB.size hgA.size
        go_wp2_with (at_builtin; refine wpList_appU w.heap.size _ _ rfl rfl _ Us rfl hU2 hsz2 _ _ [fi] rfl hrd hre2 HUB.out ?_; intro v1 w1 hown1 hgb)
        go_roundg (k - (j + 1))
        case measure => omega
        case rel => exact ⟨j + 1, Us ++ [[fi]], by omega, rfl, by go_num, hown1, by rw [List.length_append, HUL.out]; rfl, Lib.hid (SN.out _ hd), (hB.trans hgA).grown hgb (fun g hg => own_of_geU HU.out hg)⟩
      by_cases h3 : rr = 3
      · subst h3
        obtain ⟨a, b2, rfl, rfl, haj, hbj⟩ := HP3.out rfl
        obtain ⟨g, cg, u, hv, hcu, hou⟩ := UA.out a haj
        obtain ⟨g2, cg2, u2, hv2, hcu2, hou2⟩ := UA.out b2 hbj
        have hda := DA.out a haj
        have hdb := DA.out b2 hbj
        have hd := Lib.hid (fun X hn hm => D3.out a b2 rfl rfl rfl haj hbj _ _ X hda hdb hn hm)
        have hul := hda.len
        have hvl := hdb.len
        have hdn := hda.nodup
        obtain ⟨rfl, -, rfl⟩ : AO = some ⟨g, 0, none⟩ ∧ j = j ∧ cO = cg := by simpa using hv
        obtain ⟨rfl, -⟩ : g = g2 ∧ cO = cg2 := by simpa using hv2
        have KO := Lib.hid (fun W (hW : Grew wr W) => l01OwnI_c u (Us.getD a []) W (hou.grew hW).ints (by omega))
        have HV := Lib.hid (fun W (hW : Grew wr W) => (hou2.grew hW).ints)
        obtain ⟨Au, cu, rfl⟩ := ints_slice hou.ints
        obtain ⟨Av, cv, rfl⟩ := ints_slice hou2.ints
        clear hv hv2 h2 hou hou2 hda hdb
        generalize Us.getD a [] = U at *
        generalize Us.getD b2 [] = V at *
        have hdq : (a : Int) < (j : Int) := by omega
        have hdq2 : (b2 : Int) < (j : Int) := by omega
        go_wp2_with fail
        refine (KO.out _ hr0).mono ?_
        rintro e w5 ⟨v5, rfl, ho5, hg5⟩
        have hg45 := hr0.trans hg5
        have hw4 := hr0.size
        generalize wr.alloc (.cells #[] 2) = w4 at *
        have hVl : V.length ≤ 200 := by omega
        have hUl2 : U.length ≤ 200 := by omega
        have HZ := Lib.hid (Uni.zero (U := U) (V := V) hdn)
        go_wp2_with fail
        go_loopg [5, 7] V.length (fun gg lo i wx => ∃ (m : Nat) (X : List Int), m ≤ V.length ∧ gg = V.length - m ∧ i = .int .i64 m ∧ OwnI wx w4.heap.size lo X ∧ Hid (Uni U V m X) ∧ Grew w4 wx)
        case atStart => exact ⟨0, U, Nat.zero_le _, by omega, rfl, ho5, HZ, hg5⟩
        case round =>
          obtain ⟨m, X, hm, rfl, rfl, hX, HX, hBx⟩ := hrel
          have hBB := hr0.trans hBx
          have hXl := HX.out.len
          rw [List.length_take] at hXl
          by_cases hmt : m < V.length
          · have HVx := HV.out wr hBB
            rcases HVx.open_ with ⟨_, hz⟩ | ⟨bv, ov, cv', hvv, hvc, hvm, hvb, hvcell⟩
            · rw [hz] at hmt; simp at hmt
            obtain ⟨rfl, rfl⟩ : Av = some ⟨bv, ov, none⟩ ∧ cv = cv' := by simpa using hvv
            have q1 := hvcell m hmt
            have KH := Lib.hid (fun x => l01Has_c u5 X x wr hX.ints)
            have HA := Lib.hid (fun h => HX.out.add hmt h)
            have HH := Lib.hid (fun h => HX.out.had hmt h)
            have hit : V.getD m 0 = it V m := rfl
            rw [hit] at HA HH
            obtain ⟨AX, cX, rfl⟩ := ints_slice hX.ints
            generalize it V m = x at *
            have hrx := Grew.refl wr
            clear hvv hvcell HVx
            go_wp2_with fail
            refine (KH.out x).mono ?_
            rintro e wy ⟨rfl, hgy⟩
            have hXy := hX.grew hgy
            by_cases hx : x ∈ X
            · have hs := Lib.hid (HH.out hx)
              have hdx : decide (x ∈ X) = true := decide_eq_true hx
              rw [hdx]
              go_wp2_with fail
              go_roundg (V.length - (m + 1))
              case measure => omega
              case rel => exact ⟨m + 1, X, by omega, rfl, by go_num, hXy, hs, hBx.trans hgy⟩
            · have hs := Lib.hid (HA.out hx)
              have hdx : decide (x ∈ X) = false := decide_eq_false hx
              rw [hdx]
              have hrd := rd_litI wy x 2
              have hXa := hXy.grew ((Grew.refl wy).alloc (.cells #[.int .i64 x] 2))
              have hBy := (hBx.trans hgy).alloc (.cells #[.int .i64 x] 2)
              have hXb : X.length ≤ 1048576 := by omega
              go_wp2_with (at_builtin; refine wpList_appI (w0 := w4) _ _ rfl rfl _ X rfl hXa hBy _ x rfl hrd hXb ?_; intro v1 w1 hown1 hg1 hgb)
              go_roundg (V.length - (m + 1))
              case measure => omega
              case rel => exact ⟨m + 1, _, by omega, rfl, by go_num, hown1, hs, hg1⟩
          · obtain rfl : m = V.length := by omega
            have hd := hd.out X HX.out.nodup HX.out.all
            have ho5 := hX.base (B' := w.heap.size) (Nat.le_trans hB.size hw4)
            obtain ⟨A5, c5, rfl⟩ := ints_slice ho5.ints
            have hre2 := (ho5).grew ((Grew.refl wr).alloc (.cells #[(.slice A5 X.length c5)] 69))
            have hU2 := (HU.out.grew hBB).grew ((Grew.refl wr).alloc (.cells #[(.slice A5 X.length c5)] 69))
            have hrd := rd_litU wr (.slice A5 X.length c5) 69
            have hsz2 := Nat.le_trans hB.size (Grew.alloc hBB (.cells #[(.slice A5 X.length c5)] 69)).size
            have hgA := Grew.alloc hBB (.cells #[(.slice A5 X.length c5)] 69)
            go_wp2_with (at_builtin; refine wpList_appU w.heap.size _ _ rfl rfl _ Us rfl hU2 hsz2 _ _ X rfl hrd hre2 HUB.out ?_; intro v1 w1 hown1 hgb)
            go_roundg (k - (j + 1))
            case measure => omega
            case rel => exact ⟨j + 1, Us ++ [X], by omega, rfl, by go_num, hown1, by rw [List.length_append, HUL.out]; rfl, Lib.hid (SN.out _ (hd)), (hB.trans hgA).grown hgb (fun g hg => own_of_geU HU.out hg)⟩
      by_cases h4 : rr = 4
      · subst h4
        obtain ⟨a, rfl, haj⟩ := HP4.out rfl
        obtain ⟨g, cg, u, hv, hcu, hou⟩ := UA.out a haj
        have hda := DA.out a haj
        have hd := D4.out a rfl rfl haj _ hda
        have hul := hda.len
        obtain ⟨rfl, -, rfl⟩ : AO = some ⟨g, 0, none⟩ ∧ j = j ∧ cO = cg := by simpa using hv
        have KO := Lib.hid (fun W (hW : Grew wr W) => l01OwnI_c u (Us.getD a []) W (hou.grew hW).ints (by omega))
        obtain ⟨Au, cu, rfl⟩ := ints_slice hou.ints
        clear hv h2 h3 hou hda
        generalize Us.getD a [] = U at *
        have hdq : (a : Int) < (j : Int) := by omega
        go_wp2_with fail
        refine (KO.out _ hr0).mono ?_
        rintro e w5 ⟨v5, rfl, ho5, hg5⟩
        have hg5 := hr0.trans hg5
        have ho5 := ho5.base (B' := w.heap.size) (Nat.le_trans hB.size hr0.size)
        obtain ⟨A5, c5, rfl⟩ := ints_slice ho5.ints
        have hre2 := (ho5).grew ((Grew.refl w5).alloc (.cells #[(.slice A5 U.length c5)] 69))
        have hU2 := (HU.out.grew hg5).grew ((Grew.refl w5).alloc (.cells #[(.slice A5 U.length c5)] 69))
        have hrd := rd_litU w5 (.slice A5 U.length c5) 69
        have hsz2 := Nat.le_trans hB.size (Grew.alloc hg5 (.cells #[(.slice A5 U.length c5)] 69)).size
        have hgA := Grew.alloc hg5 (.cells #[(.slice A5 U.length c5)] 69)
        go_wp2_with (at_builtin; refine wpList_appU w.heap.size _ _ rfl rfl _ Us rfl hU2 hsz2 _ _ U rfl hrd hre2 HUB.out ?_; intro v1 w1 hown1 hgb)
        go_roundg (k - (j + 1))
        case measure => omega
        case rel => exact ⟨j + 1, Us ++ [U], by omega, rfl, by go_num, hown1, by rw [List.length_append, HUL.out]; rfl, Lib.hid (SN.out _ (hd)), (hB.trans hgA).grown hgb (fun g hg => own_of_geU HU.out hg)⟩
      have q2 : (rr == 2) = false := by simpa using h2
      have q3 : (rr == 3) = false := by simpa using h3
      have q4 : (rr == 4) = false := by simpa using h4
      have hd := D0.out rr rfl h2 h3 h4
      have hre2 := (hre.base (B' := w.heap.size) hB.size).grew ((Grew.refl _).alloc (.cells #[.slice (some ⟨wr.heap.size, 0, none⟩) 0 0] 69))
      have hU2 := HU.out.grew (hr0.alloc (.cells #[.slice (some ⟨wr.heap.size, 0, none⟩) 0 0] 69))
      have hrd := rd_litU' (wr.alloc (.cells #[] 2)) (wr.heap.size + 1) (by simp) (.slice (some ⟨wr.heap.size, 0, none⟩) 0 0) 69
      clear h2 h3 h4
      go_wp2_with (at_builtin; refine wpList_appU w.heap.size _ _ rfl rfl _ Us rfl hU2 (Nat.le_trans hB.size (hr0.alloc _).size) _ _ [] rfl hrd hre2 HUB.out ?_; intro v1 w1 hown1 hgb)
      go_roundg (k - (j + 1))
      case measure => omega
      case rel => exact ⟨j + 1, Us ++ [[]], by omega, rfl, by go_num, hown1, by rw [List.length_append, HUL.out]; rfl, Lib.hid (SN.out _ hd), ((hB.trans (hr0.alloc _))).grown hgb (fun g hg => own_of_geU HU.out hg)⟩
    · obtain rfl : j = k := by omega
      go_wp2_with fail
      go_ret
      exact ⟨_, Us, rfl, hU, hUl, HD.out, hB⟩
end Go.Proofs.YtnbnhapepcegpaaGreatDoor

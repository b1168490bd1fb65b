/- match of the program. -/
import Derived.Test.YtpbaiadaanpllaaDoorMatchT
import Derived.Test.YtpbaiadaanpllaaDoorSameN
import Derived.Test.YtpbaiadaanpllaaDoorOwnV
import Derived.Deep.OwnRows
import Derived.Deep.LoopGhost
import Derived.Deep.RegionHeld3
import Derived.Deep.QuietTactic
import Derived.BigQuiet
import Derived.WalkLawsBesides
import Derived.Outline
namespace Go.Proofs.YtpbaiadaanpllaaDoor
open Go.RowKit
open Fm (Nd Tree)

/-- The images so far: nil where there is none yet. -/
def ImgP (w : World) (B : Nat) (cur : Array Value) (σ : Nat → List Nd) : Prop := ∀ v, v < 6 → ∃ u, cur[v]? = some u ∧ Own w B u (σ v) ∧ (σ v).length ≤ 1048576 ∧ (σ v = [] → u = .slice none 0 0)
theorem ImgP.grew {w w' : World} {B : Nat} {cur : Array Value} {σ : Nat → List Nd} (h : ImgP w B cur σ) (hg : Grew w w') : ImgP w' B cur σ := fun v hv => by
  obtain ⟨u, h1, h2, h3⟩ := h v hv
  exact ⟨u, h1, h2.grew hg, h3⟩
theorem ImgP.only {w w' : World} {B g : Nat} {cur : Array Value} {σ : Nat → List Nd} (h : ImgP w B cur σ) (hg : Only g w w') (hB : g < B) : ImgP w' B cur σ := fun v hv => by
  obtain ⟨u, h1, h2, h3⟩ := h v hv
  exact ⟨u, h1, h2.only hg (fun e => by have := own_of_ge h2 e; omega), h3⟩
theorem ImgP.set {w : World} {B : Nat} {cur : Array Value} {σ : Nat → List Nd} {v : Nat} {u : Value} {c : List Nd} (h : ImgP w B cur σ) (hv : v < cur.size) (hu : Own w B u c) (hl : c.length ≤ 1048576) (hc : c ≠ []) : ImgP w B (cur.setIfInBounds v u) (upd σ v c) := fun x hx => by
  unfold upd
  by_cases hxv : x = v
  · subst hxv
    refine ⟨u, ?_, by rw [if_pos rfl]; exact hu, by rw [if_pos rfl]; exact hl, by rw [if_pos rfl]; exact fun h => absurd h hc⟩
    rw [Array.getElem?_setIfInBounds, if_pos rfl, if_pos hv]
  · obtain ⟨y, h1, h2, h4, h3⟩ := h x hx
    refine ⟨y, ?_, by rw [if_neg hxv]; exact h2, by rw [if_neg hxv]; exact h4, by rw [if_neg hxv]; exact h3⟩
    rw [Array.getElem?_setIfInBounds, if_neg (fun e => hxv e.symm)]
    exact h1
theorem ImgP.start (w : World) (B : Nat) : ImgP w B (madeCells #[Value.slice none 0 0] 6) (fun _ => []) := fun x hx => by
  refine ⟨.slice none 0 0, ?_, Own.nil_ w B, by simp, fun _ => rfl⟩
  obtain rfl | rfl | rfl | rfl | rfl | rfl : x = 0 ∨ x = 1 ∨ x = 2 ∨ x = 3 ∨ x = 4 ∨ x = 5 := by omega
  all_goals simp [madeCells]
/-- Every cell holds a slice. -/
def Sls (cur : Array Value) : Prop := ∀ v, v < 6 → ∃ A n c, cur[v]? = some (.slice A n c)
theorem ImgP.sls {w : World} {B : Nat} {cur : Array Value} {σ : Nat → List Nd} (h : ImgP w B cur σ) : Sls cur := fun v hv => by
  obtain ⟨u, h1, h2, _⟩ := h v hv
  obtain ⟨A, c, rfl⟩ := nodes_slice h2.nodes
  exact ⟨_, _, _, h1⟩
theorem Sls.set {cur : Array Value} (h : Sls cur) (v : Nat) (A : Option Addr) (n c : Nat) : Sls (cur.setIfInBounds v (.slice A n c)) := fun x hx => by
  rw [Array.getElem?_setIfInBounds]
  split
  · split
    · exact ⟨_, _, _, rfl⟩
    · rename_i h1 h2
      obtain ⟨A', n', c', h3⟩ := h x hx
      have := (Array.getElem?_eq_some_iff.1 h3).1
      omega
  · exact h x hx

theorem match_c (v u : Value) (s t : Tree) (w : World) (h1 : Nodes w v (Fm.enc s)) (h2 : Nodes w u (Fm.enc t)) (hs : (Fm.enc s).length ≤ 1048576) (ht : (Fm.enc t).length ≤ 1048576) :
    Calls Tryd.prog 43 #[v, u] w fun e w' => ∃ q, e = .returned (.tuple #[q, .bool (mrun (Fm.enc t) (Fm.enc s) 0 (fun _ => []))]) ∧ Grew w w' := by
  rcases h1.open_ with ⟨_, h0⟩ | ⟨b1, o1, c1, rfl, hc1, hm1, hb1, hf1⟩
  · have := Fm.enc_pos s; rw [h0] at this; simp at this
  rcases h2.open_ with ⟨_, h0⟩ | ⟨b2, o2, c2, rfl, hc2, hm2, hb2, hf2⟩
  · have := Fm.enc_pos t; rw [h0] at this; simp at this
  have hbal := Bal.start s t
  have hmk : ∀ w : World, (Instr.makeSlice 56 (.int .i64 6) (.int .i64 6)).run Tryd.prog w = .ok (.slice (some ⟨w.heap.size, 0, none⟩) 6 6) (w.alloc (.cells (madeCells #[Value.slice none 0 0] 6) 22)) := run_make_row' (P := Tryd.prog) 56 22 (.slice none 0 0) 24 Tryd.underlying56 infoSl rfl .i64 .i64 6 (by omega) (by omega)
  obtain ⟨R, hR⟩ : ∃ R, R = mrun (Fm.enc t) (Fm.enc s) 0 (fun _ => []) := ⟨_, rfl⟩
  rw [← hR]
  have hsz : (madeCells #[Value.slice none 0 0] 6).size = 6 := by simp [madeCells]
  have hnew := blk_new w (.cells (madeCells #[Value.slice none 0 0] 6) 22)
  have hal := (Grew.refl w).alloc (.cells (madeCells #[Value.slice none 0 0] 6) 22)
  have himg := fun W => ImgP.start W (w.heap.size + 1)
  generalize madeCells #[Value.slice none 0 0] 6 = cur0 at *
  generalize Fm.enc s = a at *
  generalize Fm.enc t = xs at *
  have HC1 := Lib.hid hf1
  have HC2 := Lib.hid hf2
  have HR : Hid (R = mrun xs (a.drop 0) 0 (fun _ => [])) := Lib.hid hR
  have H2 := Lib.hid h2
  have HBAL := Lib.hid hbal
  have HNEW := Lib.hid hnew
  have HAL := Lib.hid hal
  have HIMG := Lib.hid himg
  clear hf1 hf2 hR h1 h2 hbal hnew hal himg
  generalize hN : a.length = n at *
  generalize hM : xs.length = m at *
  go_enter Tryd.func43, Tryd.ntmps43
  go_wp2_with fail
  go_loopw [7, 15] (fun x i wr => ∃ (j p : Nat) (cur : Array Value) (σ : Nat → List Nd), j ≤ n ∧ p ≤ m ∧ x = .int .i64 p ∧ i = .int .i64 j ∧ wr.heap[w.heap.size]? = some (.cells cur 22 (0, 0)) ∧ cur.size = 6 ∧ Grew w wr ∧ Hid (ImgP wr (w.heap.size + 1) cur σ) ∧ Hid (Bal a j xs p) ∧ Hid (R = mrun xs (a.drop j) p σ)) (fun _ i _ => n - (intOf i).toNat)
  case atStart => exact ⟨0, 0, cur0, _, Nat.zero_le _, Nat.zero_le _, rfl, rfl, HNEW.out, hsz, HAL.out, HIMG.out _, HBAL.out, HR.out⟩
  case round =>
    obtain ⟨j, p, cur, σ, hj, hp, rfl, rfl, hh, hcs, hB, HI, HL, HR'⟩ := hrel
    clear HBAL HR HNEW HAL HIMG
    by_cases hlt : j < n
    · have k1 := (HC1.out j hlt _ hB).1
      have k2 := (HC1.out j hlt _ hB).2
      have hpm : p < m := by rw [← hM]; exact HL.out.lt (by rw [hN]; exact hlt)
      have k3 : ∀ W, Grew w W → W.cell? ⟨b2, o2 + p * 2, none⟩ = some (.int .i64 (kd xs p)) := fun W hW => (HC2.out p hpm W hW).1
      have k4 : ∀ W, Grew w W → W.cell? ⟨b2, o2 + p * 2 + 1, none⟩ = some (.int .i64 (sy xs p)) := fun W hW => (HC2.out p hpm W hW).2
      by_cases h0 : kd a j = 0
      · have hne : (kd a j != 0) = false := by simp [h0]
        obtain ⟨tr, vv, ht1, hv, hsy, hbal⟩ := HL.out.var (by rw [hN]; exact hlt) h0
        have hmr := mrun_var (σ := σ) (by rw [hN]; exact hlt) h0 hsy ht1
        rw [← HR'.out] at hmr
        have hle := ht1.le
        have hpos := Fm.enc_pos tr
        rw [hM] at hle
        have hP := Lib.hid (fun W (hW : Grew w W) => part_c _ xs p tr W (H2.out.grew hW) (by rw [hM]; omega) ht1)
        obtain ⟨u, hu1, hu2, hul, hu3⟩ := HI.out vv hv
        rw [h0] at k1
        rw [hsy] at k2
        clear h0 hsy ht1 hne
        have HBAL := Lib.hid hbal
        have HMR := Lib.hid hmr
        clear hbal hmr HL
        generalize Fm.enc tr = c at *
        have hcne : c ≠ [] := fun h => by rw [h] at hpos; simp at hpos
        have HW : Hid (∀ W, Grew wr W → W.heap[w.heap.size]? = some (.cells cur 22 (0, 0))) := Lib.hid fun W hW => (hW.block (blk_lt hh)).trans hh
        have HUP := Lib.hid (fun W u hu hI => ImgP.set (w := W) (B := w.heap.size + 1) (cur := cur) (σ := σ) (v := vv) (u := u) (c := c) hI (by omega) hu (by omega) hcne)
        clear hh
        have HI1 := Lib.hid (fun W (hW : Grew wr W) => HI.out.grew hW)
        by_cases hz : σ vv = []
        · have hu := hu3 hz
          subst hu
          have hv2 : R = mrun xs (a.drop (j + 1)) (p + c.length) (upd σ vv c) := by rw [HMR.out, if_neg (by simp [hz])]
          have HV2 := Lib.hid hv2
          clear hv2 HMR hu2 hu3 hz
          go_wp2_with fail
          refine (hP.out _ (hB.trans ((Grew.refl wr).alloc _))).mono ?_
          rintro e w1 ⟨q, rfl, hq, hg1⟩
          obtain ⟨Aq, kq, rfl⟩ := nodes_slice hq
          have hgr := Grew.of_alloc hg1
          have e1 : w1.cell? ⟨wr.heap.size, 0, none⟩ = some (.int .i64 0) := (hg1.cell (by simp)).trans (by simp)
          have e2 : w1.cell? ⟨wr.heap.size, 1, none⟩ = some (.int .i64 vv) := (hg1.cell (by simp)).trans (by simp)
          have e3 : w1.cell? ⟨w.heap.size, vv, none⟩ = some (.slice none 0 0) := (blk_cell (HW.out _ hgr) vv).trans hu1
          go_wp2_with fail
          have hr1 := Grew.refl w1
          have hd1 := (Grew.refl w1).drew
          have hsz := hg1.size
          have hszB := hB.size
          have hgw : w.heap.size < wr.heap.size := blk_lt (HW.out _ (Grew.refl _))
          have c1' : ∀ W, Only w.heap.size w1 W → W.cell? ⟨wr.heap.size, 1, none⟩ = some (.int .i64 vv) := fun W hW => (hW.cell (p := ⟨wr.heap.size, 1, none⟩) (by simp at hsz; exact hsz) (by show wr.heap.size ≠ w.heap.size; omega)).trans e2
          have c2' : ∀ W, Grew w1 W → W.cell? ⟨w.heap.size, vv, none⟩ = some (.slice none 0 0) := fun W hW => (blk_cell (HW.out W (hgr.trans hW)) vv).trans hu1
          have c3' : ∀ W, Grew w1 W → W.frozen? ⟨w.heap.size, vv, none⟩ = false := fun W hW => blk_frozen (HW.out W (hgr.trans hW)) vv
          have hi0 : (0 : Int) ≤ (vv : Int) := by omega
          have hi6 : (vv : Int) < 6 := by omega
          have hO1 : Only w.heap.size w1 w1 := Only.refl _ _
          have hOd : Only w.heap.size w1 w1.drew := hO1.drew
          go_region_held3 (fun w' => Only w.heap.size w1 w') (first | with_reducible assumption | exact Only.setCell (by with_reducible assumption) _)
            (first | (go_at_call 57; refine (clone_c _ c _ (hq.grew hd1) (by omega)).mono ?_; rintro e w2 ⟨q2, rfl, ho2, hg2⟩; have hk2 : Grew w1 w2 := hd1.trans hg2; have hO2 : Only w.heap.size w1 w2 := hk2.only; obtain ⟨A2, k2, rfl⟩ := nodes_slice ho2.nodes))
          have hI2 := Lib.hid ((HUP.out _ _ (ho2.base (by have hszd : w1.drew.heap.size = w1.heap.size := rfl; simp at hsz; omega)) (HI1.out _ (hgr.trans hk2))).only ((Only.refl w.heap.size w2).setCell (o := vv) (.slice A2 c.length k2)) (by omega))
          have HH2 := Lib.hid (blk_set (HW.out _ (hgr.trans hk2)) vv (.slice A2 c.length k2))
          have hB2 : Grew w (w2.setCell ⟨w.heap.size, vv, none⟩ (.slice A2 c.length k2)) := (hB.trans (hgr.trans hk2)).setCell (Nat.le_refl _) _
          have hcs2 : (cur.setIfInBounds vv (.slice A2 c.length k2)).size = 6 := by simp [hcs]
          go_wp2_with fail
          go_roundw
          case rel => exact ⟨j + 1, p + c.length, _, _, by omega, by omega, by go_num, by go_num, HH2.out, hcs2, hB2, hI2.out, HBAL.out, HV2.out⟩
          case measure => simp [intOf]; omega
        · rcases hu2.nodes.open_ with ⟨_, h0⟩ | ⟨b3, o3, c3, rfl, hc3, hm3, hb3, _⟩
          · exact absurd h0 hz
          have HS := Lib.hid (fun W q2 (hW : Grew wr W) (hq2 : Nodes W q2 c) => same_c _ q2 (σ vv) c W (hu2.nodes.grew hW) hq2 (by omega))
          clear hu3
          by_cases hz2 : σ vv = c
          · have hv2 : R = mrun xs (a.drop (j + 1)) (p + c.length) (upd σ vv c) := by rw [HMR.out, if_neg (by simp [hz2])]
            have HV2 := Lib.hid hv2
            rw [decide_eq_true hz2] at HS
            clear hv2 HMR hu2 hz hz2
            generalize (σ vv).length = ls at *
            go_wp2_with fail
            refine (hP.out _ (hB.trans ((Grew.refl wr).alloc _))).mono ?_
            rintro e w0 ⟨q, rfl, hq0, hg0⟩
            obtain ⟨Aq, kq, rfl⟩ := nodes_slice hq0
            have hgr0 := Grew.of_alloc hg0
            have e1 : w0.cell? ⟨wr.heap.size, 0, none⟩ = some (.int .i64 0) := (hg0.cell (by simp)).trans (by simp)
            have e2 : w0.cell? ⟨wr.heap.size, 1, none⟩ = some (.int .i64 vv) := (hg0.cell (by simp)).trans (by simp)
            have e3 : w0.cell? ⟨w.heap.size, vv, none⟩ = some (.slice (some ⟨b3, o3, none⟩) ls c3) := (blk_cell (HW.out _ hgr0) vv).trans hu1
            go_wp2_with fail
            refine (HS.out _ _ hgr0 hq0).mono ?_
            rintro e w1 ⟨rfl, hg1⟩
            have hq := hq0.grew hg1
            have e2 := (hg1.cell (p := ⟨wr.heap.size, 1, none⟩) (by have := hg0.size; simp at this; exact this)).trans e2
            go_wp2_with fail
            have hr1 := Grew.refl w1
            have hd1 := (Grew.refl w1).drew
            have hsz := Nat.le_trans hg0.size hg1.size
            have hszB := hB.size
            have hgw : w.heap.size < wr.heap.size := blk_lt (HW.out _ (Grew.refl _))
            have c1' : ∀ W, Only w.heap.size w1 W → W.cell? ⟨wr.heap.size, 1, none⟩ = some (.int .i64 vv) := fun W hW => (hW.cell (p := ⟨wr.heap.size, 1, none⟩) (by simp at hsz; exact hsz) (by show wr.heap.size ≠ w.heap.size; omega)).trans e2
            have c2' : ∀ W, Grew w1 W → W.cell? ⟨w.heap.size, vv, none⟩ = some (.slice (some ⟨b3, o3, none⟩) ls c3) := fun W hW => (blk_cell (HW.out W ((hgr0.trans hg1).trans hW)) vv).trans hu1
            have c3' : ∀ W, Grew w1 W → W.frozen? ⟨w.heap.size, vv, none⟩ = false := fun W hW => blk_frozen (HW.out W ((hgr0.trans hg1).trans hW)) vv
            have hi0 : (0 : Int) ≤ (vv : Int) := by omega
            have hi6 : (vv : Int) < 6 := by omega
            have hO1 : Only w.heap.size w1 w1 := Only.refl _ _
            have hOd : Only w.heap.size w1 w1.drew := hO1.drew
            go_region_held3 (fun w' => Only w.heap.size w1 w') (first | with_reducible assumption | exact Only.setCell (by with_reducible assumption) _)
              (first | (go_at_call 57; refine (clone_c _ c _ (hq.grew hd1) (by omega)).mono ?_; rintro e w2 ⟨q2, rfl, ho2, hg2⟩; have hk2 : Grew w1 w2 := hd1.trans hg2; have hO2 : Only w.heap.size w1 w2 := hk2.only; obtain ⟨A2, k2, rfl⟩ := nodes_slice ho2.nodes))
            have hI2 := Lib.hid ((HUP.out _ _ (ho2.base (by have hszd : w1.drew.heap.size = w1.heap.size := rfl; simp at hsz; omega)) (HI1.out _ ((hgr0.trans hg1).trans hk2))).only ((Only.refl w.heap.size w2).setCell (o := vv) (.slice A2 c.length k2)) (by omega))
            have HH2 := Lib.hid (blk_set (HW.out _ ((hgr0.trans hg1).trans hk2)) vv (.slice A2 c.length k2))
            have hB2 : Grew w (w2.setCell ⟨w.heap.size, vv, none⟩ (.slice A2 c.length k2)) := (hB.trans ((hgr0.trans hg1).trans hk2)).setCell (Nat.le_refl _) _
            have hcs2 : (cur.setIfInBounds vv (.slice A2 c.length k2)).size = 6 := by simp [hcs]
            go_wp2_with fail
            go_roundw
            case rel => exact ⟨j + 1, p + c.length, _, _, by omega, by omega, by go_num, by go_num, HH2.out, hcs2, hB2, hI2.out, HBAL.out, HV2.out⟩
            case measure => simp [intOf]; omega
          · have hv2 : R = false := by rw [HMR.out, if_pos ⟨hz, hz2⟩]
            have HV2 := Lib.hid hv2
            rw [decide_eq_false hz2] at HS
            clear hv2 HMR hu2 hz hz2
            generalize (σ vv).length = ls at *
            go_wp2_with fail
            refine (hP.out _ (hB.trans ((Grew.refl wr).alloc _))).mono ?_
            rintro e w0 ⟨q, rfl, hq0, hg0⟩
            obtain ⟨Aq, kq, rfl⟩ := nodes_slice hq0
            have hgr0 := Grew.of_alloc hg0
            have e1 : w0.cell? ⟨wr.heap.size, 0, none⟩ = some (.int .i64 0) := (hg0.cell (by simp)).trans (by simp)
            have e2 : w0.cell? ⟨wr.heap.size, 1, none⟩ = some (.int .i64 vv) := (hg0.cell (by simp)).trans (by simp)
            have e3 : w0.cell? ⟨w.heap.size, vv, none⟩ = some (.slice (some ⟨b3, o3, none⟩) ls c3) := (blk_cell (HW.out _ hgr0) vv).trans hu1
            go_wp2_with fail
            refine (HS.out _ _ hgr0 hq0).mono ?_
            rintro e w1 ⟨rfl, hg1⟩
            go_wp2_with fail
            go_ret2
            exact ⟨_, by rw [HV2.out]; rfl, (hB.trans hgr0).trans hg1⟩
      · have hne : (kd a j != 0) = true := by simp [h0]
        have hmr := mrun_node (xs := xs) (j := p) (σ := σ) (by rw [hN]; exact hlt) h0
        rw [← HR'.out] at hmr
        have hgd := Tryd.ndGuard
        have hBA := hB.alloc (.cells #[.int .i64 (kd a j), .int .i64 (sy a j)] 44)
        have HH := Lib.hid ((((Grew.refl wr).alloc (.cells #[.int .i64 (kd a j), .int .i64 (sy a j)] 44)).block (blk_lt hh)).trans hh)
        have HI1 := Lib.hid (HI.out.grew ((Grew.refl wr).alloc (.cells #[.int .i64 (kd a j), .int .i64 (sy a j)] 44)))
        clear hh
        by_cases he : kd xs p = kd a j ∧ sy xs p = sy a j
        · have hbal := Lib.hid (HL.out.node (by rw [hN]; exact hlt) he.1)
          have hq : ∀ W, (binOp .neq 44 (.agg #[.int .i64 (kd xs p), .int .i64 (sy xs p)]) (.agg #[.int .i64 (kd a j), .int .i64 (sy a j)])).run Tryd.prog W = .ok (.bool false) W := fun W => by
            rw [Tryd.ndNeq, he.1, he.2]; simp
          rw [if_pos he] at hmr
          have HMR := Lib.hid hmr
          clear hmr he h0 HL HR'
          go_wp2_with fail
          go_quiet (fail)
          go_wp2_with fail
          go_roundw
          case rel => exact ⟨j + 1, p + 1, cur, σ, by omega, by omega, by go_num, by go_num, HH.out, hcs, hBA.drewN _, HI1.out.grew ((Grew.refl _).drewN _), hbal, HMR⟩
          case measure => simp [intOf]; omega
        · have hq : ∀ W, (binOp .neq 44 (.agg #[.int .i64 (kd xs p), .int .i64 (sy xs p)]) (.agg #[.int .i64 (kd a j), .int .i64 (sy a j)])).run Tryd.prog W = .ok (.bool true) W := fun W => by
            have hz : (kd xs p == kd a j && sy xs p == sy a j) = false := by
              cases hz : (kd xs p == kd a j && sy xs p == sy a j) with
              | false => rfl
              | true => simp at hz; exact absurd hz he
            rw [Tryd.ndNeq, hz]; rfl
          rw [if_neg he] at hmr
          have HMR := Lib.hid hmr
          clear hmr he h0 HL HR'
          go_wp2_with fail
          go_quiet (fail)
          go_wp2_with fail
          go_ret2
          exact ⟨_, by rw [HMR.out]; rfl, hBA.drewN _⟩
    · obtain rfl : j = n := by omega
      have hv : R = true := by rw [HR'.out, mrun_end]; omega
      have HV := Lib.hid hv
      have hsl := HI.out.sls
      clear HL HR' HI hv HC1 HC2
      go_wp2_with fail
      go_loopw [11, 66] (fun _ i wy => ∃ (k : Nat) (cy : Array Value), k ≤ 6 ∧ i = .int .i64 k ∧ wy.heap[w.heap.size]? = some (.cells cy 22 (0, 0)) ∧ cy.size = 6 ∧ Grew w wy ∧ Sls cy) (fun _ i _ => 6 - (intOf i).toNat)
      case atStart => exact ⟨0, cur, by omega, rfl, hh, hcs, hB, hsl⟩
      case round =>
        clear hh hcs hB hsl
        obtain ⟨k, cy, hk, rfl, hh, hcs, hB, hsl⟩ := hrel
        by_cases hlt2 : k < 6
        · obtain ⟨A, nn, cc, hA⟩ := hsl k hlt2
          have q : ∀ (w : World) (a : Option Addr) (n c n' c' : Nat), (binOp .eql 22 (.slice a n c) (.slice none n' c')).run Tryd.prog w = .ok (.bool a.isNone) w := fun w a n c n' c' => Lib.run_eql_slice_nil w _ _ a n c n' c' Tryd.underlying22
          have e1 : wr.cell? ⟨w.heap.size, k, none⟩ = some (.slice A nn cc) := (blk_cell hh k).trans hA
          cases A with
          | some A =>
            go_wp2_with fail
            go_roundw
            case rel => exact ⟨k + 1, cy, by omega, by go_num, hh, hcs, hB, hsl⟩
            case measure => simp [intOf]; omega
          | none =>
            have HH := Lib.hid hh
            clear hh
            go_wp2_with fail
            refine (variable_c _ _).mono ?_
            rintro e w5 ⟨q5, rfl, ho5, hg5⟩
            have hh5 := (hg5.block (blk_lt HH.out)).trans HH.out
            have e4 : w5.cell? ⟨w.heap.size, k, none⟩ = some (.slice none nn cc) := (blk_cell hh5 k).trans hA
            have f4 := blk_frozen hh5 k
            obtain ⟨A5, k5, rfl⟩ := nodes_slice ho5.nodes
            have HH5 := Lib.hid (blk_set hh5 k (.slice A5 (Fm.vari k).length k5))
            have hcs5 : (cy.setIfInBounds k (.slice A5 (Fm.vari k).length k5)).size = 6 := by simp [hcs]
            clear hh5
            go_wp2_with fail
            go_roundw
            case rel => exact ⟨k + 1, _, by omega, by go_num, HH5.out, hcs5, (hB.trans hg5).setCell (Nat.le_refl _) _, hsl.set _ _ _ _⟩
            case measure => simp [intOf]; omega
        · obtain rfl : k = 6 := by omega
          go_wp2_with fail
          go_ret2
          exact ⟨_, by rw [HV.out]; rfl, hB⟩
end Go.Proofs.YtpbaiadaanpllaaDoor

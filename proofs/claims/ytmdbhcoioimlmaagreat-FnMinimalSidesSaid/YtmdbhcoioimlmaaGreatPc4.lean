/- Texts in one file: Pd MlT StCf S12 Say Ml MlS Co Del CoI CoS Dir Id DjT Src DrawP InsO Sides Theo From DrPd BigW LawDj Args ArgB DrMl. -/
import Derived.Sort.Walk0
import Derived.Deep.RegionHeld3
import Derived.Deep.QuietTactic
import Derived.BigQuiet
import Derived.Deep.LoopGhost
import Derived.WalkLawsBesides
import Derived.Outline
import Derived.Shelf.Abstract
import Derived.Test.YtmdbhcoioimlmaaGreatProg
import Derived.Conc.WgArith
import Derived.Laws.Bits64
import Derived.StillTailTactics
import Derived.BigRegion
import Derived.Deep.Strs
import Derived.Lib.SmallJoins
import Derived.Carry
import Derived.ProofKit
import Derived.ChangeSlices
import Derived.Test.YtmdbhcoioimlmaaGreatPc1
import Derived.Test.YtmdbhcoioimlmaaGreatPc2
import Derived.Test.YtmdbhcoioimlmaaGreatPc3
set_option linter.all false

/- ProvedDisjunct of both sides. Printed by pdgen.py. -/
namespace Go.Proofs.YtmdbhcoioimlmaaGreat
open Go.RowKit
open Fm (Nd Tree)

theorem isQ_of {L : List ByteArray} {s : ByteArray} (h1 : isQ L s = true) : ∃ (Ts : List Tree) (c : Tree), L = Ts.map tx ∧ s = tx c ∧ (∀ a ∈ Ts, FmOk a) ∧ FmOk c := by
  unfold isQ at h1
  simp only [Bool.and_eq_true] at h1
  obtain ⟨hg, ha, _⟩ := h1
  obtain ⟨c, hc, rfl⟩ := gp_tree hg
  have hL : ∀ x ∈ L, gp x = true := by
    intro x hx
    obtain ⟨i, hi, rfl⟩ := List.getElem_of_mem hx
    have h3 : AscP L L.length := by
      unfold ascP at ha
      exact @of_decide_eq_true _ (Classical.propDecidable _) ha
    rw [st_eq hi]
    exact (h3 i hi).1
  refine ⟨L.map fo, c, ?_, rfl, ?_, hc⟩
  · rw [List.map_map]
    have : ∀ x ∈ L, (tx ∘ fo) x = id x := fun x hx => (fo_ok (hL x hx)).2
    rw [List.map_congr_left this, List.map_id]
  · intro a hm
    obtain ⟨x, hx, rfl⟩ := List.mem_map.1 hm
    exact (fo_ok (hL x hx)).1
def orI (r1 r2 r3 : Bool) : Int := if r1 = true then 1 else if r2 = true then 2 else if r3 = true then 0 else -1
noncomputable def pdF (L : List ByteArray) (a b : ByteArray) : Int × Int :=
  if (isQ L a && gp b) = true then
    (if szL L + (1 + (Fm.pf a).1.length + (Fm.pf b).1.length) ≤ 20 then (orI (dc (EntL (L.map fo) (fo a))) (dc (EntL (L.map fo) (fo b))) (dc (EntL (L.map fo) (.or (fo a) (fo b)))), 0) else (0, 3))
  else (0, 1)
theorem pdF_no {L : List ByteArray} {a b : ByteArray} (h : (isQ L a && gp b) = false) : pdF L a b = (0, 1) := by unfold pdF; rw [h]; rfl
theorem pdF_big {L : List ByteArray} {a b : ByteArray} (h : (isQ L a && gp b) = true) (h2 : ¬ szL L + (1 + (Fm.pf a).1.length + (Fm.pf b).1.length) ≤ 20) : pdF L a b = (0, 3) := by unfold pdF; rw [if_pos h, if_neg h2]
theorem pdF_ok {Ts : List Tree} {ta tb : Tree} (hL : ∀ a ∈ Ts, FmOk a) (ha : FmOk ta) (hb : FmOk tb) (h : (isQ (Ts.map tx) (tx ta) && gp (tx tb)) = true) (h2 : szL (Ts.map tx) + (1 + (Fm.pf (tx ta)).1.length + (Fm.pf (tx tb)).1.length) ≤ 20) :
    pdF (Ts.map tx) (tx ta) (tx tb) = (orI (dc (EntL Ts ta)) (dc (EntL Ts tb)) (dc (EntL Ts (.or ta tb))), 0) := by
  unfold pdF
  rw [if_pos h, if_pos h2, map_fo_tx hL, fo_tx ha, fo_tx hb]
theorem fmOk_or_mk {a b : Tree} (ha : FmOk a) (hb : FmOk b) (h : 1 + (Fm.enc a).length + (Fm.enc b).length ≤ 40) : FmOk (.or a b) := FmOk.join (k := 3) rfl (by omega) ha hb (by simp [Fm.enc]; omega)
theorem okS_pd {Ts : List Tree} {ta tb : Tree} (hL : ∀ a ∈ Ts, FmOk a) (ha : FmOk ta) (hb : FmOk tb) (h : tot nn Ts + (1 + (Fm.enc ta).length + (Fm.enc tb).length) ≤ 20) : OkS Ts ta ∧ OkS Ts tb ∧ OkS Ts (.or ta tb) :=
  ⟨okS_mk hL ha (by unfold nn at *; omega), okS_mk hL hb (by unfold nn at *; omega), okS_mk hL (fmOk_or_mk ha hb (by omega)) (by have := nn_or ta tb; unfold nn at *; omega)⟩

set_option maxHeartbeats 4000000 in
theorem implPd_c (v : Value) (L : List ByteArray) (a b : ByteArray) (w : World) (h : Strs w v L) (hs : Fits L) (hn : L.length ≤ 1048576) (ha : a.size ≤ 1048576) (hb : b.size ≤ 1048576) :
    Calls Tryz.prog 18 #[v, .string a, .string b] w (GivesII w (pdF L a b)) := by
  unfold GivesII
  have K1 := Lib.hid (isSequent_c v L a w h hs hn (by omega))
  have hQ : (gp a && (ascP L && decide (L.length ≤ 12))) = isQ L a := rfl
  rw [hQ] at K1
  have K2 := Lib.hid (fun W => isPlainText_c b W (by omega))
  clear hQ
  cases hq : isQ L a with
  | false =>
    rw [pdF_no (by rw [hq]; rfl)]
    rw [hq] at K1
    obtain ⟨A, k, rfl⟩ := strs_slice h
    clear h hs hq
    go_enter Tryz.func18, Tryz.ntmps18
    go_wp2_with fail
    refine (K1.out).mono ?_
    rintro e w1 ⟨rfl, hg1⟩
    go_wp2_with fail
    go_ret2
    exact ⟨rfl, hg1⟩
  | true =>
  cases hgb : gp b with
  | false =>
    rw [pdF_no (by rw [hq, hgb]; rfl)]
    rw [hq] at K1
    rw [hgb] at K2
    obtain ⟨A, k, rfl⟩ := strs_slice h
    clear h hs hq hgb
    go_enter Tryz.func18, Tryz.ntmps18
    go_wp2_with fail
    refine (K1.out).mono ?_
    rintro e w1 ⟨rfl, hg1⟩
    go_wp2_with fail
    refine (K2.out _).mono ?_
    rintro e w2 ⟨rfl, hg2⟩
    have g2 := hg1.trans hg2
    go_wp2_with fail
    go_ret2
    exact ⟨rfl, g2⟩
  | true =>
  rw [hq] at K1
  rw [hgb] at K2
  have hcond : (isQ L a && gp b) = true := by rw [hq, hgb]; rfl
  obtain ⟨Ts, ta, rfl, rfl, hok, hta⟩ := isQ_of hq
  obtain ⟨tb, htb, rfl⟩ := gp_tree hgb
  have hT : TL w v Ts := h
  have K3 := Lib.hid (fun W => parsed_c (tx ta) W (by omega))
  have K4 := Lib.hid (fun W => parsed_c (tx tb) W (by omega))
  have K5 := Lib.hid (fun W (hW : Grew w W) => nodesOf_c v (Ts.map tx) W (h.grew hW) hs hn)
  unfold GivesN at K3 K4
  have p1 := congrArg Prod.fst (tx_pf hta.1)
  have p2 := congrArg Prod.fst (tx_pf htb.1)
  simp only at p1 p2
  rw [p1] at K3
  rw [p2] at K4
  have KJ := Lib.hid (fun u u2 W (hu : Nodes W u (Fm.enc ta)) (hu2 : Nodes W u2 (Fm.enc tb)) => join_c 3 u u2 _ _ W hu hu2 (by have := hta.1; have := htb.1; omega))
  have hj : Fm.join 3 (Fm.enc ta) (Fm.enc tb) = Fm.enc (.or ta tb) := rfl
  rw [hj] at KJ
  unfold Gives at KJ
  have hlj : (Fm.enc (.or ta tb)).length = 1 + (Fm.enc ta).length + (Fm.enc tb).length := by simp [Fm.enc]; omega
  have hz1 := hta.1
  have hz2 := htb.1
  have hm81 : (Fm.enc (.or ta tb)).length ≤ 81 := by omega
  have hzl := szL_le (Ts.map tx)
  have hsz := szL_map hok
  obtain ⟨A, n, k, rfl⟩ := hT.slice
  by_cases hbig : szL (Ts.map tx) + (1 + (Fm.pf (tx ta)).1.length + (Fm.pf (tx tb)).1.length) ≤ 20
  case neg =>
    rw [pdF_big hcond hbig]
    rw [p1, p2, ← hlj] at hbig
    clear h hs hq hgb hcond hT hsz hj p1 p2 hlj
    generalize szL (Ts.map tx) = z at *
    generalize hlo : (Fm.enc (Tree.or ta tb)).length = m at *
    have hlo9 := Lib.hid hlo
    clear hlo
    go_enter Tryz.func18, Tryz.ntmps18
    go_wp2_with fail
    refine (K1.out).mono ?_
    rintro e w1 ⟨rfl, hg1⟩
    go_wp2_with fail
    refine (K2.out _).mono ?_
    rintro e w2 ⟨rfl, hg2⟩
    have g2 := hg1.trans hg2
    go_wp2_with fail
    refine (K3.out _).mono ?_
    rintro e w3 ⟨u3, rfl, hu3, hg3, _⟩
    have HU3 := Lib.hid hu3.nodes
    obtain ⟨A3, n3, c3, rfl⟩ := slice3 hu3.nodes
    clear hu3
    go_wp2_with fail
    refine (K4.out _).mono ?_
    rintro e w4 ⟨u4, rfl, hu4, hg4, _⟩
    have HU4 := Lib.hid hu4.nodes
    obtain ⟨A4, n4, c4, rfl⟩ := slice3 hu4.nodes
    clear hu4
    go_wp2_with fail
    refine (KJ.out _ _ _ (HU3.out.grew hg4) HU4.out).mono ?_
    rintro e w5 ⟨u5, rfl, hu5, hg5⟩
    have HU5 := Lib.hid hu5.nodes
    obtain ⟨A5, c5, rfl⟩ := nodes_slice hu5.nodes
    rw [hlo9.out] at HU5 ⊢
    clear hu5
    have g5 := ((g2.trans hg3).trans hg4).trans hg5
    go_wp2_with fail
    refine (K5.out _ g5).mono ?_
    rintro e w6 ⟨rfl, hg6⟩
    have g6 := g5.trans hg6
    go_wp2_with fail
    go_ret2
    exact ⟨rfl, g6⟩
  case pos =>
  rw [pdF_ok hok hta htb hcond hbig]
  rw [p1, p2] at hbig
  obtain ⟨o1, o2, o3⟩ := okS_pd hok hta htb (by rw [← hsz]; exact hbig)
  rw [← hlj] at hbig
  have P1 := Lib.hid (fun W (hW : Grew w W) => provable_c Ts ta _ W o1 (hT.grew hW))
  have P2 := Lib.hid (fun W (hW : Grew w W) => provable_c Ts tb _ W o2 (hT.grew hW))
  have P3 := Lib.hid (fun W (hW : Grew w W) => provable_c Ts (.or ta tb) _ W o3 (hT.grew hW))
  have KT := Lib.hid (fun u W (hu : Nodes W u (Fm.enc (.or ta tb))) => text_t (.or ta tb) u W o3.2.1 hu)
  clear h hs hq hgb hcond hT hsz hj p1 p2 o1 o2 o3 hlj
  generalize szL (Ts.map tx) = z at *
  generalize dc (EntL Ts ta) = R1 at *
  generalize dc (EntL Ts tb) = R2 at *
  generalize dc (EntL Ts (.or ta tb)) = R3 at *
  generalize hlo : (Fm.enc (Tree.or ta tb)).length = m at *
  have hlo9 := Lib.hid hlo
  clear hlo
  cases R1 with
  | true =>
    have ho : orI true R2 R3 = 1 := by simp [orI]
    rw [ho]
    clear ho
    go_enter Tryz.func18, Tryz.ntmps18
    go_wp2_with fail
    refine (K1.out).mono ?_
    rintro e w1 ⟨rfl, hg1⟩
    go_wp2_with fail
    refine (K2.out _).mono ?_
    rintro e w2 ⟨rfl, hg2⟩
    have g2 := hg1.trans hg2
    go_wp2_with fail
    refine (K3.out _).mono ?_
    rintro e w3 ⟨u3, rfl, hu3, hg3, _⟩
    have HU3 := Lib.hid hu3.nodes
    obtain ⟨A3, n3, c3, rfl⟩ := slice3 hu3.nodes
    clear hu3
    go_wp2_with fail
    refine (K4.out _).mono ?_
    rintro e w4 ⟨u4, rfl, hu4, hg4, _⟩
    have HU4 := Lib.hid hu4.nodes
    obtain ⟨A4, n4, c4, rfl⟩ := slice3 hu4.nodes
    clear hu4
    go_wp2_with fail
    refine (KJ.out _ _ _ (HU3.out.grew hg4) HU4.out).mono ?_
    rintro e w5 ⟨u5, rfl, hu5, hg5⟩
    have HU5 := Lib.hid hu5.nodes
    obtain ⟨A5, c5, rfl⟩ := nodes_slice hu5.nodes
    rw [hlo9.out] at HU5 ⊢
    clear hu5
    have g5 := ((g2.trans hg3).trans hg4).trans hg5
    go_wp2_with fail
    refine (K5.out _ g5).mono ?_
    rintro e w6 ⟨rfl, hg6⟩
    have g6 := g5.trans hg6
    go_wp2_with fail
    refine (P1.out _ g6).mono ?_
    rintro e w7 ⟨rfl, hg7⟩
    have g7 := g6.trans hg7
    go_wp2_with fail
    go_ret2
    exact ⟨rfl, g7⟩
  | false =>
  cases R2 with
  | true =>
    have ho : orI false true R3 = 2 := by simp [orI]
    rw [ho]
    clear ho
    go_enter Tryz.func18, Tryz.ntmps18
    go_wp2_with fail
    refine (K1.out).mono ?_
    rintro e w1 ⟨rfl, hg1⟩
    go_wp2_with fail
    refine (K2.out _).mono ?_
    rintro e w2 ⟨rfl, hg2⟩
    have g2 := hg1.trans hg2
    go_wp2_with fail
    refine (K3.out _).mono ?_
    rintro e w3 ⟨u3, rfl, hu3, hg3, _⟩
    have HU3 := Lib.hid hu3.nodes
    obtain ⟨A3, n3, c3, rfl⟩ := slice3 hu3.nodes
    clear hu3
    go_wp2_with fail
    refine (K4.out _).mono ?_
    rintro e w4 ⟨u4, rfl, hu4, hg4, _⟩
    have HU4 := Lib.hid hu4.nodes
    obtain ⟨A4, n4, c4, rfl⟩ := slice3 hu4.nodes
    clear hu4
    go_wp2_with fail
    refine (KJ.out _ _ _ (HU3.out.grew hg4) HU4.out).mono ?_
    rintro e w5 ⟨u5, rfl, hu5, hg5⟩
    have HU5 := Lib.hid hu5.nodes
    obtain ⟨A5, c5, rfl⟩ := nodes_slice hu5.nodes
    rw [hlo9.out] at HU5 ⊢
    clear hu5
    have g5 := ((g2.trans hg3).trans hg4).trans hg5
    go_wp2_with fail
    refine (K5.out _ g5).mono ?_
    rintro e w6 ⟨rfl, hg6⟩
    have g6 := g5.trans hg6
    go_wp2_with fail
    refine (P1.out _ g6).mono ?_
    rintro e w7 ⟨rfl, hg7⟩
    have g7 := g6.trans hg7
    go_wp2_with fail
    refine (P2.out _ g7).mono ?_
    rintro e w8 ⟨rfl, hg8⟩
    have g8 := g7.trans hg8
    go_wp2_with fail
    go_ret2
    exact ⟨rfl, g8⟩
  | false =>
  cases R3 with
  | true =>
    have ho : orI false false true = 0 := by simp [orI]
    rw [ho]
    clear ho
    go_enter Tryz.func18, Tryz.ntmps18
    go_wp2_with fail
    refine (K1.out).mono ?_
    rintro e w1 ⟨rfl, hg1⟩
    go_wp2_with fail
    refine (K2.out _).mono ?_
    rintro e w2 ⟨rfl, hg2⟩
    have g2 := hg1.trans hg2
    go_wp2_with fail
    refine (K3.out _).mono ?_
    rintro e w3 ⟨u3, rfl, hu3, hg3, _⟩
    have HU3 := Lib.hid hu3.nodes
    obtain ⟨A3, n3, c3, rfl⟩ := slice3 hu3.nodes
    clear hu3
    go_wp2_with fail
    refine (K4.out _).mono ?_
    rintro e w4 ⟨u4, rfl, hu4, hg4, _⟩
    have HU4 := Lib.hid hu4.nodes
    obtain ⟨A4, n4, c4, rfl⟩ := slice3 hu4.nodes
    clear hu4
    go_wp2_with fail
    refine (KJ.out _ _ _ (HU3.out.grew hg4) HU4.out).mono ?_
    rintro e w5 ⟨u5, rfl, hu5, hg5⟩
    have HU5 := Lib.hid hu5.nodes
    obtain ⟨A5, c5, rfl⟩ := nodes_slice hu5.nodes
    rw [hlo9.out] at HU5 ⊢
    clear hu5
    have g5 := ((g2.trans hg3).trans hg4).trans hg5
    go_wp2_with fail
    refine (K5.out _ g5).mono ?_
    rintro e w6 ⟨rfl, hg6⟩
    have g6 := g5.trans hg6
    go_wp2_with fail
    refine (P1.out _ g6).mono ?_
    rintro e w7 ⟨rfl, hg7⟩
    have g7 := g6.trans hg7
    go_wp2_with fail
    refine (P2.out _ g7).mono ?_
    rintro e w8 ⟨rfl, hg8⟩
    have g8 := g7.trans hg8
    go_wp2_with fail
    refine (KT.out _ _ (HU5.out.grew (hg6.trans (hg7.trans hg8)))).mono ?_
    rintro e w9 ⟨rfl, hg9⟩
    have g9 := g8.trans hg9
    go_wp2_with fail
    refine (P3.out _ g9).mono ?_
    rintro e w10 ⟨rfl, hg10⟩
    have g10 := g9.trans hg10
    go_wp2_with fail
    go_ret2
    exact ⟨rfl, g10⟩
  | false =>
    have ho : orI false false false = -1 := by simp [orI]
    rw [ho]
    clear ho
    go_enter Tryz.func18, Tryz.ntmps18
    go_wp2_with fail
    refine (K1.out).mono ?_
    rintro e w1 ⟨rfl, hg1⟩
    go_wp2_with fail
    refine (K2.out _).mono ?_
    rintro e w2 ⟨rfl, hg2⟩
    have g2 := hg1.trans hg2
    go_wp2_with fail
    refine (K3.out _).mono ?_
    rintro e w3 ⟨u3, rfl, hu3, hg3, _⟩
    have HU3 := Lib.hid hu3.nodes
    obtain ⟨A3, n3, c3, rfl⟩ := slice3 hu3.nodes
    clear hu3
    go_wp2_with fail
    refine (K4.out _).mono ?_
    rintro e w4 ⟨u4, rfl, hu4, hg4, _⟩
    have HU4 := Lib.hid hu4.nodes
    obtain ⟨A4, n4, c4, rfl⟩ := slice3 hu4.nodes
    clear hu4
    go_wp2_with fail
    refine (KJ.out _ _ _ (HU3.out.grew hg4) HU4.out).mono ?_
    rintro e w5 ⟨u5, rfl, hu5, hg5⟩
    have HU5 := Lib.hid hu5.nodes
    obtain ⟨A5, c5, rfl⟩ := nodes_slice hu5.nodes
    rw [hlo9.out] at HU5 ⊢
    clear hu5
    have g5 := ((g2.trans hg3).trans hg4).trans hg5
    go_wp2_with fail
    refine (K5.out _ g5).mono ?_
    rintro e w6 ⟨rfl, hg6⟩
    have g6 := g5.trans hg6
    go_wp2_with fail
    refine (P1.out _ g6).mono ?_
    rintro e w7 ⟨rfl, hg7⟩
    have g7 := g6.trans hg7
    go_wp2_with fail
    refine (P2.out _ g7).mono ?_
    rintro e w8 ⟨rfl, hg8⟩
    have g8 := g7.trans hg8
    go_wp2_with fail
    refine (KT.out _ _ (HU5.out.grew (hg6.trans (hg7.trans hg8)))).mono ?_
    rintro e w9 ⟨rfl, hg9⟩
    have g9 := g8.trans hg9
    go_wp2_with fail
    refine (P3.out _ g9).mono ?_
    rintro e w10 ⟨rfl, hg10⟩
    have g10 := g9.trans hg10
    go_wp2_with fail
    go_ret2
    exact ⟨rfl, g10⟩
set_option maxHeartbeats 4000000 in
theorem specPd_c (v : Value) (L : List ByteArray) (a b : ByteArray) (w : World) (h : Strs w v L) (hs : Fits L) (hn : L.length ≤ 1048576) (ha : a.size ≤ 1048576) (hb : b.size ≤ 1048576) :
    Calls Tryz.prog 17 #[v, .string a, .string b] w (GivesII w (pdF L a b)) := by
  unfold GivesII
  have K1 := Lib.hid (fun W => l22Formula_c a W (by omega))
  have K2 := Lib.hid (fun W => l22Formula_c b W (by omega))
  have K3 := Lib.hid (fun W (hW : Grew w W) => l22Left_c v L W (h.grew hW) hs hn)
  have hQ : isQ L a = (gp a && (ascP L && decide (L.length ≤ 12))) := rfl
  unfold GivesP at K1 K2
  have hl1 := Fm.pf_len a
  have hl2 := Fm.pf_len b
  cases hq : (isQ L a && gp b) with
  | false =>
    rw [pdF_no hq]
    rw [hQ] at hq
    obtain ⟨A, k, rfl⟩ := strs_slice h
    clear h hs hQ hl1 hl2
    generalize (ascP L && decide (L.length ≤ 12)) = al at *
    generalize gp a = ga at *
    generalize gp b = gb at *
    generalize (Fm.pf a).1 = ya at *
    generalize (Fm.pf b).1 = yb at *
    cases al <;> cases ga <;> cases gb
    all_goals first
      | (exact absurd hq (by decide))
      | (clear hq
         go_enter Tryz.func17, Tryz.ntmps17
         go_wp2_with fail
         refine (K1.out _).mono ?_
         rintro e w1 ⟨u1, rfl, hu1, hg1⟩
         have HU1 := Lib.hid hu1.nodes
         obtain ⟨A1, n1, c1, rfl⟩ := slice3 hu1.nodes
         clear hu1
         go_wp2_with fail
         refine (K2.out _).mono ?_
         rintro e w2 ⟨u2, rfl, hu2, hg2⟩
         have HU2 := Lib.hid hu2.nodes
         obtain ⟨A2, n2, c2, rfl⟩ := slice3 hu2.nodes
         clear hu2
         have g2 := hg1.trans hg2
         go_wp2_with fail
         refine (K3.out _ g2).mono ?_
         rintro e w3 ⟨rfl, hg3⟩
         have g3 := g2.trans hg3
         go_wp2_with fail
         go_ret2
         exact ⟨rfl, g3⟩)
  | true =>
  have hcond := hq
  rw [Bool.and_eq_true] at hq
  obtain ⟨hq1, hgb⟩ := hq
  have hq2 := hq1
  rw [hQ, Bool.and_eq_true] at hq2
  obtain ⟨hga, hal⟩ := hq2
  rw [hga] at K1
  rw [hgb] at K2
  rw [hal] at K3
  obtain ⟨Ts, ta, rfl, rfl, hok, hta⟩ := isQ_of hq1
  obtain ⟨tb, htb, rfl⟩ := gp_tree hgb
  have hT : TL w v Ts := h
  have hfit := hs
  have K5 := Lib.hid (fun W (hW : Grew w W) => l23Size_c v (Ts.map tx) W (h.grew hW) hs hn)
  have p1 := congrArg Prod.fst (tx_pf hta.1)
  have p2 := congrArg Prod.fst (tx_pf htb.1)
  simp only at p1 p2
  rw [p1] at K1
  rw [p2] at K2
  have KJ := Lib.hid (fun u u2 W (hu : Nodes W u (Fm.enc ta)) (hu2 : Nodes W u2 (Fm.enc tb)) => l02Pair_c 3 u u2 _ _ W hu hu2 (by have := hta.1; have := htb.1; omega))
  have hj : Fm.join 3 (Fm.enc ta) (Fm.enc tb) = Fm.enc (.or ta tb) := rfl
  rw [hj] at KJ
  unfold Gives at KJ
  have hlj : (Fm.enc (.or ta tb)).length = 1 + (Fm.enc ta).length + (Fm.enc tb).length := by simp [Fm.enc]; omega
  have hz1 := hta.1
  have hz2 := htb.1
  have hm81 : (Fm.enc (.or ta tb)).length ≤ 81 := by omega
  have hzl := szL_le (Ts.map tx)
  have hsz := szL_map hok
  obtain ⟨A, n, k, rfl⟩ := hT.slice
  by_cases hbig : szL (Ts.map tx) + (1 + (Fm.pf (tx ta)).1.length + (Fm.pf (tx tb)).1.length) ≤ 20
  case neg =>
    rw [pdF_big hcond hbig]
    rw [p1, p2, ← hlj] at hbig
    clear h hs hq1 hgb hcond hT hsz hj p1 p2 hQ hga hal hfit hl1 hl2 hlj
    generalize szL (Ts.map tx) = z at *
    generalize hlo : (Fm.enc (Tree.or ta tb)).length = m at *
    have hlo9 := Lib.hid hlo
    clear hlo
    go_enter Tryz.func17, Tryz.ntmps17
    go_wp2_with fail
    refine (K1.out _).mono ?_
    rintro e w1 ⟨u1, rfl, hu1, hg1⟩
    have HU1 := Lib.hid hu1.nodes
    obtain ⟨A1, n1, c1, rfl⟩ := slice3 hu1.nodes
    clear hu1
    go_wp2_with fail
    refine (K2.out _).mono ?_
    rintro e w2 ⟨u2, rfl, hu2, hg2⟩
    have HU2 := Lib.hid hu2.nodes
    obtain ⟨A2, n2, c2, rfl⟩ := slice3 hu2.nodes
    clear hu2
    have g2 := hg1.trans hg2
    go_wp2_with fail
    refine (K3.out _ g2).mono ?_
    rintro e w3 ⟨rfl, hg3⟩
    have g3 := g2.trans hg3
    go_wp2_with fail
    refine (KJ.out _ _ _ (HU1.out.grew (hg2.trans hg3)) (HU2.out.grew hg3)).mono ?_
    rintro e w5 ⟨u5, rfl, hu5, hg5⟩
    have HU5 := Lib.hid hu5.nodes
    obtain ⟨A5, c5, rfl⟩ := nodes_slice hu5.nodes
    rw [hlo9.out] at HU5 ⊢
    clear hu5
    have g5 := g3.trans hg5
    go_wp2_with fail
    refine (K5.out _ g5).mono ?_
    rintro e w6 ⟨rfl, hg6⟩
    have g6 := g5.trans hg6
    go_wp2_with fail
    go_ret2
    exact ⟨rfl, g6⟩
  case pos =>
  rw [pdF_ok hok hta htb hcond hbig]
  rw [p1, p2] at hbig
  obtain ⟨o1, o2, o3⟩ := okS_pd hok hta htb (by rw [← hsz]; exact hbig)
  rw [← hlj] at hbig
  have P1 := Lib.hid (fun W (hW : Grew w W) => l23Ok_c _ Ts ta W o1 (hT.grew hW))
  have P2 := Lib.hid (fun W (hW : Grew w W) => l23Ok_c _ Ts tb W o2 (hT.grew hW))
  have P3 := Lib.hid (fun u uc W (hu : Lists W u (lf (Ts.map tx))) (hc : Nodes W uc (Fm.enc (.or ta tb))) => l23Search_c (mu Ts (.or ta tb) + 1) Ts (.or ta tb) u uc W (by omega) o3 (LT.of_lists (by rwa [lf_map hok] at hu) (by simpa using hn)) hc)
  have KF := Lib.hid (fun W (hW : Grew w W) => l22Formulas_c _ (Ts.map tx) W (h.grew hW) hfit hn)
  unfold GivesL at KF
  clear h hs hq1 hgb hcond hT hsz hj p1 p2 o1 o2 o3 hQ hga hal hfit hl1 hl2 hlj
  generalize szL (Ts.map tx) = z at *
  generalize lf (Ts.map tx) = Q at *
  generalize dc (EntL Ts ta) = R1 at *
  generalize dc (EntL Ts tb) = R2 at *
  generalize dc (EntL Ts (.or ta tb)) = R3 at *
  generalize hlo : (Fm.enc (Tree.or ta tb)).length = m at *
  have hlo9 := Lib.hid hlo
  clear hlo
  cases R1 with
  | true =>
    have ho : orI true R2 R3 = 1 := by simp [orI]
    rw [ho]
    clear ho
    go_enter Tryz.func17, Tryz.ntmps17
    go_wp2_with fail
    refine (K1.out _).mono ?_
    rintro e w1 ⟨u1, rfl, hu1, hg1⟩
    have HU1 := Lib.hid hu1.nodes
    obtain ⟨A1, n1, c1, rfl⟩ := slice3 hu1.nodes
    clear hu1
    go_wp2_with fail
    refine (K2.out _).mono ?_
    rintro e w2 ⟨u2, rfl, hu2, hg2⟩
    have HU2 := Lib.hid hu2.nodes
    obtain ⟨A2, n2, c2, rfl⟩ := slice3 hu2.nodes
    clear hu2
    have g2 := hg1.trans hg2
    go_wp2_with fail
    refine (K3.out _ g2).mono ?_
    rintro e w3 ⟨rfl, hg3⟩
    have g3 := g2.trans hg3
    go_wp2_with fail
    refine (KJ.out _ _ _ (HU1.out.grew (hg2.trans hg3)) (HU2.out.grew hg3)).mono ?_
    rintro e w5 ⟨u5, rfl, hu5, hg5⟩
    have HU5 := Lib.hid hu5.nodes
    obtain ⟨A5, c5, rfl⟩ := nodes_slice hu5.nodes
    rw [hlo9.out] at HU5 ⊢
    clear hu5
    have g5 := g3.trans hg5
    go_wp2_with fail
    refine (K5.out _ g5).mono ?_
    rintro e w6 ⟨rfl, hg6⟩
    have g6 := g5.trans hg6
    go_wp2_with fail
    refine (P1.out _ g6).mono ?_
    rintro e w7 ⟨rfl, hg7⟩
    have g7 := g6.trans hg7
    go_wp2_with fail
    go_ret2
    exact ⟨rfl, g7⟩
  | false =>
  cases R2 with
  | true =>
    have ho : orI false true R3 = 2 := by simp [orI]
    rw [ho]
    clear ho
    go_enter Tryz.func17, Tryz.ntmps17
    go_wp2_with fail
    refine (K1.out _).mono ?_
    rintro e w1 ⟨u1, rfl, hu1, hg1⟩
    have HU1 := Lib.hid hu1.nodes
    obtain ⟨A1, n1, c1, rfl⟩ := slice3 hu1.nodes
    clear hu1
    go_wp2_with fail
    refine (K2.out _).mono ?_
    rintro e w2 ⟨u2, rfl, hu2, hg2⟩
    have HU2 := Lib.hid hu2.nodes
    obtain ⟨A2, n2, c2, rfl⟩ := slice3 hu2.nodes
    clear hu2
    have g2 := hg1.trans hg2
    go_wp2_with fail
    refine (K3.out _ g2).mono ?_
    rintro e w3 ⟨rfl, hg3⟩
    have g3 := g2.trans hg3
    go_wp2_with fail
    refine (KJ.out _ _ _ (HU1.out.grew (hg2.trans hg3)) (HU2.out.grew hg3)).mono ?_
    rintro e w5 ⟨u5, rfl, hu5, hg5⟩
    have HU5 := Lib.hid hu5.nodes
    obtain ⟨A5, c5, rfl⟩ := nodes_slice hu5.nodes
    rw [hlo9.out] at HU5 ⊢
    clear hu5
    have g5 := g3.trans hg5
    go_wp2_with fail
    refine (K5.out _ g5).mono ?_
    rintro e w6 ⟨rfl, hg6⟩
    have g6 := g5.trans hg6
    go_wp2_with fail
    refine (P1.out _ g6).mono ?_
    rintro e w7 ⟨rfl, hg7⟩
    have g7 := g6.trans hg7
    go_wp2_with fail
    refine (P2.out _ g7).mono ?_
    rintro e w8 ⟨rfl, hg8⟩
    have g8 := g7.trans hg8
    go_wp2_with fail
    go_ret2
    exact ⟨rfl, g8⟩
  | false =>
  cases R3 with
  | true =>
    have ho : orI false false true = 0 := by simp [orI]
    rw [ho]
    clear ho
    go_enter Tryz.func17, Tryz.ntmps17
    go_wp2_with fail
    refine (K1.out _).mono ?_
    rintro e w1 ⟨u1, rfl, hu1, hg1⟩
    have HU1 := Lib.hid hu1.nodes
    obtain ⟨A1, n1, c1, rfl⟩ := slice3 hu1.nodes
    clear hu1
    go_wp2_with fail
    refine (K2.out _).mono ?_
    rintro e w2 ⟨u2, rfl, hu2, hg2⟩
    have HU2 := Lib.hid hu2.nodes
    obtain ⟨A2, n2, c2, rfl⟩ := slice3 hu2.nodes
    clear hu2
    have g2 := hg1.trans hg2
    go_wp2_with fail
    refine (K3.out _ g2).mono ?_
    rintro e w3 ⟨rfl, hg3⟩
    have g3 := g2.trans hg3
    go_wp2_with fail
    refine (KJ.out _ _ _ (HU1.out.grew (hg2.trans hg3)) (HU2.out.grew hg3)).mono ?_
    rintro e w5 ⟨u5, rfl, hu5, hg5⟩
    have HU5 := Lib.hid hu5.nodes
    obtain ⟨A5, c5, rfl⟩ := nodes_slice hu5.nodes
    rw [hlo9.out] at HU5 ⊢
    clear hu5
    have g5 := g3.trans hg5
    go_wp2_with fail
    refine (K5.out _ g5).mono ?_
    rintro e w6 ⟨rfl, hg6⟩
    have g6 := g5.trans hg6
    go_wp2_with fail
    refine (P1.out _ g6).mono ?_
    rintro e w7 ⟨rfl, hg7⟩
    have g7 := g6.trans hg7
    go_wp2_with fail
    refine (P2.out _ g7).mono ?_
    rintro e w8 ⟨rfl, hg8⟩
    have g8 := g7.trans hg8
    go_wp2_with fail
    refine (KF.out _ g8).mono ?_
    rintro e w9 ⟨uf, rfl, huf, hg9⟩
    have HUF := Lib.hid huf
    obtain ⟨Au, nu9, cu, rfl⟩ : ∃ A n c, uf = .slice A n c := by
      rcases huf with ⟨rfl, _⟩ | ⟨b, o, c, rfl, _⟩
      · exact ⟨_, _, _, rfl⟩
      · exact ⟨_, _, _, rfl⟩
    clear huf
    have g9 := g8.trans hg9
    go_wp2_with fail
    refine (P3.out _ _ _ HUF.out (HU5.out.grew ((hg6.trans (hg7.trans hg8)).trans hg9))).mono ?_
    rintro e w10 ⟨rfl, hg10⟩
    have g10 := g9.trans hg10
    go_wp2_with fail
    go_ret2
    exact ⟨rfl, g10⟩
  | false =>
    have ho : orI false false false = -1 := by simp [orI]
    rw [ho]
    clear ho
    go_enter Tryz.func17, Tryz.ntmps17
    go_wp2_with fail
    refine (K1.out _).mono ?_
    rintro e w1 ⟨u1, rfl, hu1, hg1⟩
    have HU1 := Lib.hid hu1.nodes
    obtain ⟨A1, n1, c1, rfl⟩ := slice3 hu1.nodes
    clear hu1
    go_wp2_with fail
    refine (K2.out _).mono ?_
    rintro e w2 ⟨u2, rfl, hu2, hg2⟩
    have HU2 := Lib.hid hu2.nodes
    obtain ⟨A2, n2, c2, rfl⟩ := slice3 hu2.nodes
    clear hu2
    have g2 := hg1.trans hg2
    go_wp2_with fail
    refine (K3.out _ g2).mono ?_
    rintro e w3 ⟨rfl, hg3⟩
    have g3 := g2.trans hg3
    go_wp2_with fail
    refine (KJ.out _ _ _ (HU1.out.grew (hg2.trans hg3)) (HU2.out.grew hg3)).mono ?_
    rintro e w5 ⟨u5, rfl, hu5, hg5⟩
    have HU5 := Lib.hid hu5.nodes
    obtain ⟨A5, c5, rfl⟩ := nodes_slice hu5.nodes
    rw [hlo9.out] at HU5 ⊢
    clear hu5
    have g5 := g3.trans hg5
    go_wp2_with fail
    refine (K5.out _ g5).mono ?_
    rintro e w6 ⟨rfl, hg6⟩
    have g6 := g5.trans hg6
    go_wp2_with fail
    refine (P1.out _ g6).mono ?_
    rintro e w7 ⟨rfl, hg7⟩
    have g7 := g6.trans hg7
    go_wp2_with fail
    refine (P2.out _ g7).mono ?_
    rintro e w8 ⟨rfl, hg8⟩
    have g8 := g7.trans hg8
    go_wp2_with fail
    refine (KF.out _ g8).mono ?_
    rintro e w9 ⟨uf, rfl, huf, hg9⟩
    have HUF := Lib.hid huf
    obtain ⟨Au, nu9, cu, rfl⟩ : ∃ A n c, uf = .slice A n c := by
      rcases huf with ⟨rfl, _⟩ | ⟨b, o, c, rfl, _⟩
      · exact ⟨_, _, _, rfl⟩
      · exact ⟨_, _, _, rfl⟩
    clear huf
    have g9 := g8.trans hg9
    go_wp2_with fail
    refine (P3.out _ _ _ HUF.out (HU5.out.grew ((hg6.trans (hg7.trans hg8)).trans hg9))).mono ?_
    rintro e w10 ⟨rfl, hg10⟩
    have g10 := g9.trans hg10
    go_wp2_with fail
    go_ret2
    exact ⟨rfl, g10⟩
end Go.Proofs.YtmdbhcoioimlmaaGreat

/- A left side from which no text can be taken away: the plain law. No program is in sight. -/
namespace Go.Proofs.YtmdbhcoioimlmaaGreat
open Go.RowKit
open Fm (Tree)

/-- What is left when each formula in turn is taken away where the rest proves the goal. -/
noncomputable def mn (c : Tree) : List Tree → List Tree → List Tree
  | K, [] => K
  | K, t :: r => if dc (EntL (K ++ r) c) = true then mn c K r else mn c (K ++ [t]) r
theorem mn_nil (c : Tree) (K : List Tree) : mn c K [] = K := by rw [mn]
theorem mn_yes {c t : Tree} {K r : List Tree} (h : dc (EntL (K ++ r) c) = true) : mn c K (t :: r) = mn c K r := by rw [mn, if_pos h]
theorem mn_no {c t : Tree} {K r : List Tree} (h : dc (EntL (K ++ r) c) = false) : mn c K (t :: r) = mn c (K ++ [t]) r := by rw [mn, if_neg (by rw [h]; decide)]
theorem mn_sub (c : Tree) : ∀ r K, (mn c K r).Sublist (K ++ r)
  | [], K => by rw [mn_nil]; simp
  | t :: r, K => by
    cases h : dc (EntL (K ++ r) c) with
    | true =>
      rw [mn_yes h]
      exact (mn_sub c r K).trans (List.Sublist.append_left (List.sublist_cons_self t r) K)
    | false =>
      rw [mn_no h]
      have := mn_sub c r (K ++ [t])
      simpa using this
theorem mn_ent (c : Tree) : ∀ r K, EntL (K ++ r) c → EntL (mn c K r) c
  | [], K, hE => by rw [mn_nil]; simpa using hE
  | t :: r, K, hE => by
    cases h : dc (EntL (K ++ r) c) with
    | true => rw [mn_yes h]; exact mn_ent c r K (of_dc h)
    | false => rw [mn_no h]; exact mn_ent c r (K ++ [t]) (by simpa using hE)
/-- Nothing can be taken away. -/
theorem mn_least (c : Tree) : ∀ r K, (∀ i, i < K.length → ¬ EntL (K.eraseIdx i ++ r) c) → ∀ i, i < (mn c K r).length → ¬ EntL ((mn c K r).eraseIdx i) c
  | [], K, hK, i, hi => by
    rw [mn_nil] at hi ⊢
    simpa using hK i hi
  | t :: r, K, hK, i, hi => by
    cases h : dc (EntL (K ++ r) c) with
    | true =>
      rw [mn_yes h] at hi ⊢
      refine mn_least c r K (fun j hj hE => hK j hj (entL_more (fun a ha => ?_) hE)) i hi
      rw [List.mem_append] at ha ⊢
      exact ha.imp id (fun hr => List.mem_cons_of_mem _ hr)
    | false =>
      rw [mn_no h] at hi ⊢
      refine mn_least c r (K ++ [t]) (fun j hj hE => ?_) i hi
      rw [List.length_append, List.length_singleton] at hj
      rcases Nat.lt_or_ge j K.length with hj2 | hj2
      · rw [List.eraseIdx_append_of_lt_length hj2] at hE
        exact hK j hj2 (by simpa using hE)
      · obtain rfl : j = K.length := by omega
        rw [List.eraseIdx_append_of_length_le (Nat.le_refl _)] at hE
        simp only [Nat.sub_self, List.eraseIdx_cons_zero, List.append_nil] at hE
        exact not_dc h hE

theorem OkS.sub {L K : List Tree} {c : Tree} (h : OkS L c) (hs : K.Sublist L) : OkS K c :=
  ⟨fun a ha => h.1 a (hs.subset ha), h.2.1, by have h1 := h.2.2; have h2 := tot_sub (f := f2) hs; unfold nu at *; omega⟩

/-! The texts of a left side are different from each other. -/
theorem bless_trans {x y z : List UInt8} (h1 : Op.bytesLess x y = true) (h2 : Op.bytesLess y z = true) : Op.bytesLess x z = true := by
  rw [bytesLess_eq] at *
  simp only [decide_eq_true_eq] at *
  exact List.lt_trans h1 h2
theorem bless_irrefl (x : List UInt8) : Op.bytesLess x x = false := by
  rw [bytesLess_eq]
  simp only [decide_eq_false_iff_not]
  exact List.lt_irrefl x
theorem ascP_lt {L : List ByteArray} (h : AscP L L.length) : ∀ d i, i + d + 1 < L.length → Op.bytesLess (st L i).toList (st L (i + d + 1)).toList = true
  | 0, i, hi => by
    have := (h (i + 1) hi).2 (by omega)
    rwa [Nat.add_sub_cancel] at this
  | d + 1, i, hi => by
    have h1 := ascP_lt h d i (by omega)
    have h2 := (h (i + (d + 1) + 1) hi).2 (by omega)
    rw [Nat.add_sub_cancel] at h2
    exact bless_trans h1 h2
theorem ascP_nodup {L : List ByteArray} (h : ascP L = true) : L.Nodup := by
  have h3 : AscP L L.length := by
    unfold ascP at h
    exact @of_decide_eq_true _ (Classical.propDecidable _) h
  rw [List.Nodup, List.pairwise_iff_getElem]
  intro i j hi hj hij e
  rw [st_eq hi, st_eq hj] at e
  have := ascP_lt h3 (j - i - 1) i (by omega)
  rw [show i + (j - i - 1) + 1 = j by omega, e, bless_irrefl] at this
  cases this
theorem QOk.nodup {L : List ByteArray} {s : ByteArray} {Ts : List Tree} {c : Tree} (h : QOk L s Ts c) : Ts.Nodup := by
  have := ascP_nodup h.asc
  rw [h.left] at this
  exact (List.pairwise_map.1 this).imp fun h e => h (by rw [e])

theorem dropT_mid {K D : List Tree} {t : Tree} (h : (K ++ t :: D).Nodup) : dropT (K ++ t :: D) t = K ++ D := by
  unfold dropT
  rw [List.nodup_append] at h
  obtain ⟨_, h2, h3⟩ := h
  rw [List.nodup_cons] at h2
  rw [List.filter_append, List.filter_cons, dc_true rfl]
  have e1 : K.filter (fun a => !dc (a = t)) = K := List.filter_eq_self.2 fun a ha => by
    rw [dc_false (fun e : a = t => h3 a ha t (.head _) e)]; rfl
  have e2 : D.filter (fun a => !dc (a = t)) = D := List.filter_eq_self.2 fun a ha => by
    rw [dc_false (fun e : a = t => h2.1 (by rw [← e]; exact ha))]; rfl
  rw [e1, e2]
  rfl

/-- What the loop keeps: the kept formulas and those to come are a part of the left side; the end is R. -/
structure MI (Ts : List Tree) (c : Tree) (R K D : List Tree) : Prop where
  sub : (K ++ D).Sublist Ts
  fin : mn c K D = R
theorem MI.start (Ts : List Tree) (c : Tree) : MI Ts c (mn c [] Ts) [] Ts := ⟨by simp, rfl⟩
theorem MI.yes {Ts R K D : List Tree} {c t : Tree} (h : MI Ts c R K (t :: D)) (he : dc (EntL (K ++ D) c) = true) : MI Ts c R K D :=
  ⟨(List.Sublist.append_left (List.sublist_cons_self t D) K).trans h.sub, by rw [← h.fin, mn_yes he]⟩
theorem MI.no {Ts R K D : List Tree} {c t : Tree} (h : MI Ts c R K (t :: D)) (he : dc (EntL (K ++ D) c) = false) : MI Ts c R (K ++ [t]) D :=
  ⟨by simpa using h.sub, by rw [← h.fin, mn_no he]⟩
theorem MI.ok {Ts R K D : List Tree} {c t : Tree} (h : MI Ts c R K (t :: D)) (hS : OkS Ts c) : OkS (K ++ D) c :=
  hS.sub ((List.Sublist.append_left (List.sublist_cons_self t D) K).trans h.sub)
theorem MI.drop {Ts R K D : List Tree} {c t : Tree} (h : MI Ts c R K (t :: D)) (hS : OkS Ts c) (hd : Ts.Nodup) : dropS ((K ++ t :: D).map tx) (tx t) = (K ++ D).map tx := by
  have hs := (hS.sub h.sub).1
  rw [dropS_of hs (hs t (by simp)), dropT_mid (h.sub.nodup hd)]
theorem MI.fin_ {Ts R K : List Tree} {c : Tree} (h : MI Ts c R K []) : K = R := by rw [← h.fin, mn_nil]
theorem MI.len {Ts R K D : List Tree} {c : Tree} (h : MI Ts c R K D) : K.length + D.length ≤ Ts.length := by
  have := h.sub.length_le
  rwa [List.length_append] at this

/-- Texts and a code. -/
def GivesS2 (w : World) (r : List ByteArray × Int) (e : Ending) (w' : World) : Prop := ∃ v, e = .returned (.tuple #[v, .int .i64 r.2]) ∧ OwnS w' w.heap.size v r.1 ∧ Grew w w'
noncomputable def mlF (L : List ByteArray) (s : ByteArray) : List ByteArray × Int :=
  if qcode L s = 0 then (if dc (EntL (L.map fo) (fo s)) = true then ((mn (fo s) [] (L.map fo)).map tx, 0) else ([], 4)) else ([], qcode L s)
theorem mlF_bad {L : List ByteArray} {s : ByteArray} (h : qcode L s ≠ 0) : mlF L s = ([], qcode L s) := by unfold mlF; rw [if_neg h]
theorem mlF_no {L : List ByteArray} {s : ByteArray} {Ts : List Tree} {c : Tree} (h : qcode L s = 0) (hq : QOk L s Ts c) (he : dc (EntL Ts c) = false) : mlF L s = ([], 4) := by
  unfold mlF
  rw [if_pos h, hq.left, hq.right, map_fo_tx hq.ok, fo_tx hq.okc, he]
  rfl
theorem mlF_yes {L : List ByteArray} {s : ByteArray} {Ts : List Tree} {c : Tree} (h : qcode L s = 0) (hq : QOk L s Ts c) (he : dc (EntL Ts c) = true) : mlF L s = ((mn c [] Ts).map tx, 0) := by
  unfold mlF
  rw [if_pos h, hq.left, hq.right, map_fo_tx hq.ok, fo_tx hq.okc, if_pos he]
theorem mlF_len (L : List ByteArray) (s : ByteArray) : (mlF L s).1.length ≤ L.length := by
  by_cases hz : qcode L s = 0
  · obtain ⟨Ts, c, hq⟩ := qOk_of hz
    cases he : dc (EntL Ts c) with
    | true =>
      rw [mlF_yes hz hq he]
      have := (mn_sub c Ts []).length_le
      rw [hq.left]
      simpa using this
    | false => rw [mlF_no hz hq he]; simp
  · rw [mlF_bad hz]; simp
end Go.Proofs.YtmdbhcoioimlmaaGreat

/- A predicate on strings: IndexFunc, ContainsFunc. -/
namespace Go.Proofs.YtmdbhcoioimlmaaGreat
open Go.RowKit

/-- None of the first k strings meets the predicate. -/
def NoneS (p : ByteArray → Bool) (L : List ByteArray) (k : Nat) : Prop := ∀ i, i < k → p (st L i) = false
theorem NoneS.zero (p : ByteArray → Bool) (L : List ByteArray) : NoneS p L 0 := fun i hi => absurd hi (by omega)
theorem NoneS.succ {p : ByteArray → Bool} {L : List ByteArray} {k : Nat} (h : NoneS p L k) (h1 : p (st L k) = false) : NoneS p L (k + 1) := by
  intro i hi
  rcases Nat.lt_or_ge i k with hk | hk
  · exact h i hk
  · obtain rfl : i = k := by omega
    exact h1
theorem noneS_any {p : ByteArray → Bool} {L : List ByteArray} (h : NoneS p L L.length) : L.any p = false := by
  rw [List.any_eq_false]
  intro x hx
  obtain ⟨i, hi, rfl⟩ := List.getElem_of_mem hx
  rw [st_get hi, h i hi]
  simp
theorem anyS_at {p : ByteArray → Bool} {L : List ByteArray} {k : Nat} (hk : k < L.length) (h : p (st L k) = true) : L.any p = true := by
  rw [List.any_eq_true]
  exact ⟨L[k], List.getElem_mem hk, by rw [st_get hk]; exact h⟩

/-- What the function value gives at a string. -/
def PredS (f : Nat) (p : ByteArray → Bool) : Prop := ∀ s W, s.size ≤ 140737488355328 → Calls Tryz.prog f #[.string s] W fun e W' => e = .returned (.bool (p s)) ∧ Grew W W'

theorem indexFuncS_c (v : Value) (L : List ByteArray) (f : Nat) (p : ByteArray → Bool) (w : World) (h : Strs w v L) (hfit : Fits L) (hf : PredS f p) (eg : ∀ args w, (callFunc f args).run Tryz.prog w = .ok (.enter f args) w) :
    Calls Tryz.prog 87 #[v, .func (.func f) #[] #[]] w fun e w' => ∃ r : Int, e = .returned (.int .i64 r) ∧ Grew w w' ∧ decide (0 ≤ r) = L.any p := by
  rcases h.open_ with ⟨rfl, rfl⟩ | ⟨b, o, c, rfl, hc, hm, hb, hcell⟩
  · rw [noneS_any (NoneS.zero _ _)]
    clear h hf hfit
    go_enter Tryz.func87, Tryz.ntmps87
    go_wp2_with fail
    refine wp_loop_rounds 1 ?_; rw [rounds_succ]
    go_wp2_with fail
    go_ret
    exact ⟨_, rfl, Grew.refl _, rfl⟩
  obtain ⟨R, hR⟩ : ∃ R, R = L.any p := ⟨_, rfl⟩
  rw [← hR]
  have HA := Lib.hid (fun k hk h => hR.trans (@anyS_at p L k hk h))
  have HZ := Lib.hid (fun h => hR.trans (@noneS_any p L h))
  have HC := Lib.hid hcell
  have HF := Lib.hid hf
  unfold Fits at hfit
  have HT := Lib.hid hfit
  clear hcell h hf hR hfit
  generalize hN : L.length = n at *
  clear hN
  go_enter Tryz.func87, Tryz.ntmps87
  go_wp2_with fail
  go_loopw [5, 8] (fun _ i wr => ∃ j : Nat, j ≤ n ∧ i = .int .i64 j ∧ Grew w wr ∧ Hid (NoneS p L j)) (fun _ i _ => n - (intOf i).toNat)
  case atStart => exact ⟨0, Nat.zero_le _, rfl, Grew.refl _, NoneS.zero _ _⟩
  case round =>
    obtain ⟨j, hj, rfl, hB, HJ⟩ := hrel
    by_cases hlt : j < n
    · have k1 := HC.out j hlt _ hB
      have hz := HT.out j hlt
      have hA := Lib.hid (HA.out j hlt)
      have hS := Lib.hid (fun h => HJ.out.succ (k := j) h)
      generalize st L j = x at *
      go_wp2_with fail
      go_at_fn f
      refine (HF.out x _ (by omega)).mono ?_
      rintro e w1 ⟨rfl, hg1⟩
      have hB1 := hB.trans hg1
      cases hp : p x with
      | true =>
        have hv := hA.out hp
        go_wp2_with fail
        go_ret
        exact ⟨_, rfl, hB1, by rw [hv]; simp⟩
      | false =>
        have hs := Lib.hid (hS.out hp)
        go_wp2_with fail
        go_roundw
        case rel => exact ⟨j + 1, by omega, by go_num, hB1, hs⟩
        case measure => simp [intOf]; omega
    · obtain rfl : j = n := by omega
      have hv := Lib.hid (HZ.out HJ.out)
      go_wp2_with fail
      go_ret
      exact ⟨_, rfl, hB, by rw [hv.out]; rfl⟩

theorem containsFuncS_c (v : Value) (L : List ByteArray) (f : Nat) (p : ByteArray → Bool) (w : World) (h : Strs w v L) (hfit : Fits L) (hf : PredS f p) (eg : ∀ args w, (callFunc f args).run Tryz.prog w = .ok (.enter f args) w) :
    Calls Tryz.prog 49 #[v, .func (.func f) #[] #[]] w fun e w' => e = .returned (.bool (L.any p)) ∧ Grew w w' := by
  have HI := Lib.hid (indexFuncS_c v L f p w h hfit hf eg)
  clear h hf eg hfit
  generalize L.any p = R at *
  go_enter Tryz.func49, Tryz.ntmps49
  go_wp2_with fail
  refine HI.out.mono ?_
  rintro e w1 ⟨r, rfl, hg1, hr⟩
  go_wp2_with fail
  go_ret
  exact ⟨by rw [← hr]; rfl, hg1⟩
end Go.Proofs.YtmdbhcoioimlmaaGreat

/- Lists of one and of two strings. -/
namespace Go.Proofs.YtmdbhcoioimlmaaGreat
open Go.RowKit

theorem strs_one {w : World} {v : Value} {a : ByteArray} (h : Strs w v [a]) : ∃ b o c, v = .slice (some ⟨b, o, none⟩) 1 c ∧ 1 ≤ c ∧ c ≤ 9223372036854775807 ∧ b < w.heap.size ∧ ∀ W, Grew w W → W.cell? ⟨b, o, none⟩ = some (.string a) := by
  rcases h.open_ with ⟨_, h0⟩ | ⟨b, o, c, rfl, hc, hm, hb, hf⟩
  · cases h0
  · exact ⟨b, o, c, rfl, hc, hm, hb, fun W hW => by simpa [st] using hf 0 (by simp) W hW⟩
theorem strs_two {w : World} {v : Value} {a a2 : ByteArray} (h : Strs w v [a, a2]) : ∃ b o c, v = .slice (some ⟨b, o, none⟩) 2 c ∧ 2 ≤ c ∧ c ≤ 9223372036854775807 ∧ b < w.heap.size ∧ ∀ W, Grew w W → W.cell? ⟨b, o, none⟩ = some (.string a) ∧ W.cell? ⟨b, o + 1, none⟩ = some (.string a2) := by
  rcases h.open_ with ⟨_, h0⟩ | ⟨b, o, c, rfl, hc, hm, hb, hf⟩
  · cases h0
  · exact ⟨b, o, c, rfl, hc, hm, hb, fun W hW => ⟨by simpa [st] using hf 0 (by simp) W hW, by simpa [st] using hf 1 (by simp) W hW⟩⟩

end Go.Proofs.YtmdbhcoioimlmaaGreat

/- l01Says, l02Insert, l22With of the reference. -/
namespace Go.Proofs.YtmdbhcoioimlmaaGreat
open Go.RowKit

theorem l01Says_c (v : Value) (L : List ByteArray) (s : ByteArray) (w : World) (h : Strs w v L) (hn : L.length ≤ 1099511627776) :
    Calls Tryz.prog 69 #[v, .string s] w fun e w' => e = .returned (.bool (dc (s ∈ L))) ∧ Grew w w' := by
  obtain ⟨R, hR⟩ : ∃ R, R = dc (s ∈ L) := ⟨_, rfl⟩
  rw [← hR]
  rcases h.open_ with ⟨rfl, rfl⟩ | ⟨b, o, c, rfl, hc, hm, hb, hcell⟩
  · have hv := Lib.hid (hR.trans (dc_false (by simp)))
    clear h hR
    go_enter Tryz.func69, Tryz.ntmps69
    go_wp2_with fail
    refine wp_loop_rounds 1 ?_; rw [rounds_succ]
    go_wp2_with fail
    go_ret
    exact ⟨by rw [hv.out]; rfl, Grew.refl _⟩
  have HA := Lib.hid (fun k (hk : k < L.length) (he : st L k = s) => hR.trans (dc_true (by rw [← he]; exact st_mem hk)))
  have HZ := Lib.hid (fun h => hR.trans (dc_false (@notS_all L s h)))
  have HC := Lib.hid hcell
  clear h hcell hR
  generalize hN : L.length = n at *
  clear hN
  go_enter Tryz.func69, Tryz.ntmps69
  go_wp2_with fail
  go_loopw [5] (fun i wr => ∃ j : Nat, j ≤ n ∧ i = .int .i64 j ∧ Grew w wr ∧ Hid (NotS L s j)) (fun i _ => n - (intOf i).toNat)
  case atStart => exact ⟨0, Nat.zero_le _, rfl, Grew.refl _, NotS.zero _ _⟩
  case round =>
    obtain ⟨j, hj, rfl, hB, HJ⟩ := hrel
    by_cases hlt : j < n
    · have k1 := HC.out j hlt _ hB
      have hA := Lib.hid (HA.out j hlt)
      have hS := Lib.hid (fun h => HJ.out.succ (k := j) h)
      generalize st L j = x at *
      by_cases hx : x = s
      · have hv := Lib.hid (hA.out hx)
        subst hx
        have q1 := bytes_eq' x
        clear hA hS
        go_wp2_with fail
        go_ret
        exact ⟨by rw [hv.out]; rfl, hB⟩
      · have hs := Lib.hid (hS.out hx)
        have q1 := bytes_ne' (fun e : s = x => hx e.symm)
        have q2 := bytes_ne' hx
        clear hA hS hx
        go_wp2_with fail
        go_roundw
        case rel => exact ⟨j + 1, by omega, by go_num, hB, hs⟩
        case measure => simp [intOf]; omega
    · obtain rfl : j = n := by omega
      have hv := Lib.hid (HZ.out HJ.out)
      go_wp2_with fail
      go_ret
      exact ⟨by rw [hv.out]; rfl, hB⟩

/-- A list with a text put in. -/
def InsB (L : List ByteArray) (s : ByteArray) (K : List ByteArray) : Prop := (K = L ∧ s ∈ L) ∨ ∃ j, j ≤ L.length ∧ K = L.take j ++ [s] ++ L.drop j
def GivesIn (w : World) (L : List ByteArray) (s : ByteArray) (e : Ending) (w' : World) : Prop := ∃ u K, e = .returned u ∧ Strs w' u K ∧ InsB L s K ∧ Grew w w'
theorem insB_nil (s : ByteArray) : InsB [] s [s] := .inr ⟨0, Nat.le_refl _, rfl⟩
theorem rdS_take {w : World} {A : Option Addr} {n c : Nat} {L : List ByteArray} (h : Rd w 1 (.slice A n c) n (scells L)) (hl : L.length = n) (i : Nat) (hi : i ≤ n) : Strs w (.slice A i c) (L.take i) := by
  have := rd_take h i hi
  unfold Strs scells at *
  rw [List.length_take, hl, Nat.min_eq_left hi, List.map_take]
  exact this
theorem rdS_tail {w : World} {b o n c : Nat} {L : List ByteArray} (h : Rd w 1 (.slice (some ⟨b, o, none⟩) n c) n (scells L)) (hl : L.length = n) (i : Nat) (hi : i ≤ n) (hn : n ≤ c) : Strs w (.slice (if c = i then some ⟨b, o, none⟩ else some ⟨b, o + i, none⟩) (n - i) (c - i)) (L.drop i) := by
  have := rd_tail h i hi hn
  unfold Strs scells at *
  rw [List.length_drop, hl, List.map_drop]
  exact this
set_option maxHeartbeats 2000000 in
theorem l02Insert_c (v : Value) (L : List ByteArray) (s : ByteArray) (w : World) (h : Strs w v L) (hn : L.length ≤ 1048576) :
    Calls Tryz.prog 63 #[v, .string s] w (GivesIn w L s) := by
  have h0 := Lib.hid h
  rcases h.open_ with ⟨rfl, rfl⟩ | ⟨b, o, c, rfl, hc, hm, hb, hcell⟩
  · clear h
    have he := own_emptyS' w
    go_enter Tryz.func63, Tryz.ntmps63
    go_wp2_with fail
    refine wp_loop_rounds 1 ?_; rw [rounds_succ]
    go_wp2_with (first
      | (at_builtin; have hz := hown2; refine wpList_appSs (w0 := w) _ _ rfl rfl _ _ rfl hown2 hg2 _ [] rfl (Strs.nil_ _) (by simp) ?_; intro v3 w3 hown3 hg3 _)
      | (at_builtin; have hz := hown1; refine wpList_appStr (w0 := w) _ _ rfl rfl _ _ rfl (own_grew hown1 ((Grew.refl w1).alloc _)) (hg1.alloc _) _ s rfl (rd_lit _ _ _) (by simp) ?_; intro v2 w2 hown2 hg2 _; have hs2 := strs_slice hown2.strs; obtain ⟨A2, c2, rfl⟩ := hs2)
      | (at_builtin; refine wpList_appSs (w0 := w) _ _ rfl rfl _ [] rfl he ((Grew.refl w).alloc _) _ [] rfl (Strs.nil_ _) (by simp) ?_; intro v1 w1 hown1 hg1 _; have hs1 := strs_slice hown1.strs; obtain ⟨A1, c1, rfl⟩ := hs1))
    go_ret
    exact ⟨_, _, rfl, hown3.strs, by simpa using insB_nil s, hg3⟩
  have HC := Lib.hid hcell
  have HR := Lib.hid (show Rd w 1 (.slice (some ⟨b, o, none⟩) L.length c) L.length (scells L) from h)
  have HT := Lib.hid (fun i hi => rdS_take HR.out rfl i hi)
  have HD := Lib.hid (fun i hi => rdS_tail HR.out rfl i hi hc)
  have HM := Lib.hid (fun j hj (he : st L j = s) => (by rw [← he]; exact st_mem hj : s ∈ L))
  have HJ := Lib.hid (fun j (hj : j ≤ L.length) => (show InsB L s (L.take j ++ [s] ++ L.drop j) from .inr ⟨j, hj, rfl⟩))
  have HLt := Lib.hid (fun j => (by rw [List.length_take]; omega : (L.take j).length ≤ L.length))
  have HLd := Lib.hid (fun j => (by rw [List.length_drop]; omega : (L.drop j).length ≤ L.length))
  clear h hcell HR
  generalize hN : L.length = n at *
  clear hN
  go_enter Tryz.func63, Tryz.ntmps63
  go_wp2_with fail
  go_loopw [5] (fun i wr => ∃ j : Nat, j ≤ n ∧ i = .int .i64 j ∧ Grew w wr) (fun i _ => n - (intOf i).toNat)
  case atStart => exact ⟨0, Nat.zero_le _, rfl, Grew.refl _⟩
  case round =>
    obtain ⟨j, hj, rfl, hB⟩ := hrel
    have he := own_emptyS' wr
    have hT := Lib.hid (HT.out j hj)
    have hD := Lib.hid (HD.out j hj)
    have hJ := Lib.hid (HJ.out j hj)
    have hlt1 := HLt.out j
    have hld1 := HLd.out j
    have hb1 := hB.size
    by_cases hlt : j < n
    · have k1 := HC.out j hlt _ hB
      have hM := Lib.hid (HM.out j hlt)
      have hcj : ¬ c = j := by omega
      rw [if_neg hcj] at hD
      generalize st L j = x at *
      generalize L.take j = T at *
      generalize L.drop j = U at *
      cases hl : Op.bytesLess x.toList s.toList with
      | true =>
        go_wp2_with fail
        go_roundw
        case rel => exact ⟨j + 1, by omega, by go_num, hB⟩
        case measure => simp [intOf]; omega
      | false =>
        by_cases hx : x = s
        · have hv := Lib.hid (hM.out hx)
          subst hx
          have q1 := bytes_eq' x
          go_wp2_with fail
          go_ret
          exact ⟨_, _, rfl, Strs.grew h0.out hB, .inl ⟨rfl, hv.out⟩, hB⟩
        · have q1 := bytes_ne' (fun e : s = x => hx e.symm)
          have q2 := bytes_ne' hx
          have he1 : OwnS (wr.alloc (.cells #[] 9)) w.heap.size (.slice (some ⟨wr.heap.size, 0, none⟩) 0 0) [] := World.ownsRow_lit (e := 9) (size := 1) wr #[] 0 hb1 (by omega) rfl
          go_wp2_with (first
            | (at_builtin; have hz := hown2; refine wpList_appSs (w0 := w) _ _ rfl rfl _ _ rfl hown2 hg2 _ U rfl (Strs.grew hD.out hg2) (by first | omega | (simp; omega)) ?_; intro v3 w3 hown3 hg3 _)
            | (at_builtin; have hz := hown1; refine wpList_appStr (w0 := w) _ _ rfl rfl _ _ rfl (own_grew hown1 ((Grew.refl w1).alloc _)) (hg1.alloc _) _ s rfl (rd_lit _ _ _) (by first | omega | (simp; omega)) ?_; intro v2 w2 hown2 hg2 _; have hs2 := strs_slice hown2.strs; rw [List.length_append, List.length_singleton] at hs2; obtain ⟨A2, c2, rfl⟩ := hs2)
            | (at_builtin; refine wpList_appSs (w0 := w) _ _ rfl rfl _ [] rfl he1 (hB.alloc _) _ T rfl (Strs.grew hT.out (hB.alloc _)) (by first | omega | (simp; omega)) ?_; intro v1 w1 hown1 hg1 _; rw [List.nil_append] at hown1; have hs1 := strs_slice hown1.strs; obtain ⟨A1, c1, rfl⟩ := hs1))
          go_ret
          exact ⟨_, _, rfl, hown3.strs, by simpa using hJ.out, hg3⟩
    · obtain rfl : j = n := by omega
      generalize L.take j = T at *
      generalize L.drop j = U at *
      have he1 : OwnS (wr.alloc (.cells #[] 9)) w.heap.size (.slice (some ⟨wr.heap.size, 0, none⟩) 0 0) [] := World.ownsRow_lit (e := 9) (size := 1) wr #[] 0 hb1 (by omega) rfl
      by_cases hcj : c = j
      · subst hcj
        rw [if_pos rfl, Nat.sub_self] at hD
        go_wp2_with (first
          | (at_builtin; have hz := hown2; refine wpList_appSs (w0 := w) _ _ rfl rfl _ _ rfl hown2 hg2 _ U rfl (Strs.grew hD.out hg2) (by first | omega | (simp; omega)) ?_; intro v3 w3 hown3 hg3 _)
          | (at_builtin; have hz := hown1; refine wpList_appStr (w0 := w) _ _ rfl rfl _ _ rfl (own_grew hown1 ((Grew.refl w1).alloc _)) (hg1.alloc _) _ s rfl (rd_lit _ _ _) (by first | omega | (simp; omega)) ?_; intro v2 w2 hown2 hg2 _; have hs2 := strs_slice hown2.strs; rw [List.length_append, List.length_singleton] at hs2; obtain ⟨A2, c2, rfl⟩ := hs2)
          | (at_builtin; refine wpList_appSs (w0 := w) _ _ rfl rfl _ [] rfl he1 (hB.alloc _) _ T rfl (Strs.grew hT.out (hB.alloc _)) (by first | omega | (simp; omega)) ?_; intro v1 w1 hown1 hg1 _; rw [List.nil_append] at hown1; have hs1 := strs_slice hown1.strs; obtain ⟨A1, c1, rfl⟩ := hs1))
        go_ret
        exact ⟨_, _, rfl, hown3.strs, by simpa using hJ.out, hg3⟩
      · rw [if_neg hcj, Nat.sub_self] at hD
        go_wp2_with (first
          | (at_builtin; have hz := hown2; refine wpList_appSs (w0 := w) _ _ rfl rfl _ _ rfl hown2 hg2 _ U rfl (Strs.grew hD.out hg2) (by first | omega | (simp; omega)) ?_; intro v3 w3 hown3 hg3 _)
          | (at_builtin; have hz := hown1; refine wpList_appStr (w0 := w) _ _ rfl rfl _ _ rfl (own_grew hown1 ((Grew.refl w1).alloc _)) (hg1.alloc _) _ s rfl (rd_lit _ _ _) (by first | omega | (simp; omega)) ?_; intro v2 w2 hown2 hg2 _; have hs2 := strs_slice hown2.strs; rw [List.length_append, List.length_singleton] at hs2; obtain ⟨A2, c2, rfl⟩ := hs2)
          | (at_builtin; refine wpList_appSs (w0 := w) _ _ rfl rfl _ [] rfl he1 (hB.alloc _) _ T rfl (Strs.grew hT.out (hB.alloc _)) (by first | omega | (simp; omega)) ?_; intro v1 w1 hown1 hg1 _; rw [List.nil_append] at hown1; have hs1 := strs_slice hown1.strs; obtain ⟨A1, c1, rfl⟩ := hs1))
        go_ret
        exact ⟨_, _, rfl, hown3.strs, by simpa using hJ.out, hg3⟩
/-- l22With of one text. -/
theorem l22With_c (v vt : Value) (L : List ByteArray) (s : ByteArray) (w : World) (h : Strs w v L) (hk : Strs w vt [s]) (hn : L.length ≤ 1048576) :
    Calls Tryz.prog 72 #[v, vt] w (GivesIn w L s) := by
  have he := own_emptyS' w
  have KI := Lib.hid (fun u W (hu : Strs W u L) => l02Insert_c u L s W hu hn)
  obtain ⟨b, o, c, rfl, hc, hm, hb, hcell⟩ := strs_one hk
  have HK := Lib.hid hcell
  have HL := Lib.hid h
  obtain ⟨A, cA, rfl⟩ := strs_slice h
  clear h hk hcell
  go_enter Tryz.func72, Tryz.ntmps72
  go_wp2_with (first
    | (at_builtin; refine wpList_appSs (w0 := w) _ _ rfl rfl _ [] rfl he ((Grew.refl w).alloc _) _ L rfl (Strs.grew HL.out ((Grew.refl w).alloc _)) (by first | omega | (simp; omega)) ?_; intro v1 w1 hown1 hg1 _; have hs1 := Lib.hid hown1.strs; obtain ⟨A1, c1, rfl⟩ := strs_slice hown1.strs; clear hown1))
  go_wp2_with fail
  have k1 := HK.out _ hg1
  refine wp_loop_rounds 2 ?_
  rw [rounds_succ]
  go_wp2_with fail
  refine (KI.out _ _ (by simpa using hs1.out)).mono ?_
  rintro e w2 ⟨u, K, rfl, hu, hK, hg2⟩
  obtain ⟨A2, c2, rfl⟩ := strs_slice hu
  have HU := Lib.hid hu
  clear hu
  go_wp2_with fail
  rw [rounds_succ]
  go_wp2_with fail
  go_ret
  exact ⟨_, K, rfl, HU.out, hK, hg1.trans hg2⟩
end Go.Proofs.YtmdbhcoioimlmaaGreat

/- MinimalLeft of both sides. -/
namespace Go.Proofs.YtmdbhcoioimlmaaGreat
open Go.RowKit
open Fm (Tree)

/-- 'out = append(out, xs...)' over texts in a region that draws its order. -/
theorem step_appSs {ops : Array Oper} {o : Oper} {a : Act} {K : Act → World → Prop} {Q : Exit → Act → World → Prop} {E : Prop} {w w0 : World} (hgd : o.guard = none) (s x : Operand)
    (ho : o.op = .call { callee := .builtin .append, args := #[s, x], argTypes := #[22, 22] })
    (v : Value) (L : List ByteArray) (hs : a.eval s = v) (hown : OwnS w w0.heap.size v L) (hg : Grew w0 w) (vx : Value) (M : List ByteArray) (hx : a.eval x = vx) (hr : Strs w vx M) (hn : L.length + M.length ≤ 1099511627776)
    (h : ∀ v' w', OwnS w' w0.heap.size v' (L ++ M) → Grew w0 w' → K (a.put o.dst v') w') : if Region.wanted o (yielded ops a.tmps) = true then Oper.wp Tryz.prog o a w K Q else E := by
  obtain ⟨i0, hi0, hz0, hz1, hz2⟩ := info_parts Tryz.infoStr
  refine step_append_rd w hgd s x _ ho w0.heap.size 9 i0 _ 1 16 Tryz.underlying22 hi0 hz0 hz1 hz2 rfl (by omega) v L.length (scells L) hs hown vx M.length (scells M) hx hr (scells_one M) (by unfold maxLen; omega) (by omega) hg.size ?_
  intro v' w' h2 h3
  refine h v' w' ?_ (hg.grown h3 fun k hk => (hown.lt k hk).1)
  unfold OwnS
  rw [List.length_append, scells_append]
  exact h2

theorem Strs.openA {w : World} {A : Option Addr} {n c : Nat} {L : List ByteArray} (h : Strs w (.slice A n c) L) (hn : L.length = n) : ∀ j, j < n → ∃ b o, A = some ⟨b, o, none⟩ ∧ n ≤ c ∧ c ≤ 9223372036854775807 ∧ b < w.heap.size ∧
    ∀ i, i < n → ∀ W, Grew w W → W.cell? ⟨b, o + i, none⟩ = some (.string (st L i)) := by
  intro j hj
  rcases h.open_ with ⟨_, h0⟩ | ⟨b, o, c', hv, h2, h3, h4, h5⟩
  · rw [h0] at hn; simp at hn; omega
  · obtain ⟨rfl, _, rfl⟩ : A = some ⟨b, o, none⟩ ∧ n = L.length ∧ c = c' := by simpa using hv
    exact ⟨b, o, rfl, by omega, h3, h4, fun i hi => h5 i (by omega)⟩

set_option maxHeartbeats 4000000 in
theorem implMl_c (v : Value) (L : List ByteArray) (s : ByteArray) (w : World) (h : Strs w v L) (hs : Fits L) (hn : L.length ≤ 1048576) (hsz : s.size ≤ 1048576) :
    Calls Tryz.prog 24 #[v, .string s] w (GivesS2 w (mlF L s)) := by
  unfold GivesS2
  have K1 := Lib.hid (goalCode_c v L s w h hs hn hsz)
  by_cases hz : qcode L s = 0
  case neg =>
    rw [mlF_bad hz]
    obtain ⟨A, k, rfl⟩ := strs_slice h
    clear h hs
    generalize qcode L s = q at *
    have hk : (q != 0) = true := by simpa using hz
    go_enter Tryz.func24, Tryz.ntmps24
    go_wp2_with fail
    refine (K1.out).mono ?_
    rintro e w1 ⟨rfl, hg1⟩
    go_wp2_with fail
    go_ret2
    exact ⟨_, rfl, OwnS.nil_ _ _, hg1⟩
  obtain ⟨Ts, c, hq⟩ := qOk_of hz
  have hT : TL w v Ts := by have := hq.left; subst this; exact h
  have K2 := Lib.hid (fun W (hW : Grew w W) => provable_c Ts c v W hq.okS (hT.grew hW))
  rw [← hq.right] at K2
  rw [hz] at K1
  cases he : dc (EntL Ts c) with
  | false =>
    rw [mlF_no hz hq he]
    rw [he] at K2
    obtain ⟨A, k, rfl⟩ := strs_slice h
    clear h hs hz hq hT he
    go_enter Tryz.func24, Tryz.ntmps24
    go_wp2_with fail
    refine (K1.out).mono ?_
    rintro e w1 ⟨rfl, hg1⟩
    go_wp2_with fail
    refine (K2.out _ hg1).mono ?_
    rintro e w2 ⟨rfl, hg2⟩
    go_wp2_with fail
    go_ret2
    exact ⟨_, rfl, OwnS.nil_ _ _, hg1.trans hg2⟩
  | true =>
  rw [mlF_yes hz hq he]
  rw [he] at K2
  have hS := hq.okS
  have hnd := hq.nodup
  have hM0 : Hid (MI Ts c (mn c [] Ts) [] Ts) := Lib.hid (MI.start Ts c)
  obtain ⟨A, k, rfl⟩ := strs_slice h
  have KP := Lib.hid (fun u K W (hK : OkS K c) (hu : TL W u K) => provable_c K c u W hK hu)
  rw [← hq.right] at KP
  have KC := Lib.hid (fun W (hW : Grew w W) => cloneS_c _ L W (h.grew hW) (by omega))
  have HH := Lib.hid h
  have HS := Lib.hid hS
  have HD := Lib.hid hnd
  have HLe := Lib.hid hq.left
  have HRe := Lib.hid hq.right
  have HN := Lib.hid (show Ts.length = L.length by rw [hq.left]; simp)
  have HX := Lib.hid (fun j (hj : j < L.length) => (by rw [← HN.out] at hj; exact ⟨Ts[j], List.drop_eq_getElem_cons hj, by simp [hq.left, st, List.getD, hj]⟩ : ∃ t, Ts.drop j = t :: Ts.drop (j + 1) ∧ st L j = tx t))
  have HZ := Lib.hid (show Ts.drop L.length = [] by rw [← HN.out]; simp)
  have HCL := Lib.hid (HH.out.openA rfl)
  clear h hs hz hq hT he hS hnd
  generalize mn c [] Ts = R at *

  go_enter Tryz.func24, Tryz.ntmps24
  go_wp2_with fail
  refine (K1.out).mono ?_
  rintro e w1 ⟨rfl, hg1⟩
  go_wp2_with fail
  refine (K2.out _ hg1).mono ?_
  rintro e w2 ⟨rfl, hg2⟩
  have g2 := hg1.trans hg2
  go_wp2_with fail
  refine (KC.out _ g2).mono ?_
  rintro e w3 ⟨v3, rfl, ho3, hg3⟩
  have g3 := g2.trans hg3
  have ho3 := ho3.base g2.size
  rw [HLe.out] at ho3
  have HO3 := Lib.hid ho3
  clear ho3
  generalize hN : L.length = n at *
  clear hN
  go_wp2_with fail
  go_loopw [7, 27] (fun out i wr => ∃ (j : Nat) (K D : List Tree), j ≤ n ∧ i = .int .i64 j ∧ OwnS wr w.heap.size out ((K ++ D).map tx) ∧ Grew w wr ∧ Hid (D = Ts.drop j) ∧ Hid (MI Ts c R K D)) (fun _ i _ => n - (intOf i).toNat)
  case atStart => exact ⟨0, [], Ts, Nat.zero_le _, rfl, HO3.out, g3, rfl, hM0⟩
  case round =>
    obtain ⟨j, K, D, hj, rfl, hO, hB, hDr, hMI⟩ := hrel
    have hl1 := hMI.out.len
    rw [HN.out] at hl1
    by_cases hlt : j < n
    · obtain ⟨t, ht1, ht2⟩ := HX.out j hlt
      obtain ⟨D', hD'⟩ : ∃ D', D' = Ts.drop (j + 1) := ⟨_, rfl⟩
      have hDD : D = t :: D' := by rw [hDr.out, ht1, hD']
      subst hDD
      have hst := Lib.hid ht2
      obtain ⟨b, o, rfl, hc, hm, hb, hcell⟩ := HCL.out j hlt
      have k1 := hcell j hlt _ hB
      rw [hst.out] at k1
      clear hcell ht1 ht2
      have hKD := Lib.hid (hMI.out.ok HS.out)
      have KD := Lib.hid (dropO_c _ _ (tx t) wr hO.strs (by rw [List.length_map, List.length_append]; omega))
      rw [hMI.out.drop HS.out HD.out] at KD
      obtain ⟨A9, c9, rfl⟩ := strs_slice hO.strs
      have HO := Lib.hid hO
      clear hO
      have HD2 := Lib.hid hD'
      clear hD'
      generalize ((K ++ t :: D').map tx).length = m9 at *
      have HTT := Lib.hid (rfl : tx t = tx t)
      have hyes := Lib.hid (fun h => hMI.out.yes h)
      have hno := Lib.hid (fun h => hMI.out.no h)
      generalize tx t = tt9 at *
      go_wp2_with fail
      refine (KD.out).mono ?_
      rintro e w4 ⟨u, rfl, hu, hg4⟩
      have HU := Lib.hid (hu.base hB.size)
      have KP1 := Lib.hid (KP.out u _ w4 hKD.out hu.strs)
      obtain ⟨A8, c8, rfl⟩ := strs_slice hu.strs
      clear hu
      have g4 := hB.trans hg4
      generalize ((K ++ D').map tx).length = m8 at *
      cases he : dc (EntL (K ++ D') c) with
      | true =>
        rw [he] at KP1
        have hMI2 := Lib.hid (hyes.out he)
        clear he hyes hno
        go_wp2_with fail
        refine (KP1.out).mono ?_
        rintro e w5 ⟨rfl, hg5⟩
        go_wp2_with fail
        go_roundw
        case rel => exact ⟨j + 1, K, D', by omega, by go_num, HU.out.grew hg5, g4.trans hg5, HD2, hMI2⟩
        case measure => simp [intOf]; omega
      | false =>
        rw [he] at KP1
        have hMI2 := Lib.hid (hno.out he)
        clear he hyes hno
        go_wp2_with fail
        refine (KP1.out).mono ?_
        rintro e w5 ⟨rfl, hg5⟩
        have HO2 : OwnS w5 w.heap.size (.slice A9 m9 c9) ((K ++ [t] ++ D').map tx) := by
          have := HO.out.grew (hg4.trans hg5)
          simpa using this
        have HO2 := Lib.hid HO2
        go_wp2_with fail
        go_roundw
        case rel => exact ⟨j + 1, K ++ [t], D', by omega, by go_num, HO2.out, g4.trans hg5, HD2, hMI2⟩
        case measure => simp [intOf]; omega
    · obtain rfl : j = n := by omega
      have hD0 : D = [] := by rw [hDr.out, HZ.out]
      subst hD0
      have hKR := hMI.out.fin_
      subst hKR
      rw [List.append_nil] at hO
      have HO := Lib.hid hO
      obtain ⟨A9, c9, rfl⟩ := strs_slice hO.strs
      clear hO
      go_wp2_with fail
      go_ret2
      exact ⟨_, rfl, HO.out, hB⟩
end Go.Proofs.YtmdbhcoioimlmaaGreat

/- MinimalLeft of the reference. -/
namespace Go.Proofs.YtmdbhcoioimlmaaGreat
open Go.RowKit
open Fm (Tree)

def lenV : Value → Nat
  | .slice _ n _ => n
  | _ => 0
theorem take_mid {K D : List Tree} {t : Tree} : ((K ++ t :: D).map tx).take K.length = K.map tx := by
  rw [List.map_append, List.take_append_of_le_length (by simp), List.take_of_length_le (by simp)]
theorem drop_mid {K D : List Tree} {t : Tree} : ((K ++ t :: D).map tx).drop (K.length + 1) = D.map tx := by
  rw [List.map_append, List.drop_append, List.drop_of_length_le (by simp)]
  simp

set_option maxHeartbeats 4000000 in
theorem specMl_c (v : Value) (L : List ByteArray) (s : ByteArray) (w : World) (h : Strs w v L) (hs : Fits L) (hn : L.length ≤ 1048576) (hsz : s.size ≤ 1048576) :
    Calls Tryz.prog 23 #[v, .string s] w (GivesS2 w (mlF L s)) := by
  unfold GivesS2
  have K1 := Lib.hid (l23Code_c v L s w h hs hn hsz)
  by_cases hz : qcode L s = 0
  case neg =>
    rw [mlF_bad hz]
    obtain ⟨A, k, rfl⟩ := strs_slice h
    clear h hs
    generalize qcode L s = q at *
    have hk : (q != 0) = true := by simpa using hz
    go_enter Tryz.func23, Tryz.ntmps23
    go_wp2_with fail
    refine (K1.out).mono ?_
    rintro e w1 ⟨rfl, hg1⟩
    go_wp2_with fail
    go_ret2
    exact ⟨_, rfl, OwnS.nil_ _ _, hg1⟩
  obtain ⟨Ts, c, hq⟩ := qOk_of hz
  have hT : TL w v Ts := by have := hq.left; subst this; exact h
  have K2 := Lib.hid (fun W (hW : Grew w W) => l23Ok_c v Ts c W hq.okS (hT.grew hW))
  rw [← hq.right] at K2
  rw [hz] at K1
  cases he : dc (EntL Ts c) with
  | false =>
    rw [mlF_no hz hq he]
    rw [he] at K2
    obtain ⟨A, k, rfl⟩ := strs_slice h
    clear h hs hz hq hT he
    go_enter Tryz.func23, Tryz.ntmps23
    go_wp2_with fail
    refine (K1.out).mono ?_
    rintro e w1 ⟨rfl, hg1⟩
    go_wp2_with fail
    refine (K2.out _ hg1).mono ?_
    rintro e w2 ⟨rfl, hg2⟩
    go_wp2_with fail
    go_ret2
    exact ⟨_, rfl, OwnS.nil_ _ _, hg1.trans hg2⟩
  | true =>
  rw [mlF_yes hz hq he]
  rw [he] at K2
  have hS := hq.okS
  have hM0 : Hid (MI Ts c (mn c [] Ts) [] Ts) := Lib.hid (MI.start Ts c)
  obtain ⟨A, k, rfl⟩ := strs_slice h
  have KP := Lib.hid (fun u K W (hK : OkS K c) (hu : TL W u K) => l23Ok_c u K c W hK hu)
  rw [← hq.right] at KP
  have HH := Lib.hid h
  have HS := Lib.hid hS
  have HLe := Lib.hid hq.left
  have HN := Lib.hid (show Ts.length = L.length by rw [hq.left]; simp)
  have HL0 := Lib.hid hn
  clear h hs hz hq hT he hS
  generalize mn c [] Ts = R at *
  go_enter Tryz.func23, Tryz.ntmps23
  go_wp2_with fail
  refine (K1.out).mono ?_
  rintro e w1 ⟨rfl, hg1⟩
  go_wp2_with fail
  refine (K2.out _ hg1).mono ?_
  rintro e w2 ⟨rfl, hg2⟩
  have g2 := hg1.trans hg2
  have he2 : OwnS (w2.alloc (.cells #[] 9)) w.heap.size (.slice (some ⟨w2.heap.size, 0, none⟩) 0 0) [] := World.ownsRow_lit (e := 9) (size := 1) w2 #[] 0 g2.size (by omega) rfl
  go_wp2_with (first
    | (at_builtin; refine wpList_appSs (w0 := w) _ _ rfl rfl _ [] rfl he2 (g2.alloc _) _ L rfl (HH.out.grew (g2.alloc _)) (by simp; omega) ?_; intro v3 w3 ho3 g3 _))
  rw [List.nil_append, HLe.out] at ho3
  have HO3 := Lib.hid ho3
  clear ho3 he2
  generalize hN : L.length = n at *
  clear hN
  go_wp2_with fail
  go_loopw [7, 8] (fun out i wr => ∃ (K D : List Tree), i = .int .i64 K.length ∧ OwnS wr w.heap.size out ((K ++ D).map tx) ∧ Grew w wr ∧ Hid (MI Ts c R K D)) (fun out i _ => lenV out - (intOf i).toNat)
  case atStart => exact ⟨[], Ts, rfl, HO3.out, g3, hM0⟩
  case round =>
    obtain ⟨K, D, rfl, hO, hB, hMI⟩ := hrel
    have hl1 := hMI.out.len
    rw [HN.out] at hl1
    cases D with
    | nil =>
      have hKR := hMI.out.fin_
      subst hKR
      rw [List.append_nil] at hO
      have HO := Lib.hid hO
      obtain ⟨A9, c9, rfl⟩ := strs_slice hO.strs
      rw [List.length_map] at *
      clear hO hl1
      generalize K.length = j at *
      go_wp2_with fail
      go_ret2
      exact ⟨_, rfl, HO.out, hB⟩
    | cons t D' =>
      rw [List.length_cons] at hl1
      have hKD := Lib.hid (hMI.out.ok HS.out)
      have hyes := Lib.hid (fun h => hMI.out.yes h)
      have hno := Lib.hid (fun h => hMI.out.no h)
      have hlm : ((K ++ t :: D').map tx).length = K.length + 1 + D'.length := by simp; omega
      rcases hO.strs.open_ with ⟨_, h0⟩ | ⟨b, o, c9, rfl, hc, hm, hb, hcell⟩
      · rw [h0] at hlm; simp at hlm; omega
      rw [hlm] at hO hc ⊢
      have HR : Rd wr 1 (.slice (some ⟨b, o, none⟩) (K.length + 1 + D'.length) c9) (K.length + 1 + D'.length) (scells ((K ++ t :: D').map tx)) := by
        have := hO.strs
        unfold Strs at this
        rwa [hlm] at this
      have R1 := Lib.hid (fun W (hW : Grew wr W) => (by have := rdS_take (HR.grew hW) hlm K.length (by omega); rwa [take_mid] at this : Strs W (.slice (some ⟨b, o, none⟩) K.length c9) (K.map tx)))
      have R2 := Lib.hid (fun W (hW : Grew wr W) => (by have := rdS_tail (HR.grew hW) hlm (K.length + 1) (by omega) hc; rwa [drop_mid] at this : Strs W (.slice (if c9 = K.length + 1 then some ⟨b, o, none⟩ else some ⟨b, o + (K.length + 1), none⟩) (K.length + 1 + D'.length - (K.length + 1)) (c9 - (K.length + 1))) (D'.map tx)))
      have HO := Lib.hid hO
      have L1 := Lib.hid (show (K.map tx).length = K.length by simp)
      have L2 := Lib.hid (show (D'.map tx).length = D'.length by simp)
      have L3 := Lib.hid (show (K ++ [t]).length = K.length + 1 by simp)
      clear hO hcell HR hlm hb
      generalize hKL : K.length = j at *
      have HKL := Lib.hid hKL
      clear hKL
      generalize hDL : D'.length = d at *
      have HDL := Lib.hid hDL
      clear hDL
      have i0 : (0 : Int) ≤ (j : Int) := by omega
      have i1 : (j : Int) ≤ (c9 : Int) := by omega
      generalize hn9 : j + 1 + d = n9 at *
      have i2 : (j : Int) + 1 ≤ (n9 : Int) := by omega
      have i3 : (0 : Int) ≤ (j : Int) + 1 := by omega
      have i4 : IntKind.i64.wrap ((j : Int) + 1) = (j : Int) + 1 := by rw [IntKind.wrap_i64]; omega
      have HN9 := Lib.hid hn9
      clear hn9
      have hown0 : OwnS (wr.alloc (.cells #[] 9)).drew wr.heap.size (.slice (some ⟨wr.heap.size, 0, none⟩) 0 0) [] := own_emptyS' wr
      have hal := (Grew.refl wr).alloc (.cells #[] 9)
      have hg0 : Grew wr (wr.alloc (.cells #[] 9)).drew := hal.drew
      have hr0 := Grew.refl wr
      have hd0 := hr0.drew
      clear g2 hg1 hg2 g3 HO3 hM0 K1 K2 HH HLe HL0
      go_wp2_with fail
      go_region_held3 (fun w' => Grew wr w') (first | with_reducible assumption | exact Grew.alloc ‹_› _)
        (first
         | (have hz := hown1; refine step_appSs (w0 := wr) rfl _ _ rfl _ _ rfl hown1 hgq _ (D'.map tx) rfl (R2.out _ hgq) (by have := L1.out; have := L2.out; simp only [List.nil_append]; omega) ?_; intro v7 w7 hown2 hg7)
         | (refine step_appSs (w0 := wr) rfl _ _ rfl _ [] rfl hown0 hg0 _ (K.map tx) rfl (R1.out _ hg0) (by have := L1.out; simp only [List.length_nil, Nat.zero_add]; omega) ?_; intro v6 w6 hown1 hgq))
      clear R2
      generalize (if c9 = j + 1 then some (⟨b, o, none⟩ : Addr) else some ⟨b, o + (j + 1), none⟩) = tl
      rw [List.nil_append, ← List.map_append] at hown2
      have HU := Lib.hid (hown2.base hB.size)
      have KP1 := Lib.hid (KP.out v7 _ w7 hKD.out hown2.strs)
      obtain ⟨A8, c8, rfl⟩ := strs_slice hown2.strs
      have hl8 : ((K ++ D').map tx).length = j + d := by rw [List.map_append, List.length_append, L1.out, L2.out]
      rw [hl8] at HU KP1 ⊢
      have g7 := hB.trans hg7
      have HG := Lib.hid hg7
      clear hown2 hl8 hown0 hal hg0 hr0 hd0 R1 hown1 hz hgq
      cases he : dc (EntL (K ++ D') c) with
      | true =>
        rw [he] at KP1
        have hMI2 := Lib.hid (hyes.out he)
        clear he hyes hno
        go_wp2_with fail
        refine (KP1.out).mono ?_
        rintro e w8 ⟨rfl, hg8⟩
        have HKL' := Lib.hid (show Value.int .i64 (j : Int) = .int .i64 (K.length : Nat) by rw [HKL.out])
        go_wp2_with fail
        go_roundw
        case rel => exact ⟨K, D', HKL'.out, HU.out.grew hg8, g7.trans hg8, hMI2⟩
        case measure => have := HN9.out; simp [intOf, lenV]; omega
      | false =>
        rw [he] at KP1
        have hMI2 := Lib.hid (hno.out he)
        clear he hyes hno
        go_wp2_with fail
        refine (KP1.out).mono ?_
        rintro e w8 ⟨rfl, hg8⟩
        have HO2 : OwnS w8 w.heap.size (.slice (some ⟨b, o, none⟩) n9 c9) ((K ++ [t] ++ D').map tx) := by
          have := HO.out.grew (HG.out.trans hg8)
          simpa using this
        have HO2 := Lib.hid HO2
        have HKL' := Lib.hid (show Value.int .i64 ((j : Int) + 1) = .int .i64 ((K ++ [t]).length : Nat) by rw [L3.out]; go_num)
        go_wp2_with fail
        go_roundw
        case rel => exact ⟨K ++ [t], D', HKL'.out, HO2.out, g7.trans hg8, hMI2⟩
        case measure => have := HN9.out; simp [intOf, lenV]; omega
end Go.Proofs.YtmdbhcoioimlmaaGreat

/- ConsequencesOf of both sides. -/
namespace Go.Proofs.YtmdbhcoioimlmaaGreat
open Go.RowKit
open Fm (Tree)

/-! The plain law. -/
noncomputable def lfB (L : List ByteArray) : Bool := ascP L && decide (L.length ≤ 12)
noncomputable def coF (L C : List ByteArray) : List ByteArray × Int :=
  if (lfB L && !C.any fun s => !gp s) = true then
    (if (C.any fun s => !decide (szL L + szL [s] ≤ 20)) = true then ([], 3) else (C.filter fun s => dc (EntL (L.map fo) (fo s)), 0))
  else ([], 1)
theorem coF_len (L C : List ByteArray) : (coF L C).1.length ≤ C.length := by
  unfold coF
  split
  · split
    · simp
    · exact List.length_filter_le _ _
  · simp

/-! Predicates with captured values, which only make memory. -/
/-- What the function value gives at the texts of a list. -/
def PredK (w : World) (f : Nat) (caps : Array Value) (L : List ByteArray) (p : ByteArray → Bool) : Prop := ∀ s W, s ∈ L → Grew w W → Calls Tryz.prog f (#[.string s] ++ caps) W fun e W' => e = .returned (.bool (p s)) ∧ Grew W W'

theorem indexFuncK_c (v : Value) (L : List ByteArray) (f : Nat) (caps : Array Value) (p : ByteArray → Bool) (w : World) (h : Strs w v L) (hf : PredK w f caps L p) (eg : ∀ args w, (callFunc f args).run Tryz.prog w = .ok (.enter f args) w) :
    Calls Tryz.prog 87 #[v, .func (.func f) #[] caps] w fun e w' => ∃ r : Int, e = .returned (.int .i64 r) ∧ Grew w w' ∧ decide (0 ≤ r) = L.any p := by
  rcases h.open_ with ⟨rfl, rfl⟩ | ⟨b, o, c, rfl, hc, hm, hb, hcell⟩
  · rw [noneS_any (NoneS.zero _ _)]
    clear h hf
    go_enter Tryz.func87, Tryz.ntmps87
    go_wp2_with fail
    refine wp_loop_rounds 1 ?_; rw [rounds_succ]
    go_wp2_with fail
    go_ret
    exact ⟨_, rfl, Grew.refl _, rfl⟩
  obtain ⟨R, hR⟩ : ∃ R, R = L.any p := ⟨_, rfl⟩
  rw [← hR]
  have HA := Lib.hid (fun k hk h => hR.trans (@anyS_at p L k hk h))
  have HZ := Lib.hid (fun h => hR.trans (@noneS_any p L h))
  have HC := Lib.hid hcell
  have HF := Lib.hid hf
  have HM := Lib.hid (fun k (hk : k < L.length) => (by rw [← st_get hk]; exact List.getElem_mem hk : st L k ∈ L))
  clear hcell h hf hR
  unfold PredK at HF
  generalize hN : L.length = n at *
  clear hN
  go_enter Tryz.func87, Tryz.ntmps87
  go_wp2_with fail
  go_loopw [5, 8] (fun _ i wr => ∃ j : Nat, j ≤ n ∧ i = .int .i64 j ∧ Grew w wr ∧ Hid (NoneS p L j)) (fun _ i _ => n - (intOf i).toNat)
  case atStart => exact ⟨0, Nat.zero_le _, rfl, Grew.refl _, NoneS.zero _ _⟩
  case round =>
    obtain ⟨j, hj, rfl, hB, HJ⟩ := hrel
    by_cases hlt : j < n
    · have k1 := HC.out j hlt _ hB
      have hA := Lib.hid (HA.out j hlt)
      have hS := Lib.hid (fun h => HJ.out.succ (k := j) h)
      have hF := Lib.hid (HF.out _ _ (HM.out j hlt) hB)
      generalize st L j = x at *
      go_wp2_with fail
      go_at_fn f
      refine (hF.out).mono ?_
      rintro e w1 ⟨rfl, hg1⟩
      have hB1 := hB.trans hg1
      cases hp : p x with
      | true =>
        have hv := hA.out hp
        go_wp2_with fail
        go_ret
        exact ⟨_, rfl, hB1, by rw [hv]; simp⟩
      | false =>
        have hs := Lib.hid (hS.out hp)
        go_wp2_with fail
        go_roundw
        case rel => exact ⟨j + 1, by omega, by go_num, hB1, hs⟩
        case measure => simp [intOf]; omega
    · obtain rfl : j = n := by omega
      have hv := Lib.hid (HZ.out HJ.out)
      go_wp2_with fail
      go_ret
      exact ⟨_, rfl, hB, by rw [hv.out]; rfl⟩
theorem containsFuncK_c (v : Value) (L : List ByteArray) (f : Nat) (caps : Array Value) (p : ByteArray → Bool) (w : World) (h : Strs w v L) (hf : PredK w f caps L p) (eg : ∀ args w, (callFunc f args).run Tryz.prog w = .ok (.enter f args) w) :
    Calls Tryz.prog 49 #[v, .func (.func f) #[] caps] w fun e w' => e = .returned (.bool (L.any p)) ∧ Grew w w' := by
  have HI := Lib.hid (indexFuncK_c v L f caps p w h hf eg)
  obtain ⟨A, c, rfl⟩ := strs_slice h
  clear h hf eg
  generalize L.any p = R at *
  go_enter Tryz.func49, Tryz.ntmps49
  go_wp2_with fail
  refine HI.out.mono ?_
  rintro e w1 ⟨r, rfl, hg1, hr⟩
  go_wp2_with fail
  go_ret
  exact ⟨by rw [← hr]; rfl, hg1⟩
end Go.Proofs.YtmdbhcoioimlmaaGreat

/- slices.DeleteFunc over a row of texts of the call's own, with a predicate that remembers. -/
namespace Go.Proofs.YtmdbhcoioimlmaaGreat
open Go.RowKit
open Fm (Tree)

/-- Of what was there blocks g and M alone may have changed. -/
structure Twin (g M : Nat) (a b : World) : Prop where
  os : b.os = a.os
  tape : b.tape = a.tape
  output : b.output = a.output
  size : a.heap.size ≤ b.heap.size
  block : ∀ k, k < a.heap.size → k ≠ g → k ≠ M → b.heap[k]? = a.heap[k]?
theorem Twin.refl (g M : Nat) (w : World) : Twin g M w w := ⟨rfl, rfl, rfl, Nat.le_refl _, fun _ _ _ _ => rfl⟩
theorem Twin.trans {g M : Nat} {a b c : World} (h : Twin g M a b) (k : Twin g M b c) : Twin g M a c :=
  ⟨k.os.trans h.os, k.tape.trans h.tape, k.output.trans h.output, Nat.le_trans h.size k.size, fun i hi h1 h2 => (k.block i (Nat.lt_of_lt_of_le hi h.size) h1 h2).trans (h.block i hi h1 h2)⟩
theorem Twin.of_only {g M : Nat} {a b : World} (h : Only M a b) : Twin g M a b := ⟨h.os, h.tape, h.output, h.size, fun _ hi _ h2 => h.block hi h2⟩
theorem Twin.of_row {g M : Nat} {a b : World} (h : Only g a b) : Twin g M a b := ⟨h.os, h.tape, h.output, h.size, fun _ hi h1 _ => h.block hi h1⟩
theorem Twin.grew {g M : Nat} {w0 a b : World} (h : Twin g M a b) (h0 : Grew w0 a) (h1 : w0.heap.size ≤ g) (h2 : w0.heap.size ≤ M) : Grew w0 b :=
  ⟨h.os.trans h0.os, h.tape.trans h0.tape, h.output.trans h0.output, Nat.le_trans h0.size h.size, fun i hi => (h.block i (Nat.lt_of_lt_of_le hi h0.size) (by omega) (by omega)).trans (h0.block hi)⟩
theorem Twin.cell {g M : Nat} {a b : World} (h : Twin g M a b) {p : Addr} (hp : p.block < a.heap.size) (h1 : p.block ≠ g) (h2 : p.block ≠ M) : b.cell? p = a.cell? p := World.cell?_of_block (h.block _ hp h1 h2)
theorem Twin.rd {g M k n : Nat} {a b : World} {v : Value} {xs : List Value} (h : Twin g M a b) (hr : Rd a k v n xs) (hv : ∀ bb o c, v = .slice (some ⟨bb, o, none⟩) n c → bb ≠ g ∧ bb ≠ M) : Rd b k v n xs := by
  obtain ⟨h1, h2, h3⟩ := hr
  refine ⟨h1, h2, ?_⟩
  rcases h3 with h3 | ⟨bb, o, c, rfl, h4, h5, h6, h7⟩
  · exact .inl h3
  · obtain ⟨n1, n2⟩ := hv bb o c rfl
    exact .inr ⟨bb, o, c, rfl, h4, h5, Nat.lt_of_lt_of_le h6 h.size, fun j u hu => (h.cell (p := ⟨bb, o + j, none⟩) h6 n1 n2).trans (h7 j u hu)⟩

theorem blk_setCells {g : Nat} {t : TypeId} : ∀ (vs : List Value) (o : Nat) (w : World) (cur : Array Value), w.heap[g]? = some (.cells cur t (0, 0)) →
    ∃ cur', (w.setCells g o vs).heap[g]? = some (.cells cur' t (0, 0)) ∧ cur'.size = cur.size ∧ ∀ i, i < o → cur'[i]? = cur[i]?
  | [], _, _, cur, h => ⟨cur, h, rfl, fun _ _ => rfl⟩
  | v :: r, o, w, cur, h => by
    obtain ⟨c', h1, h2, h3⟩ := blk_setCells r (o + 1) (w.setCell ⟨g, o, none⟩ v) _ (blk_set h o v)
    refine ⟨c', h1, by rw [h2]; simp, fun i hi => ?_⟩
    rw [h3 i (by omega), Array.getElem?_setIfInBounds, if_neg (by omega)]
theorem only_setCells {g : Nat} {a : World} : ∀ (vs : List Value) (o : Nat) (w : World), Only g a w → Only g a (w.setCells g o vs)
  | [], _, _, h => h
  | v :: r, o, w, h => only_setCells r (o + 1) _ (h.setCell v)

/-- The row while texts are struck: i kept ones of the first j, then the rest. -/
structure DI (L : List ByteArray) (p : ByteArray → Bool) (cur : Array Value) (i j : Nat) : Prop where
  low : ∀ k, k < i → cur[k]? = some (.string (st ((L.take j).filter fun s => !p s) k))
  len : ((L.take j).filter fun s => !p s).length = i
  high : ∀ k, j ≤ k → k < L.length → cur[k]? = some (.string (st L k))
theorem DI.le {L : List ByteArray} {p : ByteArray → Bool} {cur : Array Value} {i j : Nat} (h : DI L p cur i j) : i ≤ j := by
  have := List.length_filter_le (fun s => !p s) (L.take j)
  have h2 : (L.take j).length ≤ j := by rw [List.length_take]; omega
  have := h.len
  omega
theorem take_st {L : List ByteArray} {j : Nat} (h : j < L.length) : L.take (j + 1) = L.take j ++ [st L j] := by
  rw [List.take_succ_eq_append_getElem h, st_get h]
theorem DI.skip {L : List ByteArray} {p : ByteArray → Bool} {cur : Array Value} {i j : Nat} (h : DI L p cur i j) (hj : j < L.length) (hp : p (st L j) = true) : DI L p cur i (j + 1) := by
  have e : (L.take (j + 1)).filter (fun s => !p s) = (L.take j).filter fun s => !p s := by rw [take_st hj, List.filter_append]; simp [hp]
  exact ⟨by rw [e]; exact h.low, by rw [e]; exact h.len, fun k hk => h.high k (by omega)⟩
theorem st_app_lt {L K : List ByteArray} {k : Nat} (h : k < L.length) : st (L ++ K) k = st L k := by simp [st, List.getD, List.getElem?_append, h]
theorem st_app_eq {L : List ByteArray} {x : ByteArray} : st (L ++ [x]) L.length = x := by simp [st, List.getD]
theorem DI.keep {L : List ByteArray} {p : ByteArray → Bool} {cur : Array Value} {i j : Nat} (h : DI L p cur i j) (hj : j < L.length) (hc : i < cur.size) (hp : p (st L j) = false) : DI L p (cur.setIfInBounds i (.string (st L j))) (i + 1) (j + 1) := by
  have e : (L.take (j + 1)).filter (fun s => !p s) = ((L.take j).filter fun s => !p s) ++ [st L j] := by rw [take_st hj, List.filter_append]; simp [hp]
  have hle := h.le
  refine ⟨fun k hk => ?_, by rw [e, List.length_append, h.len]; rfl, fun k hk hk2 => ?_⟩
  · rw [e, Array.getElem?_setIfInBounds]
    rcases Nat.lt_or_ge k i with h1 | h1
    · rw [if_neg (by omega), st_app_lt (by rw [h.len]; exact h1)]
      exact h.low k h1
    · obtain rfl : k = i := by omega
      rw [if_pos rfl, if_pos hc]
      have := @st_app_eq ((L.take j).filter fun s => !p s) (st L j)
      rw [h.len] at this
      rw [this]
  · rw [Array.getElem?_setIfInBounds, if_neg (by omega)]
    exact h.high k (by omega) hk2
theorem DI.start {L : List ByteArray} {p : ByteArray → Bool} {cur : Array Value} {k : Nat} (hcur : ∀ i, i < L.length → cur[i]? = some (.string (st L i))) (hk : k < L.length) (hn : NoneS p L k) (hp : p (st L k) = true) : DI L p cur k (k + 1) := by
  have e : ∀ j, j ≤ k → (L.take j).filter (fun s => !p s) = L.take j := fun j hj => by
    rw [List.filter_eq_self]
    intro s hs
    obtain ⟨i, hi, rfl⟩ := List.getElem_of_mem hs
    rw [List.length_take] at hi
    have := hn i (by omega)
    rw [List.getElem_take, st_get (by omega), this]
    rfl
  have e1 : (L.take (k + 1)).filter (fun s => !p s) = L.take k := by rw [take_st hk, List.filter_append, e k (Nat.le_refl _)]; simp [hp]
  refine ⟨fun i hi => ?_, by rw [e1, List.length_take]; omega, fun i hi h2 => hcur i h2⟩
  rw [e1, hcur i (by omega)]
  simp [st, List.getD, List.getElem?_take, hi]
theorem noneS_filter {L : List ByteArray} {p : ByteArray → Bool} (h : NoneS p L L.length) : L.filter (fun s => !p s) = L := by
  rw [List.filter_eq_self]
  intro s hs
  obtain ⟨i, hi, rfl⟩ := List.getElem_of_mem hs
  rw [st_get hi, h i hi]
  rfl

/-- The predicate, whatever the row holds meanwhile. -/
def PredM (w : World) (D M g f : Nat) (caps : Array Value) (L : List ByteArray) (p : ByteArray → Bool) : Prop := ∀ s W, s ∈ L → Twin g M w W → Dec W D M → Calls Tryz.prog f (#[.string s] ++ caps) W (Decides W D M (p s))

/-- The first text that meets the predicate. -/
def FirstAt (L : List ByteArray) (p : ByteArray → Bool) (r : Int) : Prop := (r = -1 ∧ NoneS p L L.length) ∨ ∃ k : Nat, r = (k : Int) ∧ k < L.length ∧ p (st L k) = true ∧ NoneS p L k

set_option maxHeartbeats 1000000 in
theorem indexFuncM_c (D M g cap : Nat) (cur : Array Value) (L : List ByteArray) (f : Nat) (caps : Array Value) (p : ByteArray → Bool) (w : World) (hD : Dec w D M) (hh : w.heap[g]? = some (.cells cur 9 (0, 0))) (hcur : ∀ i, i < L.length → cur[i]? = some (.string (st L i))) (hc : L.length ≤ cap) (hm : cap ≤ 9223372036854775807)
    (hf : PredM w D M g f caps L p) (eg : ∀ args w, (callFunc f args).run Tryz.prog w = .ok (.enter f args) w) :
    Calls Tryz.prog 87 #[.slice (some ⟨g, 0, none⟩) L.length cap, .func (.func f) #[] caps] w fun e w' => ∃ r : Int, e = .returned (.int .i64 r) ∧ DF w D M w' ∧ Hid (FirstAt L p r) := by
  have hgM : g ≠ M := by
    rintro rfl
    obtain ⟨es, clock, h1, _⟩ := hD.memo
    rw [hh] at h1
    cases h1
  have HC : Hid (∀ i, i < L.length → ∀ W, DF w D M W → W.cell? ⟨g, 0 + i, none⟩ = some (.string (st L i))) := Lib.hid (fun i hi W hW => by
    rw [hW.only.cell (p := ⟨g, 0 + i, none⟩) (blk_lt hh) hgM, Nat.zero_add, blk_cell hh]
    exact hcur i hi)
  have HM := Lib.hid (fun k (hk : k < L.length) => (by rw [← st_get hk]; exact List.getElem_mem hk : st L k ∈ L))
  have HF := Lib.hid (fun s (hs : s ∈ L) W (hW : DF w D M W) => hf s W hs (Twin.of_only hW.only) hW.dec)
  have HDF := Lib.hid (DF.refl hD)
  have HE1 : Hid (NoneS p L L.length → FirstAt L p (-1)) := Lib.hid (fun h => .inl ⟨rfl, h⟩)
  have HE2 : Hid (∀ k : Nat, k < L.length → p (st L k) = true → NoneS p L k → FirstAt L p (k : Int)) := Lib.hid (fun k h1 h2 h3 => .inr ⟨k, rfl, h1, h2, h3⟩)
  clear hf hD hh hcur hgM
  generalize hN : L.length = n at *
  clear hN
  go_enter Tryz.func87, Tryz.ntmps87
  go_wp2_with fail
  go_loopw [5, 8] (fun _ i wr => ∃ j : Nat, j ≤ n ∧ i = .int .i64 j ∧ Hid (DF w D M wr) ∧ Hid (NoneS p L j)) (fun _ i _ => n - (intOf i).toNat)
  case atStart => exact ⟨0, Nat.zero_le _, rfl, HDF, NoneS.zero _ _⟩
  case round =>
    obtain ⟨j, hj, rfl, hB, HJ⟩ := hrel
    by_cases hlt : j < n
    · have k1 := HC.out j hlt _ hB.out
      rw [Nat.zero_add] at k1
      have hF := Lib.hid (HF.out _ (HM.out j hlt) _ hB.out)
      have hA := Lib.hid (fun h => HE2.out j hlt h HJ.out)
      have hS := Lib.hid (fun h => HJ.out.succ (k := j) h)
      generalize st L j = x at *
      go_wp2_with fail
      go_at_fn f
      refine (hF.out).mono ?_
      rintro e w1 ⟨rfl, hF1⟩
      have hB1 := Lib.hid (hB.out.trans hF1)
      cases hp : p x with
      | true =>
        have hv := Lib.hid (hA.out hp)
        go_wp2_with fail
        go_ret
        exact ⟨_, rfl, hB1.out, hv⟩
      | false =>
        have hs := Lib.hid (hS.out hp)
        go_wp2_with fail
        go_roundw
        case rel => exact ⟨j + 1, by omega, by go_num, hB1, hs⟩
        case measure => simp [intOf]; omega
    · obtain rfl : j = n := by omega
      have hv := Lib.hid (HE1.out HJ.out)
      go_wp2_with fail
      go_ret
      exact ⟨_, rfl, hB.out, hv⟩

/-- What is left of the row. -/
def GivesDel (w : World) (D M g B : Nat) (K : List ByteArray) (e : Ending) (w' : World) : Prop := ∃ u, e = .returned u ∧ OwnS w' B u K ∧ Twin g M w w' ∧ Dec w' D M
set_option maxHeartbeats 4000000 in
theorem deleteFuncM_c (D M g cap B : Nat) (cur : Array Value) (L : List ByteArray) (f : Nat) (caps : Array Value) (p : ByteArray → Bool) (w : World) (hD : Dec w D M) (hgD : g ≠ D) (hB : B ≤ g) (hh : w.heap[g]? = some (.cells cur 9 (0, 0))) (hcs : cur.size = cap) (hcur : ∀ i, i < L.length → cur[i]? = some (.string (st L i))) (hc : L.length ≤ cap) (hm : cap ≤ 9223372036854775807)
    (hf : PredM w D M g f caps L p) (eg : ∀ args w, (callFunc f args).run Tryz.prog w = .ok (.enter f args) w) :
    Calls Tryz.prog 53 #[.slice (some ⟨g, 0, none⟩) L.length cap, .func (.func f) #[] caps] w (GivesDel w D M g B (L.filter fun s => !p s)) := by
  unfold GivesDel
  have HI := Lib.hid (indexFuncM_c D M g cap cur L f caps p w hD hh hcur hc hm hf eg)
  have hgM : g ≠ M := by
    rintro rfl
    obtain ⟨es, clock, h1, _⟩ := hD.memo
    rw [hh] at h1
    cases h1
  have HH1 : Hid (∀ W, DF w D M W → W.heap[g]? = some (.cells cur 9 (0, 0))) := Lib.hid (fun W hW => (hW.only.block (blk_lt hh) hgM).trans hh)
  have HP : Hid (∀ (W W' : World) (c9 : Array Value), W.heap[g]? = some (.cells c9 9 (0, 0)) → DF W D M W' → W'.heap[g]? = some (.cells c9 9 (0, 0))) := Lib.hid (fun W W' c9 h hF => (hF.only.block (blk_lt h) hgM).trans h)
  have HW : Hid (∀ W a u, Dec W D M → Dec (W.setCell ⟨g, a, none⟩ u) D M) := Lib.hid (fun W a u h => by
    have ho : Only g W (W.setCell ⟨g, a, none⟩ u) := (Only.refl g W).setCell u
    refine ⟨Nat.lt_of_lt_of_le h.lt ho.size, (ho.cell (p := ⟨D, 0, none⟩) h.lt (fun e => hgD e.symm)).trans h.cell, ?_⟩
    have hl := h.memo.lt
    obtain ⟨es, clock, h1, h2⟩ := h.memo
    exact ⟨es, clock, (ho.block hl (fun e => hgM e.symm)).trans h1, h2⟩)
  have HWs : Hid (∀ vs a W, Dec W D M → Dec (W.setCells g a vs) D M) := Lib.hid (fun vs => by
    induction vs with
    | nil => exact fun a W h => h
    | cons v r ih => exact fun a W h => ih (a + 1) _ (HW.out W a v h))
  have HF := Lib.hid hf
  have HX := Lib.hid hcur
  have HM := Lib.hid (fun k (hk : k < L.length) => (by rw [← st_get hk]; exact List.getElem_mem hk : st L k ∈ L))
  have HEO : Hid (∀ (K : List ByteArray) (W : World) (c9 : Array Value), W.heap[g]? = some (.cells c9 9 (0, 0)) → c9.size = cap → K.length ≤ cap → (∀ k, k < K.length → c9[k]? = some (.string (st K k))) → OwnS W B (.slice (some ⟨g, 0, none⟩) K.length cap) K) := Lib.hid (fun K W c9 h1 h2 h3 h4 => OwnS.mk_ hB h1 h3 hm h2 h4)
  have HSK := Lib.hid (fun cur i j (h : DI L p cur i j) hj hp => h.skip hj hp)
  have HKP := Lib.hid (fun cur i j (h : DI L p cur i j) hj hc hp => h.keep hj hc hp)
  have HST := Lib.hid (fun k hk hn hp => @DI.start L p cur k hcur hk hn hp)
  have HNF := Lib.hid (fun h => @noneS_filter L p h)
  have HZ : Hid (L.filter (fun s => !p s) = (L.take L.length).filter fun s => !p s) := Lib.hid (by rw [List.take_length])
  have HCS := Lib.hid hcs
  have HFA : ∀ r, FirstAt L p r → (r = -1 ∧ Hid (NoneS p L L.length)) ∨ ∃ k : Nat, r = (k : Int) ∧ k < L.length ∧ Hid (p (st L k) = true ∧ NoneS p L k) := fun r h => h.imp (fun h => ⟨h.1, h.2⟩) (fun ⟨k, h1, h2, h3, h4⟩ => ⟨k, h1, h2, h3, h4⟩)
  replace HFA := Lib.hid HFA
  clear hf hD hh hcur hgM hcs hgD hB
  generalize hN : L.length = n at *
  have HN := Lib.hid hN
  clear hN
  go_enter Tryz.func53, Tryz.ntmps53
  go_wp2_with fail
  refine (HI.out).mono ?_
  rintro e w1 ⟨r, rfl, hF1, hr⟩
  have HF1 := Lib.hid hF1
  clear hF1
  rcases HFA.out r hr.out with ⟨rfl, hn⟩ | ⟨k, rfl, hk, hpn⟩
  · clear hr
    go_wp2_with fail
    go_ret
    refine ⟨_, rfl, ?_, Twin.of_only HF1.out.only, HF1.out.dec⟩
    rw [HNF.out hn.out]
    have := HEO.out L w1 cur (HH1.out _ HF1.out) HCS.out (by rw [HN.out]; exact hc) (by rw [HN.out]; exact HX.out)
    rwa [HN.out] at this
  · have hne1 : ((k : Int) == -1) = false := beq_eq_false_iff_ne.2 (by omega)
    clear hr
    go_wp2_with fail
    go_loopw [5, 6] (fun s5 s6 wr => ∃ (i j : Nat) (c9 : Array Value), s5 = .int .i64 i ∧ s6 = .int .i64 j ∧ j ≤ n ∧ i < j ∧ Hid (wr.heap[g]? = some (.cells c9 9 (0, 0)) ∧ c9.size = cap ∧ DI L p c9 i j) ∧ Hid (Twin g M w wr ∧ Dec wr D M)) (fun _ s6 _ => n - (intOf s6).toNat)
    case atStart => exact ⟨k, k + 1, cur, rfl, by go_num, by omega, by omega, ⟨HH1.out _ HF1.out, HCS.out, HST.out k hk hpn.out.2 hpn.out.1⟩, ⟨Twin.of_only HF1.out.only, HF1.out.dec⟩⟩
    case round =>
      obtain ⟨i, j, c9, rfl, rfl, hj, hij, HI9, HT9⟩ := hrel
      by_cases hlt : j < n
      · have k1 : wr.cell? ⟨g, j, none⟩ = some (.string (st L j)) := by rw [blk_cell HI9.out.1]; exact HI9.out.2.2.high j (Nat.le_refl _) (by rw [HN.out]; exact hlt)
        have hF := Lib.hid (HF.out _ _ (HM.out j hlt) HT9.out.1 HT9.out.2)
        have hsk := Lib.hid (fun h => HSK.out c9 i j HI9.out.2.2 hlt h)
        have hkp := Lib.hid (fun h => HKP.out c9 i j HI9.out.2.2 hlt (by rw [HI9.out.2.1]; omega) h)
        generalize st L j = x at *
        cases hp : p x with
        | true =>
          have hI2 := Lib.hid (hsk.out hp)
          rw [hp] at hF
          clear hp hsk hkp
          go_wp2_with fail
          go_at_fn f
          refine (hF.out).mono ?_
          rintro e w2 ⟨rfl, hF2⟩
          have HF2 := Lib.hid hF2
          clear hF2
          go_wp2_with fail
          go_roundw
          case rel => exact ⟨i, j + 1, c9, rfl, by go_num, by omega, by omega, ⟨HP.out _ _ _ HI9.out.1 HF2.out, HI9.out.2.1, hI2.out⟩, ⟨HT9.out.1.trans (Twin.of_only HF2.out.only), HF2.out.dec⟩⟩
          case measure => simp [intOf]; omega
        | false =>
          have hI2 := Lib.hid (hkp.out hp)
          rw [hp] at hF
          clear hp hsk hkp
          go_wp2_with fail
          go_at_fn f
          refine (hF.out).mono ?_
          rintro e w2 ⟨rfl, hF2⟩
          have HF2 := Lib.hid hF2
          clear hF2
          have hh2 := HP.out _ _ _ HI9.out.1 HF2.out
          have f1 : w2.frozen? ⟨g, i, none⟩ = false := blk_frozen hh2 i
          obtain ⟨u1, hu1⟩ : ∃ u, w2.cell? ⟨g, i, none⟩ = some u := by
            rw [blk_cell hh2]
            exact ⟨_, Array.getElem?_eq_getElem (by rw [HI9.out.2.1]; omega)⟩
          have HH2 := Lib.hid hh2
          clear hh2
          go_wp2_with fail
          go_roundw
          case rel => exact ⟨i + 1, j + 1, _, by go_num, by go_num, by omega, by omega, ⟨blk_set HH2.out _ _, by simp [HI9.out.2.1], hI2.out⟩, ⟨(HT9.out.1.trans (Twin.of_only HF2.out.only)).trans (Twin.of_row ((Only.refl g _).setCell _)), HW.out _ _ _ HF2.out.dec⟩⟩
          case measure => simp [intOf]; omega
      · obtain rfl : j = n := by omega
        have hci : ¬ cap = i := by omega
        have hcl : ∀ ty, (Builtin.clear_ #[22] ty #[.slice (some ⟨g, i, none⟩) (j - i) (cap - i)]).run Tryz.prog wr = .ok (.tuple #[]) (wr.setCells g i (List.replicate (j - i) (.string ByteArray.empty))) :=
          fun ty => Lib.run_clear_slice wr _ _ ty _ Tryz.underlying22 Tryz.zeroValue9 rfl rfl g i _ _ (by omega) (fun t ht => by rw [blk_cell HI9.out.1, Array.getElem?_eq_getElem (by rw [HI9.out.2.1]; omega)]; rfl) (fun t ht => blk_frozen HI9.out.1 _)
        go_wp2_with fail
        go_ret
        obtain ⟨c8, h1, h2, h3⟩ := blk_setCells (List.replicate (j - i) (.string ByteArray.empty)) i wr c9 HI9.out.1
        refine ⟨_, rfl, ?_, HT9.out.1.trans (Twin.of_row (only_setCells _ _ _ (Only.refl g _))), HWs.out _ _ _ HT9.out.2⟩
        have hd := HI9.out.2.2
        rw [HZ.out]
        have := HEO.out ((L.take j).filter fun s => !p s) _ c8 h1 (by rw [h2]; exact HI9.out.2.1) (by rw [hd.len]; omega) (fun k hk => by rw [hd.len] at hk; rw [h3 k hk]; exact hd.low k hk)
        rwa [hd.len] at this
end Go.Proofs.YtmdbhcoioimlmaaGreat

/- ConsequencesOf of the program. -/
namespace Go.Proofs.YtmdbhcoioimlmaaGreat
open Go.RowKit
open Fm (Tree)

theorem left_of {L : List ByteArray} (h : lfB L = true) : ∃ Ts : List Tree, L = Ts.map tx ∧ ∀ a ∈ Ts, FmOk a := by
  unfold lfB at h
  rw [Bool.and_eq_true] at h
  have ha := h.1
  have hL : ∀ x ∈ L, gp x = true := by
    intro x hx
    obtain ⟨i, hi, rfl⟩ := List.getElem_of_mem hx
    have h3 : AscP L L.length := by
      unfold ascP at ha
      exact @of_decide_eq_true _ (Classical.propDecidable _) ha
    rw [st_eq hi]
    exact (h3 i hi).1
  refine ⟨L.map fo, ?_, ?_⟩
  · rw [List.map_map]
    have : ∀ x ∈ L, (tx ∘ fo) x = id x := fun x hx => (fo_ok (hL x hx)).2
    rw [List.map_congr_left this, List.map_id]
  · intro a hm
    obtain ⟨x, hx, rfl⟩ := List.mem_map.1 hm
    exact (fo_ok (hL x hx)).1
theorem fits_mem {C : List ByteArray} (h : Fits C) {s : ByteArray} (hs : s ∈ C) : s.size ≤ 1048576 := by
  obtain ⟨i, hi, rfl⟩ := List.getElem_of_mem hs
  rw [st_get hi]
  exact h i hi
theorem okS_co {Ts : List Tree} {c : Tree} (hL : ∀ a ∈ Ts, FmOk a) (hc : FmOk c) (h : szL (Ts.map tx) + szL [tx c] ≤ 20) : OkS Ts c := by
  have e2 := szL_map hL
  have e3 : szL [tx c] = nn c := by
    have := szL_map (Ts := [c]) (ok_one hc)
    rw [tot_one] at this
    exact this
  exact okS_mk hL hc (by omega)
theorem any_no {α : Type} {L : List α} {p : α → Bool} (h : L.any p = false) {x : α} (hx : x ∈ L) : p x = false := by
  rw [List.any_eq_false] at h
  simpa using h x hx

theorem co1_k (C : List ByteArray) (w : World) (hC : Fits C) : PredK w 50 #[] C (fun s => !gp s) := by
  intro s W hs hW
  have K := Lib.hid (isPlainText_c s W (by have := fits_mem hC hs; omega))
  show Calls Tryz.prog 50 #[.string s] W fun e W' => e = .returned (.bool (!gp s)) ∧ Grew W W'
  clear hs hC
  generalize gp s = g at *
  go_enter Tryz.func50, Tryz.ntmps50
  go_wp2_with fail
  refine (K.out).mono ?_
  rintro e w1 ⟨rfl, hg1⟩
  go_wp2_with fail
  go_ret
  exact ⟨rfl, hg1⟩
theorem co2_k (v : Value) (L C : List ByteArray) (bl : Nat) (w : World) (h : Strs w v L) (hs : Fits L) (hn : L.length ≤ 1048576) (hC : Fits C) (hb : ∀ W, Grew w W → W.cell? ⟨bl, 0, none⟩ = some v) :
    PredK w 51 #[.pointer (some ⟨bl, 0, none⟩)] C (fun s => !decide (szL L + szL [s] ≤ 20)) := by
  intro s W hm hW
  have K := Lib.hid (isSmallGoal_c v _ L [s] (W.alloc (.cells #[.string s] 9)) ((h.grew hW).grew ((Grew.refl W).alloc _)) (strs_litQ s W) hs (fits_one (fits_mem hC hm)) hn (by simp))
  have k1 := hb W hW
  show Calls Tryz.prog 51 #[.string s, .pointer (some ⟨bl, 0, none⟩)] W fun e W' => e = .returned (.bool (!decide (szL L + szL [s] ≤ 20))) ∧ Grew W W'
  obtain ⟨A, c, rfl⟩ := strs_slice h
  clear h hs hC hm
  generalize decide (szL L + szL [s] ≤ 20) = R at *
  go_enter Tryz.func51, Tryz.ntmps51
  go_wp2_with fail
  refine (K.out).mono ?_
  rintro e w1 ⟨rfl, hg1⟩
  go_wp2_with fail
  go_ret
  exact ⟨rfl, ((Grew.refl W).alloc _).trans hg1⟩
theorem co3_k (D M bd bl : Nat) (v : Value) (Ts : List Tree) (c : Tree) (w : World) (hD : Dec w D M) (hS : OkS Ts c) (h : TL w v Ts) (k1 : w.cell? ⟨bd, 0, none⟩ = some (.pointer (some ⟨D, 0, none⟩))) (k2 : w.cell? ⟨bl, 0, none⟩ = some v) :
    Calls Tryz.prog 55 (#[.string (tx c)] ++ #[.pointer (some ⟨bd, 0, none⟩), .pointer (some ⟨bl, 0, none⟩)]) w (Decides w D M (!dc (EntL Ts c))) := by
  show Calls Tryz.prog 55 #[.string (tx c), .pointer (some ⟨bd, 0, none⟩), .pointer (some ⟨bl, 0, none⟩)] w _
  have K := Lib.hid (dprovable_c D M Ts c v w hS hD h)
  unfold Decides at *
  obtain ⟨A, n, cc, rfl⟩ := h.slice
  clear h hS hD
  generalize dc (EntL Ts c) = R at *
  generalize tx c = tc at *
  go_enter Tryz.func55, Tryz.ntmps55
  go_wp2_with fail
  refine (K.out).mono ?_
  rintro e w1 ⟨rfl, hF1⟩
  go_wp2_with fail
  go_ret
  exact ⟨rfl, hF1⟩

theorem OwnS.openG {w : World} {B : Nat} {v : Value} {L : List ByteArray} (h : OwnS w B v L) : (v = .slice none 0 0 ∧ L = []) ∨ ∃ g c cur, v = .slice (some ⟨g, 0, none⟩) L.length c ∧ B ≤ g ∧ w.heap[g]? = some (.cells cur 9 (0, 0)) ∧ L.length ≤ c ∧ c ≤ 9223372036854775807 ∧ cur.size = c ∧ ∀ i, i < L.length → cur[i]? = some (.string (st L i)) := by
  rcases h.2 with ⟨rfl, h0⟩ | ⟨g, c, cur, rfl, hB, hh, hnc, hcm, hcs, ht⟩
  · exact .inl ⟨rfl, List.eq_nil_of_length_eq_zero h0⟩
  · refine .inr ⟨g, c, cur, rfl, hB, hh, hnc, hcm, by omega, fun i hi => ?_⟩
    have := scells_at hi
    rw [← ht, List.getElem?_take, if_pos (by omega)] at this
    simpa using this

set_option maxHeartbeats 4000000 in
theorem implCo_c (v : Value) (L : List ByteArray) (v2 : Value) (C : List ByteArray) (w : World) (h : Strs w v L) (h2 : Strs w v2 C) (hs : Fits L) (hn : L.length ≤ 1048576) (hC : Fits C) (hn2 : C.length ≤ 1048576) :
    Calls Tryz.prog 20 #[v, v2] w (GivesS2 w (coF L C)) := by
  unfold GivesS2
  have hal := Lib.hid ((Grew.refl w).alloc (.cells #[v] 22))
  have K1 := Lib.hid (isLeftSide_c v L _ (h.grew hal.out) hs hn)
  have hq : (ascP L && decide (L.length ≤ 12)) = lfB L := rfl
  rw [hq] at K1
  clear hq
  have hbx : ∀ W, Grew (w.alloc (.cells #[v] 22)) W → W.cell? ⟨w.heap.size, 0, none⟩ = some v := fun W hW => (hW.cell (p := ⟨w.heap.size, 0, none⟩) (by simp)).trans (by simp)
  have eg1 : ∀ args w, (callFunc 50 args).run Tryz.prog w = .ok (.enter 50 args) w := enters_of Tryz.func50 (by kernel_rfl) rfl
  have eg2 : ∀ args w, (callFunc 51 args).run Tryz.prog w = .ok (.enter 51 args) w := enters_of Tryz.func51 (by kernel_rfl) rfl
  have eg3 : ∀ args w, (callFunc 55 args).run Tryz.prog w = .ok (.enter 55 args) w := enters_of Tryz.func55 (by kernel_rfl) rfl
  have KA := Lib.hid (fun W (hW : Grew w W) => containsFuncK_c v2 C 50 #[] _ W (h2.grew hW) (co1_k C W hC) eg1)
  have KB := Lib.hid (fun W (hW : Grew (w.alloc (.cells #[v] 22)) W) => containsFuncK_c v2 C 51 #[.pointer (some ⟨w.heap.size, 0, none⟩)] _ W (h2.grew (hal.out.trans hW)) (co2_k v L C w.heap.size W (h.grew (hal.out.trans hW)) hs hn hC (fun V hV => hbx V (hW.trans hV))) eg2)
  unfold coF
  cases hlf : lfB L with
  | false =>
    rw [hlf] at K1
    obtain ⟨A, k, rfl⟩ := strs_slice h
    obtain ⟨A2, k2, rfl⟩ := strs_slice h2
    clear h h2 hs hC hlf KA KB
    have k0 := hbx _ (Grew.refl _)
    clear hbx
    go_enter Tryz.func20, Tryz.ntmps20
    go_wp2_with fail
    refine (K1.out).mono ?_
    rintro e w1 ⟨rfl, hg1⟩
    go_wp2_with fail
    go_ret2
    exact ⟨_, rfl, OwnS.nil_ _ _, hal.out.trans hg1⟩
  | true =>
  rw [hlf] at K1
  cases ha : C.any fun s => !gp s with
  | true =>
    rw [ha] at KA
    obtain ⟨A, k, rfl⟩ := strs_slice h
    obtain ⟨A2, k2, rfl⟩ := strs_slice h2
    clear h h2 hs hC hlf ha KB
    have k0 := hbx _ (Grew.refl _)
    clear hbx
    go_enter Tryz.func20, Tryz.ntmps20
    go_wp2_with fail
    refine (K1.out).mono ?_
    rintro e w1 ⟨rfl, hg1⟩
    have g1 := hal.out.trans hg1
    go_wp2_with fail
    refine (KA.out _ g1).mono ?_
    rintro e w2 ⟨rfl, hg2⟩
    go_wp2_with fail
    go_ret2
    exact ⟨_, rfl, OwnS.nil_ _ _, g1.trans hg2⟩
  | false =>
  rw [ha] at KA
  cases hb : C.any fun s => !decide (szL L + szL [s] ≤ 20) with
  | true =>
    rw [hb] at KB
    obtain ⟨A, k, rfl⟩ := strs_slice h
    obtain ⟨A2, k2, rfl⟩ := strs_slice h2
    clear h h2 hs hC hlf ha hb
    have k0 := hbx _ (Grew.refl _)
    clear hbx
    go_enter Tryz.func20, Tryz.ntmps20
    go_wp2_with fail
    refine (K1.out).mono ?_
    rintro e w1 ⟨rfl, hg1⟩
    have g1 := hal.out.trans hg1
    go_wp2_with fail
    refine (KA.out _ g1).mono ?_
    rintro e w2 ⟨rfl, hg2⟩
    go_wp2_with fail
    refine (KB.out _ (hg1.trans hg2)).mono ?_
    rintro e w3 ⟨rfl, hg3⟩
    go_wp2_with fail
    go_ret2
    exact ⟨_, rfl, OwnS.nil_ _ _, (g1.trans hg2).trans hg3⟩
  | false =>
  rw [hb] at KB
  rw [if_pos (by rfl), if_neg (by decide)]
  obtain ⟨Ts, hTs, hok⟩ := left_of hlf
  have hT : TL w v Ts := by subst hTs; exact h
  have hmap : L.map fo = Ts := by rw [hTs, map_fo_tx hok]
  have hall : ∀ s ∈ C, ∃ c, s = tx c ∧ OkS Ts c ∧ fo s = c := fun s hm => by
    have h1 : gp s = true := by simpa using any_no ha hm
    have h3 : szL L + szL [s] ≤ 20 := by simpa using any_no hb hm
    obtain ⟨c, hc, rfl⟩ := gp_tree h1
    rw [hTs] at h3
    exact ⟨c, rfl, okS_co hok hc h3, fo_tx hc⟩
  rw [hmap]
  have hfil : (C.filter fun s => !!dc (EntL Ts (fo s))) = C.filter fun s => dc (EntL Ts (fo s)) := by simp
  have KN := Lib.hid (fun W => newDecider_c W)
  have KC := Lib.hid (fun W (hW : Grew w W) => cloneS_c v2 C W (h2.grew hW) (by omega))
  have KP : Hid (∀ (D M bd g : Nat) W, Dec W D M → Grew w W → w.heap.size + 1 ≤ M → bd < W.heap.size → bd ≠ M → D < g → bd < g → w.heap.size < g → W.cell? ⟨bd, 0, none⟩ = some (.pointer (some ⟨D, 0, none⟩)) → W.cell? ⟨w.heap.size, 0, none⟩ = some v → PredM W D M g 55 #[.pointer (some ⟨bd, 0, none⟩), .pointer (some ⟨w.heap.size, 0, none⟩)] C (fun s => !dc (EntL Ts (fo s)))) := Lib.hid (fun D M bd g W hD hg hM hbd hbM hDg hbg hwg k1 k2 s V hm hV hDV => by
    obtain ⟨c, rfl, hS, hf⟩ := hall s hm
    show Calls _ _ _ _ (Decides V D M (!dc (EntL Ts (fo (tx c)))))
    rw [hf]
    have hTV : TL V v Ts := Twin.rd hV (hT.grew hg) (fun bb o cc e => by
      have hbb : bb < w.heap.size := by
        rcases hT.2.2 with ⟨h0, _⟩ | ⟨b', o', c', h0, _, _, hlt, _⟩
        · rw [h0] at e; cases e
        · rw [h0] at e; cases e; exact hlt
      omega)
    have hsz := hg.size
    have hws : w.heap.size < W.heap.size := by
      rcases Nat.lt_or_ge w.heap.size W.heap.size with h9 | h9
      · exact h9
      · simp [World.cell?, Array.getElem?_eq_none h9] at k2
    exact co3_k D M bd w.heap.size v Ts c V hDV hS hTV ((hV.cell (p := ⟨bd, 0, none⟩) hbd (by show bd ≠ g; omega) hbM).trans k1) ((hV.cell (p := ⟨w.heap.size, 0, none⟩) hws (by show w.heap.size ≠ g; omega) (by show w.heap.size ≠ M; omega)).trans k2))
  have KD0 := Lib.hid (fun A c fv W => deleteFunc0_c A c fv W)
  have KD := Lib.hid (fun D M g cap B cur W bd (hp : PredM W D M g 55 #[.pointer (some ⟨bd, 0, none⟩), .pointer (some ⟨w.heap.size, 0, none⟩)] C (fun s => !dc (EntL Ts (fo s)))) h1 h2 h3 h4 h5 h6 h7 h8 => deleteFuncM_c D M g cap B cur C 55 #[.pointer (some ⟨bd, 0, none⟩), .pointer (some ⟨w.heap.size, 0, none⟩)] _ W h1 h2 h3 h4 h5 h6 h7 h8 hp eg3)
  rw [hfil] at KD
  obtain ⟨A, k, rfl⟩ := strs_slice h
  obtain ⟨A2, k2, rfl⟩ := strs_slice h2
  clear h h2 hs hC hlf ha hb hTs hok hT hmap hall hfil
  have k0 := hbx _ (Grew.refl _)
  have HBX := Lib.hid hbx
  clear hbx
  go_enter Tryz.func20, Tryz.ntmps20
  go_wp2_with fail
  refine (K1.out).mono ?_
  rintro e w1 ⟨rfl, hg1⟩
  have g1 := hal.out.trans hg1
  go_wp2_with fail
  refine (KA.out _ g1).mono ?_
  rintro e w2 ⟨rfl, hg2⟩
  go_wp2_with fail
  refine (KB.out _ (hg1.trans hg2)).mono ?_
  rintro e w3 ⟨rfl, hg3⟩
  go_wp2_with fail
  refine (KN.out _).mono ?_
  rintro e w4 ⟨D, M, rfl, hD4, hM4, hg4⟩
  have hal4 := (Grew.refl w4).alloc (.cells #[.pointer (some ⟨D, 0, none⟩)] 46)
  have HD4 := Lib.hid hD4
  have HZ := Lib.hid (show w.heap.size + 1 ≤ M ∧ M < w4.heap.size ∧ D < w4.heap.size by
    have z1 := hg1.size
    have z2 := hg2.size
    have z3 := hg3.size
    have z4 := hD4.memo.lt
    have z5 := hD4.lt
    simp at z1
    omega)
  have g4 := ((g1.trans hg2).trans hg3).trans hg4
  have HG4 := Lib.hid ((hg1.trans hg2).trans (hg3.trans hg4))
  clear hD4 hM4
  go_wp2_with fail
  refine (KC.out _ (g4.trans hal4)).mono ?_
  rintro e w6 ⟨u, rfl, hu, hg6⟩
  have g6 := (g4.trans hal4).trans hg6
  have k6 : w6.cell? ⟨w4.heap.size, 0, none⟩ = some (.pointer (some ⟨D, 0, none⟩)) := (hg6.cell (p := ⟨w4.heap.size, 0, none⟩) (by simp)).trans (by simp)
  have HK6 := Lib.hid k6
  have HG6 := Lib.hid (hal4.trans hg6)
  have hz6 : w4.heap.size < w6.heap.size := by have := hg6.size; simp at this; omega
  clear k6
  rcases hu.openG with ⟨rfl, hC0⟩ | ⟨g, cap, cur, rfl, hBg, hh, hlc, hcm, hcs, hcur⟩
  · subst hC0
    clear hu
    go_wp2_with fail
    refine (KD0.out _ _ _ _).mono ?_
    rintro e w7 ⟨rfl, rfl⟩
    go_wp2_with fail
    go_ret2
    exact ⟨_, rfl, OwnS.nil_ _ _, g6⟩
  · have hsz := HZ.out
    have hBg2 : w4.heap.size + 1 ≤ g := by simpa using hBg
    have hgs := blk_lt hh
    have hD6 := HD4.out.grew HG6.out
    have hP := KP.out D M w4.heap.size g w6 hD6 g6 hsz.1 hz6 (by omega) (by omega) (by omega) (by omega) HK6.out (HBX.out _ (HG4.out.trans HG6.out))
    have hL := Lib.hid (KD.out D M g cap w.heap.size cur w6 w4.heap.size hP hD6 (by omega) (by omega) hh hcs hcur hlc hcm)
    have HM := Lib.hid (show w.heap.size ≤ g ∧ w.heap.size ≤ M by omega)
    clear hP hD6 hgs hBg2 hsz hcur hcs hh hBg hu hz6
    unfold GivesDel at hL
    go_wp2_with fail
    refine (hL.out).mono ?_
    rintro e w7 ⟨r, rfl, hr, hT7, hD7⟩
    obtain ⟨A7, c7, rfl⟩ := strs_slice hr.strs
    have HR := Lib.hid (And.intro hr (hT7.grew g6 HM.out.1 HM.out.2))
    clear hr hT7 hD7
    go_wp2_with fail
    go_ret2
    exact ⟨_, rfl, HR.out.1, HR.out.2⟩
end Go.Proofs.YtmdbhcoioimlmaaGreat

/- ConsequencesOf of the reference. -/
namespace Go.Proofs.YtmdbhcoioimlmaaGreat
open Go.RowKit
open Fm (Tree)

theorem any_at {L : List ByteArray} {p : ByteArray → Bool} {j : Nat} (hj : j < L.length) (h : p (st L j) = true) : L.any p = true := anyS_at hj h
theorem filter_take {L : List ByteArray} {p : ByteArray → Bool} {j : Nat} (hj : j < L.length) : (L.take (j + 1)).filter p = (L.take j).filter p ++ (if p (st L j) = true then [st L j] else []) := by
  rw [take_st hj, List.filter_append]
  congr 1
  cases h : p (st L j) <;> simp [h]

theorem coF_left {L C : List ByteArray} (h : lfB L = false) : coF L C = ([], 1) := by unfold coF; rw [h]; rfl
theorem coF_gp {L C : List ByteArray} (h : lfB L = true) (ha : (C.any fun s => !gp s) = true) : coF L C = ([], 1) := by unfold coF; rw [h, ha]; rfl
theorem coF_big {L C : List ByteArray} (h : lfB L = true) (ha : (C.any fun s => !gp s) = false) (hb : (C.any fun s => !decide (szL L + szL [s] ≤ 20)) = true) : coF L C = ([], 3) := by unfold coF; rw [h, ha, hb]; rfl
theorem coF_ok {L C : List ByteArray} (h : lfB L = true) (ha : (C.any fun s => !gp s) = false) (hb : (C.any fun s => !decide (szL L + szL [s] ≤ 20)) = false) : coF L C = (C.filter fun s => dc (EntL (L.map fo) (fo s)), 0) := by unfold coF; rw [h, ha, hb]; rfl

set_option maxHeartbeats 4000000 in
theorem specCo_c (v : Value) (L : List ByteArray) (v2 : Value) (C : List ByteArray) (w : World) (h : Strs w v L) (h2 : Strs w v2 C) (hs : Fits L) (hn : L.length ≤ 1048576) (hC : Fits C) (hn2 : C.length ≤ 1048576) :
    Calls Tryz.prog 19 #[v, v2] w (GivesS2 w (coF L C)) := by
  unfold GivesS2
  have K1 := Lib.hid (l22Left_c v L w h hs hn)
  have hq : (ascP L && decide (L.length ≤ 12)) = lfB L := rfl
  rw [hq] at K1
  clear hq
  cases hlf : lfB L with
  | false =>
    rw [coF_left hlf]
    rw [hlf] at K1
    obtain ⟨A, k, rfl⟩ := strs_slice h
    obtain ⟨A2, k2, rfl⟩ := strs_slice h2
    clear h h2 hs hC hlf
    go_enter Tryz.func19, Tryz.ntmps19
    go_wp2_with fail
    refine (K1.out).mono ?_
    rintro e w1 ⟨rfl, hg1⟩
    go_wp2_with fail
    go_ret2
    exact ⟨_, rfl, OwnS.nil_ _ _, hg1⟩
  | true =>
  rw [hlf] at K1
  obtain ⟨rr, hRR⟩ : ∃ rr, rr = coF L C := ⟨_, rfl⟩
  rw [← hRR]
  have HA1 := Lib.hid (fun j (hj : j < C.length) (hp : gp (st C j) = false) => hRR.trans (coF_gp hlf (any_at (p := fun s => !gp s) hj (by simp [hp]))))
  have HA0 := Lib.hid (fun (hp : NoneS (fun s => !gp s) C C.length) => noneS_any hp)
  obtain ⟨A, k, rfl⟩ := strs_slice h
  obtain ⟨A2, k2, rfl⟩ := strs_slice h2
  have HCL := Lib.hid (h2.openA rfl)
  have KF := Lib.hid (fun j (hj : j < C.length) W => l22Formula_c (st C j) W (by have := hC j hj; omega))
  have HS1 := Lib.hid (fun j (hj : NoneS (fun s => !gp s) C j) (hp : gp (st C j) = true) => hj.succ (by show (!gp (st C j)) = false; rw [hp]; rfl))
  have HH := Lib.hid h
  have HH2 := Lib.hid h2
  have HFC := Lib.hid hC
  have HFL := Lib.hid hs
  have HNC := Lib.hid (rfl : C.length = C.length)
  have HLF := Lib.hid hlf
  have HRR := Lib.hid hRR
  clear h h2 hs hC hlf hRR
  go_enter Tryz.func19, Tryz.ntmps19
  go_wp2_with fail
  refine (K1.out).mono ?_
  rintro e w1 ⟨rfl, hg1⟩
  generalize hN : C.length = n at *
  have HN := Lib.hid hN
  clear hN
  go_wp2_with fail
  go_loopw [6] (fun i wr => ∃ j : Nat, j ≤ n ∧ i = .int .i64 j ∧ Grew w wr ∧ Hid (NoneS (fun s => !gp s) C j)) (fun i _ => n - (intOf i).toNat)
  case atStart => exact ⟨0, Nat.zero_le _, rfl, hg1, NoneS.zero _ _⟩
  case round =>
    obtain ⟨j, hj, rfl, hB, HJ⟩ := hrel
    by_cases hlt : j < n
    · obtain ⟨b, o, rfl, hc, hm, hb, hcell⟩ := HCL.out j hlt
      have k1 := hcell j hlt _ hB
      have kf := Lib.hid (KF.out j hlt)
      have ha := Lib.hid (HA1.out j hlt)
      have hs1 := Lib.hid (HS1.out j HJ.out)
      clear hcell
      unfold GivesP at kf
      generalize st C j = x at *
      cases hp : gp x with
      | false =>
        have hv := Lib.hid (ha.out hp)
        rw [hp] at kf
        clear ha hs1 hp
        go_wp2_with fail
        refine (kf.out _).mono ?_
        rintro e w2 ⟨u, rfl, hu, hg2⟩
        obtain ⟨A3, n3, c3, rfl⟩ := slice3 hu.nodes
        clear hu
        go_wp2_with fail
        go_ret2
        have hv2 := hv.out
        subst hv2
        exact ⟨_, rfl, OwnS.nil_ _ _, hB.trans hg2⟩
      | true =>
        have hv := Lib.hid (hs1.out hp)
        rw [hp] at kf
        clear ha hs1 hp
        go_wp2_with fail
        refine (kf.out _).mono ?_
        rintro e w2 ⟨u, rfl, hu, hg2⟩
        obtain ⟨A3, n3, c3, rfl⟩ := slice3 hu.nodes
        clear hu
        go_wp2_with fail
        go_roundw
        case rel => exact ⟨j + 1, by omega, by go_num, hB.trans hg2, hv⟩
        case measure => simp [intOf]; omega
    · obtain rfl : j = n := by omega
      have hra := HA0.out HJ.out
      clear HA1 HA0 HS1 KF
      have hgp : Hid (∀ s ∈ C, gp s = true) := Lib.hid (fun s hm => by simpa using any_no hra hm)
      obtain ⟨Ts, hTs, hok⟩ := left_of HLF.out
      have hmap : L.map fo = Ts := by rw [hTs, map_fo_tx hok]
      have hall : ∀ i, i < j → szL L + szL [st C i] ≤ 20 → ∃ c, st C i = tx c ∧ OkS Ts c ∧ fo (st C i) = c := fun i hi h3 => by
        have hm : st C i ∈ C := st_mem (by rw [HN.out]; exact hi)
        have h1 := hgp.out _ hm
        obtain ⟨c, hc, he⟩ := gp_tree h1
        have h4 := h3
        rw [← he, hTs] at h4
        exact ⟨c, he.symm, okS_co hok hc h4, by rw [← he]; exact fo_tx hc⟩
      have HB1 := Lib.hid (fun i (hi : i < j) (hp : ¬ szL L + szL [st C i] ≤ 20) => HRR.out.trans (coF_big HLF.out hra (any_at (p := fun s => !decide (szL L + szL [s] ≤ 20)) (by rw [HN.out]; exact hi) (by simp; omega))))
      have HB0 := Lib.hid (fun (hp : NoneS (fun s => !decide (szL L + szL [s] ≤ 20)) C j) => (by have := HRR.out.trans (coF_ok HLF.out hra (noneS_any (by rw [HN.out]; exact hp))); rwa [hmap] at this : rr = (C.filter (fun s => dc (EntL Ts (fo s))), 0)))
      have HB2 := Lib.hid (fun i (hi : NoneS (fun s => !decide (szL L + szL [s] ≤ 20)) C i) (hp : szL L + szL [st C i] ≤ 20) => hi.succ (by show (!decide (szL L + szL [st C i] ≤ 20)) = false; rw [decide_eq_true hp]; rfl))
      have HTs : Hid (Strs w (.slice A L.length k) (Ts.map tx)) := Lib.hid (by rw [← hTs]; exact HH.out)
      have KO := Lib.hid (fun W (hW : Grew w W) i (hi : i < j) hz => (by obtain ⟨c, h1, h2, h3⟩ := hall i hi hz; rw [h3, h1]; exact l23Ok_c _ Ts c W h2 (show TL W _ Ts from HTs.out.grew hW) : Calls Tryz.prog 30 #[.slice A L.length k, .string (st C i)] W fun e w' => e = .returned (.bool (dc (EntL Ts (fo (st C i))))) ∧ Grew W w'))
      have KZ := Lib.hid (fun W (hW : Grew w W) => l23Size_c _ L W (HH.out.grew hW) HFL.out hn)
      have HFI := Lib.hid (fun i (hi : i < j) => @filter_take C (fun s => dc (EntL Ts (fo s))) i (by rw [HN.out]; exact hi))
      have HFE : Hid (C.filter (fun s => dc (EntL Ts (fo s))) = (C.take j).filter fun s => dc (EntL Ts (fo s))) := Lib.hid (by rw [← HN.out, List.take_length])
      have hbz := szL_le L
      have HFl := Lib.hid (fun i => (by have := List.length_filter_le (fun s => dc (EntL Ts (fo s))) (C.take i); rw [List.length_take] at this; omega : ((C.take i).filter fun s => dc (EntL Ts (fo s))).length ≤ C.length))
      clear hTs hok hmap hall HJ HRR HLF HTs HH hgp HFL hra
      have he1 : OwnS (wr.alloc (.cells #[] 9)) w.heap.size (.slice (some ⟨wr.heap.size, 0, none⟩) 0 0) [] := World.ownsRow_lit (e := 9) (size := 1) wr #[] 0 hB.size (by omega) rfl
      have g1 := hB.alloc (.cells #[] 9)
      generalize szL L = z at *
      generalize L.length = nl at *
      have HO1 := Lib.hid he1
      clear he1
      have hz0 : (List.filter (fun s => dc (EntL Ts (fo s))) (List.take 0 C)) = [] := by simp
      have HZ0 := Lib.hid hz0
      clear hz0
      go_wp2_with fail
      go_loopw [9, 10] (fun out i wr => ∃ q : Nat, q ≤ j ∧ i = .int .i64 q ∧ OwnS wr w.heap.size out ((C.take q).filter fun s => dc (EntL Ts (fo s))) ∧ Grew w wr ∧ Hid (NoneS (fun s => !decide (z + szL [s] ≤ 20)) C q)) (fun _ i _ => j - (intOf i).toNat)
      case atStart => exact ⟨0, Nat.zero_le _, rfl, by rw [HZ0.out]; exact HO1.out, g1, NoneS.zero _ _⟩
      case round =>
        obtain ⟨q, hq, rfl, hO, hB2, HJ⟩ := hrel
        by_cases hlt2 : q < j
        · obtain ⟨b, o, rfl, hc, hm, hb, hcell⟩ := HCL.out q hlt2
          have k1 := hcell q hlt2
          have HK1 := Lib.hid k1
          have hfit := HFC.out q (by rw [HN.out]; exact hlt2)
          have hby := szL_le [st C q]
          have hb1 := Lib.hid (HB1.out q hlt2)
          have hb2 := Lib.hid (HB2.out q HJ.out)
          have ko := Lib.hid (fun W hW => KO.out W hW q hlt2)
          have hfi := Lib.hid (HFI.out q hlt2)
          have hfl := HFl.out q
          rw [HN.out] at hfl
          simp only [List.length_singleton] at hby
          generalize hy : szL [st C q] = y at *
          have HY := Lib.hid hy
          clear hy hcell
          have i0 : (0 : Int) ≤ (q : Int) := by omega
          have i1 : (q : Int) ≤ (q : Int) + 1 := by omega
          have i2 : (q : Int) + 1 ≤ (k2 : Int) := by omega
          have i4 : IntKind.i64.wrap ((q : Int) + 1) = (q : Int) + 1 := by rw [IntKind.wrap_i64]; omega
          have i5 : IntKind.i64.wrap ((z : Int) + (y : Int)) = (z : Int) + (y : Int) := by rw [IntKind.wrap_i64]; omega
          have HO := Lib.hid hO
          obtain ⟨A8, c8, rfl⟩ := strs_slice hO.strs
          clear hO
          generalize hx : st C q = x at *
          have HX := Lib.hid hx
          clear hx
          have hrr := Grew.refl wr
          have hdr := hrr.drew
          have KZ2 := Lib.hid (fun W (hW : Grew wr W) => l23Size_c (.slice (some ⟨b, o + q, none⟩) 1 (k2 - q)) [x] W (show Rd W 1 _ 1 [.string x] from ⟨rfl, by omega, .inr ⟨b, o + q, k2 - q, rfl, by omega, by omega, by have := hB2.size; have := hW.size; omega, fun i u hu => by
            obtain rfl : i = 0 := by have := (List.getElem?_eq_some_iff.1 hu).1; simp at this; omega
            obtain rfl : Value.string x = u := by simpa using hu
            exact HK1.out W (hB2.trans hW)⟩⟩) (fits_one hfit) (by simp))
          rw [HY.out] at KZ2
          generalize (List.filter (fun s => dc (EntL Ts (fo s))) (List.take q C)).length = nf at *
          go_wp2_with fail
          go_region_held3 (fun w' => Grew wr w') (first | with_reducible assumption | exact Grew.alloc ‹_› _)
            (first
             | (go_at_call 40; have hz := hk5; refine (KZ2.out _ hk5).mono ?_; rintro e w6 ⟨rfl, hg6⟩; have hk6 := hk5.trans hg6)
             | (go_at_call 40; refine (KZ.out _ (hB2.trans hdr)).mono ?_; rintro e w5 ⟨rfl, hg5⟩; have hk5 : Grew wr w5 := hdr.trans hg5))
          have gk6 := hB2.trans hk6
          have HK6 := Lib.hid hk6
          have HNS := Lib.hid HJ
          clear hz hrr hdr hk5 KZ2 k1
          by_cases hzy : z + y ≤ 20
          · have kk := HK1.out w6 gk6
            have ko6 := Lib.hid (ko.out w6 gk6 hzy)
            have hns := Lib.hid (hb2.out hzy)
            clear hb1 hb2 ko
            cases hd : dc (EntL Ts (fo x)) with
            | true =>
              rw [hd] at ko6 hfi
              rw [if_pos rfl] at hfi
              clear hd
              go_wp2_with fail
              refine (ko6.out).mono ?_
              rintro e w7 ⟨rfl, hg7⟩
              have kk7 := HK1.out w7 (gk6.trans hg7)
              have g7 := gk6.trans hg7
              have HO7 := (HO.out.grew (HK6.out.trans hg7)).grew ((Grew.refl w7).alloc (.cells #[.string x] 9))
              have hfl' : (List.filter (fun s => dc (EntL Ts (fo s))) (List.take q C)).length ≤ 1048576 := by have := HFl.out q; rw [HN.out] at this; omega
              generalize List.filter (fun s => dc (EntL Ts (fo s))) (List.take q C) = F at *
              have HFL' := Lib.hid hfl'
              clear hfl'
              go_wp2_with (first
                | (at_builtin; refine wpList_appStr (w0 := w) _ _ rfl rfl _ F rfl HO7 (g7.alloc _) _ x rfl (rd_lit _ _ _) HFL'.out ?_; intro v8 w8 hown8 hg8 _))
              rw [← hfi.out] at hown8
              have HO8 := Lib.hid hown8
              go_roundw
              case rel => exact ⟨q + 1, by omega, by go_num, HO8.out, hg8, hns⟩
              case measure => simp [intOf]; omega
            | false =>
              rw [hd] at ko6 hfi
              rw [if_neg (by decide), List.append_nil] at hfi
              clear hd
              go_wp2_with fail
              refine (ko6.out).mono ?_
              rintro e w7 ⟨rfl, hg7⟩
              have g7 := gk6.trans hg7
              have HO7 := HO.out.grew (HK6.out.trans hg7)
              rw [← hfi.out] at HO7
              have HO8 := Lib.hid HO7
              clear HO7
              go_wp2_with fail
              go_roundw
              case rel => exact ⟨q + 1, by omega, by go_num, HO8.out, g7, hns⟩
              case measure => simp [intOf]; omega
          · have hv := Lib.hid (hb1.out hzy)
            clear hb1 hb2 ko
            go_wp2_with fail
            go_ret2
            have hv2 := hv.out
            subst hv2
            exact ⟨_, rfl, OwnS.nil_ _ _, gk6⟩
        · obtain rfl : q = j := by omega
          have hrb := Lib.hid (HB0.out HJ.out)
          obtain ⟨A8, c8, rfl⟩ := strs_slice hO.strs
          have HO := Lib.hid hO
          clear hO
          rw [HFE.out] at hrb
          generalize (List.filter (fun s => dc (EntL Ts (fo s))) (List.take q C)) = F at *
          go_wp2_with fail
          go_ret2
          have hrb2 := hrb.out
          subst hrb2
          exact ⟨_, rfl, HO.out, hB2⟩
end Go.Proofs.YtmdbhcoioimlmaaGreat

/- isDirect of the program, l23Direct of the reference. Printed by dirgen.py. -/
namespace Go.Proofs.YtmdbhcoioimlmaaGreat
open Go.RowKit
open Fm (Nd Tree)

/-- Is a formula direct for a left side? -/
noncomputable def dirB (Ts : List Tree) : Tree → Bool
  | .and x y => hasL Ts (.and x y) || (hasL Ts .fls || (dirB Ts x && dirB Ts y))
  | .or x y => hasL Ts (.or x y) || (hasL Ts .fls || (dirB Ts x || dirB Ts y))
  | .imp x y => hasL Ts (.imp x y) || (hasL Ts .fls || (if hasL Ts x = true then dirB Ts y else dc (EntL (Ts ++ [x]) y)))
  | t => hasL Ts t || hasL Ts .fls
theorem dirB_has {Ts : List Tree} {a : Tree} (h : hasL Ts a = true) : dirB Ts a = true := by cases a <;> simp [dirB, h]
theorem dirB_fls {Ts : List Tree} {a : Tree} (h : hasL Ts .fls = true) : dirB Ts a = true := by cases a <;> simp [dirB, h]
theorem dirB_and {Ts : List Tree} {x y : Tree} (h : hasL Ts (.and x y) = false) (h2 : hasL Ts .fls = false) : dirB Ts (.and x y) = (dirB Ts x && dirB Ts y) := by rw [dirB, h, h2]; rfl
theorem dirB_or {Ts : List Tree} {x y : Tree} (h : hasL Ts (.or x y) = false) (h2 : hasL Ts .fls = false) : dirB Ts (.or x y) = (dirB Ts x || dirB Ts y) := by rw [dirB, h, h2]; rfl
theorem dirB_imp {Ts : List Tree} {x y : Tree} (h : hasL Ts (.imp x y) = false) (h2 : hasL Ts .fls = false) : dirB Ts (.imp x y) = if hasL Ts x = true then dirB Ts y else dc (EntL (Ts ++ [x]) y) := by rw [dirB, h, h2]; rfl
theorem dirB_var {Ts : List Tree} {v : Fin 6} (h : hasL Ts (.var v) = false) (h2 : hasL Ts .fls = false) : dirB Ts (.var v) = false := by simp [dirB, h, h2]
theorem fls_ok : FmOk .fls := ⟨by show (1 : Nat) ≤ 40; omega, anyP_no (fun i hi => by
    have h1 : i < 1 := hi
    obtain rfl : i = 0 := by omega
    rfl)⟩
theorem putOf_ok' {M P : List Tree} {c : Tree} (hS : OkS M c) (h : PutOf M P) : OkS P c ∧ dc (EntL P c) = dc (EntL M c) := by
  have h2 := h.tot f2
  exact ⟨⟨h.ok, hS.2.1, by have := hS.2.2; unfold nu at *; omega⟩, dc_congr (entL_congr h.mem)⟩
theorem okS_imp {Ts : List Tree} {x y : Tree} (hL : ∀ t ∈ Ts, FmOk t) (h : FmOk (.imp x y)) (hl : tot nn Ts + nn (.imp x y) ≤ 20) : OkS (Ts ++ [x]) y := by
  obtain ⟨hx, hy⟩ := fmOk_imp h
  rw [nn_imp] at hl
  exact okS_mk (fun a ha => (List.mem_append.1 ha).elim (hL a) (ok_one hx a)) hy (by rw [tot_app, tot_one]; omega)

set_option maxHeartbeats 4000000 in
theorem isDirect_c (D M : Nat) (Ts : List Tree) (hL : ∀ t ∈ Ts, FmOk t) (v : Value) : ∀ (m : Nat) (a : Tree) (va : Value) (w : World), nn a < m → FmOk a → tot nn Ts + nn a ≤ 20 → Dec w D M → TL w v Ts → Nodes w va (Fm.enc a) →
    Calls Tryz.prog 36 #[.pointer (some ⟨D, 0, none⟩), v, va] w (Decides w D M (dirB Ts a)) := by
  intro m
  induction m with
  | zero => intro a va w h; omega
  | succ m ih =>
  intro a va w hm hf hl hD h ha
  unfold Decides at *
  have hn : Ts.length ≤ 1048576 := by
    have := Nat.le_trans (len_nu Ts a) (okS_mk hL hf hl).2.2
    exact this
  have HIH := Lib.hid ih
  have HF := Lib.hid hf
  have HL := Lib.hid hL
  have hFt : tx .fls = ⟨#[70]⟩ := rfl
  have KC := Lib.hid (fun W (hW : Grew w W) => contains_t v Ts a W (h.grew hW) hL hf (by omega))
  have KF := Lib.hid (fun W (hW : Grew w W) => contains_t v Ts .fls W (h.grew hW) hL fls_ok (by omega))
  rw [hFt] at KF
  have KT := Lib.hid (fun W (hW : Grew w W) => text_t a va W hf (ha.grew hW))
  have HT := Lib.hid h
  have HA := Lib.hid ha
  have HD := Lib.hid hD
  obtain ⟨Av, nv, cv, rfl⟩ := h.slice
  obtain ⟨bx, ox, nx, cx, rfl, hnx, hnxe, hkx⟩ := head_t ha
  have hnnx : (0 : Int) < (nx : Int) := by omega
  clear ih hf h ha hD hnxe hFt
  obtain ⟨q1, hq1⟩ : ∃ q, hasL Ts a = q := ⟨_, rfl⟩
  obtain ⟨q2, hq2⟩ : ∃ q, hasL Ts .fls = q := ⟨_, rfl⟩
  rw [hq1] at KC
  rw [hq2] at KF
  have HQ1 := Lib.hid hq1
  have HQ2 := Lib.hid hq2
  clear hq1 hq2
  cases q1 with
  | true =>
    rw [dirB_has HQ1.out]
    clear hkx HIH
    go_enter Tryz.func36, Tryz.ntmps36
    go_wp2_with fail
    refine (KT.out _ (Grew.refl w)).mono ?_
    rintro e w1 ⟨rfl, hg1⟩
    go_wp2_with fail
    refine (KC.out _ hg1).mono ?_
    rintro e w2 ⟨rfl, hg2⟩
    have g2 := hg1.trans hg2
    go_wp2_with fail
    go_ret
    exact ⟨rfl, DF.of_grew HD.out g2⟩
  | false =>
  cases q2 with
  | true =>
    rw [dirB_fls HQ2.out]
    clear hkx HIH
    go_enter Tryz.func36, Tryz.ntmps36
    go_wp2_with fail
    refine (KT.out _ (Grew.refl w)).mono ?_
    rintro e w1 ⟨rfl, hg1⟩
    go_wp2_with fail
    refine (KC.out _ hg1).mono ?_
    rintro e w2 ⟨rfl, hg2⟩
    have g2 := hg1.trans hg2
    go_wp2_with fail
    refine (KF.out _ g2).mono ?_
    rintro e w3 ⟨rfl, hg3⟩
    have g3 := g2.trans hg3
    go_wp2_with fail
    go_ret
    exact ⟨rfl, DF.of_grew HD.out g3⟩
  | false =>
  rcases fm_five HF.out with ⟨x, rfl⟩ | rfl | ⟨x, y, rfl⟩ | ⟨x, y, rfl⟩ | ⟨x, y, rfl⟩
  · rw [dirB_var HQ1.out HQ2.out]
    clear HIH
    go_enter Tryz.func36, Tryz.ntmps36
    go_wp2_with fail
    refine (KT.out _ (Grew.refl w)).mono ?_
    rintro e w1 ⟨rfl, hg1⟩
    go_wp2_with fail
    refine (KC.out _ hg1).mono ?_
    rintro e w2 ⟨rfl, hg2⟩
    have g2 := hg1.trans hg2
    go_wp2_with fail
    refine (KF.out _ g2).mono ?_
    rintro e w3 ⟨rfl, hg3⟩
    have g3 := g2.trans hg3
    have k0 := hkx _ g3
    simp only [kindOf] at k0
    go_wp2_with fail
    go_ret
    exact ⟨rfl, DF.of_grew HD.out g3⟩
  · have : dirB Ts .fls = false := by simp [dirB, HQ1.out]
    rw [this]
    clear HIH this
    go_enter Tryz.func36, Tryz.ntmps36
    go_wp2_with fail
    refine (KT.out _ (Grew.refl w)).mono ?_
    rintro e w1 ⟨rfl, hg1⟩
    go_wp2_with fail
    refine (KC.out _ hg1).mono ?_
    rintro e w2 ⟨rfl, hg2⟩
    have g2 := hg1.trans hg2
    go_wp2_with fail
    refine (KF.out _ g2).mono ?_
    rintro e w3 ⟨rfl, hg3⟩
    have g3 := g2.trans hg3
    have k0 := hkx _ g3
    simp only [kindOf] at k0
    go_wp2_with fail
    go_ret
    exact ⟨rfl, DF.of_grew HD.out g3⟩
  · rw [dirB_and HQ1.out HQ2.out]
    obtain ⟨hfx, hfy⟩ := fmOk_and HF.out
    have hnn := nn_and x y
    have KL := Lib.hid (fun W (hW : Grew w W) => first_t (two_and x y) HF.out _ W (HA.out.grew hW))
    have KR := Lib.hid (fun W (hW : DF w D M W) => second_t (two_and x y) HF.out _ W (nodes_df HA.out HD.out hW))
    have KX := Lib.hid (fun u W (hW : DF w D M W) (hu : Nodes W u (Fm.enc x)) => HIH.out x u W (by omega) hfx (by omega) hW.dec (HT.out.df HD.out hW) hu)
    have KY := Lib.hid (fun u W (hW : DF w D M W) (hu : Nodes W u (Fm.enc y)) => HIH.out y u W (by omega) hfy (by omega) hW.dec (HT.out.df HD.out hW) hu)
    clear HIH hnn hl hm
    generalize dirB Ts x = R at *
    generalize dirB Ts y = R2 at *
    cases R with
    | true =>
      go_enter Tryz.func36, Tryz.ntmps36
      go_wp2_with fail
      refine (KT.out _ (Grew.refl w)).mono ?_
      rintro e w1 ⟨rfl, hg1⟩
      go_wp2_with fail
      refine (KC.out _ hg1).mono ?_
      rintro e w2 ⟨rfl, hg2⟩
      have g2 := hg1.trans hg2
      go_wp2_with fail
      refine (KF.out _ g2).mono ?_
      rintro e w3 ⟨rfl, hg3⟩
      have g3 := g2.trans hg3
      have k0 := hkx _ g3
      simp only [kindOf] at k0
      go_wp2_with fail
      refine (KL.out _ g3).mono ?_
      rintro e w4 ⟨u, rfl, hu, hg4⟩
      have g4 := g3.trans hg4
      have HU := Lib.hid hu
      obtain ⟨A1, n1, c1, rfl⟩ := slice3 hu
      clear hu
      go_wp2_with fail
      refine (KX.out _ _ (DF.of_grew HD.out g4) HU.out).mono ?_
      rintro e w5 ⟨rfl, h5⟩
      have f5 := (DF.of_grew HD.out g4).trans h5
      go_wp2_with fail
      refine (KR.out _ f5).mono ?_
      rintro e w6 ⟨u2, rfl, hu2, hg6⟩
      have f6 := f5.grew hg6
      have HU2 := Lib.hid hu2
      obtain ⟨A2, n2, c2, rfl⟩ := slice3 hu2
      clear hu2
      go_wp2_with fail
      refine (KY.out _ _ f6 HU2.out).mono ?_
      rintro e w7 ⟨rfl, h7⟩
      go_wp2_with fail
      go_ret
      exact ⟨rfl, f6.trans h7⟩
    | false =>
      go_enter Tryz.func36, Tryz.ntmps36
      go_wp2_with fail
      refine (KT.out _ (Grew.refl w)).mono ?_
      rintro e w1 ⟨rfl, hg1⟩
      go_wp2_with fail
      refine (KC.out _ hg1).mono ?_
      rintro e w2 ⟨rfl, hg2⟩
      have g2 := hg1.trans hg2
      go_wp2_with fail
      refine (KF.out _ g2).mono ?_
      rintro e w3 ⟨rfl, hg3⟩
      have g3 := g2.trans hg3
      have k0 := hkx _ g3
      simp only [kindOf] at k0
      go_wp2_with fail
      refine (KL.out _ g3).mono ?_
      rintro e w4 ⟨u, rfl, hu, hg4⟩
      have g4 := g3.trans hg4
      have HU := Lib.hid hu
      obtain ⟨A1, n1, c1, rfl⟩ := slice3 hu
      clear hu
      go_wp2_with fail
      refine (KX.out _ _ (DF.of_grew HD.out g4) HU.out).mono ?_
      rintro e w5 ⟨rfl, h5⟩
      have f5 := (DF.of_grew HD.out g4).trans h5
      go_wp2_with fail
      go_ret
      exact ⟨rfl, f5⟩
  · rw [dirB_or HQ1.out HQ2.out]
    obtain ⟨hfx, hfy⟩ := fmOk_or HF.out
    have hnn := nn_or x y
    have KL := Lib.hid (fun W (hW : Grew w W) => first_t (two_or x y) HF.out _ W (HA.out.grew hW))
    have KR := Lib.hid (fun W (hW : DF w D M W) => second_t (two_or x y) HF.out _ W (nodes_df HA.out HD.out hW))
    have KX := Lib.hid (fun u W (hW : DF w D M W) (hu : Nodes W u (Fm.enc x)) => HIH.out x u W (by omega) hfx (by omega) hW.dec (HT.out.df HD.out hW) hu)
    have KY := Lib.hid (fun u W (hW : DF w D M W) (hu : Nodes W u (Fm.enc y)) => HIH.out y u W (by omega) hfy (by omega) hW.dec (HT.out.df HD.out hW) hu)
    clear HIH hnn hl hm
    generalize dirB Ts x = R at *
    generalize dirB Ts y = R2 at *
    cases R with
    | true =>
      go_enter Tryz.func36, Tryz.ntmps36
      go_wp2_with fail
      refine (KT.out _ (Grew.refl w)).mono ?_
      rintro e w1 ⟨rfl, hg1⟩
      go_wp2_with fail
      refine (KC.out _ hg1).mono ?_
      rintro e w2 ⟨rfl, hg2⟩
      have g2 := hg1.trans hg2
      go_wp2_with fail
      refine (KF.out _ g2).mono ?_
      rintro e w3 ⟨rfl, hg3⟩
      have g3 := g2.trans hg3
      have k0 := hkx _ g3
      simp only [kindOf] at k0
      go_wp2_with fail
      refine (KL.out _ g3).mono ?_
      rintro e w4 ⟨u, rfl, hu, hg4⟩
      have g4 := g3.trans hg4
      have HU := Lib.hid hu
      obtain ⟨A1, n1, c1, rfl⟩ := slice3 hu
      clear hu
      go_wp2_with fail
      refine (KX.out _ _ (DF.of_grew HD.out g4) HU.out).mono ?_
      rintro e w5 ⟨rfl, h5⟩
      have f5 := (DF.of_grew HD.out g4).trans h5
      go_wp2_with fail
      go_ret
      exact ⟨rfl, f5⟩
    | false =>
      go_enter Tryz.func36, Tryz.ntmps36
      go_wp2_with fail
      refine (KT.out _ (Grew.refl w)).mono ?_
      rintro e w1 ⟨rfl, hg1⟩
      go_wp2_with fail
      refine (KC.out _ hg1).mono ?_
      rintro e w2 ⟨rfl, hg2⟩
      have g2 := hg1.trans hg2
      go_wp2_with fail
      refine (KF.out _ g2).mono ?_
      rintro e w3 ⟨rfl, hg3⟩
      have g3 := g2.trans hg3
      have k0 := hkx _ g3
      simp only [kindOf] at k0
      go_wp2_with fail
      refine (KL.out _ g3).mono ?_
      rintro e w4 ⟨u, rfl, hu, hg4⟩
      have g4 := g3.trans hg4
      have HU := Lib.hid hu
      obtain ⟨A1, n1, c1, rfl⟩ := slice3 hu
      clear hu
      go_wp2_with fail
      refine (KX.out _ _ (DF.of_grew HD.out g4) HU.out).mono ?_
      rintro e w5 ⟨rfl, h5⟩
      have f5 := (DF.of_grew HD.out g4).trans h5
      go_wp2_with fail
      refine (KR.out _ f5).mono ?_
      rintro e w6 ⟨u2, rfl, hu2, hg6⟩
      have f6 := f5.grew hg6
      have HU2 := Lib.hid hu2
      obtain ⟨A2, n2, c2, rfl⟩ := slice3 hu2
      clear hu2
      go_wp2_with fail
      refine (KY.out _ _ f6 HU2.out).mono ?_
      rintro e w7 ⟨rfl, h7⟩
      go_wp2_with fail
      go_ret
      exact ⟨rfl, f6.trans h7⟩
  · rw [dirB_imp HQ1.out HQ2.out]
    obtain ⟨hfx, hfy⟩ := fmOk_imp HF.out
    have hS := okS_imp HL.out HF.out hl
    have hnn := nn_imp x y
    have KL := Lib.hid (fun W (hW : Grew w W) => first_t (two_imp x y) HF.out _ W (HA.out.grew hW))
    have KR := Lib.hid (fun W (hW : Grew w W) => second_t (two_imp x y) HF.out _ W (HA.out.grew hW))
    have KY := Lib.hid (fun u W (hW : DF w D M W) (hu : Nodes W u (Fm.enc y)) => HIH.out y u W (by omega) hfy (by omega) hW.dec (HT.out.df HD.out hW) hu)
    have KTx := Lib.hid (fun u W (hu : Nodes W u (Fm.enc x)) => text_t x u W hfx hu)
    have KTy := Lib.hid (fun u W (hu : Nodes W u (Fm.enc y)) => text_t y u W hfy hu)
    have KCx := Lib.hid (fun W (hW : Grew w W) => contains_t _ Ts x W (HT.out.grew hW) HL.out hfx (by omega))
    have KPut := Lib.hid (fun W (hW : Grew w W) => put_t _ _ Ts [x] (W.alloc (.cells #[.string (tx x)] 9)) ((HT.out.grew hW).grew ((Grew.refl W).alloc _)) TL.one HL.out (ok_one hfx) (by simp; omega))
    have KPr := Lib.hid (fun P u W (hP : PutOf (Ts ++ [x]) P) (hW : Dec W D M) (hu : TL W u P) => by
      have hm := putOf_ok' hS hP
      have := dprovable_c D M P y u W hm.1 hW hu
      rw [hm.2] at this
      exact this)
    unfold Decides at KPr
    clear HIH hnn hl hm hS
    generalize dirB Ts y = R at *
    generalize dc (EntL (Ts ++ [x]) y) = R2 at *
    generalize hasL Ts x = qx at *
    cases qx with
    | true =>
      go_enter Tryz.func36, Tryz.ntmps36
      go_wp2_with fail
      refine (KT.out _ (Grew.refl w)).mono ?_
      rintro e w1 ⟨rfl, hg1⟩
      go_wp2_with fail
      refine (KC.out _ hg1).mono ?_
      rintro e w2 ⟨rfl, hg2⟩
      have g2 := hg1.trans hg2
      go_wp2_with fail
      refine (KF.out _ g2).mono ?_
      rintro e w3 ⟨rfl, hg3⟩
      have g3 := g2.trans hg3
      have k0 := hkx _ g3
      simp only [kindOf] at k0
      go_wp2_with fail
      refine (KL.out _ g3).mono ?_
      rintro e w4 ⟨u, rfl, hu, hg4⟩
      have g4 := g3.trans hg4
      have HU := Lib.hid hu
      obtain ⟨A1, n1, c1, rfl⟩ := slice3 hu
      clear hu
      go_wp2_with fail
      refine (KTx.out _ _ HU.out).mono ?_
      rintro e w5 ⟨rfl, hg5⟩
      have g5 := g4.trans hg5
      go_wp2_with fail
      refine (KCx.out _ g5).mono ?_
      rintro e w6 ⟨rfl, hg6⟩
      have g6 := g5.trans hg6
      go_wp2_with fail
      refine (KR.out _ g6).mono ?_
      rintro e w7 ⟨u2, rfl, hu2, hg7⟩
      have g7 := g6.trans hg7
      have HU2 := Lib.hid hu2
      obtain ⟨A2, n2, c2, rfl⟩ := slice3 hu2
      clear hu2
      go_wp2_with fail
      refine (KY.out _ _ (DF.of_grew HD.out g7) HU2.out).mono ?_
      rintro e w8 ⟨rfl, h8⟩
      go_wp2_with fail
      go_ret
      exact ⟨rfl, (DF.of_grew HD.out g7).trans h8⟩
    | false =>
      go_enter Tryz.func36, Tryz.ntmps36
      go_wp2_with fail
      refine (KT.out _ (Grew.refl w)).mono ?_
      rintro e w1 ⟨rfl, hg1⟩
      go_wp2_with fail
      refine (KC.out _ hg1).mono ?_
      rintro e w2 ⟨rfl, hg2⟩
      have g2 := hg1.trans hg2
      go_wp2_with fail
      refine (KF.out _ g2).mono ?_
      rintro e w3 ⟨rfl, hg3⟩
      have g3 := g2.trans hg3
      have k0 := hkx _ g3
      simp only [kindOf] at k0
      go_wp2_with fail
      refine (KL.out _ g3).mono ?_
      rintro e w4 ⟨u, rfl, hu, hg4⟩
      have g4 := g3.trans hg4
      have HU := Lib.hid hu
      obtain ⟨A1, n1, c1, rfl⟩ := slice3 hu
      clear hu
      go_wp2_with fail
      refine (KTx.out _ _ HU.out).mono ?_
      rintro e w5 ⟨rfl, hg5⟩
      have g5 := g4.trans hg5
      go_wp2_with fail
      refine (KCx.out _ g5).mono ?_
      rintro e w6 ⟨rfl, hg6⟩
      have g6 := g5.trans hg6
      go_wp2_with fail
      refine (KL.out _ g6).mono ?_
      rintro e w7 ⟨u3, rfl, hu3, hg7⟩
      have g7 := g6.trans hg7
      have HU3 := Lib.hid hu3
      obtain ⟨A3, n3, c3, rfl⟩ := slice3 hu3
      clear hu3
      go_wp2_with fail
      refine (KTx.out _ _ HU3.out).mono ?_
      rintro e w8 ⟨rfl, hg8⟩
      have g8 := g7.trans hg8
      go_wp2_with fail
      refine (KPut.out _ g8).mono ?_
      rintro e w9 ⟨up, P, rfl, hP, hup, hg9⟩
      have g9 := (g8.alloc _).trans hg9
      have hTP : TL w9 up P := hup.strs
      have HUP := Lib.hid hTP
      obtain ⟨Ap, np, cp, rfl⟩ := hTP.slice
      clear hup hTP
      go_wp2_with fail
      refine (KR.out _ g9).mono ?_
      rintro e w10 ⟨u2, rfl, hu2, hg10⟩
      have g10 := g9.trans hg10
      have HU2 := Lib.hid hu2
      obtain ⟨A2, n2, c2, rfl⟩ := slice3 hu2
      clear hu2
      go_wp2_with fail
      refine (KTy.out _ _ HU2.out).mono ?_
      rintro e w11 ⟨rfl, hg11⟩
      have g11 := g10.trans hg11
      go_wp2_with fail
      refine (KPr.out P _ _ hP (HD.out.grew g11) (HUP.out.grew (hg10.trans hg11))).mono ?_
      rintro e w12 ⟨rfl, h12⟩
      go_wp2_with fail
      go_ret
      exact ⟨rfl, (DF.of_grew HD.out g11).trans h12⟩

/-! The reference's helpers by trees. -/
theorem says_t (v : Value) (L : List Tree) (a : Tree) (w : World) (h : TL w v L) (hL : ∀ b ∈ L, FmOk b) (ha : FmOk a) (hn : L.length ≤ 1099511627776) :
    Calls Tryz.prog 69 #[v, .string (tx a)] w fun e w' => e = .returned (.bool (hasL L a)) ∧ Grew w w' := by
  have h1 := l01Says_c v (L.map tx) (tx a) w h (by simpa using hn)
  rw [dc_congr (mem_tx hL ha)] at h1
  exact h1
theorem ltext_t (a : Tree) (v : Value) (w : World) (ha : FmOk a) (h : Nodes w v (Fm.enc a)) : Calls Tryz.prog 64 #[v] w fun e w' => e = .returned (.string (tx a)) ∧ Grew w w' :=
  (l02Text_c a v w h (by have := ha.1; omega)).mono fun _ _ h => h
theorem insB_put {L : List Tree} {x : Tree} {K : List ByteArray} (hL : ∀ b ∈ L, FmOk b) (hx : FmOk x) (h : InsB (L.map tx) (tx x) K) : ∃ P, K = P.map tx ∧ PutOf (L ++ [x]) P := by
  rcases h with ⟨rfl, hm⟩ | ⟨j, hj, rfl⟩
  · refine ⟨L, rfl, hL, fun a => ?_, fun f => by rw [tot_app]; omega⟩
    rw [List.mem_append, List.mem_singleton]
    exact ⟨.inl, fun h => h.elim id (fun e => e ▸ (mem_tx hL hx).1 hm)⟩
  · refine ⟨L.take j ++ [x] ++ L.drop j, by simp [List.map_take, List.map_drop], ?_, ?_, ?_⟩
    · intro a ha
      rw [List.mem_append, List.mem_append, List.mem_singleton] at ha
      rcases ha with (h | rfl) | h
      · exact hL a (List.mem_of_mem_take h)
      · exact hx
      · exact hL a (List.mem_of_mem_drop h)
    · intro a
      have e : a ∈ L ↔ a ∈ L.take j ∨ a ∈ L.drop j := by rw [← List.mem_append, List.take_append_drop]
      rw [List.mem_append, List.mem_append, List.mem_append, e]
      constructor
      · rintro ((h | h) | h)
        · exact .inl (.inl h)
        · exact .inr h
        · exact .inl (.inr h)
      · rintro ((h | h) | h)
        · exact .inl (.inl h)
        · exact .inr h
        · exact .inl (.inr h)
    · intro f
      have e : tot f (L.take j) + tot f (L.drop j) = tot f L := by rw [← tot_app, List.take_append_drop]
      rw [tot_app, tot_app, tot_app]
      omega
theorem lwith_t (v vt : Value) (L : List Tree) (x : Tree) (w : World) (h : TL w v L) (hk : TL w vt [x]) (hL : ∀ a ∈ L, FmOk a) (hx : FmOk x) (hn : L.length ≤ 1048576) :
    Calls Tryz.prog 72 #[v, vt] w fun e w' => ∃ u P, e = .returned u ∧ PutOf (L ++ [x]) P ∧ TL w' u P ∧ Grew w w' := by
  refine (l22With_c v vt (L.map tx) (tx x) w h hk (by simpa using hn)).mono ?_
  rintro e w' ⟨u, K, rfl, hu, hK, hg⟩
  obtain ⟨P, rfl, hP⟩ := insB_put hL hx hK
  exact ⟨u, P, rfl, hP, hu, hg⟩

set_option maxHeartbeats 4000000 in
theorem l23Direct_c (Ts : List Tree) (hL : ∀ t ∈ Ts, FmOk t) (v : Value) : ∀ (m : Nat) (a : Tree) (va : Value) (w : World), nn a < m → FmOk a → tot nn Ts + nn a ≤ 20 → TL w v Ts → Nodes w va (Fm.enc a) →
    Calls Tryz.prog 34 #[v, va] w fun e w' => e = .returned (.bool (dirB Ts a)) ∧ Grew w w' := by
  intro m
  induction m with
  | zero => intro a va w h; omega
  | succ m ih =>
  intro a va w hm hf hl h ha
  have hn : Ts.length ≤ 1048576 := by
    have := Nat.le_trans (len_nu Ts a) (okS_mk hL hf hl).2.2
    exact this
  have HIH := Lib.hid ih
  have HF := Lib.hid hf
  have HL := Lib.hid hL
  have hFt : tx .fls = ⟨#[70]⟩ := rfl
  have KC := Lib.hid (fun W (hW : Grew w W) => says_t v Ts a W (h.grew hW) hL hf (by omega))
  have KF := Lib.hid (fun W (hW : Grew w W) => says_t v Ts .fls W (h.grew hW) hL fls_ok (by omega))
  rw [hFt] at KF
  have KT := Lib.hid (fun W (hW : Grew w W) => ltext_t a va W hf (ha.grew hW))
  have HT := Lib.hid h
  have HA := Lib.hid ha
  obtain ⟨Av, nv, cv, rfl⟩ := h.slice
  obtain ⟨bx, ox, nx, cx, rfl, hnx, hnxe, hkx⟩ := head_t ha
  have hnnx : (0 : Int) < (nx : Int) := by omega
  clear ih hf h ha hnxe hFt
  obtain ⟨q1, hq1⟩ : ∃ q, hasL Ts a = q := ⟨_, rfl⟩
  obtain ⟨q2, hq2⟩ : ∃ q, hasL Ts .fls = q := ⟨_, rfl⟩
  rw [hq1] at KC
  rw [hq2] at KF
  have HQ1 := Lib.hid hq1
  have HQ2 := Lib.hid hq2
  clear hq1 hq2
  cases q1 with
  | true =>
    rw [dirB_has HQ1.out]
    clear hkx HIH
    go_enter Tryz.func34, Tryz.ntmps34
    go_wp2_with fail
    refine (KT.out _ (Grew.refl w)).mono ?_
    rintro e w1 ⟨rfl, hg1⟩
    go_wp2_with fail
    refine (KC.out _ hg1).mono ?_
    rintro e w2 ⟨rfl, hg2⟩
    have g2 := hg1.trans hg2
    go_wp2_with fail
    go_ret
    exact ⟨rfl, g2⟩
  | false =>
  cases q2 with
  | true =>
    rw [dirB_fls HQ2.out]
    clear hkx HIH
    go_enter Tryz.func34, Tryz.ntmps34
    go_wp2_with fail
    refine (KT.out _ (Grew.refl w)).mono ?_
    rintro e w1 ⟨rfl, hg1⟩
    go_wp2_with fail
    refine (KC.out _ hg1).mono ?_
    rintro e w2 ⟨rfl, hg2⟩
    have g2 := hg1.trans hg2
    go_wp2_with fail
    refine (KF.out _ g2).mono ?_
    rintro e w3 ⟨rfl, hg3⟩
    have g3 := g2.trans hg3
    go_wp2_with fail
    go_ret
    exact ⟨rfl, g3⟩
  | false =>
  rcases fm_five HF.out with ⟨x, rfl⟩ | rfl | ⟨x, y, rfl⟩ | ⟨x, y, rfl⟩ | ⟨x, y, rfl⟩
  · rw [dirB_var HQ1.out HQ2.out]
    clear HIH
    go_enter Tryz.func34, Tryz.ntmps34
    go_wp2_with fail
    refine (KT.out _ (Grew.refl w)).mono ?_
    rintro e w1 ⟨rfl, hg1⟩
    go_wp2_with fail
    refine (KC.out _ hg1).mono ?_
    rintro e w2 ⟨rfl, hg2⟩
    have g2 := hg1.trans hg2
    go_wp2_with fail
    refine (KF.out _ g2).mono ?_
    rintro e w3 ⟨rfl, hg3⟩
    have g3 := g2.trans hg3
    have k0 := hkx _ g3
    simp only [kindOf] at k0
    go_wp2_with fail
    go_ret
    exact ⟨rfl, g3⟩
  · have : dirB Ts .fls = false := by simp [dirB, HQ1.out]
    rw [this]
    clear HIH this
    go_enter Tryz.func34, Tryz.ntmps34
    go_wp2_with fail
    refine (KT.out _ (Grew.refl w)).mono ?_
    rintro e w1 ⟨rfl, hg1⟩
    go_wp2_with fail
    refine (KC.out _ hg1).mono ?_
    rintro e w2 ⟨rfl, hg2⟩
    have g2 := hg1.trans hg2
    go_wp2_with fail
    refine (KF.out _ g2).mono ?_
    rintro e w3 ⟨rfl, hg3⟩
    have g3 := g2.trans hg3
    have k0 := hkx _ g3
    simp only [kindOf] at k0
    go_wp2_with fail
    go_ret
    exact ⟨rfl, g3⟩
  · rw [dirB_and HQ1.out HQ2.out]
    obtain ⟨hfx, hfy⟩ := fmOk_and HF.out
    have hnn := nn_and x y
    have KL := Lib.hid (fun W (hW : Grew w W) => left_t (two_and x y) HF.out _ W (HA.out.grew hW))
    have KR := Lib.hid (fun W (hW : Grew w W) => right_t (two_and x y) HF.out _ W (HA.out.grew hW))
    have KX := Lib.hid (fun u W (hW : Grew w W) (hu : Nodes W u (Fm.enc x)) => HIH.out x u W (by omega) hfx (by omega) (HT.out.grew hW) hu)
    have KY := Lib.hid (fun u W (hW : Grew w W) (hu : Nodes W u (Fm.enc y)) => HIH.out y u W (by omega) hfy (by omega) (HT.out.grew hW) hu)
    unfold Cuts at KL KR
    clear HIH hnn hl hm
    generalize dirB Ts x = R at *
    generalize dirB Ts y = R2 at *
    cases R with
    | true =>
      go_enter Tryz.func34, Tryz.ntmps34
      go_wp2_with fail
      refine (KT.out _ (Grew.refl w)).mono ?_
      rintro e w1 ⟨rfl, hg1⟩
      go_wp2_with fail
      refine (KC.out _ hg1).mono ?_
      rintro e w2 ⟨rfl, hg2⟩
      have g2 := hg1.trans hg2
      go_wp2_with fail
      refine (KF.out _ g2).mono ?_
      rintro e w3 ⟨rfl, hg3⟩
      have g3 := g2.trans hg3
      have k0 := hkx _ g3
      simp only [kindOf] at k0
      go_wp2_with fail
      refine (KL.out _ g3).mono ?_
      rintro e w4 ⟨u, rfl, hu, hg4⟩
      have g4 := g3.trans hg4
      have HU := Lib.hid hu
      obtain ⟨A1, n1, c1, rfl⟩ := slice3 hu
      clear hu
      go_wp2_with fail
      refine (KX.out _ _ g4 HU.out).mono ?_
      rintro e w5 ⟨rfl, h5⟩
      have f5 := g4.trans h5
      go_wp2_with fail
      refine (KR.out _ f5).mono ?_
      rintro e w6 ⟨u2, rfl, hu2, hg6⟩
      have f6 := f5.trans hg6
      have HU2 := Lib.hid hu2
      obtain ⟨A2, n2, c2, rfl⟩ := slice3 hu2
      clear hu2
      go_wp2_with fail
      refine (KY.out _ _ f6 HU2.out).mono ?_
      rintro e w7 ⟨rfl, h7⟩
      go_wp2_with fail
      go_ret
      exact ⟨rfl, f6.trans h7⟩
    | false =>
      go_enter Tryz.func34, Tryz.ntmps34
      go_wp2_with fail
      refine (KT.out _ (Grew.refl w)).mono ?_
      rintro e w1 ⟨rfl, hg1⟩
      go_wp2_with fail
      refine (KC.out _ hg1).mono ?_
      rintro e w2 ⟨rfl, hg2⟩
      have g2 := hg1.trans hg2
      go_wp2_with fail
      refine (KF.out _ g2).mono ?_
      rintro e w3 ⟨rfl, hg3⟩
      have g3 := g2.trans hg3
      have k0 := hkx _ g3
      simp only [kindOf] at k0
      go_wp2_with fail
      refine (KL.out _ g3).mono ?_
      rintro e w4 ⟨u, rfl, hu, hg4⟩
      have g4 := g3.trans hg4
      have HU := Lib.hid hu
      obtain ⟨A1, n1, c1, rfl⟩ := slice3 hu
      clear hu
      go_wp2_with fail
      refine (KX.out _ _ g4 HU.out).mono ?_
      rintro e w5 ⟨rfl, h5⟩
      have f5 := g4.trans h5
      go_wp2_with fail
      go_ret
      exact ⟨rfl, f5⟩
  · rw [dirB_or HQ1.out HQ2.out]
    obtain ⟨hfx, hfy⟩ := fmOk_or HF.out
    have hnn := nn_or x y
    have KL := Lib.hid (fun W (hW : Grew w W) => left_t (two_or x y) HF.out _ W (HA.out.grew hW))
    have KR := Lib.hid (fun W (hW : Grew w W) => right_t (two_or x y) HF.out _ W (HA.out.grew hW))
    have KX := Lib.hid (fun u W (hW : Grew w W) (hu : Nodes W u (Fm.enc x)) => HIH.out x u W (by omega) hfx (by omega) (HT.out.grew hW) hu)
    have KY := Lib.hid (fun u W (hW : Grew w W) (hu : Nodes W u (Fm.enc y)) => HIH.out y u W (by omega) hfy (by omega) (HT.out.grew hW) hu)
    unfold Cuts at KL KR
    clear HIH hnn hl hm
    generalize dirB Ts x = R at *
    generalize dirB Ts y = R2 at *
    cases R with
    | true =>
      go_enter Tryz.func34, Tryz.ntmps34
      go_wp2_with fail
      refine (KT.out _ (Grew.refl w)).mono ?_
      rintro e w1 ⟨rfl, hg1⟩
      go_wp2_with fail
      refine (KC.out _ hg1).mono ?_
      rintro e w2 ⟨rfl, hg2⟩
      have g2 := hg1.trans hg2
      go_wp2_with fail
      refine (KF.out _ g2).mono ?_
      rintro e w3 ⟨rfl, hg3⟩
      have g3 := g2.trans hg3
      have k0 := hkx _ g3
      simp only [kindOf] at k0
      go_wp2_with fail
      refine (KL.out _ g3).mono ?_
      rintro e w4 ⟨u, rfl, hu, hg4⟩
      have g4 := g3.trans hg4
      have HU := Lib.hid hu
      obtain ⟨A1, n1, c1, rfl⟩ := slice3 hu
      clear hu
      go_wp2_with fail
      refine (KX.out _ _ g4 HU.out).mono ?_
      rintro e w5 ⟨rfl, h5⟩
      have f5 := g4.trans h5
      go_wp2_with fail
      go_ret
      exact ⟨rfl, f5⟩
    | false =>
      go_enter Tryz.func34, Tryz.ntmps34
      go_wp2_with fail
      refine (KT.out _ (Grew.refl w)).mono ?_
      rintro e w1 ⟨rfl, hg1⟩
      go_wp2_with fail
      refine (KC.out _ hg1).mono ?_
      rintro e w2 ⟨rfl, hg2⟩
      have g2 := hg1.trans hg2
      go_wp2_with fail
      refine (KF.out _ g2).mono ?_
      rintro e w3 ⟨rfl, hg3⟩
      have g3 := g2.trans hg3
      have k0 := hkx _ g3
      simp only [kindOf] at k0
      go_wp2_with fail
      refine (KL.out _ g3).mono ?_
      rintro e w4 ⟨u, rfl, hu, hg4⟩
      have g4 := g3.trans hg4
      have HU := Lib.hid hu
      obtain ⟨A1, n1, c1, rfl⟩ := slice3 hu
      clear hu
      go_wp2_with fail
      refine (KX.out _ _ g4 HU.out).mono ?_
      rintro e w5 ⟨rfl, h5⟩
      have f5 := g4.trans h5
      go_wp2_with fail
      refine (KR.out _ f5).mono ?_
      rintro e w6 ⟨u2, rfl, hu2, hg6⟩
      have f6 := f5.trans hg6
      have HU2 := Lib.hid hu2
      obtain ⟨A2, n2, c2, rfl⟩ := slice3 hu2
      clear hu2
      go_wp2_with fail
      refine (KY.out _ _ f6 HU2.out).mono ?_
      rintro e w7 ⟨rfl, h7⟩
      go_wp2_with fail
      go_ret
      exact ⟨rfl, f6.trans h7⟩
  · rw [dirB_imp HQ1.out HQ2.out]
    obtain ⟨hfx, hfy⟩ := fmOk_imp HF.out
    have hS := okS_imp HL.out HF.out hl
    have hnn := nn_imp x y
    have KL := Lib.hid (fun W (hW : Grew w W) => left_t (two_imp x y) HF.out _ W (HA.out.grew hW))
    have KR := Lib.hid (fun W (hW : Grew w W) => right_t (two_imp x y) HF.out _ W (HA.out.grew hW))
    have KY := Lib.hid (fun u W (hW : Grew w W) (hu : Nodes W u (Fm.enc y)) => HIH.out y u W (by omega) hfy (by omega) (HT.out.grew hW) hu)
    have KTx := Lib.hid (fun u W (hu : Nodes W u (Fm.enc x)) => ltext_t x u W hfx hu)
    have KTy := Lib.hid (fun u W (hu : Nodes W u (Fm.enc y)) => ltext_t y u W hfy hu)
    have KCx := Lib.hid (fun W (hW : Grew w W) => says_t _ Ts x W (HT.out.grew hW) HL.out hfx (by omega))
    have KPut := Lib.hid (fun W (hW : Grew w W) => lwith_t _ _ Ts x (W.alloc (.cells #[.string (tx x)] 9)) ((HT.out.grew hW).grew ((Grew.refl W).alloc _)) TL.one HL.out hfx (by omega))
    have KPr := Lib.hid (fun P u W (hP : PutOf (Ts ++ [x]) P) (hu : TL W u P) => by
      have hm := putOf_ok' hS hP
      have := l23Ok_c u P y W hm.1 hu
      rw [hm.2] at this
      exact this)
    unfold Cuts at KL KR
    clear HIH hnn hl hm hS
    generalize dirB Ts y = R at *
    generalize dc (EntL (Ts ++ [x]) y) = R2 at *
    generalize hasL Ts x = qx at *
    cases qx with
    | true =>
      go_enter Tryz.func34, Tryz.ntmps34
      go_wp2_with fail
      refine (KT.out _ (Grew.refl w)).mono ?_
      rintro e w1 ⟨rfl, hg1⟩
      go_wp2_with fail
      refine (KC.out _ hg1).mono ?_
      rintro e w2 ⟨rfl, hg2⟩
      have g2 := hg1.trans hg2
      go_wp2_with fail
      refine (KF.out _ g2).mono ?_
      rintro e w3 ⟨rfl, hg3⟩
      have g3 := g2.trans hg3
      have k0 := hkx _ g3
      simp only [kindOf] at k0
      go_wp2_with fail
      refine (KL.out _ g3).mono ?_
      rintro e w4 ⟨u, rfl, hu, hg4⟩
      have g4 := g3.trans hg4
      have HU := Lib.hid hu
      obtain ⟨A1, n1, c1, rfl⟩ := slice3 hu
      clear hu
      go_wp2_with fail
      refine (KTx.out _ _ HU.out).mono ?_
      rintro e w5 ⟨rfl, hg5⟩
      have g5 := g4.trans hg5
      go_wp2_with fail
      refine (KCx.out _ g5).mono ?_
      rintro e w6 ⟨rfl, hg6⟩
      have g6 := g5.trans hg6
      go_wp2_with fail
      refine (KR.out _ g6).mono ?_
      rintro e w7 ⟨u2, rfl, hu2, hg7⟩
      have g7 := g6.trans hg7
      have HU2 := Lib.hid hu2
      obtain ⟨A2, n2, c2, rfl⟩ := slice3 hu2
      clear hu2
      go_wp2_with fail
      refine (KY.out _ _ g7 HU2.out).mono ?_
      rintro e w8 ⟨rfl, h8⟩
      go_wp2_with fail
      go_ret
      exact ⟨rfl, g7.trans h8⟩
    | false =>
      go_enter Tryz.func34, Tryz.ntmps34
      go_wp2_with fail
      refine (KT.out _ (Grew.refl w)).mono ?_
      rintro e w1 ⟨rfl, hg1⟩
      go_wp2_with fail
      refine (KC.out _ hg1).mono ?_
      rintro e w2 ⟨rfl, hg2⟩
      have g2 := hg1.trans hg2
      go_wp2_with fail
      refine (KF.out _ g2).mono ?_
      rintro e w3 ⟨rfl, hg3⟩
      have g3 := g2.trans hg3
      have k0 := hkx _ g3
      simp only [kindOf] at k0
      go_wp2_with fail
      refine (KL.out _ g3).mono ?_
      rintro e w4 ⟨u, rfl, hu, hg4⟩
      have g4 := g3.trans hg4
      have HU := Lib.hid hu
      obtain ⟨A1, n1, c1, rfl⟩ := slice3 hu
      clear hu
      go_wp2_with fail
      refine (KTx.out _ _ HU.out).mono ?_
      rintro e w5 ⟨rfl, hg5⟩
      have g5 := g4.trans hg5
      go_wp2_with fail
      refine (KCx.out _ g5).mono ?_
      rintro e w6 ⟨rfl, hg6⟩
      have g6 := g5.trans hg6
      go_wp2_with fail
      refine (KPut.out _ g6).mono ?_
      rintro e w9 ⟨up, P, rfl, hP, hup, hg9⟩
      have g9 := (g6.alloc _).trans hg9
      have hTP : TL w9 up P := hup
      have HUP := Lib.hid hTP
      obtain ⟨Ap, np, cp, rfl⟩ := hTP.slice
      clear hup hTP
      go_wp2_with fail
      refine (KR.out _ g9).mono ?_
      rintro e w10 ⟨u2, rfl, hu2, hg10⟩
      have g10 := g9.trans hg10
      have HU2 := Lib.hid hu2
      obtain ⟨A2, n2, c2, rfl⟩ := slice3 hu2
      clear hu2
      go_wp2_with fail
      refine (KTy.out _ _ HU2.out).mono ?_
      rintro e w11 ⟨rfl, hg11⟩
      have g11 := g10.trans hg11
      go_wp2_with fail
      refine (KPr.out P _ _ hP (HUP.out.grew (hg10.trans hg11))).mono ?_
      rintro e w12 ⟨rfl, h12⟩
      go_wp2_with fail
      go_ret
      exact ⟨rfl, g11.trans h12⟩
end Go.Proofs.YtmdbhcoioimlmaaGreat

/- IsDirect of both sides. -/
namespace Go.Proofs.YtmdbhcoioimlmaaGreat
open Go.RowKit
open Fm (Nd Tree)

noncomputable def idF (L : List ByteArray) (s : ByteArray) : Bool × Int := if qcode L s = 0 then (dirB (L.map fo) (fo s), 0) else (false, qcode L s)
theorem idF_bad {L : List ByteArray} {s : ByteArray} (h : qcode L s ≠ 0) : idF L s = (false, qcode L s) := by unfold idF; rw [if_neg h]
theorem idF_ok {L : List ByteArray} {s : ByteArray} {Ts : List Tree} {c : Tree} (h : qcode L s = 0) (hq : QOk L s Ts c) : idF L s = (dirB Ts c, 0) := by
  unfold idF
  rw [if_pos h, hq.left, hq.right, map_fo_tx hq.ok, fo_tx hq.okc]
set_option maxHeartbeats 2000000 in
theorem implId_c (v : Value) (L : List ByteArray) (s : ByteArray) (w : World) (h : Strs w v L) (hs : Fits L) (hn : L.length ≤ 1048576) (hsz : s.size ≤ 1048576) :
    Calls Tryz.prog 16 #[v, .string s] w (GivesBI w (idF L s)) := by
  unfold GivesBI
  have K1 := Lib.hid (goalCode_c v L s w h hs hn hsz)
  by_cases hz : qcode L s = 0
  · obtain ⟨Ts, c, hq⟩ := qOk_of hz
    rw [idF_ok hz hq]
    rw [hz] at K1
    have hT : TL w v Ts := by have := hq.left; subst this; exact h
    have hpf : (Fm.pf s).1 = Fm.enc c := by rw [hq.right, tx_pf hq.okc.1]
    have KN := Lib.hid newDecider_c
    have KP := Lib.hid (fun W => parsed_c s W (by omega))
    have KD := Lib.hid (fun D M va W (hW : Grew w W) (hD : Dec W D M) (ha : Nodes W va (Fm.enc c)) => isDirect_c D M Ts hq.ok v (nn c + 1) c va W (by omega) hq.okc hq.size hD (hT.grew hW) ha)
    unfold Decides at KD
    unfold GivesN at KP
    rw [hpf] at KP
    obtain ⟨A, k, rfl⟩ := strs_slice h
    clear h hs hz hq hT hpf
    generalize dirB Ts c = R at *
    go_enter Tryz.func16, Tryz.ntmps16
    go_wp2_with fail
    refine (K1.out).mono ?_
    rintro e w1 ⟨rfl, hg1⟩
    go_wp2_with fail
    refine (KN.out _).mono ?_
    rintro e w2 ⟨D, M, rfl, hD, hM, hg2⟩
    have HD := Lib.hid hD
    have HM := Lib.hid hM
    clear hD hM
    go_wp2_with fail
    refine (KP.out _).mono ?_
    rintro e w3 ⟨va, rfl, hva, hg3, _⟩
    have HVA := Lib.hid hva.nodes
    obtain ⟨A3, n3, c3, rfl⟩ := slice3 hva.nodes
    clear hva
    have g3 := (hg1.trans hg2).trans hg3
    go_wp2_with fail
    refine (KD.out D M _ _ g3 (HD.out.grew hg3) HVA.out).mono ?_
    rintro e w4 ⟨rfl, h4⟩
    go_wp2_with fail
    go_ret2
    exact ⟨rfl, h4.only.grew_of g3 (Nat.le_trans hg1.size HM.out)⟩
  · rw [idF_bad hz]
    obtain ⟨A, k, rfl⟩ := strs_slice h
    clear h hs
    generalize qcode L s = q at *
    have hk : (q != 0) = true := by simpa using hz
    go_enter Tryz.func16, Tryz.ntmps16
    go_wp2_with fail
    refine (K1.out).mono ?_
    rintro e w1 ⟨rfl, hg1⟩
    go_wp2_with fail
    go_ret2
    exact ⟨rfl, hg1⟩
set_option maxHeartbeats 2000000 in
theorem specId_c (v : Value) (L : List ByteArray) (s : ByteArray) (w : World) (h : Strs w v L) (hs : Fits L) (hn : L.length ≤ 1048576) (hsz : s.size ≤ 1048576) :
    Calls Tryz.prog 15 #[v, .string s] w (GivesBI w (idF L s)) := by
  unfold GivesBI
  have K1 := Lib.hid (l23Code_c v L s w h hs hn hsz)
  by_cases hz : qcode L s = 0
  · obtain ⟨Ts, c, hq⟩ := qOk_of hz
    rw [idF_ok hz hq]
    rw [hz] at K1
    have hT : TL w v Ts := by have := hq.left; subst this; exact h
    have hpf : (Fm.pf s).1 = Fm.enc c := by rw [hq.right, tx_pf hq.okc.1]
    have KP := Lib.hid (fun W => l22Formula_c s W (by omega))
    have KD := Lib.hid (fun va W (hW : Grew w W) (ha : Nodes W va (Fm.enc c)) => l23Direct_c Ts hq.ok v (nn c + 1) c va W (by omega) hq.okc hq.size (hT.grew hW) ha)
    unfold GivesP at KP
    rw [hpf] at KP
    obtain ⟨A, k, rfl⟩ := strs_slice h
    clear h hs hz hq hT hpf
    generalize dirB Ts c = R at *
    generalize gp s = g at *
    go_enter Tryz.func15, Tryz.ntmps15
    go_wp2_with fail
    refine (K1.out).mono ?_
    rintro e w1 ⟨rfl, hg1⟩
    go_wp2_with fail
    refine (KP.out _).mono ?_
    rintro e w3 ⟨va, rfl, hva, hg3⟩
    have HVA := Lib.hid hva.nodes
    obtain ⟨A3, n3, c3, rfl⟩ := slice3 hva.nodes
    clear hva
    have g3 := hg1.trans hg3
    go_wp2_with fail
    refine (KD.out _ _ g3 HVA.out).mono ?_
    rintro e w4 ⟨rfl, h4⟩
    go_wp2_with fail
    go_ret2
    exact ⟨rfl, g3.trans h4⟩
  · rw [idF_bad hz]
    obtain ⟨A, k, rfl⟩ := strs_slice h
    clear h hs
    generalize qcode L s = q at *
    have hk : (q != 0) = true := by simpa using hz
    go_enter Tryz.func15, Tryz.ntmps15
    go_wp2_with fail
    refine (K1.out).mono ?_
    rintro e w1 ⟨rfl, hg1⟩
    go_wp2_with fail
    go_ret2
    exact ⟨rfl, hg1⟩
end Go.Proofs.YtmdbhcoioimlmaaGreat

/- The laws of disjunctions and of least left sides, plain. No program is in sight. -/
namespace Go.Proofs.YtmdbhcoioimlmaaGreat
open Go.RowKit
open Fm (Nd Tree)

theorem szL_tx {c : Tree} (h : FmOk c) : szL [tx c] = nn c := by
  have := szL_map (Ts := [c]) (ok_one h)
  rw [tot_one] at this
  exact this
theorem qcode_ok {Ts : List Tree} {c : Tree} (ha : ascP (Ts.map tx) = true) (hl : Ts.length ≤ 12) (hL : ∀ a ∈ Ts, FmOk a) (hc : FmOk c) (hs : tot nn Ts + nn c ≤ 20) : qcode (Ts.map tx) (tx c) = 0 := by
  unfold qcode isQ
  rw [gp_tx hc, ha, decide_eq_true (by simpa using hl), if_pos (by rfl : (true && (true && true)) = true), szL_map hL, szL_tx hc, if_pos hs]
theorem qcode_len {L : List ByteArray} {s : ByteArray} (h : qcode L s = 0) : L.length ≤ 12 := by
  unfold qcode at h
  split at h
  · rename_i h1
    unfold isQ at h1
    simp only [Bool.and_eq_true, decide_eq_true_eq] at h1
    exact h1.2.2
  · cases h
theorem pvF_ok' {Ts : List Tree} {c : Tree} (h : qcode (Ts.map tx) (tx c) = 0) (hL : ∀ a ∈ Ts, FmOk a) (hc : FmOk c) : pvF (Ts.map tx) (tx c) = (dc (EntL Ts c), 0) := by
  unfold pvF
  rw [if_pos h, map_fo_tx hL, fo_tx hc]

/-! Disjunctions. -/
theorem el_disj {x y : Tree} (h : EntL [] (.or x y)) : EntL [] x ∨ EntL [] y := by
  rcases el_ways (L := []) (fun a ha => by cases ha) (by simp) (.inr (.inr ⟨x, y, rfl⟩)) h with ⟨x', y', e, h1⟩ | ⟨x', y', z, h1, _⟩
  · cases e; exact h1
  · cases h1
theorem orI_none {x y : Tree} : orI (dc (EntL [] x)) (dc (EntL [] y)) (dc (EntL [] (.or x y))) ≠ 0 := by
  unfold orI
  split
  · decide
  · rename_i h1
    split
    · decide
    · rename_i h2
      split
      · rename_i h3
        rcases el_disj (of_dc h3) with h4 | h4
        · exact absurd (dc_true h4) h1
        · exact absurd (dc_true h4) h2
      · decide
/-- What the law of disjunctions asks. -/
structure Dj (L : List ByteArray) (a b : ByteArray) (n : Int) (R1 R2 : Bool) (m : Int) : Prop where
  pd : pdF L a b = (n, 0)
  p1 : pvF L a = (R1, 0)
  p2 : pvF L b = (R2, 0)
  pe : pdF [] a b = (m, 0)
  ne : m ≠ 0
  way : (R1 = true ∧ n = 1) ∨ (R1 = false ∧ R2 = true ∧ n = 2) ∨ (R1 = false ∧ R2 = false ∧ (n == 1) = false ∧ (n == 2) = false)
theorem dj_cases (L : List ByteArray) (a b : ByteArray) : (∃ c : Int, pdF L a b = (0, c) ∧ (c != 0) = true) ∨ ∃ n R1 R2 m, Dj L a b n R1 R2 m := by
  cases h : (isQ L a && gp b) with
  | false => exact .inl ⟨1, pdF_no h, by decide⟩
  | true =>
    by_cases h2 : szL L + (1 + (Fm.pf a).1.length + (Fm.pf b).1.length) ≤ 20
    · refine .inr ?_
      have h1 := h
      rw [Bool.and_eq_true] at h1
      have hq := h1.1
      obtain ⟨Ts, ta, rfl, rfl, hok, hta⟩ := isQ_of h1.1
      obtain ⟨tb, htb, rfl⟩ := gp_tree h1.2
      unfold isQ at hq
      simp only [Bool.and_eq_true, decide_eq_true_eq] at hq
      have e1 : (Fm.pf (tx ta)).1.length = nn ta := by rw [tx_pf hta.1]; rfl
      have e2 : (Fm.pf (tx tb)).1.length = nn tb := by rw [tx_pf htb.1]; rfl
      have hsz := h2
      rw [e1, e2, szL_map hok] at hsz
      have hl12 : Ts.length ≤ 12 := by simpa using hq.2.2
      have q1 := qcode_ok hq.2.1 hl12 hok hta (by omega)
      have q2 := qcode_ok hq.2.1 hl12 hok htb (by omega)
      have h0 : (isQ ([].map tx) (tx ta) && gp (tx tb)) = true := by
        have e0 : ascP (([] : List Tree).map tx) = true := ascP_true (AscP.zero _)
        unfold isQ
        rw [gp_tx hta, gp_tx htb, e0]
        rfl
      have hz0 : szL (([] : List Tree).map tx) + (1 + (Fm.pf (tx ta)).1.length + (Fm.pf (tx tb)).1.length) ≤ 20 := by
        rw [e1, e2, szL_map (Ts := []) (fun a ha => by cases ha), tot_nil]; omega
      refine ⟨_, _, _, _, pdF_ok hok hta htb h h2, pvF_ok' q1 hok hta, pvF_ok' q2 hok htb, pdF_ok (Ts := []) (fun a ha => by cases ha) hta htb h0 hz0, orI_none, ?_⟩
      cases r1 : dc (EntL Ts ta) with
      | true => exact .inl ⟨rfl, by simp [orI]⟩
      | false =>
        cases r2 : dc (EntL Ts tb) with
        | true => exact .inr (.inl ⟨rfl, rfl, by simp [orI]⟩)
        | false => exact .inr (.inr ⟨rfl, rfl, by cases dc (EntL Ts (.or ta tb)) <;> decide, by cases dc (EntL Ts (.or ta tb)) <;> decide⟩)
    · exact .inl ⟨3, pdF_big h h2, by decide⟩

/-! Least left sides. -/
theorem ascP_pair {L : List ByteArray} (h : ascP L = true) : (∀ s ∈ L, gp s = true) ∧ L.Pairwise (fun x y => Op.bytesLess x.toList y.toList = true) := by
  have h3 : AscP L L.length := by
    unfold ascP at h
    exact @of_decide_eq_true _ (Classical.propDecidable _) h
  refine ⟨fun s hs => ?_, ?_⟩
  · obtain ⟨i, hi, rfl⟩ := List.getElem_of_mem hs
    rw [st_eq hi]
    exact (h3 i hi).1
  · rw [List.pairwise_iff_getElem]
    intro i j hi hj hij
    rw [st_eq hi, st_eq hj]
    have := ascP_lt h3 (j - i - 1) i (by omega)
    rwa [show i + (j - i - 1) + 1 = j by omega] at this
theorem ascP_of {L : List ByteArray} (h1 : ∀ s ∈ L, gp s = true) (h2 : L.Pairwise (fun x y => Op.bytesLess x.toList y.toList = true)) : ascP L = true := by
  refine ascP_true fun i hi => ⟨h1 _ (st_mem hi), fun hp => ?_⟩
  rw [List.pairwise_iff_getElem] at h2
  have := h2 (i - 1) i (by omega) hi (by omega)
  rwa [st_eq, st_eq] at this
theorem ascP_sub {L K : List ByteArray} (h : ascP L = true) (hs : K.Sublist L) : ascP K = true := by
  obtain ⟨h1, h2⟩ := ascP_pair h
  exact ascP_of (fun s hm => h1 s (hs.subset hm)) (h2.sublist hs)
/-- A part of a left side. -/
theorem part_pv {L : List ByteArray} {s : ByteArray} {Ts Ks : List Tree} {c : Tree} (hq : QOk L s Ts c) (hl : L.length ≤ 12) (hs : Ks.Sublist Ts) : pvF (Ks.map tx) s = (dc (EntL Ks c), 0) := by
  have hok : ∀ a ∈ Ks, FmOk a := fun a ha => hq.ok a (hs.subset ha)
  have ha := hq.asc
  have hz := hq.size
  have hle := hs.length_le
  have ht := tot_sub (f := nn) hs
  rw [hq.left] at ha hl
  rw [List.length_map] at hl
  rw [hq.right]
  exact pvF_ok' (qcode_ok (ascP_sub ha (hs.map tx)) (by omega) hok hq.okc (by omega)) hok hq.okc
/-- What the law of least left sides asks where there is one. -/
structure Ms (L : List ByteArray) (s : ByteArray) (M : List ByteArray) (D : Bool) : Prop where
  ml : mlF L s = (M, 0)
  pl : pvF L s = (true, 0)
  pm : pvF M s = (true, 0)
  pr : ∀ i, i < M.length → pvF (M.eraseIdx i) s = (false, 0)
  id : idF L s = (D, 0)
  co : coF L [s] = ([s], 0)
  len : M.length ≤ 12
  fit : Fits M
theorem fits_tx {Ks : List Tree} (h : ∀ a ∈ Ks, FmOk a) : Fits (Ks.map tx) := fun i hi => by
  have hi2 : i < Ks.length := by simpa using hi
  have e : st (Ks.map tx) i = tx Ks[i] := by simp [st, List.getD, hi2]
  rw [e]
  have := tx_size (h _ (List.getElem_mem hi2)).1
  omega
theorem ms_cases (L : List ByteArray) (s : ByteArray) : (∃ q : Int, mlF L s = ([], q) ∧ (q != 0) = true ∧ ((q != 4) = true ∨ (q = 4 ∧ pvF L s = (false, 0)))) ∨ ∃ M D, Ms L s M D := by
  by_cases hz : qcode L s = 0
  · obtain ⟨Ts, c, hq⟩ := qOk_of hz
    have hl := qcode_len hz
    cases he : dc (EntL Ts c) with
    | false => exact .inl ⟨4, mlF_no hz hq he, by decide, .inr ⟨rfl, by rw [pvF_ok hz hq, he]⟩⟩
    | true =>
      refine .inr ⟨(mn c [] Ts).map tx, dirB Ts c, mlF_yes hz hq he, by rw [pvF_ok hz hq, he], ?_, fun i hi => ?_, idF_ok hz hq, ?_, ?_, ?_⟩
      · rw [part_pv hq hl (mn_sub c Ts []), dc_true (mn_ent c Ts [] (of_dc he))]
      · rw [List.length_map] at hi
        have e : ((mn c [] Ts).map tx).eraseIdx i = ((mn c [] Ts).eraseIdx i).map tx := by rw [List.eraseIdx_eq_take_drop_succ, List.eraseIdx_eq_take_drop_succ, List.map_append, List.map_take, List.map_drop]
        rw [e, part_pv hq hl ((List.eraseIdx_sublist _ _).trans (mn_sub c Ts [])), dc_false (mn_least c Ts [] (fun j hj => by cases hj) i hi)]
      · have hasc := hq.asc
        have h1 : lfB L = true := by unfold lfB; rw [hasc, decide_eq_true hl]; rfl
        have h2 : ([s].any fun t => !gp t) = false := by rw [hq.right]; simp [gp_tx hq.okc]
        have h3 : ([s].any fun t => !decide (szL L + szL [t] ≤ 20)) = false := by
          have := hq.size
          have e : szL L + szL [s] ≤ 20 := by rw [hq.right, szL_tx hq.okc, hq.left, szL_map hq.ok]; exact this
          simp [e]
        rw [coF_ok h1 h2 h3, hq.left, map_fo_tx hq.ok, hq.right]
        simp [fo_tx hq.okc, he]
      · rw [List.length_map]
        have := (mn_sub c Ts []).length_le
        rw [hq.left] at hl
        simp at hl this
        omega
      · exact fits_tx fun a ha => hq.ok a (by have := (mn_sub c Ts []).subset ha; simpa using this)
  · refine .inl ⟨qcode L s, mlF_bad hz, by simpa using hz, .inl ?_⟩
    unfold qcode
    split
    · split <;> decide
    · decide
end Go.Proofs.YtmdbhcoioimlmaaGreat

/- The source of the drawn inputs: l01Next. -/
namespace Go.Proofs.YtmdbhcoioimlmaaGreat
open Go.RowKit

/-- The bytes that the source reads, in a block before block g. -/
def Code (w : World) (g : Nat) (v : Value) (N : Nat) : Prop :=
  N ≤ 4096 ∧ (∃ A c, v = .slice A N c) ∧ (0 < N → ∃ b o c, v = .slice (some ⟨b, o, none⟩) N c ∧ b < g ∧ N ≤ c ∧ c ≤ 9223372036854775807 ∧ ∀ j, j < N → ∃ x : Int, 0 ≤ x ∧ x ≤ 255 ∧ w.cell? ⟨b, o + j, none⟩ = some (.int .u8 x))
theorem Code.only {w w' : World} {g : Nat} {v : Value} {N : Nat} (h : Code w g v N) (hg : g < w.heap.size) (ho : Only g w w') : Code w' g v N := by
  obtain ⟨h1, h2, h3⟩ := h
  refine ⟨h1, h2, fun hp => ?_⟩
  obtain ⟨b, o, c, e, hb, hc, hm, hx⟩ := h3 hp
  refine ⟨b, o, c, e, hb, hc, hm, fun j hj => ?_⟩
  obtain ⟨x, x0, x1, hcell⟩ := hx j hj
  exact ⟨x, x0, x1, (ho.cell (p := ⟨b, o + j, none⟩) (by show b < _; omega) (by show b ≠ g; omega)).trans hcell⟩

def Src (w : World) (g : Nat) (v : Value) (N : Nat) : Prop :=
  Code w g v N ∧ ∃ (i : Nat) (h : Int), i ≤ N ∧ 0 ≤ h ∧ h ≤ 18446744073709551615 ∧ w.heap[g]? = some (.cells #[v, .int .i64 i, .int .u64 h] 88 (0, 0))
theorem Src.lt {w : World} {g : Nat} {v : Value} {N : Nat} (h : Src w g v N) : g < w.heap.size := by
  obtain ⟨_, _, _, _, _, _, h⟩ := h
  exact blk_lt h
theorem Src.grew {w w' : World} {g : Nat} {v : Value} {N : Nat} (h : Src w g v N) (hg : Grew w w') : Src w' g v N := by
  have hl := h.lt
  obtain ⟨h1, i, x, h2, h3, h4, h5⟩ := h
  exact ⟨h1.only hl hg.only, i, x, h2, h3, h4, (hg.block hl).trans h5⟩

theorem small_hash (X : Int) (h0 : 0 ≤ X) (h1 : X ≤ 18446744073709551615) : 0 ≤ wrap64 (bits .and .u64 (X / 8589934592) 16777215) ∧ wrap64 (bits .and .u64 (X / 8589934592) 16777215) ≤ 16777215 := by
  have h := bits_mask .u64 63 (by decide) Go.ConcN.wraps_u64_63 24 (by decide) (X / 8589934592) (by omega) (by omega)
  have e : ((2 : Int) ^ 24 - 1) = 16777215 := by decide
  have e2 : ((2 : Int) ^ 24) = 16777216 := by decide
  rw [e, e2] at h
  rw [h]
  unfold wrap64
  omega

theorem l01Next_c (g : Nat) (v : Value) (N : Nat) (n : Int) (w : World) (h : Src w g v N) (hn : n ≤ 9223372036854775807) :
    Calls Tryz.prog 61 #[.pointer (some ⟨g, 0, none⟩), .int .i64 n] w fun e w' => ∃ r : Int, e = .returned (.int .i64 r) ∧ 0 ≤ r ∧ (1 ≤ n → r < n) ∧ (n < 1 → r = 0) ∧ Src w' g v N ∧ Only g w w' := by
  by_cases h1 : n < 1
  · have HS := Lib.hid h
    clear h
    go_enter Tryz.func61, Tryz.ntmps61
    go_wp2_with fail
    go_ret
    exact ⟨_, rfl, by omega, fun h => absurd h (by omega), fun _ => rfl, HS.out, Only.refl _ _⟩
  obtain ⟨hC, i, hh, hi, hh0, hh1, hb⟩ := h
  have c0 : w.cell? ⟨g, 0, none⟩ = some v := by rw [blk_cell hb]; rfl
  have c1 : w.cell? ⟨g, 1, none⟩ = some (.int .i64 i) := by rw [blk_cell hb]; rfl
  have c2 : w.cell? ⟨g, 2, none⟩ = some (.int .u64 hh) := by rw [blk_cell hb]; rfl
  have f1 := blk_frozen hb 1
  have f2 := blk_frozen hb 2
  obtain ⟨A, c, rfl⟩ := hC.2.1
  have hN := hC.1
  have HB := Lib.hid hb
  have HC := Lib.hid hC
  clear hb hC
  go_enter Tryz.func61, Tryz.ntmps61
  go_wp2_with fail
  have hX0 : 0 ≤ IntKind.u64.wrap (IntKind.u64.wrap (hh * 6364136223846793005) + 1442695040888963407) := by rw [IntKind.wrap_u64]; omega
  have hX1 : IntKind.u64.wrap (IntKind.u64.wrap (hh * 6364136223846793005) + 1442695040888963407) ≤ 18446744073709551615 := by rw [IntKind.wrap_u64]; omega
  generalize IntKind.u64.wrap (IntKind.u64.wrap (hh * 6364136223846793005) + 1442695040888963407) = X at *
  obtain ⟨hY0, hY1⟩ := small_hash X hX0 hX1
  generalize wrap64 (bits .and .u64 (X / 8589934592) 16777215) = Y at *
  have hb1 := blk_set HB.out 2 (.int .u64 X)
  have ho1 := (Only.refl g w).setCell (o := 2) (.int .u64 X)
  have hC1 := HC.out.only (blk_lt HB.out) ho1
  clear c0 c1 c2 f1 f2 HB HC
  generalize w.setCell ⟨g, 2, none⟩ (.int .u64 X) = w1 at *
  have c0 : w1.cell? ⟨g, 0, none⟩ = some (.slice A N c) := by rw [blk_cell hb1]; rfl
  have c1 : w1.cell? ⟨g, 1, none⟩ = some (.int .i64 i) := by rw [blk_cell hb1]; rfl
  have f1 := blk_frozen hb1 1
  have HB := Lib.hid hb1
  clear hb1
  by_cases hlt : i < N
  · obtain ⟨b, o, c', e, hbg, hc, hm, hx⟩ := hC1.2.2 (by omega)
    obtain ⟨x, hx0, hx1, k1⟩ := hx i hlt
    obtain ⟨rfl, rfl⟩ : A = some ⟨b, o, none⟩ ∧ c = c' := by simpa using e
    have HC := Lib.hid hC1
    clear hC1 e hx
    go_quiet (fail)
    go_wp2_with fail
    go_quiet (fail)
    go_wp2_with fail
    go_ret
    exact ⟨_, rfl, Int.emod_nonneg _ (by omega), fun _ => Int.emod_lt_of_pos _ (by omega), fun h => absurd h (by omega), ⟨HC.out.only (blk_lt HB.out) (Only.setCell ((Only.refl g w1).drewN _) _), i + 1, X, by omega, hX0, hX1, blk_set (w := w1.drewN _) HB.out 1 _⟩, ho1.trans (Only.setCell ((Only.refl g w1).drewN _) _)⟩
  · have HC := Lib.hid hC1
    clear hC1
    go_quiet (fail)
    go_wp2_with fail
    go_ret
    exact ⟨_, rfl, Int.emod_nonneg _ (by omega), fun _ => Int.emod_lt_of_pos _ (by omega), fun h => absurd h (by omega), ⟨HC.out.only (blk_lt HB.out) ((Only.refl g w1).drewN _), i, X, by omega, hX0, hX1, HB.out⟩, ho1.drewN _⟩
end Go.Proofs.YtmdbhcoioimlmaaGreat

/- The drawn plain formula: l02Draw without modal operators gives a tree of at most as many nodes as told. -/
namespace Go.Proofs.YtmdbhcoioimlmaaGreat
open Go.RowKit
open Fm (Nd Tree)

theorem fmOk_fls : FmOk .fls := ⟨by simp [Fm.enc], anyP_mem.2 fun x hx => by
  have : x = (1, 0) := by simpa [Fm.enc] using hx
  subst this; rfl⟩
theorem fmOk_var (i : Fin 6) : FmOk (.var i) := ⟨by simp [Fm.enc], anyP_mem.2 fun x hx => by
  have : x = (0, (i.val : Int)) := by simpa [Fm.enc] using hx
  subst this; rfl⟩
theorem vari_tree {r : Int} (h0 : 0 ≤ r) (h1 : r < 6) : ∃ t, Fm.vari r = Fm.enc t ∧ FmOk t :=
  ⟨.var ⟨r.toNat, by omega⟩, by simp [Fm.vari, Fm.enc, Int.toNat_of_nonneg h0], fmOk_var _⟩
theorem join_tree {k : Int} {a b : Tree} (h0 : 2 ≤ k) (h1 : k ≤ 4) (ha : FmOk a) (hb : FmOk b) (hl : 1 + nn a + nn b ≤ 40) : ∃ t, Fm.join k (Fm.enc a) (Fm.enc b) = Fm.enc t ∧ FmOk t ∧ nn t = 1 + nn a + nn b := by
  unfold nn at *
  have hk : k = 2 ∨ k = 3 ∨ k = 4 := by omega
  rcases hk with rfl | rfl | rfl
  · exact ⟨.and a b, rfl, FmOk.join (k := 2) rfl (by omega) ha hb (by simp [Fm.enc]; omega), by simp [Fm.enc]; omega⟩
  · exact ⟨.or a b, rfl, FmOk.join (k := 3) rfl (by omega) ha hb (by simp [Fm.enc]; omega), by simp [Fm.enc]; omega⟩
  · exact ⟨.imp a b, rfl, FmOk.join (k := 4) rfl (by omega) ha hb (by simp [Fm.enc]; omega), by simp [Fm.enc]; omega⟩

/-- What the draw gives. -/
def DrawnP (w : World) (g : Nat) (cv : Value) (N : Nat) (size : Int) (e : Ending) (w' : World) : Prop :=
  ∃ v t, e = .returned v ∧ Own w' w.heap.size v (Fm.enc t) ∧ FmOk t ∧ (nn t : Int) ≤ size ∧ Src w' g cv N ∧ Only g w w'

theorem own_srcP {w w' : World} {B g : Nat} {v : Value} {xs : List Nd} (h : Own w B v xs) (hg : g < B) (ho : Only g w w') : Own w' B v xs :=
  own_only h ho (fun he => by have := own_of_ge h he; omega)
theorem draw_leaf {w w0 : World} {g : Nat} {cv v : Value} {N : Nat} {size : Int} {t : Tree} {xs : List Nd} (hsz : 1 ≤ size) (h1 : xs = Fm.enc t) (h2 : FmOk t) (h3 : nn t ≤ 1) (ho : Own w w0.heap.size v xs) (hS : Src w g cv N) (hO : Only g w0 w) : DrawnP w0 g cv N size (.returned v) w := by
  subst h1
  exact ⟨v, t, rfl, ho, h2, by omega, hS, hO⟩

set_option maxHeartbeats 2000000 in
theorem l02DrawP_c (g : Nat) (cv : Value) (N : Nat) (vs : Int) (hv0 : 1 ≤ vs) (hv1 : vs ≤ 6) : ∀ (m : Nat) (size : Int) (w : World), 1 ≤ size → size ≤ m → m ≤ 40 → Src w g cv N →
    Calls Tryz.prog 65 #[.pointer (some ⟨g, 0, none⟩), .int .i64 size, .int .i64 vs, .bool false] w (DrawnP w g cv N size) := by
  intro m
  induction m with
  | zero => intro size w h1 h2; omega
  | succ m ih =>
    intro size w h1 h2 hm hS
    have IH := Lib.hid (fun size w a b c => ih size w a b (by omega) c)
    clear ih
    have hgs := hS.lt
    by_cases hsz : size ≤ 2
    · have HSa := Lib.hid hS
      have hoa := Only.refl g w
      clear hS
      go_enter Tryz.func65, Tryz.ntmps65
      go_wp2_with fail
      refine (l01Next_c g cv N 8 _ HSa.out (by omega)).mono ?_
      rintro e wb ⟨r2, rfl, _, _, _, hSb, hob⟩
      have HSb := Lib.hid hSb
      have hab := hoa.trans hob
      clear hSb hob
      cases hr2 : (r2 == 0) with
      | true =>
        go_wp2_with fail
        refine (l02False_c _).mono ?_
        rintro e wc ⟨v, rfl, ho, hg⟩
        go_wp2_with fail
        go_ret
        exact draw_leaf h1 (t := .fls) rfl fmOk_fls (by simp [nn, Fm.enc]) (ho.base hab.size) (HSb.out.grew hg) (hab.grew hg)
      | false =>
        go_wp2_with fail
        refine (l01Next_c g cv N vs _ HSb.out (by omega)).mono ?_
        rintro e wc ⟨r3, rfl, hr30, hr31, _, hSc, hoc⟩
        have HSc := Lib.hid hSc
        have hac := hab.trans hoc
        clear hSc hoc
        go_wp2_with fail
        refine (l02Var_c r3 _).mono ?_
        rintro e wd ⟨v, rfl, ho, hg⟩
        go_wp2_with fail
        go_ret
        obtain ⟨tv, htv, hok⟩ := vari_tree hr30 (by have := hr31 (by omega); omega)
        exact draw_leaf h1 htv hok (by unfold nn; rw [← htv]; simp [Fm.vari]) (ho.base hac.size) (HSc.out.grew hg) (hac.grew hg)
    have HS := Lib.hid hS
    clear hS
    go_enter Tryz.func65, Tryz.ntmps65
    go_wp2_with fail
    refine (l01Next_c g cv N 9 _ HS.out (by omega)).mono ?_
    rintro e wa ⟨r1, rfl, _, _, _, hSa, hoa⟩
    have HSa := Lib.hid hSa
    clear hSa HS
    cases hr1 : (r1 == 0) with
    | true =>
      go_wp2_with fail
      refine (l01Next_c g cv N 8 _ HSa.out (by omega)).mono ?_
      rintro e wb ⟨r2, rfl, _, _, _, hSb, hob⟩
      have HSb := Lib.hid hSb
      have hab := hoa.trans hob
      clear hSb hob
      cases hr2 : (r2 == 0) with
      | true =>
        go_wp2_with fail
        refine (l02False_c _).mono ?_
        rintro e wc ⟨v, rfl, ho, hg⟩
        go_wp2_with fail
        go_ret
        exact draw_leaf h1 (t := .fls) rfl fmOk_fls (by simp [nn, Fm.enc]) (ho.base hab.size) (HSb.out.grew hg) (hab.grew hg)
      | false =>
        go_wp2_with fail
        refine (l01Next_c g cv N vs _ HSb.out (by omega)).mono ?_
        rintro e wc ⟨r3, rfl, hr30, hr31, _, hSc, hoc⟩
        have HSc := Lib.hid hSc
        have hac := hab.trans hoc
        clear hSc hoc
        go_wp2_with fail
        refine (l02Var_c r3 _).mono ?_
        rintro e wd ⟨v, rfl, ho, hg⟩
        go_wp2_with fail
        go_ret
        obtain ⟨tv, htv, hok⟩ := vari_tree hr30 (by have := hr31 (by omega); omega)
        exact draw_leaf h1 htv hok (by unfold nn; rw [← htv]; simp [Fm.vari]) (ho.base hac.size) (HSc.out.grew hg) (hac.grew hg)
    | false =>
    have HSb := HSa
    have hab := hoa
    clear hoa HSa
    go_wp2_with fail
    refine (l01Next_c g cv N 6 _ HSb.out (by omega)).mono ?_
    rintro e wc ⟨r3, rfl, _, _, _, hSc, hoc⟩
    have HSc := Lib.hid hSc
    have hac := hab.trans hoc
    clear hSc hoc hab HSb
    cases hr3 : (r3 == 0) with
    | true =>
      go_wp2_with fail
      refine (IH.out (size - 2) _ (by omega) (by omega) HSc.out).mono ?_
      rintro e wd ⟨v, t, rfl, ho, he, hl, hSd, hod⟩
      have HSd := Lib.hid hSd
      clear hSd
      have HE := Lib.hid he
      clear he
      unfold nn at hl
      go_wp2_with fail
      refine (l02Not_c v _ _ ho.nodes (by omega)).mono ?_
      rintro e we ⟨v2, rfl, ho2, hg2⟩
      go_wp2_with fail
      go_ret
      obtain ⟨t2, q1, q2, q3⟩ := join_tree (k := 4) (by omega) (by omega) HE.out fmOk_fls (b := .fls) (by simp [nn, Fm.enc]; omega)
      have q4 : Fm.neg (Fm.enc t) = Fm.enc t2 := q1
      rw [q4] at ho2
      exact ⟨_, t2, rfl, ho2.base (hac.trans hod).size, q2, by rw [q3]; simp [nn, Fm.enc]; omega, HSd.out.grew hg2, (hac.trans hod).grew hg2⟩
    | false =>
    go_wp2_with fail
    refine (l01Next_c g cv N (size - 2) _ HSc.out (by omega)).mono ?_
    rintro e wd ⟨r4, rfl, hr40, hr41, _, hSd, hod⟩
    have HSd := Lib.hid hSd
    have had := hac.trans hod
    have hr42 := hr41 (by omega)
    clear hSd hod hac HSc hr41
    go_wp2_with fail
    refine (IH.out (1 + r4) _ (by omega) (by omega) HSd.out).mono ?_
    rintro e we ⟨v1, t1, rfl, ho1, he1, hl1, hSe, hoe⟩
    have HSe := Lib.hid hSe
    have HE1 := Lib.hid he1
    have hsize := had.size
    have hae := had.trans hoe
    have HO1 := Lib.hid ho1
    clear hSe he1 hoe ho1
    go_wp2_with fail
    refine (l01Next_c g cv N 3 _ HSe.out (by omega)).mono ?_
    rintro e wf ⟨r5, rfl, hr50, hr51, _, hSf, hof⟩
    have HSf := Lib.hid hSf
    have HO2 := Lib.hid (own_srcP HO1.out (by omega) hof)
    have haf := hae.trans hof
    have hr52 := hr51 (by omega)
    clear hSf hof HO1 HSe hr51
    go_wp2_with fail
    refine (IH.out (size - 1 - (1 + r4)) _ (by omega) (by omega) HSf.out).mono ?_
    rintro e wg ⟨v2, t2, rfl, ho2, he2, hl2, hSg, hog⟩
    have hl9 := hl1
    have hl8 := hl2
    unfold nn at hl9 hl8
    have HSg := Lib.hid hSg
    have HE2 := Lib.hid he2
    have hO3 := own_srcP HO2.out (by omega) hog
    have hag := haf.trans hog
    clear hSg he2 hog HSf HO2
    go_wp2_with fail
    refine (l02Pair_c _ v1 v2 _ _ _ hO3.nodes ho2.nodes (by omega)).mono ?_
    rintro e wh ⟨v3, rfl, ho3, hg3⟩
    go_wp2_with fail
    go_ret
    obtain ⟨t3, q1, q2, q3⟩ := join_tree (k := 2 + r5) (by omega) (by omega) HE1.out HE2.out (by omega)
    rw [q1] at ho3
    exact ⟨_, t3, rfl, ho3.base hag.size, q2, by rw [q3]; omega, HSg.out.grew hg3, hag.grew hg3⟩
end Go.Proofs.YtmdbhcoioimlmaaGreat

/- A text put into a list: what is returned is the list itself or a row of the call's own. l22With of two texts. -/
namespace Go.Proofs.YtmdbhcoioimlmaaGreat
open Go.RowKit

def GivesInO (w : World) (v : Value) (L : List ByteArray) (s : ByteArray) (e : Ending) (w' : World) : Prop := ∃ u K, e = .returned u ∧ InsB L s K ∧ ((u = v ∧ K = L) ∨ OwnS w' w.heap.size u K) ∧ Grew w w'
set_option maxHeartbeats 2000000 in
theorem l02InsertO_c (v : Value) (L : List ByteArray) (s : ByteArray) (w : World) (h : Strs w v L) (hn : L.length ≤ 1048576) :
    Calls Tryz.prog 63 #[v, .string s] w (GivesInO w v L s) := by
  have h0 := Lib.hid h
  rcases h.open_ with ⟨rfl, rfl⟩ | ⟨b, o, c, rfl, hc, hm, hb, hcell⟩
  · clear h
    have he := own_emptyS' w
    go_enter Tryz.func63, Tryz.ntmps63
    go_wp2_with fail
    refine wp_loop_rounds 1 ?_; rw [rounds_succ]
    go_wp2_with (first
      | (at_builtin; have hz := hown2; refine wpList_appSs (w0 := w) _ _ rfl rfl _ _ rfl hown2 hg2 _ [] rfl (Strs.nil_ _) (by simp) ?_; intro v3 w3 hown3 hg3 _)
      | (at_builtin; have hz := hown1; refine wpList_appStr (w0 := w) _ _ rfl rfl _ _ rfl (own_grew hown1 ((Grew.refl w1).alloc _)) (hg1.alloc _) _ s rfl (rd_lit _ _ _) (by simp) ?_; intro v2 w2 hown2 hg2 _; have hs2 := strs_slice hown2.strs; obtain ⟨A2, c2, rfl⟩ := hs2)
      | (at_builtin; refine wpList_appSs (w0 := w) _ _ rfl rfl _ [] rfl he ((Grew.refl w).alloc _) _ [] rfl (Strs.nil_ _) (by simp) ?_; intro v1 w1 hown1 hg1 _; have hs1 := strs_slice hown1.strs; obtain ⟨A1, c1, rfl⟩ := hs1))
    go_ret
    exact ⟨_, _, rfl, by simpa using insB_nil s, .inr hown3, hg3⟩
  have HC := Lib.hid hcell
  have HR := Lib.hid (show Rd w 1 (.slice (some ⟨b, o, none⟩) L.length c) L.length (scells L) from h)
  have HT := Lib.hid (fun i hi => rdS_take HR.out rfl i hi)
  have HD := Lib.hid (fun i hi => rdS_tail HR.out rfl i hi hc)
  have HM := Lib.hid (fun j hj (he : st L j = s) => (by rw [← he]; exact st_mem hj : s ∈ L))
  have HJ := Lib.hid (fun j (hj : j ≤ L.length) => (show InsB L s (L.take j ++ [s] ++ L.drop j) from .inr ⟨j, hj, rfl⟩))
  have HLt := Lib.hid (fun j => (by rw [List.length_take]; omega : (L.take j).length ≤ L.length))
  have HLd := Lib.hid (fun j => (by rw [List.length_drop]; omega : (L.drop j).length ≤ L.length))
  clear h hcell HR
  generalize hN : L.length = n at *
  clear hN
  go_enter Tryz.func63, Tryz.ntmps63
  go_wp2_with fail
  go_loopw [5] (fun i wr => ∃ j : Nat, j ≤ n ∧ i = .int .i64 j ∧ Grew w wr) (fun i _ => n - (intOf i).toNat)
  case atStart => exact ⟨0, Nat.zero_le _, rfl, Grew.refl _⟩
  case round =>
    obtain ⟨j, hj, rfl, hB⟩ := hrel
    have he := own_emptyS' wr
    have hT := Lib.hid (HT.out j hj)
    have hD := Lib.hid (HD.out j hj)
    have hJ := Lib.hid (HJ.out j hj)
    have hlt1 := HLt.out j
    have hld1 := HLd.out j
    have hb1 := hB.size
    by_cases hlt : j < n
    · have k1 := HC.out j hlt _ hB
      have hM := Lib.hid (HM.out j hlt)
      have hcj : ¬ c = j := by omega
      rw [if_neg hcj] at hD
      generalize st L j = x at *
      generalize L.take j = T at *
      generalize L.drop j = U at *
      cases hl : Op.bytesLess x.toList s.toList with
      | true =>
        go_wp2_with fail
        go_roundw
        case rel => exact ⟨j + 1, by omega, by go_num, hB⟩
        case measure => simp [intOf]; omega
      | false =>
        by_cases hx : x = s
        · have hv := Lib.hid (hM.out hx)
          subst hx
          have q1 := bytes_eq' x
          go_wp2_with fail
          go_ret
          exact ⟨_, L, rfl, .inl ⟨rfl, hv.out⟩, .inl ⟨rfl, rfl⟩, hB⟩
        · have q1 := bytes_ne' (fun e : s = x => hx e.symm)
          have q2 := bytes_ne' hx
          have he1 : OwnS (wr.alloc (.cells #[] 9)) w.heap.size (.slice (some ⟨wr.heap.size, 0, none⟩) 0 0) [] := World.ownsRow_lit (e := 9) (size := 1) wr #[] 0 hb1 (by omega) rfl
          go_wp2_with (first
            | (at_builtin; have hz := hown2; refine wpList_appSs (w0 := w) _ _ rfl rfl _ _ rfl hown2 hg2 _ U rfl (Strs.grew hD.out hg2) (by first | omega | (simp; omega)) ?_; intro v3 w3 hown3 hg3 _)
            | (at_builtin; have hz := hown1; refine wpList_appStr (w0 := w) _ _ rfl rfl _ _ rfl (own_grew hown1 ((Grew.refl w1).alloc _)) (hg1.alloc _) _ s rfl (rd_lit _ _ _) (by first | omega | (simp; omega)) ?_; intro v2 w2 hown2 hg2 _; have hs2 := strs_slice hown2.strs; rw [List.length_append, List.length_singleton] at hs2; obtain ⟨A2, c2, rfl⟩ := hs2)
            | (at_builtin; refine wpList_appSs (w0 := w) _ _ rfl rfl _ [] rfl he1 (hB.alloc _) _ T rfl (Strs.grew hT.out (hB.alloc _)) (by first | omega | (simp; omega)) ?_; intro v1 w1 hown1 hg1 _; rw [List.nil_append] at hown1; have hs1 := strs_slice hown1.strs; obtain ⟨A1, c1, rfl⟩ := hs1))
          go_ret
          exact ⟨_, _, rfl, by simpa using hJ.out, .inr hown3, hg3⟩
    · obtain rfl : j = n := by omega
      generalize L.take j = T at *
      generalize L.drop j = U at *
      have he1 : OwnS (wr.alloc (.cells #[] 9)) w.heap.size (.slice (some ⟨wr.heap.size, 0, none⟩) 0 0) [] := World.ownsRow_lit (e := 9) (size := 1) wr #[] 0 hb1 (by omega) rfl
      by_cases hcj : c = j
      · subst hcj
        rw [if_pos rfl, Nat.sub_self] at hD
        go_wp2_with (first
          | (at_builtin; have hz := hown2; refine wpList_appSs (w0 := w) _ _ rfl rfl _ _ rfl hown2 hg2 _ U rfl (Strs.grew hD.out hg2) (by first | omega | (simp; omega)) ?_; intro v3 w3 hown3 hg3 _)
          | (at_builtin; have hz := hown1; refine wpList_appStr (w0 := w) _ _ rfl rfl _ _ rfl (own_grew hown1 ((Grew.refl w1).alloc _)) (hg1.alloc _) _ s rfl (rd_lit _ _ _) (by first | omega | (simp; omega)) ?_; intro v2 w2 hown2 hg2 _; have hs2 := strs_slice hown2.strs; rw [List.length_append, List.length_singleton] at hs2; obtain ⟨A2, c2, rfl⟩ := hs2)
          | (at_builtin; refine wpList_appSs (w0 := w) _ _ rfl rfl _ [] rfl he1 (hB.alloc _) _ T rfl (Strs.grew hT.out (hB.alloc _)) (by first | omega | (simp; omega)) ?_; intro v1 w1 hown1 hg1 _; rw [List.nil_append] at hown1; have hs1 := strs_slice hown1.strs; obtain ⟨A1, c1, rfl⟩ := hs1))
        go_ret
        exact ⟨_, _, rfl, by simpa using hJ.out, .inr hown3, hg3⟩
      · rw [if_neg hcj, Nat.sub_self] at hD
        go_wp2_with (first
          | (at_builtin; have hz := hown2; refine wpList_appSs (w0 := w) _ _ rfl rfl _ _ rfl hown2 hg2 _ U rfl (Strs.grew hD.out hg2) (by first | omega | (simp; omega)) ?_; intro v3 w3 hown3 hg3 _)
          | (at_builtin; have hz := hown1; refine wpList_appStr (w0 := w) _ _ rfl rfl _ _ rfl (own_grew hown1 ((Grew.refl w1).alloc _)) (hg1.alloc _) _ s rfl (rd_lit _ _ _) (by first | omega | (simp; omega)) ?_; intro v2 w2 hown2 hg2 _; have hs2 := strs_slice hown2.strs; rw [List.length_append, List.length_singleton] at hs2; obtain ⟨A2, c2, rfl⟩ := hs2)
          | (at_builtin; refine wpList_appSs (w0 := w) _ _ rfl rfl _ [] rfl he1 (hB.alloc _) _ T rfl (Strs.grew hT.out (hB.alloc _)) (by first | omega | (simp; omega)) ?_; intro v1 w1 hown1 hg1 _; rw [List.nil_append] at hown1; have hs1 := strs_slice hown1.strs; obtain ⟨A1, c1, rfl⟩ := hs1))
        go_ret
        exact ⟨_, _, rfl, by simpa using hJ.out, .inr hown3, hg3⟩

/-- The list with a text: an own row stays one. -/
theorem insO_own {w w' : World} {B : Nat} {v u : Value} {L K : List ByteArray} (h : OwnS w B v L) (hB : B ≤ w.heap.size) (hg : Grew w w') (hu : (u = v ∧ K = L) ∨ OwnS w' w.heap.size u K) : OwnS w' B u K := by
  rcases hu with ⟨rfl, rfl⟩ | hu
  · exact h.grew hg
  · exact hu.base hB
theorem insB_mem {L K : List ByteArray} {s : ByteArray} (h : InsB L s K) {x : ByteArray} (hx : x ∈ K) : x ∈ L ∨ x = s := by
  rcases h with ⟨rfl, _⟩ | ⟨j, _, rfl⟩
  · exact .inl hx
  · simp only [List.mem_append, List.mem_singleton] at hx
    rcases hx with (hx | hx) | hx
    · exact .inl (List.mem_of_mem_take hx)
    · exact .inr hx
    · exact .inl (List.mem_of_mem_drop hx)
theorem insB_len {L K : List ByteArray} {s : ByteArray} (h : InsB L s K) : K.length ≤ L.length + 1 := by
  rcases h with ⟨rfl, _⟩ | ⟨j, hj, rfl⟩
  · omega
  · simp only [List.length_append, List.length_take, List.length_drop, List.length_singleton]; omega
end Go.Proofs.YtmdbhcoioimlmaaGreat

/- Drawn sequents: l22Sides, l22Theorem, l23Draw. -/
namespace Go.Proofs.YtmdbhcoioimlmaaGreat
open Go.RowKit
open Fm (Nd Tree)

theorem own_srcS {w w' : World} {B g : Nat} {v : Value} {L : List ByteArray} (h : OwnS w B v L) (hg : g < B) (ho : Only g w w') : OwnS w' B v L :=
  own_only h ho (fun he => by have := own_of_ge h he; omega)
theorem drawn_fits {Ts : List Tree} (h : ∀ a ∈ Ts, FmOk a) : Fits (Ts.map tx) := fun i hi => by
  have hi2 : i < Ts.length := by simpa using hi
  have e : st (Ts.map tx) i = tx Ts[i] := by simp [st, List.getD, hi2]
  rw [e]
  have := tx_size (h _ (List.getElem_mem hi2)).1
  omega
theorem ins_trees {Ts : List Tree} {t : Tree} {K : List ByteArray} (hok : ∀ a ∈ Ts, FmOk a) (ht : FmOk t) (h : InsB (Ts.map tx) (tx t) K) : ∃ Ks : List Tree, K = Ks.map tx ∧ (∀ a ∈ Ks, FmOk a) ∧ tot nn Ks ≤ tot nn Ts + nn t ∧ Ks.length ≤ Ts.length + 1 := by
  rcases h with ⟨rfl, _⟩ | ⟨j, hj, rfl⟩
  · exact ⟨Ts, rfl, hok, by omega, by omega⟩
  · refine ⟨Ts.take j ++ [t] ++ Ts.drop j, by simp, fun a ha => ?_, ?_, ?_⟩
    · simp only [List.mem_append, List.mem_singleton] at ha
      rcases ha with (ha | rfl) | ha
      · exact hok a (List.mem_of_mem_take ha)
      · exact ht
      · exact hok a (List.mem_of_mem_drop ha)
    · rw [tot_app, tot_app, tot_one]
      have := tot_app nn (Ts.take j) (Ts.drop j)
      rw [List.take_append_drop] at this
      omega
    · simp only [List.length_append, List.length_take, List.length_drop, List.length_singleton]; omega

/-- A drawn sequent. -/
structure Sq (Ts : List Tree) (c : Tree) : Prop where
  ok : ∀ a ∈ Ts, FmOk a
  okc : FmOk c
  sum : tot nn Ts + nn c ≤ 16
  len : Ts.length ≤ 2
theorem Sq.okS {Ts : List Tree} {c : Tree} (h : Sq Ts c) : OkS Ts c := okS_mk h.ok h.okc (by have := h.sum; omega)
def SidesP (w : World) (g : Nat) (cv : Value) (N : Nat) (e : Ending) (w' : World) : Prop :=
  ∃ v Ts c, e = .returned (.tuple #[v, .string (tx c)]) ∧ OwnS w' w.heap.size v (Ts.map tx) ∧ Sq Ts c ∧ Src w' g cv N ∧ Only g w w'
/-- The formulas while the left side is drawn. -/
structure Sd (Ts : List Tree) (q : Nat) : Prop where
  ok : ∀ a ∈ Ts, FmOk a
  sum : tot nn Ts + 5 * q ≤ 10
  len : Ts.length + q ≤ 2

set_option maxHeartbeats 2000000 in
theorem l22Sides_c (g : Nat) (cv : Value) (N : Nat) (w : World) (hS : Src w g cv N) :
    Calls Tryz.prog 90 #[.pointer (some ⟨g, 0, none⟩)] w (SidesP w g cv N) := by
  have hgl := hS.lt
  have he := own_emptyS' w
  have hal := Lib.hid ((Grew.refl w).alloc (.cells #[] 9))
  have HS := Lib.hid (hS.grew hal.out)
  have HE := Lib.hid he
  clear hS he
  go_enter Tryz.func90, Tryz.ntmps90
  go_wp2_with fail
  refine (l01Next_c g cv N 3 _ HS.out (by omega)).mono ?_
  rintro e w1 ⟨r1, rfl, hr0, hr1, _, hS1, ho1⟩
  have hr2 := hr1 (by omega)
  clear hr1
  obtain ⟨q0, rfl⟩ : ∃ q : Nat, r1 = (q : Int) := ⟨r1.toNat, by omega⟩
  have HO1 := Lib.hid (own_srcS HE.out hgl ho1)
  have HS1 := Lib.hid hS1
  have HG1 : Hid (Only g w w1) := Lib.hid (hal.out.only.trans ho1)
  clear hS1 ho1
  go_wp2_with fail
  go_loopw [4, 5] (fun lv k wr => ∃ (q : Nat) (Ts : List Tree), k = .int .i64 q ∧ q ≤ 2 ∧ OwnS wr w.heap.size lv (Ts.map tx) ∧ Hid (Sd Ts q) ∧ Hid (Src wr g cv N) ∧ Hid (Only g w wr)) (fun _ k _ => (intOf k).toNat)
  case atStart => exact ⟨q0, [], rfl, by omega, HO1.out, ⟨(fun a ha => by cases ha), by rw [tot_nil]; omega, by simp; omega⟩, HS1, HG1⟩
  case round =>
    obtain ⟨q, Ts, rfl, hq, hO, hSd, hSr, hG⟩ := hrel
    have HO := Lib.hid hO
    obtain ⟨A, c, rfl⟩ := strs_slice hO.strs
    clear hO
    rw [List.length_map] at HO ⊢
    have hsl := hSd.out.len
    generalize hm : Ts.length = m at *
    have HM := Lib.hid hm
    clear hm
    by_cases hpos : 0 < q
    · go_wp2_with fail
      refine (l01Next_c g cv N 5 _ hSr.out (by omega)).mono ?_
      rintro e w2 ⟨r2, rfl, hs0, hs1, _, hS2, ho2⟩
      have hs2 := hs1 (by omega)
      have HS2 := Lib.hid hS2
      have HO2 := Lib.hid (own_srcS HO.out hgl ho2)
      have HG2 : Hid (Only g w w2) := Lib.hid (hG.out.trans ho2)
      clear hS2 ho2 hs1
      go_wp2_with fail
      refine (l02DrawP_c g cv N 3 (by omega) (by omega) 5 (1 + r2) _ (by omega) (by omega) (by omega) HS2.out).mono ?_
      rintro e w3 ⟨v3, t, rfl, ho3, ht, hl3, hS3, hO3⟩
      have HT := Lib.hid ht
      have HS3 := Lib.hid hS3
      have HO3 := Lib.hid (own_srcS HO2.out hgl hO3)
      have HG3 : Hid (Only g w w3) := Lib.hid (HG2.out.trans hO3)
      have hl4 := Lib.hid (show nn t ≤ 5 by omega)
      obtain ⟨A3, n3, c3, rfl⟩ := slice3 ho3.nodes
      have KT := Lib.hid (l02Text_c t _ _ ho3.nodes (by have := ht.1; omega))
      have htx : Says w3 (Fm.txt t 0) = fun e w' => e = .returned (.string (tx t)) ∧ Grew w3 w' := rfl
      rw [htx] at KT
      clear hS3 hO3 ht hl3 ho3 htx
      go_wp2_with fail
      refine (KT.out).mono ?_
      rintro e w4 ⟨rfl, hg4⟩
      have HS4 := Lib.hid (HS3.out.grew hg4)
      have HO4 := Lib.hid (HO3.out.grew hg4)
      have HG4 : Hid (Only g w w4) := Lib.hid (HG3.out.grew hg4)
      have KI := Lib.hid (l02InsertO_c (.slice A m c) (Ts.map tx) (tx t) w4 HO4.out.strs (by rw [List.length_map, HM.out]; omega))
      unfold GivesInO at KI
      have hsz4 := Lib.hid (show w.heap.size ≤ w4.heap.size from HG4.out.size)
      clear hg4
      go_wp2_with fail
      refine (KI.out).mono ?_
      rintro e w5 ⟨u, K, rfl, hK, hu, hg5⟩
      obtain ⟨Ks, hKs, k1, k2, k3⟩ := ins_trees hSd.out.ok HT.out hK
      have HO5 := Lib.hid (insO_own HO4.out hsz4.out hg5 hu)
      rw [hKs] at HO5
      obtain ⟨A5, c5, rfl⟩ := strs_slice HO5.out.strs
      rw [List.length_map] at HO5 ⊢
      have HD5 : Hid (Sd Ks (q - 1)) := Lib.hid ⟨k1, by have := hSd.out.sum; have := hl4.out; omega, by have := hSd.out.len; omega⟩
      have HS5 := Lib.hid (HS4.out.grew hg5)
      have HG5 : Hid (Only g w w5) := Lib.hid (HG4.out.grew hg5)
      have hq1 : ((q : Int) - 1) = ((q - 1 : Nat) : Int) := by omega
      have HQ1 := Lib.hid hq1
      clear hK hu hKs k1 k2 k3 hq1 hg5
      go_wp2_with fail
      go_roundw
      case rel => exact ⟨q - 1, Ks, by rw [HQ1.out], by omega, HO5.out, HD5, HS5, HG5⟩
      case measure => simp [intOf]; omega
    · obtain rfl : q = 0 := by omega
      go_wp2_with fail
      refine (l01Next_c g cv N 6 _ hSr.out (by omega)).mono ?_
      rintro e w2 ⟨r2, rfl, hs0, hs1, _, hS2, ho2⟩
      have hs2 := hs1 (by omega)
      have HS2 := Lib.hid hS2
      have HO2 := Lib.hid (own_srcS HO.out hgl ho2)
      have HG2 : Hid (Only g w w2) := Lib.hid (hG.out.trans ho2)
      clear hS2 ho2 hs1
      go_wp2_with fail
      refine (l02DrawP_c g cv N 3 (by omega) (by omega) 6 (1 + r2) _ (by omega) (by omega) (by omega) HS2.out).mono ?_
      rintro e w3 ⟨v3, t, rfl, ho3, ht, hl3, hS3, hO3⟩
      have HT := Lib.hid ht
      have HS3 := Lib.hid hS3
      have HO3 := Lib.hid (own_srcS HO2.out hgl hO3)
      have HG3 : Hid (Only g w w3) := Lib.hid (HG2.out.trans hO3)
      have hl4 := Lib.hid (show nn t ≤ 6 by omega)
      obtain ⟨A3, n3, c3, rfl⟩ := slice3 ho3.nodes
      have KT := Lib.hid (l02Text_c t _ _ ho3.nodes (by have := ht.1; omega))
      have htx : Says w3 (Fm.txt t 0) = fun e w' => e = .returned (.string (tx t)) ∧ Grew w3 w' := rfl
      rw [htx] at KT
      clear hS3 hO3 ht hl3 ho3 htx
      go_wp2_with fail
      refine (KT.out).mono ?_
      rintro e w4 ⟨rfl, hg4⟩
      go_wp2_with fail
      go_ret2
      exact ⟨_, Ts, t, rfl, HO3.out.grew hg4, ⟨hSd.out.ok, HT.out, by have := hSd.out.sum; have := hl4.out; omega, by have := hSd.out.len; omega⟩, HS3.out.grew hg4, HG3.out.grew hg4⟩
end Go.Proofs.YtmdbhcoioimlmaaGreat

/- Drawn sequents that have a proof: l22Theorem; l23Draw. -/
namespace Go.Proofs.YtmdbhcoioimlmaaGreat
open Go.RowKit
open Fm (Nd Tree)

def GivesW2 (w : World) (a b : ByteArray) (e : Ending) (w' : World) : Prop := ∃ u K1 K, e = .returned u ∧ InsB [] a K1 ∧ InsB K1 b K ∧ OwnS w' w.heap.size u K ∧ Grew w w'
set_option maxHeartbeats 2000000 in
/-- l22With of two texts onto nothing. -/
theorem l22With2_c (A0 : Option Addr) (c0 b : Nat) (s1 s2 : ByteArray) (w : World) (h : Strs w (.slice A0 0 c0) []) (k1 : ∀ W, Grew w W → W.cell? ⟨b, 0, none⟩ = some (.string s1)) (k2 : ∀ W, Grew w W → W.cell? ⟨b, 1, none⟩ = some (.string s2)) :
    Calls Tryz.prog 72 #[.slice A0 0 c0, .slice (some ⟨b, 0, none⟩) 2 2] w (GivesW2 w s1 s2) := by
  unfold GivesW2
  have he := own_emptyS' w
  have KI := Lib.hid (fun u L s W (hu : Strs W u L) (hn : L.length ≤ 1048576) => l02InsertO_c u L s W hu hn)
  unfold GivesInO at KI
  have HL := Lib.hid h
  have HK1 := Lib.hid k1
  have HK2 := Lib.hid k2
  clear h k1 k2
  go_enter Tryz.func72, Tryz.ntmps72
  go_wp2_with (first
    | (at_builtin; refine wpList_appSs (w0 := w) _ _ rfl rfl _ [] rfl he ((Grew.refl w).alloc _) _ [] rfl (Strs.grew HL.out ((Grew.refl w).alloc _)) (by simp) ?_; intro v1 w1 hown1 hg1 _; have HO1 := Lib.hid hown1; obtain ⟨A1, c1, rfl⟩ := strs_slice hown1.strs; clear hown1))
  go_wp2_with fail
  have q1 := HK1.out _ hg1
  refine wp_loop_rounds 3 ?_
  rw [rounds_succ]
  go_wp2_with fail
  refine (KI.out _ [] s1 _ HO1.out.strs (by simp)).mono ?_
  rintro e w2 ⟨u2, K1, rfl, hK1, hu2, hg2⟩
  have HO2 := Lib.hid (insO_own HO1.out hg1.size hg2 hu2)
  have HI1 := Lib.hid hK1
  have hl1 := Lib.hid (insB_len hK1)
  have g2 := hg1.trans hg2
  obtain ⟨A2, c2, rfl⟩ := strs_slice HO2.out.strs
  clear hu2 hK1
  generalize K1.length = m1 at *
  go_wp2_with fail
  have q2 := HK2.out _ g2
  rw [rounds_succ]
  go_wp2_with fail
  refine (KI.out _ K1 s2 _ HO2.out.strs (by have := insB_len HI1.out; simp at this; omega)).mono ?_
  rintro e w3 ⟨u3, K2, rfl, hK2, hu3, hg3⟩
  have HO3 := Lib.hid (insO_own HO2.out g2.size hg3 hu3)
  have HI2 := Lib.hid hK2
  have g3 := g2.trans hg3
  obtain ⟨A3, c3, rfl⟩ := strs_slice HO3.out.strs
  clear hu3 hK2
  generalize K2.length = m2 at *
  go_wp2_with fail
  rw [rounds_succ]
  go_wp2_with fail
  go_ret
  exact ⟨_, K1, K2, rfl, HI1.out, HI2.out, HO3.out, g3⟩

set_option maxHeartbeats 2000000 in
theorem l22Theorem_c (g : Nat) (cv : Value) (N : Nat) (w : World) (hS : Src w g cv N) :
    Calls Tryz.prog 62 #[.pointer (some ⟨g, 0, none⟩)] w (SidesP w g cv N) := by
  have hgl := hS.lt
  have HS := Lib.hid hS
  have HG : Hid (Only g w w) := Lib.hid (Only.refl g w)
  clear hS
  go_enter Tryz.func62, Tryz.ntmps62
  go_wp2_with fail
  go_loopw [4] (fun k wr => ∃ (q : Nat), k = .int .i64 q ∧ q ≤ 12 ∧ Hid (Src wr g cv N) ∧ Hid (Only g w wr)) (fun k _ => 12 - (intOf k).toNat)
  case atStart => exact ⟨0, rfl, by omega, HS, HG⟩
  case round =>
    obtain ⟨q, rfl, hq, hSr, hG⟩ := hrel
    by_cases hlt : q < 12
    · have KS := Lib.hid (l22Sides_c g cv N wr hSr.out)
      unfold SidesP at KS
      have hsz := Lib.hid hG.out.size
      go_wp2_with fail
      refine (KS.out).mono ?_
      rintro e w1 ⟨v, Ts, c, rfl, hO, hq1, hS1, ho1⟩
      have HO := Lib.hid hO
      have HQ := Lib.hid hq1
      have HS1 := Lib.hid hS1
      have HG1 : Hid (Only g w w1) := Lib.hid (hG.out.trans ho1)
      have KO := Lib.hid (l23Ok_c v Ts c w1 hq1.okS hO.strs)
      obtain ⟨A, cc, rfl⟩ := strs_slice hO.strs
      clear hO hq1 hS1 ho1
      rw [List.length_map] at *
      generalize Ts.length = m at *
      cases hd : dc (EntL Ts c) with
      | true =>
        rw [hd] at KO
        clear hd
        go_wp2_with fail
        refine (KO.out).mono ?_
        rintro e w2 ⟨rfl, hg2⟩
        go_wp2_with fail
        go_ret2
        exact ⟨_, Ts, c, rfl, (HO.out.grew hg2).base hsz.out, HQ.out, HS1.out.grew hg2, HG1.out.grew hg2⟩
      | false =>
        rw [hd] at KO
        clear hd
        go_wp2_with fail
        refine (KO.out).mono ?_
        rintro e w2 ⟨rfl, hg2⟩
        go_wp2_with fail
        go_roundw
        case rel => exact ⟨q + 1, by go_num, by omega, HS1.out.grew hg2, HG1.out.grew hg2⟩
        case measure => simp [intOf]; omega
    · obtain rfl : q = 12 := by omega
      go_wp2_with fail
      refine (l02DrawP_c g cv N 2 (by omega) (by omega) 3 3 _ (by omega) (by omega) (by omega) hSr.out).mono ?_
      rintro e w3 ⟨v3, t, rfl, ho3, ht, hl3, hS3, hO3⟩
      have HT := Lib.hid ht
      have HS3 := Lib.hid hS3
      have HG3 : Hid (Only g w w3) := Lib.hid (hG.out.trans hO3)
      have hl4 := Lib.hid (show nn t ≤ 3 by omega)
      obtain ⟨A3, n3, c3, rfl⟩ := slice3 ho3.nodes
      have KT := Lib.hid (l02Text_c t _ _ ho3.nodes (by have := ht.1; omega))
      have htx : Says w3 (Fm.txt t 0) = fun e w' => e = .returned (.string (tx t)) ∧ Grew w3 w' := rfl
      rw [htx] at KT
      clear hS3 hO3 ht hl3 ho3 htx
      go_wp2_with fail
      refine (KT.out).mono ?_
      rintro e w4 ⟨rfl, hg4⟩
      have HS4 := Lib.hid (HS3.out.grew hg4)
      have HG4 : Hid (Only g w w4) := Lib.hid (HG3.out.grew hg4)
      clear hg4
      go_wp2_with fail
      refine (l02DrawP_c g cv N 2 (by omega) (by omega) 3 3 _ (by omega) (by omega) (by omega) HS4.out).mono ?_
      rintro e w5 ⟨v5, t5, rfl, ho5, ht5, hl5, hS5, hO5⟩
      have HT5 := Lib.hid ht5
      have HS5 := Lib.hid hS5
      have HG5 : Hid (Only g w w5) := Lib.hid (HG4.out.trans hO5)
      have hl6 := Lib.hid (show nn t5 ≤ 3 by omega)
      obtain ⟨A5, n5, c5, rfl⟩ := slice3 ho5.nodes
      have KT5 := Lib.hid (l02Text_c t5 _ _ ho5.nodes (by have := ht5.1; omega))
      have htx : Says w5 (Fm.txt t5 0) = fun e w' => e = .returned (.string (tx t5)) ∧ Grew w5 w' := rfl
      rw [htx] at KT5
      clear hS5 hO5 ht5 hl5 ho5 htx
      go_wp2_with fail
      refine (KT5.out).mono ?_
      rintro e w6 ⟨rfl, hg6⟩
      have HS6 := Lib.hid (HS5.out.grew hg6)
      have HG6 : Hid (Only g w w6) := Lib.hid (HG5.out.grew hg6)
      have hs6 : (w6.alloc (.cells #[] 9)).heap.size = w6.heap.size + 1 := by simp
      have a1 := (Grew.refl w6).alloc (.cells #[] 9)
      have KW := Lib.hid (l22With2_c (some ⟨w6.heap.size, 0, none⟩) 0 (w6.heap.size + 1) (tx t) (tx t5) ((w6.alloc (.cells #[] 9)).alloc (.cells #[.string (tx t), .string (tx t5)] 9))
        ((own_emptyS' w6).strs.grew ((Grew.refl _).alloc _))
        (fun W hW => (hW.cell (p := ⟨w6.heap.size + 1, 0, none⟩) (by simp)).trans (by have := blk_cell (blk_new (w6.alloc (.cells #[] 9)) (.cells #[.string (tx t), .string (tx t5)] 9)) 0; rw [hs6] at this; exact this))
        (fun W hW => (hW.cell (p := ⟨w6.heap.size + 1, 1, none⟩) (by simp)).trans (by have := blk_cell (blk_new (w6.alloc (.cells #[] 9)) (.cells #[.string (tx t), .string (tx t5)] 9)) 1; rw [hs6] at this; exact this)))
      unfold GivesW2 at KW
      have HG7 : Hid (Only g w ((w6.alloc (.cells #[] 9)).alloc (.cells #[.string (tx t), .string (tx t5)] 9))) := Lib.hid ((HG6.out.alloc _).alloc _)
      have HS7 : Hid (Src ((w6.alloc (.cells #[] 9)).alloc (.cells #[.string (tx t), .string (tx t5)] 9)) g cv N) := Lib.hid (HS6.out.grew (a1.alloc _))
      clear hg6 hs6 a1
      go_wp2_with fail
      refine (KW.out).mono ?_
      rintro e w8 ⟨u, K1, K, rfl, hK1, hK, hO8, hg8⟩
      obtain ⟨Ks1, rfl, p1, p2, p3⟩ := ins_trees (Ts := []) (fun a ha => by cases ha) HT.out (by simpa using hK1)
      obtain ⟨Ks, rfl, r1, r2, r3⟩ := ins_trees p1 HT5.out hK
      have HO8 := Lib.hid (hO8.base HG7.out.size)
      have HQ8 : Hid (Sq Ks t) := Lib.hid ⟨r1, HT.out, by have := hl4.out; have := hl6.out; rw [tot_nil] at p2; omega, by simp at p3; omega⟩
      have HS8 := Lib.hid (HS7.out.grew hg8)
      have HG8 : Hid (Only g w w8) := Lib.hid (HG7.out.grew hg8)
      obtain ⟨A8, c8, rfl⟩ := strs_slice hO8.strs
      clear hO8 hg8 hK hK1 p1 p2 p3 r1 r2 r3
      generalize (Ks.map tx).length = m8 at *
      go_wp2_with fail
      go_ret2
      exact ⟨_, Ks, t, rfl, HO8.out, HQ8.out, HS8.out, HG8.out⟩

/-- What l23Draw gives. -/
structure Dr (L : List ByteArray) (s : ByteArray) : Prop where
  fits : Fits L
  len : L.length ≤ 10
  size : s.size ≤ 1000
theorem Sq.dr {Ts : List Tree} {c : Tree} (h : Sq Ts c) : Dr (Ts.map tx) (tx c) := ⟨drawn_fits h.ok, by have := h.len; simp; omega, by have := tx_size h.okc.1; omega⟩
theorem fits_snoc {L : List ByteArray} {s : ByteArray} (h : Fits L) (hs : s.size ≤ 1048576) : Fits (L ++ [s]) := fun i hi => by
  rw [List.length_append, List.length_singleton] at hi
  rcases Nat.lt_or_ge i L.length with h1 | h1
  · have e : st (L ++ [s]) i = st L i := by simp [st, List.getD, List.getElem?_append, h1]
    rw [e]; exact h i h1
  · obtain rfl : i = L.length := by omega
    have e : st (L ++ [s]) L.length = s := by simp [st, List.getD]
    rw [e]; exact hs
theorem src_row {w w' : World} {g : Nat} {cv : Value} {N : Nat} {row : Option Nat} (h : Src w g cv N) (hg : w.grownBy w' row) (hr : ∀ b, row = some b → g < b) : Src w' g cv N := by
  obtain ⟨⟨h1, h2, h3⟩, i, x, h4, h5, h6, h7⟩ := h
  have hgl := blk_lt h7
  have hb : ∀ k, k ≤ g → w'.heap[k]? = w.heap[k]? := fun k hk => hg.block k (by omega) (fun e => by have := hr k e.symm; omega)
  refine ⟨⟨h1, h2, fun hp => ?_⟩, i, x, h4, h5, h6, (hb g (Nat.le_refl _)).trans h7⟩
  obtain ⟨b, o, c, e, hbg, hc, hm, hx⟩ := h3 hp
  refine ⟨b, o, c, e, hbg, hc, hm, fun j hj => ?_⟩
  obtain ⟨x, x0, x1, hcell⟩ := hx j hj
  exact ⟨x, x0, x1, (World.cell?_of_block (a := ⟨b, o + j, none⟩) (hb b (by omega))).trans hcell⟩
theorem only_row {g : Nat} {w0 w w' : World} {row : Option Nat} (h : Only g w0 w) (hg : w.grownBy w' row) (hr : ∀ b, row = some b → w0.heap.size ≤ b) : Only g w0 w' :=
  ⟨hg.os.trans h.os, hg.tape.trans h.tape, hg.output.trans h.output, Nat.le_trans h.size hg.size, fun i hi hne => (hg.block i (Nat.lt_of_lt_of_le hi h.size) (fun e => by have := hr i e.symm; omega)).trans (World.grownBy.block h i hi hne)⟩
/-- 'out = append(out, s)', out a row from block B on. -/
theorem wpList_appOne {ops : Array Oper} {rest : List Oper} {o : Oper} {a : Act} {Q : Exit → Act → World → Prop} {w : World} (B : Nat) (s x : Operand) (hgd : o.guard = none)
    (ho : o.op = .call { callee := .builtin .append, args := #[s, x], argTypes := #[22, 22] })
    (v : Value) (L : List ByteArray) (hs : a.eval s = v) (hown : OwnS w B v L) (hB : B ≤ w.heap.size) (vx : Value) (k : ByteArray) (hx : a.eval x = vx) (hr : Rd w 1 vx 1 [.string k]) (hn : L.length ≤ 1048576)
    (h : ∀ v' w', OwnS w' B v' (L ++ [k]) → w.grownBy w' v.ownBlock → wpList Tryz.prog ops Q rest (a.put o.dst v') w') : wpList Tryz.prog ops Q (o :: rest) a w := by
  obtain ⟨i0, hi0, hz0, hz1, hz2⟩ := info_parts Tryz.infoStr
  refine wpList_append_rd w hgd s x _ ho B 9 i0 _ 1 16 Tryz.underlying22 hi0 hz0 hz1 hz2 rfl (by omega) v L.length (scells L) hs hown vx 1 [.string k] hx hr (by simp [Value.oneCell']) (by unfold maxLen; omega) (by omega) hB ?_
  intro v' w' h1 h2 h3
  refine h v' w' ?_ h2
  unfold OwnS
  rw [List.length_append, scells_append]
  exact h1
def DrawnS (w : World) (g : Nat) (cv : Value) (N : Nat) (e : Ending) (w' : World) : Prop :=
  ∃ v L s, e = .returned (.tuple #[v, .string s]) ∧ OwnS w' w.heap.size v L ∧ Dr L s ∧ Src w' g cv N ∧ Only g w w'
set_option maxHeartbeats 4000000 in
theorem l23Draw_c (g : Nat) (cv : Value) (N : Nat) (w : World) (hS : Src w g cv N) :
    Calls Tryz.prog 60 #[.pointer (some ⟨g, 0, none⟩)] w (DrawnS w g cv N) := by
  have hgl := hS.lt
  have HS := Lib.hid hS
  clear hS
  go_enter Tryz.func60, Tryz.ntmps60
  go_wp2_with fail
  refine (l01Next_c g cv N 2 _ HS.out (by omega)).mono ?_
  rintro e w1 ⟨r1, rfl, _, _, _, hS1, ho1⟩
  have HS1 := Lib.hid hS1
  have HG1 : Hid (Only g w w1) := Lib.hid ho1
  have hsz1 := Lib.hid (show w.heap.size ≤ w1.heap.size from ho1.size)
  clear hS1 ho1
  cases hr1 : (r1 == 0) with
  | true =>
    have KS := Lib.hid (l22Theorem_c g cv N w1 HS1.out)
    unfold SidesP at KS
    go_wp2_with fail
    refine (KS.out).mono ?_
    rintro e w2 ⟨v, Ts, c, rfl, hO, hq1, hS2, ho2⟩
    have HO := Lib.hid (hO.base hsz1.out)
    have HQ := Lib.hid hq1.dr
    have HS2 := Lib.hid hS2
    have HG2 : Hid (Only g w w2) := Lib.hid (HG1.out.trans ho2)
    obtain ⟨A, cc, rfl⟩ := strs_slice hO.strs
    clear hO hq1 hS2 ho2
    generalize (Ts.map tx).length = m at *
    go_wp2_with fail
    go_ret2
    exact ⟨_, _, _, rfl, HO.out, HQ.out, HS2.out, HG2.out⟩
  | false =>
  have KS := Lib.hid (l22Sides_c g cv N w1 HS1.out)
  unfold SidesP at KS
  go_wp2_with fail
  refine (KS.out).mono ?_
  rintro e w2 ⟨v, Ts, c, rfl, hO, hq1, hS2, ho2⟩
  have HO := Lib.hid (hO.base hsz1.out)
  have HQ := Lib.hid hq1.dr
  have HL2 := Lib.hid (show (Ts.map tx).length ≤ 2 by have := hq1.len; simpa using this)
  have HS2 := Lib.hid hS2
  have HG2 : Hid (Only g w w2) := Lib.hid (HG1.out.trans ho2)
  obtain ⟨A, cc, rfl⟩ := strs_slice hO.strs
  clear hO hq1 hS2 ho2
  generalize Ts.map tx = L at *
  generalize tx c = tc at *
  generalize hm : L.length = m at *
  have HM := Lib.hid hm
  clear hm
  go_wp2_with fail
  refine (l01Next_c g cv N 30 _ HS2.out (by omega)).mono ?_
  rintro e w3 ⟨r3, rfl, _, _, _, hS3, ho3⟩
  have HS3 := Lib.hid hS3
  have HG3 : Hid (Only g w w3) := Lib.hid (HG2.out.trans ho3)
  have HO3 := Lib.hid (own_srcS HO.out hgl ho3)
  have hsz3 := Lib.hid (show w.heap.size ≤ w3.heap.size from HG3.out.size)
  clear hS3 ho3
  cases hr3 : (r3 == 0) with
  | true =>
    have HOa := HO3.out.grew ((Grew.refl w3).alloc (.cells #[.string ⟨#[112]⟩] 9))
    have HSa := Lib.hid (HS3.out.grew ((Grew.refl w3).alloc (.cells #[.string ⟨#[112]⟩] 9)))
    have HGa : Hid (Only g w (w3.alloc (.cells #[.string ⟨#[112]⟩] 9))) := Lib.hid (HG3.out.alloc _)
    have HB : Hid (∀ b, (Value.slice A m cc).ownBlock = some b → w.heap.size ≤ b) := Lib.hid (fun b hb => own_of_ge HO3.out hb)
    have hsza := Lib.hid HGa.out.size
    have hlm := HL2.out
    go_wp2_with (first
      | (at_builtin; refine wpList_appOne w.heap.size _ _ rfl rfl _ L rfl HOa hsza.out _ ⟨#[112]⟩ rfl (rd_lit _ _ _) (by rw [HM.out]; omega) ?_; intro v8 w8 hown8 hgr8; have HO8 := Lib.hid hown8; have HG8 := Lib.hid hgr8; have hs8 := strs_slice hown8.strs; rw [List.length_append, List.length_singleton, HM.out] at hs8; obtain ⟨A8, c8, rfl⟩ := hs8; clear hown8 hgr8))
    go_ret2
    exact ⟨_, L ++ [(⟨#[112]⟩ : ByteArray)], tc, rfl, HO8.out, ⟨fits_snoc HQ.out.fits (by decide), by rw [List.length_append, HM.out, List.length_singleton]; omega, HQ.out.size⟩, src_row HSa.out HG8.out (fun b hb => by have := HB.out b hb; omega), only_row HGa.out HG8.out (fun b hb => HB.out b hb)⟩
  | false =>
  cases hr4 : (r3 == 1) with
  | true =>
    go_wp2_with fail
    go_ret2
    exact ⟨_, _, _, rfl, HO3.out, ⟨HQ.out.fits, HQ.out.len, by decide⟩, HS3.out, HG3.out⟩
  | false =>
  cases hr5 : (r3 == 2) with
  | true =>
    go_wp2_with fail
    refine (l02DrawP_c g cv N 3 (by omega) (by omega) 22 22 _ (by omega) (by omega) (by omega) HS3.out).mono ?_
    rintro e w4 ⟨v4, t, rfl, ho4, ht, hl4, hS4, hO4⟩
    have HT := Lib.hid ht
    have HS4 := Lib.hid hS4
    have HO4 := Lib.hid (own_srcS HO3.out hgl hO4)
    have HG4 : Hid (Only g w w4) := Lib.hid (HG3.out.trans hO4)
    obtain ⟨A4, n4, c4, rfl⟩ := slice3 ho4.nodes
    have KT := Lib.hid (l02Text_c t _ _ ho4.nodes (by have := ht.1; omega))
    have htx : Says w4 (Fm.txt t 0) = fun e w' => e = .returned (.string (tx t)) ∧ Grew w4 w' := rfl
    rw [htx] at KT
    clear hS4 hO4 ht hl4 ho4 htx
    go_wp2_with fail
    refine (KT.out).mono ?_
    rintro e w5 ⟨rfl, hg5⟩
    go_wp2_with fail
    go_ret2
    exact ⟨_, _, _, rfl, HO4.out.grew hg5, ⟨HQ.out.fits, HQ.out.len, by have := tx_size HT.out.1; omega⟩, HS4.out.grew hg5, HG4.out.grew hg5⟩
  | false =>
    go_wp2_with fail
    go_ret2
    exact ⟨_, _, _, rfl, HO3.out, HQ.out, HS3.out, HG3.out⟩
end Go.Proofs.YtmdbhcoioimlmaaGreat

/- The source made: l01From; the damage: l01Damage. -/
namespace Go.Proofs.YtmdbhcoioimlmaaGreat
open Go.RowKit

/-- The bytes that came in. -/
def ArgB (w : World) (v : Value) (N : Nat) : Prop :=
  (∃ A c, v = .slice A N c) ∧ N ≤ 9223372036854775807 ∧ (0 < N → ∃ b o c, v = .slice (some ⟨b, o, none⟩) N c ∧ b < w.heap.size ∧ N ≤ c ∧ c ≤ 9223372036854775807 ∧ ∀ j, j < N → ∃ x : Int, 0 ≤ x ∧ x ≤ 255 ∧ w.cell? ⟨b, o + j, none⟩ = some (.int .u8 x))
theorem ArgB.code {w w' : World} {v : Value} {N g : Nat} (h : ArgB w v N) (hN : N ≤ 4096) (hg : Grew w w') (hl : w.heap.size ≤ g) : Code w' g v N := by
  obtain ⟨h1, _, h2⟩ := h
  refine ⟨hN, h1, fun hp => ?_⟩
  obtain ⟨b, o, c, e, hb, hc, hm, hx⟩ := h2 hp
  refine ⟨b, o, c, e, by omega, hc, hm, fun j hj => ?_⟩
  obtain ⟨x, x0, x1, hcell⟩ := hx j hj
  exact ⟨x, x0, x1, (hg.cell (p := ⟨b, o + j, none⟩) hb).trans hcell⟩

theorem l01From_c (v : Value) (N : Nat) (w : World) (h : ArgB w v N) (hN : N ≤ 4096) :
    Calls Tryz.prog 59 #[v] w fun e w' => ∃ g, e = .returned (.pointer (some ⟨g, 0, none⟩)) ∧ w.heap.size ≤ g ∧ Src w' g v N ∧ Grew w w' := by
  have HC := Lib.hid (fun w' (hg : Grew w w') => h.code hN hg (Nat.le_refl w.heap.size))
  obtain ⟨⟨A, c, rfl⟩, hmax, h2⟩ := h
  have H2 := Lib.hid h2
  clear h2
  go_enter Tryz.func59, Tryz.ntmps59
  go_wp2_with fail
  have hnew := fun o => blk_new w o
  go_loopw [4] (fun i wr => ∃ (j : Nat) (x : Int), j ≤ N ∧ i = .int .i64 j ∧ 0 ≤ x ∧ x ≤ 18446744073709551615 ∧ wr.heap[w.heap.size]? = some (.cells #[.slice A N c, .int .i64 0, .int .u64 x] 88 (0, 0)) ∧ Grew w wr) (fun i _ => N - (intOf i).toNat)
  case atStart => exact ⟨0, _, Nat.zero_le _, rfl, by omega, by omega, hnew _, (Grew.refl w).alloc _⟩
  case round =>
    obtain ⟨j, x, hj, rfl, hx0, hx1, hb, hB⟩ := hrel
    by_cases hlt : j < N
    · obtain ⟨b, o, c', e, hbg, hc, hm, hx⟩ := H2.out (by omega)
      obtain ⟨y, hy0, hy1, k1⟩ := hx j hlt
      obtain ⟨rfl, rfl⟩ : A = some ⟨b, o, none⟩ ∧ c = c' := by simpa using e
      have k2 := (hB.cell (p := ⟨b, o + j, none⟩) hbg).trans k1
      have c2 : wr.cell? ⟨w.heap.size, 2, none⟩ = some (.int .u64 x) := by rw [blk_cell hb]; rfl
      have f2 := blk_frozen hb 2
      have HB := Lib.hid hb
      have h4 : (j : Int) < 4096 := by omega
      clear hb e hx k1
      go_wp2_with fail
      have hw0 : ∀ z : Int, 0 ≤ IntKind.u64.wrap z := fun z => by rw [IntKind.wrap_u64]; omega
      have hw1 : ∀ z : Int, IntKind.u64.wrap z ≤ 18446744073709551615 := fun z => by rw [IntKind.wrap_u64]; omega
      have HW0 := Lib.hid hw0
      have HW1 := Lib.hid hw1
      clear hw0 hw1
      go_region
      go_wp2_with fail
      go_roundw
      case rel => exact ⟨j + 1, _, by omega, by go_num, HW0.out _, HW1.out _, blk_set (w := wr.drewN _) HB.out 2 _, (hB.drewN _).setCell (Nat.le_refl _) _⟩
      case measure => simp [intOf]; omega
    · go_wp2_with fail
      go_ret
      exact ⟨_, rfl, Nat.le_refl _, ⟨HC.out _ hB, 0, x, Nat.zero_le _, hx0, hx1, hb⟩, hB⟩
end Go.Proofs.YtmdbhcoioimlmaaGreat

/- DrawProvedDisjunct and DrawMinimalLeft give texts, whatever the bytes. -/
namespace Go.Proofs.YtmdbhcoioimlmaaGreat
open Go.RowKit
open Fm (Nd Tree)

def DrawnPd (w : World) (e : Ending) (w' : World) : Prop :=
  ∃ v L a b, e = .returned (.tuple #[v, .string a, .string b]) ∧ Strs w' v L ∧ Dr L a ∧ b.size ≤ 1000 ∧ Grew w w'
set_option maxHeartbeats 2000000 in
theorem drawPd_c (v : Value) (N : Nat) (w : World) (h : ArgB w v N) (hN : N ≤ 4096) :
    Calls Tryz.prog 26 #[v] w (DrawnPd w) := by
  have HF := Lib.hid (l01From_c v N w h hN)
  clear h
  go_enter Tryz.func26, Tryz.ntmps26
  go_wp2_with fail
  refine HF.out.mono ?_
  rintro e w1 ⟨g, rfl, hgw, hS1, hg1⟩
  have HS1 := Lib.hid hS1
  have HG1 := Lib.hid hg1
  have KS := Lib.hid (fun W (hS : Src W g v N) => l23Draw_c g v N W hS)
  unfold DrawnS at KS
  have hgl := hS1.lt
  clear hS1 hg1
  go_wp2_with fail
  refine (KS.out _ HS1.out).mono ?_
  rintro e w2 ⟨u2, L2, s2, rfl, hO2, hd2, hS2, ho2⟩
  have HG2 : Hid (Grew w w2) := Lib.hid (ho2.grew_of HG1.out hgw)
  have HS2 := Lib.hid hS2
  have HO2 := Lib.hid hO2
  have HD2 := Lib.hid hd2
  have hs2 := hd2.size
  obtain ⟨A2, c2, rfl⟩ := strs_slice hO2.strs
  clear hO2 hd2 hS2 ho2
  generalize L2.length = m2 at *
  go_wp2_with fail
  refine (KS.out _ HS2.out).mono ?_
  rintro e w3 ⟨u3, L3, s3, rfl, hO3, hd3, hS3, ho3⟩
  have HG3 : Hid (Grew w w3) := Lib.hid (ho3.grew_of HG2.out hgw)
  have HS3 := Lib.hid hS3
  have HO23 := Lib.hid (own_srcS HO2.out hgl ho3)
  have hs3 := hd3.size
  obtain ⟨A3, c3, rfl⟩ := strs_slice hO3.strs
  clear hO3 hS3 ho3
  generalize L3.length = m3 at *
  go_wp2_with fail
  refine (l01Next_c g v N 2 _ HS3.out (by omega)).mono ?_
  rintro e w4 ⟨r4, rfl, _, _, _, hS4, ho4⟩
  have HG4 : Hid (Grew w w4) := Lib.hid (ho4.grew_of HG3.out hgw)
  have HO24 := Lib.hid (own_srcS HO23.out hgl ho4)
  clear hS4 ho4
  cases he0 : (r4 == 0) with
  | true =>
    go_wp2_with fail
    go_ret3
    exact ⟨_, L2, s3, s2, rfl, HO24.out.strs, ⟨HD2.out.fits, HD2.out.len, hs3⟩, hs2, HG4.out⟩
  | false =>
    go_wp2_with fail
    go_ret3
    exact ⟨_, L2, s2, s3, rfl, HO24.out.strs, HD2.out, hs3, HG4.out⟩
end Go.Proofs.YtmdbhcoioimlmaaGreat

/- The bytes that came in: as before in a later world; are they many? -/
namespace Go.Proofs.YtmdbhcoioimlmaaGreat
open Go.RowKit

theorem ArgB.grew {w W : World} {v : Value} {N : Nat} (h : ArgB w v N) (hW : Grew w W) : ArgB W v N := by
  obtain ⟨h1, h2, h3⟩ := h
  refine ⟨h1, h2, fun hp => ?_⟩
  obtain ⟨b, o, c, e, hb, hc, hm, hx⟩ := h3 hp
  refine ⟨b, o, c, e, Nat.lt_of_lt_of_le hb hW.size, hc, hm, fun j hj => ?_⟩
  obtain ⟨x, x0, x1, hcell⟩ := hx j hj
  exact ⟨x, x0, x1, (hW.cell (p := ⟨b, o + j, none⟩) hb).trans hcell⟩
theorem big_c (v : Value) (N : Nat) (w : World) (h : ∃ A c, v = .slice A N c) :
    Calls Tryz.prog 25 #[v] w fun e w' => e = .returned (.bool (decide (4096 < N))) ∧ Grew w w' := by
  obtain ⟨A, c, rfl⟩ := h
  by_cases hb : 4096 < N
  · rw [decide_eq_true hb]
    go_enter Tryz.func25, Tryz.ntmps25
    go_wp2_with fail
    go_ret
    exact ⟨by simp; omega, Grew.refl _⟩
  · rw [decide_eq_false hb]
    go_enter Tryz.func25, Tryz.ntmps25
    go_wp2_with fail
    go_ret
    exact ⟨by simp; omega, Grew.refl _⟩
end Go.Proofs.YtmdbhcoioimlmaaGreat

/- The law FnDisjunctions, walked. Printed by djgen.py. -/
namespace Go.Proofs.YtmdbhcoioimlmaaGreat
open Go.RowKit
open Fm (Nd Tree)

set_option maxHeartbeats 4000000 in
theorem lawDj_c (v : Value) (N : Nat) (w : World) (h : ArgB w v N) :
    Calls Tryz.prog 8 #[v] w fun e w' => e = .returned (.bool true) ∧ Grew w w' := by
  have HB := big_c v N w h.1
  by_cases hbig : 4096 < N
  · rw [decide_eq_true hbig] at HB
    replace HB := Lib.hid HB
    obtain ⟨⟨A, c, rfl⟩, _⟩ := h
    go_enter Tryz.func8, Tryz.ntmps8
    go_wp2_with fail
    refine HB.out.mono ?_
    rintro e w1 ⟨rfl, hg1⟩
    go_wp2_with fail
    go_ret
    exact ⟨rfl, hg1⟩
  rw [decide_eq_false hbig] at HB
  replace HB := Lib.hid HB
  have HD := Lib.hid (fun W (hW : Grew w W) => drawPd_c v N W (h.grew hW) (by omega))
  unfold DrawnPd at HD
  obtain ⟨⟨A, c, rfl⟩, _⟩ := h
  go_enter Tryz.func8, Tryz.ntmps8
  go_wp2_with fail
  refine HB.out.mono ?_
  rintro e w1 ⟨rfl, hg1⟩
  go_wp2_with fail
  refine (HD.out _ hg1).mono ?_
  rintro e w2 ⟨u, L, a, b, rfl, hL, hd, hb, hg2⟩
  have g2 := hg1.trans hg2
  have HL := Lib.hid hL
  have hfit := Lib.hid hd.fits
  have hlen := hd.len
  have hsa := hd.size
  have KI := Lib.hid (fun W (hW : Grew w2 W) => implPd_c u L a b W (hL.grew hW) hfit.out (by omega) (by omega) (by omega))
  have KS := Lib.hid (fun W (hW : Grew w2 W) => specPd_c u L a b W (hL.grew hW) hfit.out (by omega) (by omega) (by omega))
  have P1 := Lib.hid (fun W (hW : Grew w2 W) => implPv_c u L a W (hL.grew hW) hfit.out (by omega) (by omega))
  have P2 := Lib.hid (fun W (hW : Grew w2 W) => implPv_c u L b W (hL.grew hW) hfit.out (by omega) (by omega))
  have KE := Lib.hid (fun W => implPd_c _ [] a b _ (own_emptyS' W).strs (fun i hi => by simp at hi) (by simp) (by omega) (by omega))
  have hcs := dj_cases L a b
  have r2 := Grew.refl w2
  obtain ⟨A2, c2, rfl⟩ := strs_slice hL
  unfold GivesII at KI KS KE
  unfold GivesBI at P1 P2
  clear hL hd HB HD
  generalize L.length = n at *
  rcases hcs with ⟨cc, hpd, hcc⟩ | ⟨nn1, R1, R2, m, hdj⟩
  · rw [hpd] at KI KS
    clear hpd P1 P2 KE HL
    simp only at KI KS
    have hcc1 : (cc != cc) = false := by simp
    go_wp2_with fail
    refine (KI.out _ r2).mono ?_
    rintro e w3 ⟨rfl, hg3⟩
    go_wp2_with fail
    refine (KS.out _ hg3).mono ?_
    rintro e w4 ⟨rfl, hg4⟩
    go_wp2_with fail
    go_ret
    exact ⟨by rfl, (g2.trans hg3).trans hg4⟩
  obtain ⟨h1, h2, h3, h4, h5, h6⟩ := hdj
  rw [h1] at KI KS
  rw [h2] at P1
  rw [h3] at P2
  rw [h4] at KE
  simp only at KI KS P1 P2 KE
  have hm : (m != 0) = true := by simpa using h5
  clear h1 h2 h3 h4 h5 HL
  rcases h6 with ⟨rfl, rfl⟩ | ⟨rfl, rfl, rfl⟩ | ⟨rfl, rfl, h7, h8⟩
  · have h7 : ((1 : Int) == 1) = true := by decide
    go_wp2_with fail
    refine (KI.out _ r2).mono ?_
    rintro e w3 ⟨rfl, hg3⟩
    go_wp2_with fail
    refine (KS.out _ hg3).mono ?_
    rintro e w4 ⟨rfl, hg4⟩
    have k4 := hg3.trans hg4
    go_wp2_with fail
    refine (P1.out _ k4).mono ?_
    rintro e w5 ⟨rfl, hg5⟩
    have k5 := k4.trans hg5
    go_wp2_with fail
    refine (P2.out _ k5).mono ?_
    rintro e w6 ⟨rfl, hg6⟩
    have k6 := k5.trans hg6
    go_wp2_with fail
    refine (KE.out _).mono ?_
    rintro e w7 ⟨rfl, hg7⟩
    go_wp2_with fail
    go_ret
    exact ⟨by first | rfl | simp_all, g2.trans (k6.trans (((Grew.refl w6).alloc _).trans hg7))⟩
  · have h7 : ((2 : Int) == 1) = false := by decide
    have h8 : ((2 : Int) == 2) = true := by decide
    go_wp2_with fail
    refine (KI.out _ r2).mono ?_
    rintro e w3 ⟨rfl, hg3⟩
    go_wp2_with fail
    refine (KS.out _ hg3).mono ?_
    rintro e w4 ⟨rfl, hg4⟩
    have k4 := hg3.trans hg4
    go_wp2_with fail
    refine (P1.out _ k4).mono ?_
    rintro e w5 ⟨rfl, hg5⟩
    have k5 := k4.trans hg5
    go_wp2_with fail
    refine (P2.out _ k5).mono ?_
    rintro e w6 ⟨rfl, hg6⟩
    have k6 := k5.trans hg6
    go_wp2_with fail
    refine (KE.out _).mono ?_
    rintro e w7 ⟨rfl, hg7⟩
    go_wp2_with fail
    go_ret
    exact ⟨by first | rfl | simp_all, g2.trans (k6.trans (((Grew.refl w6).alloc _).trans hg7))⟩
  · have h9 : (nn1 != nn1) = false := by simp
    go_wp2_with fail
    refine (KI.out _ r2).mono ?_
    rintro e w3 ⟨rfl, hg3⟩
    go_wp2_with fail
    refine (KS.out _ hg3).mono ?_
    rintro e w4 ⟨rfl, hg4⟩
    have k4 := hg3.trans hg4
    go_wp2_with fail
    refine (P1.out _ k4).mono ?_
    rintro e w5 ⟨rfl, hg5⟩
    have k5 := k4.trans hg5
    go_wp2_with fail
    refine (P2.out _ k5).mono ?_
    rintro e w6 ⟨rfl, hg6⟩
    have k6 := k5.trans hg6
    go_wp2_with fail
    refine (KE.out _).mono ?_
    rintro e w7 ⟨rfl, hg7⟩
    go_wp2_with fail
    go_ret
    exact ⟨by first | rfl | simp_all, g2.trans (k6.trans (((Grew.refl w6).alloc _).trans hg7))⟩
end Go.Proofs.YtmdbhcoioimlmaaGreat

/- An argument that is a list of strings, or a struct of two such lists. -/
namespace Go.Proofs.YtmdbhcoioimlmaaGreat
open Go.RowKit

theorem cell_lt {w : World} {a : Addr} {u : Value} (h : w.cell? a = some u) : a.block < w.heap.size := by
  unfold World.cell? at h
  split at h
  · rename_i hh
    exact (Array.getElem?_eq_some_iff.1 hh).1
  · cases h

theorem argS_of_trod {H : Type} {enc : TypeId × Value → H} {P : Program} {W : World} {sp : Nat → Bool} {held : Bool} {n : Nat} {t e : TypeId} {v : Value} {y : DataW H × List MemPlace}
    (ht : P.underlying t = some (.slice e)) (he : P.underlying e = some .string) (hc : P.cellsOf e = 1) (h : DataW.trod enc P W 0 sp held n t [v] = some y) : ∃ L, ArgS W v L := by
  rcases Go.Deep.open_strs ht he hc h with ⟨hv, _⟩ | ⟨a, len, cap, m, Sx, hv, _, hl, hm, hmm, _, hcell⟩
  · obtain rfl : v = .slice none 0 0 := by simpa using hv
    exact ⟨[], ⟨none, 0, rfl, by simp⟩, fun h => absurd h (by simp), fun i hi => absurd hi (by simp)⟩
  · obtain rfl : v = .slice (some a) len cap := by simpa using hv
    have hlm : len ≤ m := by rw [hmm]; split <;> omega
    have hmax : maxLen = 9223372036854775807 := by decide
    rw [hmax] at hm
    have hlen : ((List.range len).map Sx).length = len := by simp
    have hst : ∀ i, i < len → st ((List.range len).map Sx) i = Sx i := fun i hi => by simp [st, List.getD, hi]
    refine ⟨(List.range len).map Sx, ⟨some a, cap, by rw [hlen], by rw [hlen]; omega⟩, fun hp => ?_, fun i hi => ?_⟩
    · rw [hlen] at hp
      obtain ⟨b, off, spot⟩ := a
      have h0 := (hcell 0 (by omega)).1
      have hspot : spot = none := by simpa [Addr.add] using World.cell?_spot h0
      subst hspot
      have hb := cell_lt h0
      have hadd : ∀ i, (⟨b, off, none⟩ : Addr).add i = ⟨b, off + i, none⟩ := fun i => by
        unfold Addr.add
        split
        · subst_vars; rfl
        · rfl
      rw [hadd] at hb
      unfold Strs Rd
      rw [hlen]
      refine ⟨by rw [scells_length, hlen], by omega, .inr ⟨b, off, cap, rfl, hl, hm, hb, fun j u hu => ?_⟩⟩
      have hj : j < len := by
        have := (List.getElem?_eq_some_iff.1 hu).1
        rw [scells_length, hlen] at this
        omega
      rw [scells_at (by rw [hlen]; exact hj), hst j hj] at hu
      rw [← hadd, (hcell j (by omega)).1]
      exact hu
    · rw [hlen] at hi
      rw [hst i hi, ← hmax]
      exact (hcell i (by omega)).2
end Go.Proofs.YtmdbhcoioimlmaaGreat

/- An argument that is a list of bytes. -/
namespace Go.Proofs.YtmdbhcoioimlmaaGreat
open Go.RowKit

theorem argB_of_trod {H : Type} {enc : TypeId × Value → H} {P : Program} {W : World} {sp : Nat → Bool} {held : Bool} {n : Nat} {t e : TypeId} {v : Value} {y : DataW H × List MemPlace}
    (ht : P.underlying t = some (.slice e)) (he : P.underlying e = some (.int .u8)) (hc : P.cellsOf e = 1) (h : DataW.trod enc P W 0 sp held n t [v] = some y) : ∃ N, ArgB W v N := by
  rcases Go.ChangeShapes.open_ints ht he hc h with ⟨hv, _⟩ | ⟨a, len, cap, zs, hv, _, hl, hm, hz, _, hcell, hwf⟩
  · obtain rfl : v = .slice none 0 0 := by simpa using hv
    exact ⟨0, ⟨none, 0, rfl⟩, by omega, fun h => absurd h (by omega)⟩
  · obtain rfl : v = .slice (some a) len cap := by simpa using hv
    have hlm : len ≤ zs.length := by rw [hz]; split <;> omega
    have hmax : maxLen = 9223372036854775807 := by decide
    rw [hmax] at hm
    refine ⟨len, ⟨some a, cap, rfl⟩, by omega, fun hp => ?_⟩
    obtain ⟨b, off, spot⟩ := a
    have h0 := hcell 0 (by omega)
    have hspot : spot = none := by simpa [Addr.add] using World.cell?_spot h0
    subst hspot
    have hb := cell_lt h0
    have hadd : ∀ i, (⟨b, off, none⟩ : Addr).add i = ⟨b, off + i, none⟩ := fun i => by
      unfold Addr.add
      split
      · subst_vars; rfl
      · rfl
    rw [hadd] at hb
    refine ⟨b, off, cap, rfl, hb, hl, hm, fun j hj => ⟨zs.getD j 0, ?_, ?_, ?_⟩⟩
    · have hw := hwf (zs.getD j 0) (by simp [List.getD, show j < zs.length by omega])
      simp [Lit.wf, IntKind.min, IntKind.max, IntKind.signed, IntKind.bits] at hw
      have := hw.1
      simpa [List.getD] using this
    · have hw := hwf (zs.getD j 0) (by simp [List.getD, show j < zs.length by omega])
      simp [Lit.wf, IntKind.min, IntKind.max, IntKind.signed, IntKind.bits] at hw
      have := hw.2
      simp [List.getD] at this ⊢
      omega
    · rw [← hadd]
      exact hcell j (by omega)
end Go.Proofs.YtmdbhcoioimlmaaGreat

/- DrawMinimalLeft gives texts, whatever the bytes. -/
namespace Go.Proofs.YtmdbhcoioimlmaaGreat
open Go.RowKit
open Fm (Nd Tree)

theorem fits_of_mem {K : List ByteArray} (h : ∀ x ∈ K, x.size ≤ 1048576) : Fits K := fun i hi => by
  rw [← st_get hi]; exact h _ (List.getElem_mem hi)
theorem Fits.mem {K : List ByteArray} (h : Fits K) {x : ByteArray} (hx : x ∈ K) : x.size ≤ 1048576 := by
  obtain ⟨i, hi, rfl⟩ := List.getElem_of_mem hx
  rw [st_get hi]; exact h i hi
theorem Fits.erase {K : List ByteArray} (h : Fits K) (i : Nat) : Fits (K.eraseIdx i) := fits_of_mem fun _ hx => h.mem ((List.eraseIdx_sublist K i).subset hx)
theorem src_strs {w w' : World} {g : Nat} {cv v : Value} {N : Nat} {L : List ByteArray} (h : Strs w v L) (hS : Src w g cv N) (ho : Only g w w') : Strs w' v L := by
  obtain ⟨h1, h2, h3⟩ := h
  refine ⟨h1, h2, ?_⟩
  rcases h3 with h3 | ⟨b, o, c, rfl, h4, h5, h6, h7⟩
  · exact .inl h3
  · refine .inr ⟨b, o, c, rfl, h4, h5, Nat.lt_of_lt_of_le h6 ho.size, fun j u hu => ?_⟩
    have hc := h7 j u hu
    have hne : b ≠ g := by
      rintro rfl
      obtain ⟨⟨_, ⟨A, cc, e⟩, _⟩, i, x, _, _, _, hb⟩ := hS
      rw [blk_cell hb] at hc
      have hsc : ∃ s, u = .string s := by
        unfold scells at hu
        rw [List.getElem?_map] at hu
        cases hl : L[j]? with
        | none => rw [hl] at hu; cases hu
        | some s => rw [hl] at hu; exact ⟨s, by simpa using hu.symm⟩
      obtain ⟨s, rfl⟩ := hsc
      have hlt : o + j < 3 := by
        have := (Array.getElem?_eq_some_iff.1 hc).1
        simpa using this
      have h012 : o + j = 0 ∨ o + j = 1 ∨ o + j = 2 := by omega
      rcases h012 with h0 | h0 | h0 <;> rw [h0] at hc
      · rw [e] at hc; simp at hc
      · simp at hc
      · simp at hc
    exact (ho.cell (p := ⟨b, o + j, none⟩) h6 hne).trans hc
def DrawnMl (w : World) (e : Ending) (w' : World) : Prop :=
  ∃ v L s, e = .returned (.tuple #[v, .string s]) ∧ Strs w' v L ∧ Fits L ∧ L.length ≤ 1000 ∧ s.size ≤ 1000 ∧ Grew w w'
/-- The second half: a text is put in, or none. -/
theorem fits_ins {L K : List ByteArray} {s : ByteArray} (h : Fits L) (hs : s.size ≤ 1048576) (hi : InsB L s K) : Fits K := fits_of_mem fun x hx => by
  rcases insB_mem hi hx with h1 | rfl
  · exact h.mem h1
  · exact hs
set_option maxHeartbeats 4000000 in
theorem drawMl_c (v : Value) (N : Nat) (w : World) (h : ArgB w v N) (hN : N ≤ 4096) :
    Calls Tryz.prog 27 #[v] w (DrawnMl w) := by
  have HF := Lib.hid (l01From_c v N w h hN)
  clear h
  go_enter Tryz.func27, Tryz.ntmps27
  go_wp2_with fail
  refine HF.out.mono ?_
  rintro e w1 ⟨g, rfl, hgw, hS1, hg1⟩
  have HS1 := Lib.hid hS1
  have HG1 := Lib.hid hg1
  have KT := Lib.hid (fun W (hS : Src W g v N) => l22Theorem_c g v N W hS)
  have KD := Lib.hid (fun W (hS : Src W g v N) => l23Draw_c g v N W hS)
  unfold DrawnS at KD
  unfold SidesP at KT
  clear hS1 hg1
  go_wp2_with fail
  refine (KT.out _ HS1.out).mono ?_
  rintro e w2 ⟨u2, Ts, c, rfl, hO2, hq2, hS2, ho2⟩
  have HG2 : Hid (Grew w w2) := Lib.hid (ho2.grew_of HG1.out hgw)
  have HS2 := Lib.hid hS2
  have HO2 := Lib.hid hO2.strs
  have HD2 := Lib.hid hq2.dr
  obtain ⟨A2, c2, rfl⟩ := strs_slice hO2.strs
  clear hO2 hq2 hS2 ho2
  generalize Ts.map tx = L2 at *
  generalize tx c = s2 at *
  generalize hm2 : L2.length = m2 at *
  have HM2 := Lib.hid hm2
  clear hm2
  go_wp2_with fail
  refine (l01Next_c g v N 3 _ HS2.out (by omega)).mono ?_
  rintro e w3 ⟨r3, rfl, _, _, _, hS3, ho3⟩
  have HG3 : Hid (Grew w w3) := Lib.hid (ho3.grew_of HG2.out hgw)
  have HS3 := Lib.hid hS3
  have HO3 := Lib.hid (src_strs HO2.out HS2.out ho3)
  clear hS3 ho3
  cases he0 : (r3 == 0) with
  | true =>
    go_wp2_with fail
    refine (KD.out _ HS3.out).mono ?_
    rintro e w4 ⟨u4, L4, s4, rfl, hO4, hd4, hS4, ho4⟩
    have HG4 : Hid (Grew w w4) := Lib.hid (ho4.grew_of HG3.out hgw)
    have HS4 := Lib.hid hS4
    have HO4 := Lib.hid hO4.strs
    have HD4 := Lib.hid hd4
    obtain ⟨A4, c4, rfl⟩ := strs_slice hO4.strs
    clear hO4 hd4 hS4 ho4 HO3 HO2 HD2
    generalize hm4 : L4.length = m4 at *
    have HM4 := Lib.hid hm4
    clear hm4
    go_wp2_with fail
    refine (l01Next_c g v N 2 _ HS4.out (by omega)).mono ?_
    rintro e w5 ⟨r5, rfl, _, _, _, hS5, ho5⟩
    have HG5 : Hid (Grew w w5) := Lib.hid (ho5.grew_of HG4.out hgw)
    have HS5 := Lib.hid hS5
    have HO5 := Lib.hid (src_strs HO4.out HS4.out ho5)
    clear hS5 ho5
    cases he5 : (r5 == 0) with
    | false =>
      go_wp2_with fail
      go_ret2
      exact ⟨_, L4, s4, rfl, HO5.out, HD4.out.fits, by have := HD4.out.len; omega, HD4.out.size, HG5.out⟩
    | true =>
      go_wp2_with fail
      refine (l02DrawP_c g v N 3 (by omega) (by omega) 3 3 _ (by omega) (by omega) (by omega) HS5.out).mono ?_
      rintro e w6 ⟨v6, t, rfl, ho6, ht, hl6, hS6, hO6⟩
      have HT := Lib.hid ht
      have HG6 : Hid (Grew w w6) := Lib.hid (hO6.grew_of HG5.out hgw)
      have HO6 := Lib.hid (src_strs HO5.out HS5.out hO6)
      obtain ⟨A6, n6, c6, rfl⟩ := slice3 ho6.nodes
      have KX := Lib.hid (l02Text_c t _ _ ho6.nodes (by have := ht.1; omega))
      have htx : Says w6 (Fm.txt t 0) = fun e w' => e = .returned (.string (tx t)) ∧ Grew w6 w' := rfl
      rw [htx] at KX
      have hts := tx_size ht.1
      clear hS6 hO6 ht hl6 ho6 htx
      generalize tx t = tt at *
      go_wp2_with fail
      refine (KX.out).mono ?_
      rintro e w7 ⟨rfl, hg7⟩
      have KI := Lib.hid (l02Insert_c _ L4 tt w7 (HO6.out.grew hg7) (by have := HD4.out.len; omega))
      unfold GivesIn at KI
      have HG7 := Lib.hid (HG6.out.trans hg7)
      go_wp2_with fail
      refine (KI.out).mono ?_
      rintro e w8 ⟨u8, K8, rfl, hu8, hi8, hg8⟩
      obtain ⟨A8, c8, rfl⟩ := strs_slice hu8
      have HU8 := Lib.hid hu8
      have HI8 := Lib.hid hi8
      clear hu8 hi8
      generalize hm8 : K8.length = m8 at *
      have HM8 := Lib.hid hm8
      clear hm8
      go_wp2_with fail
      go_ret2
      exact ⟨_, K8, s4, rfl, HU8.out, fits_ins HD4.out.fits (by omega) HI8.out, by have := insB_len HI8.out; have := HD4.out.len; omega, HD4.out.size, HG7.out.trans hg8⟩
  | false =>
    have HS4 := HS3
    have HG4 := HG3
    have HO4 := HO3
    have HD4 := HD2
    have HM4 := HM2
    clear HS3 HG3 HO3 HD2 HM2
    go_wp2_with fail
    refine (l01Next_c g v N 2 _ HS4.out (by omega)).mono ?_
    rintro e w5 ⟨r5, rfl, _, _, _, hS5, ho5⟩
    have HG5 : Hid (Grew w w5) := Lib.hid (ho5.grew_of HG4.out hgw)
    have HS5 := Lib.hid hS5
    have HO5 := Lib.hid (src_strs HO4.out HS4.out ho5)
    clear hS5 ho5
    cases he5 : (r5 == 0) with
    | false =>
      go_wp2_with fail
      go_ret2
      exact ⟨_, L2, s2, rfl, HO5.out, HD4.out.fits, by have := HD4.out.len; omega, HD4.out.size, HG5.out⟩
    | true =>
      go_wp2_with fail
      refine (l02DrawP_c g v N 3 (by omega) (by omega) 3 3 _ (by omega) (by omega) (by omega) HS5.out).mono ?_
      rintro e w6 ⟨v6, t, rfl, ho6, ht, hl6, hS6, hO6⟩
      have HT := Lib.hid ht
      have HG6 : Hid (Grew w w6) := Lib.hid (hO6.grew_of HG5.out hgw)
      have HO6 := Lib.hid (src_strs HO5.out HS5.out hO6)
      obtain ⟨A6, n6, c6, rfl⟩ := slice3 ho6.nodes
      have KX := Lib.hid (l02Text_c t _ _ ho6.nodes (by have := ht.1; omega))
      have htx : Says w6 (Fm.txt t 0) = fun e w' => e = .returned (.string (tx t)) ∧ Grew w6 w' := rfl
      rw [htx] at KX
      have hts := tx_size ht.1
      clear hS6 hO6 ht hl6 ho6 htx
      generalize tx t = tt at *
      go_wp2_with fail
      refine (KX.out).mono ?_
      rintro e w7 ⟨rfl, hg7⟩
      have KI := Lib.hid (l02Insert_c _ L2 tt w7 (HO6.out.grew hg7) (by have := HD4.out.len; omega))
      unfold GivesIn at KI
      have HG7 := Lib.hid (HG6.out.trans hg7)
      go_wp2_with fail
      refine (KI.out).mono ?_
      rintro e w8 ⟨u8, K8, rfl, hu8, hi8, hg8⟩
      obtain ⟨A8, c8, rfl⟩ := strs_slice hu8
      have HU8 := Lib.hid hu8
      have HI8 := Lib.hid hi8
      clear hu8 hi8
      generalize hm8 : K8.length = m8 at *
      have HM8 := Lib.hid hm8
      clear hm8
      go_wp2_with fail
      go_ret2
      exact ⟨_, K8, s2, rfl, HU8.out, fits_ins HD4.out.fits (by omega) HI8.out, by have := insB_len HI8.out; have := HD4.out.len; omega, HD4.out.size, HG7.out.trans hg8⟩
end Go.Proofs.YtmdbhcoioimlmaaGreat

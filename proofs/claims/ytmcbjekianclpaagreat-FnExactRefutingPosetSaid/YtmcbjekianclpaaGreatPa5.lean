/- Texts in one file: RpS IntArg IntLaw IntEq PoL IntMark PoM EqN NdLaw Eq LawRps ArgN. -/
import Derived.Deep.RegionHeld3
import Derived.Deep.LoopGhost
import Derived.Deep.OwnRows
import Derived.Deep.SlicePairs
import Derived.Lib.SmallJoins
import Derived.Carry
import Derived.ProofKit
import Derived.Test.YtmcbjekianclpaaGreatPa1
import Derived.Test.YtmcbjekianclpaaGreatPa2
import Derived.Test.YtmcbjekianclpaaGreatPa3
import Derived.Test.YtmcbjekianclpaaGreatPa4
set_option linter.all false

/- The reference's RefutingPoset. -/
namespace Go.Proofs.YtmcbjekianclpaaGreat
open Go.RowKit
open Fm (Nd Tree)

theorem spsts_le {k : Nat} : ∀ {m : Nat}, k ≤ m → ∃ R, spsts m = spsts k ++ R
  | 0, h => ⟨[], by obtain rfl : k = 0 := by omega
                    simp⟩
  | m + 1, h => by
    by_cases hk : k ≤ m
    · obtain ⟨R, hR⟩ := spsts_le hk
      exact ⟨R ++ psts (m + 1), by rw [spsts_succ, hR, List.append_assoc]⟩
    · obtain rfl : k = m + 1 := by omega
      exact ⟨[], by simp⟩

set_option maxHeartbeats 2000000 in
theorem refutingPoset_s (va : Value) (xs : List Nd) (w : World) (ha : Nodes w va xs) (hn : xs.length ≤ 1048576) :
    Calls Tryz.prog 5 #[va] w (GivesR w xs) := by
  have hinfo := info2P
  have HF := Lib.hid (fun W (hW : Grew w W) => l02Is_c va xs W (ha.grew hW) (by omega))
  have HPl := Lib.hid (fun W (hW : Grew w W) => l02Plain_c va xs W (ha.grew hW) (by omega))
  obtain ⟨w0, hw0⟩ : ∃ w0, w0 = w.alloc (.cells #[.int .i64 0, .slice none 0 0] 26) := ⟨_, rfl⟩
  have hg0 : Grew w w0 := by rw [hw0]; exact (Grew.refl w).alloc _
  have HB0 := Lib.hid (show w0.heap[w.heap.size]? = some (.cells #[.int .i64 0, .slice none 0 0] 26 (0, 0)) by rw [hw0]; exact blk_new w _)
  have HA := Lib.hid ha
  obtain ⟨A1, c1, rfl⟩ := nodes_slice ha
  clear ha
  have hnx := hn
  generalize hxl : xs.length = nx at HF HPl hn ⊢
  cases hf : fmB xs with
  | false =>
    have hR := Lib.hid (rfR_bad hf)
    rw [hf] at HF
    go_enter Tryz.func5, Tryz.ntmps5
    go_wp2_with fail
    simp only [← hw0]
    clear hw0
    refine (HF.out _ hg0).mono ?_
    rintro e w2 ⟨rfl, hg2⟩
    have hb2 := ((hg2).block (blk_lt HB0.out)).trans HB0.out
    have q0 : w2.cell? ⟨w.heap.size, 0, none⟩ = some (.int .i64 0) := by rw [blk_cell hb2]; rfl
    have q1 : w2.cell? ⟨w.heap.size, 1, none⟩ = some (.slice none 0 0) := by rw [blk_cell hb2]; rfl
    have qf0 := blk_frozen hb2 0
    have qf1 := blk_frozen hb2 1
    have HB2 := Lib.hid hb2
    clear hb2
    go_wp2_with fail
    (try simp only [Exit.inBlock, Exit.then])
    refine bodyPost_ret (results_cell_tmp_rowX rfl _ _ w.heap.size _ _ _ _ rfl (blk_set (blk_set HB2.out 0 _) 1 _) Tryz.underlying26 rfl hinfo) rfl ?_
    exact gives_nil hR.out (((hg0.trans (hg2)).setCell (Nat.le_refl _) _).setCell (Nat.le_refl _) _)
  | true =>
    rw [hf] at HF
    cases hbx : anyP isBD xs with
    | true =>
      have hR := Lib.hid (rfR_box hf hbx)
      rw [hbx] at HPl
      clear hf hbx
      go_enter Tryz.func5, Tryz.ntmps5
      go_wp2_with fail
      simp only [← hw0]
      clear hw0
      refine (HF.out _ hg0).mono ?_
      rintro e w2 ⟨rfl, hg2⟩
      go_wp2_with fail
      refine (HPl.out _ (hg0.trans hg2)).mono ?_
      rintro e w3 ⟨rfl, hg3⟩
      have hb2 := ((hg2.trans hg3).block (blk_lt HB0.out)).trans HB0.out
      have q0 : w3.cell? ⟨w.heap.size, 0, none⟩ = some (.int .i64 0) := by rw [blk_cell hb2]; rfl
      have q1 : w3.cell? ⟨w.heap.size, 1, none⟩ = some (.slice none 0 0) := by rw [blk_cell hb2]; rfl
      have qf0 := blk_frozen hb2 0
      have qf1 := blk_frozen hb2 1
      have HB2 := Lib.hid hb2
      clear hb2
      go_wp2_with fail
      (try simp only [Exit.inBlock, Exit.then])
      refine bodyPost_ret (results_cell_tmp_rowX rfl _ _ w.heap.size _ _ _ _ rfl (blk_set (blk_set HB2.out 0 _) 1 _) Tryz.underlying26 rfl hinfo) rfl ?_
      exact gives_nil hR.out (((hg0.trans (hg2.trans hg3)).setCell (Nat.le_refl _) _).setCell (Nat.le_refl _) _)
    | false =>
      rw [hbx] at HPl
      have hvs := vs_fm hf
      have HVI := Lib.hid (fun W (hW : Grew w W) => l02Variables_c _ xs W (HA.out.grew hW) hvs hnx)
      have HMF := Lib.hid (And.intro hf hbx)
      have hR3 := Lib.hid (rfR_many hf hbx)
      rw [hxl] at HVI
      clear hf hbx hvs
      go_enter Tryz.func5, Tryz.ntmps5
      go_wp2_with fail
      simp only [← hw0]
      clear hw0
      refine (HF.out _ hg0).mono ?_
      rintro e w2 ⟨rfl, hg2⟩
      go_wp2_with fail
      refine (HPl.out _ (hg0.trans hg2)).mono ?_
      rintro e w3 ⟨rfl, hg3⟩
      go_wp2_with fail
      refine (HVI.out _ ((hg0.trans hg2).trans hg3)).mono ?_
      rintro e w4 ⟨v4, rfl, hO4, hg4⟩
      have hg34 := (hg2.trans hg3).trans hg4
      obtain ⟨A4, c4, rfl⟩ := ints_sliceN hO4.ints
      clear hO4
      by_cases hm : 3 < (mbs (vm xs)).length
      · have hR := Lib.hid (hR3.out hm)
        have hm' : (3 : Int) < ((mbs (vm xs)).length : Int) := by omega
        generalize (mbs (vm xs)).length = nm at *
        have hb2 := ((hg34).block (blk_lt HB0.out)).trans HB0.out
        have q0 : w4.cell? ⟨w.heap.size, 0, none⟩ = some (.int .i64 0) := by rw [blk_cell hb2]; rfl
        have q1 : w4.cell? ⟨w.heap.size, 1, none⟩ = some (.slice none 0 0) := by rw [blk_cell hb2]; rfl
        have qf0 := blk_frozen hb2 0
        have qf1 := blk_frozen hb2 1
        have HB2 := Lib.hid hb2
        clear hb2
        go_wp2_with fail
        (try simp only [Exit.inBlock, Exit.then])
        refine bodyPost_ret (results_cell_tmp_rowX rfl _ _ w.heap.size _ _ _ _ rfl (blk_set (blk_set HB2.out 0 _) 1 _) Tryz.underlying26 rfl hinfo) rfl ?_
        exact gives_nil hR.out (((hg0.trans (hg34)).setCell (Nat.le_refl _) _).setCell (Nat.le_refl _) _)
      · have hm' : ¬ (3 : Int) < ((mbs (vm xs)).length : Int) := by omega
        obtain ⟨t, rfl, h40⟩ := fmB_tree HMF.out.1
        have hok : FmOk t := ⟨h40, HMF.out.2⟩
        have hGO := Lib.hid (rfR_go HMF.out.1 HMF.out.2 hm)
        have hnm : (mbs (vm (Fm.enc t))).length ≤ 3 := by omega
        have HV := Lib.hid (fun v A W (h : Ints W v (zs A)) (hW : Grew w W) hA (h4 : A.length ≤ 4) => l17Valid_c v _ A t W h (HA.out.grew hW) hA (by omega) hok (vs_enc t) hnx upK_one (upK_pow h4 hnm))
        rw [hxl] at HV
        have HAL := Lib.hid (fun n h1 h4 W => l16All_c n h1 h4 W)
        have HSU := Lib.hid spsts_succ
        have HSPL := Lib.hid (fun k h => @spsts_le k 4 h)
        have HPL := Lib.hid (fun n (h : n ≤ 4) => psts_len h)
        have hs0 : w.heap.size < w0.heap.size := blk_lt HB0.out
        have hs34 := (hg0.trans hg34).size
        have hs344 := hg34.size
        clear hm HF HPl HVI hok HMF hR3 HA hxl hnm
        generalize (mbs (vm (Fm.enc t))).length = nm at *
        have hcgt : decide ((3 : Int) < (nm : Int)) = false := decide_eq_false hm'
        clear h40
        go_wp2_with fail
        go_loopw [4] (fun i wr => ∃ k n : Nat, k ≤ 4 ∧ n = k + 1 ∧ i = .int .i64 (n : Int) ∧ Grew w4 wr ∧ Hid (∀ B ∈ spsts k, refB t B = false)) (fun i _ => 5 - (intOf i).toNat)
        case atStart => exact ⟨0, 1, by omega, rfl, rfl, Grew.refl _, Lib.hid (by simp [spsts])⟩
        case round =>
          obtain ⟨k, n, hk, hn1, rfl, hB, hN⟩ := hrel
          by_cases hlt : n ≤ 4
          · have hP := Lib.hid (HAL.out n (by omega) hlt wr)
            have hlt' : (n : Int) ≤ 4 := by omega
            have hpl := HPL.out n hlt
            have HMEM := Lib.hid (fun i (hi : i < (psts n).length) => (psts_mem (n := n)).1 (show (psts n).getD i [] ∈ psts n by simp [List.getD, hi]))
            have HTK := Lib.hid (fun i (hi : i < (psts n).length) => take_next (L := psts n) [] hi)
            have HSP2 := Lib.hid (fun i (hi : i < (psts n).length) => (show (psts n).take i ++ (psts n).getD i [] :: (psts n).drop (i + 1) = psts n by rw [← List.singleton_append, ← List.append_assoc, ← take_next [] hi, List.take_append_drop]))
            have HALL : Hid ((psts n).take (psts n).length = psts n) := Lib.hid List.take_length
            have hsu := HSU.out k
            rw [← hn1] at hsu
            have hS4 := HSPL.out (k + 1) (by omega)
            rw [← hn1] at hS4
            have HS := Lib.hid (And.intro hsu hS4)
            have HK := Lib.hid hn1
            clear hsu hS4 hn1
            go_wp2_with fail
            refine (hP.out).mono ?_
            rintro e w5 ⟨v5, rfl, hO5, hg5⟩
            have HAT := Lib.hid (fun i (hi : i < (psts n).length) => hO5.at_ (i := i) hi)
            obtain ⟨A5, c5, rfl⟩ := hO5.slice
            have hg05 := hg34.trans (hB.trans hg5)
            have hs5 := hB.size
            clear hO5 hP
            generalize psts n = P at *
            generalize hpl2 : P.length = pl at *
            clear hpl2
            generalize wr = wk at *
            go_wp2_with fail
            go_loopw [6] (fun i wr => ∃ j : Nat, j ≤ pl ∧ i = .int .i64 (j : Int) ∧ Grew w5 wr ∧ Hid (∀ B ∈ P.take j, refB t B = false)) (fun i _ => pl - (intOf i).toNat)
            case atStart => exact ⟨0, by omega, rfl, Grew.refl _, Lib.hid (by simp)⟩
            case round =>
              obtain ⟨j, hj, rfl, hB2, hN2⟩ := hrel
              by_cases hlj : j < pl
              · obtain ⟨go, co, uo, he, hgo, hco, huo⟩ := HAT.out j hlj
                injection he with he1 _ he3
                subst he1 he3
                have hmem := HMEM.out j hlj
                have htk := Lib.hid (HTK.out j hlj)
                have hsp := Lib.hid (HSP2.out j hlj)
                have k0 := fun W (hW : Grew wr W) => (hco W (hB2.trans hW)).1
                have k1 := fun W (hW : Grew wr W) => (hco W (hB2.trans hW)).2
                have r1 := Grew.refl wr
                obtain ⟨Au, cu, rfl⟩ := ints_sliceN huo.ints
                have HUW := Lib.hid huo
                have hVV := Lib.hid (HV.out _ _ wr (huo.ints.grew hB2) ((hg0.trans hg05).trans hB2) (pB_ok hmem.2.1).2.1 (by rw [hmem.1]; exact hlt))
                clear huo hco hmem
                generalize P.getD j [] = L at *
                change Hid (Calls _ _ _ _ fun e w' => e = .returned (.bool (!refB t L)) ∧ Grew wr w') at hVV
                cases hr : refB t L with
                | true =>
                  rw [hr] at hVV
                  have hR : Hid (rfR (Fm.enc t) = (0, L)) := Lib.hid (by
                    obtain ⟨R, hR4⟩ := HS.out.2
                    rw [hGO.out, hR4, HS.out.1, ← hsp.out, List.append_assoc, List.append_assoc, List.cons_append, ← List.append_assoc]
                    exact firstB_hit (fun B hB => by
                      rcases List.mem_append.1 hB with h | h
                      · exact hN.out B h
                      · exact hN2.out B h) hr)
                  clear hr
                  go_wp2_with fail
                  refine hVV.out.mono ?_
                  rintro e w7 ⟨rfl, hg7⟩
                  have hB7 := hB2.trans hg7
                  have p0 := k0 w7 hg7
                  have p1 := k1 w7 hg7
                  have hb2 := ((hg05.trans hB7).block (blk_lt HB0.out)).trans HB0.out
                  have q0 : w7.cell? ⟨w.heap.size, 0, none⟩ = some (.int .i64 0) := by rw [blk_cell hb2]; rfl
                  have q1 : w7.cell? ⟨w.heap.size, 1, none⟩ = some (.slice none 0 0) := by rw [blk_cell hb2]; rfl
                  have qf0 := blk_frozen hb2 0
                  have qf1 := blk_frozen hb2 1
                  have HB2 := Lib.hid hb2
                  clear hb2
                  go_wp2_with fail
                  (try simp only [Exit.inBlock, Exit.then])
                  refine bodyPost_ret (results_cell_tmp_rowX rfl _ _ w.heap.size _ _ _ _ rfl (blk_set (blk_set HB2.out 0 _) 1 _) Tryz.underlying26 rfl hinfo) rfl ?_
                  have hk9 : Only w.heap.size w7 ((w7.setCell ⟨w.heap.size, 0, none⟩ (.int .i64 (L.length : Int))).setCell ⟨w.heap.size, 1, none⟩ (.slice Au L.length cu)) := ((Only.refl _ _).setCell _).setCell _
                  have hO9 := own_only (HUW.out.grew hB7) hk9 (fun hh => by have := own_of_ge HUW.out hh; omega)
                  exact ⟨_, by rw [hR.out]; rfl, by rw [hR.out]; exact own_base hO9 (by omega), ((hg0.trans (hg05.trans hB7)).setCell (Nat.le_refl _) _).setCell (Nat.le_refl _) _⟩
                | false =>
                  rw [hr] at hVV
                  have hN3 : Hid (∀ B ∈ P.take (j + 1), refB t B = false) := Lib.hid (by
                    rw [htk.out]
                    intro B hB
                    rcases List.mem_append.1 hB with h | h
                    · exact hN2.out B h
                    · rw [List.mem_singleton] at h; rw [h]; exact hr)
                  clear hr
                  go_wp2_with fail
                  refine hVV.out.mono ?_
                  rintro e w7 ⟨rfl, hg7⟩
                  have hB7 := hB2.trans hg7
                  go_wp2_with fail
                  go_roundw
                  case rel => exact ⟨j + 1, by omega, by go_num, hB7, hN3⟩
                  case measure => simp [intOf]; omega
              · obtain rfl : j = pl := by omega
                have hN3 : Hid (∀ B ∈ spsts n, refB t B = false) := Lib.hid (by
                  rw [HS.out.1]
                  intro B hB
                  rcases List.mem_append.1 hB with h | h
                  · exact hN.out B h
                  · exact hN2.out B (by rw [HALL.out]; exact h))
                go_wp2_with fail
                go_roundw
                case rel => exact ⟨n, n + 1, by omega, rfl, by go_num, (hB.trans hg5).trans hB2, hN3⟩
                case measure => simp [intOf]; have := HK.out; omega
          · obtain rfl : k = 4 := by omega
            have hlt' : ¬ (n : Int) ≤ 4 := by omega
            have hR : Hid (rfR (Fm.enc t) = (4, [])) := Lib.hid (by rw [hGO.out]; exact firstB_none hN.out)
            have hb2 := ((hg34.trans hB).block (blk_lt HB0.out)).trans HB0.out
            have q0 : wr.cell? ⟨w.heap.size, 0, none⟩ = some (.int .i64 0) := by rw [blk_cell hb2]; rfl
            have q1 : wr.cell? ⟨w.heap.size, 1, none⟩ = some (.slice none 0 0) := by rw [blk_cell hb2]; rfl
            have qf0 := blk_frozen hb2 0
            have qf1 := blk_frozen hb2 1
            have HB2 := Lib.hid hb2
            clear hb2
            go_wp2_with fail
            (try simp only [Exit.inBlock, Exit.then])
            refine bodyPost_ret (results_cell_tmp_rowX rfl _ _ w.heap.size _ _ _ _ rfl (blk_set (blk_set HB2.out 0 _) 1 _) Tryz.underlying26 rfl hinfo) rfl ?_
            exact gives_nil hR.out (((hg0.trans (hg34.trans hB)).setCell (Nat.le_refl _) _).setCell (Nat.le_refl _) _)
end Go.Proofs.YtmcbjekianclpaaGreat

/- Slices of int64 that came in: szInt64S. -/
namespace Go.Proofs.YtmcbjekianclpaaGreat
open Go.RowKit

/-- A list of numbers that came in. -/
def ArgI (w : World) (v : Value) (L : List Int) : Prop := (∃ A c, v = .slice A L.length c ∧ L.length ≤ 9223372036854775807) ∧ (0 < L.length → Ints w v L)
theorem ArgI.grew {w w' : World} {v : Value} {L : List Int} (h : ArgI w v L) (hg : Grew w w') : ArgI w' v L := ⟨h.1, fun hp => (h.2 hp).grew hg⟩

end Go.Proofs.YtmcbjekianclpaaGreat

/- The laws' own helpers on slices of int64: toInt64S, eqInt64S, markInt64S, heldInt64S. -/
namespace Go.Proofs.YtmcbjekianclpaaGreat
open Go.RowKit

end Go.Proofs.YtmcbjekianclpaaGreat

/- Two lists of int64 that are equal: eqInt64S. -/
namespace Go.Proofs.YtmcbjekianclpaaGreat
open Go.RowKit

/-- Two lists of numbers that are equal. -/
theorem eqInt64S_yes (v1 v2 : Value) (L : List Int) (w : World) (h1 : Ints w v1 L) (h2 : Ints w v2 L) (hn : L.length ≤ 1099511627776) :
    Calls Tryz.prog 24 #[v1, v2] w fun e w' => e = .returned (.bool true) ∧ Grew w w' := by
  rcases h1.open_ with ⟨rfl, rfl⟩ | ⟨b1, o1, c1, rfl, hc1, hm1, hb1, hf⟩
  · obtain ⟨A, c, rfl⟩ := ints_slice h2
    go_enter Tryz.func24, Tryz.ntmps24
    go_wp2_with fail
    refine wp_loop_rounds 1 ?_; rw [rounds_succ]
    go_wp2_with fail
    go_ret
    exact ⟨rfl, Grew.refl _⟩
  · rcases h2.open_ with ⟨rfl, rfl⟩ | ⟨b2, o2, c2, rfl, hc2, hm2, hb2, hh⟩
    · go_enter Tryz.func24, Tryz.ntmps24
      go_wp2_with fail
      refine wp_loop_rounds 1 ?_; rw [rounds_succ]
      go_wp2_with fail
      go_ret
      exact ⟨rfl, Grew.refl _⟩
    · clear h1 h2
      have HF := Lib.hid hf
      have HH := Lib.hid hh
      clear hf hh
      generalize hN : L.length = n at *
      clear hN
      go_enter Tryz.func24, Tryz.ntmps24
      go_wp2_with fail
      go_loopw [5] (fun i wr => ∃ j : Nat, j ≤ n ∧ i = .int .i64 j ∧ Grew w wr) (fun i _ => n - (intOf i).toNat)
      case atStart => exact ⟨0, Nat.zero_le _, rfl, Grew.refl _⟩
      case round =>
        obtain ⟨j, hj, rfl, hB⟩ := hrel
        by_cases hlt : j < n
        · have k1 : ∀ W, Grew w W → W.cell? ⟨b1, o1 + j, none⟩ = some (.int .i64 (it L j)) := fun W hW => HF.out j hlt W hW
          have k2 : ∀ W, Grew w W → W.cell? ⟨b2, o2 + j, none⟩ = some (.int .i64 (it L j)) := fun W hW => HH.out j hlt W hW
          have k3 := k1 _ hB
          have k4 := k2 _ hB
          generalize it L j = x at *
          have hx : (x != x) = false := by simp
          go_wp2_with fail
          go_quiet (fail)
          go_wp2_with fail
          go_roundw
          case rel => exact ⟨j + 1, by omega, by go_num, by first | assumption | exact hB.drewN _⟩
          case measure => simp [intOf]; omega
        · go_wp2_with fail
          go_ret
          exact ⟨rfl, by assumption⟩
end Go.Proofs.YtmcbjekianclpaaGreat

/- The laws' own helpers on posets: szPoset, toPoset, eqPoset. -/
namespace Go.Proofs.YtmcbjekianclpaaGreat
open Go.RowKit

/-- A poset in a block of its own, given by value. -/
def GivesPo (w : World) (sz : Int) (L : List Int) (e : Ending) (w' : World) : Prop := ∃ v, e = .returned (.agg #[.int .i64 sz, v]) ∧ OwnI w' w.heap.size v L ∧ Grew w w'
theorem eqPoset_yes (sz : Int) (v1 v2 : Value) (L : List Int) (w : World) (h1 : Ints w v1 L) (h2 : Ints w v2 L) (hn : L.length ≤ 1099511627776) :
    Calls Tryz.prog 8 #[.agg #[.int .i64 sz, v1], .agg #[.int .i64 sz, v2]] w fun e w' => e = .returned (.bool true) ∧ Grew w w' := by
  have HE := Lib.hid (fun W hW => eqInt64S_yes v1 v2 L W (h1.grew hW) (h2.grew hW) hn)
  obtain ⟨A, c, rfl⟩ := ints_slice h1
  obtain ⟨A2, c2, rfl⟩ := ints_slice h2
  clear h1 h2
  have hq : (sz != sz) = false := by simp
  go_enter Tryz.func8, Tryz.ntmps8
  go_wp2_with fail
  refine (HE.out _ (((Grew.refl w).alloc _).alloc _)).mono ?_
  rintro e w1 ⟨rfl, hg1⟩
  go_wp2_with fail
  go_ret
  exact ⟨rfl, Grew.of_alloc (Grew.of_alloc hg1)⟩
end Go.Proofs.YtmcbjekianclpaaGreat

/- The laws' marks on slices of int64. -/
namespace Go.Proofs.YtmcbjekianclpaaGreat
open Go.RowKit

def imarks (k : Int) (n : Nat) : List Int := (List.range n).map fun i : Nat => k + (i : Int)
theorem imarks_length (k : Int) (n : Nat) : (imarks k n).length = n := by simp [imarks]
theorem imarks_at {k : Int} {n i : Nat} (h : i < n) : it (imarks k n) i = k + i := by simp [imarks, it, List.getD, h]

theorem markInt64S_c (v : Value) (L : List Int) (B : Nat) (k : Int) (w : World) (h : OwnI w B v L) (hk0 : 0 ≤ k) (hk : k ≤ 4611686018427387904) (hn : L.length ≤ 1099511627776) :
    Calls Tryz.prog 26 #[v, .int .i64 k] w fun e w' => e = .returned (.int .i64 (k + L.length)) ∧ OwnI w' B v (imarks k L.length) ∧ w.grownBy w' v.ownBlock := by
  rcases h.2 with ⟨rfl, h0⟩ | ⟨g, c, cur0, rfl, hB, hh0, hnc, hcm, hcs0, _⟩
  · have hL : L.length = 0 := by simpa using h0
    rw [hL]
    clear h h0
    go_enter Tryz.func26, Tryz.ntmps26
    go_wp2_with fail
    refine wp_loop_rounds 1 ?_; rw [rounds_succ]
    go_wp2_with fail
    go_ret
    exact ⟨by simp, by simpa [imarks] using OwnI.nil_ _ _, World.grownBy.refl _ _⟩
  · have hend : ∀ cur w', w'.heap[g]? = some (.cells cur 2 (0, 0)) → cur.size = c → (∀ i, i < L.length → cur[i]? = some (.int .i64 (k + (i : Int)))) → OwnI w' B (.slice (some ⟨g, 0, none⟩) L.length c) (imarks k L.length) := by
      intro cur w' h1 h2 h3
      have := OwnI.mk_ (w := w') (B := B) (L := imarks k L.length) (g := g) (c := c) (cur := cur) hB h1 (by rw [imarks_length]; exact hnc) hcm h2 (fun i hi => by
        rw [imarks_length] at hi
        rw [imarks_at hi]
        exact h3 i hi)
      rw [imarks_length] at this
      exact this
    generalize hN : L.length = n at *
    clear hN h
    have HE := Lib.hid hend
    clear hend
    go_enter Tryz.func26, Tryz.ntmps26
    go_wp2_with fail
    go_loopw [1, 5] (fun kk i wr => ∃ (j : Nat) (cur : Array Value), j ≤ n ∧ i = .int .i64 j ∧ kk = .int .i64 (k + (j : Int)) ∧ wr.heap[g]? = some (.cells cur 2 (0, 0)) ∧ cur.size = c ∧ Only g w wr ∧ (∀ i, i < j → cur[i]? = some (.int .i64 (k + (i : Int))))) (fun _ i _ => n - (intOf i).toNat)
    case atStart => exact ⟨0, cur0, Nat.zero_le _, rfl, by simp, hh0, by omega, Only.refl _ _, fun i hi => absurd hi (by omega)⟩
    case round =>
      obtain ⟨j, cur, hj, rfl, rfl, hh, hcs, ho, hc⟩ := hrel
      have HC := Lib.hid hc
      clear hc
      by_cases hlt : j < n
      · have f1 : wr.frozen? ⟨g, j, none⟩ = false := blk_frozen hh j
        obtain ⟨u1, hu1⟩ : ∃ u, wr.cell? ⟨g, j, none⟩ = some u := by
          rw [blk_cell hh]
          exact ⟨_, Array.getElem?_eq_getElem (by omega)⟩
        have HH := Lib.hid hh
        clear hh
        go_wp2_with fail
        go_roundw
        case rel => exact ⟨j + 1, _, by omega, by go_num, by go_num, blk_set HH.out _ _, by simp [hcs], ho.setCell _, one_stepI (F := fun i => .int .i64 (k + (i : Int))) (by omega) HC.out⟩
        case measure => simp [intOf]; omega
      · obtain rfl : j = n := by omega
        have HH := Lib.hid hh
        clear hh
        go_wp2_with fail
        go_ret
        exact ⟨rfl, HE.out _ _ HH.out hcs HC.out, ho⟩

theorem heldInt64S_c (v : Value) (n : Nat) (k : Int) (w : World) (h : Ints w v (imarks k n)) (hk0 : 0 ≤ k) (hk : k ≤ 4611686018427387904) (hn : n ≤ 1099511627776) :
    Calls Tryz.prog 27 #[v, .int .i64 k] w fun e w' => e = .returned (.int .i64 (k + n)) ∧ Grew w w' := by
  have hat := fun i => @imarks_at k n i
  rcases h.open_ with ⟨rfl, h0⟩ | ⟨b, o, c, rfl, hc, hm, hb, hcell⟩
  · have hn0 : n = 0 := by have := congrArg List.length h0; rw [imarks_length] at this; simpa using this
    subst hn0
    clear h h0 hat
    go_enter Tryz.func27, Tryz.ntmps27
    go_wp2_with fail
    refine wp_loop_rounds 1 ?_; rw [rounds_succ]
    go_wp2_with fail
    go_ret
    exact ⟨by simp, Grew.refl _⟩
  · rw [imarks_length] at hc hcell ⊢
    have HC : Hid (∀ i, i < n → ∀ W, Grew w W → W.cell? ⟨b, o + i, none⟩ = some (.int .i64 (k + (i : Int)))) := Lib.hid (fun i hi W hW => by rw [← hat i hi]; exact hcell i hi W hW)
    clear h hcell hat
    go_enter Tryz.func27, Tryz.ntmps27
    go_wp2_with fail
    go_loopw [1, 5] (fun kk i wr => ∃ j : Nat, j ≤ n ∧ i = .int .i64 j ∧ kk = .int .i64 (k + (j : Int)) ∧ Grew w wr) (fun _ i _ => n - (intOf i).toNat)
    case atStart => exact ⟨0, Nat.zero_le _, rfl, by simp, Grew.refl _⟩
    case round =>
      obtain ⟨j, hj, rfl, rfl, hB⟩ := hrel
      by_cases hlt : j < n
      · have k1 := HC.out j hlt _ hB
        have hq : (k + (j : Int) != k + (j : Int)) = false := by simp
        go_wp2_with fail
        go_roundw
        case rel => exact ⟨j + 1, by omega, by go_num, by go_num, hB⟩
        case measure => simp [intOf]; omega
      · obtain rfl : j = n := by omega
        go_wp2_with fail
        go_ret
        exact ⟨rfl, hB⟩
/-- The forms that the laws' walks use. -/
theorem markInt64S_w (v : Value) (L : List Int) (B : Nat) (k : Int) (w : World) (h : OwnI w B v L) (hk0 : 0 ≤ k) (hk : k ≤ 1099511627776) (hn : L.length ≤ 1048576) :
    Calls Tryz.prog 26 #[v, .int .i64 k] w fun e w' => e = .returned (.int .i64 (k + L.length)) ∧ w.grownBy w' v.ownBlock :=
  (markInt64S_c v L B k w h hk0 (by omega) (by omega)).mono fun _ _ ⟨h1, _, h3⟩ => ⟨h1, h3⟩
theorem markInt64S_m (v : Value) (L : List Int) (B : Nat) (k : Int) (w : World) (h : OwnI w B v L) (hk0 : 0 ≤ k) (hk : k ≤ 1099511627776) (hn : L.length ≤ 1048576) :
    Calls Tryz.prog 26 #[v, .int .i64 k] w fun e w' => e = .returned (.int .i64 (k + L.length)) ∧ OwnI w' B v (imarks k L.length) ∧ w.grownBy w' v.ownBlock :=
  markInt64S_c v L B k w h hk0 (by omega) (by omega)
end Go.Proofs.YtmcbjekianclpaaGreat

/- The laws' own helpers on posets: markPoset, heldPoset. -/
namespace Go.Proofs.YtmcbjekianclpaaGreat
open Go.RowKit

theorem markPoset_m (sz : Int) (v : Value) (L : List Int) (B : Nat) (k : Int) (w : World) (h : OwnI w B v L) (hk0 : 0 ≤ k) (hk : k ≤ 1099511627776) (hn : L.length ≤ 1048576) :
    Calls Tryz.prog 11 #[.agg #[.int .i64 sz, v], .int .i64 k] w fun e w' => e = .returned (.int .i64 (k + L.length)) ∧ OwnI w' B v (imarks k L.length) ∧ w.grownBy w' v.ownBlock := by
  have HM := Lib.hid (fun W (hW : Grew w W) => markInt64S_m v L B k W (h.grew hW) hk0 hk hn)
  obtain ⟨A, c, rfl⟩ := ints_slice h.ints
  clear h
  generalize L.length = n at *
  go_enter Tryz.func11, Tryz.ntmps11
  go_wp2_with fail
  refine (HM.out _ ((Grew.refl w).alloc _)).mono ?_
  rintro e w1 ⟨rfl, hO1, hg1⟩
  go_wp2_with fail
  go_ret
  exact ⟨rfl, hO1, (((Grew.refl w).alloc _).by_ _).trans hg1⟩
theorem heldPoset_c (sz : Int) (v : Value) (n : Nat) (k : Int) (w : World) (h : Ints w v (imarks k n)) (hk0 : 0 ≤ k) (hk : k ≤ 1099511627776) (hn : n ≤ 1048576) :
    Calls Tryz.prog 12 #[.agg #[.int .i64 sz, v], .int .i64 k] w fun e w' => e = .returned (.int .i64 (k + n)) ∧ Grew w w' := by
  have HM := Lib.hid (fun W (hW : Grew w W) => heldInt64S_c v n k W (h.grew hW) hk0 (by omega) (by omega))
  obtain ⟨A, c, rfl⟩ := ints_slice h
  clear h
  generalize (imarks k n).length = n' at *
  have hlt : ¬ (k + (n : Int) < 0) := by omega
  go_enter Tryz.func12, Tryz.ntmps12
  go_wp2_with fail
  refine (HM.out _ ((Grew.refl w).alloc _)).mono ?_
  rintro e w1 ⟨rfl, hg1⟩
  go_wp2_with fail
  go_ret
  exact ⟨rfl, Grew.of_alloc hg1⟩
end Go.Proofs.YtmcbjekianclpaaGreat

/- The laws' own helpers on slices of nodes: eqNode, eqNodeS. -/
namespace Go.Proofs.YtmcbjekianclpaaGreat
open Go.RowKit
open Fm (Nd)

theorem eqNode_c (a b c d : Int) (w : World) :
    Calls Tryz.prog 25 #[.agg #[.int .i64 a, .int .i64 b], .agg #[.int .i64 c, .int .i64 d]] w fun e w' => e = .returned (.bool (a == c && b == d)) ∧ Grew w w' := by
  have hz : ∀ o1 o2, Grew w ((w.alloc o1).alloc o2) := fun o1 o2 => ((Grew.refl _).alloc _).alloc _
  go_enter Tryz.func25, Tryz.ntmps25
  go_wp2
  · have h1 : (a != c) = true := by assumption
    go_ret
    exact ⟨by have : (a == c) = false := by simpa using h1
              simp [this], hz _ _⟩
  · have h1 : (a != c) = false := by assumption
    have h2 : (b != d) = true := by assumption
    go_ret
    exact ⟨by have : (b == d) = false := by simpa using h2
              simp [this], hz _ _⟩
  · have h1 : (a != c) = false := by assumption
    have h2 : (b != d) = false := by assumption
    go_ret
    exact ⟨by simp at h1 h2; simp [h1, h2], hz _ _⟩

/-- Two lists that are equal, at any two values. -/
theorem eqNodeS_yes (v1 v2 : Value) (xs : List Nd) (w : World) (h1 : Nodes w v1 xs) (h2 : Nodes w v2 xs) (hn : xs.length ≤ 4611686018427387904) :
    Calls Tryz.prog 9 #[v1, v2] w fun e w' => e = .returned (.bool true) ∧ Grew w w' := by
  rcases h1.open_ with ⟨rfl, rfl⟩ | ⟨b1, o1, c1, rfl, hc1, hm1, hb1, hf⟩
  · rcases h2.open_ with ⟨rfl, _⟩ | ⟨b2, o2, c2, rfl, _⟩
    all_goals
      go_enter Tryz.func9, Tryz.ntmps9
      go_wp2_with fail
      refine wp_loop_rounds 1 ?_; rw [rounds_succ]
      go_wp2_with fail
      go_ret
      exact ⟨rfl, Grew.refl _⟩
  · rcases h2.open_ with ⟨rfl, rfl⟩ | ⟨b2, o2, c2, rfl, hc2, hm2, hb2, hh⟩
    · go_enter Tryz.func9, Tryz.ntmps9
      go_wp2_with fail
      refine wp_loop_rounds 1 ?_; rw [rounds_succ]
      go_wp2_with fail
      go_ret
      exact ⟨rfl, Grew.refl _⟩
    · clear h1 h2
      generalize hN : xs.length = n at *
      clear hN
      go_enter Tryz.func9, Tryz.ntmps9
      go_wp2_with fail
      go_loopw [5] (fun i wr => ∃ j : Nat, j ≤ n ∧ i = .int .i64 j ∧ Grew w wr) (fun i _ => n - (intOf i).toNat)
      case atStart => exact ⟨0, Nat.zero_le _, rfl, Grew.refl _⟩
      case round =>
        obtain ⟨j, hj, rfl, hB⟩ := hrel
        by_cases hlt : j < n
        · have k1 : ∀ W, Grew w W → W.cell? ⟨b1, o1 + j * 2, none⟩ = some (.int .i64 (kd xs j)) := fun W hW => (hf j hlt W hW).1
          have k2 : ∀ W, Grew w W → W.cell? ⟨b1, o1 + j * 2 + 1, none⟩ = some (.int .i64 (sy xs j)) := fun W hW => (hf j hlt W hW).2
          have k3 : ∀ W, Grew w W → W.cell? ⟨b2, o2 + j * 2, none⟩ = some (.int .i64 (kd xs j)) := fun W hW => (hh j hlt W hW).1
          have k4 : ∀ W, Grew w W → W.cell? ⟨b2, o2 + j * 2 + 1, none⟩ = some (.int .i64 (sy xs j)) := fun W hW => (hh j hlt W hW).2
          clear hf hh
          go_wp2_with fail
          go_region_held3 (fun w' => Grew w w') (first | assumption | exact Grew.drew ‹_› | exact Grew.trans ‹_› ‹_›)
            (first | (go_at_call 25; refine (eqNode_c _ _ _ _ _).mono ?_; rintro e w' ⟨rfl, hB1⟩))
          go_wp2_with fail
          go_roundw
          case rel => exact ⟨j + 1, by omega, by go_num, by assumption⟩
          case measure => simp [intOf]; omega
        · go_wp2_with fail
          go_ret
          exact ⟨rfl, by assumption⟩

end Go.Proofs.YtmcbjekianclpaaGreat

/- The laws' own helpers on slices of nodes that came in: szNodeS, toNodeS. -/
namespace Go.Proofs.YtmcbjekianclpaaGreat
open Go.RowKit
open Fm (Nd)

/-- A list of nodes that came in. -/
def ArgN (w : World) (v : Value) (xs : List Nd) : Prop := (∃ A c, v = .slice A xs.length c ∧ xs.length ≤ 9223372036854775807) ∧ (0 < xs.length → Nodes w v xs)
theorem ArgN.grew {w w' : World} {v : Value} {xs : List Nd} (h : ArgN w v xs) (hg : Grew w w') : ArgN w' v xs := ⟨h.1, fun hp => (h.2 hp).grew hg⟩

theorem szNodeS_c (v : Value) (xs : List Nd) (left : Int) (w : World) (h : ArgN w v xs) (h0 : 0 ≤ left) (h1 : left ≤ 1048576) :
    Calls Tryz.prog 4 #[v, .int .i64 left] w fun e w' => ∃ r : Int, e = .returned (.int .i64 r) ∧ (r ≤ 1048576 ∧ (0 ≤ r → xs.length ≤ 1048576)) ∧ Grew w w' := by
  obtain ⟨⟨A, c, rfl, hmax⟩, _⟩ := h
  by_cases hlong : left < xs.length
  · go_enter Tryz.func4, Tryz.ntmps4
    go_wp2_with fail
    go_ret
    exact ⟨_, rfl, ⟨by omega, fun h => absurd h (by omega)⟩, Grew.refl _⟩
  · go_enter Tryz.func4, Tryz.ntmps4
    go_wp2_with fail
    go_ret
    exact ⟨_, rfl, ⟨by omega, fun h => by omega⟩, Grew.refl _⟩

theorem toNode_c (a b : Int) (w : World) :
    Calls Tryz.prog 18 #[.agg #[.int .i64 a, .int .i64 b]] w fun e w' => e = .returned (.agg #[.int .i64 a, .int .i64 b]) ∧ Grew w w' := by
  go_enter Tryz.func18, Tryz.ntmps18
  go_wp2_with fail
  (try simp only [Exit.inBlock, Exit.then])
  have hinfo : (Tryz.prog.info? 42).map (·.size) = some 2 := by kernel_rfl
  refine bodyPost_ret (results_cell_row rfl _ _ (w.heap.size + 1) _ _ _ _ rfl (blk3_mid w _ _ _) Tryz.underlying42 rfl hinfo) rfl ?_
  exact ⟨rfl, (((Grew.refl w).alloc _).alloc _).alloc _⟩

theorem toNodeS_c (v : Value) (xs : List Nd) (w : World) (h : ArgN w v xs) (hn : xs.length ≤ 1048576) :
    Calls Tryz.prog 6 #[v] w (Gives w xs) := by
  obtain ⟨⟨A, c, rfl, hmax⟩, hS⟩ := h
  have hmk := fun W => run_make_rows (P := Tryz.prog) 29 42 (.agg #[.int .i64 0, .int .i64 0]) 2 16 #[.int .i64 0, .int .i64 0] Tryz.underlying29 Tryz.infoNd rfl .i64 .i64 xs.length (by omega) (by omega) W
  have hend : ∀ cur w', w'.heap[w.heap.size]? = some (.cells cur 42 (0, 0)) → cur.size = xs.length * 2 → (∀ i, i < xs.length → cur[i * 2]? = some (.int .i64 (kd xs i)) ∧ cur[i * 2 + 1]? = some (.int .i64 (sy xs i))) → Own w' w.heap.size (.slice (some ⟨w.heap.size, 0, none⟩) xs.length xs.length) xs :=
    fun cur w' h1 h2 h3 => Own.mk_ (Nat.le_refl _) h1 (Nat.le_refl _) (by omega) h2 h3
  have HE := Lib.hid hend
  clear hend
  have hsz : (madeCells #[Value.int .i64 0, .int .i64 0] (xs.length * 2)).size = xs.length * 2 := size_madeCells _ _
  have hnew := blk_new w (.cells (madeCells #[Value.int .i64 0, .int .i64 0] (xs.length * 2)) 42)
  have hal := (Grew.refl w).alloc (.cells (madeCells #[Value.int .i64 0, .int .i64 0] (xs.length * 2)) 42)
  generalize madeCells #[Value.int .i64 0, .int .i64 0] (xs.length * 2) = cur0 at *
  by_cases hp : 0 < xs.length
  · rcases (hS hp).open_ with ⟨_, h2⟩ | ⟨b, o, c', hv, hc, hm, hb, hcell⟩
    · rw [h2] at hp; cases hp
    obtain ⟨rfl, rfl⟩ : A = some ⟨b, o, none⟩ ∧ c = c' := by simpa using hv
    clear hS hv
    have HC := Lib.hid hcell
    clear hcell
    generalize hN : xs.length = n at *
    clear hN
    have HNEW := Lib.hid hnew
    clear hnew
    have HAL := Lib.hid hal
    clear hal
    go_enter Tryz.func6, Tryz.ntmps6
    go_wp2_with fail
    go_loopw [4] (fun i wr => ∃ (j : Nat) (cur : Array Value), j ≤ n ∧ i = .int .i64 j ∧ wr.heap[w.heap.size]? = some (.cells cur 42 (0, 0)) ∧ cur.size = n * 2 ∧ Grew w wr ∧ Hid (∀ i, i < j → cur[i * 2]? = some (.int .i64 (kd xs i)) ∧ cur[i * 2 + 1]? = some (.int .i64 (sy xs i)))) (fun i _ => n - (intOf i).toNat)
    case atStart => exact ⟨0, cur0, Nat.zero_le _, rfl, HNEW.out, hsz, HAL.out, fun i hi => absurd hi (by omega)⟩
    case round =>
      obtain ⟨j, cur, hj, rfl, hh, hcs, hB, HD⟩ := hrel
      by_cases hlt : j < n
      · have k1 := (HC.out j hlt _ hB).1
        have k2 := (HC.out j hlt _ hB).2
        have HS := Lib.hid (pair_step (F := fun i => .int .i64 (kd xs i)) (G := fun i => .int .i64 (sy xs i)) (j := j) (by omega) HD.out)
        have HH := Lib.hid hh
        clear hh
        generalize kd xs j = x at *
        generalize sy xs j = y at *
        go_wp2_with fail
        refine (toNode_c x y _).mono ?_
        rintro e w1 ⟨rfl, hg1⟩
        have hh := (hg1.block (blk_lt HH.out)).trans HH.out
        have f1 : ∀ i, w1.frozen? ⟨w.heap.size, i, none⟩ = false := fun i => blk_frozen hh i
        have f2 : ∀ i k u, (w1.setCell ⟨w.heap.size, k, none⟩ u).frozen? ⟨w.heap.size, i, none⟩ = false := fun i k u => blk_frozen (blk_set hh k u) i
        obtain ⟨u1, hu1⟩ : ∃ u, w1.cell? ⟨w.heap.size, j * 2, none⟩ = some u := by
          rw [blk_cell hh]
          exact ⟨_, Array.getElem?_eq_getElem (by omega)⟩
        obtain ⟨u2, hu2⟩ : ∃ u, w1.cell? ⟨w.heap.size, j * 2 + 1, none⟩ = some u := by
          rw [blk_cell hh]
          exact ⟨_, Array.getElem?_eq_getElem (by omega)⟩
        have HH1 := Lib.hid hh
        clear hh
        go_wp2_with fail
        go_roundw
        case rel => exact ⟨j + 1, _, by omega, by go_num, blk_set (blk_set HH1.out _ _) _ _, by simp [hcs], ((hB.trans hg1).setCell (Nat.le_refl _) _).setCell (Nat.le_refl _) _, HS.out⟩
        case measure => simp [intOf]; omega
      · obtain rfl : j = n := by omega
        have HH := Lib.hid hh
        clear hh
        go_wp2_with fail
        go_ret
        exact ⟨_, rfl, HE.out _ _ HH.out hcs HD.out, hB⟩
  · have hp0 : xs.length ≤ 0 := by omega
    have HNEW := Lib.hid hnew
    clear hnew hS hp
    have HAL := Lib.hid hal
    clear hal
    generalize hN : xs.length = n at *
    clear hN
    go_enter Tryz.func6, Tryz.ntmps6
    go_wp2_with fail
    refine wp_loop_rounds 1 ?_; rw [rounds_succ]
    go_wp2_with fail
    go_ret
    exact ⟨_, rfl, HE.out _ _ HNEW.out hsz (fun i hi => absurd hi (by omega)), HAL.out⟩
end Go.Proofs.YtmcbjekianclpaaGreat

/- The laws' own helpers on slices of nodes: markNodeS, heldNodeS. -/
namespace Go.Proofs.YtmcbjekianclpaaGreat
open Go.RowKit
open Fm (Nd)

/-- The numbers that markNodeS lays. -/
def marks (k : Int) (n : Nat) : List Nd := (List.range n).map fun i : Nat => ((k + (i : Int) * 2, k + (i : Int) * 2 + 1) : Nd)
theorem marks_length (k : Int) (n : Nat) : (marks k n).length = n := by simp [marks]
theorem marks_kd {k : Int} {n i : Nat} (h : i < n) : kd (marks k n) i = k + i * 2 := by simp [marks, kd, List.getD, h]
theorem marks_sy {k : Int} {n i : Nat} (h : i < n) : sy (marks k n) i = k + i * 2 + 1 := by simp [marks, sy, List.getD, h]

/-- markNodeS lays its numbers into a row of the call's own. -/
theorem markNodeS_c (v : Value) (xs : List Nd) (B : Nat) (k : Int) (w : World) (h : Own w B v xs) (hk0 : 0 ≤ k) (hk : k ≤ 4611686018427387904) (hn : xs.length ≤ 1099511627776) :
    Calls Tryz.prog 10 #[v, .int .i64 k] w fun e w' => e = .returned (.int .i64 (k + xs.length * 2)) ∧ Own w' B v (marks k xs.length) ∧ (∀ g, v.ownBlock = some g → Only g w w') ∧ (v.ownBlock = none → Grew w w') := by
  rcases h.open_ with ⟨rfl, rfl⟩ | ⟨g, c, cur0, rfl, hB, hg, hh0, hnc, hcm, hcs0, hc0⟩
  · go_enter Tryz.func10, Tryz.ntmps10
    go_wp2_with fail
    refine wp_loop_rounds 1 ?_; rw [rounds_succ]
    go_wp2_with fail
    go_ret
    exact ⟨by simp, by simpa [marks] using Own.nil_ _ _, fun _ _ => Only.refl _ _, fun _ => Grew.refl _⟩
  · have hend : ∀ cur w', w'.heap[g]? = some (.cells cur 42 (0, 0)) → cur.size = c * 2 → (∀ i, i < xs.length → cur[i * 2]? = some (.int .i64 (k + (i : Int) * 2)) ∧ cur[i * 2 + 1]? = some (.int .i64 (k + (i : Int) * 2 + 1))) → Own w' B (.slice (some ⟨g, 0, none⟩) xs.length c) (marks k xs.length) := by
      intro cur w' h1 h2 h3
      have := Own.mk_ (w := w') (B := B) (xs := marks k xs.length) (g := g) (c := c) (cur := cur) hB h1 (by rw [marks_length]; exact hnc) hcm h2 (fun i hi => by
        rw [marks_length] at hi
        rw [marks_kd hi, marks_sy hi]
        exact h3 i hi)
      rw [marks_length] at this
      exact this
    generalize hN : xs.length = n at *
    clear hN hc0 h
    have HE := Lib.hid hend
    clear hend
    go_enter Tryz.func10, Tryz.ntmps10
    go_wp2_with fail
    go_loopw [1, 5] (fun kk i wr => ∃ (j : Nat) (cur : Array Value), j ≤ n ∧ i = .int .i64 j ∧ kk = .int .i64 (k + (j : Int) * 2) ∧ wr.heap[g]? = some (.cells cur 42 (0, 0)) ∧ cur.size = c * 2 ∧ Only g w wr ∧ (∀ i, i < j → cur[i * 2]? = some (.int .i64 (k + (i : Int) * 2)) ∧ cur[i * 2 + 1]? = some (.int .i64 (k + (i : Int) * 2 + 1)))) (fun _ i _ => n - (intOf i).toNat)
    case atStart => exact ⟨0, cur0, Nat.zero_le _, rfl, by simp, hh0, hcs0, Only.refl _ _, fun i hi => absurd hi (by omega)⟩
    case round =>
      obtain ⟨j, cur, hj, rfl, rfl, hh, hcs, ho, hc⟩ := hrel
      have HC := Lib.hid hc
      clear hc
      by_cases hlt : j < n
      · have f1 : ∀ i, wr.frozen? ⟨g, i, none⟩ = false := fun i => by simp [World.frozen?, hh]
        have f2 : ∀ i u, (wr.setCell ⟨g, i, none⟩ u).frozen? ⟨g, i + 1, none⟩ = false := fun i u => by simp [World.frozen?, World.setCell, Array.getElem?_modify, hh]
        obtain ⟨u1, hu1⟩ : ∃ u, wr.cell? ⟨g, 0 + j * 2, none⟩ = some u := by
          rw [cell_of_row wr g _ cur _ (0, 0) hh]
          exact ⟨_, Array.getElem?_eq_getElem (by omega)⟩
        obtain ⟨u2, hu2⟩ : ∃ u, wr.cell? ⟨g, 0 + j * 2 + 1, none⟩ = some u := by
          rw [cell_of_row wr g _ cur _ (0, 0) hh]
          exact ⟨_, Array.getElem?_eq_getElem (by omega)⟩
        simp only [Nat.zero_add] at hu1 hu2
        have HH := Lib.hid hh
        clear hh
        go_wp2_with fail
        go_roundw
        case rel =>
          exact ⟨j + 1, _, by omega, by go_num, by go_num, blk_set (blk_set HH.out _ _) _ _, by simp [hcs], (ho.setCell _).setCell _, pair_step (F := fun i => .int .i64 (k + (i : Int) * 2)) (G := fun i => .int .i64 (k + (i : Int) * 2 + 1)) (by omega) HC.out⟩
        case measure => simp [intOf]; omega
      · obtain rfl : j = n := by omega
        have HH := Lib.hid hh
        clear hh
        go_wp2_with fail
        go_ret
        exact ⟨rfl, HE.out _ _ HH.out hcs HC.out, fun g' hg' => by simp [Value.ownBlock] at hg'; subst hg'; exact ho, fun hg' => by simp [Value.ownBlock] at hg'⟩

/-- What markNodeS leaves: every world that was there before the row was made has not changed. -/
def Marks (w : World) (B : Nat) (v : Value) (k : Int) (n : Nat) (e : Ending) (w' : World) : Prop :=
  e = .returned (.int .i64 (k + n * 2)) ∧ Own w' B v (marks k n) ∧ ∀ w0 : World, w0.heap.size ≤ B → Grew w0 w → Grew w0 w'
theorem markNodeS_g (v : Value) (xs : List Nd) (B : Nat) (k : Int) (w : World) (h : Own w B v xs) (hk0 : 0 ≤ k) (hk : k ≤ 4611686018427387904) (hn : xs.length ≤ 1099511627776) :
    Calls Tryz.prog 10 #[v, .int .i64 k] w (Marks w B v k xs.length) :=
  (markNodeS_c v xs B k w h hk0 hk hn).mono fun e w' ⟨h1, h2, h3, h4⟩ => ⟨h1, h2, fun w0 hB hg => by
    cases hv : v.ownBlock with
    | none => exact hg.trans (h4 hv)
    | some g => exact (h3 g hv).grew_of hg (Nat.le_trans hB (h.lt g hv).1)⟩

end Go.Proofs.YtmcbjekianclpaaGreat

/- The law FnExactRefutingPoset, walked. -/
namespace Go.Proofs.YtmcbjekianclpaaGreat
open Go.RowKit
open Fm (Nd)

theorem markNodeS_m (v : Value) (xs : List Nd) (B : Nat) (k : Int) (w : World) (h : Own w B v xs) (hk0 : 0 ≤ k) (hk : k ≤ 4611686018427387904) (hn : xs.length ≤ 1099511627776) :
    Calls Tryz.prog 10 #[v, .int .i64 k] w fun e w' => e = .returned (.int .i64 (k + xs.length * 2)) ∧ Own w' B v (marks k xs.length) ∧ w.grownBy w' v.ownBlock :=
  (markNodeS_c v xs B k w h hk0 hk hn).mono fun _ _ ⟨h1, h2, h3, h4⟩ => ⟨h1, h2, row_of h3 h4⟩
theorem rfR_len (xs : List Nd) : (rfR xs).2.length ≤ 4 := by
  have hF : ∀ (t : Fm.Tree) (P : List (List Nat)), (∀ A ∈ P, A.length ≤ 4) → (firstB t P).2.length ≤ 4 := by
    intro t P
    induction P with
    | nil => intro _; simp [firstB]
    | cons A P ih =>
      intro h
      unfold firstB
      split
      · exact h A (List.mem_cons_self ..)
      · exact ih fun B hB => h B (List.mem_cons_of_mem _ hB)
  unfold rfR
  split
  · simp
  · split
    · simp
    · split
      · simp
      · split
        · exact hF _ _ fun A hA => (spsts_mem hA).2.1
        · simp

set_option maxHeartbeats 16000000 in
set_option maxRecDepth 20000 in
theorem lawRps_c (v : Value) (xs : List Nd) (w : World) (h : ArgN w v xs) :
    Calls Tryz.prog 3 #[v] w fun e w' => e = .returned (.bool true) ∧ Grew w w' := by
  have Z0 := Lib.hid (fun W l (hW : Grew w W) (a0 : 0 ≤ l) (a1 : l ≤ 1048576) => szNodeS_c v xs l W (h.grew hW) a0 a1)
  have T0 := Lib.hid (fun W (hW : Grew w W) => toNodeS_c v xs W (h.grew hW))
  clear h
  have KS := Lib.hid (fun u W (hu : Nodes W u xs) => refutingPoset_s u xs W hu)
  have KI := Lib.hid (fun u W (hu : Nodes W u xs) => refutingPoset_i u xs W hu)
  have hl1 := rfR_len xs
  unfold GivesR at KS KI
  generalize rfR xs = rr at *
  obtain ⟨c, R0⟩ := rr
  simp only at hl1 KS KI
  replace hl1 : (zs R0).length ≤ 4 := by rw [zs_len]; exact hl1
  rw [← zs_len R0] at KS KI
  generalize zs R0 = R1 at *
  clear R0
  have hcc : (c != c) = false := by simp
  go_enter Tryz.func3, Tryz.ntmps3
  have g0 : Grew w w := Grew.refl w
  go_wp2_with fail
  refine (Z0.out _ _ g0 (by omega) (by omega)).mono ?_
  rintro e w1 ⟨r0, rfl, ⟨hr1, hr2⟩, hg1⟩
  have z1 := Lib.hid hg1.size
  have g1 : Grew w w1 := g0.trans hg1
  clear hg1 g0
  by_cases hr0 : r0 < 0
  · clear hr2
    go_wp2_with fail
    go_ret
    exact ⟨rfl, g1⟩
  have hmm := hr2 (by omega)
  have T0 := Lib.hid (fun W hW => T0.out W hW hmm)
  have KS := Lib.hid (fun v W hv => KS.out v W hv hmm)
  have KI := Lib.hid (fun v W hv => KI.out v W hv hmm)
  clear hr2 hr1
  go_wp2_with fail
  refine (T0.out _ g1).mono ?_
  rintro e w2 ⟨a0, rfl, ha0, hg2⟩
  have z2 := Lib.hid hg2.size
  have g2 : Grew w w2 := g1.trans hg2
  clear hg2 g1
  obtain ⟨Aa0, ca0, rfl⟩ := nodes_slice ha0.nodes
  have bla0 := Lib.hid (fun g (hg : (.slice Aa0 xs.length ca0 : Value).ownBlock = some g) => (⟨own_of_ge ha0 hg, (World.ownsRow.lt ha0 g hg).2⟩ : _ ∧ _))
  go_wp2_with fail
  refine (KS.out _ _ ha0.nodes).mono ?_
  rintro e w3 ⟨q0, rfl, hq0, hg3⟩
  have z3 := Lib.hid hg3.size
  have g3 : Grew w w3 := g2.trans hg3
  replace ha0 := ha0.grew hg3
  clear hg3 g2
  obtain ⟨Aq0, cq0, rfl⟩ := ints_slice hq0.ints
  have blq0 := Lib.hid (fun g (hg : (.slice Aq0 R1.length cq0 : Value).ownBlock = some g) => (⟨own_of_ge hq0 hg, (World.ownsRow.lt hq0 g hg).2⟩ : _ ∧ _))
  clear ha0 bla0
  obtain ⟨w4, hw4⟩ : ∃ W, W = w3.alloc (.cells #[.int .i64 (R1.length : Int), .slice Aq0 R1.length cq0] 26) := ⟨_, rfl⟩
  have hg4 : Grew w3 w4 := by rw [hw4]; exact (Grew.refl _).alloc _
  have z4 : Hid (w4.heap.size = w3.heap.size + 1) := Lib.hid (by rw [hw4]; simp)
  have g4 : Grew w w4 := g3.trans hg4
  replace hq0 := hq0.grew hg4
  have HBq : Hid (w4.heap[w3.heap.size]? = some (.cells #[.int .i64 (R1.length : Int), .slice Aq0 R1.length cq0] 26 (0, 0))) := Lib.hid (by rw [hw4]; exact blk_new w3 _)
  clear hg4 g3
  go_wp2_with fail
  simp only [← hw4]
  clear hw4
  refine (T0.out _ g4).mono ?_
  rintro e w5 ⟨x0, rfl, hx0, hg5⟩
  have z5 := Lib.hid hg5.size
  have g5 : Grew w w5 := g4.trans hg5
  replace hq0 := hq0.grew hg5
  replace HBq := Lib.hid ((hg5.block (blk_lt HBq.out)).trans HBq.out)
  clear hg5 g4
  obtain ⟨Ax0, cx0, rfl⟩ := nodes_slice hx0.nodes
  have blx0 := Lib.hid (fun g (hg : (.slice Ax0 xs.length cx0 : Value).ownBlock = some g) => (⟨own_of_ge hx0 hg, (World.ownsRow.lt hx0 g hg).2⟩ : _ ∧ _))
  have kq0 : w5.cell? ⟨w3.heap.size, 0, none⟩ = some (.int .i64 (R1.length : Int)) := by rw [blk_cell HBq.out]; rfl
  have kq1 : w5.cell? ⟨w3.heap.size, 1, none⟩ = some (.slice Aq0 R1.length cq0) := by rw [blk_cell HBq.out]; rfl
  go_wp2_with fail
  refine (KI.out _ _ hx0.nodes).mono ?_
  rintro e w6 ⟨g0, rfl, hg0, hg6⟩
  have z6 := Lib.hid hg6.size
  have g6 : Grew w w6 := g5.trans hg6
  replace hq0 := hq0.grew hg6
  replace hx0 := hx0.grew hg6
  replace HBq := Lib.hid ((hg6.block (blk_lt HBq.out)).trans HBq.out)
  clear hg6 g5
  obtain ⟨Ag0, cg0, rfl⟩ := ints_slice hg0.ints
  have blg0 := Lib.hid (fun g (hg : (.slice Ag0 R1.length cg0 : Value).ownBlock = some g) => (⟨own_of_ge hg0 hg, (World.ownsRow.lt hg0 g hg).2⟩ : _ ∧ _))
  clear kq0 kq1
  have kq0 : w6.cell? ⟨w3.heap.size, 0, none⟩ = some (.int .i64 (R1.length : Int)) := by rw [blk_cell HBq.out]; rfl
  have kq1 : w6.cell? ⟨w3.heap.size, 1, none⟩ = some (.slice Aq0 R1.length cq0) := by rw [blk_cell HBq.out]; rfl
  have aq0 : ∀ o, (w6.alloc o).cell? ⟨w3.heap.size, 0, none⟩ = some (.int .i64 (R1.length : Int)) := fun o => by rw [blk_cell ((((Grew.refl w6).alloc o).block (blk_lt HBq.out)).trans HBq.out)]; rfl
  have aq1 : ∀ o, (w6.alloc o).cell? ⟨w3.heap.size, 1, none⟩ = some (.slice Aq0 R1.length cq0) := fun o => by rw [blk_cell ((((Grew.refl w6).alloc o).block (blk_lt HBq.out)).trans HBq.out)]; rfl
  obtain ⟨w7, hw7⟩ : ∃ W, W = w6.alloc (.cells #[.int .i64 (R1.length : Int), .slice Ag0 R1.length cg0] 26) := ⟨_, rfl⟩
  have hg7 : Grew w6 w7 := by rw [hw7]; exact (Grew.refl _).alloc _
  have z7 : Hid (w7.heap.size = w6.heap.size + 1) := Lib.hid (by rw [hw7]; simp)
  have g7 : Grew w w7 := g6.trans hg7
  replace hq0 := hq0.grew hg7
  replace hx0 := hx0.grew hg7
  replace hg0 := hg0.grew hg7
  replace HBq := Lib.hid ((hg7.block (blk_lt HBq.out)).trans HBq.out)
  have HBg : Hid (w7.heap[w6.heap.size]? = some (.cells #[.int .i64 (R1.length : Int), .slice Ag0 R1.length cg0] 26 (0, 0))) := Lib.hid (by rw [hw7]; exact blk_new w6 _)
  clear hg7 g6
  go_wp2_with fail
  simp only [← hw7]
  clear hw7
  refine (eqPoset_yes _ _ _ R1 _ hg0.ints hq0.ints (by omega)).mono ?_
  rintro e w8 ⟨rfl, hg8⟩
  have z8 := Lib.hid hg8.size
  have g8 : Grew w w8 := g7.trans hg8
  replace hq0 := hq0.grew hg8
  replace hx0 := hx0.grew hg8
  replace hg0 := hg0.grew hg8
  replace HBq := Lib.hid ((hg8.block (blk_lt HBq.out)).trans HBq.out)
  replace HBg := Lib.hid ((hg8.block (blk_lt HBg.out)).trans HBg.out)
  clear hg8 g7
  clear kq0 kq1 aq0 aq1
  have kq0 : w8.cell? ⟨w3.heap.size, 0, none⟩ = some (.int .i64 (R1.length : Int)) := by rw [blk_cell HBq.out]; rfl
  have kq1 : w8.cell? ⟨w3.heap.size, 1, none⟩ = some (.slice Aq0 R1.length cq0) := by rw [blk_cell HBq.out]; rfl
  have kg0 : w8.cell? ⟨w6.heap.size, 0, none⟩ = some (.int .i64 (R1.length : Int)) := by rw [blk_cell HBg.out]; rfl
  have kg1 : w8.cell? ⟨w6.heap.size, 1, none⟩ = some (.slice Ag0 R1.length cg0) := by rw [blk_cell HBg.out]; rfl
  go_wp2_with fail
  refine (T0.out _ g8).mono ?_
  rintro e w9 ⟨y0, rfl, hy0, hg9⟩
  have z9 := Lib.hid hg9.size
  have g9 : Grew w w9 := g8.trans hg9
  replace hq0 := hq0.grew hg9
  replace hx0 := hx0.grew hg9
  replace hg0 := hg0.grew hg9
  replace HBq := Lib.hid ((hg9.block (blk_lt HBq.out)).trans HBq.out)
  replace HBg := Lib.hid ((hg9.block (blk_lt HBg.out)).trans HBg.out)
  clear hg9 g8
  obtain ⟨Ay0, cy0, rfl⟩ := nodes_slice hy0.nodes
  have bly0 := Lib.hid (fun g (hg : (.slice Ay0 xs.length cy0 : Value).ownBlock = some g) => (⟨own_of_ge hy0 hg, (World.ownsRow.lt hy0 g hg).2⟩ : _ ∧ _))
  clear kq0 kq1 kg0 kg1
  have kq0 : w9.cell? ⟨w3.heap.size, 0, none⟩ = some (.int .i64 (R1.length : Int)) := by rw [blk_cell HBq.out]; rfl
  have kq1 : w9.cell? ⟨w3.heap.size, 1, none⟩ = some (.slice Aq0 R1.length cq0) := by rw [blk_cell HBq.out]; rfl
  have kg0 : w9.cell? ⟨w6.heap.size, 0, none⟩ = some (.int .i64 (R1.length : Int)) := by rw [blk_cell HBg.out]; rfl
  have kg1 : w9.cell? ⟨w6.heap.size, 1, none⟩ = some (.slice Ag0 R1.length cg0) := by rw [blk_cell HBg.out]; rfl
  go_wp2_with fail
  refine (eqNodeS_yes _ _ xs _ hx0.nodes hy0.nodes (by omega)).mono ?_
  rintro e w10 ⟨rfl, hg10⟩
  have z10 := Lib.hid hg10.size
  have g10 : Grew w w10 := g9.trans hg10
  replace hq0 := hq0.grew hg10
  replace hx0 := hx0.grew hg10
  replace hg0 := hg0.grew hg10
  replace hy0 := hy0.grew hg10
  replace HBq := Lib.hid ((hg10.block (blk_lt HBq.out)).trans HBq.out)
  replace HBg := Lib.hid ((hg10.block (blk_lt HBg.out)).trans HBg.out)
  clear hg10 g9
  clear hy0 bly0
  clear kq0 kq1 kg0 kg1
  have kq0 : w10.cell? ⟨w3.heap.size, 0, none⟩ = some (.int .i64 (R1.length : Int)) := by rw [blk_cell HBq.out]; rfl
  have kq1 : w10.cell? ⟨w3.heap.size, 1, none⟩ = some (.slice Aq0 R1.length cq0) := by rw [blk_cell HBq.out]; rfl
  have kg0 : w10.cell? ⟨w6.heap.size, 0, none⟩ = some (.int .i64 (R1.length : Int)) := by rw [blk_cell HBg.out]; rfl
  have kg1 : w10.cell? ⟨w6.heap.size, 1, none⟩ = some (.slice Ag0 R1.length cg0) := by rw [blk_cell HBg.out]; rfl
  go_wp2_with fail
  refine (markNodeS_m _ xs _ 1 _ hx0 (by omega) (by omega) (by omega)).mono ?_
  rintro e w11 ⟨rfl, hx0, hr11⟩
  have z11 := Lib.hid hr11.size
  have g11 : Grew w w11 := grew_row g10 hr11 (fun g hg => by have h1 := blx0.out g hg; have y1 := z1.out; have y2 := z2.out; have y3 := z3.out; have y4 := z4.out; have y5 := z5.out; have y6 := z6.out; have y7 := z7.out; have y8 := z8.out; have y9 := z9.out; have y10 := z10.out; omega)
  replace hq0 : OwnI w11 _ (.slice Aq0 R1.length cq0) (R1) := own_row hq0 hr11 (fun g hg hg2 => by have h1 := blx0.out g hg; have h2 := blq0.out g hg2; have y1 := z1.out; have y2 := z2.out; have y3 := z3.out; have y4 := z4.out; have y5 := z5.out; have y6 := z6.out; have y7 := z7.out; have y8 := z8.out; have y9 := z9.out; have y10 := z10.out; omega)
  replace hg0 : OwnI w11 _ (.slice Ag0 R1.length cg0) (R1) := own_row hg0 hr11 (fun g hg hg2 => by have h1 := blx0.out g hg; have h2 := blg0.out g hg2; have y1 := z1.out; have y2 := z2.out; have y3 := z3.out; have y4 := z4.out; have y5 := z5.out; have y6 := z6.out; have y7 := z7.out; have y8 := z8.out; have y9 := z9.out; have y10 := z10.out; omega)
  replace HBq := Lib.hid ((hr11.block w3.heap.size (blk_lt HBq.out) (fun hg => by have h1 := blx0.out _ hg.symm; have y1 := z1.out; have y2 := z2.out; have y3 := z3.out; have y4 := z4.out; have y5 := z5.out; have y6 := z6.out; have y7 := z7.out; have y8 := z8.out; have y9 := z9.out; have y10 := z10.out; omega)).trans HBq.out)
  replace HBg := Lib.hid ((hr11.block w6.heap.size (blk_lt HBg.out) (fun hg => by have h1 := blx0.out _ hg.symm; have y1 := z1.out; have y2 := z2.out; have y3 := z3.out; have y4 := z4.out; have y5 := z5.out; have y6 := z6.out; have y7 := z7.out; have y8 := z8.out; have y9 := z9.out; have y10 := z10.out; omega)).trans HBg.out)
  clear hr11 g10
  clear hx0 blx0
  clear kq0 kq1 kg0 kg1
  have kq0 : w11.cell? ⟨w3.heap.size, 0, none⟩ = some (.int .i64 (R1.length : Int)) := by rw [blk_cell HBq.out]; rfl
  have kq1 : w11.cell? ⟨w3.heap.size, 1, none⟩ = some (.slice Aq0 R1.length cq0) := by rw [blk_cell HBq.out]; rfl
  have kg0 : w11.cell? ⟨w6.heap.size, 0, none⟩ = some (.int .i64 (R1.length : Int)) := by rw [blk_cell HBg.out]; rfl
  have kg1 : w11.cell? ⟨w6.heap.size, 1, none⟩ = some (.slice Ag0 R1.length cg0) := by rw [blk_cell HBg.out]; rfl
  go_wp2_with fail
  refine (eqPoset_yes _ _ _ R1 _ hg0.ints hq0.ints (by omega)).mono ?_
  rintro e w12 ⟨rfl, hg12⟩
  have z12 := Lib.hid hg12.size
  have g12 : Grew w w12 := g11.trans hg12
  replace hq0 := hq0.grew hg12
  replace hg0 := hg0.grew hg12
  replace HBq := Lib.hid ((hg12.block (blk_lt HBq.out)).trans HBq.out)
  replace HBg := Lib.hid ((hg12.block (blk_lt HBg.out)).trans HBg.out)
  clear hg12 g11
  clear kq0 kq1 kg0 kg1
  have kq0 : w12.cell? ⟨w3.heap.size, 0, none⟩ = some (.int .i64 (R1.length : Int)) := by rw [blk_cell HBq.out]; rfl
  have kq1 : w12.cell? ⟨w3.heap.size, 1, none⟩ = some (.slice Aq0 R1.length cq0) := by rw [blk_cell HBq.out]; rfl
  have kg0 : w12.cell? ⟨w6.heap.size, 0, none⟩ = some (.int .i64 (R1.length : Int)) := by rw [blk_cell HBg.out]; rfl
  have kg1 : w12.cell? ⟨w6.heap.size, 1, none⟩ = some (.slice Ag0 R1.length cg0) := by rw [blk_cell HBg.out]; rfl
  go_wp2_with fail
  refine (markPoset_m _ _ R1 _ 1 _ hg0 (by omega) (by omega) (by omega)).mono ?_
  rintro e w13 ⟨rfl, hg0, hr13⟩
  have z13 := Lib.hid hr13.size
  have g13 : Grew w w13 := grew_row g12 hr13 (fun g hg => by have h1 := blg0.out g hg; have y1 := z1.out; have y2 := z2.out; have y3 := z3.out; have y4 := z4.out; have y5 := z5.out; have y6 := z6.out; have y7 := z7.out; have y8 := z8.out; have y9 := z9.out; have y10 := z10.out; have y11 := z11.out; have y12 := z12.out; omega)
  replace hq0 : OwnI w13 _ (.slice Aq0 R1.length cq0) (R1) := own_row hq0 hr13 (fun g hg hg2 => by have h1 := blg0.out g hg; have h2 := blq0.out g hg2; have y1 := z1.out; have y2 := z2.out; have y3 := z3.out; have y4 := z4.out; have y5 := z5.out; have y6 := z6.out; have y7 := z7.out; have y8 := z8.out; have y9 := z9.out; have y10 := z10.out; have y11 := z11.out; have y12 := z12.out; omega)
  replace HBq := Lib.hid ((hr13.block w3.heap.size (blk_lt HBq.out) (fun hg => by have h1 := blg0.out _ hg.symm; have y1 := z1.out; have y2 := z2.out; have y3 := z3.out; have y4 := z4.out; have y5 := z5.out; have y6 := z6.out; have y7 := z7.out; have y8 := z8.out; have y9 := z9.out; have y10 := z10.out; have y11 := z11.out; have y12 := z12.out; omega)).trans HBq.out)
  replace HBg := Lib.hid ((hr13.block w6.heap.size (blk_lt HBg.out) (fun hg => by have h1 := blg0.out _ hg.symm; have y1 := z1.out; have y2 := z2.out; have y3 := z3.out; have y4 := z4.out; have y5 := z5.out; have y6 := z6.out; have y7 := z7.out; have y8 := z8.out; have y9 := z9.out; have y10 := z10.out; have y11 := z11.out; have y12 := z12.out; omega)).trans HBg.out)
  clear hr13 g12
  clear kq0 kq1 kg0 kg1
  have kq0 : w13.cell? ⟨w3.heap.size, 0, none⟩ = some (.int .i64 (R1.length : Int)) := by rw [blk_cell HBq.out]; rfl
  have kq1 : w13.cell? ⟨w3.heap.size, 1, none⟩ = some (.slice Aq0 R1.length cq0) := by rw [blk_cell HBq.out]; rfl
  have kg0 : w13.cell? ⟨w6.heap.size, 0, none⟩ = some (.int .i64 (R1.length : Int)) := by rw [blk_cell HBg.out]; rfl
  have kg1 : w13.cell? ⟨w6.heap.size, 1, none⟩ = some (.slice Ag0 R1.length cg0) := by rw [blk_cell HBg.out]; rfl
  go_wp2_with fail
  refine (heldPoset_c _ _ R1.length 1 _ hg0.ints (by omega) (by omega) (by omega)).mono ?_
  rintro e w14 ⟨rfl, hg14⟩
  have z14 := Lib.hid hg14.size
  have g14 : Grew w w14 := g13.trans hg14
  replace hq0 := hq0.grew hg14
  replace hg0 := hg0.grew hg14
  replace HBq := Lib.hid ((hg14.block (blk_lt HBq.out)).trans HBq.out)
  replace HBg := Lib.hid ((hg14.block (blk_lt HBg.out)).trans HBg.out)
  clear hg14 g13
  clear kq0 kq1 kg0 kg1
  have kq0 : w14.cell? ⟨w3.heap.size, 0, none⟩ = some (.int .i64 (R1.length : Int)) := by rw [blk_cell HBq.out]; rfl
  have kq1 : w14.cell? ⟨w3.heap.size, 1, none⟩ = some (.slice Aq0 R1.length cq0) := by rw [blk_cell HBq.out]; rfl
  have kg0 : w14.cell? ⟨w6.heap.size, 0, none⟩ = some (.int .i64 (R1.length : Int)) := by rw [blk_cell HBg.out]; rfl
  have kg1 : w14.cell? ⟨w6.heap.size, 1, none⟩ = some (.slice Ag0 R1.length cg0) := by rw [blk_cell HBg.out]; rfl
  go_wp2_with fail
  refine (T0.out _ g14).mono ?_
  rintro e w15 ⟨y0, rfl, hy0, hg15⟩
  have z15 := Lib.hid hg15.size
  have g15 : Grew w w15 := g14.trans hg15
  replace hq0 := hq0.grew hg15
  replace hg0 := hg0.grew hg15
  replace HBq := Lib.hid ((hg15.block (blk_lt HBq.out)).trans HBq.out)
  replace HBg := Lib.hid ((hg15.block (blk_lt HBg.out)).trans HBg.out)
  clear hg15 g14
  obtain ⟨Ay0, cy0, rfl⟩ := nodes_slice hy0.nodes
  have bly0 := Lib.hid (fun g (hg : (.slice Ay0 xs.length cy0 : Value).ownBlock = some g) => (⟨own_of_ge hy0 hg, (World.ownsRow.lt hy0 g hg).2⟩ : _ ∧ _))
  clear kq0 kq1 kg0 kg1
  have kq0 : w15.cell? ⟨w3.heap.size, 0, none⟩ = some (.int .i64 (R1.length : Int)) := by rw [blk_cell HBq.out]; rfl
  have kq1 : w15.cell? ⟨w3.heap.size, 1, none⟩ = some (.slice Aq0 R1.length cq0) := by rw [blk_cell HBq.out]; rfl
  have kg0 : w15.cell? ⟨w6.heap.size, 0, none⟩ = some (.int .i64 (R1.length : Int)) := by rw [blk_cell HBg.out]; rfl
  have kg1 : w15.cell? ⟨w6.heap.size, 1, none⟩ = some (.slice Ag0 R1.length cg0) := by rw [blk_cell HBg.out]; rfl
  go_wp2_with fail
  refine (KI.out _ _ hy0.nodes).mono ?_
  rintro e w16 ⟨h0, rfl, hh0, hg16⟩
  have z16 := Lib.hid hg16.size
  have g16 : Grew w w16 := g15.trans hg16
  replace hq0 := hq0.grew hg16
  replace hg0 := hg0.grew hg16
  replace hy0 := hy0.grew hg16
  replace HBq := Lib.hid ((hg16.block (blk_lt HBq.out)).trans HBq.out)
  replace HBg := Lib.hid ((hg16.block (blk_lt HBg.out)).trans HBg.out)
  clear hg16 g15
  obtain ⟨Ah0, ch0, rfl⟩ := ints_slice hh0.ints
  have blh0 := Lib.hid (fun g (hg : (.slice Ah0 R1.length ch0 : Value).ownBlock = some g) => (⟨own_of_ge hh0 hg, (World.ownsRow.lt hh0 g hg).2⟩ : _ ∧ _))
  clear kq0 kq1 kg0 kg1
  have kq0 : w16.cell? ⟨w3.heap.size, 0, none⟩ = some (.int .i64 (R1.length : Int)) := by rw [blk_cell HBq.out]; rfl
  have kq1 : w16.cell? ⟨w3.heap.size, 1, none⟩ = some (.slice Aq0 R1.length cq0) := by rw [blk_cell HBq.out]; rfl
  have kg0 : w16.cell? ⟨w6.heap.size, 0, none⟩ = some (.int .i64 (R1.length : Int)) := by rw [blk_cell HBg.out]; rfl
  have kg1 : w16.cell? ⟨w6.heap.size, 1, none⟩ = some (.slice Ag0 R1.length cg0) := by rw [blk_cell HBg.out]; rfl
  clear hy0 bly0
  have aq0 : ∀ o, (w16.alloc o).cell? ⟨w3.heap.size, 0, none⟩ = some (.int .i64 (R1.length : Int)) := fun o => by rw [blk_cell ((((Grew.refl w16).alloc o).block (blk_lt HBq.out)).trans HBq.out)]; rfl
  have aq1 : ∀ o, (w16.alloc o).cell? ⟨w3.heap.size, 1, none⟩ = some (.slice Aq0 R1.length cq0) := fun o => by rw [blk_cell ((((Grew.refl w16).alloc o).block (blk_lt HBq.out)).trans HBq.out)]; rfl
  have ag0 : ∀ o, (w16.alloc o).cell? ⟨w6.heap.size, 0, none⟩ = some (.int .i64 (R1.length : Int)) := fun o => by rw [blk_cell ((((Grew.refl w16).alloc o).block (blk_lt HBg.out)).trans HBg.out)]; rfl
  have ag1 : ∀ o, (w16.alloc o).cell? ⟨w6.heap.size, 1, none⟩ = some (.slice Ag0 R1.length cg0) := fun o => by rw [blk_cell ((((Grew.refl w16).alloc o).block (blk_lt HBg.out)).trans HBg.out)]; rfl
  obtain ⟨w17, hw17⟩ : ∃ W, W = w16.alloc (.cells #[.int .i64 (R1.length : Int), .slice Ah0 R1.length ch0] 26) := ⟨_, rfl⟩
  have hg17 : Grew w16 w17 := by rw [hw17]; exact (Grew.refl _).alloc _
  have z17 : Hid (w17.heap.size = w16.heap.size + 1) := Lib.hid (by rw [hw17]; simp)
  have g17 : Grew w w17 := g16.trans hg17
  replace hq0 := hq0.grew hg17
  replace hg0 := hg0.grew hg17
  replace hh0 := hh0.grew hg17
  replace HBq := Lib.hid ((hg17.block (blk_lt HBq.out)).trans HBq.out)
  replace HBg := Lib.hid ((hg17.block (blk_lt HBg.out)).trans HBg.out)
  have HBh : Hid (w17.heap[w16.heap.size]? = some (.cells #[.int .i64 (R1.length : Int), .slice Ah0 R1.length ch0] 26 (0, 0))) := Lib.hid (by rw [hw17]; exact blk_new w16 _)
  clear hg17 g16
  go_wp2_with fail
  simp only [← hw17]
  clear hw17
  refine (eqPoset_yes _ _ _ R1 _ hh0.ints hq0.ints (by omega)).mono ?_
  rintro e w18 ⟨rfl, hg18⟩
  have z18 := Lib.hid hg18.size
  have g18 : Grew w w18 := g17.trans hg18
  replace hq0 := hq0.grew hg18
  replace hg0 := hg0.grew hg18
  replace hh0 := hh0.grew hg18
  replace HBq := Lib.hid ((hg18.block (blk_lt HBq.out)).trans HBq.out)
  replace HBg := Lib.hid ((hg18.block (blk_lt HBg.out)).trans HBg.out)
  replace HBh := Lib.hid ((hg18.block (blk_lt HBh.out)).trans HBh.out)
  clear hg18 g17
  clear kq0 kq1 kg0 kg1 aq0 aq1 ag0 ag1
  have kq0 : w18.cell? ⟨w3.heap.size, 0, none⟩ = some (.int .i64 (R1.length : Int)) := by rw [blk_cell HBq.out]; rfl
  have kq1 : w18.cell? ⟨w3.heap.size, 1, none⟩ = some (.slice Aq0 R1.length cq0) := by rw [blk_cell HBq.out]; rfl
  have kg0 : w18.cell? ⟨w6.heap.size, 0, none⟩ = some (.int .i64 (R1.length : Int)) := by rw [blk_cell HBg.out]; rfl
  have kg1 : w18.cell? ⟨w6.heap.size, 1, none⟩ = some (.slice Ag0 R1.length cg0) := by rw [blk_cell HBg.out]; rfl
  have kh0 : w18.cell? ⟨w16.heap.size, 0, none⟩ = some (.int .i64 (R1.length : Int)) := by rw [blk_cell HBh.out]; rfl
  have kh1 : w18.cell? ⟨w16.heap.size, 1, none⟩ = some (.slice Ah0 R1.length ch0) := by rw [blk_cell HBh.out]; rfl
  clear hh0 blh0
  go_wp2_with fail
  refine (heldPoset_c _ _ R1.length 1 _ hg0.ints (by omega) (by omega) (by omega)).mono ?_
  rintro e w19 ⟨rfl, hg19⟩
  have z19 := Lib.hid hg19.size
  have g19 : Grew w w19 := g18.trans hg19
  replace hq0 := hq0.grew hg19
  replace hg0 := hg0.grew hg19
  replace HBq := Lib.hid ((hg19.block (blk_lt HBq.out)).trans HBq.out)
  replace HBg := Lib.hid ((hg19.block (blk_lt HBg.out)).trans HBg.out)
  replace HBh := Lib.hid ((hg19.block (blk_lt HBh.out)).trans HBh.out)
  clear hg19 g18
  clear kq0 kq1 kg0 kg1 kh0 kh1
  have kq0 : w19.cell? ⟨w3.heap.size, 0, none⟩ = some (.int .i64 (R1.length : Int)) := by rw [blk_cell HBq.out]; rfl
  have kq1 : w19.cell? ⟨w3.heap.size, 1, none⟩ = some (.slice Aq0 R1.length cq0) := by rw [blk_cell HBq.out]; rfl
  have kg0 : w19.cell? ⟨w6.heap.size, 0, none⟩ = some (.int .i64 (R1.length : Int)) := by rw [blk_cell HBg.out]; rfl
  have kg1 : w19.cell? ⟨w6.heap.size, 1, none⟩ = some (.slice Ag0 R1.length cg0) := by rw [blk_cell HBg.out]; rfl
  have kh0 : w19.cell? ⟨w16.heap.size, 0, none⟩ = some (.int .i64 (R1.length : Int)) := by rw [blk_cell HBh.out]; rfl
  have kh1 : w19.cell? ⟨w16.heap.size, 1, none⟩ = some (.slice Ah0 R1.length ch0) := by rw [blk_cell HBh.out]; rfl
  go_wp2_with fail
  go_ret
  exact ⟨rfl, g19⟩
end Go.Proofs.YtmcbjekianclpaaGreat

/- An argument that is a list of nodes. -/
namespace Go.Proofs.YtmcbjekianclpaaGreat
open Go.RowKit
open Fm (Nd)

theorem cellN_lt {w : World} {a : Addr} {u : Value} (h : w.cell? a = some u) : a.block < w.heap.size := by
  unfold World.cell? at h
  split at h
  · rename_i hh
    exact (Array.getElem?_eq_some_iff.1 hh).1
  · cases h

theorem argN_of_trod {H : Type} {enc : TypeId × Value → H} {P : Program} {W : World} {sp : Nat → Bool} {held : Bool} {n : Nat} {t e : TypeId} {f0 f1 : Field} {v : Value} {y : DataW H × List MemPlace}
    (ht : P.underlying t = some (.slice e)) (he : P.underlying e = some (.struct #[f0, f1])) (ce : P.cellsOf e = 2) (o0 : f0.offset = 0) (o1 : f1.offset = 1) (c0 : P.cellsOf f0.type = 1) (c1 : P.cellsOf f1.type = 1)
    (u0 : P.underlying f0.type = some (.int .i64)) (u1 : P.underlying f1.type = some (.int .i64)) (h : DataW.trod enc P W 0 sp held n t [v] = some y) : ∃ xs, ArgN W v xs := by
  rcases Go.Deep.open_slice_pairs ht he ce o0 o1 c0 c1 h with ⟨hv, _⟩ | ⟨a, len, cap, m, k, V0, V1, D0, D1, P0, P1, hv, _, hl, hm, hmm, _, hcell⟩
  · obtain rfl : v = .slice none 0 0 := by simpa using hv
    exact ⟨[], ⟨none, 0, rfl, by simp⟩, fun h => absurd h (by simp)⟩
  · obtain rfl : v = .slice (some a) len cap := by simpa using hv
    have hlm : len ≤ m := by rw [hmm]; split <;> omega
    have hmax : maxLen = 9223372036854775807 := by decide
    rw [hmax] at hm
    have each : ∀ i, i < len → ∃ q : Int × Int, V0 i = .int .i64 q.1 ∧ V1 i = .int .i64 q.2 := fun i hi => by
      obtain ⟨_, _, t0, t1⟩ := hcell i (by omega)
      obtain ⟨x, hx, _⟩ := DataW.trod_int u0 t0
      obtain ⟨z, hz, _⟩ := DataW.trod_int u1 t1
      exact ⟨(x, z), by simpa using hx, by simpa using hz⟩
    obtain ⟨q, hq⟩ := Go.Deep.choose_lt each
    have hlen : ((List.range len).map q).length = len := by simp
    refine ⟨(List.range len).map q, ⟨some a, cap, by rw [hlen], by rw [hlen]; omega⟩, fun hp => ?_⟩
    rw [hlen] at hp
    obtain ⟨b, off, spot⟩ := a
    have h0 := (hcell 0 (by omega)).1
    have hspot : spot = none := by simpa [Addr.add] using World.cell?_spot h0
    subst hspot
    have hb := cellN_lt h0
    have hadd : ∀ i, (⟨b, off, none⟩ : Addr).add i = ⟨b, off + i, none⟩ := fun i => by
      unfold Addr.add
      split
      · subst_vars; rfl
      · rfl
    rw [hadd] at hb
    unfold Nodes Rd
    rw [hlen]
    refine ⟨by rw [cells_length, hlen], by omega, .inr ⟨b, off, cap, rfl, hl, hm, hb, fun j u hu => ?_⟩⟩
    have hj : j < len * 2 := by
      have := (List.getElem?_eq_some_iff.1 hu).1
      rw [cells_length, hlen] at this
      exact this
    have hi : j / 2 < len := by omega
    obtain ⟨e0, e1, _⟩ := hcell (j / 2) (by omega)
    rw [hadd, (hq _ hi).1] at e0
    rw [hadd, (hq _ hi).2] at e1
    obtain ⟨k0, k1⟩ := cells_at ((List.range len).map q) (j / 2) (by rw [hlen]; exact hi)
    have hk0 : kd ((List.range len).map q) (j / 2) = (q (j / 2)).1 := by simp [kd, List.getD, hi]
    have hk1 : sy ((List.range len).map q) (j / 2) = (q (j / 2)).2 := by simp [sy, List.getD, hi]
    rw [hk0] at k0
    rw [hk1] at k1
    have hd := Nat.div_add_mod j 2
    rcases Nat.mod_two_eq_zero_or_one j with hmo | hmo
    · have e : j = j / 2 * 2 := by omega
      rw [e] at hu ⊢
      rw [k0] at hu
      rw [← hu]
      exact e0
    · have e : j = j / 2 * 2 + 1 := by omega
      rw [e] at hu ⊢
      rw [k1] at hu
      rw [← hu]
      exact e1
end Go.Proofs.YtmcbjekianclpaaGreat

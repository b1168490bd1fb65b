/- Texts in one file: FaD FaW Sch Uu Wgs Wgr Wgx Wgu Wgv Flw From BigW Wgw Wgl StpR WfF WfG WfH WfI WfJ WfK LawWp. -/
import Derived.Deep.RegionLaw
import Derived.Deep.LoopGhost
import Derived.Orders
import Derived.Tactics
import Derived.StillTailTactics
import Derived.BigRegion
import Derived.BigQuiet
import Derived.Deep.RegionHeld3
import Derived.Maps.AppendAt
import Derived.Test.YtjlnompmhgjaaaaGreatPa1
import Derived.Test.YtjlnompmhgjaaaaGreatPa2
import Derived.Test.YtjlnompmhgjaaaaGreatPa3
set_option linter.all false

/- The draw of a frame: l05Make, l05Some of the reference; only the shape is told. -/
namespace Go.Proofs.YtjlnompmhgjaaaaGreat
open Go.RowKit

theorem l05Make_c (v : Value) (L : List Int) (w : World) (h : Ints w v L) (hn : L.length ≤ 1099511627776) :
    Calls Tryz.prog 99 #[v] w (GivesPs w L) := by
  have hinfo := info2F
  have HC := Lib.hid (fun W hW => ownR_c v L W (h.grew hW) hn)
  have hmx : L.length ≤ 9223372036854775807 := h.2.1
  obtain ⟨A, c, rfl⟩ := ints_slice h
  clear h
  generalize hNL : L.length = n at *
  go_enter Tryz.func99, Tryz.ntmps99
  go_wp2_with fail
  refine (HC.out _ ((Grew.refl w).alloc _)).mono ?_
  rintro e w2 ⟨v2, rfl, hO2, hg2⟩
  obtain ⟨A2, c2, rfl⟩ := ints_slice hO2.ints
  have hb2 : w2.heap[w.heap.size]? = some (.cells #[.int .i64 0, .slice none 0 0] 26 (0, 0)) := (hg2.block (by simp)).trans (blk_new w _)
  have c0 : w2.cell? ⟨w.heap.size, 0, none⟩ = some (.int .i64 0) := by rw [blk_cell hb2]; rfl
  have c1 : w2.cell? ⟨w.heap.size, 1, none⟩ = some (.slice none 0 0) := by rw [blk_cell hb2]; rfl
  have f0 := blk_frozen hb2 0
  have f1 := blk_frozen hb2 1
  have HB2 := Lib.hid hb2
  have HO2 := Lib.hid hO2
  clear hb2 hO2
  rw [hNL]
  go_wp2_with fail
  (try simp only [Exit.inBlock, Exit.then])
  refine bodyPost_ret (results_cell_row rfl _ _ w.heap.size _ _ _ _ rfl (blk_set (blk_set HB2.out 0 _) 1 _) Tryz.underlying26 rfl hinfo) rfl ?_
  have hk : Only w.heap.size w2 ((w2.setCell ⟨w.heap.size, 0, none⟩ (.int .i64 (n : Int))).setCell ⟨w.heap.size, 1, none⟩ (.slice A2 n c2)) := ((Only.refl _ _).setCell _).setCell _
  have hO := HO2.out
  rw [hNL] at hO
  refine ⟨_, by rw [hNL]; rfl, ?_, (((Grew.refl w).alloc _).trans hg2).setCell (Nat.le_refl _) _ |>.setCell (Nat.le_refl _) _⟩
  exact OwnI.base (own_only hO hk (fun hh => by have := own_of_ge hO hh; simp at this; omega)) (by simp)
set_option maxRecDepth 100000 in
set_option maxHeartbeats 1000000 in
theorem l05Some_c (g : Nat) (cv : Value) (N : Nat) (m : Nat) (hm : m ≤ 8) (w : World) (h : Src w g cv N) :
    Calls Tryz.prog 64 #[.pointer (some ⟨g, 0, none⟩), .int .i64 (m : Int)] w (GivesD g cv N m w) := by
  have hinfo := info2F
  have hgl := h.lt
  have HF := Lib.hid (fun (i : Nat) (hi : i ≤ 30) W => show Calls Tryz.prog 63 #[.int .i64 (i : Int)] W fun e w' => e = .returned (.int .i64 ((full i : Nat) : Int)) ∧ w' = W from by
    have h0 := l01Full_q i hi W
    rwa [← full_cast] at h0)
  have HFS := Lib.hid (fun (i : Nat) (hi : i ≤ 30) => show full i < 1073741824 from by
    have := pow30' hi
    have := Nat.pow_pos (n := i) (show 0 < 2 by omega)
    unfold full
    omega)
  have HAN := Lib.hid (fun a b (ha : a < 1073741824) (hb : b < 1073741824) => andNot_i64 a b (by omega) (by omega))
  have HAS := Lib.hid (fun a b (ha : a < 1073741824) => Nat.lt_of_le_of_lt (dif_le (a := a) (b := b)) ha)
  have HND := Lib.hid (fun a b (ha : a < 1073741824) (hb : b < 1073741824) => and_i64 a b (by omega) (by omega))
  have HNS := Lib.hid (fun a b (ha : a < 1073741824) => and_sm (a := a) (b := b) ha)
  have hS0 := h.grew ((Grew.refl w).alloc (.cells #[.int .i64 0, .slice none 0 0] 26))
  have HS := Lib.hid hS0
  have HB0 := Lib.hid (blk_new w (.cells #[.int .i64 0, .slice none 0 0] 26))
  have hU0 := ((Grew.refl w).alloc (.cells #[.int .i64 0, .slice none 0 0] 26)).only (g := g)
  have hsz0 : (w.alloc (.cells #[.int .i64 0, .slice none 0 0] 26)).heap.size = w.heap.size + 1 := by simp
  have HSZ := Lib.hid hsz0
  obtain ⟨w0, hw0⟩ : ∃ w0, w0 = w.alloc (.cells #[.int .i64 0, .slice none 0 0] 26) := ⟨_, rfl⟩
  rw [← hw0] at HS HB0 HSZ hU0
  clear h hS0 hsz0
  go_enter Tryz.func64, Tryz.ntmps64
  go_wp2_with fail
  simp only [← hw0]
  clear hw0
  refine (l01Next_c g cv N ((m : Int) + 1) _ HS.out (by omega)).mono ?_
  rintro e w1 ⟨r, rfl, hr0, hr1, _, hS1, ho1⟩
  obtain ⟨n, rfl⟩ : ∃ n : Nat, r = n := ⟨r.toNat, by omega⟩
  have hnm := hr1 (by omega)
  have HS1 := Lib.hid hS1
  have hs1 := ho1.size
  have HG1 := Lib.hid hs1
  clear hr1 hS1 hs1
  go_wp2_with fail
  refine (l01Next_c g cv N 3 _ (HS1.out.grew ((Grew.refl _).alloc _)) (by omega)).mono ?_
  rintro e w2 ⟨th, rfl, ht0, ht1, _, hS2, ho2⟩
  obtain ⟨th, rfl⟩ : ∃ n : Nat, th = n := ⟨th.toNat, by omega⟩
  have ht2 := ht1 (by omega)
  have HS2 := Lib.hid hS2
  have hU2 := (ho1.alloc (.cells #[] 2)).trans ho2
  have HO2 := Lib.hid (own_srcI (own_emptyI w1) (by have := HG1.out; have := HSZ.out; omega) ho2)
  have HFn := Lib.hid (HF.out n (by omega))
  have hfn := HFS.out n (by omega)
  have HFX := Lib.hid (fun j (hj : j < n) => HF.out (j + 1) (by omega))
  have HFY := Lib.hid (fun j (hj : j < n) => HFS.out (j + 1) (by omega))
  clear hS2 ht1 HS1 HS
  generalize full n = fn at *
  have hB1 : w0.heap.size ≤ w1.heap.size := HG1.out
  go_wp2_with fail
  go_loopw [6, 8, 9, 10] (fun s i _ _ wr => ∃ (j : Nat) (K : List Nat), j ≤ n ∧ i = .int .i64 j ∧ Hid (OwnI wr w1.heap.size s (zs K)) ∧ Hid (K.length = j) ∧ Hid (Sm K) ∧ Hid (Src wr g cv N) ∧ Only g w0 wr ∧ w1.heap.size ≤ wr.heap.size) (fun _ i _ _ _ => n - (intOf i).toNat)
  case atStart => exact ⟨0, [], by omega, rfl, HO2, Lib.hid rfl, Lib.hid Sm.nil_, HS2, hU2, by have := ho2.size; simp at this; omega⟩
  case round =>
    obtain ⟨j, K, hj, rfl, hO, hL, hX, hS, hU, hsz⟩ := hrel
    by_cases hlt : j < n
    · go_wp2_with fail
      refine (HFn.out _).mono ?_
      rintro e w3 ⟨rfl, rfl⟩
      go_wp2_with fail
      refine (l01Next_c g cv N ((fn : Int) + 1) _ hS.out (by omega)).mono ?_
      rintro e w4 ⟨r4, rfl, hr40, hr41, _, hS4, ho4⟩
      obtain ⟨a, rfl⟩ : ∃ n : Nat, r4 = n := ⟨r4.toNat, by omega⟩
      have hr42 := hr41 (by omega)
      have ha : a < 1073741824 := by omega
      have hU4 := hU.trans ho4
      have hz4 := Nat.le_trans hsz ho4.size
      have HO4 := Lib.hid (own_srcI hO.out (by have := HSZ.out; omega) ho4)
      have HS4 := Lib.hid hS4
      clear hS4 hr41
      go_wp2_with fail
      go_loopw [9, 10] (fun q i wr => ∃ (k b : Nat), k ≤ th ∧ i = .int .i64 k ∧ q = .int .i64 b ∧ b < 1073741824 ∧ Hid (OwnI wr w1.heap.size u6 (zs K)) ∧ Hid (Src wr g cv N) ∧ Only g w0 wr ∧ w1.heap.size ≤ wr.heap.size) (fun _ i _ => th - (intOf i).toNat)
      case atStart => exact ⟨0, a, by omega, rfl, rfl, ha, HO4, HS4, hU4, hz4⟩
      case round =>
        obtain ⟨k, b, hk, rfl, rfl, hb, hO5, hS5, hU5, hsz5⟩ := hrel
        by_cases hlk : k < th
        · go_wp2_with fail
          refine (HFn.out _).mono ?_
          rintro e w6 ⟨rfl, rfl⟩
          go_wp2_with fail
          refine (l01Next_c g cv N ((fn : Int) + 1) _ hS5.out (by omega)).mono ?_
          rintro e w7 ⟨r7, rfl, hr70, hr71, _, hS7, ho7⟩
          obtain ⟨x, rfl⟩ : ∃ n : Nat, r7 = n := ⟨r7.toNat, by omega⟩
          have hr72 := hr71 (by omega)
          have hnd := HND.out b x hb (by omega)
          have hns := HNS.out b x hb
          generalize b &&& x = y at *
          have HO7 := Lib.hid (own_srcI hO5.out (by have := HSZ.out; omega) ho7)
          have HS7 := Lib.hid hS7
          clear hS7 hr71
          go_wp2_with fail
          go_roundw
          case rel => exact ⟨k + 1, y, by omega, by go_num, rfl, hns, HO7, HS7, hU5.trans ho7, Nat.le_trans hsz5 ho7.size⟩
          case measure => simp [intOf]; omega
        · have hl : (zs K).length ≤ 1048576 := by rw [zs_len, hL.out]; omega
          obtain ⟨P, hP⟩ : ∃ P, P = zs K := ⟨_, rfl⟩
          have hO6 := hO5.out
          rw [← hP] at hO6 hl
          have HPK := Lib.hid hP
          clear hP
          have hg5 := (Grew.refl wr).alloc (.cells #[.int .i64 (b : Int)] 2)
          have hSs := hS5.out
          go_wp2_with (first | (at_builtin; refine wpList_appIB w1.heap.size _ _ rfl rfl _ P rfl (hO6.grew hg5) (Nat.le_trans hsz5 hg5.size) _ (b : Int) rfl (rd_litI _ _ _) hl ?_; intro v8 w8 hO8 hg8))
          have hge := fun k hk => own_of_ge (hO6.grew hg5) (g := k) hk
          have hU8 : Only g w0 w8 := (hU5.grew hg5).newer2 hg8 (fun k hk => Nat.le_trans hB1 (hge k hk))
          go_roundw
          case rel => exact ⟨j + 1, K ++ [b], by omega, by go_num, Lib.hid (by rw [zs_append, zs_one, ← HPK.out]; exact hO8), Lib.hid (by rw [List.length_append, hL.out]; rfl), Lib.hid (hX.out.app hb), Lib.hid ((hSs.grew hg5).other2 hg8 (fun k hk => by have := hge k hk; have := HSZ.out; omega)), hU8, Nat.le_trans (Nat.le_trans hsz5 hg5.size) hg8.size⟩
          case measure => simp [intOf]; omega
    · obtain rfl : j = n := by omega
      clear HO2 HFn
      obtain ⟨A, c, rfl⟩ := ints_sliceN hO.out.ints
      have hO0 := hO.out
      rw [hL.out] at hO0
      have HO0 := Lib.hid hO0
      rw [hL.out]
      clear hO0 hO
      go_wp2_with fail
      refine (l01Next_c g cv N 8 _ hS.out (by omega)).mono ?_
      rintro e w5 ⟨r, rfl, hr0', hr8, _, hS5, ho5⟩
      have hU5 := hU.trans ho5
      have HO5 := Lib.hid (own_srcI HO0.out (by have := HSZ.out; omega) ho5)
      have HS5 := Lib.hid hS5
      have hsz5 := Nat.le_trans hsz ho5.size
      clear hS5 HO0 hr8
      cases b0 : (r == 0) with
      | true =>
        have hK1 := Lib.hid (l01Reflexive_c (.slice A j c) K w5 HO5.out.ints hX.out (by rw [hL.out]; omega))
        rw [hL.out] at hK1
        go_wp2_with fail
        refine hK1.out.mono ?_
        rintro e x1 ⟨v1, L1, rfl, hi1, hl1, hm1, hg1⟩
        obtain ⟨A1, c1, rfl⟩ := ints_sliceN hi1.ints
        have HI1 := Lib.hid hi1
        have HM1 := Lib.hid hm1
        have HL1 := Lib.hid hl1
        rw [hl1]
        clear hi1 hm1 hl1 hK1
        have hU1x := (hU5).grew hg1
        have HS1x := Lib.hid ((HS5.out).grew hg1)
        have hMk := Lib.hid (l05Make_c (.slice A1 j c1) (zs L1) x1 ((show Ints x1 (.slice A1 j c1) (zs L1) from by have h := HI1.out.ints; rw [HL1.out] at h; exact h)) (by rw [zs_len, HL1.out]; omega))
        go_wp2_with fail
        refine hMk.out.mono ?_
        rintro e w6 ⟨v6, rfl, hO6, hg6⟩
        obtain ⟨A6, c6, rfl⟩ := ints_slice hO6.ints
        have hU6 := (hU1x).grew hg6
        have hb6 : w6.heap[w.heap.size]? = some (.cells #[.int .i64 0, .slice none 0 0] 26 (0, 0)) := (hU6.block (by have := HSZ.out; omega) (by omega)).trans HB0.out
        have c0 : w6.cell? ⟨w.heap.size, 0, none⟩ = some (.int .i64 0) := by rw [blk_cell hb6]; rfl
        have c1 : w6.cell? ⟨w.heap.size, 1, none⟩ = some (.slice none 0 0) := by rw [blk_cell hb6]; rfl
        have f0 := blk_frozen hb6 0
        have f1 := blk_frozen hb6 1
        have HB6 := Lib.hid hb6
        have HO6 := Lib.hid hO6
        clear hb6 hO6
        go_wp2_with fail
        (try simp only [Exit.inBlock, Exit.then])
        refine bodyPost_ret (results_cell_row rfl _ _ w.heap.size _ _ _ _ rfl (blk_set (blk_set HB6.out 0 _) 1 _) Tryz.underlying26 rfl hinfo) rfl ?_
        have hk : Only w.heap.size w6 ((w6.setCell ⟨w.heap.size, 0, none⟩ (.int .i64 ((zs L1).length : Int))).setCell ⟨w.heap.size, 1, none⟩ (.slice A6 (zs L1).length c6)) := ((Only.refl _ _).setCell _).setCell _
        have hz6 : w.heap.size + 1 ≤ x1.heap.size := by have := HSZ.out; have := (hU1x).size; omega
        have hO7 := own_only HO6.out hk (fun hh => by have := own_of_ge HO6.out hh; omega)
        refine ⟨_, L1, by rw [← zs_len]; rfl, own_base hO7 (by omega), by rw [HL1.out]; omega, HM1.out, ((HS1x.out).grew hg6).other hk hgl, (hU0.trans hU6).newer hk (Nat.le_refl _)⟩
      | false =>
      cases b1 : (r == 1) with
      | true =>
        have hK1 := Lib.hid (l01Closure_c (.slice A j c) K w5 HO5.out.ints hX.out (by rw [hL.out]; omega))
        rw [hL.out] at hK1
        go_wp2_with fail
        refine hK1.out.mono ?_
        rintro e x1 ⟨v1, L1, rfl, hi1, hl1, hm1, hg1⟩
        obtain ⟨A1, c1, rfl⟩ := ints_sliceN hi1.ints
        have HI1 := Lib.hid hi1
        have HM1 := Lib.hid hm1
        have HL1 := Lib.hid hl1
        rw [hl1]
        clear hi1 hm1 hl1 hK1
        have hU1x := (hU5).grew hg1
        have HS1x := Lib.hid ((HS5.out).grew hg1)
        have hMk := Lib.hid (l05Make_c (.slice A1 j c1) (zs L1) x1 ((show Ints x1 (.slice A1 j c1) (zs L1) from by have h := HI1.out.ints; rw [HL1.out] at h; exact h)) (by rw [zs_len, HL1.out]; omega))
        go_wp2_with fail
        refine hMk.out.mono ?_
        rintro e w6 ⟨v6, rfl, hO6, hg6⟩
        obtain ⟨A6, c6, rfl⟩ := ints_slice hO6.ints
        have hU6 := (hU1x).grew hg6
        have hb6 : w6.heap[w.heap.size]? = some (.cells #[.int .i64 0, .slice none 0 0] 26 (0, 0)) := (hU6.block (by have := HSZ.out; omega) (by omega)).trans HB0.out
        have c0 : w6.cell? ⟨w.heap.size, 0, none⟩ = some (.int .i64 0) := by rw [blk_cell hb6]; rfl
        have c1 : w6.cell? ⟨w.heap.size, 1, none⟩ = some (.slice none 0 0) := by rw [blk_cell hb6]; rfl
        have f0 := blk_frozen hb6 0
        have f1 := blk_frozen hb6 1
        have HB6 := Lib.hid hb6
        have HO6 := Lib.hid hO6
        clear hb6 hO6
        go_wp2_with fail
        (try simp only [Exit.inBlock, Exit.then])
        refine bodyPost_ret (results_cell_row rfl _ _ w.heap.size _ _ _ _ rfl (blk_set (blk_set HB6.out 0 _) 1 _) Tryz.underlying26 rfl hinfo) rfl ?_
        have hk : Only w.heap.size w6 ((w6.setCell ⟨w.heap.size, 0, none⟩ (.int .i64 ((zs L1).length : Int))).setCell ⟨w.heap.size, 1, none⟩ (.slice A6 (zs L1).length c6)) := ((Only.refl _ _).setCell _).setCell _
        have hz6 : w.heap.size + 1 ≤ x1.heap.size := by have := HSZ.out; have := (hU1x).size; omega
        have hO7 := own_only HO6.out hk (fun hh => by have := own_of_ge HO6.out hh; omega)
        refine ⟨_, L1, by rw [← zs_len]; rfl, own_base hO7 (by omega), by rw [HL1.out]; omega, HM1.out, ((HS1x.out).grew hg6).other hk hgl, (hU0.trans hU6).newer hk (Nat.le_refl _)⟩
      | false =>
      cases b2 : (r == 2) with
      | true =>
        have hK1 := Lib.hid (l01Closure_c (.slice A j c) K w5 HO5.out.ints hX.out (by rw [hL.out]; omega))
        rw [hL.out] at hK1
        go_wp2_with fail
        refine hK1.out.mono ?_
        rintro e x1 ⟨v1, L1, rfl, hi1, hl1, hm1, hg1⟩
        obtain ⟨A1, c1, rfl⟩ := ints_sliceN hi1.ints
        have HI1 := Lib.hid hi1
        have HM1 := Lib.hid hm1
        have HL1 := Lib.hid hl1
        rw [hl1]
        clear hi1 hm1 hl1 hK1
        have hU1x := (hU5).grew hg1
        have HS1x := Lib.hid ((HS5.out).grew hg1)
        have hK2 := Lib.hid (l01Reflexive_c (.slice A1 j c1) L1 x1 (show Ints x1 (.slice A1 j c1) (zs L1) from by have h := HI1.out.ints; rw [HL1.out] at h; exact h) HM1.out (by rw [HL1.out]; omega))
        rw [HL1.out] at hK2
        go_wp2_with fail
        refine hK2.out.mono ?_
        rintro e x2 ⟨v2, L2, rfl, hi2, hl2, hm2, hg2⟩
        obtain ⟨A2, c2, rfl⟩ := ints_sliceN hi2.ints
        have HI2 := Lib.hid hi2
        have HM2 := Lib.hid hm2
        have HL2 := Lib.hid hl2
        rw [hl2]
        clear hi2 hm2 hl2 hK2
        have hU2x := (hU1x).grew hg2
        have HS2x := Lib.hid ((HS1x.out).grew hg2)
        have hMk := Lib.hid (l05Make_c (.slice A2 j c2) (zs L2) x2 ((show Ints x2 (.slice A2 j c2) (zs L2) from by have h := HI2.out.ints; rw [HL2.out] at h; exact h)) (by rw [zs_len, HL2.out]; omega))
        go_wp2_with fail
        refine hMk.out.mono ?_
        rintro e w6 ⟨v6, rfl, hO6, hg6⟩
        obtain ⟨A6, c6, rfl⟩ := ints_slice hO6.ints
        have hU6 := (hU2x).grew hg6
        have hb6 : w6.heap[w.heap.size]? = some (.cells #[.int .i64 0, .slice none 0 0] 26 (0, 0)) := (hU6.block (by have := HSZ.out; omega) (by omega)).trans HB0.out
        have c0 : w6.cell? ⟨w.heap.size, 0, none⟩ = some (.int .i64 0) := by rw [blk_cell hb6]; rfl
        have c1 : w6.cell? ⟨w.heap.size, 1, none⟩ = some (.slice none 0 0) := by rw [blk_cell hb6]; rfl
        have f0 := blk_frozen hb6 0
        have f1 := blk_frozen hb6 1
        have HB6 := Lib.hid hb6
        have HO6 := Lib.hid hO6
        clear hb6 hO6
        go_wp2_with fail
        (try simp only [Exit.inBlock, Exit.then])
        refine bodyPost_ret (results_cell_row rfl _ _ w.heap.size _ _ _ _ rfl (blk_set (blk_set HB6.out 0 _) 1 _) Tryz.underlying26 rfl hinfo) rfl ?_
        have hk : Only w.heap.size w6 ((w6.setCell ⟨w.heap.size, 0, none⟩ (.int .i64 ((zs L2).length : Int))).setCell ⟨w.heap.size, 1, none⟩ (.slice A6 (zs L2).length c6)) := ((Only.refl _ _).setCell _).setCell _
        have hz6 : w.heap.size + 1 ≤ x2.heap.size := by have := HSZ.out; have := (hU2x).size; omega
        have hO7 := own_only HO6.out hk (fun hh => by have := own_of_ge HO6.out hh; omega)
        refine ⟨_, L2, by rw [← zs_len]; rfl, own_base hO7 (by omega), by rw [HL2.out]; omega, HM2.out, ((HS2x.out).grew hg6).other hk hgl, (hU0.trans hU6).newer hk (Nat.le_refl _)⟩
      | false =>
      cases b3 : (r == 3) with
      | true =>
        by_cases hj0 : 0 < j
        · obtain ⟨gr, rfl, hgr, hR0⟩ := own_nrow HO5.out hL.out hj0
          have HR0 := Lib.hid hR0
          have HZ := Lib.hid (fun i (hi : i < j) => hX.out.at_ (show i < K.length by rw [hL.out]; exact hi))
          clear hR0 HO5
          have hgg : gr ≠ g := by have := HSZ.out; omega
          have HAN := Lib.hid (fun a b (ha : a < 1073741824) (hb : b < 1073741824) => andNot_i64 a b (by omega) (by omega))
          go_wp2_with fail
          go_loopw [11] (fun i wr => ∃ (q : Nat) (f : Nat → Nat), q ≤ j ∧ i = .int .i64 q ∧ Hid (NRow wr gr j c f) ∧ Hid (∀ x, x < j → f x < 1073741824) ∧ Hid (Src wr g cv N) ∧ Only g w0 wr ∧ w1.heap.size ≤ wr.heap.size) (fun i _ => j - (intOf i).toNat)
          case atStart => exact ⟨0, _, by omega, rfl, HR0, HZ, HS5, hU5, hsz5⟩
          case round =>
            obtain ⟨q, f, hq, rfl, hR, hZ, hSq, hUq, hszq⟩ := hrel
            by_cases hlq : q < j
            · have c2' : ∀ W, Grew wr W → W.cell? ⟨gr, q, none⟩ = some (.int .i64 ((f q : Nat) : Int)) := fun W hW => (hR.out.grew hW).cell hlq
              have c4' : ∀ W, Grew wr W → W.frozen? ⟨gr, q, none⟩ = false := fun W hW => (hR.out.grew hW).free q
              have ho := HAN.out (f q) (full (q + 1)) (hZ.out q hlq) (HFY.out q hlq)
              have hos := Lib.hid (HAS.out (f q) (full (q + 1)) (hZ.out q hlq))
              have hw1 : IntKind.i64.wrap ((q : Int) + 1) = (q : Int) + 1 := by rw [IntKind.wrap_i64]; omega
              have hFq := Lib.hid (show ∀ W, Calls Tryz.prog 63 #[.int .i64 ((q : Int) + 1)] W fun e w' => e = .returned (.int .i64 ((full (q + 1) : Nat) : Int)) ∧ w' = W from HFX.out q hlq)
              have hr1 := Grew.refl wr
              have hrd := hr1.drew
              generalize f q = y at *
              generalize full (q + 1) = fq at *
              generalize hdd : dif y fq = dd at *
              have hi0 : (0 : Int) ≤ (q : Int) := by omega
              have hi6 : (q : Int) < (j : Int) := by omega
              go_wp2_with fail
              go_region_law (first
                | (go_simp; go_at_call 63; refine (hFq.out _).mono ?_; rintro e w9 ⟨rfl, hw9⟩; rw [hw9]; clear hw9)
                | (go_at_call 63; refine (hFq.out _).mono ?_; rintro e w9 ⟨rfl, hw9⟩; rw [hw9]; clear hw9))
              all_goals
                go_wp2_with fail
                go_roundw
                case rel =>
                  have e1 : (fun p => if p = q then dd else f p) q = dd := if_pos rfl
                  have e2 : ∀ p, p < j → p ≠ q → (fun p => if p = q then dd else f p) p = f p := fun p _ hp => if_neg hp
                  have hkb : ∀ W, Grew wr W → Only gr W (W.setCell ⟨gr, q, none⟩ (.int .i64 (dd : Int))) := fun W _ => (Only.refl _ _).setCell _
                  refine ⟨q + 1, fun p => if p = q then dd else f p, by omega, by go_num, Lib.hid ((hR.out.set hlq e1 e2).grew ((Grew.refl _).drew)), Lib.hid (fun x hx => ?_), Lib.hid ((hSq.out.other (hkb wr hr1) (by first | exact hgg | exact hgg.symm | (have := HSZ.out; omega))).grew ((Grew.refl _).drew)), (hUq.newer (hkb wr hr1) (by have := HSZ.out; omega)).drew, by simpa using hszq⟩
                  by_cases hxk : x = q
                  · rw [hxk, e1]; exact hos.out
                  · rw [e2 x hx hxk]; exact hZ.out x hx
                case measure => simp [intOf]; omega
            · obtain rfl : q = j := by omega
              have hOx := hR.out.own hgr
              have HOx := Lib.hid hOx
              have HMx := Lib.hid (show Sm ((List.range q).map f) from fun m hm => by
                rw [List.mem_map] at hm
                obtain ⟨i, hi, rfl⟩ := hm
                exact hZ.out i (List.mem_range.1 hi))
              have HLx := Lib.hid (show ((List.range q).map f).length = q by simp)
              clear hOx
              generalize (List.range q).map f = Kx at *
              have hMk := Lib.hid (l05Make_c (.slice (some ⟨gr, 0, none⟩) q c) (zs Kx) wr (HOx.out.ints) (by rw [zs_len, HLx.out]; omega))
              go_wp2_with fail
              refine hMk.out.mono ?_
              rintro e w6 ⟨v6, rfl, hO6, hg6⟩
              obtain ⟨A6, c6, rfl⟩ := ints_slice hO6.ints
              have hU6 := (hUq).grew hg6
              have hb6 : w6.heap[w.heap.size]? = some (.cells #[.int .i64 0, .slice none 0 0] 26 (0, 0)) := (hU6.block (by have := HSZ.out; omega) (by omega)).trans HB0.out
              have c0 : w6.cell? ⟨w.heap.size, 0, none⟩ = some (.int .i64 0) := by rw [blk_cell hb6]; rfl
              have c1 : w6.cell? ⟨w.heap.size, 1, none⟩ = some (.slice none 0 0) := by rw [blk_cell hb6]; rfl
              have f0 := blk_frozen hb6 0
              have f1 := blk_frozen hb6 1
              have HB6 := Lib.hid hb6
              have HO6 := Lib.hid hO6
              clear hb6 hO6
              go_wp2_with fail
              (try simp only [Exit.inBlock, Exit.then])
              refine bodyPost_ret (results_cell_row rfl _ _ w.heap.size _ _ _ _ rfl (blk_set (blk_set HB6.out 0 _) 1 _) Tryz.underlying26 rfl hinfo) rfl ?_
              have hk : Only w.heap.size w6 ((w6.setCell ⟨w.heap.size, 0, none⟩ (.int .i64 ((zs Kx).length : Int))).setCell ⟨w.heap.size, 1, none⟩ (.slice A6 (zs Kx).length c6)) := ((Only.refl _ _).setCell _).setCell _
              have hz6 : w.heap.size + 1 ≤ wr.heap.size := by have := HSZ.out; have := (hUq).size; omega
              have hO7 := own_only HO6.out hk (fun hh => by have := own_of_ge HO6.out hh; omega)
              refine ⟨_, Kx, by rw [← zs_len]; rfl, own_base hO7 (by omega), by rw [HLx.out]; omega, HMx.out, ((hSq.out).grew hg6).other hk hgl, (hU0.trans hU6).newer hk (Nat.le_refl _)⟩
        · obtain rfl : j = 0 := by omega
          go_wp2_with fail
          refine wp_loop_rounds 1 ?_; rw [rounds_succ]
          have hMk := Lib.hid (l05Make_c (.slice A 0 c) (zs K) w5 (HO5.out.ints) (by rw [zs_len, hL.out]; omega))
          go_wp2_with fail
          refine hMk.out.mono ?_
          rintro e w6 ⟨v6, rfl, hO6, hg6⟩
          obtain ⟨A6, c6, rfl⟩ := ints_slice hO6.ints
          have hU6 := (hU5).grew hg6
          have hb6 : w6.heap[w.heap.size]? = some (.cells #[.int .i64 0, .slice none 0 0] 26 (0, 0)) := (hU6.block (by have := HSZ.out; omega) (by omega)).trans HB0.out
          have c0 : w6.cell? ⟨w.heap.size, 0, none⟩ = some (.int .i64 0) := by rw [blk_cell hb6]; rfl
          have c1 : w6.cell? ⟨w.heap.size, 1, none⟩ = some (.slice none 0 0) := by rw [blk_cell hb6]; rfl
          have f0 := blk_frozen hb6 0
          have f1 := blk_frozen hb6 1
          have HB6 := Lib.hid hb6
          have HO6 := Lib.hid hO6
          clear hb6 hO6
          go_wp2_with fail
          (try simp only [Exit.inBlock, Exit.then])
          refine bodyPost_ret (results_cell_row rfl _ _ w.heap.size _ _ _ _ rfl (blk_set (blk_set HB6.out 0 _) 1 _) Tryz.underlying26 rfl hinfo) rfl ?_
          have hk : Only w.heap.size w6 ((w6.setCell ⟨w.heap.size, 0, none⟩ (.int .i64 ((zs K).length : Int))).setCell ⟨w.heap.size, 1, none⟩ (.slice A6 (zs K).length c6)) := ((Only.refl _ _).setCell _).setCell _
          have hz6 : w.heap.size + 1 ≤ w5.heap.size := by have := HSZ.out; have := (hU5).size; omega
          have hO7 := own_only HO6.out hk (fun hh => by have := own_of_ge HO6.out hh; omega)
          refine ⟨_, K, by rw [← zs_len]; rfl, own_base hO7 (by omega), by rw [hL.out]; omega, hX.out, ((HS5.out).grew hg6).other hk hgl, (hU0.trans hU6).newer hk (Nat.le_refl _)⟩
      | false =>
      cases b4 : (r == 4) with
      | true =>
        by_cases hj0 : 0 < j
        · obtain ⟨gr, rfl, hgr, hR0⟩ := own_nrow HO5.out hL.out hj0
          have HR0 := Lib.hid hR0
          have HZ := Lib.hid (fun i (hi : i < j) => hX.out.at_ (show i < K.length by rw [hL.out]; exact hi))
          clear hR0 HO5
          have hgg : gr ≠ g := by have := HSZ.out; omega
          have HAN := Lib.hid (fun a b (ha : a < 1073741824) (hb : b < 1073741824) => andNot_i64 a b (by omega) (by omega))
          go_wp2_with fail
          go_loopw [12] (fun i wr => ∃ (q : Nat) (f : Nat → Nat), q ≤ j ∧ i = .int .i64 q ∧ Hid (NRow wr gr j c f) ∧ Hid (∀ x, x < j → f x < 1073741824) ∧ Hid (Src wr g cv N) ∧ Only g w0 wr ∧ w1.heap.size ≤ wr.heap.size) (fun i _ => j - (intOf i).toNat)
          case atStart => exact ⟨0, _, by omega, rfl, HR0, HZ, HS5, hU5, hsz5⟩
          case round =>
            obtain ⟨q, f, hq, rfl, hR, hZ, hSq, hUq, hszq⟩ := hrel
            by_cases hlq : q < j
            · have c2' : ∀ W, Grew wr W → W.cell? ⟨gr, q, none⟩ = some (.int .i64 ((f q : Nat) : Int)) := fun W hW => (hR.out.grew hW).cell hlq
              have c4' : ∀ W, Grew wr W → W.frozen? ⟨gr, q, none⟩ = false := fun W hW => (hR.out.grew hW).free q
              have ho := HAN.out (f q) (full (q + 1)) (hZ.out q hlq) (HFY.out q hlq)
              have hos := Lib.hid (HAS.out (f q) (full (q + 1)) (hZ.out q hlq))
              have hw1 : IntKind.i64.wrap ((q : Int) + 1) = (q : Int) + 1 := by rw [IntKind.wrap_i64]; omega
              have hFq := Lib.hid (show ∀ W, Calls Tryz.prog 63 #[.int .i64 ((q : Int) + 1)] W fun e w' => e = .returned (.int .i64 ((full (q + 1) : Nat) : Int)) ∧ w' = W from HFX.out q hlq)
              have hr1 := Grew.refl wr
              have hrd := hr1.drew
              generalize f q = y at *
              generalize full (q + 1) = fq at *
              generalize hdd : dif y fq = dd at *
              have hi0 : (0 : Int) ≤ (q : Int) := by omega
              have hi6 : (q : Int) < (j : Int) := by omega
              go_wp2_with fail
              go_region_law (first
                | (go_simp; go_at_call 63; refine (hFq.out _).mono ?_; rintro e w9 ⟨rfl, hw9⟩; rw [hw9]; clear hw9)
                | (go_at_call 63; refine (hFq.out _).mono ?_; rintro e w9 ⟨rfl, hw9⟩; rw [hw9]; clear hw9))
              all_goals
                go_wp2_with fail
                go_roundw
                case rel =>
                  have e1 : (fun p => if p = q then dd else f p) q = dd := if_pos rfl
                  have e2 : ∀ p, p < j → p ≠ q → (fun p => if p = q then dd else f p) p = f p := fun p _ hp => if_neg hp
                  have hkb : ∀ W, Grew wr W → Only gr W (W.setCell ⟨gr, q, none⟩ (.int .i64 (dd : Int))) := fun W _ => (Only.refl _ _).setCell _
                  refine ⟨q + 1, fun p => if p = q then dd else f p, by omega, by go_num, Lib.hid ((hR.out.set hlq e1 e2).grew ((Grew.refl _).drew)), Lib.hid (fun x hx => ?_), Lib.hid ((hSq.out.other (hkb wr hr1) (by first | exact hgg | exact hgg.symm | (have := HSZ.out; omega))).grew ((Grew.refl _).drew)), (hUq.newer (hkb wr hr1) (by have := HSZ.out; omega)).drew, by simpa using hszq⟩
                  by_cases hxk : x = q
                  · rw [hxk, e1]; exact hos.out
                  · rw [e2 x hx hxk]; exact hZ.out x hx
                case measure => simp [intOf]; omega
            · obtain rfl : q = j := by omega
              have hOx := hR.out.own hgr
              have HOx := Lib.hid hOx
              have HMx := Lib.hid (show Sm ((List.range q).map f) from fun m hm => by
                rw [List.mem_map] at hm
                obtain ⟨i, hi, rfl⟩ := hm
                exact hZ.out i (List.mem_range.1 hi))
              have HLx := Lib.hid (show ((List.range q).map f).length = q by simp)
              clear hOx
              generalize (List.range q).map f = Kx at *
              have hK1 := Lib.hid (l01Closure_c (.slice (some ⟨gr, 0, none⟩) q c) Kx wr HOx.out.ints HMx.out (by rw [HLx.out]; omega))
              rw [HLx.out] at hK1
              go_wp2_with fail
              refine hK1.out.mono ?_
              rintro e x1 ⟨v1, L1, rfl, hi1, hl1, hm1, hg1⟩
              obtain ⟨A1, c1, rfl⟩ := ints_sliceN hi1.ints
              have HI1 := Lib.hid hi1
              have HM1 := Lib.hid hm1
              have HL1 := Lib.hid hl1
              rw [hl1]
              clear hi1 hm1 hl1 hK1
              have hU1x := (hUq).grew hg1
              have HS1x := Lib.hid ((hSq.out).grew hg1)
              have hMk := Lib.hid (l05Make_c (.slice A1 q c1) (zs L1) x1 ((show Ints x1 (.slice A1 q c1) (zs L1) from by have h := HI1.out.ints; rw [HL1.out] at h; exact h)) (by rw [zs_len, HL1.out]; omega))
              go_wp2_with fail
              refine hMk.out.mono ?_
              rintro e w6 ⟨v6, rfl, hO6, hg6⟩
              obtain ⟨A6, c6, rfl⟩ := ints_slice hO6.ints
              have hU6 := (hU1x).grew hg6
              have hb6 : w6.heap[w.heap.size]? = some (.cells #[.int .i64 0, .slice none 0 0] 26 (0, 0)) := (hU6.block (by have := HSZ.out; omega) (by omega)).trans HB0.out
              have c0 : w6.cell? ⟨w.heap.size, 0, none⟩ = some (.int .i64 0) := by rw [blk_cell hb6]; rfl
              have c1 : w6.cell? ⟨w.heap.size, 1, none⟩ = some (.slice none 0 0) := by rw [blk_cell hb6]; rfl
              have f0 := blk_frozen hb6 0
              have f1 := blk_frozen hb6 1
              have HB6 := Lib.hid hb6
              have HO6 := Lib.hid hO6
              clear hb6 hO6
              go_wp2_with fail
              (try simp only [Exit.inBlock, Exit.then])
              refine bodyPost_ret (results_cell_row rfl _ _ w.heap.size _ _ _ _ rfl (blk_set (blk_set HB6.out 0 _) 1 _) Tryz.underlying26 rfl hinfo) rfl ?_
              have hk : Only w.heap.size w6 ((w6.setCell ⟨w.heap.size, 0, none⟩ (.int .i64 ((zs L1).length : Int))).setCell ⟨w.heap.size, 1, none⟩ (.slice A6 (zs L1).length c6)) := ((Only.refl _ _).setCell _).setCell _
              have hz6 : w.heap.size + 1 ≤ x1.heap.size := by have := HSZ.out; have := (hU1x).size; omega
              have hO7 := own_only HO6.out hk (fun hh => by have := own_of_ge HO6.out hh; omega)
              refine ⟨_, L1, by rw [← zs_len]; rfl, own_base hO7 (by omega), by rw [HL1.out]; omega, HM1.out, ((HS1x.out).grew hg6).other hk hgl, (hU0.trans hU6).newer hk (Nat.le_refl _)⟩
        · obtain rfl : j = 0 := by omega
          go_wp2_with fail
          refine wp_loop_rounds 1 ?_; rw [rounds_succ]
          have hK1 := Lib.hid (l01Closure_c (.slice A 0 c) K w5 HO5.out.ints hX.out (by rw [hL.out]; omega))
          rw [hL.out] at hK1
          go_wp2_with fail
          refine hK1.out.mono ?_
          rintro e x1 ⟨v1, L1, rfl, hi1, hl1, hm1, hg1⟩
          obtain ⟨A1, c1, rfl⟩ := ints_sliceN hi1.ints
          have HI1 := Lib.hid hi1
          have HM1 := Lib.hid hm1
          have HL1 := Lib.hid hl1
          rw [hl1]
          clear hi1 hm1 hl1 hK1
          have hU1x := (hU5).grew hg1
          have HS1x := Lib.hid ((HS5.out).grew hg1)
          have hMk := Lib.hid (l05Make_c (.slice A1 0 c1) (zs L1) x1 ((show Ints x1 (.slice A1 0 c1) (zs L1) from by have h := HI1.out.ints; rw [HL1.out] at h; exact h)) (by rw [zs_len, HL1.out]; omega))
          go_wp2_with fail
          refine hMk.out.mono ?_
          rintro e w6 ⟨v6, rfl, hO6, hg6⟩
          obtain ⟨A6, c6, rfl⟩ := ints_slice hO6.ints
          have hU6 := (hU1x).grew hg6
          have hb6 : w6.heap[w.heap.size]? = some (.cells #[.int .i64 0, .slice none 0 0] 26 (0, 0)) := (hU6.block (by have := HSZ.out; omega) (by omega)).trans HB0.out
          have c0 : w6.cell? ⟨w.heap.size, 0, none⟩ = some (.int .i64 0) := by rw [blk_cell hb6]; rfl
          have c1 : w6.cell? ⟨w.heap.size, 1, none⟩ = some (.slice none 0 0) := by rw [blk_cell hb6]; rfl
          have f0 := blk_frozen hb6 0
          have f1 := blk_frozen hb6 1
          have HB6 := Lib.hid hb6
          have HO6 := Lib.hid hO6
          clear hb6 hO6
          go_wp2_with fail
          (try simp only [Exit.inBlock, Exit.then])
          refine bodyPost_ret (results_cell_row rfl _ _ w.heap.size _ _ _ _ rfl (blk_set (blk_set HB6.out 0 _) 1 _) Tryz.underlying26 rfl hinfo) rfl ?_
          have hk : Only w.heap.size w6 ((w6.setCell ⟨w.heap.size, 0, none⟩ (.int .i64 ((zs L1).length : Int))).setCell ⟨w.heap.size, 1, none⟩ (.slice A6 (zs L1).length c6)) := ((Only.refl _ _).setCell _).setCell _
          have hz6 : w.heap.size + 1 ≤ x1.heap.size := by have := HSZ.out; have := (hU1x).size; omega
          have hO7 := own_only HO6.out hk (fun hh => by have := own_of_ge HO6.out hh; omega)
          refine ⟨_, L1, by rw [← zs_len]; rfl, own_base hO7 (by omega), by rw [HL1.out]; omega, HM1.out, ((HS1x.out).grew hg6).other hk hgl, (hU0.trans hU6).newer hk (Nat.le_refl _)⟩
      | false =>
        have hMk := Lib.hid (l05Make_c (.slice A j c) (zs K) w5 (HO5.out.ints) (by rw [zs_len, hL.out]; omega))
        go_wp2_with fail
        refine hMk.out.mono ?_
        rintro e w6 ⟨v6, rfl, hO6, hg6⟩
        obtain ⟨A6, c6, rfl⟩ := ints_slice hO6.ints
        have hU6 := (hU5).grew hg6
        have hb6 : w6.heap[w.heap.size]? = some (.cells #[.int .i64 0, .slice none 0 0] 26 (0, 0)) := (hU6.block (by have := HSZ.out; omega) (by omega)).trans HB0.out
        have c0 : w6.cell? ⟨w.heap.size, 0, none⟩ = some (.int .i64 0) := by rw [blk_cell hb6]; rfl
        have c1 : w6.cell? ⟨w.heap.size, 1, none⟩ = some (.slice none 0 0) := by rw [blk_cell hb6]; rfl
        have f0 := blk_frozen hb6 0
        have f1 := blk_frozen hb6 1
        have HB6 := Lib.hid hb6
        have HO6 := Lib.hid hO6
        clear hb6 hO6
        go_wp2_with fail
        (try simp only [Exit.inBlock, Exit.then])
        refine bodyPost_ret (results_cell_row rfl _ _ w.heap.size _ _ _ _ rfl (blk_set (blk_set HB6.out 0 _) 1 _) Tryz.underlying26 rfl hinfo) rfl ?_
        have hk : Only w.heap.size w6 ((w6.setCell ⟨w.heap.size, 0, none⟩ (.int .i64 ((zs K).length : Int))).setCell ⟨w.heap.size, 1, none⟩ (.slice A6 (zs K).length c6)) := ((Only.refl _ _).setCell _).setCell _
        have hz6 : w.heap.size + 1 ≤ w5.heap.size := by have := HSZ.out; have := (hU5).size; omega
        have hO7 := own_only HO6.out hk (fun hh => by have := own_of_ge HO6.out hh; omega)
        refine ⟨_, K, by rw [← zs_len]; rfl, own_base hO7 (by omega), by rw [hL.out]; omega, hX.out, ((HS5.out).grew hg6).other hk hgl, (hU0.trans hU6).newer hk (Nat.le_refl _)⟩
end Go.Proofs.YtjlnompmhgjaaaaGreat


/- The draw of a frame: l05Draw of the reference. -/
namespace Go.Proofs.YtjlnompmhgjaaaaGreat
open Go.RowKit

theorem l01Pick2_c (g : Nat) (cv : Value) (N : Nat) (b : Nat) (x0 x1 : Int) (w : World) (h : Src w g cv N) (hb : b < w.heap.size) (hne : b ≠ g) (c0 : w.cell? ⟨b, 0, none⟩ = some (.int .i64 x0)) (c1 : w.cell? ⟨b, 1, none⟩ = some (.int .i64 x1)) :
    Calls Tryz.prog 16 #[.pointer (some ⟨g, 0, none⟩), .slice (some ⟨b, 0, none⟩) 2 2] w fun e w' => ∃ r : Int, e = .returned (.int .i64 r) ∧ Src w' g cv N ∧ Only g w w' := by
  have HS := Lib.hid h
  have HC := Lib.hid (show ∀ j, j < 2 → ∃ x : Int, w.cell? ⟨b, j, none⟩ = some (.int .i64 x) from fun j hj => by
    match j, hj with
    | 0, _ => exact ⟨_, c0⟩
    | 1, _ => exact ⟨_, c1⟩)
  clear h c0 c1
  go_enter Tryz.func16, Tryz.ntmps16
  go_wp2_with fail
  refine (l01Next_c g cv N 2 _ HS.out (by omega)).mono ?_
  rintro e w1 ⟨r, rfl, hr0, hr1, _, hS1, ho1⟩
  have hr2 := hr1 (by omega)
  obtain ⟨k, rfl⟩ : ∃ k : Nat, r = (k : Int) := ⟨r.toNat, by omega⟩
  obtain ⟨x, hx⟩ := HC.out k (by omega)
  have hx1 := (ho1.cell (p := ⟨b, k, none⟩) hb hne).trans hx
  have HS1 := Lib.hid hS1
  clear hx hS1 hr1
  go_wp2_with fail
  go_ret
  exact ⟨_, rfl, HS1.out, ho1⟩

theorem SO.alloc {g : Nat} {cv : Value} {N : Nat} {w w' : World} (h : SO g cv N w w') (o : Obj) : SO g cv N w (w'.alloc o) := ⟨h.1.grew ((Grew.refl _).alloc o), h.2.grew ((Grew.refl _).alloc o)⟩
theorem SR.alloc {g : Nat} {cv : Value} {N : Nat} {w0 W : World} {pb gr n c : Nat} {bx : Obj} (h : SR g cv N w0 pb gr n c bx W) (o : Obj) : SR g cv N w0 pb gr n c bx (W.alloc o) := by
  obtain ⟨h1, h2, h3, K, h4, h5⟩ := h
  have hg := (Grew.refl W).alloc o
  exact ⟨h1.grew hg, h2.grew hg, (hg.block (blk_lt' h3)).trans h3, K, h4, h5.grew hg⟩
theorem so_pick (g : Nat) (cv : Value) (N : Nat) (w : World) (x0 x1 : Int) (W : World) (hW : SO g cv N w W) :
    Calls Tryz.prog 16 #[.pointer (some ⟨g, 0, none⟩), .slice (some ⟨W.heap.size, 0, none⟩) 2 2] (W.alloc (.cells #[.int .i64 x0, .int .i64 x1] 2)) fun e w' => ∃ r : Int, e = .returned (.int .i64 r) ∧ SO g cv N w w' ∧ Only g (W.alloc (.cells #[.int .i64 x0, .int .i64 x1] 2)) w' := by
  have hl := hW.1.lt
  have hA := hW.alloc (.cells #[.int .i64 x0, .int .i64 x1] 2)
  refine (l01Pick2_c g cv N W.heap.size x0 x1 _ hA.1 (by simp) (by omega) (by simp) (by simp)).mono ?_
  rintro e w' ⟨r, rfl, hS, ho⟩
  exact ⟨r, rfl, ⟨hS, hA.2.trans ho⟩, ho⟩
end Go.Proofs.YtjlnompmhgjaaaaGreat


/- The schemes of a system: schemesOf of the program, l13Schemes of the reference. -/
namespace Go.Proofs.YtjlnompmhgjaaaaGreat
open Go.RowKit

theorem wpList_appIs {ops : Array Oper} {rest : List Oper} {o : Oper} {a : Act} {Q : Exit → Act → World → Prop} {w w0 : World} (s x : Operand) (hgd : o.guard = none)
    (ho : o.op = .call { callee := .builtin .append, args := #[s, x], argTypes := #[24, 24] })
    (v : Value) (L : List Int) (hs : a.eval s = v) (hown : OwnI w w0.heap.size v L) (hg : Grew w0 w) (vx : Value) (M : List Int) (hx : a.eval x = vx) (hr : Ints w vx M) (hn : L.length + M.length ≤ 1048576)
    (h : ∀ v' w', OwnI w' w0.heap.size v' (L ++ M) → Grew w0 w' → w.grownBy w' v.ownBlock → wpList Tryz.prog ops Q rest (a.put o.dst v') w') : wpList Tryz.prog ops Q (o :: rest) a w := by
  obtain ⟨i0, hi0, hz0, hz1, hz2⟩ := info_parts Tryz.infoI
  refine wpList_append_rd w hgd s x _ ho w0.heap.size 2 i0 _ 1 8 Tryz.underlying24 hi0 hz0 hz1 hz2 rfl (by omega) v L.length (icells L) hs hown vx M.length (icells M) hx hr (icells_one M) (by unfold maxLen; omega) (by omega) hg.size ?_
  intro v' w' h1 h2 h3
  refine h v' w' ?_ (hg.grown h2 fun k hk => (hown.lt k hk).1) h2
  unfold OwnI
  rw [List.length_append, icells_append]
  exact h1
end Go.Proofs.YtjlnompmhgjaaaaGreat


/- Rows of rows of numbers of the call's own, that grow by append; l01Has, l01Own of numbers. -/
namespace Go.Proofs.YtjlnompmhgjaaaaGreat
open Go.RowKit

theorem infoIs : (Tryz.prog.info? 24).map (fun i => (i.zero, i.size, i.bytes)) = some (some (.slice none 0 0), 1, 24) := by kernel_rfl
theorem tyIs : (2 : TypeId) ≠ 24 := by decide
def OwnU (w : World) (B : Nat) (v : Value) (Us : List (List Int)) : Prop :=
  ∃ us : List Value, us.length = Us.length ∧ w.ownsRow B 24 1 v Us.length us ∧ ∀ j, j < Us.length → OwnI w B (us.getD j (.bool false)) (Us.getD j [])
theorem OwnU.grew {w w' : World} {B : Nat} {v : Value} {Us : List (List Int)} (h : OwnU w B v Us) (hg : Grew w w') : OwnU w' B v Us := by
  obtain ⟨us, h1, h2, h3⟩ := h
  exact ⟨us, h1, own_grew h2 hg, fun j hj => (h3 j hj).grew hg⟩
theorem OwnU.base {w : World} {B B' : Nat} {v : Value} {Us : List (List Int)} (h : OwnU w B v Us) (hb : B' ≤ B) : OwnU w B' v Us := by
  obtain ⟨us, h1, h2, h3⟩ := h
  exact ⟨us, h1, own_base h2 hb, fun j hj => (h3 j hj).base hb⟩
theorem OwnU.nil_ (w : World) (B : Nat) : OwnU w B (.slice none 0 0) [] := ⟨[], rfl, World.ownsRow_nil w B _ 1, fun j hj => absurd hj (by simp)⟩
theorem OwnU.lit (w : World) : OwnU (w.alloc (.cells #[] 24)) w.heap.size (.slice (some ⟨w.heap.size, 0, none⟩) 0 0) [] :=
  ⟨[], rfl, World.ownsRow_lit (e := 24) (size := 1) w #[] 0 (Nat.le_refl _) (by first | omega | decide | simp) rfl, fun j hj => absurd hj (by simp)⟩
theorem kept_of {w w' : World} {base : Nat} {e : TypeId} {k n : Nat} {v : Value} {xs : List Value} {r : Option Nat} (h : w.ownsRow base e k v n xs) (hg : w.grownBy w' r) (hne : ∀ g, r = some g → v.ownBlock ≠ some g) : w'.ownsRow base e k v n xs := by
  cases r with
  | none => exact h.kept (row := none) hg (by cases hv : v.ownBlock <;> simp)
  | some g => exact own_only h (g := g) hg (hne g rfl)
theorem types_ne {w : World} {B B' : Nat} {e e' : TypeId} {k k' n n' : Nat} {v v' : Value} {xs xs' : List Value} (h : w.ownsRow B e k v n xs) (h' : w.ownsRow B' e' k' v' n' xs') (hne : e ≠ e') : ∀ g, v'.ownBlock = some g → v.ownBlock ≠ some g := by
  intro g hg
  rcases h'.2 with ⟨rfl, _⟩ | ⟨g', cap, cur, rfl, _, hh, _⟩
  · simp [Value.ownBlock] at hg
  · have : g' = g := by simpa [Value.ownBlock] using hg
    subst this
    exact own_ne h hh hne
theorem OwnU.at_ {w : World} {B : Nat} {v : Value} {Us : List (List Int)} (h : OwnU w B v Us) {i : Nat} (hi : i < Us.length) : ∃ g c u, v = .slice (some ⟨g, 0, none⟩) Us.length c ∧ (∀ W, Grew w W → W.cell? ⟨g, i, none⟩ = some u) ∧ OwnI w B u (Us.getD i []) := by
  obtain ⟨us, h1, h2, h3⟩ := h
  obtain ⟨_, h4⟩ := h2
  rcases h4 with ⟨_, h5⟩ | ⟨g, cap, cur, rfl, hb, hg, hnc, hcm, hcs, ht⟩
  · omega
  · refine ⟨g, cap, us.getD i (.bool false), rfl, fun W hW => ?_, h3 i hi⟩
    rw [hW.cell (p := ⟨g, i, none⟩) (blk_lt hg), blk_cell hg]
    have e : us[i]? = some (us.getD i (.bool false)) := by rw [List.getElem?_eq_getElem (by omega)]; simp [List.getD, h1, hi]
    rw [← e, ← ht, List.getElem?_take, if_pos (by omega)]
    simp
theorem OwnU.slice {w : World} {B : Nat} {v : Value} {Us : List (List Int)} (h : OwnU w B v Us) : ∃ A c, v = .slice A Us.length c := by
  obtain ⟨us, h1, h2, h3⟩ := h
  obtain ⟨_, h4⟩ := h2
  rcases h4 with ⟨rfl, h5⟩ | ⟨g, cap, cur, rfl, hb, hg, hnc, hcm, hcs, ht⟩
  · rw [h5]; exact ⟨_, _, rfl⟩
  · exact ⟨_, _, rfl⟩
theorem own_of_geU {w : World} {B : Nat} {v : Value} {Us : List (List Int)} (h : OwnU w B v Us) {g : Nat} (hg : v.ownBlock = some g) : B ≤ g := by
  obtain ⟨us, h1, h2, h3⟩ := h
  exact own_of_ge h2 hg
theorem snocU {w w' : World} {B : Nat} {v v' u : Value} {Us : List (List Int)} {U : List Int} {us : List Value} (h1 : us.length = Us.length) (h2 : w.ownsRow B 24 1 v Us.length us) (h3 : ∀ j, j < Us.length → OwnI w B (us.getD j (.bool false)) (Us.getD j [])) (hu : OwnI w B u U)
    (k1 : w'.ownsRow B 24 1 v' (Us.length + 1) (us ++ [u])) (k2 : w.grownBy w' v.ownBlock) : OwnU w' B v' (Us ++ [U]) := by
  refine ⟨us ++ [u], by simp [h1], by rw [List.length_append]; exact k1, fun j hj => ?_⟩
  rw [List.getD_eq_getElem?_getD, List.getD_eq_getElem?_getD]
  rcases Nat.lt_or_ge j Us.length with hk | hk
  · rw [List.getElem?_append_left (by omega), List.getElem?_append_left hk, ← List.getD_eq_getElem?_getD, ← List.getD_eq_getElem?_getD]
    have := h3 j hk
    exact kept_of this k2 (types_ne this h2 tyIs)
  · obtain rfl : j = Us.length := by simp at hj; omega
    have e : us.length ≤ Us.length := by omega
    rw [List.getElem?_append_right e, List.getElem?_append_right (Nat.le_refl _), h1, Nat.sub_self]
    exact kept_of hu k2 (types_ne hu h2 tyIs)
theorem rd_litU (w : World) (u : Value) (t : TypeId) : Rd (w.alloc (.cells #[u] t)) 1 (.slice (some ⟨w.heap.size, 0, none⟩) 1 1) 1 [u] := by
  refine ⟨rfl, by omega, .inr ⟨w.heap.size, 0, 1, rfl, by omega, by omega, by simp, fun j x hx => ?_⟩⟩
  have hj : j = 0 := by
    have := (List.getElem?_eq_some_iff.1 hx).1
    simp at this
    omega
  subst hj
  simp at hx
  subst hx
  simp
theorem l01OwnI_c (v : Value) (L : List Int) (w : World) (h : Ints w v L) (hn : L.length ≤ 1048575) :
    Calls Tryz.prog 65 #[v] w (GivesI w L) := by
  have he := own_emptyI w
  have hr := h.grew ((Grew.refl w).alloc (.cells #[] 2))
  go_enter Tryz.func65, Tryz.ntmps65
  go_wp2_with (at_builtin; refine wpList_appIs (w0 := w) _ _ rfl rfl _ [] rfl he ((Grew.refl w).alloc _) v L rfl hr (by simp; omega) ?_; intro v1 w1 hown1 hg1 _)
  go_ret
  exact ⟨_, rfl, by simpa using hown1, hg1⟩
def NotI (L : List Int) (x : Int) (k : Nat) : Prop := ∀ i, i < k → it L i ≠ x
theorem NotI.zero (L : List Int) (x : Int) : NotI L x 0 := fun i hi => absurd hi (by omega)
theorem NotI.succ {L : List Int} {x : Int} {k : Nat} (h : NotI L x k) (h1 : it L k ≠ x) : NotI L x (k + 1) := by
  intro i hi
  rcases Nat.lt_or_ge i k with hk | hk
  · exact h i hk
  · obtain rfl : i = k := by omega
    exact h1
theorem NotI.all {L : List Int} {x : Int} (h : NotI L x L.length) : decide (x ∈ L) = false := by
  rw [decide_eq_false_iff_not]
  intro hx
  obtain ⟨i, hi, rfl⟩ := List.getElem_of_mem hx
  exact h i hi (it_get hi).symm
end Go.Proofs.YtjlnompmhgjaaaaGreat


/- The draw of a model: l06Some of the reference. -/
namespace Go.Proofs.YtjlnompmhgjaaaaGreat
open Go.RowKit

theorem SO.appW {g : Nat} {cv : Value} {N : Nat} {w w' w'' : World} {r : Option Nat} (h : SO g cv N w w') (hg : w'.grownBy w'' r) (hgl : g < w.heap.size) (hr : ∀ b, r = some b → w.heap.size ≤ b) : SO g cv N w w'' :=
  ⟨h.1.other2 hg (fun b hb => by have := hr b hb; omega), h.2.newer2 hg hr⟩
theorem so_nextW (g : Nat) (cv : Value) (N : Nat) (w : World) (n : Int) (hn : n ≤ 300) (W : World) (hW : SO g cv N w W) :
    Calls Tryz.prog 30 #[.pointer (some ⟨g, 0, none⟩), .int .i64 n] W fun e w' => ∃ r : Int, e = .returned (.int .i64 r) ∧ SO g cv N w w' ∧ Only g W w' := by
  refine (l01Next_c g cv N n W hW.1 (by omega)).mono ?_
  rintro e w' ⟨r, rfl, h0, h1, _, hS, ho⟩
  exact ⟨r, rfl, ⟨hS, hW.2.trans ho⟩, ho⟩
structure MdR (w : World) (B : Nat) (va vu : Value) (L X : List Int) : Prop where
  a : OwnI w B va L
  u : OwnI w B vu X
  n : Apt va vu
theorem MdR.grew {w w' : World} {B : Nat} {va vu : Value} {L X : List Int} (h : MdR w B va vu L X) (hg : Grew w w') : MdR w' B va vu L X := ⟨h.a.grew hg, h.u.grew hg, h.n⟩
theorem MdR.only {w w' : World} {B g : Nat} {va vu : Value} {L X : List Int} (h : MdR w B va vu L X) (ho : Only g w w') (hg : g < B) : MdR w' B va vu L X := ⟨own_srcI h.a hg ho, own_srcI h.u hg ho, h.n⟩
theorem MdR.base {w : World} {B B' : Nat} {va vu : Value} {L X : List Int} (h : MdR w B va vu L X) (hb : B' ≤ B) : MdR w B' va vu L X := ⟨own_base h.a hb, own_base h.u hb, h.n⟩
def GivesMd (g : Nat) (cv : Value) (N : Nat) (m : Nat) (w : World) (e : Ending) (w' : World) : Prop :=
  ∃ (va vu : Value) (L X : List Int), e = .returned (.agg #[.int .i64 (L.length : Int), va, vu]) ∧ L.length ≤ m ∧ X.length = 6 ∧ MdR w' w.heap.size va vu L X ∧ Src w' g cv N ∧ Only g w w'
theorem infoMd : (Tryz.prog.info? 28).map (·.size) = some 3 := by kernel_rfl
structure MI (g : Nat) (cv : Value) (N : Nat) (w0 : World) (fb mb : Nat) (va : Value) (L : List Int) (vu : Value) (X : List Int) (W : World) : Prop where
  s : Src W g cv N
  o : Only g w0 W
  f : W.heap[fb]? = some (.cells #[.int .i64 (L.length : Int), va] 26 (0, 0))
  m : W.heap[mb]? = some (.cells #[.int .i64 (L.length : Int), va, vu] 28 (0, 0))
  r : MdR W w0.heap.size va vu L X
theorem tyM1 : (2 : TypeId) ≠ 28 := by decide
set_option maxHeartbeats 4000000 in
set_option maxRecDepth 100000 in
theorem l06Some_c (g : Nat) (cv : Value) (N : Nat) (m : Nat) (hm8 : m ≤ 8) (w : World) (h : Src w g cv N) :
    Calls Tryz.prog 32 #[.pointer (some ⟨g, 0, none⟩), .int .i64 (m : Int)] w (GivesMd g cv N m w) := by
  have hgl := h.lt
  have HS := Lib.hid (h.grew ((Grew.refl w).alloc (.cells #[.int .i64 0, .slice none 0 0, .slice none 0 0] 28)))
  have HB0 := Lib.hid (blk_new w (.cells #[.int .i64 0, .slice none 0 0, .slice none 0 0] 28))
  have hU0 := ((Grew.refl w).alloc (.cells #[.int .i64 0, .slice none 0 0, .slice none 0 0] 28)).only (g := g)
  have hsz0 : (w.alloc (.cells #[.int .i64 0, .slice none 0 0, .slice none 0 0] 28)).heap.size = w.heap.size + 1 := by simp
  have HSZ := Lib.hid hsz0
  obtain ⟨w0, hw0⟩ : ∃ w0, w0 = w.alloc (.cells #[.int .i64 0, .slice none 0 0, .slice none 0 0] 28) := ⟨_, rfl⟩
  rw [← hw0] at HS HB0 HSZ hU0
  clear h hsz0
  go_enter Tryz.func32, Tryz.ntmps32
  go_wp2_with fail
  simp only [← hw0]
  clear hw0
  refine (l05Some_c g cv N m hm8 w0 HS.out).mono ?_
  rintro e w1 ⟨v1, L1, rfl, hO1, hl1, hm1, hS1, ho1⟩
  have HO1 := Lib.hid hO1
  have HS1 := Lib.hid hS1
  have hl1' : (zs L1).length ≤ m := by rw [zs_len]; exact hl1
  rw [← zs_len]
  clear hO1 hm1 hl1 hS1
  generalize zs L1 = K at *
  obtain ⟨A1, c1, rfl⟩ := ints_slice HO1.out.ints
  -- the boxes
  obtain ⟨w2, hw2⟩ : ∃ w2, w2 = w1.alloc (.cells #[.int .i64 (K.length : Int), .slice A1 K.length c1] 26) := ⟨_, rfl⟩
  obtain ⟨w3, hw3⟩ : ∃ w3, w3 = w2.alloc (.cells #[.int .i64 (K.length : Int), .slice A1 K.length c1, .slice none 0 0] 28) := ⟨_, rfl⟩
  have hs2 : w2.heap.size = w1.heap.size + 1 := by rw [hw2]; simp
  have hs3 : w3.heap.size = w1.heap.size + 1 + 1 := by rw [hw3]; simp; omega
  have hg12 : Grew w1 w2 := by rw [hw2]; exact (Grew.refl w1).alloc _
  have hg23 : Grew w2 w3 := by rw [hw3]; exact (Grew.refl w2).alloc _
  have hbf : w2.heap[w1.heap.size]? = some (.cells #[.int .i64 (K.length : Int), .slice A1 K.length c1] 26 (0, 0)) := by rw [hw2]; exact blk_new w1 _
  have hbm : w3.heap[w1.heap.size + 1]? = some (.cells #[.int .i64 (K.length : Int), .slice A1 K.length c1, .slice none 0 0] 28 (0, 0)) := by rw [hw3, ← hs2]; exact blk_new w2 _
  have hsz1 := ho1.size
  have HM0 : Hid (MI g cv N w0 w1.heap.size (w1.heap.size + 1) (.slice A1 K.length c1) K (.slice none 0 0) [] w3) := Lib.hid
    ⟨HS1.out.grew (hg12.trans hg23), ho1.grew (hg12.trans hg23), (hg23.block (by omega)).trans hbf, hbm, ⟨HO1.out.grew (hg12.trans hg23), World.ownsRow_nil w3 _ _ 1, fun b _ hb => by simp [Value.ownBlock] at hb⟩⟩
  have HFZ := Lib.hid (show w0.heap.size ≤ w1.heap.size ∧ g < w0.heap.size ∧ w.heap.size < w0.heap.size from ⟨hsz1, by have := HSZ.out; omega, by have := HSZ.out; omega⟩)
  go_wp2_with fail
  simp only [← hw2]
  go_wp2_with fail
  simp only [← hw3]
  clear hw2 hw3 hs2 hs3 hg12 hg23 hbf hbm HO1 HS1 ho1 hsz1
  generalize hfb : w1.heap.size = fb at *
  clear hfb
  go_loopw [7] (fun i wr => ∃ (j : Nat) (vu : Value) (X : List Int), j ≤ 6 ∧ i = .int .i64 (j : Int) ∧ X.length = j ∧ Hid (MI g cv N w0 fb (fb + 1) (.slice A1 K.length c1) K vu X wr)) (fun i _ => 6 - (intOf i).toNat)
  case atStart => exact ⟨0, _, [], by omega, rfl, rfl, HM0⟩
  case round =>
    clear HM0
    obtain ⟨j, vu, X, hj, rfl, hX, hM⟩ := hrel
    obtain ⟨Au, cu, rfl⟩ := ints_slice hM.out.r.u.ints
    rw [hX] at hM
    try rw [hX]
    obtain ⟨hz1, hz2, hz3⟩ := HFZ.out
    have hfl := blk_lt' hM.out.f
    have hml := blk_lt' hM.out.m
    by_cases hlt : j < 6
    · have hSO : SO g cv N wr wr := ⟨hM.out.s, Only.refl _ _⟩
      have hSOd := hSO.drew
      have hgw : g < wr.heap.size := hM.out.s.lt
      have x0 : ∀ W, SO g cv N wr W → W.cell? ⟨fb, 0, none⟩ = some (.int .i64 (K.length : Int)) := fun W hW => by rw [blk_cell ((hW.2.block hfl (by omega)).trans hM.out.f)]; rfl
      have x2 : ∀ W, SO g cv N wr W → W.cell? ⟨fb + 1, 2, none⟩ = some (.slice Au j cu) := fun W hW => by rw [blk_cell ((hW.2.block hml (by omega)).trans hM.out.m)]; rfl
      have xf : ∀ W, SO g cv N wr W → W.frozen? ⟨fb + 1, 2, none⟩ = false := fun W hW => blk_frozen ((hW.2.block hml (by omega)).trans hM.out.m) 2
      have KOWN := Lib.hid (fun W (hW : SO g cv N wr W) => (show Calls Tryz.prog 65 #[.slice Au j cu] W fun e w' => ∃ u, e = .returned u ∧ OwnI w' wr.heap.size u X ∧ SO g cv N wr w' ∧ Grew W w' from
        (l01OwnI_c (.slice Au j cu) X W (own_srcI hM.out.r.u hz2 hW.2).ints (by omega)).mono (by
          rintro e w' ⟨u, rfl, ho, hg⟩
          exact ⟨u, rfl, own_base ho hW.2.size, ⟨hW.1.grew hg, hW.2.grew hg⟩, hg⟩)))
      have KNX := Lib.hid (fun n (hn : Hid (n ≤ 300)) W (hW : SO g cv N wr W) => so_nextW g cv N wr n hn.out W hW)
      have hFN0 := l01Full_q K.length (by omega)
      have hF0 : 0 < 2 ^ K.length := Nat.pow_pos (by omega)
      have hF9 : 2 ^ K.length ≤ 256 := Nat.le_trans (Nat.pow_le_pow_right (by omega) (show K.length ≤ 8 by omega)) (by decide)
      rw [← full_cast] at hFN0
      have hff : full K.length ≤ 255 := by unfold full; omega
      obtain ⟨fn, hfn⟩ : ∃ fn, fn = full K.length := ⟨_, rfl⟩
      rw [← hfn] at hFN0 hff
      have hFN := Lib.hid hFN0
      clear hFN0 hF0 hF9 hfn
      have HN1 : Hid ((fn : Int) + 1 ≤ 300) := Lib.hid (by omega)
      have hXl : X.length ≤ 1048576 := by omega
      go_wp2_with fail
      have hwr : IntKind.i64.wrap ((fn : Int) + 1) = (fn : Int) + 1 := by rw [IntKind.wrap_i64]; omega
      go_region_law (first
        | (go_simp; go_at_call 63; refine (hFN.out _).mono ?_; rintro e w5 ⟨rfl, rfl⟩)
        | (go_simp; go_at_call 30; refine Calls.mono (KNX.out _ HN1 _ (by first | assumption | exact SO.alloc (by assumption) _)) ?_; rintro e wa ⟨rk, rfl, hSOa, hoa⟩; have hSOaa := SO.alloc hSOa (.cells #[.int .i64 rk] 2); try (have hOWa := own_srcI hOW hgw hoa))
        | (go_simp; go_at_call 65; refine Calls.mono (KOWN.out _ (by first | assumption | exact SO.alloc (by assumption) _)) ?_; rintro e wb ⟨ub, rfl, hOW, hSOb, hgb⟩; obtain ⟨Ab, cb, hub⟩ := ints_slice hOW.ints; rw [hX] at hub; subst hub)
        | (refine step_appI wr.heap.size rfl (.tmp 19) (.tmp 26) rfl (.slice Ab j cb) X (by simp [Act.eval, Act.put]) (by first | exact own_grew hOWa ((Grew.refl _).alloc _) | exact own_grew hOW ((Grew.refl _).alloc _) | exact hOW) (show SO g cv N wr _ from by first | assumption | exact SO.alloc (by assumption) _).2.size _ rk (by simp [Act.eval, Act.put]; rfl) (by first | exact rd_lit _ _ _ | exact Rd.grew (rd_lit _ _ _) hgb) hXl ?_; intro v8 w8 hO8 hg8; have hSO8 := SO.appW (show SO g cv N wr _ from by first | assumption | exact SO.alloc (by assumption) _) hg8 hgw (fun b hb => own_of_ge (base := wr.heap.size) (by first | exact own_grew hOWa ((Grew.refl _).alloc _) | exact own_grew hOW ((Grew.refl _).alloc _) | exact hOW) hb); obtain ⟨A8, c8, hu8⟩ := ints_slice hO8.ints; rw [show (X ++ [rk]).length = j + 1 by simp [hX]] at hu8; subst hu8; have hf8 := (((Only.refl (fb + 1) w8).setCell (o := 2) (.slice A8 (j + 1) c8)).cell (p := ⟨fb, 0, none⟩) (Nat.lt_of_lt_of_le hfl hSO8.2.size) (by simp)).trans (x0 w8 hSO8); have hz8 := xf w8 hSO8))
      all_goals
        have hM9 : Hid (MI g cv N w0 fb (fb + 1) (.slice A1 K.length c1) K (.slice A8 (j + 1) c8) (X ++ [rk]) (w8.setCell ⟨fb + 1, 2, none⟩ (.slice A8 (j + 1) c8))) := Lib.hid (by
          have hk : Only (fb + 1) w8 (w8.setCell ⟨fb + 1, 2, none⟩ (.slice A8 (j + 1) c8)) := (Only.refl _ _).setCell _
          have hm8 := (hSO8.2.block hml (by omega)).trans hM.out.m
          have hf8' := (hSO8.2.block hfl (by omega)).trans hM.out.f
          have ha8 := own_srcI hM.out.r.a hz2 hSO8.2
          refine ⟨hSO8.1.other hk (by omega), (hM.out.o.trans hSO8.2).newer hk (by omega), (hk.block (Nat.lt_of_lt_of_le hfl hSO8.2.size) (by omega)).trans hf8', ?_, ?_, ?_, ?_⟩
          · have := blk_set hm8 2 (.slice A8 (j + 1) c8)
            exact this
          · exact own_only ha8 hk (own_ne ha8 hm8 tyM1)
          · exact own_base (own_only hO8 hk (own_ne hO8 hm8 tyM1)) (by have := hM.out.o.size; omega)
          · intro b hb hb2
            have h1 := (hM.out.r.a.lt b hb).2
            have h2 := (hO8.lt b hb2).1
            omega)
        go_wp2_with fail
        go_roundw
        case rel => exact ⟨j + 1, _, _, by omega, by go_num, by simp [hX], hM9⟩
        case measure => simp [intOf]; omega
    · obtain rfl : j = 6 := by omega
      have d0 : wr.cell? ⟨fb + 1, 0, none⟩ = some (.int .i64 (K.length : Int)) := by rw [blk_cell hM.out.m]; rfl
      have d1 : wr.cell? ⟨fb + 1, 1, none⟩ = some (.slice A1 K.length c1) := by rw [blk_cell hM.out.m]; rfl
      have d2 : wr.cell? ⟨fb + 1, 2, none⟩ = some (.slice Au 6 cu) := by rw [blk_cell hM.out.m]; rfl
      have HR := Lib.hid (show wr.heap[w.heap.size]? = some (.cells #[.int .i64 0, .slice none 0 0, .slice none 0 0] 28 (0, 0)) from (hM.out.o.block (by omega) (by omega)).trans HB0.out)
      have q0 : wr.cell? ⟨w.heap.size, 0, none⟩ = some (.int .i64 0) := by rw [blk_cell HR.out]; rfl
      have q1 : wr.cell? ⟨w.heap.size, 1, none⟩ = some (.slice none 0 0) := by rw [blk_cell HR.out]; rfl
      have q2 : wr.cell? ⟨w.heap.size, 2, none⟩ = some (.slice none 0 0) := by rw [blk_cell HR.out]; rfl
      have qf0 := blk_frozen HR.out 0
      have qf1 := blk_frozen HR.out 1
      have qf2 := blk_frozen HR.out 2
      have hk : Only w.heap.size wr (((wr.setCell ⟨w.heap.size, 0, none⟩ (.int .i64 (K.length : Int))).setCell ⟨w.heap.size, 1, none⟩ (.slice A1 K.length c1)).setCell ⟨w.heap.size, 2, none⟩ (.slice Au 6 cu)) := (((Only.refl _ _).setCell _).setCell _).setCell _
      have hz := HSZ.out
      have HE := Lib.hid (show MdR (((wr.setCell ⟨w.heap.size, 0, none⟩ (.int .i64 (K.length : Int))).setCell ⟨w.heap.size, 1, none⟩ (.slice A1 K.length c1)).setCell ⟨w.heap.size, 2, none⟩ (.slice Au 6 cu)) w.heap.size (.slice A1 K.length c1) (.slice Au 6 cu) K X ∧ Src (((wr.setCell ⟨w.heap.size, 0, none⟩ (.int .i64 (K.length : Int))).setCell ⟨w.heap.size, 1, none⟩ (.slice A1 K.length c1)).setCell ⟨w.heap.size, 2, none⟩ (.slice Au 6 cu)) g cv N ∧ Only g w (((wr.setCell ⟨w.heap.size, 0, none⟩ (.int .i64 (K.length : Int))).setCell ⟨w.heap.size, 1, none⟩ (.slice A1 K.length c1)).setCell ⟨w.heap.size, 2, none⟩ (.slice Au 6 cu)) from
        ⟨(hM.out.r.only hk (by omega)).base (by omega), hM.out.s.other hk hgl, (hU0.trans hM.out.o).newer hk (Nat.le_refl _)⟩)
      clear hk hz hM
      go_wp2_with fail
      (try simp only [Exit.inBlock, Exit.then])
      refine bodyPost_ret (results_cell_row rfl _ _ w.heap.size _ _ _ _ rfl (blk_set (blk_set (blk_set HR.out 0 _) 1 _) 2 _) Tryz.underlying28 rfl infoMd) rfl ?_
      exact ⟨_, _, K, X, rfl, hl1', hX, HE.out.1, HE.out.2.1, HE.out.2.2⟩
end Go.Proofs.YtjlnompmhgjaaaaGreat


/- Draws: one of a row of numbers; a number that fits mostly. -/
namespace Go.Proofs.YtjlnompmhgjaaaaGreat
open Go.RowKit

theorem l01PickN_c (g : Nat) (cv : Value) (N : Nat) (b n : Nat) (w : World) (h : Src w g cv N) (hb : b < w.heap.size) (hne : b ≠ g) (hn : 1 ≤ n) (hn2 : n ≤ 100) (hc : ∀ j, j < n → ∃ x : Int, w.cell? ⟨b, j, none⟩ = some (.int .i64 x)) :
    Calls Tryz.prog 16 #[.pointer (some ⟨g, 0, none⟩), .slice (some ⟨b, 0, none⟩) n n] w fun e w' => ∃ r : Int, e = .returned (.int .i64 r) ∧ Src w' g cv N ∧ Only g w w' := by
  have HS := Lib.hid h
  have HC := Lib.hid hc
  clear h hc
  go_enter Tryz.func16, Tryz.ntmps16
  go_wp2_with fail
  refine (l01Next_c g cv N (n : Int) _ HS.out (by omega)).mono ?_
  rintro e w1 ⟨r, rfl, hr0, hr1, _, hS1, ho1⟩
  have hr2 := hr1 (by omega)
  obtain ⟨k, rfl⟩ : ∃ k : Nat, r = (k : Int) := ⟨r.toNat, by omega⟩
  obtain ⟨x, hx⟩ := HC.out k (by omega)
  have hx1 := (ho1.cell (p := ⟨b, k, none⟩) hb hne).trans hx
  have HS1 := Lib.hid hS1
  clear hx hS1 hr1
  go_wp2_with fail
  go_ret
  exact ⟨_, rfl, HS1.out, ho1⟩
set_option maxHeartbeats 1000000 in
theorem l01Number_c (g : Nat) (cv : Value) (N : Nat) (n : Int) (w : World) (h : Src w g cv N) (hn : n ≤ 9223372036854775807) :
    Calls Tryz.prog 15 #[.pointer (some ⟨g, 0, none⟩), .int .i64 n] w fun e w' => ∃ r : Int, e = .returned (.int .i64 r) ∧ Src w' g cv N ∧ Only g w w' := by
  have HS := Lib.hid h
  clear h
  go_enter Tryz.func15, Tryz.ntmps15
  go_wp2_with fail
  refine (l01Next_c g cv N 40 _ HS.out (by omega)).mono ?_
  rintro e w1 ⟨r, rfl, hr0, hr1, _, hS1, ho1⟩
  have HS1 := Lib.hid hS1
  clear hS1 hr1
  by_cases h0 : r = 0
  · subst h0
    have hga := (Grew.refl w1).alloc (.cells #[.int .i64 (-1), .int .i64 n, .int .i64 9223372036854775807, .int .i64 (-9223372036854775808)] 2)
    have hb := blk_new w1 (.cells #[.int .i64 (-1), .int .i64 n, .int .i64 9223372036854775807, .int .i64 (-9223372036854775808)] 2)
    have hgl := HS1.out.lt
    have KP := Lib.hid (l01PickN_c g cv N w1.heap.size 4 _ (HS1.out.grew hga) (blk_lt hb) (by omega) (by omega) (by omega) (fun j hj => by
      match j, hj with
      | 0, _ => exact ⟨-1, by rw [blk_cell hb]; rfl⟩
      | 1, _ => exact ⟨n, by rw [blk_cell hb]; rfl⟩
      | 2, _ => exact ⟨9223372036854775807, by rw [blk_cell hb]; rfl⟩
      | 3, _ => exact ⟨-9223372036854775808, by rw [blk_cell hb]; rfl⟩))
    clear hb hgl
    go_wp2_with fail
    refine KP.out.mono ?_
    rintro e w2 ⟨r2, rfl, hS2, ho2⟩
    have HS2 := Lib.hid hS2
    clear hS2
    go_wp2_with fail
    go_ret
    exact ⟨_, rfl, HS2.out, (ho1.grew hga).trans ho2⟩
  · have hrf : (r == 0) = false := by simpa using h0
    have hrf2 : (r = 0) = False := eq_false h0
    go_wp2_with fail
    refine (l01Next_c g cv N n _ HS1.out hn).mono ?_
    rintro e w2 ⟨r2, rfl, _, _, _, hS2, ho2⟩
    have HS2 := Lib.hid hS2
    clear hS2
    go_wp2_with fail
    go_ret
    exact ⟨_, rfl, HS2.out, ho1.trans ho2⟩
end Go.Proofs.YtjlnompmhgjaaaaGreat


/- l05Draw of the reference with a bound of the drawn number. -/
namespace Go.Proofs.YtjlnompmhgjaaaaGreat
open Go.RowKit

theorem l01Pick3B_c (g : Nat) (cv : Value) (N : Nat) (b : Nat) (x0 x1 x2 : Int) (w : World) (h : Src w g cv N) (hb : b < w.heap.size) (hne : b ≠ g) (c0 : w.cell? ⟨b, 0, none⟩ = some (.int .i64 x0)) (c1 : w.cell? ⟨b, 1, none⟩ = some (.int .i64 x1)) (c2 : w.cell? ⟨b, 2, none⟩ = some (.int .i64 x2)) :
    Calls Tryz.prog 16 #[.pointer (some ⟨g, 0, none⟩), .slice (some ⟨b, 0, none⟩) 3 3] w fun e w' => ∃ r : Int, e = .returned (.int .i64 r) ∧ (r = x0 ∨ r = x1 ∨ r = x2) ∧ Src w' g cv N ∧ Only g w w' := by
  have HS := Lib.hid h
  have HC := Lib.hid (show ∀ j, j < 3 → ∃ x : Int, (x = x0 ∨ x = x1 ∨ x = x2) ∧ w.cell? ⟨b, j, none⟩ = some (.int .i64 x) from fun j hj => by
    match j, hj with
    | 0, _ => exact ⟨_, .inl rfl, c0⟩
    | 1, _ => exact ⟨_, .inr (.inl rfl), c1⟩
    | 2, _ => exact ⟨_, .inr (.inr rfl), c2⟩)
  clear h c0 c1 c2
  go_enter Tryz.func16, Tryz.ntmps16
  go_wp2_with fail
  refine (l01Next_c g cv N 3 _ HS.out (by omega)).mono ?_
  rintro e w1 ⟨r, rfl, hr0, hr1, _, hS1, ho1⟩
  have hr2 := hr1 (by omega)
  obtain ⟨k, rfl⟩ : ∃ k : Nat, r = (k : Int) := ⟨r.toNat, by omega⟩
  obtain ⟨x, hxx, hx⟩ := HC.out k (by omega)
  have hx1 := (ho1.cell (p := ⟨b, k, none⟩) hb hne).trans hx
  have HS1 := Lib.hid hS1
  have HXX := Lib.hid hxx
  clear hx hS1 hr1 hxx
  go_wp2_with fail
  go_ret
  exact ⟨_, rfl, HXX.out, HS1.out, ho1⟩

def GivesQB (g : Nat) (cv : Value) (N : Nat) (m : Nat) (w : World) (e : Ending) (w' : World) : Prop := ∃ v sz L, e = .returned (.agg #[.int .i64 sz, v]) ∧ sz ≤ 100 ∧ OwnI w' w.heap.size v L ∧ L.length ≤ m ∧ Src w' g cv N ∧ Only g w w'
set_option maxRecDepth 100000 in
set_option maxHeartbeats 1000000 in
theorem l05DrawB_c (g : Nat) (cv : Value) (N : Nat) (m : Nat) (hm8 : m ≤ 8) (w : World) (h : Src w g cv N) :
    Calls Tryz.prog 62 #[.pointer (some ⟨g, 0, none⟩), .int .i64 (m : Int)] w (GivesQB g cv N 9 w) := by
  have hinfo := info2F
  have hgl := h.lt
  have hS0 := h.grew ((Grew.refl w).alloc (.cells #[.int .i64 0, .slice none 0 0] 26))
  have HS := Lib.hid hS0
  have HB0 := Lib.hid (blk_new w (.cells #[.int .i64 0, .slice none 0 0] 26))
  have hU0 := ((Grew.refl w).alloc (.cells #[.int .i64 0, .slice none 0 0] 26)).only (g := g)
  have hsz0 : (w.alloc (.cells #[.int .i64 0, .slice none 0 0] 26)).heap.size = w.heap.size + 1 := by simp
  have HSZ := Lib.hid hsz0
  obtain ⟨w0, hw0⟩ : ∃ w0, w0 = w.alloc (.cells #[.int .i64 0, .slice none 0 0] 26) := ⟨_, rfl⟩
  rw [← hw0] at HS HB0 HSZ hU0
  clear h hS0 hsz0
  go_enter Tryz.func62, Tryz.ntmps62
  go_wp2_with fail
  simp only [← hw0]
  clear hw0
  refine (l05Some_c g cv N m hm8 w0 HS.out).mono ?_
  rintro e w1 ⟨v1, L1, rfl, hO1, hl1, hm1, hS1, ho1⟩
  have HO1 := Lib.hid hO1
  have hl1' : (zs L1).length ≤ 8 := by rw [zs_len]; omega
  rw [← zs_len]
  clear hO1 hm1 hl1
  generalize zs L1 = K1 at *
  obtain ⟨A1, c1, rfl⟩ := ints_slice HO1.out.ints
  have HS1 := Lib.hid hS1
  clear hS1
  have hga := (Grew.refl w1).alloc (.cells #[.int .i64 (K1.length : Int), .slice A1 K1.length c1] 26)
  have hbx := blk_new w1 (.cells #[.int .i64 (K1.length : Int), .slice A1 K1.length c1] 26)
  have hp0 := ho1.size
  have hsa : (w1.alloc (.cells #[.int .i64 (K1.length : Int), .slice A1 K1.length c1] 26)).heap.size = w1.heap.size + 1 := by simp
  obtain ⟨wk, hwk⟩ : ∃ wk, wk = w1.alloc (.cells #[.int .i64 (K1.length : Int), .slice A1 K1.length c1] 26) := ⟨_, rfl⟩
  rw [← hwk] at hga hbx hsa
  have HP := Lib.hid (And.intro hga (And.intro hbx (And.intro hp0 hsa)))
  clear hga hbx hp0 hsa
  go_wp2_with fail
  simp only [← hwk]
  clear hwk
  obtain ⟨hga, hbx, hp0, hsa⟩ := HP.out
  have hUk := ho1.grew hga
  have hgp : g ≠ w1.heap.size := by have := HSZ.out; omega
  have HBX := Lib.hid hbx
  have hpb1 : w1.heap.size < wk.heap.size := by omega
  have HOK := Lib.hid (HO1.out.grew hga)
  have hap : ∀ k, (Value.slice A1 K1.length c1).ownBlock = some k → k = w1.heap.size → False := fun k hk he => by have := (HO1.out.lt k hk).2; omega
  have HSK := Lib.hid (HS1.out.grew hga)
  have hlk := hl1'
  clear hga hbx hsa HP HS1 HO1 ho1 hl1'
  generalize w1.heap.size = pb at *
  have hpb0 : w0.heap.size ≤ pb := hp0
  clear hp0
  generalize K1 = K at *
  generalize A1 = A at *
  generalize c1 = c at *
  refine (l01Next_c g cv N 40 wk HSK.out (by omega)).mono ?_
  rintro e wn ⟨sw, rfl, hsw0, hsw1, _, hSn, hon⟩
  have hUn := hUk.trans hon
  have HBX := Lib.hid ((hon.block hpb1 (by omega)).trans HBX.out)
  have HOn := Lib.hid (own_srcI HOK.out (by have := HSZ.out; omega) hon)
  have HSn := Lib.hid hSn
  have hpb2 : pb < wn.heap.size := Nat.lt_of_lt_of_le hpb1 hon.size
  have hsn := hUn.size
  clear hSn hsw1 hon HOK HSK
  have d0 : wn.cell? ⟨pb, 0, none⟩ = some (.int .i64 (K.length : Int)) := by rw [blk_cell HBX.out]; rfl
  have d1 : wn.cell? ⟨pb, 1, none⟩ = some (.slice A K.length c) := by rw [blk_cell HBX.out]; rfl
  have df0 := blk_frozen HBX.out 0
  have df1 := blk_frozen HBX.out 1
  cases s0 : (sw == 0) with
  | true =>
    have hS3 := HSn.out.grew ((Grew.refl wn).alloc (.cells #[.int .i64 (-1), .int .i64 9, .int .i64 ((K.length : Int) + 1)] 2))
    have hPk := Lib.hid (l01Pick3B_c g cv N wn.heap.size (-1) 9 ((K.length : Int) + 1) _ hS3 (by simp) (by have := HSZ.out; omega) (by simp) (by simp) (by simp))
    clear hS3
    go_wp2_with fail
    refine hPk.out.mono ?_
    rintro e wp ⟨rp, rfl, hrp, hSp, hop⟩
    have HRP := Lib.hid (show rp ≤ 100 by omega)
    clear hrp
    have hga := (Grew.refl wn).alloc (.cells #[.int .i64 (-1), .int .i64 9, .int .i64 ((K.length : Int) + 1)] 2)
    have hUp := (hUn.grew hga).trans hop
    have hpb3 : pb < (wn.alloc (.cells #[.int .i64 (-1), .int .i64 9, .int .i64 ((K.length : Int) + 1)] 2)).heap.size := Nat.lt_of_lt_of_le hpb2 hga.size
    have HBX := Lib.hid ((hop.block hpb3 (by omega)).trans ((hga.block hpb2).trans HBX.out))
    have HOp := Lib.hid (own_srcI (HOn.out.grew hga) (by have := HSZ.out; omega) hop)
    have HSp := Lib.hid hSp
    clear hSp hPk d0 d1 df0 df1
    have d0 : wp.cell? ⟨pb, 0, none⟩ = some (.int .i64 (K.length : Int)) := by rw [blk_cell HBX.out]; rfl
    have d1 : wp.cell? ⟨pb, 1, none⟩ = some (.slice A K.length c) := by rw [blk_cell HBX.out]; rfl
    have df0 := blk_frozen HBX.out 0
    have df1 := blk_frozen HBX.out 1
    have HR := Lib.hid (show wp.heap[w.heap.size]? = some (.cells #[.int .i64 0, .slice none 0 0] 26 (0, 0)) from (hUp.block (by have := HSZ.out; omega) (by omega)).trans HB0.out)
    have q0 : wp.cell? ⟨w.heap.size, 0, none⟩ = some (.int .i64 0) := by rw [blk_cell HR.out]; rfl
    have q1 : wp.cell? ⟨w.heap.size, 1, none⟩ = some (.slice none 0 0) := by rw [blk_cell HR.out]; rfl
    have qf0 := blk_frozen HR.out 0
    have qf1 := blk_frozen HR.out 1
    have hkb : Only pb wp (wp.setCell ⟨pb, 0, none⟩ (.int .i64 rp)) := (Only.refl _ _).setCell _
    have HBX2 := Lib.hid (blk_set HBX.out 0 (.int .i64 rp))
    have HOf := Lib.hid (own_only HOp.out hkb (fun hh => hap _ hh rfl))
    have HSf := Lib.hid (HSp.out.other hkb (by have := HSZ.out; omega))
    have hUf := hUp.newer hkb hpb0
    have HR := Lib.hid ((hkb.block (k := w.heap.size) (by have := HSZ.out; have := hUp.size; omega) (by have := HSZ.out; omega)).trans HR.out)
    have e0 : (wp.setCell ⟨pb, 0, none⟩ (.int .i64 rp)).cell? ⟨pb, 0, none⟩ = some (.int .i64 rp) := by rw [blk_cell HBX2.out]; rfl
    have e1 : (wp.setCell ⟨pb, 0, none⟩ (.int .i64 rp)).cell? ⟨pb, 1, none⟩ = some (.slice A K.length c) := by rw [blk_cell HBX2.out]; rfl
    have r0 : (wp.setCell ⟨pb, 0, none⟩ (.int .i64 rp)).cell? ⟨w.heap.size, 0, none⟩ = some (.int .i64 0) := by rw [blk_cell HR.out]; rfl
    have r1 : (wp.setCell ⟨pb, 0, none⟩ (.int .i64 rp)).cell? ⟨w.heap.size, 1, none⟩ = some (.slice none 0 0) := by rw [blk_cell HR.out]; rfl
    have rf0 := blk_frozen HR.out 0
    have rf1 := blk_frozen HR.out 1
    clear q0 q1 qf0 qf1
    go_wp2_with fail
    (try simp only [Exit.inBlock, Exit.then])
    refine bodyPost_ret (results_cell_row rfl _ _ w.heap.size _ _ _ _ rfl (blk_set (blk_set HR.out 0 _) 1 _) Tryz.underlying26 rfl hinfo) rfl ?_
    have hk : Only w.heap.size (wp.setCell ⟨pb, 0, none⟩ (.int .i64 rp)) (((wp.setCell ⟨pb, 0, none⟩ (.int .i64 rp)).setCell ⟨w.heap.size, 0, none⟩ (.int .i64 rp)).setCell ⟨w.heap.size, 1, none⟩ (.slice A K.length c)) := ((Only.refl _ _).setCell _).setCell _
    have hz := HSZ.out
    have hO7 := own_only HOf.out hk (fun hh => by have := own_of_ge HOf.out hh; omega)
    exact ⟨_, _, K, rfl, (by first | exact HRP.out | omega), own_base hO7 (by omega), by omega, HSf.out.other hk hgl, (hU0.trans hUf).newer hk (Nat.le_refl _)⟩
  | false =>
  cases s1 : (sw == 1) with
  | true =>
    have hWN := Lib.hid (ownR_c (.slice A K.length c) K wn HOn.out.ints (by omega))
    go_wp2_with fail
    refine hWN.out.mono ?_
    rintro e wp ⟨vp, rfl, hOp, hgp2⟩
    have hgl2 := hgp2.trans ((Grew.refl wp).alloc (.cells #[.int .i64 0] 2))
    have hOp2 := hOp.grew ((Grew.refl wp).alloc (.cells #[.int .i64 0] 2))
    have hpw : wn.heap.size ≤ (wp.alloc (.cells #[.int .i64 0] 2)).heap.size := hgl2.size
    have hge := fun k hk => own_of_ge hOp2 (g := k) hk
    have hrd2 := rd_litI wp 0 2
    obtain ⟨Ap, cp, rfl⟩ := ints_slice hOp.ints
    clear d0 d1 df0 df1 hWN
    go_wp2_with (first
      | (at_builtin
         refine wpList_appIB wn.heap.size _ _ rfl rfl _ K rfl hOp2 hpw _ 0 rfl hrd2 (by omega) ?_
         intro v6 w6 hO6 hg6
         have hU6 := (hUn.grew hgl2).newer2 hg6 (fun k hk => Nat.le_trans hsn (hge k hk))
         have hB6 := Grew.grown hgl2 hg6 hge
         have HBX := Lib.hid ((hB6.block hpb2).trans HBX.out)
         have hl6 : (K ++ [0]).length ≤ 9 := by rw [List.length_append]; show K.length + 1 ≤ 9; omega
         have hS6 := Lib.hid (HSn.out.grew hB6)
         generalize K ++ [0] = K6 at *
         obtain ⟨A6, c6, rfl⟩ := ints_slice hO6.ints
         have HO6 := Lib.hid hO6
         have d0 : w6.cell? ⟨pb, 0, none⟩ = some (.int .i64 (K.length : Int)) := by rw [blk_cell HBX.out]; rfl
         have d1 : w6.cell? ⟨pb, 1, none⟩ = some (.slice A K.length c) := by rw [blk_cell HBX.out]; rfl
         have df0 := blk_frozen HBX.out 0
         have df1 := blk_frozen HBX.out 1
         have HR := Lib.hid (show w6.heap[w.heap.size]? = some (.cells #[.int .i64 0, .slice none 0 0] 26 (0, 0)) from (hU6.block (by have := HSZ.out; omega) (by omega)).trans HB0.out)
         have q0 : w6.cell? ⟨w.heap.size, 0, none⟩ = some (.int .i64 0) := by rw [blk_cell HR.out]; rfl
         have q1 : w6.cell? ⟨w.heap.size, 1, none⟩ = some (.slice none 0 0) := by rw [blk_cell HR.out]; rfl
         have qf0 := blk_frozen HR.out 0
         have qf1 := blk_frozen HR.out 1
         have hapn : ∀ k, (Value.slice A6 K6.length c6).ownBlock = some k → k = pb → False := fun k hk he => by have := own_of_ge HO6.out hk; omega
         have hkb : Only pb w6 (w6.setCell ⟨pb, 1, none⟩ (.slice A6 K6.length c6)) := (Only.refl _ _).setCell _
         have HBX2 := Lib.hid (blk_set HBX.out 1 (.slice A6 K6.length c6))
         have HOf := Lib.hid (OwnI.base (B' := w0.heap.size) (own_only HO6.out hkb (fun hh => hapn _ hh rfl)) hsn)
         have HSf := Lib.hid (hS6.out.other hkb (by have := HSZ.out; omega))
         have hUf := Lib.hid (hU6.newer hkb hpb0)
         have HR := Lib.hid ((hkb.block (k := w.heap.size) (by have := HSZ.out; have := hU6.size; omega) (by have := HSZ.out; omega)).trans HR.out)
         have e0 : (w6.setCell ⟨pb, 1, none⟩ (.slice A6 K6.length c6)).cell? ⟨pb, 0, none⟩ = some (.int .i64 (K.length : Int)) := by rw [blk_cell HBX2.out]; rfl
         have e1 : (w6.setCell ⟨pb, 1, none⟩ (.slice A6 K6.length c6)).cell? ⟨pb, 1, none⟩ = some (.slice A6 K6.length c6) := by rw [blk_cell HBX2.out]; rfl
         have r0 : (w6.setCell ⟨pb, 1, none⟩ (.slice A6 K6.length c6)).cell? ⟨w.heap.size, 0, none⟩ = some (.int .i64 0) := by rw [blk_cell HR.out]; rfl
         have r1 : (w6.setCell ⟨pb, 1, none⟩ (.slice A6 K6.length c6)).cell? ⟨w.heap.size, 1, none⟩ = some (.slice none 0 0) := by rw [blk_cell HR.out]; rfl
         have rf0 := blk_frozen HR.out 0
         have rf1 := blk_frozen HR.out 1
         clear q0 q1 qf0 qf1 hO6 hkb hapn hB6 hU6))
    replace hUf := hUf.out
    (try simp only [Exit.inBlock, Exit.then])
    refine bodyPost_ret (results_cell_row rfl _ _ w.heap.size _ _ _ _ rfl (blk_set (blk_set HR.out 0 _) 1 _) Tryz.underlying26 rfl hinfo) rfl ?_
    have hk : Only w.heap.size (w6.setCell ⟨pb, 1, none⟩ (.slice A6 K6.length c6)) (((w6.setCell ⟨pb, 1, none⟩ (.slice A6 K6.length c6)).setCell ⟨w.heap.size, 0, none⟩ (.int .i64 (K.length : Int))).setCell ⟨w.heap.size, 1, none⟩ (.slice A6 K6.length c6)) := ((Only.refl _ _).setCell _).setCell _
    have hz := HSZ.out
    have hO7 := own_only HOf.out hk (fun hh => by have := own_of_ge HOf.out hh; omega)
    exact ⟨_, _, K6, rfl, by omega, own_base hO7 (by omega), by omega, HSf.out.other hk hgl, (hU0.trans hUf).newer hk (Nat.le_refl _)⟩
  | false =>
  cases s2 : (sw == 2) with
  | true =>
    by_cases h0 : 0 < K.length
    · obtain ⟨gr, cur, rfl, hgr, hcur, hcs, hall⟩ := own_irow HOn.out h0
      have HCU := Lib.hid hcur
      have HAL := Lib.hid hall
      have hFN0 := l01Full_q K.length (by omega)
      have hF0 : 0 < 2 ^ K.length := Nat.pow_pos (by omega)
      have hF9 : 2 ^ K.length ≤ 256 := Nat.le_trans (Nat.pow_le_pow_right (by omega) hlk) (by decide)
      rw [← full_cast] at hFN0
      have hff : full K.length ≤ 255 := by unfold full; omega
      have hFN := Lib.hid hFN0
      clear hFN0 hF0 hF9
      generalize full K.length = fn at *
      have hgz : g < w0.heap.size := by have := HSZ.out; omega
      have hpgr : pb ≠ gr := fun he => hap gr rfl he.symm
      have KP := Lib.hid (fun (x0 x1 : Int) W (hW : SO g cv N wn W) => so_pick g cv N wn x0 x1 W hW)
      have KR := Lib.hid (fun W W' (h : SR g cv N w0 pb gr K.length c (.cells #[.int .i64 (K.length : Int), .slice (some ⟨gr, 0, none⟩) K.length c] 26) W) (hS : SO g cv N wn W') (ho : Only g W W') => h.next hS.1 ho hgz hgp.symm)
      have hSR : SR g cv N w0 pb gr K.length c (.cells #[.int .i64 (K.length : Int), .slice (some ⟨gr, 0, none⟩) K.length c] 26) wn := ⟨HSn.out, hUn, HBX.out, K, rfl, HOn.out⟩
      have KA := Lib.hid (fun (n : Int) (hn : Hid (n ≤ 8 ∧ 1 ≤ n)) W (hW : SO g cv N wn W) => so_next g cv N wn n (by have := hn.out; omega) W hW)
      have HN1 : Hid ((K.length : Int) ≤ 8 ∧ 1 ≤ (K.length : Int)) := Lib.hid ⟨by omega, by omega⟩
      have HN2 : Hid (1 ≤ (fn : Int) + 2 ∧ (fn : Int) + 2 ≤ 100000) := Lib.hid ⟨by omega, by omega⟩
      have hSO : SO g cv N wn wn := ⟨HSn.out, Only.refl _ _⟩
      have hSOd := hSO.drew
      have hSRd := hSR.drew
      have hgrn : gr < wn.heap.size := blk_lt hcur
      have x0 : ∀ W, SR g cv N w0 pb gr K.length c (.cells #[.int .i64 (K.length : Int), .slice (some ⟨gr, 0, none⟩) K.length c] 26) W → W.cell? ⟨pb, 0, none⟩ = some (.int .i64 (K.length : Int)) := fun W hW => by rw [blk_cell hW.2.2.1]; rfl
      have x1 : ∀ W, SR g cv N w0 pb gr K.length c (.cells #[.int .i64 (K.length : Int), .slice (some ⟨gr, 0, none⟩) K.length c] 26) W → W.cell? ⟨pb, 1, none⟩ = some (.slice (some ⟨gr, 0, none⟩) K.length c) := fun W hW => by rw [blk_cell hW.2.2.1]; rfl
      have hgg : gr ≠ g := by have := HSZ.out; omega
      have xf : ∀ W k, SO g cv N wn W → W.frozen? ⟨gr, k, none⟩ = false := fun W k hW => blk_frozen ((hW.2.block hgrn hgg).trans HCU.out) k
      have xc := Lib.hid (fun k (hk : k < K.length) W (hW : SO g cv N wn W) => (hW.2.cell (p := ⟨gr, k, none⟩) hgrn hgg).trans (show wn.cell? ⟨gr, k, none⟩ = some (.int .i64 (it K k)) by rw [blk_cell HCU.out]; exact HAL.out k hk))
      have hwr : IntKind.i64.wrap ((fn : Int) + 1) = (fn : Int) + 1 := by rw [IntKind.wrap_i64]; omega
      clear hcur hall d0 d1 df0 df1
      go_wp2_with fail
      go_region_held3 (fun w' => SR g cv N w0 pb gr K.length c (.cells #[.int .i64 (K.length : Int), .slice (some ⟨gr, 0, none⟩) K.length c] 26) w') (first | assumption | exact SR.drew ‹_› | exact SR.alloc ‹_› _ | exact SR.store ‹_› hgz hgr hpgr (by omega)) (first
        | (go_at_call 63; refine (hFN.out _).mono ?_; rintro e w5 ⟨rfl, rfl⟩)
        | (go_at_call 30; refine Calls.mono (KA.out _ (by assumption) _ (by assumption)) ?_; rintro e wa ⟨rk, rfl, h61, hSOa, hoa⟩; have h60 : (0 : Int) ≤ (rk : Int) := Int.natCast_nonneg _; have hSRa := KR.out _ wa ‹_› hSOa hoa; have hc5 := xc.out rk (by omega))
        | (go_at_call 16; refine Calls.mono (KP.out _ _ _ (by first | assumption | exact SO.drew ‹_›)) ?_; rintro e w5 ⟨r5, rfl, hSO5, ho5⟩; have hSR5 := KR.out _ w5 ‹_› hSO5 ho5))
      · have hSRe := SR.store (k := rk) (x := r5) hSR5 hgz hgr hpgr (by omega)
        clear x0 x1 xf hc5 hSO5 hSOa hSR5 hSRa hSO hSOd hSRd
        generalize w5.setCell ⟨gr, rk, none⟩ (.int .i64 (r5)) = wz at hSRe ⊢
        obtain ⟨hSz, hUz, hBz, Kz, hKz, hOz⟩ := hSRe
        have HBX := Lib.hid hBz
        have HSf := Lib.hid hSz
        have hUf := hUz
        rw [← hKz] at hOz HBX ⊢
        have HOf := Lib.hid hOz
        have hlz : Kz.length ≤ 8 := by omega
        clear hSz hBz hOz hKz
        have d0 : wz.cell? ⟨pb, 0, none⟩ = some (.int .i64 (Kz.length : Int)) := by rw [blk_cell HBX.out]; rfl
        have d1 : wz.cell? ⟨pb, 1, none⟩ = some (.slice (some ⟨gr, 0, none⟩) Kz.length c) := by rw [blk_cell HBX.out]; rfl
        have df0 := blk_frozen HBX.out 0
        have df1 := blk_frozen HBX.out 1
        have HR := Lib.hid (show wz.heap[w.heap.size]? = some (.cells #[.int .i64 0, .slice none 0 0] 26 (0, 0)) from (hUz.block (by have := HSZ.out; omega) (by omega)).trans HB0.out)
        have q0 : wz.cell? ⟨w.heap.size, 0, none⟩ = some (.int .i64 0) := by rw [blk_cell HR.out]; rfl
        have q1 : wz.cell? ⟨w.heap.size, 1, none⟩ = some (.slice none 0 0) := by rw [blk_cell HR.out]; rfl
        have qf0 := blk_frozen HR.out 0
        have qf1 := blk_frozen HR.out 1
        go_wp2_with fail
        (try simp only [Exit.inBlock, Exit.then])
        refine bodyPost_ret (results_cell_row rfl _ _ w.heap.size _ _ _ _ rfl (blk_set (blk_set HR.out 0 _) 1 _) Tryz.underlying26 rfl hinfo) rfl ?_
        have hk : Only w.heap.size wz ((wz.setCell ⟨w.heap.size, 0, none⟩ (.int .i64 (Kz.length : Int))).setCell ⟨w.heap.size, 1, none⟩ (.slice (some ⟨gr, 0, none⟩) Kz.length c)) := ((Only.refl _ _).setCell _).setCell _
        have hz := HSZ.out
        have hO7 := own_only HOf.out hk (fun hh => by have := own_of_ge HOf.out hh; omega)
        exact ⟨_, _, Kz, rfl, by omega, own_base hO7 (by omega), by omega, HSf.out.other hk hgl, (hU0.trans hUf).newer hk (Nat.le_refl _)⟩
    · have h00 : ¬ (0 : Int) < (K.length : Int) := by omega
      have HR := Lib.hid (show wn.heap[w.heap.size]? = some (.cells #[.int .i64 0, .slice none 0 0] 26 (0, 0)) from (hUn.block (by have := HSZ.out; omega) (by omega)).trans HB0.out)
      have q0 : wn.cell? ⟨w.heap.size, 0, none⟩ = some (.int .i64 0) := by rw [blk_cell HR.out]; rfl
      have q1 : wn.cell? ⟨w.heap.size, 1, none⟩ = some (.slice none 0 0) := by rw [blk_cell HR.out]; rfl
      have qf0 := blk_frozen HR.out 0
      have qf1 := blk_frozen HR.out 1
      have HOf := HOn
      have HSf := HSn
      have hUf := hUn
      go_wp2_with fail
      (try simp only [Exit.inBlock, Exit.then])
      refine bodyPost_ret (results_cell_row rfl _ _ w.heap.size _ _ _ _ rfl (blk_set (blk_set HR.out 0 _) 1 _) Tryz.underlying26 rfl hinfo) rfl ?_
      have hk : Only w.heap.size wn ((wn.setCell ⟨w.heap.size, 0, none⟩ (.int .i64 (K.length : Int))).setCell ⟨w.heap.size, 1, none⟩ (.slice A K.length c)) := ((Only.refl _ _).setCell _).setCell _
      have hz := HSZ.out
      have hO7 := own_only HOf.out hk (fun hh => by have := own_of_ge HOf.out hh; omega)
      exact ⟨_, _, K, rfl, (by first | exact HRP.out | omega), own_base hO7 (by omega), by omega, HSf.out.other hk hgl, (hU0.trans hUf).newer hk (Nat.le_refl _)⟩
  | false =>
    have HR := Lib.hid (show wn.heap[w.heap.size]? = some (.cells #[.int .i64 0, .slice none 0 0] 26 (0, 0)) from (hUn.block (by have := HSZ.out; omega) (by omega)).trans HB0.out)
    have q0 : wn.cell? ⟨w.heap.size, 0, none⟩ = some (.int .i64 0) := by rw [blk_cell HR.out]; rfl
    have q1 : wn.cell? ⟨w.heap.size, 1, none⟩ = some (.slice none 0 0) := by rw [blk_cell HR.out]; rfl
    have qf0 := blk_frozen HR.out 0
    have qf1 := blk_frozen HR.out 1
    have HOf := HOn
    have HSf := HSn
    have hUf := hUn
    go_wp2_with fail
    (try simp only [Exit.inBlock, Exit.then])
    refine bodyPost_ret (results_cell_row rfl _ _ w.heap.size _ _ _ _ rfl (blk_set (blk_set HR.out 0 _) 1 _) Tryz.underlying26 rfl hinfo) rfl ?_
    have hk : Only w.heap.size wn ((wn.setCell ⟨w.heap.size, 0, none⟩ (.int .i64 (K.length : Int))).setCell ⟨w.heap.size, 1, none⟩ (.slice A K.length c)) := ((Only.refl _ _).setCell _).setCell _
    have hz := HSZ.out
    have hO7 := own_only HOf.out hk (fun hh => by have := own_of_ge HOf.out hh; omega)
    exact ⟨_, _, K, rfl, (by first | exact HRP.out | omega), own_base hO7 (by omega), by omega, HSf.out.other hk hgl, (hU0.trans hUf).newer hk (Nat.le_refl _)⟩

end Go.Proofs.YtjlnompmhgjaaaaGreat


/- The draw of a model: l06Draw of the reference. -/
namespace Go.Proofs.YtjlnompmhgjaaaaGreat
open Go.RowKit

def IntsN (W : World) (B : Nat) (v : Value) (L : List Int) : Prop := ∀ W' : World, (∀ i, B ≤ i → i < W.heap.size → W'.heap[i]? = W.heap[i]?) → W.heap.size ≤ W'.heap.size → Ints W' v L
theorem IntsN.ints {W : World} {B : Nat} {v : Value} {L : List Int} (h : IntsN W B v L) : Ints W v L := h W (fun _ _ _ => rfl) (Nat.le_refl _)
theorem IntsN.only {W W' : World} {B B' b : Nat} {v : Value} {L : List Int} (h : IntsN W B v L) (ho : Only b W W') (hb : b < B) (hB : B' ≤ B) : IntsN W' B' v L := fun W'' hp hz =>
  h W'' (fun i hi hl => (hp i (by omega) (Nat.lt_of_lt_of_le hl ho.size)).trans (ho.block hl (by omega))) (Nat.le_trans ho.size hz)
theorem own_pres {W W' : World} {B B' : Nat} {v : Value} {L : List Int} (h : OwnI W B' v L) (hB : B ≤ B') (hp : ∀ i, B ≤ i → i < W.heap.size → W'.heap[i]? = W.heap[i]?) : OwnI W' B' v L := by
  refine ⟨h.1, ?_⟩
  rcases h.2 with h2 | ⟨g, cap, cur, e, hg, hh, hr⟩
  · exact .inl h2
  · exact .inr ⟨g, cap, cur, e, hg, (hp g (by omega) (blk_lt hh)).trans hh, hr⟩
theorem intsN_of {W : World} {B B' : Nat} {v : Value} {L : List Int} (h : OwnI W B' v L) (hB : B ≤ B') : IntsN W B v L := fun W' hp _ => (own_pres h hB hp).ints
def GivesMx (g : Nat) (cv : Value) (N : Nat) (w : World) (e : Ending) (w' : World) : Prop :=
  ∃ (n : Int) (va vu : Value) (L X : List Int), e = .returned (.agg #[.int .i64 n, va, vu]) ∧ n ≤ 100 ∧ IntsN w' w.heap.size va L ∧ IntsN w' w.heap.size vu X ∧ Src w' g cv N ∧ Only g w w'
theorem own_tailI {w : World} {B b n c : Nat} {X : List Int} (h : OwnI w B (.slice (some ⟨b, 0, none⟩) (n + 1) c) X) (hX : X.length = n + 1) (hc : 2 ≤ n + 1) : Ints w (.slice (some ⟨b, 1, none⟩) n (c - 1)) (X.drop 1) := by
  have h2 := h
  rw [← hX] at h2
  obtain ⟨gr, cur, he, hB, hcur, hcs, hall⟩ := own_irow h2 (by omega)
  simp only [Option.some.injEq, Addr.mk.injEq] at he
  obtain ⟨rfl, _⟩ := he
  have hd : (X.drop 1).length = n := by rw [List.length_drop]; omega
  refine ⟨by simp [icells, hd], by simp [icells]; omega, .inr ⟨b, 1, c - 1, by rw [hd], by simp [icells]; omega, by omega, blk_lt hcur, fun j u hu => ?_⟩⟩
  have hj : j < n := by
    have := (List.getElem?_eq_some_iff.1 hu).1
    simp [icells] at this
    omega
  have e : u = .int .i64 (it X (1 + j)) := by
    have h3 : (icells (X.drop 1))[j]? = some (.int .i64 (it X (1 + j))) := by
      unfold icells
      rw [List.getElem?_map, List.getElem?_drop, List.getElem?_eq_getElem (show 1 + j < X.length by omega)]
      simp [it, List.getD, show 1 + j < X.length by omega]
    rw [hu] at h3
    simpa using h3
  rw [e, blk_cell hcur]
  exact hall (1 + j) (by omega)
def RowX (W : World) (gr n c : Nat) : Prop := ∃ cur, W.heap[gr]? = some (.cells cur 2 (0, 0)) ∧ (n ≤ c ∧ c ≤ 9223372036854775807 ∧ cur.size = c) ∧ ∀ i, i < n → ∃ x, cur[i]? = some (.int .i64 x)
theorem RowX.only {W W' : World} {g gr n c : Nat} (h : RowX W gr n c) (ho : Only g W W') (hne : gr ≠ g) : RowX W' gr n c := by
  obtain ⟨cur, h1, h2⟩ := h
  exact ⟨cur, (ho.block (blk_lt h1) hne).trans h1, h2⟩
theorem RowX.lt {W : World} {gr n c : Nat} (h : RowX W gr n c) : gr < W.heap.size := by
  obtain ⟨cur, h1, h2⟩ := h
  exact blk_lt h1
theorem RowX.free {W : World} {gr n c : Nat} (h : RowX W gr n c) (k : Nat) : W.frozen? ⟨gr, k, none⟩ = false := by
  obtain ⟨cur, h1, h2⟩ := h
  exact blk_frozen h1 k
theorem RowX.cell {W : World} {gr n c k : Nat} (h : RowX W gr n c) (hk : k < n) : ∃ x, W.cell? ⟨gr, k, none⟩ = some (.int .i64 x) := by
  obtain ⟨cur, h1, h2, h3⟩ := h
  obtain ⟨x, hx⟩ := h3 k hk
  exact ⟨x, by rw [blk_cell h1]; exact hx⟩
theorem RowX.set {W : World} {gr n c : Nat} (h : RowX W gr n c) (k : Nat) (z : Int) : RowX (W.setCell ⟨gr, k, none⟩ (.int .i64 z)) gr n c := by
  obtain ⟨cur, h1, ⟨h2, h2b, h2c⟩, h3⟩ := h
  refine ⟨_, blk_set h1 k _, ⟨h2, h2b, by simp [h2c]⟩, fun i hi => ?_⟩
  rw [Array.getElem?_setIfInBounds]
  by_cases hki : k = i
  · subst hki
    rw [if_pos rfl, if_pos (by omega)]
    exact ⟨z, rfl⟩
  · rw [if_neg hki]
    exact h3 i hi
theorem RowX.of {W : World} {gr c : Nat} {cur : Array Value} {X : List Int} (h : W.heap[gr]? = some (.cells cur 2 (0, 0))) (h2 : (X.length ≤ c ∧ c ≤ 9223372036854775807 ∧ cur.size = c) ∧ ∀ i, i < X.length → cur[i]? = some (.int .i64 (it X i))) : RowX W gr X.length c :=
  ⟨cur, h, h2.1, fun i hi => ⟨_, h2.2 i hi⟩⟩
theorem intsN_tail {w : World} {B B' b n c : Nat} {X : List Int} (h : OwnI w B' (.slice (some ⟨b, 0, none⟩) (n + 1) c) X) (hX : X.length = n + 1) (hc : 2 ≤ n + 1) (hB : B ≤ B') : IntsN w B (.slice (some ⟨b, 1, none⟩) n (c - 1)) (X.drop 1) :=
  fun W' hp _ => own_tailI (own_pres h hB hp) hX hc
theorem RowX.own {W : World} {B gr n c : Nat} (h : RowX W gr n c) (hB : B ≤ gr) : ∃ X, X.length = n ∧ OwnI W B (.slice (some ⟨gr, 0, none⟩) n c) X := by
  obtain ⟨cur, h1, ⟨h2, h2b, h2c⟩, h3⟩ := h
  obtain ⟨f, hf⟩ : ∃ f : Nat → Int, ∀ i, i < n → cur[i]? = some (.int .i64 (f i)) := ⟨fun i => match cur[i]? with | some (.int .i64 x) => x | _ => 0, fun i hi => by obtain ⟨x, hx⟩ := h3 i hi; simp [hx]⟩
  have hl : ((List.range n).map f).length = n := by simp
  refine ⟨(List.range n).map f, hl, ?_⟩
  have hk := OwnI.mk_ (L := (List.range n).map f) hB h1 (by rw [hl]; exact h2) h2b h2c (fun i hi => by
    rw [hl] at hi
    rw [hf i hi]
    simp [it, List.getD, hi])
  rwa [hl] at hk
set_option maxHeartbeats 4000000 in
set_option maxRecDepth 100000 in
theorem l06Draw_c (g : Nat) (cv : Value) (N : Nat) (m : Nat) (hm8 : m ≤ 8) (w : World) (h : Src w g cv N) :
    Calls Tryz.prog 31 #[.pointer (some ⟨g, 0, none⟩), .int .i64 (m : Int)] w (GivesMx g cv N w) := by
  have hgl := h.lt
  have HS := Lib.hid (h.grew ((Grew.refl w).alloc (.cells #[.int .i64 0, .slice none 0 0, .slice none 0 0] 28)))
  have HB0 := Lib.hid (blk_new w (.cells #[.int .i64 0, .slice none 0 0, .slice none 0 0] 28))
  have hU0 := ((Grew.refl w).alloc (.cells #[.int .i64 0, .slice none 0 0, .slice none 0 0] 28)).only (g := g)
  have hsz0 : (w.alloc (.cells #[.int .i64 0, .slice none 0 0, .slice none 0 0] 28)).heap.size = w.heap.size + 1 := by simp
  have HSZ := Lib.hid hsz0
  obtain ⟨w0, hw0⟩ : ∃ w0, w0 = w.alloc (.cells #[.int .i64 0, .slice none 0 0, .slice none 0 0] 28) := ⟨_, rfl⟩
  rw [← hw0] at HS HB0 HSZ hU0
  clear h hsz0
  go_enter Tryz.func31, Tryz.ntmps31
  go_wp2_with fail
  simp only [← hw0]
  clear hw0
  refine (l06Some_c g cv N m hm8 w0 HS.out).mono ?_
  rintro e w1 ⟨va, vu, K, X, rfl, hl1, hX, hR1, hS1, ho1⟩
  obtain ⟨A1, c1, rfl⟩ := ints_slice hR1.a.ints
  obtain ⟨Au, cu, hvu⟩ := ints_slice hR1.u.ints
  rw [hX] at hvu
  subst hvu
  have hu1 := hR1.u
  rw [← hX] at hu1
  obtain ⟨gr, cur, rfl, hgr, hcur, hcs, hall⟩ := own_irow hu1 (by omega)
  have HR1 := Lib.hid hR1
  have HS1 := Lib.hid hS1
  have HC1 := Lib.hid (And.intro hcur (And.intro hcs hall))
  clear hR1 hS1 hu1 hcur hcs hall
  have hga := (Grew.refl w1).alloc (.cells #[.int .i64 (K.length : Int), .slice A1 K.length c1, .slice (some ⟨gr, 0, none⟩) 6 cu] 28)
  have hbx := blk_new w1 (.cells #[.int .i64 (K.length : Int), .slice A1 K.length c1, .slice (some ⟨gr, 0, none⟩) 6 cu] 28)
  have hp0 := ho1.size
  obtain ⟨wk, hwk⟩ : ∃ wk, wk = w1.alloc (.cells #[.int .i64 (K.length : Int), .slice A1 K.length c1, .slice (some ⟨gr, 0, none⟩) 6 cu] 28) := ⟨_, rfl⟩
  rw [← hwk] at hga hbx
  have HP := Lib.hid (And.intro hga (And.intro hbx hp0))
  clear hga hbx hp0
  go_wp2_with fail
  simp only [← hwk]
  clear hwk
  obtain ⟨hga, hbx, hp0⟩ := HP.out
  have hUk := ho1.grew hga
  have HBX := Lib.hid hbx
  have hpb1 := blk_lt' hbx
  have HRK := Lib.hid (HR1.out.grew hga)
  have HSK := Lib.hid (HS1.out.grew hga)
  have hgrp : gr < w1.heap.size := blk_lt HC1.out.1
  have HCK := Lib.hid ((hga.block hgrp).trans HC1.out.1)
  have HALL := Lib.hid HC1.out.2
  have HPB := Lib.hid (show w0.heap.size ≤ w1.heap.size ∧ w.heap.size < w0.heap.size ∧ g < w0.heap.size ∧ gr < w1.heap.size from ⟨hp0, by have := HSZ.out; omega, by have := HSZ.out; omega, hgrp⟩)
  clear hga hbx HP HS1 HR1 ho1 HC1 hp0 hgrp
  generalize hpb : w1.heap.size = pb at *
  clear hpb
  refine (l01Next_c g cv N 50 wk HSK.out (by omega)).mono ?_
  rintro e wn ⟨sw, rfl, hsw0, hsw1, _, hSn, hon⟩
  obtain ⟨hz1, hz2, hz3, hz4⟩ := HPB.out
  have HUN := Lib.hid (hUk.trans hon)
  have HBN := Lib.hid ((hon.block hpb1 (by omega)).trans HBX.out)
  have HRN := Lib.hid (HRK.out.only hon hz3)
  have HCN := Lib.hid ((hon.block (by omega) (by omega)).trans HCK.out)
  have HSn := Lib.hid hSn
  clear hSn hsw1 hon HRK HSK HBX HCK hUk
  cases s0 : (sw == 0) with
  | true =>
    have hD := Lib.hid (l05DrawB_c g cv N m hm8 wn HSn.out)
    go_wp2_with fail
    refine hD.out.mono ?_
    rintro e w5 ⟨v5, sz, K5, rfl, hsz, hO5, hl5, hS5, ho5⟩
    have HO5 := Lib.hid (own_base hO5 HUN.out.size)
    obtain ⟨A5, c5, rfl⟩ := ints_slice hO5.ints
    have HS5 := Lib.hid hS5
    have HU5 := Lib.hid (HUN.out.trans ho5)
    have hpb2 := blk_lt' HBN.out
    have HBF := Lib.hid ((ho5.block hpb2 (by omega)).trans HBN.out)
    have HR5 := Lib.hid (HRN.out.only ho5 hz3)
    have d0 : w5.cell? ⟨pb, 0, none⟩ = some (.int .i64 (K.length : Int)) := by rw [blk_cell HBF.out]; rfl
    have d1 : w5.cell? ⟨pb, 1, none⟩ = some (.slice A1 K.length c1) := by rw [blk_cell HBF.out]; rfl
    have d2 : w5.cell? ⟨pb, 2, none⟩ = some (.slice (some ⟨gr, 0, none⟩) 6 cu) := by rw [blk_cell HBF.out]; rfl
    have df0 := blk_frozen HBF.out 0
    have df1 := blk_frozen HBF.out 1
    have df2 := blk_frozen HBF.out 2
    have hkb : Only pb w5 ((w5.setCell ⟨pb, 0, none⟩ (.int .i64 sz)).setCell ⟨pb, 1, none⟩ (.slice A5 K5.length c5)) := ((Only.refl _ _).setCell _).setCell _
    have HOF := Lib.hid (show OwnI ((w5.setCell ⟨pb, 0, none⟩ (.int .i64 sz)).setCell ⟨pb, 1, none⟩ (.slice A5 K5.length c5)) w0.heap.size (.slice A5 K5.length c5) K5 from own_only HO5.out hkb (own_ne HO5.out HBF.out tyM1))
    have HRF := Lib.hid (show OwnI ((w5.setCell ⟨pb, 0, none⟩ (.int .i64 sz)).setCell ⟨pb, 1, none⟩ (.slice A5 K5.length c5)) w0.heap.size (.slice (some ⟨gr, 0, none⟩) 6 cu) X from own_only HR5.out.u hkb (own_ne HR5.out.u HBF.out tyM1))
    have HSF := Lib.hid (HS5.out.other hkb (by omega))
    have HUF := Lib.hid (HU5.out.newer hkb hz1)
    have HBF2 := Lib.hid (blk_set (blk_set HBF.out 0 (.int .i64 sz)) 1 (.slice A5 K5.length c5))
    clear hO5 hS5 ho5 hD HBN HRN HR5 HO5 HS5 HU5 hkb
    have d0f : ((w5.setCell ⟨pb, 0, none⟩ (.int .i64 sz)).setCell ⟨pb, 1, none⟩ (.slice A5 K5.length c5)).cell? ⟨pb, 0, none⟩ = some (.int .i64 sz) := by rw [blk_cell HBF2.out]; rfl
    have d1f : ((w5.setCell ⟨pb, 0, none⟩ (.int .i64 sz)).setCell ⟨pb, 1, none⟩ (.slice A5 K5.length c5)).cell? ⟨pb, 1, none⟩ = some (.slice A5 K5.length c5) := by rw [blk_cell HBF2.out]; rfl
    have d2f : ((w5.setCell ⟨pb, 0, none⟩ (.int .i64 sz)).setCell ⟨pb, 1, none⟩ (.slice A5 K5.length c5)).cell? ⟨pb, 2, none⟩ = some (.slice (some ⟨gr, 0, none⟩) 6 cu) := by rw [blk_cell HBF2.out]; rfl
    have HRS := Lib.hid (show ((w5.setCell ⟨pb, 0, none⟩ (.int .i64 sz)).setCell ⟨pb, 1, none⟩ (.slice A5 K5.length c5)).heap[w.heap.size]? = some (.cells #[.int .i64 0, .slice none 0 0, .slice none 0 0] 28 (0, 0)) from (HUF.out.block hz2 (by omega)).trans HB0.out)
    have q0 : ((w5.setCell ⟨pb, 0, none⟩ (.int .i64 sz)).setCell ⟨pb, 1, none⟩ (.slice A5 K5.length c5)).cell? ⟨w.heap.size, 0, none⟩ = some (.int .i64 0) := by rw [blk_cell HRS.out]; rfl
    have q1 : ((w5.setCell ⟨pb, 0, none⟩ (.int .i64 sz)).setCell ⟨pb, 1, none⟩ (.slice A5 K5.length c5)).cell? ⟨w.heap.size, 1, none⟩ = some (.slice none 0 0) := by rw [blk_cell HRS.out]; rfl
    have q2 : ((w5.setCell ⟨pb, 0, none⟩ (.int .i64 sz)).setCell ⟨pb, 1, none⟩ (.slice A5 K5.length c5)).cell? ⟨w.heap.size, 2, none⟩ = some (.slice none 0 0) := by rw [blk_cell HRS.out]; rfl
    have qf0 := blk_frozen HRS.out 0
    have qf1 := blk_frozen HRS.out 1
    have qf2 := blk_frozen HRS.out 2
    have hk : Only w.heap.size ((w5.setCell ⟨pb, 0, none⟩ (.int .i64 sz)).setCell ⟨pb, 1, none⟩ (.slice A5 K5.length c5)) (((((w5.setCell ⟨pb, 0, none⟩ (.int .i64 sz)).setCell ⟨pb, 1, none⟩ (.slice A5 K5.length c5)).setCell ⟨w.heap.size, 0, none⟩ (.int .i64 sz)).setCell ⟨w.heap.size, 1, none⟩ (.slice A5 K5.length c5)).setCell ⟨w.heap.size, 2, none⟩ (.slice (some ⟨gr, 0, none⟩) 6 cu)) := (((Only.refl _ _).setCell _).setCell _).setCell _
    have hIA := intsN_of (B := w.heap.size) (own_srcI HOF.out (by omega) hk) (by omega)
    have hIU := intsN_of (B := w.heap.size) (own_srcI HRF.out (by omega) hk) (by omega)
    have HEND := Lib.hid (And.intro hIA (And.intro hIU (And.intro (HSF.out.other hk hgl) ((hU0.trans HUF.out).newer hk (Nat.le_refl _)))))
    clear hk hIA hIU
    go_wp2_with fail
    (try simp only [Exit.inBlock, Exit.then])
    refine bodyPost_ret (results_cell_row rfl _ _ w.heap.size _ _ _ _ rfl (blk_set (blk_set (blk_set HRS.out 0 _) 1 _) 2 _) Tryz.underlying28 rfl infoMd) rfl ?_
    exact ⟨_, _, _, _, _, rfl, by omega, HEND.out.1, HEND.out.2.1, HEND.out.2.2.1, HEND.out.2.2.2⟩
  | false =>
  cases s1 : (sw == 1) with
  | true =>
    have HBF := HBN
    have d0 : wn.cell? ⟨pb, 0, none⟩ = some (.int .i64 (K.length : Int)) := by rw [blk_cell HBF.out]; rfl
    have d1 : wn.cell? ⟨pb, 1, none⟩ = some (.slice A1 K.length c1) := by rw [blk_cell HBF.out]; rfl
    have d2 : wn.cell? ⟨pb, 2, none⟩ = some (.slice (some ⟨gr, 0, none⟩) 6 cu) := by rw [blk_cell HBF.out]; rfl
    have df2 := blk_frozen HBF.out 2
    have hkb : Only pb wn (wn.setCell ⟨pb, 2, none⟩ (.slice (some ⟨gr, 1, none⟩) 5 (cu - 1))) := (Only.refl _ _).setCell _
    have HAF := Lib.hid (show OwnI (wn.setCell ⟨pb, 2, none⟩ (.slice (some ⟨gr, 1, none⟩) 5 (cu - 1))) w0.heap.size (.slice A1 K.length c1) K from own_only HRN.out.a hkb (own_ne HRN.out.a HBF.out tyM1))
    have HRF := Lib.hid (show OwnI (wn.setCell ⟨pb, 2, none⟩ (.slice (some ⟨gr, 1, none⟩) 5 (cu - 1))) w0.heap.size (.slice (some ⟨gr, 0, none⟩) 6 cu) X from own_only HRN.out.u hkb (own_ne HRN.out.u HBF.out tyM1))
    have HSF := Lib.hid (HSn.out.other hkb (by omega))
    have HUF := Lib.hid (HUN.out.newer hkb hz1)
    have HBF2 := Lib.hid (blk_set HBF.out 2 (.slice (some ⟨gr, 1, none⟩) 5 (cu - 1)))
    have hcu := HALL.out.1.1
    have hcu2 : ¬ cu = 1 := by omega
    have hcu3 : (1 : Int) ≤ 6 := by omega
    clear HBN HRN hkb
    have d0f : (wn.setCell ⟨pb, 2, none⟩ (.slice (some ⟨gr, 1, none⟩) 5 (cu - 1))).cell? ⟨pb, 0, none⟩ = some (.int .i64 (K.length : Int)) := by rw [blk_cell HBF2.out]; rfl
    have d1f : (wn.setCell ⟨pb, 2, none⟩ (.slice (some ⟨gr, 1, none⟩) 5 (cu - 1))).cell? ⟨pb, 1, none⟩ = some (.slice A1 K.length c1) := by rw [blk_cell HBF2.out]; rfl
    have d2f : (wn.setCell ⟨pb, 2, none⟩ (.slice (some ⟨gr, 1, none⟩) 5 (cu - 1))).cell? ⟨pb, 2, none⟩ = some (.slice (some ⟨gr, 1, none⟩) 5 (cu - 1)) := by rw [blk_cell HBF2.out]; rfl
    have HRS := Lib.hid (show (wn.setCell ⟨pb, 2, none⟩ (.slice (some ⟨gr, 1, none⟩) 5 (cu - 1))).heap[w.heap.size]? = some (.cells #[.int .i64 0, .slice none 0 0, .slice none 0 0] 28 (0, 0)) from (HUF.out.block hz2 (by omega)).trans HB0.out)
    have q0 : (wn.setCell ⟨pb, 2, none⟩ (.slice (some ⟨gr, 1, none⟩) 5 (cu - 1))).cell? ⟨w.heap.size, 0, none⟩ = some (.int .i64 0) := by rw [blk_cell HRS.out]; rfl
    have q1 : (wn.setCell ⟨pb, 2, none⟩ (.slice (some ⟨gr, 1, none⟩) 5 (cu - 1))).cell? ⟨w.heap.size, 1, none⟩ = some (.slice none 0 0) := by rw [blk_cell HRS.out]; rfl
    have q2 : (wn.setCell ⟨pb, 2, none⟩ (.slice (some ⟨gr, 1, none⟩) 5 (cu - 1))).cell? ⟨w.heap.size, 2, none⟩ = some (.slice none 0 0) := by rw [blk_cell HRS.out]; rfl
    have qf0 := blk_frozen HRS.out 0
    have qf1 := blk_frozen HRS.out 1
    have qf2 := blk_frozen HRS.out 2
    have hk : Only w.heap.size (wn.setCell ⟨pb, 2, none⟩ (.slice (some ⟨gr, 1, none⟩) 5 (cu - 1))) ((((wn.setCell ⟨pb, 2, none⟩ (.slice (some ⟨gr, 1, none⟩) 5 (cu - 1))).setCell ⟨w.heap.size, 0, none⟩ (.int .i64 (K.length : Int))).setCell ⟨w.heap.size, 1, none⟩ (.slice A1 K.length c1)).setCell ⟨w.heap.size, 2, none⟩ (.slice (some ⟨gr, 1, none⟩) 5 (cu - 1))) := (((Only.refl _ _).setCell _).setCell _).setCell _
    have hIA := intsN_of (B := w.heap.size) (own_srcI HAF.out (by omega) hk) (by omega)
    have hIU := intsN_tail (B := w.heap.size) (n := 5) (own_srcI HRF.out (by omega) hk) hX (by omega) (by omega)
    have HEND := Lib.hid (And.intro hIA (And.intro hIU (And.intro (HSF.out.other hk hgl) ((hU0.trans HUF.out).newer hk (Nat.le_refl _)))))
    clear hk hIA hIU
    go_wp2_with fail
    (try simp only [Exit.inBlock, Exit.then])
    refine bodyPost_ret (results_cell_row rfl _ _ w.heap.size _ _ _ _ rfl (blk_set (blk_set (blk_set HRS.out 0 _) 1 _) 2 _) Tryz.underlying28 rfl infoMd) rfl ?_
    exact ⟨_, _, _, _, _, rfl, by omega, HEND.out.1, HEND.out.2.1, HEND.out.2.2.1, HEND.out.2.2.2⟩
  | false =>
  cases s2 : (sw == 2) with
  | true =>
    have hRX := RowX.of HCN.out HALL.out
    rw [hX] at hRX
    have HRX := Lib.hid hRX
    have hSO : SO g cv N wn wn := ⟨HSn.out, Only.refl _ _⟩
    have hSOd := hSO.drew
    have hgw : g < wn.heap.size := HSn.out.lt
    have hgrn : gr < wn.heap.size := hRX.lt
    have hpbn := blk_lt' HBN.out
    have hgg : gr ≠ g := by omega
    clear hRX
    have x0 : ∀ W, SO g cv N wn W → W.cell? ⟨pb, 0, none⟩ = some (.int .i64 (K.length : Int)) := fun W hW => by rw [blk_cell ((hW.2.block hpbn (by omega)).trans HBN.out)]; rfl
    have x2 : ∀ W, SO g cv N wn W → W.cell? ⟨pb, 2, none⟩ = some (.slice (some ⟨gr, 0, none⟩) 6 cu) := fun W hW => by rw [blk_cell ((hW.2.block hpbn (by omega)).trans HBN.out)]; rfl
    have xf : ∀ W k, SO g cv N wn W → W.frozen? ⟨gr, k, none⟩ = false := fun W k hW => (HRX.out.only hW.2 hgg).free k
    have xc := Lib.hid (fun k (hk : k < 6) W (hW : SO g cv N wn W) => (HRX.out.only hW.2 hgg).cell hk)
    have KP := Lib.hid (fun (x0 x1 : Int) W (hW : SO g cv N wn W) => so_pick g cv N wn x0 x1 W hW)
    have KA := Lib.hid (fun W (hW : SO g cv N wn W) => so_next g cv N wn 6 (by omega) W hW)
    have hFN0 := l01Full_q K.length (by omega)
    have hF0 : 0 < 2 ^ K.length := Nat.pow_pos (by omega)
    have hF9 : 2 ^ K.length ≤ 256 := Nat.le_trans (Nat.pow_le_pow_right (by omega) (show K.length ≤ 8 by omega)) (by decide)
    rw [← full_cast] at hFN0
    have hff : full K.length ≤ 255 := by unfold full; omega
    obtain ⟨fn, hfn⟩ : ∃ fn, fn = full K.length := ⟨_, rfl⟩
    rw [← hfn] at hFN0 hff
    have hFN := Lib.hid hFN0
    clear hFN0 hF0 hF9 hfn
    go_wp2_with fail
    have hwr : IntKind.i64.wrap ((fn : Int) + 1) = (fn : Int) + 1 := by rw [IntKind.wrap_i64]; omega
    go_region_law (first
      | (go_simp; go_at_call 63; refine (hFN.out _).mono ?_; rintro e w5 ⟨rfl, rfl⟩)
      | (go_simp; go_at_call 30; refine Calls.mono (KA.out _ (by first | assumption | exact SO.alloc (by assumption) _)) ?_; rintro e wa ⟨rk, rfl, h61, hSOa, hoa⟩; have h60 : (0 : Int) ≤ (rk : Int) := Int.natCast_nonneg _; obtain ⟨xk, hxk⟩ := xc.out rk (by omega) wa hSOa; have hSOaa := SO.alloc hSOa (.cells #[.int .i64 (-1), .int .i64 ((fn : Int) + 1)] 2))
      | (go_simp; go_at_call 16; refine Calls.mono (KP.out _ _ _ (by first | assumption | exact SO.alloc (by assumption) _)) ?_; rintro e w5 ⟨r5, rfl, hSO5, ho5⟩; obtain ⟨yk, hyk⟩ := xc.out rk (by omega) w5 hSO5))
    all_goals
      have hkg : Only gr w5 (w5.setCell ⟨gr, rk, none⟩ (.int .i64 r5)) := (Only.refl _ _).setCell _
      have HBF2 := Lib.hid ((hkg.block (Nat.lt_of_lt_of_le hpbn hSO5.2.size) (by omega)).trans ((hSO5.2.block hpbn (by omega)).trans HBN.out))
      have HUF := Lib.hid ((HUN.out.trans hSO5.2).newer hkg (by omega))
      have HSF := Lib.hid (hSO5.1.other hkg (by omega))
      have HAF := Lib.hid (show OwnI (w5.setCell ⟨gr, rk, none⟩ (.int .i64 r5)) w0.heap.size (.slice A1 K.length c1) K from own_only (own_srcI HRN.out.a hz3 hSO5.2) hkg (fun hh => HRN.out.n gr hh rfl))
      have HRF := Lib.hid ((HRX.out.only hSO5.2 hgg).set rk r5)
      clear x0 x2 xf hkg
      have d0f : (w5.setCell ⟨gr, rk, none⟩ (.int .i64 r5)).cell? ⟨pb, 0, none⟩ = some (.int .i64 (K.length : Int)) := by rw [blk_cell HBF2.out]; rfl
      have d1f : (w5.setCell ⟨gr, rk, none⟩ (.int .i64 r5)).cell? ⟨pb, 1, none⟩ = some (.slice A1 K.length c1) := by rw [blk_cell HBF2.out]; rfl
      have d2f : (w5.setCell ⟨gr, rk, none⟩ (.int .i64 r5)).cell? ⟨pb, 2, none⟩ = some (.slice (some ⟨gr, 0, none⟩) 6 cu) := by rw [blk_cell HBF2.out]; rfl
      have HRS := Lib.hid (show (w5.setCell ⟨gr, rk, none⟩ (.int .i64 r5)).heap[w.heap.size]? = some (.cells #[.int .i64 0, .slice none 0 0, .slice none 0 0] 28 (0, 0)) from (HUF.out.block hz2 (by omega)).trans HB0.out)
      have q0 : (w5.setCell ⟨gr, rk, none⟩ (.int .i64 r5)).cell? ⟨w.heap.size, 0, none⟩ = some (.int .i64 0) := by rw [blk_cell HRS.out]; rfl
      have q1 : (w5.setCell ⟨gr, rk, none⟩ (.int .i64 r5)).cell? ⟨w.heap.size, 1, none⟩ = some (.slice none 0 0) := by rw [blk_cell HRS.out]; rfl
      have q2 : (w5.setCell ⟨gr, rk, none⟩ (.int .i64 r5)).cell? ⟨w.heap.size, 2, none⟩ = some (.slice none 0 0) := by rw [blk_cell HRS.out]; rfl
      have qf0 := blk_frozen HRS.out 0
      have qf1 := blk_frozen HRS.out 1
      have qf2 := blk_frozen HRS.out 2
      have hk : Only w.heap.size (w5.setCell ⟨gr, rk, none⟩ (.int .i64 r5)) ((((w5.setCell ⟨gr, rk, none⟩ (.int .i64 r5)).setCell ⟨w.heap.size, 0, none⟩ (.int .i64 (K.length : Int))).setCell ⟨w.heap.size, 1, none⟩ (.slice A1 K.length c1)).setCell ⟨w.heap.size, 2, none⟩ (.slice (some ⟨gr, 0, none⟩) 6 cu)) := (((Only.refl _ _).setCell _).setCell _).setCell _
      have hIA := intsN_of (B := w.heap.size) (own_srcI HAF.out (by omega) hk) (by omega)
      obtain ⟨X9, _, hIU9⟩ := (HRF.out.only hk (by omega)).own (B := w0.heap.size) hgr
      have hIU := intsN_of (B := w.heap.size) hIU9 (by omega)
      have HEND := Lib.hid (And.intro hIA (And.intro hIU (And.intro (HSF.out.other hk hgl) ((hU0.trans HUF.out).newer hk (Nat.le_refl _)))))
      clear hk hIA hIU
      go_wp2_with fail
      (try simp only [Exit.inBlock, Exit.then])
      refine bodyPost_ret (results_cell_row rfl _ _ w.heap.size _ _ _ _ rfl (blk_set (blk_set (blk_set HRS.out 0 _) 1 _) 2 _) Tryz.underlying28 rfl infoMd) rfl ?_
      exact ⟨_, _, _, _, _, rfl, by omega, HEND.out.1, HEND.out.2.1, HEND.out.2.2.1, HEND.out.2.2.2⟩
  | false =>
    have HBF2 := HBN
    have HUF := HUN
    have HSF := HSn
    have d0f : wn.cell? ⟨pb, 0, none⟩ = some (.int .i64 (K.length : Int)) := by rw [blk_cell HBF2.out]; rfl
    have d1f : wn.cell? ⟨pb, 1, none⟩ = some (.slice A1 K.length c1) := by rw [blk_cell HBF2.out]; rfl
    have d2f : wn.cell? ⟨pb, 2, none⟩ = some (.slice (some ⟨gr, 0, none⟩) 6 cu) := by rw [blk_cell HBF2.out]; rfl
    have HRS := Lib.hid (show wn.heap[w.heap.size]? = some (.cells #[.int .i64 0, .slice none 0 0, .slice none 0 0] 28 (0, 0)) from (HUF.out.block hz2 (by omega)).trans HB0.out)
    have q0 : wn.cell? ⟨w.heap.size, 0, none⟩ = some (.int .i64 0) := by rw [blk_cell HRS.out]; rfl
    have q1 : wn.cell? ⟨w.heap.size, 1, none⟩ = some (.slice none 0 0) := by rw [blk_cell HRS.out]; rfl
    have q2 : wn.cell? ⟨w.heap.size, 2, none⟩ = some (.slice none 0 0) := by rw [blk_cell HRS.out]; rfl
    have qf0 := blk_frozen HRS.out 0
    have qf1 := blk_frozen HRS.out 1
    have qf2 := blk_frozen HRS.out 2
    have hk : Only w.heap.size wn (((wn.setCell ⟨w.heap.size, 0, none⟩ (.int .i64 (K.length : Int))).setCell ⟨w.heap.size, 1, none⟩ (.slice A1 K.length c1)).setCell ⟨w.heap.size, 2, none⟩ (.slice (some ⟨gr, 0, none⟩) 6 cu)) := (((Only.refl _ _).setCell _).setCell _).setCell _
    have hIA := intsN_of (B := w.heap.size) (own_srcI HRN.out.a (by omega) hk) (by omega)
    have hIU := intsN_of (B := w.heap.size) (own_srcI HRN.out.u (by omega) hk) (by omega)
    have HEND := Lib.hid (And.intro hIA (And.intro hIU (And.intro (HSF.out.other hk hgl) ((hU0.trans HUF.out).newer hk (Nat.le_refl _)))))
    clear hk hIA hIU
    go_wp2_with fail
    (try simp only [Exit.inBlock, Exit.then])
    refine bodyPost_ret (results_cell_row rfl _ _ w.heap.size _ _ _ _ rfl (blk_set (blk_set (blk_set HRS.out 0 _) 1 _) 2 _) Tryz.underlying28 rfl infoMd) rfl ?_
    exact ⟨_, _, _, _, _, rfl, by omega, HEND.out.1, HEND.out.2.1, HEND.out.2.2.1, HEND.out.2.2.2⟩
end Go.Proofs.YtjlnompmhgjaaaaGreat


/- The draw of a model: l07Model of the reference. -/
namespace Go.Proofs.YtjlnompmhgjaaaaGreat
open Go.RowKit

theorem intsN_slice {W : World} {B : Nat} {v : Value} {L : List Int} (h : IntsN W B v L) : ∃ A c, v = .slice A L.length c := ints_slice h.ints
structure MJ (g : Nat) (cv : Value) (N : Nat) (w0 : World) (pb gr cu : Nat) (va : Value) (K : List Int) (W : World) : Prop where
  s : Src W g cv N
  o : Only g w0 W
  m : W.heap[pb]? = some (.cells #[.int .i64 (K.length : Int), va, .slice (some ⟨gr, 0, none⟩) 6 cu] 28 (0, 0))
  a : OwnI W w0.heap.size va K
  x : RowX W gr 6 cu
  n : va.ownBlock ≠ some gr
theorem MJ.next {g : Nat} {cv : Value} {N : Nat} {w0 W W' : World} {pb gr cu : Nat} {va : Value} {K : List Int} (h : MJ g cv N w0 pb gr cu va K W) (hS : Src W' g cv N) (ho : Only g W W') (hg : g < w0.heap.size) (hp : w0.heap.size ≤ pb) (hgr : w0.heap.size ≤ gr) : MJ g cv N w0 pb gr cu va K W' :=
  ⟨hS, h.o.trans ho, (ho.block (blk_lt' h.m) (by omega)).trans h.m, own_srcI h.a hg ho, h.x.only ho (by omega), h.n⟩
theorem MJ.set {g : Nat} {cv : Value} {N : Nat} {w0 W : World} {pb gr cu : Nat} {va : Value} {K : List Int} (h : MJ g cv N w0 pb gr cu va K W) (k : Nat) (z : Int) (hg : g < w0.heap.size) (hgr : w0.heap.size ≤ gr) (hne : pb ≠ gr) : MJ g cv N w0 pb gr cu va K (W.setCell ⟨gr, k, none⟩ (.int .i64 z)) := by
  have hk : Only gr W (W.setCell ⟨gr, k, none⟩ (.int .i64 z)) := (Only.refl _ _).setCell _
  exact ⟨h.s.other hk (by omega), h.o.newer hk hgr, (hk.block (blk_lt' h.m) hne).trans h.m, own_only h.a hk h.n, h.x.set k z, h.n⟩
set_option maxHeartbeats 4000000 in
set_option maxRecDepth 100000 in
theorem l07Model_c (g : Nat) (cv : Value) (N : Nat) (w : World) (h : Src w g cv N) :
    Calls Tryz.prog 14 #[.pointer (some ⟨g, 0, none⟩)] w (GivesMx g cv N w) := by
  have hgl := h.lt
  have HS := Lib.hid (h.grew ((Grew.refl w).alloc (.cells #[.int .i64 0, .slice none 0 0, .slice none 0 0] 28)))
  have HB0 := Lib.hid (blk_new w (.cells #[.int .i64 0, .slice none 0 0, .slice none 0 0] 28))
  have hU0 := ((Grew.refl w).alloc (.cells #[.int .i64 0, .slice none 0 0, .slice none 0 0] 28)).only (g := g)
  have hsz0 : (w.alloc (.cells #[.int .i64 0, .slice none 0 0, .slice none 0 0] 28)).heap.size = w.heap.size + 1 := by simp
  have HSZ := Lib.hid hsz0
  obtain ⟨w0, hw0⟩ : ∃ w0, w0 = w.alloc (.cells #[.int .i64 0, .slice none 0 0, .slice none 0 0] 28) := ⟨_, rfl⟩
  rw [← hw0] at HS HB0 HSZ hU0
  clear h hsz0
  go_enter Tryz.func14, Tryz.ntmps14
  go_wp2_with fail
  simp only [← hw0]
  clear hw0
  refine (l01Next_c g cv N 16 w0 HS.out (by omega)).mono ?_
  rintro e w1 ⟨sw, rfl, hsw0, hsw1, _, hS1, ho1⟩
  have HS1 := Lib.hid hS1
  have HU1 := Lib.hid ho1
  have hz2 : w.heap.size < w0.heap.size := by have := HSZ.out; omega
  have hz3 : g < w0.heap.size := by omega
  clear hS1 ho1 hsw1
  cases s0 : (sw == 0) with
  | true =>
    have hD := Lib.hid (l06Draw_c g cv N 6 (by omega) w1 HS1.out)
    go_wp2_with fail
    refine hD.out.mono ?_
    rintro e w2 ⟨n2, va, vu, L2, X2, rfl, hn2, hA2, hX2, hS2, ho2⟩
    obtain ⟨Aa, ca, rfl⟩ := intsN_slice hA2
    obtain ⟨Au, cu, rfl⟩ := intsN_slice hX2
    have HA2 := Lib.hid hA2
    have HX2 := Lib.hid hX2
    have HSF := Lib.hid hS2
    have HUF := Lib.hid (HU1.out.trans ho2)
    have hb1 : w.heap.size < w1.heap.size := Nat.lt_of_lt_of_le hz2 HU1.out.size
    clear hA2 hX2 hS2 ho2 hD
    generalize L2.length = l2 at *
    generalize X2.length = x2 at *
    have HRS := Lib.hid (show w2.heap[w.heap.size]? = some (.cells #[.int .i64 0, .slice none 0 0, .slice none 0 0] 28 (0, 0)) from (HUF.out.block hz2 (by omega)).trans HB0.out)
    have q0 : w2.cell? ⟨w.heap.size, 0, none⟩ = some (.int .i64 0) := by rw [blk_cell HRS.out]; rfl
    have q1 : w2.cell? ⟨w.heap.size, 1, none⟩ = some (.slice none 0 0) := by rw [blk_cell HRS.out]; rfl
    have q2 : w2.cell? ⟨w.heap.size, 2, none⟩ = some (.slice none 0 0) := by rw [blk_cell HRS.out]; rfl
    have qf0 := blk_frozen HRS.out 0
    have qf1 := blk_frozen HRS.out 1
    have qf2 := blk_frozen HRS.out 2
    have hk : Only w.heap.size w2 (((w2.setCell ⟨w.heap.size, 0, none⟩ (.int .i64 n2)).setCell ⟨w.heap.size, 1, none⟩ (.slice Aa l2 ca)).setCell ⟨w.heap.size, 2, none⟩ (.slice Au x2 cu)) := (((Only.refl _ _).setCell _).setCell _).setCell _
    have hIA := HA2.out.only hk hb1 (Nat.le_of_lt hb1)
    have hIU := HX2.out.only hk hb1 (Nat.le_of_lt hb1)
    have HEND := Lib.hid (And.intro hIA (And.intro hIU (And.intro (HSF.out.other hk hgl) ((hU0.trans HUF.out).newer hk (Nat.le_refl _)))))
    clear hk hIA hIU
    go_wp2_with fail
    (try simp only [Exit.inBlock, Exit.then])
    refine bodyPost_ret (results_cell_row rfl _ _ w.heap.size _ _ _ _ rfl (blk_set (blk_set (blk_set HRS.out 0 _) 1 _) 2 _) Tryz.underlying28 rfl infoMd) rfl ?_
    exact ⟨_, _, _, _, _, rfl, by omega, HEND.out.1, HEND.out.2.1, HEND.out.2.2.1, HEND.out.2.2.2⟩
  | false =>
    have hD := Lib.hid (l01Next_c g cv N 6 w1 HS1.out (by omega))
    go_wp2_with fail
    refine hD.out.mono ?_
    rintro e w2 ⟨r, rfl, hr0, hr1, _, hS2, ho2⟩
    have hr2 := hr1 (by omega)
    obtain ⟨m, rfl⟩ : ∃ m : Nat, r = (m : Int) := ⟨r.toNat, by omega⟩
    have hwr : IntKind.i64.wrap (1 + (m : Int)) = ((m + 1 : Nat) : Int) := by rw [IntKind.wrap_i64]; omega
    have hwr2 : IntKind.i64.wrap (1 + (m : Int)) = (m : Int) + 1 := by rw [IntKind.wrap_i64]; omega
    have hD2 := Lib.hid (l06Some_c g cv N (m + 1) (by omega) w2 hS2)
    have HU2 := Lib.hid (HU1.out.trans ho2)
    clear hS2 ho2 hD hr1
    go_wp2_with fail
    refine hD2.out.mono ?_
    rintro e w3 ⟨va, vu, K, X, rfl, hl1, hX, hR3, hS3, ho3⟩
    obtain ⟨A1, c1, rfl⟩ := ints_slice hR3.a.ints
    obtain ⟨Au, cu, hvu⟩ := ints_slice hR3.u.ints
    rw [hX] at hvu
    subst hvu
    have hu3 := hR3.u
    rw [← hX] at hu3
    obtain ⟨gr, cur, rfl, hgr, hcur, hcs, hall⟩ := own_irow hu3 (by omega)
    have hRX := RowX.of hcur ⟨hcs, hall⟩
    rw [hX] at hRX
    obtain ⟨w4, hw4⟩ : ∃ w4, w4 = w3.alloc (.cells #[.int .i64 (K.length : Int), .slice A1 K.length c1, .slice (some ⟨gr, 0, none⟩) 6 cu] 28) := ⟨_, rfl⟩
    have hga : Grew w3 w4 := by rw [hw4]; exact (Grew.refl w3).alloc _
    have hbx : w4.heap[w3.heap.size]? = some (.cells #[.int .i64 (K.length : Int), .slice A1 K.length c1, .slice (some ⟨gr, 0, none⟩) 6 cu] 28 (0, 0)) := by rw [hw4]; exact blk_new w3 _
    have hs23 := HU2.out.size
    have HM := Lib.hid (show MJ g cv N w0 w3.heap.size gr cu (.slice A1 K.length c1) K w4 from
      ⟨hS3.grew hga, (HU2.out.trans ho3).grew hga, hbx, own_base (own_grew hR3.a hga) hs23, hRX.only (hga.only (g := gr + 1)) (by omega), fun hh => hR3.n gr hh rfl⟩)
    have HPB := Lib.hid (show w0.heap.size ≤ w3.heap.size ∧ w0.heap.size ≤ gr ∧ w3.heap.size ≠ gr from ⟨(HU2.out.trans ho3).size, by omega, by have := blk_lt hcur; omega⟩)
    clear hR3 hS3 ho3 hu3 hcur hcs hall hRX hga hbx hD2
    go_wp2_with fail
    simp only [← hw4]
    clear hw4
    generalize hpb : w3.heap.size = pb at *
    clear hpb
    obtain ⟨hz1, hz4, hz5⟩ := HPB.out
    go_loopw [4] (fun i wr => ∃ (j : Nat), 2 ≤ j ∧ j ≤ 6 ∧ i = .int .i64 (j : Int) ∧ Hid (MJ g cv N w0 pb gr cu (.slice A1 K.length c1) K wr)) (fun i _ => 6 - (intOf i).toNat)
    case atStart => exact ⟨2, by omega, by omega, rfl, HM⟩
    case round =>
      clear HM
      obtain ⟨j, hj2, hj, rfl, hM⟩ := hrel
      have d2 : wr.cell? ⟨pb, 2, none⟩ = some (.slice (some ⟨gr, 0, none⟩) 6 cu) := by rw [blk_cell hM.out.m]; rfl
      by_cases hlt : j < 6
      · have hf := hM.out.x.free j
        obtain ⟨x, hx⟩ := hM.out.x.cell hlt
        have hj0 : (0 : Int) ≤ (j : Int) := by omega
        have hj1 : (j : Int) < 6 := by omega
        have hM2 := Lib.hid (hM.out.set j 0 hz3 hz4 hz5)
        go_wp2_with fail
        go_roundw
        case rel => exact ⟨j + 1, by omega, by omega, by go_num, hM2⟩
        case measure => simp [intOf]; omega
      · obtain rfl : j = 6 := by omega
        have hN := Lib.hid (l01Next_c g cv N 2 wr hM.out.s (by omega))
        go_wp2_with fail
        refine hN.out.mono ?_
        rintro e w5 ⟨r, rfl, _, _, _, hS5, ho5⟩
        have hM5 := Lib.hid (hM.out.next hS5 ho5 hz3 hz1 hz4)
        clear hS5 ho5 hN hM d2
        have d0 : w5.cell? ⟨pb, 0, none⟩ = some (.int .i64 (K.length : Int)) := by rw [blk_cell hM5.out.m]; rfl
        have d1 : w5.cell? ⟨pb, 1, none⟩ = some (.slice A1 K.length c1) := by rw [blk_cell hM5.out.m]; rfl
        have d2 : w5.cell? ⟨pb, 2, none⟩ = some (.slice (some ⟨gr, 0, none⟩) 6 cu) := by rw [blk_cell hM5.out.m]; rfl
        cases s1 : (r == 0) with
        | true =>
          have hf := hM5.out.x.free 1
          obtain ⟨x, hx⟩ := hM5.out.x.cell (k := 1) (by omega)
          have hM6 := Lib.hid (hM5.out.set 1 0 hz3 hz4 hz5)
          have HUF := Lib.hid hM6.out.o
          have HSF := Lib.hid hM6.out.s
          have HBF := Lib.hid hM6.out.m
          have d0f : (w5.setCell ⟨gr, 1, none⟩ (.int .i64 0)).cell? ⟨pb, 0, none⟩ = some (.int .i64 (K.length : Int)) := by rw [blk_cell HBF.out]; rfl
          have d1f : (w5.setCell ⟨gr, 1, none⟩ (.int .i64 0)).cell? ⟨pb, 1, none⟩ = some (.slice A1 K.length c1) := by rw [blk_cell HBF.out]; rfl
          have d2f : (w5.setCell ⟨gr, 1, none⟩ (.int .i64 0)).cell? ⟨pb, 2, none⟩ = some (.slice (some ⟨gr, 0, none⟩) 6 cu) := by rw [blk_cell HBF.out]; rfl
          have HRS := Lib.hid (show (w5.setCell ⟨gr, 1, none⟩ (.int .i64 0)).heap[w.heap.size]? = some (.cells #[.int .i64 0, .slice none 0 0, .slice none 0 0] 28 (0, 0)) from (HUF.out.block hz2 (by omega)).trans HB0.out)
          have q0 : (w5.setCell ⟨gr, 1, none⟩ (.int .i64 0)).cell? ⟨w.heap.size, 0, none⟩ = some (.int .i64 0) := by rw [blk_cell HRS.out]; rfl
          have q1 : (w5.setCell ⟨gr, 1, none⟩ (.int .i64 0)).cell? ⟨w.heap.size, 1, none⟩ = some (.slice none 0 0) := by rw [blk_cell HRS.out]; rfl
          have q2 : (w5.setCell ⟨gr, 1, none⟩ (.int .i64 0)).cell? ⟨w.heap.size, 2, none⟩ = some (.slice none 0 0) := by rw [blk_cell HRS.out]; rfl
          have qf0 := blk_frozen HRS.out 0
          have qf1 := blk_frozen HRS.out 1
          have qf2 := blk_frozen HRS.out 2
          have hk : Only w.heap.size (w5.setCell ⟨gr, 1, none⟩ (.int .i64 0)) ((((w5.setCell ⟨gr, 1, none⟩ (.int .i64 0)).setCell ⟨w.heap.size, 0, none⟩ (.int .i64 (K.length : Int))).setCell ⟨w.heap.size, 1, none⟩ (.slice A1 K.length c1)).setCell ⟨w.heap.size, 2, none⟩ (.slice (some ⟨gr, 0, none⟩) 6 cu)) := (((Only.refl _ _).setCell _).setCell _).setCell _
          have hIA := intsN_of (B := w.heap.size) (own_srcI hM6.out.a (by omega) hk) (by omega)
          obtain ⟨X9, _, hIU9⟩ := (hM6.out.x.only hk (by omega)).own (B := w0.heap.size) hz4
          have hIU := intsN_of (B := w.heap.size) hIU9 (by omega)
          have HEND := Lib.hid (And.intro hIA (And.intro hIU (And.intro (HSF.out.other hk hgl) ((hU0.trans HUF.out).newer hk (Nat.le_refl _)))))
          clear hk hIA hIU
          go_wp2_with fail
          (try simp only [Exit.inBlock, Exit.then])
          refine bodyPost_ret (results_cell_row rfl _ _ w.heap.size _ _ _ _ rfl (blk_set (blk_set (blk_set HRS.out 0 _) 1 _) 2 _) Tryz.underlying28 rfl infoMd) rfl ?_
          exact ⟨_, _, _, _, _, rfl, by omega, HEND.out.1, HEND.out.2.1, HEND.out.2.2.1, HEND.out.2.2.2⟩
        | false =>
          have HUF := Lib.hid hM5.out.o
          have HSF := Lib.hid hM5.out.s
          have HBF := Lib.hid hM5.out.m
          clear d0 d1 d2
          have d0f : w5.cell? ⟨pb, 0, none⟩ = some (.int .i64 (K.length : Int)) := by rw [blk_cell HBF.out]; rfl
          have d1f : w5.cell? ⟨pb, 1, none⟩ = some (.slice A1 K.length c1) := by rw [blk_cell HBF.out]; rfl
          have d2f : w5.cell? ⟨pb, 2, none⟩ = some (.slice (some ⟨gr, 0, none⟩) 6 cu) := by rw [blk_cell HBF.out]; rfl
          have HRS := Lib.hid (show w5.heap[w.heap.size]? = some (.cells #[.int .i64 0, .slice none 0 0, .slice none 0 0] 28 (0, 0)) from (HUF.out.block hz2 (by omega)).trans HB0.out)
          have q0 : w5.cell? ⟨w.heap.size, 0, none⟩ = some (.int .i64 0) := by rw [blk_cell HRS.out]; rfl
          have q1 : w5.cell? ⟨w.heap.size, 1, none⟩ = some (.slice none 0 0) := by rw [blk_cell HRS.out]; rfl
          have q2 : w5.cell? ⟨w.heap.size, 2, none⟩ = some (.slice none 0 0) := by rw [blk_cell HRS.out]; rfl
          have qf0 := blk_frozen HRS.out 0
          have qf1 := blk_frozen HRS.out 1
          have qf2 := blk_frozen HRS.out 2
          have hk : Only w.heap.size w5 (((w5.setCell ⟨w.heap.size, 0, none⟩ (.int .i64 (K.length : Int))).setCell ⟨w.heap.size, 1, none⟩ (.slice A1 K.length c1)).setCell ⟨w.heap.size, 2, none⟩ (.slice (some ⟨gr, 0, none⟩) 6 cu)) := (((Only.refl _ _).setCell _).setCell _).setCell _
          have hIA := intsN_of (B := w.heap.size) (own_srcI hM5.out.a (by omega) hk) (by omega)
          obtain ⟨X9, _, hIU9⟩ := (hM5.out.x.only hk (by omega)).own (B := w0.heap.size) hz4
          have hIU := intsN_of (B := w.heap.size) hIU9 (by omega)
          have HEND := Lib.hid (And.intro hIA (And.intro hIU (And.intro (HSF.out.other hk hgl) ((hU0.trans HUF.out).newer hk (Nat.le_refl _)))))
          clear hk hIA hIU
          go_wp2_with fail
          (try simp only [Exit.inBlock, Exit.then])
          refine bodyPost_ret (results_cell_row rfl _ _ w.heap.size _ _ _ _ rfl (blk_set (blk_set (blk_set HRS.out 0 _) 1 _) 2 _) Tryz.underlying28 rfl infoMd) rfl ?_
          exact ⟨_, _, _, _, _, rfl, by omega, HEND.out.1, HEND.out.2.1, HEND.out.2.2.1, HEND.out.2.2.2⟩
end Go.Proofs.YtjlnompmhgjaaaaGreat


/- A region that draws its order, shown by what each operation makes of what those made that it waits for: one proof an operation, whatever the order. -/
namespace Go.Proofs.YtjlnompmhgjaaaaGreat
open Go.RowKit

def AllOps (F : Nat → Oper → Prop) : Nat → List Oper → Prop
  | _, [] => True
  | k, o :: r => F k o ∧ AllOps F (k + 1) r
theorem allOps_at {F : Nat → Oper → Prop} : ∀ {l : List Oper} {k i : Nat} {o : Oper}, AllOps F k l → l[i]? = some o → F (k + i) o
  | [], _, i, o, _, hi => by simp at hi
  | x :: r, k, 0, o, h, hi => by
    simp only [List.getElem?_cons_zero, Option.some.injEq] at hi
    subst hi
    exact h.1
  | x :: r, k, i + 1, o, h, hi => by
    rw [List.getElem?_cons_succ] at hi
    have := allOps_at h.2 hi
    rwa [show k + (i + 1) = k + 1 + i by omega]
def dstV (a : Act) (o : Oper) : Value := match o.dst with | some t => a.tmps.getD t undef | none => undef
structure FlInv (ops : Array Oper) (T : Nat → World → Value → Prop) (S : World → Prop) (a0 : Act) (listed : Array Bool) (a : Act) (w : World) : Prop where
  s : S w
  d : a.defers = a0.defers
  z : a.tmps.size = a0.tmps.size
  l : listed.size = ops.size
  keep : ∀ (t : Tmp), (∀ (i : Nat) (o : Oper), ops[i]? = some o → o.dst ≠ some t) → a.tmps.getD t undef = a0.tmps.getD t undef
  done : ∀ (i : Nat) (o : Oper), ops[i]? = some o → listed.getD i false = true → T i w (dstV a o)
def FlOp (P : Program) (ops : Array Oper) (T : Nat → World → Value → Prop) (S : World → Prop) (a0 : Act) (Q : Exit → Act → World → Prop) (i : Nat) (o : Oper) : Prop :=
  ∀ a w, S w → (∀ e ∈ o.after, Region.binds .any e = true → ∀ (oe : Oper), ops[e.on]? = some oe → T e.on w (dstV a oe)) → (∀ (t : Tmp), (∀ (i : Nat) (o : Oper), ops[i]? = some o → o.dst ≠ some t) → a.tmps.getD t undef = a0.tmps.getD t undef) →
    o.wp P a w (fun a' w' => ∃ v, a' = a.put o.dst v ∧ S w' ∧ (∀ j u, j ≠ i → T j w u → T j w' u) ∧ T i w' (match o.dst with | some _ => v | none => undef)) Q
theorem getD_setT {listed : Array Bool} {i : Nat} (h : i < listed.size) (d : Bool) : (listed.setIfInBounds i true).getD i d = true := by simp [h]
theorem put_getD_ne {a : Act} {o : Option Tmp} {v : Value} {t : Tmp} (h : o ≠ some t) : (a.put o v).tmps.getD t undef = a.tmps.getD t undef := by
  cases o with
  | none => rfl
  | some s =>
    have hne : s ≠ t := fun e => h (by rw [e])
    simp [Act.put, Array.getElem?_setIfInBounds_ne hne]
theorem put_getD_eq {a : Act} {v : Value} {t : Tmp} (h : t < a.tmps.size) : (a.put (some t) v).tmps.getD t undef = v := by
  simp [Act.put, h]
theorem put_size {a : Act} {o : Option Tmp} {v : Value} : (a.put o v).tmps.size = a.tmps.size := by cases o <;> simp [Act.put]
theorem put_defers {a : Act} {o : Option Tmp} {v : Value} : (a.put o v).defers = a.defers := by cases o <;> simp [Act.put]
theorem FlInv.step {ops : Array Oper} {T : Nat → World → Value → Prop} {S : World → Prop} {a0 : Act} {listed : Array Bool} {a : Act} {w w' : World} {i : Nat} {o : Oper} {v : Value} (h : FlInv ops T S a0 listed a w) (hi : ops[i]? = some o)
    (hd : ∀ (i j : Nat) (oi oj : Oper) (t : Tmp), ops[i]? = some oi → ops[j]? = some oj → oi.dst = some t → oj.dst = some t → i = j) (hz : ∀ (i : Nat) (o : Oper) (t : Tmp), ops[i]? = some o → o.dst = some t → t < a0.tmps.size)
    (hS : S w') (hm : ∀ j u, j ≠ i → T j w u → T j w' u) (hT : T i w' (match o.dst with | some _ => v | none => undef)) : FlInv ops T S a0 (listed.setIfInBounds i true) (a.put o.dst v) w' := by
  refine ⟨hS, put_defers.trans h.d, put_size.trans h.z, by simpa using h.l, fun t ht => (put_getD_ne (ht i o hi)).trans (h.keep t ht), fun j oj hj hl => ?_⟩
  by_cases hij : i = j
  · subst hij
    obtain rfl : oj = o := Option.some.inj (hj.symm.trans hi)
    unfold dstV
    cases hdo : oj.dst with
    | none => rw [hdo] at hT; exact hT
    | some t =>
      rw [hdo] at hT
      have := put_getD_eq (a := a) (v := v) (t := t) (by rw [h.z]; exact hz i oj t hi hdo)
      show T i w' ((a.put (some t) v).tmps.getD t undef)
      rw [this]
      exact hT
  · rw [getD_set_ne false hij] at hl
    have h1 := hm j _ (Ne.symm hij) (h.done j oj hj hl)
    have e : dstV (a.put o.dst v) oj = dstV a oj := by
      unfold dstV
      cases hdo : oj.dst with
      | none => rfl
      | some t => exact put_getD_ne (fun he => hij (hd i j o oj t hi hj he hdo))
    rw [e]
    exact h1
theorem wpAny_flow {P : Program} {ops : Array Oper} {Q : Exit → Act → World → Prop} {T : Nat → World → Value → Prop} {S : World → Prop} {a0 : Act}
    (hg : ∀ (i : Nat) (o : Oper), ops[i]? = some o → o.guard = none) (hac : ∀ (i : Nat) (o : Oper), ops[i]? = some o → ∀ e ∈ o.after, Region.binds .any e = true → e.on < i)
    (hd : ∀ (i j : Nat) (oi oj : Oper) (t : Tmp), ops[i]? = some oi → ops[j]? = some oj → oi.dst = some t → oj.dst = some t → i = j) (hz : ∀ (i : Nat) (o : Oper) (t : Tmp), ops[i]? = some o → o.dst = some t → t < a0.tmps.size)
    (hop : ∀ (i : Nat) (o : Oper), ops[i]? = some o → FlOp P ops T S a0 Q i o)
    (hend : ∀ a w, S w → a.defers = a0.defers → (∀ (t : Tmp), (∀ (i : Nat) (o : Oper), ops[i]? = some o → o.dst ≠ some t) → a.tmps.getD t undef = a0.tmps.getD t undef) → (∀ (i : Nat) (o : Oper), ops[i]? = some o → T i w (dstV a o)) → Q .normal a w) :
    ∀ (fuel : Nat) (rem : List Nat) (listed : Array Bool) (a : Act) (w : World), rem.length ≤ fuel → (∀ i, i < ops.size → listed.getD i true = false → i ∈ rem) → FlInv ops T S a0 listed a w → wpAny P .any ops Q fuel listed a w := by
  have hall : ∀ listed a w, FlInv ops T S a0 listed a w → Region.ready .any ops listed = [] → Q .normal a w := by
    intro listed a w hI hr
    have hal : ∀ n i, i ≤ n → i < ops.size → listed.getD i false = true := by
      intro n
      induction n with
      | zero =>
        intro i h0 hi
        obtain rfl : i = 0 := by omega
        cases hl : listed.getD 0 true with
        | false =>
          exfalso
          have : 0 ∈ Region.ready .any ops listed := mem_ready.2 ⟨hl, ops[0], Array.getElem?_eq_getElem hi, fun e he hb => absurd (hac 0 _ (Array.getElem?_eq_getElem hi) e he hb) (by omega)⟩
          rw [hr] at this
          cases this
        | true =>
          have hlt : 0 < listed.size := by rw [hI.l]; exact hi
          simp [hlt] at hl ⊢
          exact hl
      | succ n ih =>
        intro i h0 hi
        by_cases hin : i ≤ n
        · exact ih i hin hi
        · obtain rfl : i = n + 1 := by omega
          cases hl : listed.getD (n + 1) true with
          | false =>
            exfalso
            have : n + 1 ∈ Region.ready .any ops listed := mem_ready.2 ⟨hl, ops[n + 1], Array.getElem?_eq_getElem hi, fun e he hb => by
              have h1 := hac (n + 1) _ (Array.getElem?_eq_getElem hi) e he hb
              exact ih e.on (by omega) (by omega)⟩
            rw [hr] at this
            cases this
          | true =>
            have hlt : n + 1 < listed.size := by rw [hI.l]; exact hi
            simp [hlt] at hl ⊢
            exact hl
    refine hend a w hI.s hI.d hI.keep fun i o hi => hI.done i o hi (hal i i (Nat.le_refl _) ?_)
    exact (Array.getElem?_eq_some_iff.1 hi).1
  intro fuel
  induction fuel with
  | zero =>
    intro rem listed a w hl hrem hI
    have h0 : rem = [] := List.length_eq_zero_iff.1 (by omega)
    have hr : Region.ready .any ops listed = [] := by
      cases hre : Region.ready .any ops listed with
      | nil => rfl
      | cons x xs =>
        have hx : x ∈ Region.ready .any ops listed := by rw [hre]; exact List.mem_cons_self ..
        obtain ⟨h1, o, h2, _⟩ := mem_ready.1 hx
        have := hrem x (Array.getElem?_eq_some_iff.1 h2).1 h1
        rw [h0] at this
        cases this
    exact ⟨hr, hall _ _ _ hI hr⟩
  | succ fuel ih =>
    intro rem listed a w hl hrem hI
    refine ⟨fun hr => hall _ _ _ hI hr, fun i hi => ?_⟩
    obtain ⟨h1, o, h2, h3⟩ := mem_ready.1 hi
    have hin := (Array.getElem?_eq_some_iff.1 h2).1
    unfold wpOp
    simp only [h2]
    have hw : Region.wanted o (yielded ops a.tmps) = true := by simp [Region.wanted, hg i o h2]
    rw [if_pos hw]
    refine .inl (Oper.wp_mono ?_ (hop i o h2 a w hI.s (fun e he hb oe hoe => hI.done e.on oe hoe (h3 e he hb)) hI.keep))
    rintro a' w' ⟨v, rfl, hS, hm, hT⟩
    refine ih (rem.erase i) _ _ _ ?_ ?_ (hI.step h2 hd hz hS hm hT)
    · have hmem := hrem i hin h1
      rw [List.length_erase_of_mem hmem]
      have := List.length_pos_of_mem hmem
      omega
    · intro j hj hjl
      by_cases hij : i = j
      · subst hij
        rw [getD_setT (by rw [hI.l]; exact hin)] at hjl
        cases hjl
      · rw [getD_set_ne true hij] at hjl
        exact (List.mem_erase_of_ne (Ne.symm hij)).2 (hrem j hj hjl)
theorem nodup_dst {oi oj : Oper} {t : Tmp} : ∀ (l : List Oper) (i j : Nat), (l.filterMap (·.dst)).Nodup → l[i]? = some oi → l[j]? = some oj → oi.dst = some t → oj.dst = some t → i = j := by
  intro l
  induction l with
  | nil => intro i j _ h _; simp at h
  | cons x r ih =>
    intro i j hn h3 h4 h1 h2
    have hr : (r.filterMap (·.dst)).Nodup := by
      cases hx : x.dst with
      | none => rw [List.filterMap_cons_none hx] at hn; exact hn
      | some s => rw [List.filterMap_cons_some hx] at hn; exact (List.nodup_cons.1 hn).2
    have hno : ∀ o ∈ r, x.dst = some t → o.dst = some t → False := fun o ho hx hot => by
      rw [List.filterMap_cons_some hx] at hn
      exact (List.nodup_cons.1 hn).1 (List.mem_filterMap.2 ⟨o, ho, hot⟩)
    cases i with
    | zero =>
      cases j with
      | zero => rfl
      | succ j =>
        simp only [List.getElem?_cons_zero, Option.some.injEq] at h3
        rw [List.getElem?_cons_succ] at h4
        subst h3
        exact (hno oj (List.mem_of_getElem? h4) h1 h2).elim
    | succ i =>
      rw [List.getElem?_cons_succ] at h3
      cases j with
      | zero =>
        simp only [List.getElem?_cons_zero, Option.some.injEq] at h4
        subst h4
        exact (hno oi (List.mem_of_getElem? h3) h2 h1).elim
      | succ j =>
        rw [List.getElem?_cons_succ] at h4
        rw [ih i j hr h3 h4 h1 h2]
theorem wp_region_flow {P : Program} {l : List Oper} {Q : Exit → Act → World → Prop} {id : Nat} {a0 : Act} {w : World} (T : Nat → World → Value → Prop) (S : World → Prop) (hmo : P.follows .mixedOrders = true) (hS : S w.drew)
    (hg : l.all (fun o => o.guard.isNone) = true) (hac : (l.zipIdx.all fun p => p.1.after.all fun e => !Region.binds .any e || decide (e.on < p.2)) = true)
    (hd : (l.filterMap (·.dst)).Nodup) (hz : (l.all fun o => match o.dst with | some t => decide (t < a0.tmps.size) | none => true) = true)
    (hop : AllOps (FlOp P l.toArray T S a0 Q) 0 l)
    (hend : ∀ a w, S w → a.defers = a0.defers → (∀ (t : Tmp), (∀ (i : Nat) (o : Oper), l.toArray[i]? = some o → o.dst ≠ some t) → a.tmps.getD t undef = a0.tmps.getD t undef) → (∀ (i : Nat) (o : Oper), l.toArray[i]? = some o → T i w (dstV a o)) → Q .normal a w) :
    (Code.region id l.toArray true).wp P Q a0 w := by
  refine wp_region_any hmo ?_
  have hsz : (Array.replicate l.toArray.size false).size = l.toArray.size := by simp
  refine wpAny_flow (T := T) (S := S) (a0 := a0) ?_ ?_ ?_ ?_ ?_ hend l.toArray.size (List.range l.toArray.size) _ a0 _ (by simp) (fun i hi _ => List.mem_range.2 hi) ⟨hS, rfl, rfl, hsz, fun _ _ => rfl, fun i o hi hl => ?_⟩
  · intro i o hi
    have hm : o ∈ l := List.mem_of_getElem? (by simpa using hi)
    have := List.all_eq_true.1 hg o hm
    simpa using this
  · intro i o hi e he hb
    have hi' : l[i]? = some o := by simpa using hi
    have hm : (o, i) ∈ l.zipIdx := List.mem_zipIdx_iff_getElem?.2 hi'
    have := List.all_eq_true.1 hac _ hm
    have h2 := Array.all_eq_true'.1 this e he
    rw [hb] at h2
    simpa using h2
  · intro i j oi oj t hi hj h1 h2
    have hi' : l[i]? = some oi := by simpa using hi
    have hj' : l[j]? = some oj := by simpa using hj
    exact nodup_dst l i j hd hi' hj' h1 h2
  · intro i o t hi ht
    have hm : o ∈ l := List.mem_of_getElem? (by simpa using hi)
    have := List.all_eq_true.1 hz o hm
    rw [ht] at this
    simpa using this
  · intro i o hi
    have := allOps_at hop (i := i) (o := o) (by simpa using hi)
    rwa [Nat.zero_add] at this
  · exfalso
    have hi' : l[i]? = some o := by simpa using hi
    have hlt := (List.getElem?_eq_some_iff.1 hi').1
    simp [hlt] at hl
end Go.Proofs.YtjlnompmhgjaaaaGreat


/- The source made: l01From; the damage: l01Damage. -/
namespace Go.Proofs.YtjlnompmhgjaaaaGreat
open Go.RowKit

def ArgB (w : World) (v : Value) (N : Nat) : Prop :=
  (∃ A c, v = .slice A N c) ∧ N ≤ 9223372036854775807 ∧ (0 < N → ∃ b o c, v = .slice (some ⟨b, o, none⟩) N c ∧ b < w.heap.size ∧ N ≤ c ∧ c ≤ 9223372036854775807 ∧ ∀ j, j < N → ∃ x : Int, 0 ≤ x ∧ x ≤ 255 ∧ w.cell? ⟨b, o + j, none⟩ = some (.int .u8 x))
theorem ArgB.code {w w' : World} {v : Value} {N g : Nat} (h : ArgB w v N) (hN : N ≤ 4096) (hg : Grew w w') (hl : w.heap.size ≤ g) : Code w' g v N := by
  obtain ⟨h1, _, h2⟩ := h
  refine ⟨hN, h1, fun hp => ?_⟩
  obtain ⟨b, o, c, e, hb, hc, hm, hx⟩ := h2 hp
  refine ⟨b, o, c, e, by omega, hc, hm, fun j hj => ?_⟩
  obtain ⟨x, x0, x1, hcell⟩ := hx j hj
  exact ⟨x, x0, x1, (hg.cell (p := ⟨b, o + j, none⟩) hb).trans hcell⟩

theorem l01From_c (v : Value) (N : Nat) (w : World) (h : ArgB w v N) (hN : N ≤ 4096) :
    Calls Tryz.prog 13 #[v] w fun e w' => ∃ g, e = .returned (.pointer (some ⟨g, 0, none⟩)) ∧ w.heap.size ≤ g ∧ Src w' g v N ∧ Grew w w' := by
  have HC := Lib.hid (fun w' (hg : Grew w w') => h.code hN hg (Nat.le_refl w.heap.size))
  obtain ⟨⟨A, c, rfl⟩, hmax, h2⟩ := h
  have H2 := Lib.hid h2
  clear h2
  go_enter Tryz.func13, Tryz.ntmps13
  go_wp2_with fail
  have hnew := fun o => blk_new w o
  go_loopw [4] (fun i wr => ∃ (j : Nat) (x : Int), j ≤ N ∧ i = .int .i64 j ∧ 0 ≤ x ∧ x ≤ 18446744073709551615 ∧ wr.heap[w.heap.size]? = some (.cells #[.slice A N c, .int .i64 0, .int .u64 x] 61 (0, 0)) ∧ Grew w wr) (fun i _ => N - (intOf i).toNat)
  case atStart => exact ⟨0, _, Nat.zero_le _, rfl, by omega, by omega, hnew _, (Grew.refl w).alloc _⟩
  case round =>
    obtain ⟨j, x, hj, rfl, hx0, hx1, hb, hB⟩ := hrel
    by_cases hlt : j < N
    · obtain ⟨b, o, c', e, hbg, hc, hm, hx⟩ := H2.out (by omega)
      obtain ⟨y, hy0, hy1, k1⟩ := hx j hlt
      obtain ⟨rfl, rfl⟩ : A = some ⟨b, o, none⟩ ∧ c = c' := by simpa using e
      have k2 := (hB.cell (p := ⟨b, o + j, none⟩) hbg).trans k1
      have c2 : wr.cell? ⟨w.heap.size, 2, none⟩ = some (.int .u64 x) := by rw [blk_cell hb]; rfl
      have f2 := blk_frozen hb 2
      have HB := Lib.hid hb
      have h4 : (j : Int) < 4096 := by omega
      clear hb e hx k1
      go_wp2_with fail
      have hw0 : ∀ z : Int, 0 ≤ IntKind.u64.wrap z := fun z => by rw [IntKind.wrap_u64]; omega
      have hw1 : ∀ z : Int, IntKind.u64.wrap z ≤ 18446744073709551615 := fun z => by rw [IntKind.wrap_u64]; omega
      have HW0 := Lib.hid hw0
      have HW1 := Lib.hid hw1
      clear hw0 hw1
      go_region
      go_wp2_with fail
      go_roundw
      case rel => exact ⟨j + 1, _, by omega, by go_num, HW0.out _, HW1.out _, blk_set (w := wr.drewN _) HB.out 2 _, (hB.drewN _).setCell (Nat.le_refl _) _⟩
      case measure => simp [intOf]; omega
    · go_wp2_with fail
      go_ret
      exact ⟨_, rfl, Nat.le_refl _, ⟨HC.out _ hB, 0, x, Nat.zero_le _, hx0, hx1, hb⟩, hB⟩
end Go.Proofs.YtjlnompmhgjaaaaGreat


/- The bytes that came in: as before in a later world; are they many? -/
namespace Go.Proofs.YtjlnompmhgjaaaaGreat
open Go.RowKit

theorem ArgB.grew {w W : World} {v : Value} {N : Nat} (h : ArgB w v N) (hW : Grew w W) : ArgB W v N := by
  obtain ⟨h1, h2, h3⟩ := h
  refine ⟨h1, h2, fun hp => ?_⟩
  obtain ⟨b, o, c, e, hb, hc, hm, hx⟩ := h3 hp
  refine ⟨b, o, c, e, Nat.lt_of_lt_of_le hb hW.size, hc, hm, fun j hj => ?_⟩
  obtain ⟨x, x0, x1, hcell⟩ := hx j hj
  exact ⟨x, x0, x1, (hW.cell (p := ⟨b, o + j, none⟩) hb).trans hcell⟩
theorem big_c (v : Value) (N : Nat) (w : World) (h : ∃ A c, v = .slice A N c) :
    Calls Tryz.prog 4 #[v] w fun e w' => e = .returned (.bool (decide (4096 < N))) ∧ Grew w w' := by
  obtain ⟨A, c, rfl⟩ := h
  by_cases hb : 4096 < N
  · rw [decide_eq_true hb]
    go_enter Tryz.func4, Tryz.ntmps4
    go_wp2_with fail
    go_ret
    exact ⟨by simp; omega, Grew.refl _⟩
  · rw [decide_eq_false hb]
    go_enter Tryz.func4, Tryz.ntmps4
    go_wp2_with fail
    go_ret
    exact ⟨by simp; omega, Grew.refl _⟩
end Go.Proofs.YtjlnompmhgjaaaaGreat


/- DrawWorldFormula of the reference: a region that draws its order, by the law of such regions. -/
namespace Go.Proofs.YtjlnompmhgjaaaaGreat
open Go.RowKit

inductive Ke | any | src | mdl | ptr | wld | num | row (n : Nat) | res
def tyE (g rb pb B : Nat) (n : Int) (va vu : Value) : Ke → World → Value → Prop
  | .any, _, _ => True
  | .src, _, v => v = .pointer (some ⟨g, 0, none⟩)
  | .mdl, _, v => v = .agg #[.int .i64 n, va, vu]
  | .ptr, _, v => v = .pointer (some ⟨pb, 0, none⟩)
  | .wld, _, v => v = .int .i64 n
  | .num, _, v => ∃ r : Int, v = .int .i64 r
  | .row k, w, v => ∃ b, v = .slice (some ⟨b, 0, none⟩) k k ∧ B ≤ b ∧ RowX w b k k
  | .res, w, _ => w.heap[rb]? = some (.cells #[.int .i64 n, va, vu] 28 (0, 0))
def Ke.isRes : Ke → Bool
  | .res => true
  | _ => false
theorem isResE {k : Ke} (h : k.isRes = true) : k = .res := by cases k <;> first | rfl | cases h
theorem RowX.keep {w w' : World} {b n c : Nat} (h : RowX w b n c) (hk : w'.heap[b]? = w.heap[b]?) : RowX w' b n c := by
  obtain ⟨cur, h1, h2⟩ := h
  exact ⟨cur, hk.trans h1, h2⟩
section
variable {g rb pb B : Nat} {n : Int} {va vu : Value} {w w' : World}
theorem tyE_kp2 (hk : ∀ b, B ≤ b → b < w.heap.size → w'.heap[b]? = w.heap[b]?) : ∀ (k : Ke) (v : Value), k.isRes = false → tyE g rb pb B n va vu k w v → tyE g rb pb B n va vu k w' v
  | .any, _, _, h => h
  | .src, _, _, h => h
  | .mdl, _, _, h => h
  | .ptr, _, _, h => h
  | .wld, _, _, h => h
  | .num, _, _, h => h
  | .row _, _, _, ⟨b, h1, h2, h3⟩ => ⟨b, h1, h2, h3.keep (hk b h2 h3.lt)⟩
  | .res, _, he, _ => by cases he
theorem tyE_kp (hk : ∀ b, B ≤ b → b < w.heap.size → w'.heap[b]? = w.heap[b]?) (hr : w'.heap[rb]? = w.heap[rb]?) : ∀ (k : Ke) (v : Value), tyE g rb pb B n va vu k w v → tyE g rb pb B n va vu k w' v
  | .any, _, h => h
  | .src, _, h => h
  | .mdl, _, h => h
  | .ptr, _, h => h
  | .wld, _, h => h
  | .num, _, h => h
  | .row _, _, ⟨b, h1, h2, h3⟩ => ⟨b, h1, h2, h3.keep (hk b h2 h3.lt)⟩
  | .res, _, h => hr.trans h
end
structure SE (g rb pb B D : Nat) (cv : Value) (N : Nat) (w0 : World) (n : Int) (va vu : Value) (K X : List Int) (w : World) : Prop where
  src : Src w g cv N
  gr : Grew w0 w
  size : B ≤ w.heap.size
  st : w0.heap.size ≤ rb ∧ rb < D ∧ g < D ∧ D ≤ pb ∧ pb < B ∧ rb < g ∧ w0.heap.size ≤ g
  box : w.heap[pb]? = some (.cells #[.int .i64 n, va, vu] 28 (0, 0))
  res : ∃ x y z, w.heap[rb]? = some (.cells #[x, y, z] 28 (0, 0))
  ia : IntsN w D va K
  iu : IntsN w D vu X
section
variable {g rb pb B D : Nat} {cv : Value} {N : Nat} {w0 : World} {n : Int} {va vu : Value} {K X : List Int} {w w' : World}
theorem SE.on (h : SE g rb pb B D cv N w0 n va vu K X w) (hs : Src w' g cv N) (ho : Only g w w') : SE g rb pb B D cv N w0 n va vu K X w' := by
  obtain ⟨h1, h2, h3, h4, h5, h6, h7⟩ := h.st
  obtain ⟨x, y, z, hr⟩ := h.res
  exact ⟨hs, ho.grew_of h.gr h7, Nat.le_trans h.size ho.size, h.st, (ho.block (blk_lt' h.box) (by omega)).trans h.box, ⟨x, y, z, (ho.block (blk_lt' hr) (by omega)).trans hr⟩, h.ia.only ho h3 (Nat.le_refl _), h.iu.only ho h3 (Nat.le_refl _)⟩
theorem SE.grew (h : SE g rb pb B D cv N w0 n va vu K X w) (hg : Grew w w') : SE g rb pb B D cv N w0 n va vu K X w' := h.on (h.src.grew hg) hg.only
theorem SE.kg (h : SE g rb pb B D cv N w0 n va vu K X w) (ho : Only g w w') : (∀ b, B ≤ b → b < w.heap.size → w'.heap[b]? = w.heap[b]?) ∧ w'.heap[rb]? = w.heap[rb]? := by
  obtain ⟨h1, h2, h3, h4, h5, h6, h7⟩ := h.st
  obtain ⟨x, y, z, hr⟩ := h.res
  exact ⟨fun b hb hl => ho.block hl (by omega), ho.block (blk_lt' hr) (by omega)⟩
end
def TE (g rb pb B : Nat) (n : Int) (va vu : Value) (ks : List Ke) (j : Nat) (w : World) (u : Value) : Prop := tyE g rb pb B n va vu (ks.getD j .any) w u
section
variable {g rb pb B D : Nat} {cv : Value} {N : Nat} {w0 : World} {n : Int} {va vu : Value} {K X : List Int} {w : World} {ks : List Ke} {i : Nat} {o : Oper} {a : Act} {Q : Exit → Act → World → Prop} {t : Tmp}
def FE (g rb pb B D : Nat) (cv : Value) (N : Nat) (w0 : World) (n : Int) (va vu : Value) (K X : List Int) (ks : List Ke) (i : Nat) (o : Oper) (a : Act) (w : World) (a' : Act) (w' : World) : Prop :=
  ∃ v, a' = a.put o.dst v ∧ SE g rb pb B D cv N w0 n va vu K X w' ∧ (∀ j u, j ≠ i → TE g rb pb B n va vu ks j w u → TE g rb pb B n va vu ks j w' u) ∧ TE g rb pb B n va vu ks i w' (match o.dst with | some _ => v | none => undef)
theorem fe_post {w' : World} {v : Value} {k : Ke} (hS : SE g rb pb B D cv N w0 n va vu K X w') (hkp : (∀ b, B ≤ b → b < w.heap.size → w'.heap[b]? = w.heap[b]?) ∧ w'.heap[rb]? = w.heap[rb]?) (hd : o.dst = some t) (hk : ks.getD i .any = k) (hv : tyE g rb pb B n va vu k w' v) : FE g rb pb B D cv N w0 n va vu K X ks i o a w (a.put o.dst v) w' := by
  refine ⟨v, rfl, hS, fun j u _ h => tyE_kp hkp.1 hkp.2 _ _ h, ?_⟩
  rw [hd]
  show tyE g rb pb B n va vu (ks.getD i .any) w' v
  rw [hk]
  exact hv
theorem fe_val {v : Value} {w' : World} {K : Act → World → Prop} (hr : (execOp a.eval o).run Tryz.prog w = .ok (.value v) w') (hK : K (a.put o.dst v) w') : o.wp Tryz.prog a w K Q := by
  unfold Oper.wp
  rw [hr]
  exact hK
theorem fe_call {f : FuncId} {args : Array Operand} {vals : Array Value} {at_ : Array TypeId} {K : Act → World → Prop} (ho : o.op = .call { callee := .value (.func f), args := args, argTypes := at_ }) (he : Enters Tryz.prog f) (hv : args.map a.eval = vals)
    (hc : Calls Tryz.prog f vals w (fun e w' => ∃ u, e = .returned u ∧ K (a.put o.dst u) w')) : o.wp Tryz.prog a w K Q := by
  have hr : (execOp a.eval o).run Tryz.prog w = .ok (.enter f vals) w := by
    unfold execOp
    simp only [ho]
    have := he (args.map a.eval) w
    rw [hv] at this
    simpa [resolve, Deferred.ofValue, invoke, Act.eval, hv] using this
  unfold Oper.wp
  rw [hr]
  refine Calls.mono hc ?_
  rintro e w' ⟨u, rfl, h⟩
  exact h
theorem fe_same : (∀ b, B ≤ b → b < w.heap.size → w.heap[b]? = w.heap[b]?) ∧ w.heap[rb]? = w.heap[rb]? := ⟨fun _ _ _ => rfl, rfl⟩
theorem fe_mv {x : Operand} {k : Ke} (ho : o.op = .move x ∨ o.op = .assign x) (hS : SE g rb pb B D cv N w0 n va vu K X w) (hd : o.dst = some t) (hk : ks.getD i .any = k) (hx : tyE g rb pb B n va vu k w (a.eval x)) : o.wp Tryz.prog a w (FE g rb pb B D cv N w0 n va vu K X ks i o a w) Q := by
  have hr : (execOp a.eval o).run Tryz.prog w = .ok (.value (a.eval x)) w := by
    unfold execOp
    rcases ho with h | h <;> simp [h]
  exact fe_val hr (fe_post hS fe_same hd hk hx)
theorem fe_ldm {x : Operand} (ho : o.op = .load 28 x) (hS : SE g rb pb B D cv N w0 n va vu K X w) (hd : o.dst = some t) (hk : ks.getD i .any = .mdl) (hx : tyE g rb pb B n va vu .ptr w (a.eval x)) : o.wp Tryz.prog a w (FE g rb pb B D cv N w0 n va vu K X ks i o a w) Q := by
  have hx' : a.eval x = .pointer (some ⟨pb, 0, none⟩) := hx
  have hr : (execOp a.eval o).run Tryz.prog w = .ok (.value (.agg #[.int .i64 n, va, vu])) w := by
    have c0 : w.cell? ⟨pb, 0, none⟩ = some (.int .i64 n) := (blk_cell hS.box 0).trans rfl
    have c1 : w.cell? ⟨pb, 1, none⟩ = some va := (blk_cell hS.box 1).trans rfl
    have c2 : w.cell? ⟨pb, 2, none⟩ = some vu := (blk_cell hS.box 2).trans rfl
    obtain ⟨A1, d1, rfl⟩ := ints_slice hS.ia.ints
    obtain ⟨A2, d2, rfl⟩ := ints_slice hS.iu.ints
    unfold execOp
    simp only [ho, hx']
    clear hx hx'
    go_simp
  exact fe_val hr (fe_post hS fe_same hd hk rfl)
theorem fe_fa {x : Operand} {ty : TypeId} (ho : o.op = .fieldAddr ty x 0) (hty : ty = 28 ∨ ty = 26) (hS : SE g rb pb B D cv N w0 n va vu K X w) (hd : o.dst = some t) (hk : ks.getD i .any = .ptr) (hx : tyE g rb pb B n va vu .ptr w (a.eval x)) : o.wp Tryz.prog a w (FE g rb pb B D cv N w0 n va vu K X ks i o a w) Q := by
  have hx' : a.eval x = .pointer (some ⟨pb, 0, none⟩) := hx
  have hr : (execOp a.eval o).run Tryz.prog w = .ok (.value (.pointer (some ⟨pb, 0, none⟩))) w := by
    unfold execOp
    simp only [ho, hx']
    clear hx hx'
    rcases hty with rfl | rfl <;> go_simp
  exact fe_val hr (fe_post hS fe_same hd hk rfl)
theorem fe_ldw {x : Operand} (ho : o.op = .load 2 x) (hS : SE g rb pb B D cv N w0 n va vu K X w) (hd : o.dst = some t) (hk : ks.getD i .any = .wld) (hx : tyE g rb pb B n va vu .ptr w (a.eval x)) : o.wp Tryz.prog a w (FE g rb pb B D cv N w0 n va vu K X ks i o a w) Q := by
  have hx' : a.eval x = .pointer (some ⟨pb, 0, none⟩) := hx
  have hr : (execOp a.eval o).run Tryz.prog w = .ok (.value (.int .i64 n)) w := by
    have c0 : w.cell? ⟨pb, 0, none⟩ = some (.int .i64 n) := (blk_cell hS.box 0).trans rfl
    unfold execOp
    simp only [ho, hx']
    clear hx hx'
    go_simp
  exact fe_val hr (fe_post hS fe_same hd hk rfl)
theorem fe_num {x y : Operand} {at_ : Array TypeId} (ho : o.op = .call { callee := .value (.func 15), args := #[x, y], argTypes := at_ }) (he : Enters Tryz.prog 15) (hn : n ≤ 100)
    (hS : SE g rb pb B D cv N w0 n va vu K X w) (hd : o.dst = some t) (hk : ks.getD i .any = .num) (hx : tyE g rb pb B n va vu .src w (a.eval x)) (hy : tyE g rb pb B n va vu .wld w (a.eval y)) : o.wp Tryz.prog a w (FE g rb pb B D cv N w0 n va vu K X ks i o a w) Q := by
  refine fe_call ho he (vals := #[.pointer (some ⟨g, 0, none⟩), .int .i64 n]) (by rw [← show a.eval x = _ from hx, ← show a.eval y = _ from hy]; simp) ?_
  refine (l01Number_c g cv N n w hS.src (by omega)).mono ?_
  rintro e w' ⟨r, rfl, hs, ho'⟩
  exact ⟨_, rfl, fe_post (hS.on hs ho') (hS.kg ho') hd hk ⟨r, rfl⟩⟩
theorem fe_pick {m : Nat} {x y : Operand} {at_ : Array TypeId} (ho : o.op = .call { callee := .value (.func 16), args := #[x, y], argTypes := at_ }) (he : Enters Tryz.prog 16) (hm : 1 ≤ m ∧ m ≤ 100)
    (hS : SE g rb pb B D cv N w0 n va vu K X w) (hd : o.dst = some t) (hk : ks.getD i .any = .num) (hx : tyE g rb pb B n va vu .src w (a.eval x)) (hy : tyE g rb pb B n va vu (.row m) w (a.eval y)) : o.wp Tryz.prog a w (FE g rb pb B D cv N w0 n va vu K X ks i o a w) Q := by
  obtain ⟨b, h1, h2, h3⟩ := hy
  obtain ⟨s1, s2, s3, s4, s5, s6, s7⟩ := hS.st
  refine fe_call ho he (vals := #[.pointer (some ⟨g, 0, none⟩), .slice (some ⟨b, 0, none⟩) m m]) (by rw [← show a.eval x = _ from hx, ← h1]; simp) ?_
  refine (l01PickN_c g cv N b m w hS.src h3.lt (by omega) hm.1 hm.2 (fun j hj => h3.cell hj)).mono ?_
  rintro e w' ⟨r, rfl, hs, ho'⟩
  exact ⟨_, rfl, fe_post (hS.on hs ho') (hS.kg ho') hd hk ⟨r, rfl⟩⟩
theorem fe_lit {m : Nat} {cs : Array Value} (hr : (execOp a.eval o).run Tryz.prog w = .ok (.value (.slice (some ⟨w.heap.size, 0, none⟩) m m)) (w.alloc (.cells cs 2)))
    (hS : SE g rb pb B D cv N w0 n va vu K X w) (hd : o.dst = some t) (hk : ks.getD i .any = .row m) (hm : m ≤ 100) (hz : cs.size = m) (hcs : ∀ i, i < m → ∃ x : Int, cs[i]? = some (.int .i64 x)) : o.wp Tryz.prog a w (FE g rb pb B D cv N w0 n va vu K X ks i o a w) Q := by
  have hg := (Grew.refl w).alloc (.cells cs 2)
  exact fe_val hr (fe_post (hS.grew hg) (hS.kg hg.only) hd hk ⟨w.heap.size, rfl, hS.size, cs, blk_new w _, ⟨Nat.le_refl _, by omega, hz⟩, hcs⟩)
theorem fe_st {p x : Operand} (hCo : ∀ W, Grew w0 W → Go.Proofs.YtjlnompmhgjaaaaGreat.Code W g cv N) (ho : o.op = .store 28 p x) (hS : SE g rb pb B D cv N w0 n va vu K X w) (hd : o.dst = none) (hk : (ks.getD i .any).isRes = true) (hk2 : ∀ j, j ≠ i → (ks.getD j .any).isRes = false) (hp : a.eval p = .pointer (some ⟨rb, 0, none⟩)) (hx : tyE g rb pb B n va vu .mdl w (a.eval x)) : o.wp Tryz.prog a w (FE g rb pb B D cv N w0 n va vu K X ks i o a w) Q := by
  obtain ⟨A1, d1, rfl⟩ := ints_slice hS.ia.ints
  obtain ⟨A2, d2, rfl⟩ := ints_slice hS.iu.ints
  obtain ⟨y1, y2, y3, hR⟩ := hS.res
  have hx' : a.eval x = .agg #[.int .i64 n, .slice A1 K.length d1, .slice A2 X.length d2] := hx
  have hb : (Instr.storeAt 28 (.pointer (some ⟨rb, 0, none⟩)) (.agg #[.int .i64 n, .slice A1 K.length d1, .slice A2 X.length d2])).run Tryz.prog w = .ok () (((w.setCell ⟨rb, 0, none⟩ (.int .i64 n)).setCell ⟨rb, 1, none⟩ (.slice A1 K.length d1)).setCell ⟨rb, 2, none⟩ (.slice A2 X.length d2)) := by
    have q0 : w.cell? ⟨rb, 0, none⟩ = some y1 := (blk_cell hR 0).trans rfl
    have q1 : w.cell? ⟨rb, 1, none⟩ = some y2 := (blk_cell hR 1).trans rfl
    have q2 : w.cell? ⟨rb, 2, none⟩ = some y3 := (blk_cell hR 2).trans rfl
    have f0 := blk_frozen hR 0
    have f1 := blk_frozen hR 1
    have f2 := blk_frozen hR 2
    clear hR hx hx' hp
    go_simp
  have hr : (execOp a.eval o).run Tryz.prog w = .ok .skip (((w.setCell ⟨rb, 0, none⟩ (.int .i64 n)).setCell ⟨rb, 1, none⟩ (.slice A1 K.length d1)).setCell ⟨rb, 2, none⟩ (.slice A2 X.length d2)) := by
    unfold execOp
    simp only [ho, hp, hx']
    simp [hb]
  have hO : Only rb w (((w.setCell ⟨rb, 0, none⟩ (.int .i64 n)).setCell ⟨rb, 1, none⟩ (.slice A1 K.length d1)).setCell ⟨rb, 2, none⟩ (.slice A2 X.length d2)) := (((Only.refl _ _).setCell _).setCell _).setCell _
  have hB2 := blk_set (blk_set (blk_set hR 0 (.int .i64 n)) 1 (.slice A1 K.length d1)) 2 (.slice A2 X.length d2)
  generalize ((w.setCell ⟨rb, 0, none⟩ (.int .i64 n)).setCell ⟨rb, 1, none⟩ (.slice A1 K.length d1)).setCell ⟨rb, 2, none⟩ (.slice A2 X.length d2) = w' at *
  obtain ⟨s1, s2, s3, s4, s5, s6, s7⟩ := hS.st
  have hkp : ∀ b, B ≤ b → b < w.heap.size → w'.heap[b]? = w.heap[b]? := fun b hb hl => hO.block hl (by omega)
  have hsrc : Src w' g cv N := by
    obtain ⟨hC, i0, x0, h2, h3, h4, h5⟩ := hS.src
    exact ⟨hCo _ (hO.grew_of hS.gr s1), i0, x0, h2, h3, h4, (hO.block (blk_lt' h5) (by omega)).trans h5⟩
  unfold Oper.wp
  rw [hr]
  refine ⟨undef, rfl, ⟨hsrc, hO.grew_of hS.gr s1, Nat.le_trans hS.size hO.size, hS.st, (hO.block (blk_lt' hS.box) (by omega)).trans hS.box, ⟨_, _, _, hB2⟩, hS.ia.only hO s2 (Nat.le_refl _), hS.iu.only hO s2 (Nat.le_refl _)⟩, fun j u hj h => tyE_kp2 hkp _ _ (hk2 j hj) h, ?_⟩
  rw [hd]
  show tyE g rb pb B n _ _ (ks.getD i .any) w' undef
  rw [isResE hk]
  exact hB2
end
theorem not_dstE {l : List Oper} {t : Tmp} (h : (l.all fun o => !(o.dst == some t)) = true) : ∀ (i : Nat) (o : Oper), l.toArray[i]? = some o → o.dst ≠ some t := by
  intro i o hi he
  have hm : o ∈ l := List.mem_of_getElem? (by simpa using hi)
  have := List.all_eq_true.1 h o hm
  rw [he] at this
  simp at this
theorem results_cell_tmp3 {P : Program} {fn : Func} {p u v z : Tmp} {ty : TypeId} (h : fn.results = #[.cell p ty, .tmp u, .tmp v, .tmp z]) (tmps : Array Value) (w : World) (g : Nat) (t : TypeId) (cs : Array Value) (fr : Nat × Nat) (d : TypeDesc)
    (hp : tmps.getD p undef = .pointer (some ⟨g, 0, none⟩)) (hg : w.heap[g]? = some (.cells cs t fr))
    (hu : P.underlying ty = some d) (hd : (match d with | .struct _ | .array _ _ => true | _ => false) = true) (hi : (P.info? ty).map (·.size) = some cs.size) :
    (results fn tmps).run P w = .ok (.tuple #[.agg cs, tmps.getD u undef, tmps.getD v undef, tmps.getD z undef]) w := by
  have hp' : tmps[p]?.getD undef = .pointer (some ⟨g, 0, none⟩) := by simpa using hp
  simp [results, h, hp', asAddr, run_loadVar_row w g t ty cs fr d hg hu hd hi]
theorem noRes {ks : List Ke} {i : Nat} (h2 : (ks.zipIdx.all fun p => p.2 == i || !p.1.isRes) = true) : ∀ j, j ≠ i → (ks.getD j .any).isRes = false := by
  intro j hj
  cases hjk : ks[j]? with
  | none => rw [List.getD_eq_getElem?_getD, hjk]; rfl
  | some k =>
    have := List.all_eq_true.1 h2 (k, j) (List.mem_zipIdx_iff_getElem?.2 hjk)
    rw [List.getD_eq_getElem?_getD, hjk]
    have hne : (j == i) = false := by simpa using hj
    rw [hne] at this
    simpa using this
theorem ENum : Enters Tryz.prog 15 := enters_of Tryz.func15 (by kernel_rfl) rfl
theorem EPick : Enters Tryz.prog 16 := enters_of Tryz.func16 (by kernel_rfl) rfl
def GivesDw (w : World) (e : Ending) (w' : World) : Prop := ∃ (n : Int) (va vu : Value) (L X : List Int) (x k nv : Int), e = .returned (.tuple #[.agg #[.int .i64 n, va, vu], .int .i64 x, .int .i64 k, .int .i64 nv]) ∧ Ints w' va L ∧ Ints w' vu X ∧ Grew w w'
set_option maxHeartbeats 4000000 in
set_option maxRecDepth 100000 in
theorem drawWf_c (v : Value) (N : Nat) (w : World) (h : ArgB w v N) (hN : N ≤ 4096) :
    Calls Tryz.prog 5 #[v] w (GivesDw w) := by
  have HF := Lib.hid (fun W (hW : Grew w W) => l01From_c v N W (h.grew hW) hN)
  have HB0 := Lib.hid (blk_new w (.cells #[.int .i64 0, .slice none 0 0, .slice none 0 0] 28))
  have hg0 := (Grew.refl w).alloc (.cells #[.int .i64 0, .slice none 0 0, .slice none 0 0] 28)
  have hsz0 : (w.alloc (.cells #[.int .i64 0, .slice none 0 0, .slice none 0 0] 28)).heap.size = w.heap.size + 1 := by simp
  have HSZ := Lib.hid hsz0
  obtain ⟨w0, hw0⟩ : ∃ w0, w0 = w.alloc (.cells #[.int .i64 0, .slice none 0 0, .slice none 0 0] 28) := ⟨_, rfl⟩
  rw [← hw0] at HB0 HSZ hg0
  have HCD := Lib.hid (fun g (hg : w.heap.size ≤ g) W (hW : Grew w W) => h.code hN hW hg)
  clear h hsz0
  go_enter Tryz.func5, Tryz.ntmps5
  go_wp2_with fail
  simp only [← hw0]
  clear hw0
  refine (HF.out _ hg0).mono ?_
  rintro e w1 ⟨g, rfl, hgw, hS1, hg1⟩
  have HS1 := Lib.hid hS1
  have hgl := hS1.lt
  clear hS1 HF
  go_wp2_with fail
  refine (l07Model_c g v N w1 HS1.out).mono ?_
  rintro e w2 ⟨n, va, vu, K, X, rfl, hn, hA, hX, hS2, ho2⟩
  obtain ⟨A1, c1, rfl⟩ := intsN_slice hA
  obtain ⟨A2, c2, rfl⟩ := intsN_slice hX
  obtain ⟨w3, hw3⟩ : ∃ w3, w3 = w2.alloc (.cells #[.int .i64 n, .slice A1 K.length c1, .slice A2 X.length c2] 28) := ⟨_, rfl⟩
  have hga : Grew w2 w3 := by rw [hw3]; exact (Grew.refl w2).alloc _
  have hbx : w3.heap[w2.heap.size]? = some (.cells #[.int .i64 n, .slice A1 K.length c1, .slice A2 X.length c2] 28 (0, 0)) := by rw [hw3]; exact blk_new w2 _
  have hs3 : w3.heap.size = w2.heap.size + 1 := by rw [hw3]; simp
  have hgw1 := (hg0.trans hg1)
  have hU3 := ho2.grew hga
  have HSE : Hid (SE g w.heap.size w2.heap.size w3.heap.size w1.heap.size v N w n (.slice A1 K.length c1) (.slice A2 X.length c2) K X w3) := Lib.hid
    ⟨hS2.grew hga, hU3.grew_of hgw1 (by have := HSZ.out; omega), Nat.le_refl _, ⟨Nat.le_refl _, by have := HSZ.out; have := hg1.size; omega, hgl, ho2.size, by omega, by have := HSZ.out; omega, by have := HSZ.out; omega⟩, hbx,
      ⟨_, _, _, (hU3.block (k := w.heap.size) (by have := HSZ.out; have := hg1.size; omega) (by have := HSZ.out; omega)).trans ((hg1.block (k := w.heap.size) (by have := HSZ.out; omega)).trans HB0.out)⟩, hA.only (hga.only (g := 0)) (by have := HSZ.out; have := hg1.size; omega) (Nat.le_refl _), hX.only (hga.only (g := 0)) (by have := HSZ.out; have := hg1.size; omega) (Nat.le_refl _)⟩
  have HCo := Lib.hid (HCD.out g (by have := HSZ.out; omega))
  clear hA hX hS2 ho2 HS1 hU3 hga hbx hs3 hgw1 HCD
  go_wp2_with fail
  simp only [← hw3]
  clear hw3
  refine wp_region_flow (TE g w.heap.size w2.heap.size w3.heap.size n (.slice A1 K.length c1) (.slice A2 X.length c2) [.mdl, .src, .ptr, .ptr, .wld, .num, .src, .row 7, .num, .src, .row 6, .num, .res, .num, .num, .num]) (SE g w.heap.size w2.heap.size w3.heap.size w1.heap.size v N w n (.slice A1 K.length c1) (.slice A2 X.length c2) K X) (by kernel_rfl) (HSE.out.grew (Grew.refl w3).drew) (by rfl) (by kernel_rfl) (by decide) (by rfl) ?hop ?hend
  case hop =>
    refine ⟨?_, ?_, ?_, ?_, ?_, ?_, ?_, ?_, ?_, ?_, ?_, ?_, ?_, ?_, ?_, ?_, trivial⟩
    · intro a W hS hd hk
      have h1 : tyE g w.heap.size w2.heap.size w3.heap.size n (.slice A1 K.length c1) (.slice A2 X.length c2) .ptr W (a.tmps.getD 7 undef) := hk 7 (not_dstE (by rfl))
      exact fe_ldm rfl hS rfl rfl h1
    · intro a W hS hd hk
      have h1 : tyE g w.heap.size w2.heap.size w3.heap.size n (.slice A1 K.length c1) (.slice A2 X.length c2) .src W (a.tmps.getD 6 undef) := hk 6 (not_dstE (by rfl))
      exact fe_mv (.inl rfl) hS rfl rfl h1
    · intro a W hS hd hk
      have h1 : tyE g w.heap.size w2.heap.size w3.heap.size n (.slice A1 K.length c1) (.slice A2 X.length c2) .ptr W (a.tmps.getD 7 undef) := hk 7 (not_dstE (by rfl))
      exact fe_fa rfl (.inl rfl) hS rfl rfl h1
    · intro a W hS hd hk
      have h1 : tyE g w.heap.size w2.heap.size w3.heap.size n (.slice A1 K.length c1) (.slice A2 X.length c2) .ptr W (a.tmps.getD 14 undef) := hd ⟨2, .data⟩ (by simp) rfl _ rfl
      exact fe_fa rfl (.inr rfl) hS rfl rfl h1
    · intro a W hS hd hk
      have h1 : tyE g w.heap.size w2.heap.size w3.heap.size n (.slice A1 K.length c1) (.slice A2 X.length c2) .ptr W (a.tmps.getD 15 undef) := hd ⟨3, .data⟩ (by simp) rfl _ rfl
      exact fe_ldw rfl hS rfl rfl h1
    · intro a W hS hd hk
      have h1 : tyE g w.heap.size w2.heap.size w3.heap.size n (.slice A1 K.length c1) (.slice A2 X.length c2) .src W (a.tmps.getD 13 undef) := hd ⟨1, .data⟩ (by simp) rfl _ rfl
      have h2 : tyE g w.heap.size w2.heap.size w3.heap.size n (.slice A1 K.length c1) (.slice A2 X.length c2) .wld W (a.tmps.getD 16 undef) := hd ⟨4, .data⟩ (by simp) rfl _ rfl
      exact fe_num rfl ENum hn hS rfl rfl h1 h2
    · intro a W hS hd hk
      have h1 : tyE g w.heap.size w2.heap.size w3.heap.size n (.slice A1 K.length c1) (.slice A2 X.length c2) .src W (a.tmps.getD 6 undef) := hk 6 (not_dstE (by rfl))
      exact fe_mv (.inl rfl) hS rfl rfl h1
    · intro a W hS hd hk
      refine fe_lit (cs := #[.int .i64 0, .int .i64 1, .int .i64 1, .int .i64 2, .int .i64 3, .int .i64 16, .int .i64 17]) ?_ hS rfl rfl (by omega) rfl ?_
      · unfold execOp
        go_simp
      · intro i hi
        match i, hi with
        | 0, _ => exact ⟨_, rfl⟩
        | 1, _ => exact ⟨_, rfl⟩
        | 2, _ => exact ⟨_, rfl⟩
        | 3, _ => exact ⟨_, rfl⟩
        | 4, _ => exact ⟨_, rfl⟩
        | 5, _ => exact ⟨_, rfl⟩
        | 6, _ => exact ⟨_, rfl⟩
    · intro a W hS hd hk
      have h1 : tyE g w.heap.size w2.heap.size w3.heap.size n (.slice A1 K.length c1) (.slice A2 X.length c2) .src W (a.tmps.getD 18 undef) := hd ⟨6, .data⟩ (by simp) rfl _ rfl
      have h2 : tyE g w.heap.size w2.heap.size w3.heap.size n (.slice A1 K.length c1) (.slice A2 X.length c2) (.row 7) W (a.tmps.getD 19 undef) := hd ⟨7, .data⟩ (by simp) rfl _ rfl
      exact fe_pick rfl EPick (by omega) hS rfl rfl h1 h2
    · intro a W hS hd hk
      have h1 : tyE g w.heap.size w2.heap.size w3.heap.size n (.slice A1 K.length c1) (.slice A2 X.length c2) .src W (a.tmps.getD 6 undef) := hk 6 (not_dstE (by rfl))
      exact fe_mv (.inl rfl) hS rfl rfl h1
    · intro a W hS hd hk
      refine fe_lit (cs := #[.int .i64 0, .int .i64 1, .int .i64 1, .int .i64 2, .int .i64 6, .int .i64 7]) ?_ hS rfl rfl (by omega) rfl ?_
      · unfold execOp
        go_simp
      · intro i hi
        match i, hi with
        | 0, _ => exact ⟨_, rfl⟩
        | 1, _ => exact ⟨_, rfl⟩
        | 2, _ => exact ⟨_, rfl⟩
        | 3, _ => exact ⟨_, rfl⟩
        | 4, _ => exact ⟨_, rfl⟩
        | 5, _ => exact ⟨_, rfl⟩
    · intro a W hS hd hk
      have h1 : tyE g w.heap.size w2.heap.size w3.heap.size n (.slice A1 K.length c1) (.slice A2 X.length c2) .src W (a.tmps.getD 21 undef) := hd ⟨9, .data⟩ (by simp) rfl _ rfl
      have h2 : tyE g w.heap.size w2.heap.size w3.heap.size n (.slice A1 K.length c1) (.slice A2 X.length c2) (.row 6) W (a.tmps.getD 22 undef) := hd ⟨10, .data⟩ (by simp) rfl _ rfl
      exact fe_pick rfl EPick (by omega) hS rfl rfl h1 h2
    · intro a W hS hd hk
      have h1 : tyE g w.heap.size w2.heap.size w3.heap.size n (.slice A1 K.length c1) (.slice A2 X.length c2) .mdl W (a.tmps.getD 12 undef) := hd ⟨0, .data⟩ (by simp) rfl _ rfl
      have h0 : a.tmps.getD 2 undef = .pointer (some ⟨w.heap.size, 0, none⟩) := hk 2 (not_dstE (by rfl))
      exact fe_st HCo.out rfl hS rfl (by rfl) (noRes (by rfl)) h0 h1
    · intro a W hS hd hk
      have h1 : tyE g w.heap.size w2.heap.size w3.heap.size n (.slice A1 K.length c1) (.slice A2 X.length c2) .num W (a.tmps.getD 17 undef) := hd ⟨5, .data⟩ (by simp) rfl _ rfl
      exact fe_mv (.inr rfl) hS rfl rfl h1
    · intro a W hS hd hk
      have h1 : tyE g w.heap.size w2.heap.size w3.heap.size n (.slice A1 K.length c1) (.slice A2 X.length c2) .num W (a.tmps.getD 20 undef) := hd ⟨8, .data⟩ (by simp) rfl _ rfl
      exact fe_mv (.inr rfl) hS rfl rfl h1
    · intro a W hS hd hk
      have h1 : tyE g w.heap.size w2.heap.size w3.heap.size n (.slice A1 K.length c1) (.slice A2 X.length c2) .num W (a.tmps.getD 23 undef) := hd ⟨11, .data⟩ (by simp) rfl _ rfl
      exact fe_mv (.inr rfl) hS rfl rfl h1
  case hend =>
    intro a W hS hdf hk hdn
    obtain ⟨r3, h3⟩ : tyE g w.heap.size w2.heap.size w3.heap.size n (.slice A1 K.length c1) (.slice A2 X.length c2) .num W (a.tmps.getD 3 undef) := hdn 13 _ rfl
    obtain ⟨r4, h4⟩ : tyE g w.heap.size w2.heap.size w3.heap.size n (.slice A1 K.length c1) (.slice A2 X.length c2) .num W (a.tmps.getD 4 undef) := hdn 14 _ rfl
    obtain ⟨r5, h5⟩ : tyE g w.heap.size w2.heap.size w3.heap.size n (.slice A1 K.length c1) (.slice A2 X.length c2) .num W (a.tmps.getD 5 undef) := hdn 15 _ rfl
    have hR : W.heap[w.heap.size]? = some (.cells #[.int .i64 n, .slice A1 K.length c1, .slice A2 X.length c2] 28 (0, 0)) := hdn 12 _ rfl
    have e2 : a.tmps.getD 2 undef = .pointer (some ⟨w.heap.size, 0, none⟩) := hk 2 (not_dstE (by rfl))
    go_wp2_with fail
    refine bodyPost_ret (results_cell_tmp3 rfl a.tmps W w.heap.size _ _ (0, 0) _ e2 hR Tryz.underlying28 rfl infoMd) (hdf.trans rfl) ?_
    exact ⟨n, _, _, K, X, r3, r4, r5, by rw [h3, h4, h5], hS.ia.ints, hS.iu.ints, hS.gr⟩
end Go.Proofs.YtjlnompmhgjaaaaGreat


/- likeFormula5 of the law at two equal formulas. -/
namespace Go.Proofs.YtjlnompmhgjaaaaGreat
open Go.RowKit
open Fm (Nd)

set_option maxHeartbeats 1000000 in
theorem likeF_same (v1 v2 : Value) (L : List Nd) (w : World) (h1 : Nodes w v1 L) (h2 : Nodes w v2 L) (hn : L.length ≤ 1099511627776) :
    Calls Tryz.prog 8 #[v1, v2] w fun e w' => e = .returned (.bool true) ∧ Grew w w' := by
  rcases h1.open_ with ⟨rfl, rfl⟩ | ⟨b1, o1, c1, rfl, hc1, hm1, hb1, hf⟩
  · obtain ⟨A, c, rfl⟩ := nodes_slice h2
    simp only [List.length_nil]
    go_enter Tryz.func8, Tryz.ntmps8
    go_wp2_with fail
    refine wp_loop_rounds 1 ?_; rw [rounds_succ]
    go_wp2_with fail
    go_ret
    exact ⟨rfl, Grew.refl _⟩
  rcases h2.open_ with ⟨rfl, h0⟩ | ⟨b2, o2, c2, rfl, hc2, hm2, hb2, hh⟩
  · subst h0
    simp only [List.length_nil]
    clear h1 h2 hf
    go_enter Tryz.func8, Tryz.ntmps8
    go_wp2_with fail
    refine wp_loop_rounds 1 ?_; rw [rounds_succ]
    go_wp2_with fail
    go_ret
    exact ⟨rfl, Grew.refl _⟩
  clear h1 h2
  have HF := Lib.hid hf
  have HH := Lib.hid hh
  clear hf hh
  generalize hN : L.length = n at *
  clear hN
  go_enter Tryz.func8, Tryz.ntmps8
  go_wp2_with fail
  go_loopg [5] n (fun k i wr => ∃ j : Nat, j ≤ n ∧ k = n - j ∧ i = .int .i64 j ∧ Grew w wr)
  case atStart => exact ⟨0, Nat.zero_le _, by omega, rfl, Grew.refl _⟩
  case round =>
    obtain ⟨j, hj, rfl, rfl, hB⟩ := hrel
    by_cases hlt : j < n
    · have k1 : ∀ W, Grew w W → W.cell? ⟨b1, o1 + j * 2, none⟩ = some (.int .i64 (kd L j)) := fun W hW => (HF.out j hlt W hW).1
      have k2 : ∀ W, Grew w W → W.cell? ⟨b1, o1 + j * 2 + 1, none⟩ = some (.int .i64 (sy L j)) := fun W hW => (HF.out j hlt W hW).2
      have k3 : ∀ W, Grew w W → W.cell? ⟨b2, o2 + j * 2, none⟩ = some (.int .i64 (kd L j)) := fun W hW => (HH.out j hlt W hW).1
      have k4 : ∀ W, Grew w W → W.cell? ⟨b2, o2 + j * 2 + 1, none⟩ = some (.int .i64 (sy L j)) := fun W hW => (HH.out j hlt W hW).2
      generalize kd L j = z at *
      generalize sy L j = y at *
      go_wp2_with fail
      go_quiet (fail)
      go_wp2_with fail
      go_roundg (n - (j + 1))
      case measure => omega
      case rel => exact ⟨j + 1, by omega, rfl, by go_num, hB.drewN _⟩
    · obtain rfl : j = n := by omega
      go_wp2_with fail
      go_ret
      exact ⟨rfl, hB⟩
end Go.Proofs.YtjlnompmhgjaaaaGreat


/- An append as one step of a region that draws its order. -/
namespace Go.Proofs.YtjlnompmhgjaaaaGreat
open Go.RowKit

theorem step_apprd {P : Program} (w : World) {ops : Array Oper} {o : Oper} {a : Act} {K : Act → World → Prop} {Q : Exit → Act → World → Prop} {E : Prop} (hgd : o.guard = none) (s x : Operand) (t : TypeId)
    (ho : o.op = .call { callee := .builtin .append, args := #[s, x], argTypes := #[t, t] })
    (base : Nat) (e : TypeId) (i : TypeInfo) (z : Value) (size bytes : Nat) (ht : P.underlying t = some (.slice e)) (hi : P.info? e = some i) (hz : i.zero = some z)
    (hsize : i.size = size) (hby : i.bytes = bytes) (hzs : z.cells.size = size) (hsz : 0 < size)
    (v : Value) (n : Nat) (xs : List Value) (hs : a.eval s = v) (hown : w.ownsRow base e size v n xs)
    (vx : Value) (m : Nat) (news : List Value) (hx : a.eval x = vx) (hr : Rd w size vx m news) (h1 : ∀ u ∈ news, u.oneCell' = true)
    (h63 : n + m ≤ maxLen) (hbytes : (n + m) * bytes ≤ 140737488355328) (hbase : base ≤ w.heap.size)
    (h : ∀ v' w', w'.ownsRow base e size v' (n + m) (xs ++ news) → w.grownBy w' v.ownBlock → K (a.put o.dst v') w') :
    if Region.wanted o (yielded ops a.tmps) = true then Oper.wp P o a w K Q else E := by
  have hw : Region.wanted o (yielded ops a.tmps) = true := by simp [Region.wanted, hgd]
  rw [if_pos hw]
  obtain ⟨hl, _, hr⟩ := hr
  rcases hr with ⟨rfl, rfl⟩ | ⟨b, of, c, rfl, _, _, _, hc⟩
  · have hnews : news = [] := List.eq_nil_of_length_eq_zero (by simpa using hl)
    subst hnews
    have hrun := run_append_owned_none (P := P) w base t o.type e i size ht hi v n xs hown
    unfold Oper.wp execOp
    simp only [ho, resolve, invoke, builtin, Sem.run_bind, Sem.run_pure, Result.andThen_ok, List.map_toArray, List.map_cons, List.map_nil, hs, hx, hrun]
    exact h v w (by simpa using hown) (World.grownBy.refl _ _)
  · obtain ⟨v', w', hrun, h2, h3, _, _⟩ := run_append_own_at (P := P) w base t o.type e i z size bytes ht hi hz hsize hby hzs hsz v n xs hown ⟨b, of, none⟩ m c news hl (fun j u hu => by rw [Addr.add_lit]; exact hc j u hu) h1 h63 hbytes hbase
    unfold Oper.wp execOp
    simp only [ho, resolve, invoke, builtin, Sem.run_bind, Sem.run_pure, Result.andThen_ok, List.map_toArray, List.map_cons, List.map_nil, hs, hx, hrun]
    exact h v' w' h2 h3

end Go.Proofs.YtjlnompmhgjaaaaGreat


/- bounded of the program: the links of the first rounds. -/
namespace Go.Proofs.YtjlnompmhgjaaaaGreat
open Go.RowKit
open Fm (Nd Tree)

theorem step_appU3 {ops : Array Oper} {o : Oper} {a : Act} {K : Act → World → Prop} {Q : Exit → Act → World → Prop} {E : Prop} {w : World} (B : Nat) (hgd : o.guard = none) (s x : Operand)
    (ho : o.op = .call { callee := .builtin .append, args := #[s, x], argTypes := #[55, 55] })
    (v : Value) (Us : List (List Int)) (hs : a.eval s = v) (hown : OwnU w B v Us) (hB : B ≤ w.heap.size) (vx u : Value) (U : List Int) (hx : a.eval x = vx) (hr : Rd w 1 vx 1 [u]) (hu : OwnI w B u U) (hn : Us.length ≤ 1048576)
    (h : ∀ v' w', OwnU w' B v' (Us ++ [U]) → w.grownBy w' v.ownBlock → K (a.put o.dst v') w') : if Region.wanted o (yielded ops a.tmps) = true then Oper.wp Tryz.prog o a w K Q else E := by
  obtain ⟨i0, hi0, hz0, hz1, hz2⟩ := info_parts infoIs
  obtain ⟨us, h1, h2, h3⟩ := hown
  have hu1 : u.oneCell' = true := by
    obtain ⟨A, c, rfl⟩ := ints_slice hu.ints
    rfl
  refine step_apprd w hgd s x _ ho B 24 i0 _ 1 24 Tryz.underlying55 hi0 hz0 hz1 hz2 rfl (by omega) v Us.length us hs h2 vx 1 [u] hx hr (by simpa using hu1) (by unfold maxLen; omega) (by omega) hB ?_
  intro v' w' k1 k2
  exact h v' w' (snocU h1 h2 h3 hu k1 k2) k2
def MB (w : World) (b : Nat) (n : Int) (v u : Value) : Prop := w.heap[b]? = some (.cells #[.int .i64 n, v, u] 28 (0, 0))
theorem MB.box {w : World} {b : Nat} {n : Int} {v u : Value} (h : MB w b n v u) : MBox w b n v u := fun W hW => by
  have e := (hW.block (blk_lt h)).trans h
  exact ⟨by rw [blk_cell e]; rfl, by rw [blk_cell e]; rfl, by rw [blk_cell e]; rfl⟩
theorem MB.grew {w w' : World} {b : Nat} {n : Int} {v u : Value} (h : MB w b n v u) (hg : Grew w w') : MB w' b n v u := (hg.block (blk_lt h)).trans h
theorem tyU1 : (2 : TypeId) ≠ 55 := by decide
theorem tyU2 : (24 : TypeId) ≠ 55 := by decide
theorem tyU3 : (24 : TypeId) ≠ 28 := by decide
theorem tyU4 : (28 : TypeId) ≠ 55 := by decide
structure BS (w0 w : World) (b1 b2 bo : Nat) (n : Int) (v u vo : Value) (rows : List (List Int)) : Prop where
  hg : Grew w0 w
  m1 : MB w b1 n v u
  m2 : MB w b2 n v u
  o : w.heap[bo]? = some (.cells #[vo] 55 (0, 0))
  ow : OwnU w w0.heap.size vo rows
  ge : w0.heap.size ≤ bo
theorem BS.grew {w0 w w' : World} {b1 b2 bo : Nat} {n : Int} {v u vo : Value} {rows : List (List Int)} (h : BS w0 w b1 b2 bo n v u vo rows) (hg : Grew w w') : BS w0 w' b1 b2 bo n v u vo rows :=
  ⟨h.hg.trans hg, h.m1.grew hg, h.m2.grew hg, (hg.block (blk_lt h.o)).trans h.o, h.ow.grew hg, h.ge⟩
theorem OwnU.setB {w : World} {B D : Nat} {v vo : Value} {Us : List (List Int)} (h : OwnU w B v Us) (hD : w.heap[D]? = some (.cells #[vo] 55 (0, 0))) (u : Value) : OwnU (w.setCell ⟨D, 0, none⟩ u) B v Us := by
  obtain ⟨us, h1, h2, h3⟩ := h
  exact ⟨us, h1, own_only h2 ((Only.refl D w).setCell u) (own_ne h2 hD tyU2), fun j hj => own_only (h3 j hj) ((Only.refl D w).setCell u) (own_ne (h3 j hj) hD tyU1)⟩
theorem MB.ne {w : World} {b bo : Nat} {n : Int} {v u vo : Value} (h : MB w b n v u) (ho : w.heap[bo]? = some (.cells #[vo] 55 (0, 0))) : b ≠ bo := by
  rintro rfl
  have e := h.symm.trans ho
  simp only [Option.some.injEq, Obj.cells.injEq] at e
  exact tyU4 e.2.1
theorem MB.set {w : World} {b bo : Nat} {n : Int} {v u vo : Value} (h : MB w b n v u) (ho : w.heap[bo]? = some (.cells #[vo] 55 (0, 0))) (x : Value) : MB (w.setCell ⟨bo, 0, none⟩ x) b n v u :=
  (((Only.refl bo w).setCell x).block (blk_lt h) (h.ne ho)).trans h
theorem OwnU.blockOf {w : World} {B : Nat} {v : Value} {Us : List (List Int)} (h : OwnU w B v Us) {D : Nat} {cs : Array Value} {e : TypeId} (hD : w.heap[D]? = some (.cells cs e (0, 0))) (hne : (24 : TypeId) ≠ e) : v.ownBlock ≠ some D := by
  obtain ⟨us, h1, h2, h3⟩ := h
  exact own_ne h2 hD hne
theorem BS.put {w0 w w' : World} {b1 b2 bo : Nat} {n : Int} {v u vo v' : Value} {rows rows' : List (List Int)} (h : BS w0 w b1 b2 bo n v u vo rows) (hg : w.grownBy w' vo.ownBlock) (ho : OwnU w' w0.heap.size v' rows') : BS w0 (w'.setCell ⟨bo, 0, none⟩ v') b1 b2 bo n v u v' rows' := by
  have hG := h.hg.grown hg (fun g hg' => own_of_geU h.ow hg')
  have e1 : MB w' b1 n v u := (hg.block b1 (blk_lt h.m1) (h.ow.blockOf h.m1 tyU3).symm).trans h.m1
  have e2 : MB w' b2 n v u := (hg.block b2 (blk_lt h.m2) (h.ow.blockOf h.m2 tyU3).symm).trans h.m2
  have eo : w'.heap[bo]? = some (.cells #[vo] 55 (0, 0)) := (hg.block bo (blk_lt h.o) (h.ow.blockOf h.o tyU2).symm).trans h.o
  exact ⟨hG.setCell h.ge _, e1.set eo _, e2.set eo _, by have := blk_set eo 0 v'; exact this, ho.setB eo _, h.ge⟩
def lrows (A V : List Nat) (k : Nat) : List (List Int) := (List.range k).map fun i => zs (lks A V i)
theorem lrows_succ (A V : List Nat) (k : Nat) : lrows A V (k + 1) = lrows A V k ++ [zs (lks A V k)] := by unfold lrows; rw [List.range_succ, List.map_append]; rfl
theorem lrows_len (A V : List Nat) (k : Nat) : (lrows A V k).length = k := by simp [lrows]
theorem lrows_at {A V : List Nat} {k i : Nat} (h : i < k) : (lrows A V k).getD i [] = zs (lks A V i) := by simp [lrows, List.getD, h]
theorem lks_sm {A V : List Nat} (h8 : A.length ≤ 8) (k : Nat) : Sm (lks A V k) := fun m hm => Nat.lt_of_lt_of_le (lks_lt A V k m hm) (Nat.le_trans (Nat.pow_le_pow_right (n := 2) (by omega) h8) (by decide))
theorem OwnU.lit1 (w : World) (n : Nat) (hn : w.heap.size = n) {B : Nat} {u : Value} {U : List Int} (hu : OwnI w B u U) (hB : B ≤ n) : OwnU (w.alloc (.cells #[u] 24)) B (.slice (some ⟨n, 0, none⟩) 1 1) [U] := by
  subst hn
  refine ⟨[u], rfl, own_base (World.ownsRow_lit (e := 24) (size := 1) w #[u] 1 (Nat.le_refl _) (by first | omega | decide | simp) rfl) hB, fun j hj => ?_⟩
  have hj0 : j = 0 := by simp at hj; omega
  subst hj0
  exact hu.grew ((Grew.refl w).alloc _)
end Go.Proofs.YtjlnompmhgjaaaaGreat


/- bounded of the program, walked. -/
namespace Go.Proofs.YtjlnompmhgjaaaaGreat
open Go.RowKit
open Fm (Nd Tree)

theorem stB_of {A V L : List Nat} {x y n : Nat} (hx : x < A.length) (hy : y < A.length) : ((nt (lks A V 0) x).testBit y && (fthB A L x y && bakB A L x y)) = stB A V L x y := by
  have e : (nt (lks A V 0) x).testBit y = atB V x y := by
    unfold lks
    rw [nt_map hx, pmk_bit, decide_eq_true hy, Bool.true_and]
  rw [e]
  rfl
set_option maxHeartbeats 4000000 in
set_option maxRecDepth 100000 in
theorem bounded_c (v u : Value) (A V : List Nat) (k : Nat) (w : World) (h : Ints w v (zs A)) (hu : Ints w u (zs V)) (hA : Rl A) (h8 : A.length ≤ 8) (hVl : V.length = 6) (hV : Sm V) (hk : k ≤ 16) :
    Calls Tryz.prog 27 #[.agg #[.int .i64 (A.length : Int), v, u], .agg #[.int .i64 (A.length : Int), v, u], .int .i64 (k : Int)] w fun e w' => ∃ r, e = .returned r ∧ OwnU w' w.heap.size r (lrows A V (k + 1)) ∧ Grew w w' := by
  obtain ⟨w2, hw2, hal, y0, y1, y2, z0, z1, z2⟩ := mdl_box2 w (.int .i64 (A.length : Int)) v u (.int .i64 (A.length : Int)) v u
  have hv3 := ints_sliceN h
  have hu3 := ints_sliceN hu
  rw [hVl] at hu3
  have hvE : ∃ A m c, v = .slice A m c := by obtain ⟨a, c, e⟩ := hv3; exact ⟨_, _, _, e⟩
  have huE : ∃ A m c, u = .slice A m c := by obtain ⟨a, c, e⟩ := hu3; exact ⟨_, _, _, e⟩
  have m2 : MB w2 (w.heap.size + 1) A.length v u := by
    rw [hw2]
    have := blk_new (w.alloc (.cells #[.int .i64 (A.length : Int), v, u] 28)) (.cells #[.int .i64 (A.length : Int), v, u] 28)
    rw [show (w.alloc (.cells #[.int .i64 (A.length : Int), v, u] 28)).heap.size = w.heap.size + 1 by simp] at this
    exact this
  have m1 : MB w2 w.heap.size A.length v u := by
    rw [hw2]
    exact MB.grew (blk_new w (.cells #[.int .i64 (A.length : Int), v, u] 28)) ((Grew.refl _).alloc _)
  have KL0 := Lib.hid (linkOf_c A.length v u 55 #[.pointer (some ⟨w.heap.size, 0, none⟩), .pointer (some ⟨w.heap.size + 1, 0, none⟩)] (atB V) w2 hvE huE h8
    (fun x y W hx hy hW => bnd1_c A.length v u V w.heap.size (w.heap.size + 1) x y W hvE (hu.grew (hal.trans hW)) hVl hV (by omega) (by omega) (m1.box.grew hW) (m2.box.grew hW)) (enters_of Tryz.func55 (by kernel_rfl) rfl))
  have KL1 := Lib.hid (fun (j : Nat) (vl v0 : Value) (bo bl gr c d : Nat) (W6 : World) (hg : Grew w W6) (p1 : MB W6 w.heap.size A.length v u) (p2 : MB W6 (w.heap.size + 1) A.length v u) (hL : Ints W6 vl (zs (lks A V j))) (hL0 : Ints W6 v0 (zs (lks A V 0)))
      (ho : ∀ W, Grew W6 W → W.cell? ⟨bo, 0, none⟩ = some (.slice (some ⟨gr, 0, none⟩) c d)) (hc : 0 < c) (hgr : ∀ W, Grew W6 W → W.cell? ⟨gr, 0, none⟩ = some v0) (hla : ∀ W, Grew W6 W → W.cell? ⟨bl, 0, none⟩ = some vl) =>
    show ∀ W, Grew W6 W → Calls Tryz.prog 54 #[.agg #[.int .i64 (A.length : Int), v, u], .agg #[.int .i64 (A.length : Int), v, u], .func (.func 57) #[] #[.pointer (some ⟨bo, 0, none⟩), .pointer (some ⟨w.heap.size, 0, none⟩), .pointer (some ⟨w.heap.size + 1, 0, none⟩), .pointer (some ⟨bl, 0, none⟩)]] W (GivesI W (zs (lks A V (j + 1)))) from
    fun W hW => linkOf_c A.length v u 57 #[.pointer (some ⟨bo, 0, none⟩), .pointer (some ⟨w.heap.size, 0, none⟩), .pointer (some ⟨w.heap.size + 1, 0, none⟩), .pointer (some ⟨bl, 0, none⟩)] (stB A V (lks A V j)) W hvE huE h8
      (fun x y X hx hy hX => by
        have hWX := hW.trans hX
        have := bnd2_c v u vl v0 A V (lks A V j) (lks A V 0) w.heap.size (w.heap.size + 1) x y X (h.grew (hg.trans hWX)) huE (hL.grew hWX) (hL0.grew hWX) hA h8 (lks_len A V j) (lks_sm h8 j) (lks_len A V 0) (lks_sm h8 0) hx hy (p1.box.grew hWX) (p2.box.grew hWX) bo bl gr c d (fun Y hY => ho Y (hWX.trans hY)) hc (fun Y hY => hgr Y (hWX.trans hY)) (fun Y hY => hla Y (hWX.trans hY))
        rw [stB_of (n := A.length) hx hy] at this
        exact this) (enters_of Tryz.func57 (by kernel_rfl) rfl))
  obtain ⟨A1, c1, rfl⟩ := hv3
  obtain ⟨A2, c2, rfl⟩ := hu3
  have HM1 := Lib.hid m1
  have HM2 := Lib.hid m2
  have HG := Lib.hid hal
  clear h hu hA hV hVl m1 m2 hal hvE huE
  go_enter Tryz.func27, Tryz.ntmps27
  go_wp2_with fail
  simp only [← hw2]
  clear hw2
  refine KL0.out.mono ?_
  rintro e w3 ⟨u3, rfl, ho3, hg3⟩
  obtain ⟨A3, c3, rfl⟩ := ints_slice ho3.ints
  rw [zs_len, List.length_map, List.length_range] at ho3 ⊢
  have hU1 := OwnU.lit1 w3 w3.heap.size rfl (ho3.base HG.out.size) (Nat.le_trans HG.out.size hg3.size)
  have hsz : (w3.alloc (.cells #[.slice A3 A.length c3] 24)).heap.size = w3.heap.size + 1 := by simp
  obtain ⟨w5, hw5⟩ : ∃ w5, w5 = (w3.alloc (.cells #[.slice A3 A.length c3] 24)).alloc (.cells #[.slice (some ⟨w3.heap.size, 0, none⟩) 1 1] 55) := ⟨_, rfl⟩
  have hb5 := blk_new (w3.alloc (.cells #[.slice A3 A.length c3] 24)) (.cells #[.slice (some ⟨w3.heap.size, 0, none⟩) 1 1] 55)
  have hg45 := (Grew.refl (w3.alloc (.cells #[.slice A3 A.length c3] 24))).alloc (.cells #[.slice (some ⟨w3.heap.size, 0, none⟩) 1 1] 55)
  rw [hsz, ← hw5] at hb5
  rw [← hw5] at hg45
  have hg35 := ((Grew.refl w3).alloc (.cells #[.slice A3 A.length c3] 24)).trans hg45
  have HB6 : Hid (BS w w5 w.heap.size (w.heap.size + 1) (w3.heap.size + 1) A.length (.slice A1 A.length c1) (.slice A2 6 c2) (.slice (some ⟨w3.heap.size, 0, none⟩) 1 1) (lrows A V (0 + 1))) :=
    Lib.hid ⟨HG.out.trans (hg3.trans hg35), HM1.out.grew (hg3.trans hg35), HM2.out.grew (hg3.trans hg35), hb5, hU1.grew hg45, by have := HG.out.size; have := hg3.size; omega⟩
  go_wp2_with fail
  simp only [← hw5]
  clear hw5 hg35 hg45 hb5 hsz hU1 ho3 hg3 KL0 y0 y1 y2 z0 z1 z2 HM1 HM2 HG
  generalize w3.heap.size + 1 = bo at *
  generalize A.length = n at *
  go_loopw [15] (fun i wr => ∃ (j : Nat) (vo : Value), j ≤ k ∧ i = .int .i64 (j : Int) ∧ Hid (BS w wr w.heap.size (w.heap.size + 1) bo n (.slice A1 n c1) (.slice A2 6 c2) vo (lrows A V (j + 1)))) (fun i _ => k - (intOf i).toNat)
  case atStart => exact ⟨0, _, by omega, rfl, HB6⟩
  case round =>
    obtain ⟨j, vo, hj, rfl, hB⟩ := hrel
    have k0 : ∀ W, Grew wr W → W.cell? ⟨bo, 0, none⟩ = some vo := fun W hW => by rw [blk_cell (hB.out.grew hW).o]; rfl
    by_cases hlt : j < k
    · obtain ⟨gr, c, v0, rfl, hv0, ho0⟩ := hB.out.ow.at_ (i := 0) (by rw [lrows_len]; omega)
      obtain ⟨gr2, c5, vj, he, hvj, hoj⟩ := hB.out.ow.at_ (i := j) (by rw [lrows_len]; omega)
      obtain ⟨rfl, rfl⟩ : gr = gr2 ∧ c = c5 := by
        simp only [Value.slice.injEq, Option.some.injEq, Addr.mk.injEq] at he
        exact ⟨he.1.1, he.2.2⟩
      rw [lrows_at (by omega)] at ho0 hoj
      have hlen : (lrows A V (j + 1)).length = j + 1 := lrows_len A V (j + 1)
      rw [hlen] at hB k0
      clear he hlen
      have hwj : IntKind.i64.wrap (((j + 1 : Nat) : Int) - 1) = (j : Int) := by rw [IntKind.wrap_i64]; omega
      have hwj2 : IntKind.i64.wrap ((j : Int) + 1 - 1) = (j : Int) := by rw [IntKind.wrap_i64]; omega
      have hg6 := (Grew.refl wr).alloc (.cells #[vj] 24)
      have hb6 := blk_new wr (.cells #[vj] 24)
      obtain ⟨w6, hw6⟩ : ∃ w6, w6 = wr.alloc (.cells #[vj] 24) := ⟨_, rfl⟩
      rw [← hw6] at hg6 hb6
      have hB6 := Lib.hid (hB.out.grew hg6)
      have hj0 : (0 : Int) ≤ (j : Int) := by omega
      have hj1 : (j : Int) < (j : Int) + 1 := by omega
      obtain ⟨Aj, lj, cj, rfl⟩ : ∃ A m c, vj = .slice A m c := by obtain ⟨a, c, e⟩ := ints_slice hoj.ints; exact ⟨_, _, _, e⟩
      have r0 := Grew.refl wr
      go_upto_region 5 with fail
      simp only [← hw6]
      have k5 : ∀ W, Grew w6 W → W.cell? ⟨bo, 0, none⟩ = some (.slice (some ⟨gr, 0, none⟩) (j + 1) c) := fun W hW => k0 W (hg6.trans hW)
      have HVL : Hid (Ints w6 (.slice Aj lj cj) (zs (lks A V j))) := Lib.hid ((hoj.grew hg6).ints)
      have HV0 : Hid (Ints w6 v0 (zs (lks A V 0))) := Lib.hid ((ho0.grew hg6).ints)
      have KL := Lib.hid (KL1.out j (.slice Aj lj cj) v0 bo wr.heap.size gr (j + 1) c w6 hB6.out.hg hB6.out.m1 hB6.out.m2 HVL.out HV0.out k5 (by omega) (fun W hW => hv0 W (hg6.trans hW)) (fun W hW => by rw [blk_cell ((hW.block (blk_lt hb6)).trans hb6)]; rfl))
      have y0 := fun W hW => (hB6.out.m1.box W hW).1
      have y1 := fun W hW => (hB6.out.m1.box W hW).2.1
      have y2 := fun W hW => (hB6.out.m1.box W hW).2.2
      have z0 := fun W hW => (hB6.out.m2.box W hW).1
      have z1 := fun W hW => (hB6.out.m2.box W hW).2.1
      have z2 := fun W hW => (hB6.out.m2.box W hW).2.2
      have hll : (lrows A V (j + 1)).length ≤ 1048576 := by rw [lrows_len]; omega
      clear hw6 hb6 hoj ho0 hvj hv0 HVL HV0 k0 hB r0 hg6 KL1 HB6 hwj hwj2 hj0 hj1
      generalize wr.heap.size = bl at *
      have r6 := Grew.refl w6
      have r6d := r6.drew
      generalize hrow : zs (lks A V (j + 1)) = row at *
      have HROW := Lib.hid hrow
      clear hrow
      generalize hrs : lrows A V (j + 1) = rows at *
      have HRS := Lib.hid hrs
      clear hrs
      go_region_law (first
          | (refine step_appU3 w.heap.size rfl (.tmp 23) (.tmp 28) rfl (.slice (some ⟨gr, 0, none⟩) (j + 1) c) rows (by simp [Act.eval, Act.put]) hB8.out.ow hsa (.slice (some ⟨w7.heap.size, 0, none⟩) 1 1) (.slice A7 l7 c7') row (by simp [Act.eval, Act.put]) hrd7 hIa hll ?_; intro v8 w8 hown8 hg8; have hv8 := hown8.slice; obtain ⟨A8, c8, rfl⟩ := hv8; generalize hl8 : (rows ++ [row]).length = l8 at *; have hp8 := hB8.out.put hg8 hown8; have hk8 := (hg8.block bo (blk_lt hB8.out.o) (hB8.out.ow.blockOf hB8.out.o tyU2).symm).trans hB8.out.o; have k8 := (blk_cell hk8 0).trans rfl; have f8 := blk_frozen hk8 0)
          | (go_simp; go_at_call 54; refine (KL.out _ r6d).mono ?_; rintro e w7 ⟨u7, rfl, ho7, hg7⟩; obtain ⟨A7, c7', rfl⟩ := ints_slice ho7.ints; generalize hl7 : row.length = l7 at *; have hg67 := r6d.trans hg7; have hga := (Grew.refl w7).alloc (.cells #[.slice A7 l7 c7'] 24); have hg6a := hg67.trans hga; have hB8 := Lib.hid (hB6.out.grew hg6a); have hsa := hB8.out.hg.size; have hIa := (ho7.base (hB6.out.hg.size)).grew hga; have hrd7 := rd_litU w7 (.slice A7 l7 c7') 24))
      all_goals
        rw [← HROW.out, ← HRS.out, ← lrows_succ] at hp8
        have HP8 := Lib.hid hp8
        clear hp8 hown8 hg8 k8 f8 hk8
        go_wp2_with fail
        go_roundw
        case rel => exact ⟨j + 1, _, by omega, by go_num, HP8⟩
        case measure => simp [intOf]; omega
    · obtain rfl : j = k := by omega
      obtain ⟨Ao, co, rfl⟩ := hB.out.ow.slice
      have r0 := Grew.refl wr
      go_wp2_with fail
      go_ret
      exact ⟨_, rfl, hB.out.ow, hB.out.hg⟩
end Go.Proofs.YtjlnompmhgjaaaaGreat


/- BoundedBisimulation of the program at one model. -/
namespace Go.Proofs.YtjlnompmhgjaaaaGreat
open Go.RowKit
open Fm (Nd Tree)

set_option maxHeartbeats 4000000 in
set_option maxRecDepth 8192 in
theorem BoundedBis_c (v u : Value) (A V : List Nat) (k : Nat) (w : World) (h : Ints w v (zs A)) (hu : Ints w u (zs V)) (hA : Rl A) (h8 : A.length ≤ 8) (hVl : V.length = 6) (hV : Sm V) (hk : k ≤ 16) (hmd : mdB (A.length : Int) (zs A) (zs V) = true) :
    Calls Tryz.prog 10 #[.agg #[.int .i64 (A.length : Int), v, u], .agg #[.int .i64 (A.length : Int), v, u], .int .i64 (k : Int)] w fun e w' => ∃ r, e = .returned (.tuple #[r, .int .i64 0]) ∧ OwnI w' w.heap.size r (zs (lks A V k)) ∧ Grew w w' := by
  obtain ⟨w2, hw2, hal, y0, y1, y2, z0, z1, z2⟩ := mdl_box2 w (.int .i64 (A.length : Int)) v u (.int .i64 (A.length : Int)) v u
  have KM := Lib.hid (fun W (hW : Grew w2 W) => show Calls Tryz.prog 17 #[.agg #[.int .i64 (A.length : Int), v, u]] W fun e w' => e = .returned (.bool true) ∧ Grew W w' from by
    have := isModel_c (A.length : Int) v u (zs A) (zs V) W (h.grew (hal.trans hW)) (hu.grew (hal.trans hW))
    rwa [hmd] at this)
  have KR := Lib.hid (fun W => show Calls Tryz.prog 19 #[.int .i64 (k : Int), .int .i64 0, .int .i64 16] W fun e w' => e = .returned (.bool true) ∧ Grew W w' from by
    have := inRange_c (k : Int) 0 16 W
    rwa [show decide (0 ≤ (k : Int) ∧ (k : Int) ≤ 16) = true from decide_eq_true ⟨by omega, by omega⟩] at this)
  have KB := Lib.hid (fun W (hW : Grew w2 W) => bounded_c v u A V k W (h.grew (hal.trans hW)) (hu.grew (hal.trans hW)) hA h8 hVl hV hk)
  have HG := Lib.hid hal
  obtain ⟨A1, c1, rfl⟩ := ints_sliceN h
  have hu3 := ints_sliceN hu
  rw [hVl] at hu3
  obtain ⟨A2, c2, rfl⟩ := hu3
  clear h hu hA hV hVl hmd hal
  generalize A.length = n at *
  have r2 := Grew.refl w2
  go_enter Tryz.func10, Tryz.ntmps10
  go_wp2_with fail
  simp only [← hw2]
  clear hw2
  refine (KM.out _ r2).mono ?_
  rintro e w3 ⟨rfl, hg3⟩
  go_wp2_with fail
  refine (KM.out _ hg3).mono ?_
  rintro e w4 ⟨rfl, hg4⟩
  have hg4 := hg3.trans hg4
  go_wp2_with fail
  refine (KR.out _).mono ?_
  rintro e w5 ⟨rfl, hg5⟩
  have hg5 := hg4.trans hg5
  go_wp2_with fail
  refine (KB.out _ hg5).mono ?_
  rintro e w6 ⟨r, rfl, hO6, hg6⟩
  obtain ⟨gr, c, ur, rfl, hur, hor⟩ := hO6.at_ (i := k) (by rw [lrows_len]; omega)
  rw [lrows_at (by omega)] at hor
  obtain ⟨Ar, lr, cr, rfl⟩ : ∃ A m c, ur = .slice A m c := by obtain ⟨a, c, e⟩ := ints_slice hor.ints; exact ⟨_, _, _, e⟩
  have HOR := Lib.hid (hor.base (HG.out.trans hg5).size)
  have hur0 := hur w6 (Grew.refl w6)
  have HGG := Lib.hid ((HG.out.trans hg5).trans hg6)
  have hj0 : (0 : Int) ≤ (k : Int) := by omega
  have hj1 : (k : Int) < (k : Int) + 1 := by omega
  rw [lrows_len]
  clear hO6 hur hor KM KB KR y0 y1 y2 z0 z1 z2
  go_wp2_with fail
  go_ret2
  exact ⟨_, rfl, HOR.out, HGG.out⟩
end Go.Proofs.YtjlnompmhgjaaaaGreat


/- The reference's tests of bisimulation: l07Atoms, l07Forth, l07Back. -/
namespace Go.Proofs.YtjlnompmhgjaaaaGreat
open Go.RowKit
open Fm (Nd Tree)

theorem atB_no {V : List Nat} {x y j : Nat} (hj : j < 6) (h : (nt V j).testBit x ≠ (nt V j).testBit y) : atB V x y = false := by
  cases hq : atB V x y with
  | false => rfl
  | true => exact (h (atB_iff.1 hq j hj)).elim
set_option maxHeartbeats 2000000 in
set_option maxRecDepth 8192 in
theorem l07Atoms_c (n : Nat) (v u : Value) (V : List Nat) (x y : Nat) (w : World) (hv : ∃ A m c, v = .slice A m c) (hu : Ints w u (zs V)) (hl : V.length = 6) (hV : Sm V) (hx : x ≤ 30) (hy : y ≤ 30) :
    Calls Tryz.prog 93 #[.agg #[.int .i64 (n : Int), v, u], .agg #[.int .i64 (n : Int), v, u], .int .i64 (x : Int), .int .i64 (y : Int)] w fun e w' => e = .returned (.bool (atB V x y)) ∧ Grew w w' := by
  obtain ⟨w2, hw2, hal, y0, y1, y2, z0, z1, z2⟩ := mdl_box2 w (.int .i64 (n : Int)) v u (.int .i64 (n : Int)) v u
  have HBX := Lib.hid (fun j W (hj : j < 6) (z : Nat) (hz : z ≤ 30) => l01Bit_q (nt V j) z (by have := hV.at_ (i := j) (by omega); omega) (by omega) W)
  have HN := Lib.hid (fun j hj h => @atB_no V x y j hj h)
  have HY := Lib.hid (fun (h : ∀ j, j < 6 → (nt V j).testBit x = (nt V j).testBit y) => atB_iff.2 h)
  obtain ⟨Av, mv, cv, rfl⟩ := hv
  have hu3 := ints_sliceN hu
  obtain ⟨Au, cu, rfl⟩ := hu3
  obtain ⟨b, o, rfl, hcell⟩ := cellsN hu (by omega)
  rw [hl] at y2 z2 hw2 ⊢
  have HC := Lib.hid (fun j (hj : j < 6) W (hW : Grew w2 W) => hcell j (by omega) W (hal.trans hW))
  have HG := Lib.hid hal
  clear hu hcell hV hal hl
  generalize atB V x y = R at *
  go_enter Tryz.func93, Tryz.ntmps93
  go_wp2_with fail
  simp only [← hw2]
  clear hw2
  go_loopw [9] (fun i wr => ∃ j : Nat, j ≤ 6 ∧ i = .int .i64 (j : Int) ∧ Grew w2 wr ∧ Hid (∀ k, k < j → (nt V k).testBit x = (nt V k).testBit y)) (fun i _ => 6 - (intOf i).toNat)
  case atStart => exact ⟨0, by omega, rfl, Grew.refl _, Lib.hid (fun k hk => absurd hk (by omega))⟩
  case round =>
    obtain ⟨j, hj, rfl, hB, hall⟩ := hrel
    by_cases hlt : j < 6
    · have q0 := fun W hW => HC.out j hlt W hW
      have hb := Lib.hid (fun W z hz => HBX.out j W hlt z hz)
      have hno := Lib.hid (HN.out j hlt)
      have hyes := Lib.hid (fun (he : (nt V j).testBit x = (nt V j).testBit y) => show ∀ k, k < j + 1 → (nt V k).testBit x = (nt V k).testBit y from fun k hk => by
        by_cases hkj : k = j
        · rw [hkj]; exact he
        · exact hall.out k (by omega))
      have hBd := hB.drew
      have hj0 : (0 : Int) ≤ (j : Int) := by omega
      have hj1 : (j : Int) < 6 := by omega
      generalize nt V j = m at *
      generalize m.testBit = T at *
      cases hTx : T x <;> cases hTy : T y
      case true.true | false.false =>
        have hY := Lib.hid (hyes.out (by rw [hTx, hTy]))
        clear hyes hno
        go_wp2_with fail
        go_quiet ((go_at_call 44; exact Calls.quiet_of_same (hb.out _ _ (by assumption))))
        go_wp2_with fail
        go_roundw
        case rel => exact ⟨j + 1, by omega, by go_num, hB.drewN _, hY⟩
        case measure => simp [intOf]; omega
      case true.false | false.true =>
        have hR := Lib.hid (hno.out (by rw [hTx, hTy]; simp))
        clear hyes hno
        go_wp2_with fail
        go_quiet ((go_at_call 44; exact Calls.quiet_of_same (hb.out _ _ (by assumption))))
        go_wp2_with fail
        go_ret
        exact ⟨by rw [hR.out]; rfl, HG.out.trans (hB.drewN _)⟩
    · obtain rfl : j = 6 := by omega
      have hR := Lib.hid (HY.out hall.out)
      go_wp2_with fail
      go_ret
      exact ⟨by rw [hR.out]; rfl, HG.out.trans hB⟩
def fthR (L : List Nat) (a b : Nat) : Bool := (List.range L.length).all fun s => !(a.testBit s && (nt L s &&& b == 0))
theorem fthR_no {L : List Nat} {a b j : Nat} (hj : j < L.length) (h1 : a.testBit j = true) (h : nt L j &&& b = 0) : fthR L a b = false := by
  cases hq : fthR L a b with
  | false => rfl
  | true =>
    have := List.all_eq_true.1 hq j (List.mem_range.2 hj)
    rw [h1, h] at this
    cases this
theorem fthR_yes {L : List Nat} {a b : Nat} (h : ∀ j, j < L.length → a.testBit j = true → ¬ nt L j &&& b = 0) : fthR L a b = true := by
  refine List.all_eq_true.2 fun s hs => ?_
  cases hb : a.testBit s with
  | false => rfl
  | true => simpa using h s (List.mem_range.1 hs) hb
theorem fthR_eq {A L : List Nat} {x y : Nat} (hA : Rl A) (hLl : L.length = A.length) (hx : x < A.length) : fthR L (nt A x) (nt A y) = fthB A L x y := by
  rw [Bool.eq_iff_iff]
  constructor
  · intro h
    refine List.all_eq_true.2 fun s hs => ?_
    have h1 := (mbs_mem (hA.sm.at_ hx)).1 hs
    have h2 := List.all_eq_true.1 h s (List.mem_range.2 (by rw [hLl]; exact hA.bit hx h1))
    have h3 : (nt A x).testBit s = true := h1
    rw [h3] at h2
    exact h2
  · intro h
    refine fthR_yes fun j _ hb hz => ?_
    have := List.all_eq_true.1 h j ((mbs_mem (hA.sm.at_ hx)).2 hb)
    rw [hz] at this
    cases this
set_option maxHeartbeats 2000000 in
set_option maxRecDepth 8192 in
theorem l07Forth_c (vl : Value) (L : List Nat) (a b : Nat) (w : World) (hL : Ints w vl (zs L)) (hLs : Sm L) (h30 : L.length ≤ 30) (ha : a < 1073741824) (hb : b < 1073741824) :
    Calls Tryz.prog 95 #[vl, .int .i64 (a : Int), .int .i64 (b : Int)] w fun e w' => e = .returned (.bool (fthR L a b)) ∧ Grew w w' := by
  have HB := Lib.hid (fun z (hz : z ≤ 30) W => l01Bit_c a z (by omega) (by omega) W)
  have HNO := Lib.hid (fun j hj h1 h => @fthR_no L a b j hj h1 h)
  have HYE := Lib.hid (fun h => @fthR_yes L a b h)
  have HS := Lib.hid (fun j (hj : j < L.length) => hLs.at_ hj)
  obtain ⟨A1, c1, rfl⟩ := ints_sliceN hL
  have HRC := Lib.hid (fun h0 => cellsN hL h0)
  clear hL hLs
  generalize fthR L a b = R at *
  generalize L.length = n at *
  go_enter Tryz.func95, Tryz.ntmps95
  go_wp2_with fail
  go_loopw [7] (fun i wr => ∃ j : Nat, j ≤ n ∧ i = .int .i64 (j : Int) ∧ Grew w wr ∧ Hid (∀ k, k < j → a.testBit k = true → ¬ nt L k &&& b = 0)) (fun i _ => n - (intOf i).toNat)
  case atStart => exact ⟨0, by omega, rfl, Grew.refl _, Lib.hid (fun k hk => absurd hk (by omega))⟩
  case round =>
    obtain ⟨j, hj, rfl, hG, hall⟩ := hrel
    by_cases hlt : j < n
    · obtain ⟨bl, ol, rfl, hcell⟩ := HRC.out (by omega)
      have k0 := fun W hW => hcell j hlt W hW
      have hno := Lib.hid (HNO.out j hlt)
      have hls := HS.out j hlt
      have hj0 : (0 : Int) ≤ (j : Int) := by omega
      have hj1 : (j : Int) < (n : Int) := by omega
      have hyes := Lib.hid (fun (he : a.testBit j = true → ¬ nt L j &&& b = 0) => show ∀ k, k < j + 1 → a.testBit k = true → ¬ nt L k &&& b = 0 from fun k hk => by
        by_cases hkj : k = j
        · rw [hkj]; exact he
        · exact hall.out k (by omega))
      clear hcell
      generalize nt L j = ls at *
      have hand := and_i64 ls b (by omega) (by omega)
      go_wp2_with fail
      refine (HB.out j (by omega) _).mono ?_
      rintro e w2 ⟨rfl, hg2⟩
      have hG2 := hG.trans hg2
      cases hT : a.testBit j with
      | false =>
        have hY := Lib.hid (hyes.out (by rw [hT]; intro h; cases h))
        clear hyes hno
        go_wp2_with fail
        go_roundw
        case rel => exact ⟨j + 1, by omega, by go_num, hG2, hY⟩
        case measure => simp [intOf]; omega
      | true =>
        by_cases he : ls &&& b = 0
        · have hR := Lib.hid (hno.out hT he)
          rw [he] at hand
          clear he hyes hno
          go_wp2_with fail
          go_ret
          exact ⟨by rw [hR.out]; rfl, hG2⟩
        · have hY := Lib.hid (hyes.out (fun _ => he))
          clear hyes hno
          generalize ls &&& b = q at *
          have hq : ((q : Int) == 0) = false := by simpa using he
          have hqf : ((q : Int) = 0) = False := eq_false (by omega)
          go_wp2_with fail
          go_roundw
          case rel => exact ⟨j + 1, by omega, by go_num, hG2, hY⟩
          case measure => simp [intOf]; omega
    · obtain rfl : j = n := by omega
      have hR := Lib.hid (HYE.out hall.out)
      go_wp2_with fail
      go_ret
      exact ⟨by rw [hR.out]; rfl, hG⟩
end Go.Proofs.YtjlnompmhgjaaaaGreat


/- The reference's links: l07Back, l07Start, l07Step. -/
namespace Go.Proofs.YtjlnompmhgjaaaaGreat
open Go.RowKit
open Fm (Nd Tree)

set_option maxHeartbeats 2000000 in
set_option maxRecDepth 8192 in
theorem l07Back_c (v : Value) (A : List Nat) (m b : Nat) (w : World) (h : Ints w v (zs A)) (hA : Sm A) (hn30 : A.length ≤ 30) (hm : m < 2 ^ A.length) (hb : b < 1073741824) :
    Calls Tryz.prog 96 #[v, .int .i64 (m : Int), .int .i64 (b : Int)] w fun e w' => e = .returned (.bool (dif b (img A m) == 0)) ∧ Grew w w' := by
  have hm' : m < 1073741824 := Nat.lt_of_lt_of_le hm (pow30' hn30)
  have HH := Lib.hid (fun i (hi : i < 64) => l01Bit_c m i (by omega) hi)
  have HR := Lib.hid (img_imK hm hn30)
  have HY := Lib.hid (fun k => @imK_yes A m k)
  have HN := Lib.hid (fun k => @imK_no A m k)
  have HS := Lib.hid (fun k hk => imK_sm (m := m) hA k hk)
  have HT := Lib.hid (fun i (hi : i < A.length) => hA.at_ hi)
  have HO := Lib.hid (fun a b (ha : a < 1073741824) (hb : b < 1073741824) => or_i64 a b (by omega) (by omega))
  have HAN := Lib.hid (fun a b (ha : a < 1073741824) (hb : b < 1073741824) => andNot_i64 a b (by omega) (by omega))
  obtain ⟨A', c, rfl⟩ := ints_sliceN h
  have HC := Lib.hid (fun h0 => cellsN h h0)
  clear hm hm' h hA
  generalize img A m = R at *
  generalize hNA : A.length = n at *
  clear hNA
  go_enter Tryz.func96, Tryz.ntmps96
  go_wp2_with fail
  go_loopw [7, 8] (fun q i wr => ∃ j : Nat, j ≤ n ∧ i = .int .i64 j ∧ q = .int .i64 ((imK A m j : Nat) : Int) ∧ Grew w wr) (fun _ i _ => n - (intOf i).toNat)
  case atStart => exact ⟨0, by omega, rfl, rfl, Grew.refl _⟩
  case round =>
    obtain ⟨j, hj, rfl, rfl, hB⟩ := hrel
    by_cases hlt : j < n
    · obtain ⟨b2, o2, rfl, hcell2⟩ := HC.out (by omega)
      have hH := Lib.hid (HH.out j (by omega))
      have ho := HO.out _ _ (HS.out j (by omega)) (HT.out j hlt)
      have hY := Lib.hid (HY.out j)
      have hN := Lib.hid (HN.out j)
      have hcell := Lib.hid (hcell2 j hlt)
      clear hcell2
      generalize nt A j = y at *
      generalize m.testBit j = t at *
      generalize hsj : imK A m j = sj at *
      clear hsj
      go_wp2_with fail
      refine (hH.out _).mono ?_
      rintro e w2 ⟨rfl, hg2⟩
      have hB2 := hB.trans hg2
      have k1 := hcell.out _ hB2
      cases t with
      | true =>
        have hy := Lib.hid (hY.out rfl)
        go_wp2_with fail
        go_roundw
        case rel => exact ⟨j + 1, by omega, by go_num, by rw [hy.out], hB2⟩
        case measure => simp [intOf]; omega
      | false =>
        have hn := Lib.hid (hN.out rfl)
        go_wp2_with fail
        go_roundw
        case rel => exact ⟨j + 1, by omega, by go_num, by rw [hn.out], hB2⟩
        case measure => simp [intOf]; omega
    · obtain rfl : j = n := by omega
      have hr := Lib.hid HR.out
      have hdz := HAN.out b (imK A m j) hb (HS.out j (by omega))
      have hF : ((dif b (imK A m j) : Int) == 0) = (dif b R == 0) := by
        rw [HR.out, Bool.eq_iff_iff, beq_iff_eq, beq_iff_eq]
        omega
      generalize imK A m j = sj at *
      generalize hdd : dif b sj = dd at *
      clear hdd
      obtain ⟨RR, hRR⟩ : ∃ RR, RR = (dif b R == 0) := ⟨_, rfl⟩
      rw [← hRR] at hF
      have HRR := Lib.hid hRR
      clear hRR
      go_wp2_with fail
      go_ret
      exact ⟨congrArg (fun t => Ending.returned (.bool t)) HRR.out, hB⟩
def rowK (p : Nat → Nat → Bool) (n x : Nat) : List Int := zs ((List.range x).map fun i => pmk (p i) n)
theorem rowK_succ (p : Nat → Nat → Bool) (n x : Nat) : rowK p n (x + 1) = rowK p n x ++ [((pmk (p x) n : Nat) : Int)] := by
  unfold rowK
  rw [List.range_succ, List.map_append]
  simp [zs]
theorem rowK_len (p : Nat → Nat → Bool) (n x : Nat) : (rowK p n x).length = x := by simp [rowK, zs]
theorem pmk8 {p : Nat → Bool} {k : Nat} (h : k ≤ 8) : pmk p k < 256 := Nat.lt_of_lt_of_le (pmk_lt p k) (Nat.le_trans (Nat.pow_le_pow_right (n := 2) (by omega) h) (by decide))
set_option maxHeartbeats 4000000 in
set_option maxRecDepth 8192 in
theorem l07Start_c (v u : Value) (A V : List Nat) (w : World) (h : Ints w v (zs A)) (hu : Ints w u (zs V)) (h8 : A.length ≤ 8) (hVl : V.length = 6) (hV : Sm V) :
    Calls Tryz.prog 60 #[.agg #[.int .i64 (A.length : Int), v, u], .agg #[.int .i64 (A.length : Int), v, u]] w (GivesI w (rowK (atB V) A.length A.length)) := by
  obtain ⟨w2, hw2, hal, y0, y1, y2, z0, z1, z2⟩ := mdl_box2 w (.int .i64 (A.length : Int)) v u (.int .i64 (A.length : Int)) v u
  have hvE : ∃ A m c, v = .slice A m c := by obtain ⟨a, c, e⟩ := ints_slice h; exact ⟨_, _, _, e⟩
  have KA := Lib.hid (fun (x y : Nat) W (hW : Grew w2 W) (hx : x < A.length) (hy : y < A.length) => l07Atoms_c A.length v u V x y W hvE (hu.grew (hal.trans hW)) hVl hV (by omega) (by omega))
  have K1 := Lib.hid (fun y (hy : y ≤ 30) W => l01One_c y hy W)
  obtain ⟨A1, c1, rfl⟩ := ints_sliceN h
  have hu3 := ints_sliceN hu
  rw [hVl] at hu3
  obtain ⟨A2, c2, rfl⟩ := hu3
  have HG := Lib.hid hal
  have hs2 : w2.heap.size = w.heap.size + 1 + 1 := by rw [hw2]; simp
  clear h hu hV hVl hal hvE
  generalize hpp : atB V = p at *
  generalize A.length = n at *
  go_enter Tryz.func60, Tryz.ntmps60
  go_wp2_with fail
  simp only [← hw2]
  clear hw2
  have HE : Hid (OwnI (w2.alloc (.cells #[] 2)) w2.heap.size (.slice (some ⟨w.heap.size + 1 + 1, 0, none⟩) 0 0) (rowK p n 0)) := Lib.hid (by have := own_emptyI w2; rw [show (Value.slice (some ⟨w2.heap.size, 0, none⟩) 0 0) = Value.slice (some ⟨w.heap.size + 1 + 1, 0, none⟩) 0 0 by rw [hs2]] at this; exact this)
  have hge := (Grew.refl w2).alloc (.cells #[] 2)
  obtain ⟨w3, hw3⟩ : ∃ w3, w3 = w2.alloc (.cells #[] 2) := ⟨_, rfl⟩
  rw [← hw3] at HE hge
  simp only [← hw3]
  clear hw3
  go_loopw [5, 6] (fun ov i wr => ∃ (x : Nat), x ≤ n ∧ i = .int .i64 (x : Int) ∧ Hid (OwnI wr w2.heap.size ov (rowK p n x)) ∧ Grew w2 wr) (fun _ i _ => n - (intOf i).toNat)
  case atStart => exact ⟨0, by omega, rfl, HE, hge⟩
  case round =>
    obtain ⟨x, hx, rfl, hO, hB⟩ := hrel
    by_cases hlt : x < n
    · go_wp2_with fail
      go_loopw [7, 8] (fun mv i wx => ∃ (y : Nat), y ≤ n ∧ i = .int .i64 (y : Int) ∧ mv = .int .i64 ((pmk (p x) y : Nat) : Int) ∧ Grew w2 wx ∧ Hid (OwnI wx w2.heap.size u5 (rowK p n x))) (fun _ i _ => n - (intOf i).toNat)
      case atStart => exact ⟨0, by omega, rfl, rfl, hB, hO⟩
      case round =>
        clear hB hO
        obtain ⟨y, hy, rfl, rfl, hB, hO⟩ := hrel
        by_cases hly : y < n
        · have hYY := Lib.hid (pmk_yes (p := p x) (k := y))
          have hNN := Lib.hid (pmk_no (p := p x) (k := y))
          have hK0 := pmk8 (p := p x) (k := y) (by omega)
          have hp2 : 2 ^ y ≤ 128 := Nat.le_trans (Nat.pow_le_pow_right (n := 2) (by omega) (show y ≤ 7 by omega)) (by decide)
          have hor := or_i64 (pmk (p x) y) (2 ^ y) (by omega) (by omega)
          generalize hK1 : pmk (p x) (y + 1) = K1' at *
          have HK1 := Lib.hid hK1
          clear hK1
          generalize pmk (p x) y = K0 at *
          have h1 := Lib.hid (K1.out y (by omega))
          generalize (2 : Nat) ^ y = py at *
          have hA5 := Lib.hid (KA.out x y wr hB hlt hly)
          go_wp2_with fail
          refine hA5.out.mono ?_
          rintro e w5 ⟨rfl, hg5⟩
          have hB5 := hB.trans hg5
          cases hpx : p x y with
          | false =>
            have hv := Lib.hid (hNN.out (hpx))
            go_wp2_with fail
            go_roundw
            case rel => exact ⟨y + 1, by omega, by go_num, by rw [HK1.out, hv.out], hB5, Lib.hid (hO.out.grew hg5)⟩
            case measure => simp [intOf]; omega
          | true =>
            have hv := Lib.hid (hYY.out (hpx))
            go_wp2_with fail
            refine (h1.out _).mono ?_
            rintro e w6 ⟨rfl, hg6⟩
            go_wp2_with fail
            go_roundw
            case rel => exact ⟨y + 1, by omega, by go_num, by rw [HK1.out, hv.out], hB5.trans hg6, Lib.hid (hO.out.grew (hg5.trans hg6))⟩
            case measure => simp [intOf]; omega
        · obtain rfl : y = n := by omega
          have hpl := hO.out
          have hO1 := hO.out.grew ((Grew.refl wr).alloc (.cells #[.int .i64 ((pmk (p x) y : Nat) : Int)] 2))
          have hll : (rowK p y x).length ≤ 1048576 := by rw [rowK_len]; omega
          have HSU := Lib.hid (rowK_succ p y x)
          generalize rowK p y x = rows at *
          generalize pmk (p x) y = K0 at *
          go_wp2_with (first | (at_builtin; refine wpList_appI (w0 := w2) _ _ rfl rfl _ rows rfl hO1 (hB.alloc _) _ (K0 : Int) rfl (rd_litI _ _ _) hll ?_; intro v4 w4 hO4 hg4 _))
          go_roundw
          case rel => exact ⟨x + 1, by omega, by go_num, Lib.hid (by rw [HSU.out]; exact hO4), hg4⟩
          case measure => simp [intOf]; omega
    · obtain rfl : x = n := by omega
      have HOO := Lib.hid (hO.out.base HG.out.size)
      have HGG := Lib.hid (HG.out.trans hB)
      go_wp2_with fail
      go_ret
      exact ⟨_, rfl, HOO.out, HGG.out⟩
set_option maxHeartbeats 4000000 in
set_option maxRecDepth 8192 in
theorem l07Step_c (v u vl : Value) (A V L : List Nat) (w : World) (h : Ints w v (zs A)) (hu : Ints w u (zs V)) (hL : Ints w vl (zs L)) (hA : Rl A) (h8 : A.length ≤ 8) (hLl : L.length = A.length) (hLs : Sm L) (hVl : V.length = 6) (hV : Sm V) :
    Calls Tryz.prog 61 #[.agg #[.int .i64 (A.length : Int), v, u], .agg #[.int .i64 (A.length : Int), v, u], vl] w (GivesI w (rowK (stB A V L) A.length A.length)) := by
  obtain ⟨w2, hw2, hal, y0, y1, y2, z0, z1, z2⟩ := mdl_box2 w (.int .i64 (A.length : Int)) v u (.int .i64 (A.length : Int)) v u
  have hvE : ∃ A m c, v = .slice A m c := by obtain ⟨a, c, e⟩ := ints_slice h; exact ⟨_, _, _, e⟩
  have KA := Lib.hid (fun (x y : Nat) W (hW : Grew w2 W) (hx : x < A.length) (hy : y < A.length) => l07Atoms_c A.length v u V x y W hvE (hu.grew (hal.trans hW)) hVl hV (by omega) (by omega))
  have K1 := Lib.hid (fun y (hy : y ≤ 30) W => l01One_c y hy W)
  have KF := Lib.hid (fun (x y : Nat) W (hW : Grew w2 W) (hx : x < A.length) (hy : y < A.length) => show Calls Tryz.prog 95 #[vl, .int .i64 ((nt A x : Nat) : Int), .int .i64 ((nt A y : Nat) : Int)] W fun e w' => e = .returned (.bool (fthB A L x y)) ∧ Grew W w' from by
    have := l07Forth_c vl L (nt A x) (nt A y) W (hL.grew (hal.trans hW)) hLs (by omega) (hA.sm.at_ hx) (hA.sm.at_ hy)
    rwa [fthR_eq hA hLl hx] at this)
  have KB := Lib.hid (fun (x y : Nat) W (hW : Grew w2 W) (hx : x < A.length) (hy : y < A.length) => show Calls Tryz.prog 96 #[vl, .int .i64 ((nt A x : Nat) : Int), .int .i64 ((nt A y : Nat) : Int)] W fun e w' => e = .returned (.bool (bakB A L x y)) ∧ Grew W w' from
    l07Back_c vl L (nt A x) (nt A y) W (hL.grew (hal.trans hW)) hLs (by omega) (by rw [hLl]; exact hA.lt hx) (hA.sm.at_ hy))
  have HST := Lib.hid (fun x y => show stB A V L x y = (atB V x y && (fthB A L x y && bakB A L x y)) from rfl)
  obtain ⟨A1, c1, rfl⟩ := ints_sliceN h
  have hu3 := ints_sliceN hu
  rw [hVl] at hu3
  obtain ⟨A2, c2, rfl⟩ := hu3
  have HG := Lib.hid hal
  have hs2 : w2.heap.size = w.heap.size + 1 + 1 := by rw [hw2]; simp
  have HRC := Lib.hid (fun h0 => cellsN h h0)
  clear h hu hV hVl hal hvE hA hL hLs hLl
  generalize hpp : stB A V L = p at *
  generalize A.length = n at *
  go_enter Tryz.func61, Tryz.ntmps61
  go_wp2_with fail
  simp only [← hw2]
  clear hw2
  have HE : Hid (OwnI (w2.alloc (.cells #[] 2)) w2.heap.size (.slice (some ⟨w.heap.size + 1 + 1, 0, none⟩) 0 0) (rowK p n 0)) := Lib.hid (by have := own_emptyI w2; rw [show (Value.slice (some ⟨w2.heap.size, 0, none⟩) 0 0) = Value.slice (some ⟨w.heap.size + 1 + 1, 0, none⟩) 0 0 by rw [hs2]] at this; exact this)
  have hge := (Grew.refl w2).alloc (.cells #[] 2)
  obtain ⟨w3, hw3⟩ : ∃ w3, w3 = w2.alloc (.cells #[] 2) := ⟨_, rfl⟩
  rw [← hw3] at HE hge
  simp only [← hw3]
  clear hw3
  go_loopw [7, 8] (fun ov i wr => ∃ (x : Nat), x ≤ n ∧ i = .int .i64 (x : Int) ∧ Hid (OwnI wr w2.heap.size ov (rowK p n x)) ∧ Grew w2 wr) (fun _ i _ => n - (intOf i).toNat)
  case atStart => exact ⟨0, by omega, rfl, HE, hge⟩
  case round =>
    obtain ⟨x, hx, rfl, hO, hB⟩ := hrel
    by_cases hlt : x < n
    · go_wp2_with fail
      go_loopw [9, 10] (fun mv i wx => ∃ (y : Nat), y ≤ n ∧ i = .int .i64 (y : Int) ∧ mv = .int .i64 ((pmk (p x) y : Nat) : Int) ∧ Grew w2 wx ∧ Hid (OwnI wx w2.heap.size u7 (rowK p n x))) (fun _ i _ => n - (intOf i).toNat)
      case atStart => exact ⟨0, by omega, rfl, rfl, hB, hO⟩
      case round =>
        clear hB hO
        obtain ⟨y, hy, rfl, rfl, hB, hO⟩ := hrel
        by_cases hly : y < n
        · have hYY := Lib.hid (pmk_yes (p := p x) (k := y))
          have hNN := Lib.hid (pmk_no (p := p x) (k := y))
          have hK0 := pmk8 (p := p x) (k := y) (by omega)
          have hp2 : 2 ^ y ≤ 128 := Nat.le_trans (Nat.pow_le_pow_right (n := 2) (by omega) (show y ≤ 7 by omega)) (by decide)
          have hor := or_i64 (pmk (p x) y) (2 ^ y) (by omega) (by omega)
          generalize hK1 : pmk (p x) (y + 1) = K1' at *
          have HK1 := Lib.hid hK1
          clear hK1
          generalize pmk (p x) y = K0 at *
          have h1 := Lib.hid (K1.out y (by omega))
          generalize (2 : Nat) ^ y = py at *
          obtain ⟨br, orr, rfl, hrc⟩ := HRC.out (by omega)
          have hA5 := Lib.hid (fun W hW => KA.out x y W hW hlt hly)
          have hF5 := Lib.hid (fun W hW => KF.out x y W hW hlt hly)
          have hB5' := Lib.hid (fun W hW => KB.out x y W hW hlt hly)
          have c0 := fun W hW => hrc x hlt W (HG.out.trans hW)
          have c1' := fun W hW => hrc y hly W (HG.out.trans hW)
          have hst := HST.out x y
          clear hrc
          have hBd := hB.drew
          have hx0 : (0 : Int) ≤ (x : Int) := by omega
          have hx1 : (x : Int) < (n : Int) := by omega
          have hy0 : (0 : Int) ≤ (y : Int) := by omega
          have hy1 : (y : Int) < (n : Int) := by omega
          generalize nt A x = ax at *
          generalize nt A y = ay at *
          generalize fthB A L x y = F at *
          generalize bakB A L x y = B at *
          generalize atB V x y = T at *
          go_wp2_with fail
          go_quiet (fail)
          go_wp2_with fail
          have hBq := hB.drewN 1
          refine (hA5.out _ (by first | exact hB.drewN _ | assumption)).mono ?_
          rintro e w5 ⟨rfl, hg5⟩
          have hgw : Grew wr w5 := ((Grew.refl wr).drewN _).trans hg5
          have hB5 := hB.trans hgw
          cases T with
          | false =>
            have hv := Lib.hid (hNN.out (by rw [hst]; rfl))
            go_wp2_with fail
            go_roundw
            case rel => exact ⟨y + 1, by omega, by go_num, by rw [HK1.out, hv.out], hB5, Lib.hid (hO.out.grew hgw)⟩
            case measure => simp [intOf]; omega
          | true =>
            go_wp2_with fail
            refine (hF5.out _ hB5).mono ?_
            rintro e w7 ⟨rfl, hg7⟩
            have hgw7 := hgw.trans hg7
            have hB7 := hB.trans hgw7
            cases F with
            | false =>
              have hv := Lib.hid (hNN.out (by rw [hst]; rfl))
              go_wp2_with fail
              go_roundw
              case rel => exact ⟨y + 1, by omega, by go_num, by rw [HK1.out, hv.out], hB7, Lib.hid (hO.out.grew hgw7)⟩
              case measure => simp [intOf]; omega
            | true =>
              go_wp2_with fail
              refine (hB5'.out _ hB7).mono ?_
              rintro e w8 ⟨rfl, hg8⟩
              have hgw8 := hgw7.trans hg8
              have hB8 := hB.trans hgw8
              cases B with
              | false =>
                have hv := Lib.hid (hNN.out (by rw [hst]; rfl))
                go_wp2_with fail
                go_roundw
                case rel => exact ⟨y + 1, by omega, by go_num, by rw [HK1.out, hv.out], hB8, Lib.hid (hO.out.grew hgw8)⟩
                case measure => simp [intOf]; omega
              | true =>
                have hv := Lib.hid (hYY.out (by rw [hst]; rfl))
                go_wp2_with fail
                refine (h1.out _).mono ?_
                rintro e w6 ⟨rfl, hg6⟩
                go_wp2_with fail
                go_roundw
                case rel => exact ⟨y + 1, by omega, by go_num, by rw [HK1.out, hv.out], hB8.trans hg6, Lib.hid (hO.out.grew (hgw8.trans hg6))⟩
                case measure => simp [intOf]; omega
        · obtain rfl : y = n := by omega
          have hpl := hO.out
          have hO1 := hO.out.grew ((Grew.refl wr).alloc (.cells #[.int .i64 ((pmk (p x) y : Nat) : Int)] 2))
          have hll : (rowK p y x).length ≤ 1048576 := by rw [rowK_len]; omega
          have HSU := Lib.hid (rowK_succ p y x)
          generalize rowK p y x = rows at *
          generalize pmk (p x) y = K0 at *
          go_wp2_with (first | (at_builtin; refine wpList_appI (w0 := w2) _ _ rfl rfl _ rows rfl hO1 (hB.alloc _) _ (K0 : Int) rfl (rd_litI _ _ _) hll ?_; intro v4 w4 hO4 hg4 _))
          go_roundw
          case rel => exact ⟨x + 1, by omega, by go_num, Lib.hid (by rw [HSU.out]; exact hO4), hg4⟩
          case measure => simp [intOf]; omega
    · obtain rfl : x = n := by omega
      have HOO := Lib.hid (hO.out.base HG.out.size)
      have HGG := Lib.hid (HG.out.trans hB)
      go_wp2_with fail
      go_ret
      exact ⟨_, rfl, HOO.out, HGG.out⟩
end Go.Proofs.YtjlnompmhgjaaaaGreat


/- The reference's links of all rounds: l07Bounded, BoundedBisimulation. -/
namespace Go.Proofs.YtjlnompmhgjaaaaGreat
open Go.RowKit
open Go.MapKept
open Fm (Nd Tree)

theorem cell_ltW {w : World} {b j : Nat} {x : Value} (h : w.cell? ⟨b, j, none⟩ = some x) : b < w.heap.size := by
  rcases Nat.lt_or_ge b w.heap.size with h1 | h1
  · exact h1
  · unfold World.cell? at h
    simp [Array.getElem?_eq_none h1] at h
theorem run_append_keptW {P : Program} (w : World) (base : Nat) (t ty e : TypeId) (i : TypeInfo) (z : Value) (bytes : Nat) (ht : P.underlying t = some (.slice e)) (hi : P.info? e = some i) (hz : i.zero = some z)
    (hsize : i.size = 1) (hby : i.bytes = bytes) (hzs : z.cells.size = 1) (v : Value) (n : Nat) (xs : List Value) (hown : w.ownsRow base e 1 v n xs) (a : Addr) (c : Nat) (u : Value)
    (hnews : ∀ j y, [u][j]? = some y → w.cell? (a.add j) = some y) (h1 : u.oneCell' = true) (h63 : n + 1 ≤ maxLen) (hbytes : (n + 1) * bytes ≤ 140737488355328) (hbase : base ≤ w.heap.size) :
    ∃ v' w', (Builtin.append_ #[t, t] ty #[v, .slice (some a) 1 c]).run P w = .ok v' w' ∧ w'.ownsRow base e 1 v' (n + 1) (xs ++ [u]) ∧ w.grownBy w' v.ownBlock ∧ ∀ b j x, j < n → w.cell? ⟨b, j, none⟩ = some x → w'.cell? ⟨b, j, none⟩ = some x := by
  obtain ⟨v', w', hr, h2, h3, h4, h5⟩ := run_append_own_at (P := P) w base t ty e i z 1 bytes ht hi hz hsize hby hzs (by omega) v n xs hown a 1 c [u] rfl hnews (by simp [h1]) h63 hbytes hbase
  refine ⟨v', w', hr, h2, h3, fun b j x hj hx => ?_⟩
  have hb := cell_ltW hx
  by_cases hne : some b = v.ownBlock
  · rcases hown.2 with ⟨rfl, _⟩ | ⟨g, cap, cur, rfl, hbg, hg, hnc, hcm, hcs, htake⟩
    · cases hne
    · obtain rfl : b = g := by simpa [Value.ownBlock] using hne
      have hlen : xs.length = n := by have := hown.1; omega
      have hxj : xs[j]? = some x := by
        have hq := hown.cells (g := b) rfl j xs[j] (List.getElem?_eq_getElem (by omega))
        rw [show (⟨b, 0, none⟩ : Addr).add j = ⟨b, j, none⟩ from by simp [Addr.add]; try omega] at hq
        rw [hx] at hq
        rw [List.getElem?_eq_getElem (show j < xs.length by omega)]
        exact hq.symm
      by_cases hroom : n + 1 ≤ cap
      · have hrm := run_append_room (P := P) w t ty e i ht hi b n cap cur hg a 1 c [u] (by rw [hsize]; rfl) hnews (by simp [h1]) hroom (by rw [hsize]; simp; omega)
        rw [hr] at hrm
        simp only [Result.ok.injEq] at hrm
        obtain ⟨rfl, -⟩ := hrm
        have hq := h2.cells (g := b) rfl j x (by rw [List.getElem?_append_left (by omega)]; exact hxj)
        rwa [show (⟨b, 0, none⟩ : Addr).add j = ⟨b, j, none⟩ from by simp [Addr.add]; try omega] at hq
      · have hgw := run_append_grow (P := P) w t ty e i z ht hi hz ⟨b, 0, none⟩ n cap xs (by rw [hsize]; omega) (hown.cells (g := b) rfl) a 1 c [u] (by rw [hsize]; rfl) hnews (by omega) (by simp only [maxLen] at h63; omega) (growslice_fits (by omega) (by rw [hby]; exact hbytes))
        rw [hr] at hgw
        simp only [Result.ok.injEq] at hgw
        obtain ⟨-, rfl⟩ := hgw
        exact (World.cell?_of_block (heap_alloc_old w.drew _ hb)).trans hx
  · exact (World.cell?_of_block (h3.block b hb hne)).trans hx
theorem step_appUK {ops : Array Oper} {o : Oper} {a : Act} {K : Act → World → Prop} {Q : Exit → Act → World → Prop} {E : Prop} {w : World} (B : Nat) (hgd : o.guard = none) (s x : Operand)
    (ho : o.op = .call { callee := .builtin .append, args := #[s, x], argTypes := #[55, 55] })
    (v : Value) (Us : List (List Int)) (hs : a.eval s = v) (hown : OwnU w B v Us) (hB : B ≤ w.heap.size) (b c : Nat) (u : Value) (U : List Int) (hx : a.eval x = .slice (some ⟨b, 0, none⟩) 1 c) (hc : w.cell? ⟨b, 0, none⟩ = some u) (hu : OwnI w B u U) (hn : Us.length ≤ 1048576)
    (h : ∀ v' w', OwnU w' B v' (Us ++ [U]) → w.grownBy w' v.ownBlock → (∀ b j y, j < Us.length → w.cell? ⟨b, j, none⟩ = some y → w'.cell? ⟨b, j, none⟩ = some y) → K (a.put o.dst v') w') : if Region.wanted o (yielded ops a.tmps) = true then Oper.wp Tryz.prog o a w K Q else E := by
  have hw : Region.wanted o (yielded ops a.tmps) = true := by simp [Region.wanted, hgd]
  rw [if_pos hw]
  obtain ⟨i0, hi0, hz0, hz1, hz2⟩ := info_parts infoIs
  obtain ⟨us, h1, h2, h3⟩ := hown
  have hu1 : u.oneCell' = true := by
    obtain ⟨A, c, rfl⟩ := ints_slice hu.ints
    rfl
  obtain ⟨v', w', hrun, k1, k2, k3⟩ := run_append_keptW (P := Tryz.prog) w B 55 o.type 24 i0 _ 24 Tryz.underlying55 hi0 hz0 hz1 hz2 rfl v Us.length us h2 ⟨b, 0, none⟩ c u (fun j y hj => by
    have hj0 : j = 0 := by
      have := (List.getElem?_eq_some_iff.1 hj).1
      simp at this
      omega
    subst hj0
    simp at hj
    subst hj
    rw [Addr.add_lit]
    exact hc) hu1 (by unfold maxLen; omega) (by omega) hB
  unfold Oper.wp execOp
  simp only [ho, resolve, invoke, builtin, Sem.run_bind, Sem.run_pure, Result.andThen_ok, List.map_toArray, List.map_cons, List.map_nil, hs, hx, hrun]
  exact h v' w' (snocU h1 h2 h3 hu k1 k2) k2 k3
def SB (w0 : World) (gr k : Nat) (x : Value) (W : World) : Prop := Grew w0 W ∧ W.cell? ⟨gr, k, none⟩ = some x
theorem SB.grew {w0 W W' : World} {gr k : Nat} {x : Value} (h : SB w0 gr k x W) (hg : Grew W W') : SB w0 gr k x W' := ⟨h.1.trans hg, (hg.cell (p := ⟨gr, k, none⟩) (cell_ltW h.2)).trans h.2⟩
set_option maxHeartbeats 4000000 in
set_option maxRecDepth 100000 in
theorem l07Bounded_c (v u : Value) (A V : List Nat) (w : World) (h : Ints w v (zs A)) (hu : Ints w u (zs V)) (hA : Rl A) (h8 : A.length ≤ 8) (hVl : V.length = 6) (hV : Sm V) :
    Calls Tryz.prog 29 #[.agg #[.int .i64 (A.length : Int), v, u], .agg #[.int .i64 (A.length : Int), v, u]] w fun e w' => ∃ r, e = .returned r ∧ OwnU w' w.heap.size r (lrows A V 17) ∧ Grew w w' := by
  obtain ⟨w2, hw2, hal, y0, y1, y2, z0, z1, z2⟩ := mdl_box2 w (.int .i64 (A.length : Int)) v u (.int .i64 (A.length : Int)) v u
  have KS := Lib.hid (fun W (hW : Grew w2 W) => show Calls Tryz.prog 60 #[.agg #[.int .i64 (A.length : Int), v, u], .agg #[.int .i64 (A.length : Int), v, u]] W (GivesI W (zs (lks A V 0))) from l07Start_c v u A V W (h.grew (hal.trans hW)) (hu.grew (hal.trans hW)) h8 hVl hV)
  have KT := Lib.hid (fun k vl W (hW : Grew w2 W) (hL : Ints W vl (zs (lks A V k))) => show Calls Tryz.prog 61 #[.agg #[.int .i64 (A.length : Int), v, u], .agg #[.int .i64 (A.length : Int), v, u], vl] W (GivesI W (zs (lks A V (k + 1)))) from l07Step_c v u vl A V (lks A V k) W (h.grew (hal.trans hW)) (hu.grew (hal.trans hW)) hL hA h8 (lks_len A V k) (lks_sm h8 k) hVl hV)
  obtain ⟨A1, c1, rfl⟩ := ints_sliceN h
  have hu3 := ints_sliceN hu
  rw [hVl] at hu3
  obtain ⟨A2, c2, rfl⟩ := hu3
  have HG := Lib.hid hal
  clear h hu hA hV hVl hal
  generalize A.length = n at *
  have r2 := Grew.refl w2
  go_enter Tryz.func29, Tryz.ntmps29
  go_wp2_with fail
  simp only [← hw2]
  clear hw2
  refine (KS.out _ r2).mono ?_
  rintro e w3 ⟨u3, rfl, ho3, hg3⟩
  obtain ⟨A3, c3, rfl⟩ := ints_slice ho3.ints
  generalize hl3 : (zs (lks A V 0)).length = l3 at *
  clear hl3
  have HU3 : Hid (OwnU (w3.alloc (.cells #[.slice A3 l3 c3] 24)) w2.heap.size (.slice (some ⟨w3.heap.size, 0, none⟩) 1 1) (lrows A V (0 + 1))) := Lib.hid (OwnU.lit1 w3 w3.heap.size rfl ho3 hg3.size)
  have hg4 := hg3.alloc (.cells #[.slice A3 l3 c3] 24)
  go_wp2_with fail
  obtain ⟨w4, hw4⟩ : ∃ w4, w4 = w3.alloc (.cells #[.slice A3 l3 c3] 24) := ⟨_, rfl⟩
  rw [← hw4] at HU3 hg4
  simp only [← hw4]
  clear hw4 ho3 hg3 r2
  go_loopw [5, 6] (fun ov i wr => ∃ (k : Nat), k ≤ 16 ∧ i = .int .i64 (k : Int) ∧ Hid (OwnU wr w2.heap.size ov (lrows A V (k + 1))) ∧ Grew w2 wr) (fun _ i _ => 16 - (intOf i).toNat)
  case atStart => exact ⟨0, by omega, rfl, HU3, hg4⟩
  case round =>
    obtain ⟨k, hk, rfl, hO, hB⟩ := hrel
    by_cases hlt : k < 16
    · obtain ⟨gr, c, vk, he, hvk, hok⟩ := hO.out.at_ (i := k) (by rw [lrows_len]; omega)
      rw [lrows_len] at he
      subst he
      rw [lrows_at (by omega)] at hok
      obtain ⟨Ak, ck, rfl⟩ := ints_slice hok.ints
      generalize (zs (lks A V k)).length = lk at *
      have hSd : SB w2 gr k (.slice Ak lk ck) wr.drew := ⟨hB.drew, hvk _ (Grew.refl wr).drew⟩
      have KT5 := Lib.hid (fun W (hW : Grew wr.drew W) => KT.out k (.slice Ak lk ck) W (hSd.1.trans hW) ((hok.ints.grew (Grew.refl wr).drew).grew hW))
      have HOd := Lib.hid (hO.out.grew (Grew.refl wr).drew)
      have q0 := fun W (hW : SB w2 gr k (.slice Ak lk ck) W) => y0 W hW.1
      have q1 := fun W (hW : SB w2 gr k (.slice Ak lk ck) W) => y1 W hW.1
      have q2 := fun W (hW : SB w2 gr k (.slice Ak lk ck) W) => y2 W hW.1
      have p0 := fun W (hW : SB w2 gr k (.slice Ak lk ck) W) => z0 W hW.1
      have p1 := fun W (hW : SB w2 gr k (.slice Ak lk ck) W) => z1 W hW.1
      have p2 := fun W (hW : SB w2 gr k (.slice Ak lk ck) W) => z2 W hW.1
      have p3 := fun W (hW : SB w2 gr k (.slice Ak lk ck) W) => hW.2
      have hkl : k < (lrows A V (k + 1)).length := by rw [lrows_len]; omega
      have hll : (lrows A V (k + 1)).length ≤ 1048576 := by rw [lrows_len]; omega
      have HSU := Lib.hid (lrows_succ A V (k + 1))
      generalize zs (lks A V (k + 1)) = row at *
      generalize lrows A V (k + 1) = rows at *
      have hk0 : (0 : Int) ≤ (k : Int) := by omega
      have hk1 : (k : Int) < (k : Int) + 1 := by omega
      go_upto_region 5 with fail
      go_region_held3 (fun w' => SB w2 gr k (.slice Ak lk ck) w') (assumption) (first
        | (go_at_call 61; refine (KT5.out _ (Grew.refl _)).mono ?_; rintro e w7 ⟨u7, rfl, ho7, hg7⟩; obtain ⟨A7, c7, rfl⟩ := ints_slice ho7.ints; generalize row.length = l7 at *; have hS7 := hSd.grew hg7; have hS7a := hS7.grew ((Grew.refl w7).alloc (.cells #[.slice A7 l7 c7] 24)))
        | (refine step_appUK w2.heap.size rfl (.tmp 15) (.tmp 23) rfl (.slice (some ⟨gr, 0, none⟩) (k + 1) c) rows (by simp [Act.eval, Act.put]) ((HOd.out.grew hg7).grew ((Grew.refl w7).alloc (.cells #[.slice A7 l7 c7] 24))) hS7a.1.size w7.heap.size 1 (.slice A7 l7 c7) row (by simp [Act.eval, Act.put]) (by simp) ((ho7.base hSd.1.size).grew ((Grew.refl w7).alloc (.cells #[.slice A7 l7 c7] 24))) hll ?_; intro v8 w8 hO8 hg8 hk8; have hG8 := hS7a.1.grown hg8 (fun g hg' => own_of_geU HOd.out hg'); have hS8 : SB w2 gr k (.slice Ak lk ck) w8 := ⟨hG8, hk8 gr k _ hkl hS7a.2⟩; have hv8 := hO8.slice; rw [show (rows ++ [row]).length = rows.length + 1 from by simp] at hv8; obtain ⟨A8, c8, rfl⟩ := hv8))
      go_wp2_with fail
      go_roundw
      case rel => exact ⟨k + 1, by omega, by go_num, Lib.hid (by rw [HSU.out]; exact hO8), hG8⟩
      case measure => simp [intOf]; omega
    · obtain rfl : k = 16 := by omega
      have HOO := Lib.hid (hO.out.base HG.out.size)
      have HGG := Lib.hid (HG.out.trans hB)
      go_wp2_with fail
      go_ret
      exact ⟨_, rfl, HOO.out, HGG.out⟩
set_option maxHeartbeats 4000000 in
set_option maxRecDepth 8192 in
theorem l07Two_c (v u : Value) (n : Nat) (L V : List Int) (w : World) (h : Ints w v L) (hu : Ints w u V) (hmd : mdB (n : Int) L V = true) :
    Calls Tryz.prog 28 #[.agg #[.int .i64 (n : Int), v, u], .agg #[.int .i64 (n : Int), v, u]] w fun e w' => e = .returned (.int .i64 0) ∧ Grew w w' := by
  obtain ⟨w2, hw2, hal, y0, y1, y2, z0, z1, z2⟩ := mdl_box2 w (.int .i64 (n : Int)) v u (.int .i64 (n : Int)) v u
  have KM := Lib.hid (fun W (hW : Grew w2 W) => show Calls Tryz.prog 21 #[.agg #[.int .i64 (n : Int), v, u]] W fun e w' => e = .returned (.bool true) ∧ Grew W w' from by
    have := l06Is_c (n : Int) v u L V W (h.grew (hal.trans hW)) (hu.grew (hal.trans hW))
    rwa [hmd] at this)
  have HG := Lib.hid hal
  obtain ⟨A1, c1, rfl⟩ := ints_slice h
  obtain ⟨A2, c2, rfl⟩ := ints_slice hu
  clear h hu hmd hal
  generalize L.length = l1 at *
  generalize V.length = l2 at *
  have r2 := Grew.refl w2
  go_enter Tryz.func28, Tryz.ntmps28
  go_wp2_with fail
  simp only [← hw2]
  clear hw2
  refine (KM.out _ r2).mono ?_
  rintro e w3 ⟨rfl, hg3⟩
  go_wp2_with fail
  refine (KM.out _ hg3).mono ?_
  rintro e w4 ⟨rfl, hg4⟩
  go_wp2_with fail
  go_ret
  exact ⟨rfl, HG.out.trans (hg3.trans hg4)⟩
set_option maxHeartbeats 4000000 in
set_option maxRecDepth 8192 in
theorem specBounded_c (v u : Value) (A V : List Nat) (k : Nat) (w : World) (h : Ints w v (zs A)) (hu : Ints w u (zs V)) (hA : Rl A) (h8 : A.length ≤ 8) (hVl : V.length = 6) (hV : Sm V) (hk : k ≤ 16) (hmd : mdB (A.length : Int) (zs A) (zs V) = true) :
    Calls Tryz.prog 11 #[.agg #[.int .i64 (A.length : Int), v, u], .agg #[.int .i64 (A.length : Int), v, u], .int .i64 (k : Int)] w fun e w' => ∃ r, e = .returned (.tuple #[r, .int .i64 0]) ∧ OwnI w' w.heap.size r (zs (lks A V k)) ∧ Grew w w' := by
  obtain ⟨w2, hw2, hal, y0, y1, y2, z0, z1, z2⟩ := mdl_box2 w (.int .i64 (A.length : Int)) v u (.int .i64 (A.length : Int)) v u
  have KM := Lib.hid (fun W (hW : Grew w2 W) => l07Two_c v u A.length (zs A) (zs V) W (h.grew (hal.trans hW)) (hu.grew (hal.trans hW)) hmd)
  have KR := Lib.hid (fun W => show Calls Tryz.prog 23 #[.int .i64 (k : Int), .int .i64 0, .int .i64 16] W fun e w' => e = .returned (.bool true) ∧ Grew W w' from by
    have := l01In_c (k : Int) 0 16 W
    rwa [show decide (0 ≤ (k : Int) ∧ (k : Int) ≤ 16) = true from decide_eq_true ⟨by omega, by omega⟩] at this)
  have KB := Lib.hid (fun W (hW : Grew w2 W) => l07Bounded_c v u A V W (h.grew (hal.trans hW)) (hu.grew (hal.trans hW)) hA h8 hVl hV)
  have HG := Lib.hid hal
  obtain ⟨A1, c1, rfl⟩ := ints_sliceN h
  have hu3 := ints_sliceN hu
  rw [hVl] at hu3
  obtain ⟨A2, c2, rfl⟩ := hu3
  clear h hu hA hV hVl hmd hal
  generalize A.length = n at *
  have r2 := Grew.refl w2
  go_enter Tryz.func11, Tryz.ntmps11
  go_wp2_with fail
  simp only [← hw2]
  clear hw2
  refine (KM.out _ r2).mono ?_
  rintro e w3 ⟨rfl, hg3⟩
  go_wp2_with fail
  refine (KR.out _).mono ?_
  rintro e w5 ⟨rfl, hg5⟩
  have hg5 := hg3.trans hg5
  go_wp2_with fail
  refine (KB.out _ hg5).mono ?_
  rintro e w6 ⟨r, rfl, hO6, hg6⟩
  obtain ⟨gr, c, ur, rfl, hur, hor⟩ := hO6.at_ (i := k) (by rw [lrows_len]; omega)
  rw [lrows_at (by omega)] at hor
  obtain ⟨Ar, lr, cr, rfl⟩ : ∃ A m c, ur = .slice A m c := by obtain ⟨a, c, e⟩ := ints_slice hor.ints; exact ⟨_, _, _, e⟩
  have HOR := Lib.hid (hor.base (HG.out.trans hg5).size)
  have hur0 := hur w6 (Grew.refl w6)
  have HGG := Lib.hid ((HG.out.trans hg5).trans hg6)
  have hj0 : (0 : Int) ≤ (k : Int) := by omega
  have hj1 : (k : Int) < 17 := by omega
  rw [lrows_len]
  clear hO6 hur hor KM KB KR y0 y1 y2 z0 z1 z2
  go_wp2_with fail
  go_ret2
  exact ⟨_, rfl, HOR.out, HGG.out⟩
end Go.Proofs.YtjlnompmhgjaaaaGreat


/- The law of the formulas of worlds: what is said of the values that are struck. -/
namespace Go.Proofs.YtjlnompmhgjaaaaGreat
open Go.RowKit
open Fm (Nd Tree)

set_option maxHeartbeats 1000000 in
theorem likeInts_same (v1 v2 : Value) (L : List Int) (w : World) (h1 : Ints w v1 L) (h2 : Ints w v2 L) (hn : L.length ≤ 1099511627776) :
    Calls Tryz.prog 12 #[v1, v2] w fun e w' => e = .returned (.bool true) ∧ Grew w w' := by
  rcases h1.open_ with ⟨rfl, rfl⟩ | ⟨b1, o1, c1, rfl, hc1, hm1, hb1, hf⟩
  · obtain ⟨A, c, rfl⟩ := ints_slice h2
    simp only [List.length_nil]
    go_enter Tryz.func12, Tryz.ntmps12
    go_wp2_with fail
    refine wp_loop_rounds 1 ?_; rw [rounds_succ]
    go_wp2_with fail
    go_ret
    exact ⟨rfl, Grew.refl _⟩
  rcases h2.open_ with ⟨rfl, h0⟩ | ⟨b2, o2, c2, rfl, hc2, hm2, hb2, hh⟩
  · subst h0
    simp only [List.length_nil]
    clear h1 h2 hf
    go_enter Tryz.func12, Tryz.ntmps12
    go_wp2_with fail
    refine wp_loop_rounds 1 ?_; rw [rounds_succ]
    go_wp2_with fail
    go_ret
    exact ⟨rfl, Grew.refl _⟩
  clear h1 h2
  have HF := Lib.hid hf
  have HH := Lib.hid hh
  clear hf hh
  generalize hN : L.length = n at *
  clear hN
  go_enter Tryz.func12, Tryz.ntmps12
  go_wp2_with fail
  go_loopg [5] n (fun k i wr => ∃ j : Nat, j ≤ n ∧ k = n - j ∧ i = .int .i64 j ∧ Grew w wr)
  case atStart => exact ⟨0, Nat.zero_le _, by omega, rfl, Grew.refl _⟩
  case round =>
    obtain ⟨j, hj, rfl, rfl, hB⟩ := hrel
    by_cases hlt : j < n
    · have k1 : ∀ W, Grew w W → W.cell? ⟨b1, o1 + j, none⟩ = some (.int .i64 (it L j)) := fun W hW => HF.out j hlt W hW
      have k3 : ∀ W, Grew w W → W.cell? ⟨b2, o2 + j, none⟩ = some (.int .i64 (it L j)) := fun W hW => HH.out j hlt W hW
      generalize it L j = z at *
      have hz : (z != z) = false := by simp
      go_wp2_with fail
      go_quiet (fail)
      go_wp2_with fail
      go_roundg (n - (j + 1))
      case measure => omega
      case rel => exact ⟨j + 1, by omega, rfl, by go_num, hB.drewN _⟩
    · obtain rfl : j = n := by omega
      go_wp2_with fail
      go_ret
      exact ⟨rfl, hB⟩
theorem wfF_len {n : Int} {L V : List Int} {x k nv : Int} {t : Tree} (h : (wfF n L V x k nv).1 = some t) : (Fm.enc t).length ≤ 40 := by
  unfold wfF at h
  split at h
  · split at h
    · split at h
      · split at h
        · rename_i h4
          rw [decide_eq_true_eq] at h4
          exact wlT_len (by omega) h
        · cases h
      · cases h
    · cases h
  · cases h
theorem wfF_zero {n : Int} {L V : List Int} {x k nv : Int} (h : (wfF n L V x k nv).2 = 0) :
    mdB n L V = true ∧ (0 ≤ x ∧ x ≤ n - 1) ∧ (0 ≤ k ∧ k ≤ 16) ∧ (0 ≤ nv ∧ nv ≤ 6) ∧ ∃ t, wlT (nats L) (nats V) nv.toNat k.toNat x.toNat = some t ∧ wfF n L V x k nv = (some t, 0) := by
  unfold wfF at h ⊢
  split at h
  · rename_i h1
    split at h
    · rename_i h2
      split at h
      · rename_i h3
        split at h
        · rename_i h4
          rw [if_pos h1, if_pos h2, if_pos h3, if_pos h4]
          rw [decide_eq_true_eq] at h2 h3 h4
          refine ⟨h1, h2, h3, h4, ?_⟩
          dsimp only at h
          cases ht : wlT (nats L) (nats V) nv.toNat k.toNat x.toNat with
          | none => rw [ht] at h; cases h
          | some t => exact ⟨t, rfl, rfl⟩
        · cases h
      · cases h
    · cases h
  · cases h
def fV (V : List Nat) (nv j i : Nat) : Nat := if nv ≤ i ∧ i < j then 0 else nt V i
def cV (V : List Nat) (nv : Nat) : List Nat := (List.range 6).map (fV V nv 6)
theorem cV_len (V : List Nat) (nv : Nat) : (cV V nv).length = 6 := by simp [cV]
theorem cV_at {V : List Nat} {nv i : Nat} (h : i < 6) : nt (cV V nv) i = fV V nv 6 i := nt_map h
theorem cV_low {V : List Nat} {nv i : Nat} (h : i < nv) (h6 : i < 6) : nt V i = nt (cV V nv) i := by
  rw [cV_at h6]
  unfold fV
  rw [if_neg (by omega)]
theorem cV_high {V : List Nat} {nv i : Nat} (h : nv ≤ i) (h6 : i < 6) : nt (cV V nv) i = 0 := by
  rw [cV_at h6]
  unfold fV
  rw [if_pos (by omega)]
theorem cV_lt {V : List Nat} {nv n : Nat} (hl : V.length = 6) (h : ∀ m ∈ V, m < 2 ^ n) : ∀ m ∈ cV V nv, m < 2 ^ n := by
  intro m hm
  obtain ⟨i, hi, rfl⟩ := List.mem_map.1 hm
  have h6 := List.mem_range.1 hi
  unfold fV
  split
  · exact Nat.two_pow_pos n
  · exact h _ (nt_mem (by omega))
theorem mks_ofW {n : Nat} {X : List Nat} (h : ∀ x ∈ X, x < 2 ^ n) : mks n (zs X) = true := by
  unfold mks
  rw [List.all_eq_true]
  intro z hz
  obtain ⟨x, hx, rfl⟩ := List.mem_map.1 hz
  unfold mk
  rw [decide_eq_true_eq]
  have := h x hx
  omega
theorem mdB_cV {A V : List Nat} {nv : Nat} (h : mdB (A.length : Int) (zs A) (zs V) = true) (hl : V.length = 6) (hV : ∀ m ∈ V, m < 2 ^ A.length) : mdB (A.length : Int) (zs A) (zs (cV V nv)) = true := by
  unfold mdB at h ⊢
  rw [Bool.and_eq_true] at h
  rw [h.1, Int.toNat_natCast, mks_ofW (cV_lt hl hV), zs_len, cV_len]
  rfl
theorem fV_start (V : List Nat) (nv i : Nat) : fV V nv nv i = nt V i := by
  unfold fV
  rw [if_neg (by omega)]
theorem fV_at {V : List Nat} {nv j : Nat} (h : nv ≤ j) : fV V nv (j + 1) j = 0 := by
  unfold fV
  rw [if_pos (by omega)]
theorem fV_ne {V : List Nat} {nv j i : Nat} (h : i ≠ j) : fV V nv (j + 1) i = fV V nv j i := by
  unfold fV
  by_cases h1 : nv ≤ i ∧ i < j
  · rw [if_pos h1, if_pos (by omega)]
  · rw [if_neg h1, if_neg (by omega)]
theorem wfF_cV {A V : List Nat} {nv k x : Nat} {t : Tree} (h : mdB (A.length : Int) (zs A) (zs V) = true) (hl : V.length = 6) (hV : ∀ m ∈ V, m < 2 ^ A.length) (hx : x < A.length) (hk : k ≤ 16) (hn : nv ≤ 6) (ht : wlT A V nv k x = some t) :
    wfF (A.length : Int) (zs A) (zs (cV V nv)) (x : Int) (k : Int) (nv : Int) = (some t, 0) ∧ wlT A (cV V nv) nv k x = some t := by
  have h1 := wlT_congr (A := A) (n := nv) (fun v hv => cV_low (V := V) (nv := nv) hv (by omega)) k x
  rw [ht] at h1
  refine ⟨?_, h1.symm⟩
  rw [wfF_yes (mdB_cV h hl hV) (by rw [decide_eq_true_eq]; omega) (by rw [decide_eq_true_eq]; omega) (by rw [decide_eq_true_eq]; omega)]
  rw [nats_zs, nats_zs, Int.toNat_natCast, Int.toNat_natCast, Int.toNat_natCast, ← h1]
  rfl
def encO (o : Option Tree) : List Nd := match o with | none => [] | some t => Fm.enc t
theorem OptF.nodes {w : World} {B : Nat} {u : Value} {o : Option Tree} (h : OptF w B u o) : Nodes w u (encO o) := by
  cases o with
  | none =>
    have : u = .slice none 0 0 := h
    rw [this]
    exact Rd.nil_ w 2
  | some T => exact Own.nodes (show Own w B u (Fm.enc T) from h)
theorem wl_law {A V : List Nat} {nv k x : Nat} {t : Tree} (hA : Rl A) (hl : V.length = 6) (hV : ∀ m ∈ V, m < 2 ^ A.length) (hx : x < A.length) (hn : nv ≤ 6) (ht : wlT A (cV V nv) nv k x = some t) : mv A (cV V nv) t = nt (lks A (cV V nv) k) x :=
  wl_mv hA hn (cV_lt hl hV) (fun v h1 h2 => cV_high h1 h2) hx ht
end Go.Proofs.YtjlnompmhgjaaaaGreat


/- Texts in one file: Un IntMark IntEq LawUn ArgT TmLim TmCtG Fo TyT NrT TmMap TmPut TmCt TmCtA TmPutS TmCtS TmCtB TyO TwoF TyQ Pt TyP TyB TyJ TyS TySP TySJ TySD TySA. -/
import Derived.Deep.SlicePairs
import Derived.Lib.SmallJoins
import Derived.Carry
import Derived.ProofKit
import Derived.Lib.SlicesS
import Derived.Deep.RegionHeld3
import Derived.ArgAppend
import Derived.Test.YtfpkfgimhanekaaGreatPa1
import Derived.Test.YtfpkfgimhanekaaGreatPa2
set_option linter.all false

/- UsedNumbers of both sides. Printed by ungen.py. -/
namespace Go.Proofs.YtfpkfgimhanekaaGreat
open Go.RowKit
open Tr (Tm)

/-- A variable that is less than n. -/
def unP (n : Int) (xs : List Tn) (k : Nat) : Bool := tk xs k == 0 && decide (tn xs k < n)
def unL (n : Int) (xs : List Tn) (j : Nat) : List Int := ((List.range j).filter fun k => unP n xs k).map fun k => tn xs k
theorem unL_yes {n : Int} {xs : List Tn} {j : Nat} (h : unP n xs j = true) : unL n xs (j + 1) = unL n xs j ++ [tn xs j] := by
  unfold unL
  rw [List.range_succ, List.filter_append, List.map_append, List.filter_cons, h]
  rfl
theorem unL_no {n : Int} {xs : List Tn} {j : Nat} (h : unP n xs j = false) : unL n xs (j + 1) = unL n xs j := by
  unfold unL
  rw [List.range_succ, List.filter_append, List.map_append, List.filter_cons, h]
  simp
theorem unL_len (n : Int) (xs : List Tn) (j : Nat) : (unL n xs j).length ≤ j := by
  unfold unL
  rw [List.length_map]
  have := List.length_filter_le (fun k => unP n xs k) (List.range j)
  rwa [List.length_range] at this
def unQ (m : Nat) (xs : List Tn) (k : Nat) : Bool := tk xs k == 0 && tn xs k == (m : Int)
def unf (xs : List Tn) (j m : Nat) : Bool := (List.range j).any fun k => unQ m xs k
theorem unf_zero (xs : List Tn) (m : Nat) : unf xs 0 m = false := rfl
theorem unf_succ (xs : List Tn) (j m : Nat) : unf xs (j + 1) m = (unf xs j m || unQ m xs j) := by
  unfold unf
  rw [List.range_succ, List.any_append]
  simp
noncomputable def unF (xs : List Tn) (n : Int) : List Int × Int := if ctxC xs n = 0 then (below n.toNat (unf xs xs.length), 0) else ([], ctxC xs n)
theorem srt_unL {xs : List Tn} {n : Int} (h : ∀ i, i < xs.length → tk xs i = 0 → 0 ≤ tn xs i) (hn : 0 ≤ n) : srt (unL n xs xs.length) = below n.toNat (unf xs xs.length) := by
  refine srt_below (fun x hx => ?_) (fun i hi => ?_)
  · unfold unL at hx
    obtain ⟨k, hk, rfl⟩ := List.mem_map.1 hx
    obtain ⟨hk1, hk2⟩ := List.mem_filter.1 hk
    have hk3 := List.mem_range.1 hk1
    unfold unP at hk2
    simp only [Bool.and_eq_true, beq_iff_eq, decide_eq_true_eq] at hk2
    have := h k hk3 hk2.1
    omega
  · unfold unf unL
    rw [List.any_eq_true, List.mem_map]
    unfold unQ unP
    constructor
    · rintro ⟨k, hk, he⟩
      simp only [Bool.and_eq_true, beq_iff_eq] at he
      refine ⟨k, List.mem_filter.2 ⟨hk, ?_⟩, he.2⟩
      simp only [Bool.and_eq_true, beq_iff_eq, decide_eq_true_eq]
      exact ⟨he.1, by rw [he.2]; omega⟩
    · rintro ⟨k, hk, he⟩
      obtain ⟨hk1, hk2⟩ := List.mem_filter.1 hk
      simp only [Bool.and_eq_true, beq_iff_eq, decide_eq_true_eq] at hk2
      refine ⟨k, hk1, ?_⟩
      simp only [Bool.and_eq_true, beq_iff_eq]
      exact ⟨hk2.1, he⟩
theorem unF_len {xs : List Tn} {n : Int} : (unF xs n).1.length ≤ 1048576 := by
  unfold unF
  split
  · rename_i h
    have h2 : 0 ≤ n ∧ n ≤ 12 := by
      cases hb : tmB xs with
      | false => rw [ctx_bad hb] at h; cases h
      | true =>
        by_cases hr : 0 ≤ n ∧ n ≤ 12
        · exact hr
        · rw [ctx_range hb hr] at h; cases h
    have := below_len n.toNat (unf xs xs.length)
    show (below n.toNat (unf xs xs.length)).length ≤ 1048576
    omega
  · simp
theorem ctx_zero {xs : List Tn} {n : Int} (h : ctxC xs n = 0) : (0 ≤ n ∧ n ≤ 12) ∧ tmB xs = true ∧ xs.length ≤ 60 ∧ ∀ i, i < xs.length → tk xs i = 0 → 0 ≤ tn xs i := by
  cases hb : tmB xs with
  | false => rw [ctx_bad hb] at h; cases h
  | true =>
    obtain ⟨t1, t2, t3⟩ := tmT_ok hb
    refine ⟨?_, rfl, t3, fun i hi h0 => ?_⟩
    · by_cases hr : 0 ≤ n ∧ n ≤ 12
      · exact hr
      · rw [ctx_range hb hr] at h; cases h
    · have h2 := wf_all (tmT xs) t1 xs[i] (by rw [t2]; exact List.getElem_mem hi)
      rw [tk_lt hi] at h2
      have := tnB_num0 h2
      simp only at this
      omega
theorem rd_lit_at (w : World) {g : Nat} (hg : g = w.heap.size) (k : Int) (t : TypeId) : Rd (w.alloc (.cells #[.int .i64 k] t)) 1 (.slice (some ⟨g, 0, none⟩) 1 1) 1 [.int .i64 k] := by
  subst hg
  exact rd_litI w k t
theorem rd_litI2u (w : World) (ob : Obj) (k : Int) (t : TypeId) : Rd ((w.alloc ob).alloc (.cells #[.int .i64 k] t)) 1 (.slice (some ⟨w.heap.size + 1, 0, none⟩) 1 1) 1 [.int .i64 k] := by
  have h := rd_litI (w.alloc ob) k t
  have e : (w.alloc ob).heap.size = w.heap.size + 1 := World.size_alloc _ _
  rwa [e] at h
theorem own_emptyIu (w : World) : OwnI (w.alloc (.cells #[] 2)) w.heap.size (.slice (some ⟨w.heap.size, 0, none⟩) 0 0) [] :=
  World.ownsRow_lit (e := 2) (size := 1) w #[] 0 (Nat.le_refl _) (by first | omega | decide) rfl
theorem tmB_pos {xs : List Tn} (h : tmB xs = true) : xs.length ≠ 0 := fun h0 => by
  obtain ⟨_, t2, _⟩ := tmT_ok h
  have := Tr.enc_pos (tmT xs)
  rw [t2] at this
  omega
def GivesI2u (w : World) (r : List Int × Int) (e : Ending) (w' : World) : Prop := ∃ v, e = .returned (.tuple #[v, .int .i64 r.2]) ∧ OwnI w' w.heap.size v r.1 ∧ Grew w w'

theorem l26Code_c (v : Value) (xs : List Tn) (n : Int) (w : World) (h : Tms w v xs) (hfit : FitsT xs) (hn : xs.length ≤ 1048576) :
    Calls Tryz.prog 20 #[v, .int .i64 n] w fun e w' => e = .returned (.int .i64 (ctxC xs n)) ∧ Grew w w' := by
  have HI := fun W (hW : Grew w W) => l26Is_c v xs W (h.grew hW) hfit hn
  cases hb : tmB xs with
  | false =>
    rw [hb] at HI
    rw [ctx_bad hb]
    replace HI := Lib.hid HI
    clear h hfit hb
    go_enter Tryz.func20, Tryz.ntmps20
    go_wp2_with fail
    refine (HI.out _ (Grew.refl _)).mono ?_
    rintro e w1 ⟨rfl, hg1⟩
    go_wp2_with fail
    go_ret
    exact ⟨rfl, hg1⟩
  | true =>
    rw [hb] at HI
    replace HI := Lib.hid HI
    have HR := fun w => l01In_c n 0 12 w
    by_cases hr : 0 ≤ n ∧ n ≤ 12
    · rw [decide_eq_true hr] at HR
      replace HR := Lib.hid HR
      rw [ctx_in hb hr]
      obtain ⟨t1, t2, t3⟩ := tmT_ok hb
      have HF := fun W (hW : Grew w W) => l26Fits_c (tmT xs) t1 v n W (by rw [t2]; exact h.grew hW) (by rw [t2]; omega) hr.1 (by rw [t2]; omega)
      generalize Tr.evN ltP (tmT xs) n = q at *
      replace HF := Lib.hid HF
      clear h hfit hb t1 t2 t3
      cases q with
      | true =>
        go_enter Tryz.func20, Tryz.ntmps20
        go_wp2_with fail
        refine (HI.out _ (Grew.refl _)).mono ?_
        rintro e w1 ⟨rfl, hg1⟩
        go_wp2_with fail
        refine (HR.out _).mono ?_
        rintro e w2 ⟨rfl, hg2⟩
        go_wp2_with fail
        refine (HF.out _ (hg1.trans hg2)).mono ?_
        rintro e w3 ⟨rfl, hg3⟩
        go_wp2_with fail
        go_ret
        exact ⟨rfl, (hg1.trans hg2).trans hg3⟩
      | false =>
        go_enter Tryz.func20, Tryz.ntmps20
        go_wp2_with fail
        refine (HI.out _ (Grew.refl _)).mono ?_
        rintro e w1 ⟨rfl, hg1⟩
        go_wp2_with fail
        refine (HR.out _).mono ?_
        rintro e w2 ⟨rfl, hg2⟩
        go_wp2_with fail
        refine (HF.out _ (hg1.trans hg2)).mono ?_
        rintro e w3 ⟨rfl, hg3⟩
        go_wp2_with fail
        go_ret
        exact ⟨rfl, (hg1.trans hg2).trans hg3⟩
    · rw [decide_eq_false hr] at HR
      replace HR := Lib.hid HR
      rw [ctx_range hb hr]
      clear h hfit hb
      go_enter Tryz.func20, Tryz.ntmps20
      go_wp2_with fail
      refine (HI.out _ (Grew.refl _)).mono ?_
      rintro e w1 ⟨rfl, hg1⟩
      go_wp2_with fail
      refine (HR.out _).mono ?_
      rintro e w2 ⟨rfl, hg2⟩
      go_wp2_with fail
      go_ret
      exact ⟨rfl, hg1.trans hg2⟩
set_option maxRecDepth 20000 in
set_option maxHeartbeats 8000000 in
theorem implUn_c (v : Value) (xs : List Tn) (k : Int) (w : World) (hv : Tms w v xs) (hf : FitsT xs) (_hn : xs.length ≤ 1048576) :
    Calls Tryz.prog 8 #[v, .int .i64 k] w (GivesI2u w (unF xs k)) := by
  unfold GivesI2u unF
  have KD := Lib.hid (contextCode_c v xs k w hv hf _hn)
  by_cases hd : ctxC xs k = 0
  case neg =>
    rw [if_neg hd]
    have e0 : (ctxC xs k == 0) = false := by simpa using hd
    obtain ⟨A, c, rfl⟩ := tms_slice hv
    clear hv hf hd
    generalize ctxC xs k = d at *
    go_enter Tryz.func8, Tryz.ntmps8
    go_wp2_with fail
    refine (KD.out).mono ?_
    rintro e w1 ⟨rfl, hg1⟩
    go_wp2_with fail
    go_ret2
    exact ⟨_, rfl, OwnI.nil_ _ _, hg1⟩
  rw [if_pos hd]
  rw [hd] at KD
  obtain ⟨hk, hb, hl, hnum⟩ := ctx_zero hd
  have hn0 := (tmB_pos hb)
  have hS := srt_unL hnum hk.1
  unfold srt at hS
  have HS := Lib.hid hS
  rcases hv.open_ with ⟨_, h0⟩ | ⟨b, o, c, rfl, hc, hm, hb2, hcell⟩
  · rw [h0] at hn0; exact absurd rfl hn0
  have HC := Lib.hid hcell
  have HY := Lib.hid (fun j h => unL_yes (n := k) (xs := xs) (j := j) h)
  have HN := Lib.hid (fun j h => unL_no (n := k) (xs := xs) (j := j) h)
  have HLn := Lib.hid (fun j => unL_len k xs j)
  have HZ : Hid (unL k xs 0 = []) := Lib.hid rfl
  clear hd hb hcell hf hS hnum hv
  generalize hN : xs.length = n at *
  clear hN
  go_enter Tryz.func8, Tryz.ntmps8
  go_wp2_with fail
  refine (KD.out).mono ?_
  rintro e w1 ⟨rfl, hg1⟩
  clear KD
  go_wp2_with fail
  go_loopw [7, 18] (fun vv i wr => ∃ (j : Nat), j ≤ n ∧ i = .int .i64 j ∧ Hid (OwnI wr w.heap.size vv (unL k xs j)) ∧ Grew w wr) (fun _ i _ => n - (intOf i).toNat)
  case atStart => exact ⟨0, Nat.zero_le _, rfl, by rw [HZ.out]; exact Lib.hid (OwnI.nil_ _ _), hg1⟩
  clear hg1
  case round =>
    obtain ⟨j, hj, rfl, hO, hB⟩ := hrel
    obtain ⟨Ah, ch, rfl⟩ := ints_slice hO.out.ints
    by_cases hlt : j < n
    · obtain ⟨k0, k1, k2⟩ := HC.out j hlt _ hB
      have hyes := Lib.hid (HY.out j)
      have hno := Lib.hid (HN.out j)
      have HDP : Hid (unP k xs j = (tk xs j == 0 && decide (tn xs j < k))) := Lib.hid rfl
      generalize hup9 : unP k xs j = up9 at *
      clear hup9
      have hljl := HLn.out j
      generalize tk xs j = x at *
      generalize tn xs j = y at *
      generalize tt xs j = z at *
      generalize unL k xs j = Lj at *
      generalize hk9 : unL k xs (j + 1) = Lk at *
      have HK9 := Lib.hid hk9
      clear hk9
      have hlj := Lib.hid (show Lj.length ≤ 1048576 by omega)
      obtain ⟨wB, hwB⟩ : ∃ wB, wB = wr.alloc (.cells #[.int .i64 x, .int .i64 y, .string z] 45) := ⟨_, rfl⟩
      have gB := Lib.hid (show Grew wr wB by rw [hwB]; exact (Grew.refl wr).alloc _)
      have bB := Lib.hid (show wB.heap[wr.heap.size]? = some (.cells #[.int .i64 x, .int .i64 y, .string z] 45) by rw [hwB]; exact blk_new wr _)
      have q0 : ∀ W, Grew wB W → W.cell? ⟨wr.heap.size, 0, none⟩ = some (.int .i64 x) := fun W hW => by rw [blk_cell ((hW.block (blk_lt bB.out)).trans bB.out)]; rfl
      have q1 : ∀ W, Grew wB W → W.cell? ⟨wr.heap.size, 1, none⟩ = some (.int .i64 y) := fun W hW => by rw [blk_cell ((hW.block (blk_lt bB.out)).trans bB.out)]; rfl
      have hsz9 : wr.heap.size + 1 = wB.heap.size := by rw [hwB]; exact (World.size_alloc _ _).symm
      have HSZ9 := Lib.hid hsz9
      clear hsz9
      have rB := Grew.refl wB
      have gwB := hB.trans gB.out
      have HO := Lib.hid (hO.out.grew gB.out)
      have HWB := Lib.hid hwB
      clear hO bB
      by_cases h1 : x = 0
      case neg =>
        have hb1 : (x == 0) = false := by simpa using h1
        have he := Lib.hid (hno.out (by rw [HDP.out, hb1]; rfl))
        clear hyes hno HDP
        go_wp2_with fail
        rw [← hwB]
        clear hwB
        go_wp2_with fail
        go_roundw
        case rel => exact ⟨j + 1, by omega, by go_num, by rw [HK9.out, he.out]; exact HO, gwB⟩
        case measure => simp [intOf]; omega
      subst h1
      by_cases h2 : y < k
      case pos =>
        have he := Lib.hid (hyes.out (by rw [HDP.out]; simpa using h2))
        clear hyes hno HDP
        subst hwB
        go_wp2_with (first | (at_builtin; refine wpList_appI (w0 := w) _ _ rfl rfl _ Lj rfl (HO.out.grew ((Grew.refl _).alloc _)) (gwB.alloc _) _ y rfl (by first | exact rd_litI _ _ _ | exact rd_litI2u _ _ _ _) hlj.out ?_; intro v3 w3 hown3 hg3 hby3))
        go_roundw
        case rel => exact ⟨j + 1, by omega, by go_num, by rw [HK9.out, he.out]; exact Lib.hid hown3, hg3⟩
        case measure => simp [intOf]; omega
      case neg =>
        have he := Lib.hid (hno.out (by rw [HDP.out]; simpa using h2))
        clear hyes hno HDP
        go_wp2_with fail
        rw [← hwB]
        clear hwB
        go_wp2_with fail
        go_roundw
        case rel => exact ⟨j + 1, by omega, by go_num, by rw [HK9.out, he.out]; exact HO, gwB⟩
        case measure => simp [intOf]; omega
    · obtain rfl : j = n := by omega
      have hln := HLn.out j
      have KS := Lib.hid (sortI_c w _ _ _ hB hO.out (by omega))
      have KT := Lib.hid (fun W u (h1 : Grew w W) (h2 : OwnI W w.heap.size u ((unL k xs j).mergeSort fun x y => decide (x ≤ y))) => compactI_c w W u _ h1 h2 (by rw [List.length_mergeSort]; omega))
      rw [HS.out] at KT
      generalize (unL k xs j).mergeSort (fun x y => decide (x ≤ y)) = Lm at *
      generalize hLr : below k.toNat (unf xs j) = Lr at *
      have HLr := Lib.hid hLr
      clear hLr
      generalize unL k xs j = Lj at *
      go_wp2_with fail
      refine (KS.out).mono ?_
      rintro e w3 ⟨rfl, ho3, hg3⟩
      have HO3 := Lib.hid ho3
      clear ho3
      go_wp2_with fail
      refine (KT.out _ _ hg3 HO3.out).mono ?_
      rintro e w4 ⟨u, rfl, ho4, hg4⟩
      have HO4 := Lib.hid ho4
      clear ho4
      go_wp2_with fail
      go_ret2
      rw [HLr.out]
      exact ⟨_, rfl, HO4.out, hg4⟩
set_option maxRecDepth 20000 in
set_option maxHeartbeats 8000000 in
theorem specUn_c (v : Value) (xs : List Tn) (k : Int) (w : World) (hv : Tms w v xs) (hf : FitsT xs) (_hn : xs.length ≤ 1048576) :
    Calls Tryz.prog 6 #[v, .int .i64 k] w (GivesI2u w (unF xs k)) := by
  unfold GivesI2u unF
  have KD := Lib.hid (l26Code_c v xs k w hv hf _hn)
  by_cases hd : ctxC xs k = 0
  case neg =>
    rw [if_neg hd]
    have e0 : (ctxC xs k == 0) = false := by simpa using hd
    obtain ⟨A, c, rfl⟩ := tms_slice hv
    clear hv hf hd
    generalize ctxC xs k = d at *
    go_enter Tryz.func6, Tryz.ntmps6
    go_wp2_with fail
    refine (KD.out).mono ?_
    rintro e w1 ⟨rfl, hg1⟩
    go_wp2_with fail
    go_ret2
    exact ⟨_, rfl, OwnI.nil_ _ _, hg1⟩
  rw [if_pos hd]
  rw [hd] at KD
  obtain ⟨hk, hb, hl, hnum⟩ := ctx_zero hd
  have hn0 := (tmB_pos hb)
  rcases hv.open_ with ⟨_, h0⟩ | ⟨b, o, c, rfl, hc, hm, hb2, hcell⟩
  · rw [h0] at hn0; exact absurd rfl hn0
  have HC := Lib.hid hcell
  have HF := Lib.hid (fun j m => unf_succ xs j m)
  have HF0 := Lib.hid (fun m => unf_zero xs m)
  have HY := Lib.hid (fun m (h : unf xs xs.length m = true) => below_yes (p := unf xs xs.length) h)
  have HN := Lib.hid (fun m (h : unf xs xs.length m = false) => below_no (p := unf xs xs.length) h)
  have HLn := Lib.hid (fun m => below_len m (unf xs xs.length))
  have HZ := Lib.hid (below_zero (unf xs xs.length))
  obtain ⟨M, rfl⟩ : ∃ M : Nat, k = M := ⟨k.toNat, by omega⟩
  have hM : ((M : Int)).toNat = M := by omega
  rw [hM]
  clear hd hb hcell hf hnum hv hM
  generalize hN : xs.length = n at *
  clear hN
  go_enter Tryz.func6, Tryz.ntmps6
  go_wp2_with fail
  refine (KD.out).mono ?_
  rintro e w1 ⟨rfl, hg1⟩
  clear KD
  have he2 := Lib.hid ((own_emptyIu w1).base hg1.size)
  have ga2 := hg1.alloc (.cells #[] 2)
  go_wp2_with fail
  go_loopw [7, 8] (fun vv i wr => ∃ (m : Nat), m ≤ M ∧ i = .int .i64 m ∧ Hid (OwnI wr w.heap.size vv (below m (unf xs n))) ∧ Grew w wr) (fun _ i _ => M - (intOf i).toNat)
  case atStart => exact ⟨0, Nat.zero_le _, rfl, by rw [HZ.out]; exact he2, ga2⟩
  clear hg1 ga2 he2
  case round =>
    obtain ⟨m, hm2, rfl, HO, hB⟩ := hrel
    obtain ⟨Ah, ch, rfl⟩ := ints_slice HO.out.ints
    by_cases hlt : m < M
    · have hyes := Lib.hid (HY.out m)
      have hno := Lib.hid (HN.out m)
      have hf0 := Lib.hid (HF0.out m)
      have hmm := HLn.out m
      generalize below m (unf xs n) = Lj at *
      generalize hk9 : below (m + 1) (unf xs n) = Lk at *
      have HK9 := Lib.hid hk9
      clear hk9
      have hlj := Lib.hid (show Lj.length ≤ 1048576 by omega)
      go_wp2_with fail
      go_loopw [9, 10] (fun fv i wx => ∃ (j : Nat), j ≤ n ∧ i = .int .i64 j ∧ fv = .bool (unf xs j m) ∧ Grew w wx ∧ Hid (OwnI wx w.heap.size (.slice (Ah) Lj.length ch) Lj)) (fun _ i _ => n - (intOf i).toNat)
      case atStart => exact ⟨0, Nat.zero_le _, rfl, by rw [hf0.out], hB, HO⟩
      clear hB HO
      case round =>
        obtain ⟨j, hj, rfl, rfl, hB, hO⟩ := hrel
        by_cases hlt2 : j < n
        · obtain ⟨k0, k1, k2⟩ := HC.out j hlt2 _ hB
          have hs := HF.out j m
          unfold unQ at hs
          generalize tk xs j = x at *
          generalize tn xs j = y at *
          generalize hf9 : unf xs (j + 1) m = f9 at *
          have HF9 := Lib.hid hf9
          clear hf9
          generalize unf xs j m = f8 at *
          cases f8 with
          | true =>
            rw [Bool.true_or] at hs
            replace hs := Lib.hid hs
            go_wp2_with fail
            go_roundw
            case rel => exact ⟨j + 1, by omega, by go_num, by rw [HF9.out, hs.out], hB, hO⟩
            case measure => simp [intOf]; omega
          | false =>
            rw [Bool.false_or] at hs
            by_cases h1 : x = 0
            case neg =>
              have hb1 : (x == 0) = false := by simpa using h1
              rw [hb1, Bool.false_and] at hs
              replace hs := Lib.hid hs
              go_wp2_with fail
              go_roundw
              case rel => exact ⟨j + 1, by omega, by go_num, by rw [HF9.out, hs.out], hB, hO⟩
              case measure => simp [intOf]; omega
            subst h1
            have hb1 : ((0 : Int) == 0) = true := rfl
            rw [hb1, Bool.true_and] at hs
            clear hb1
            by_cases h2 : y = (m : Int)
            case neg =>
              have hb2 : (y == (m : Int)) = false := by simpa using h2
              rw [hb2] at hs
              replace hs := Lib.hid hs
              go_wp2_with fail
              go_roundw
              case rel => exact ⟨j + 1, by omega, by go_num, by rw [HF9.out, hs.out], hB, hO⟩
              case measure => simp [intOf]; omega
            subst h2
            have hb2 : ((m : Int) == (m : Int)) = true := by simp
            rw [hb2] at hs
            replace hs := Lib.hid hs
            clear hb2
            go_wp2_with fail
            go_roundw
            case rel => exact ⟨j + 1, by omega, by go_num, by rw [HF9.out, hs.out], hB, hO⟩
            case measure => simp [intOf]; omega
        · obtain rfl : j = n := by omega
          generalize hf9 : unf xs j m = f9 at *
          have HF9 := Lib.hid hf9
          clear hf9 HF
          cases f9 with
          | true =>
            have he := Lib.hid (hyes.out rfl)
            clear hyes hno
            go_wp2_with (first | (at_builtin; refine wpList_appI (w0 := w) _ _ rfl rfl _ Lj rfl (hO.out.grew ((Grew.refl _).alloc _)) (hB.alloc _) _ (m : Int) rfl (by first | exact rd_litI _ _ _ | exact rd_litI2u _ _ _ _) hlj.out ?_; intro v3 w3 hown3 hg3 hby3))
            go_roundw
            case rel => exact ⟨m + 1, by omega, by go_num, by rw [HK9.out, he.out]; exact Lib.hid hown3, hg3⟩
            case measure => simp [intOf]; omega
          | false =>
            have he := Lib.hid (hno.out rfl)
            clear hyes hno
            go_wp2_with fail
            go_roundw
            case rel => exact ⟨m + 1, by omega, by go_num, by rw [HK9.out, he.out]; exact hO, hB⟩
            case measure => simp [intOf]; omega
    · obtain rfl : m = M := by omega
      go_wp2_with fail
      go_ret2
      exact ⟨_, rfl, HO.out, hB⟩
end Go.Proofs.YtfpkfgimhanekaaGreat

/- The laws' marks on slices of int64. -/
namespace Go.Proofs.YtfpkfgimhanekaaGreat
open Go.RowKit

def imarks (k : Int) (n : Nat) : List Int := (List.range n).map fun i : Nat => k + (i : Int)
theorem imarks_length (k : Int) (n : Nat) : (imarks k n).length = n := by simp [imarks]
theorem imarks_at {k : Int} {n i : Nat} (h : i < n) : it (imarks k n) i = k + i := by simp [imarks, it, List.getD, h]

theorem markInt64S_c (v : Value) (L : List Int) (B : Nat) (k : Int) (w : World) (h : OwnI w B v L) (hk0 : 0 ≤ k) (hk : k ≤ 4611686018427387904) (hn : L.length ≤ 1099511627776) :
    Calls Tryz.prog 12 #[v, .int .i64 k] w fun e w' => e = .returned (.int .i64 (k + L.length)) ∧ OwnI w' B v (imarks k L.length) ∧ w.grownBy w' v.ownBlock := by
  rcases h.2 with ⟨rfl, h0⟩ | ⟨g, c, cur0, rfl, hB, hh0, hnc, hcm, hcs0, _⟩
  · have hL : L.length = 0 := by simpa using h0
    rw [hL]
    clear h h0
    go_enter Tryz.func12, Tryz.ntmps12
    go_wp2_with fail
    refine wp_loop_rounds 1 ?_; rw [rounds_succ]
    go_wp2_with fail
    go_ret
    exact ⟨by simp, by simpa [imarks] using OwnI.nil_ _ _, World.grownBy.refl _ _⟩
  · have hend : ∀ cur w', w'.heap[g]? = some (.cells cur 2 (0, 0)) → cur.size = c → (∀ i, i < L.length → cur[i]? = some (.int .i64 (k + (i : Int)))) → OwnI w' B (.slice (some ⟨g, 0, none⟩) L.length c) (imarks k L.length) := by
      intro cur w' h1 h2 h3
      have := OwnI.mk_ (w := w') (B := B) (L := imarks k L.length) (g := g) (c := c) (cur := cur) hB h1 (by rw [imarks_length]; exact hnc) hcm h2 (fun i hi => by
        rw [imarks_length] at hi
        rw [imarks_at hi]
        exact h3 i hi)
      rw [imarks_length] at this
      exact this
    generalize hN : L.length = n at *
    clear hN h
    have HE := Lib.hid hend
    clear hend
    go_enter Tryz.func12, Tryz.ntmps12
    go_wp2_with fail
    go_loopw [1, 5] (fun kk i wr => ∃ (j : Nat) (cur : Array Value), j ≤ n ∧ i = .int .i64 j ∧ kk = .int .i64 (k + (j : Int)) ∧ wr.heap[g]? = some (.cells cur 2 (0, 0)) ∧ cur.size = c ∧ Only g w wr ∧ (∀ i, i < j → cur[i]? = some (.int .i64 (k + (i : Int))))) (fun _ i _ => n - (intOf i).toNat)
    case atStart => exact ⟨0, cur0, Nat.zero_le _, rfl, by simp, hh0, by omega, Only.refl _ _, fun i hi => absurd hi (by omega)⟩
    case round =>
      obtain ⟨j, cur, hj, rfl, rfl, hh, hcs, ho, hc⟩ := hrel
      have HC := Lib.hid hc
      clear hc
      by_cases hlt : j < n
      · have f1 : wr.frozen? ⟨g, j, none⟩ = false := blk_frozen hh j
        obtain ⟨u1, hu1⟩ : ∃ u, wr.cell? ⟨g, j, none⟩ = some u := by
          rw [blk_cell hh]
          exact ⟨_, Array.getElem?_eq_getElem (by omega)⟩
        have HH := Lib.hid hh
        clear hh
        go_wp2_with fail
        go_roundw
        case rel => exact ⟨j + 1, _, by omega, by go_num, by go_num, blk_set HH.out _ _, by simp [hcs], ho.setCell _, one_stepI (F := fun i => .int .i64 (k + (i : Int))) (by omega) HC.out⟩
        case measure => simp [intOf]; omega
      · obtain rfl : j = n := by omega
        have HH := Lib.hid hh
        clear hh
        go_wp2_with fail
        go_ret
        exact ⟨rfl, HE.out _ _ HH.out hcs HC.out, ho⟩

theorem heldInt64S_c (v : Value) (n : Nat) (k : Int) (w : World) (h : Ints w v (imarks k n)) (hk0 : 0 ≤ k) (hk : k ≤ 4611686018427387904) (hn : n ≤ 1099511627776) :
    Calls Tryz.prog 13 #[v, .int .i64 k] w fun e w' => e = .returned (.int .i64 (k + n)) ∧ Grew w w' := by
  have hat := fun i => @imarks_at k n i
  rcases h.open_ with ⟨rfl, h0⟩ | ⟨b, o, c, rfl, hc, hm, hb, hcell⟩
  · have hn0 : n = 0 := by have := congrArg List.length h0; rw [imarks_length] at this; simpa using this
    subst hn0
    clear h h0 hat
    go_enter Tryz.func13, Tryz.ntmps13
    go_wp2_with fail
    refine wp_loop_rounds 1 ?_; rw [rounds_succ]
    go_wp2_with fail
    go_ret
    exact ⟨by simp, Grew.refl _⟩
  · rw [imarks_length] at hc hcell ⊢
    have HC : Hid (∀ i, i < n → ∀ W, Grew w W → W.cell? ⟨b, o + i, none⟩ = some (.int .i64 (k + (i : Int)))) := Lib.hid (fun i hi W hW => by rw [← hat i hi]; exact hcell i hi W hW)
    clear h hcell hat
    go_enter Tryz.func13, Tryz.ntmps13
    go_wp2_with fail
    go_loopw [1, 5] (fun kk i wr => ∃ j : Nat, j ≤ n ∧ i = .int .i64 j ∧ kk = .int .i64 (k + (j : Int)) ∧ Grew w wr) (fun _ i _ => n - (intOf i).toNat)
    case atStart => exact ⟨0, Nat.zero_le _, rfl, by simp, Grew.refl _⟩
    case round =>
      obtain ⟨j, hj, rfl, rfl, hB⟩ := hrel
      by_cases hlt : j < n
      · have k1 := HC.out j hlt _ hB
        have hq : (k + (j : Int) != k + (j : Int)) = false := by simp
        go_wp2_with fail
        go_roundw
        case rel => exact ⟨j + 1, by omega, by go_num, by go_num, hB⟩
        case measure => simp [intOf]; omega
      · obtain rfl : j = n := by omega
        go_wp2_with fail
        go_ret
        exact ⟨rfl, hB⟩
/-- The forms that the laws' walks use. -/
theorem markInt64S_w (v : Value) (L : List Int) (B : Nat) (k : Int) (w : World) (h : OwnI w B v L) (hk0 : 0 ≤ k) (hk : k ≤ 1099511627776) (hn : L.length ≤ 1048576) :
    Calls Tryz.prog 12 #[v, .int .i64 k] w fun e w' => e = .returned (.int .i64 (k + L.length)) ∧ w.grownBy w' v.ownBlock :=
  (markInt64S_c v L B k w h hk0 (by omega) (by omega)).mono fun _ _ ⟨h1, _, h3⟩ => ⟨h1, h3⟩
theorem markInt64S_m (v : Value) (L : List Int) (B : Nat) (k : Int) (w : World) (h : OwnI w B v L) (hk0 : 0 ≤ k) (hk : k ≤ 1099511627776) (hn : L.length ≤ 1048576) :
    Calls Tryz.prog 12 #[v, .int .i64 k] w fun e w' => e = .returned (.int .i64 (k + L.length)) ∧ OwnI w' B v (imarks k L.length) ∧ w.grownBy w' v.ownBlock :=
  markInt64S_c v L B k w h hk0 (by omega) (by omega)
end Go.Proofs.YtfpkfgimhanekaaGreat

/- Two lists of int64 that are equal: eqInt64S. -/
namespace Go.Proofs.YtfpkfgimhanekaaGreat
open Go.RowKit

/-- Two lists of numbers that are equal. -/
theorem eqInt64S_yes (v1 v2 : Value) (L : List Int) (w : World) (h1 : Ints w v1 L) (h2 : Ints w v2 L) (hn : L.length ≤ 1099511627776) :
    Calls Tryz.prog 9 #[v1, v2] w fun e w' => e = .returned (.bool true) ∧ Grew w w' := by
  rcases h1.open_ with ⟨rfl, rfl⟩ | ⟨b1, o1, c1, rfl, hc1, hm1, hb1, hf⟩
  · obtain ⟨A, c, rfl⟩ := ints_slice h2
    go_enter Tryz.func9, Tryz.ntmps9
    go_wp2_with fail
    refine wp_loop_rounds 1 ?_; rw [rounds_succ]
    go_wp2_with fail
    go_ret
    exact ⟨rfl, Grew.refl _⟩
  · rcases h2.open_ with ⟨rfl, rfl⟩ | ⟨b2, o2, c2, rfl, hc2, hm2, hb2, hh⟩
    · go_enter Tryz.func9, Tryz.ntmps9
      go_wp2_with fail
      refine wp_loop_rounds 1 ?_; rw [rounds_succ]
      go_wp2_with fail
      go_ret
      exact ⟨rfl, Grew.refl _⟩
    · clear h1 h2
      have HF := Lib.hid hf
      have HH := Lib.hid hh
      clear hf hh
      generalize hN : L.length = n at *
      clear hN
      go_enter Tryz.func9, Tryz.ntmps9
      go_wp2_with fail
      go_loopw [5] (fun i wr => ∃ j : Nat, j ≤ n ∧ i = .int .i64 j ∧ Grew w wr) (fun i _ => n - (intOf i).toNat)
      case atStart => exact ⟨0, Nat.zero_le _, rfl, Grew.refl _⟩
      case round =>
        obtain ⟨j, hj, rfl, hB⟩ := hrel
        by_cases hlt : j < n
        · have k1 : ∀ W, Grew w W → W.cell? ⟨b1, o1 + j, none⟩ = some (.int .i64 (it L j)) := fun W hW => HF.out j hlt W hW
          have k2 : ∀ W, Grew w W → W.cell? ⟨b2, o2 + j, none⟩ = some (.int .i64 (it L j)) := fun W hW => HH.out j hlt W hW
          have k3 := k1 _ hB
          have k4 := k2 _ hB
          generalize it L j = x at *
          have hx : (x != x) = false := by simp
          go_wp2_with fail
          go_quiet (fail)
          go_wp2_with fail
          go_roundw
          case rel => exact ⟨j + 1, by omega, by go_num, by first | assumption | exact hB.drewN _⟩
          case measure => simp [intOf]; omega
        · go_wp2_with fail
          go_ret
          exact ⟨rfl, by assumption⟩
end Go.Proofs.YtfpkfgimhanekaaGreat

/- The law FnExactUsedNumbers, walked. -/
namespace Go.Proofs.YtfpkfgimhanekaaGreat
open Go.RowKit

theorem lawUn_c (v0 : Value) (L0 : List Tn) (n1 : Int) (w : World) (h0 : ArgT w v0 L0) :
    Calls Tryz.prog 3 #[v0, .int .i64 n1] w fun e w' => e = .returned (.bool true) ∧ Grew w w' := by
  have Z0 := Lib.hid (fun W l (hW : Grew w W) (a0 : 0 ≤ l) (a1 : l ≤ 1048576) => szTermNodeS_c v0 L0 l W (h0.grew hW) a0 a1)
  have T0 := Lib.hid (fun W (hW : Grew w W) => toTermNodeS_c v0 L0 W (h0.grew hW))
  clear h0
  go_enter Tryz.func3, Tryz.ntmps3
  go_wp2_with fail
  refine (Z0.out _ _ (Grew.refl w) (by omega) (by omega)).mono ?_
  rintro e w1 ⟨r0, rfl, ⟨hm0, hs0⟩, hg1⟩
  have z1 := Lib.hid hg1.size
  have g1 : Grew w w1 := (Grew.refl w).trans hg1
  clear hg1
  by_cases hr0 : r0 < 0
  · clear hs0
    go_wp2_with fail
    go_ret
    exact ⟨rfl, g1⟩
  obtain ⟨hn0, hf0⟩ := hs0 (by omega)
  have F0 : Hid (FitsT L0) := Lib.hid hf0
  clear hs0 hf0
  have KS := Lib.hid (fun u0 W x0 => specUn_c u0 L0 n1 W x0 F0.out (by omega))
  have KI := Lib.hid (fun u0 W x0 => implUn_c u0 L0 n1 W x0 F0.out (by omega))
  have hlen := unF_len (xs := L0) (n := n1)
  generalize unF L0 n1 = rr at *
  obtain ⟨xs, c⟩ := rr
  simp only at hlen
  unfold GivesI2u at KS KI
  simp only at KS KI
  have hcc : (c != c) = false := by simp
  go_wp2_with fail
  refine (T0.out _ g1 hn0).mono ?_
  rintro e w2 ⟨a0, rfl, oa0, hg2⟩
  have z2 := Lib.hid hg2.size
  have g2 : Grew w w2 := g1.trans hg2
  clear hg2
  go_wp2_with fail
  refine (KS.out _ _ oa0.tms).mono ?_
  rintro e w3 ⟨q0, rfl, hq, hg3⟩
  have HQB := Lib.hid (fun g (hg : q0.ownBlock = some g) => (hq.lt g hg).2)
  have z3 := Lib.hid hg3.size
  have g3 : Grew w w3 := g2.trans hg3
  clear hg3 oa0
  go_wp2_with fail
  refine (T0.out _ g3 hn0).mono ?_
  rintro e w4 ⟨x0, rfl, ox0, hg4⟩
  have HB0 := Lib.hid (fun g (hg : x0.ownBlock = some g) => ox0.lt g hg)
  have z4 := Lib.hid hg4.size
  have g4 : Grew w w4 := g3.trans hg4
  replace hq := hq.grew hg4
  clear hg4
  go_wp2_with fail
  refine (KI.out _ _ ox0.tms).mono ?_
  rintro e w5 ⟨g0, rfl, hog, hg5⟩
  have HGB := Lib.hid (fun g (hg : g0.ownBlock = some g) => (hog.lt g hg).1)
  have z5 := Lib.hid hg5.size
  have g5 : Grew w w5 := g4.trans hg5
  replace hq := hq.grew hg5
  replace ox0 := ox0.grew hg5
  clear hg5
  go_wp2_with fail
  refine (eqInt64S_yes _ _ xs _ hog.ints hq.ints (by omega)).mono ?_
  rintro e w6 ⟨rfl, hg6⟩
  have z6 := Lib.hid hg6.size
  have g6 : Grew w w6 := g5.trans hg6
  replace hq := hq.grew hg6
  replace ox0 := ox0.grew hg6
  replace hog := hog.grew hg6
  clear hg6
  go_wp2_with fail
  refine (T0.out _ g6 hn0).mono ?_
  rintro e w7 ⟨y0, rfl, oy0, hg7⟩
  have z7 := Lib.hid hg7.size
  have g7 : Grew w w7 := g6.trans hg7
  replace hq := hq.grew hg7
  replace ox0 := ox0.grew hg7
  replace hog := hog.grew hg7
  clear hg7
  go_wp2_with fail
  refine (eqTermNodeS_yes _ _ L0 _ ox0.tms oy0.tms (by omega)).mono ?_
  rintro e w8 ⟨rfl, hg8⟩
  have z8 := Lib.hid hg8.size
  have g8 : Grew w w8 := g7.trans hg8
  replace hq := hq.grew hg8
  replace ox0 := ox0.grew hg8
  replace hog := hog.grew hg8
  clear hg8 oy0
  go_wp2_with fail
  refine (markTermNodeS_w _ L0 _ (1) _ ox0 (by omega) (by omega) (by omega)).mono ?_
  rintro e w9 ⟨rfl, hrow⟩
  replace hq : OwnI w9 _ q0 xs := own_row hq hrow (fun g hg hg2 => by have h1 := HQB.out g hg2; have h2 := (HB0.out g hg).1; have y1 := z1.out; have y2 := z2.out; have y3 := z3.out; have y4 := z4.out; omega)
  replace hog : OwnI w9 _ g0 xs := own_row hog hrow (fun g hg hg2 => by have h1 := HGB.out g hg2; have h2 := (HB0.out g hg).2; have y1 := z1.out; have y2 := z2.out; have y3 := z3.out; have y4 := z4.out; omega)
  have g9 : Grew w w9 := grew_row g8 hrow (fun g hg => by have h2 := (HB0.out g hg).1; have y1 := z1.out; have y2 := z2.out; have y3 := z3.out; have y4 := z4.out; omega)
  clear hrow ox0
  go_wp2_with fail
  refine (eqInt64S_yes _ _ xs _ hog.ints hq.ints (by omega)).mono ?_
  rintro e w10 ⟨rfl, hg10⟩
  have z10 := Lib.hid hg10.size
  have g10 : Grew w w10 := g9.trans hg10
  replace hq := hq.grew hg10
  replace hog := hog.grew hg10
  clear hg10
  go_wp2_with fail
  refine (markInt64S_m _ xs _ 1 _ hog (by omega) (by omega) (by omega)).mono ?_
  rintro e w11 ⟨rfl, hog, hrow⟩
  replace hq : OwnI w11 _ q0 xs := own_row hq hrow (fun g hg hg2 => by have h1 := HQB.out g hg2; have h2 := HGB.out g hg; have y1 := z1.out; have y2 := z2.out; have y3 := z3.out; have y4 := z4.out; omega)
  have g11 : Grew w w11 := grew_row g10 hrow (fun g hg => by have h2 := HGB.out g hg; have y1 := z1.out; have y2 := z2.out; have y3 := z3.out; have y4 := z4.out; omega)
  clear hrow
  go_wp2_with fail
  refine (heldInt64S_c _ xs.length 1 _ hog.ints (by omega) (by omega) (by omega)).mono ?_
  rintro e w12 ⟨rfl, hg12⟩
  have z12 := Lib.hid hg12.size
  have g12 : Grew w w12 := g11.trans hg12
  replace hq := hq.grew hg12
  replace hog := hog.grew hg12
  clear hg12
  go_wp2_with fail
  refine (T0.out _ g12 hn0).mono ?_
  rintro e w13 ⟨b0, rfl, ob0, hg13⟩
  have z13 := Lib.hid hg13.size
  have g13 : Grew w w13 := g12.trans hg13
  replace hq := hq.grew hg13
  replace hog := hog.grew hg13
  clear hg13
  go_wp2_with fail
  refine (KI.out _ _ ob0.tms).mono ?_
  rintro e w14 ⟨h0, rfl, hoh, hg14⟩
  have z14 := Lib.hid hg14.size
  have g14 : Grew w w14 := g13.trans hg14
  replace hq := hq.grew hg14
  replace hog := hog.grew hg14
  clear hg14
  go_wp2_with fail
  refine (eqInt64S_yes _ _ xs _ hoh.ints hq.ints (by omega)).mono ?_
  rintro e w15 ⟨rfl, hg15⟩
  have z15 := Lib.hid hg15.size
  have g15 : Grew w w15 := g14.trans hg15
  replace hq := hq.grew hg15
  replace hog := hog.grew hg15
  replace hoh := hoh.grew hg15
  clear hg15
  go_wp2_with fail
  refine (heldInt64S_c _ xs.length 1 _ hog.ints (by omega) (by omega) (by omega)).mono ?_
  rintro e w16 ⟨rfl, hg16⟩
  go_wp2_with fail
  go_ret
  exact ⟨rfl, g15.trans hg16⟩
end Go.Proofs.YtfpkfgimhanekaaGreat

/- An argument that is a list of nodes of terms. -/
namespace Go.Proofs.YtfpkfgimhanekaaGreat
open Go.RowKit

theorem cellT_lt {w : World} {a : Addr} {u : Value} (h : w.cell? a = some u) : a.block < w.heap.size := by
  unfold World.cell? at h
  split at h
  · rename_i hh
    exact (Array.getElem?_eq_some_iff.1 hh).1
  · cases h

theorem argT_of_trod {H : Type} {enc : TypeId × Value → H} {P : Program} {W : World} {sp : Nat → Bool} {held : Bool} {n : Nat} {t e : TypeId} {f0 f1 f2 : Field} {v : Value} {y : DataW H × List MemPlace}
    (ht : P.underlying t = some (.slice e)) (he : P.underlying e = some (.struct #[f0, f1, f2])) (ce : P.cellsOf e = 3) (o0 : f0.offset = 0) (o1 : f1.offset = 1) (o2 : f2.offset = 2) (c0 : P.cellsOf f0.type = 1) (c1 : P.cellsOf f1.type = 1) (c2 : P.cellsOf f2.type = 1)
    (u0 : P.underlying f0.type = some (.int .i64)) (u1 : P.underlying f1.type = some (.int .i64)) (u2 : P.underlying f2.type = some .string) (h : DataW.trod enc P W 0 sp held n t [v] = some y) : ∃ xs, ArgT W v xs := by
  rcases Go.Deep.open_slice ht h with ⟨hv, _⟩ | ⟨a, len, cap, m, k, D, Pl, hv, _, hl, hm, hmm, _, hcell⟩
  · obtain rfl : v = .slice none 0 0 := by simpa using hv
    exact ⟨[], ⟨none, 0, rfl, by simp⟩, fun h => absurd h (by simp), fun i hi => absurd hi (by simp)⟩
  · obtain rfl : v = .slice (some a) len cap := by simpa using hv
    have hlm : len ≤ m := by rw [hmm]; split <;> omega
    have hmax : maxLen = 9223372036854775807 := by decide
    rw [hmax] at hm
    have each : ∀ i, i < len → ∃ q : Tn, W.cell? (a.add (i * 3)) = some (.int .i64 q.1) ∧ W.cell? (a.add (i * 3 + 1)) = some (.int .i64 q.2.1) ∧ W.cell? (a.add (i * 3 + 2)) = some (.string q.2.2) ∧ q.2.2.size ≤ maxLen := fun i hi => by
      obtain ⟨cs', h1, h2⟩ := hcell i (by omega)
      rw [ce] at h1
      obtain ⟨_, hlen, hc⟩ := World.cells?_some h1
      obtain ⟨xs, k', hk, hxy, _, hxl, hf⟩ := DataW.trod_struct he h2
      match xs, hxl, cs', hlen with
      | [y0, y1, y2], _, [v0, v1, v2], _ =>
        have g0 := hf 0 f0 rfl
        have g1 := hf 1 f1 rfl
        have g2 := hf 2 f2 rfl
        simp [o0, o1, o2, c0, c1, c2] at g0 g1 g2
        have e0 := hc 0 (by omega)
        have e1 := hc 1 (by omega)
        have e2 := hc 2 (by omega)
        rw [Go.Deep.add_add] at e0 e1 e2
        obtain ⟨x, hx, _⟩ := DataW.trod_int u0 g0
        obtain ⟨z, hz, _⟩ := DataW.trod_int u1 g1
        obtain ⟨s, hs, _, hsz⟩ := DataW.trod_string u2 g2
        obtain rfl : v0 = .int .i64 x := by simpa using hx
        obtain rfl : v1 = .int .i64 z := by simpa using hz
        obtain rfl : v2 = .string s := by simpa using hs
        exact ⟨(x, z, s), by simpa using e0, by simpa using e1, by simpa using e2, hsz⟩
    obtain ⟨q, hq⟩ := Go.Deep.choose_lt each
    have hlen : ((List.range len).map q).length = len := by simp
    have hk0 : ∀ i, i < len → tk ((List.range len).map q) i = (q i).1 := fun i hi => by simp [tk, List.getD, hi]
    have hk1 : ∀ i, i < len → tn ((List.range len).map q) i = (q i).2.1 := fun i hi => by simp [tn, List.getD, hi]
    have hk2 : ∀ i, i < len → tt ((List.range len).map q) i = (q i).2.2 := fun i hi => by simp [tt, List.getD, hi]
    refine ⟨(List.range len).map q, ⟨some a, cap, by rw [hlen], by rw [hlen]; omega⟩, fun hp => ?_, fun i hi => ?_⟩
    · rw [hlen] at hp
      obtain ⟨b, off, spot⟩ := a
      have h0 := (hq 0 (by omega)).1
      have hspot : spot = none := by simpa [Addr.add] using World.cell?_spot h0
      subst hspot
      have hb := cellT_lt h0
      have hadd : ∀ i, (⟨b, off, none⟩ : Addr).add i = ⟨b, off + i, none⟩ := fun i => by
        unfold Addr.add
        split
        · subst_vars; rfl
        · rfl
      rw [hadd] at hb
      unfold Tms Rd
      rw [hlen]
      refine ⟨by rw [tcells_length, hlen], by omega, .inr ⟨b, off, cap, rfl, hl, hm, hb, fun j u hu => ?_⟩⟩
      have hj : j < len * 3 := by
        have := (List.getElem?_eq_some_iff.1 hu).1
        rw [tcells_length, hlen] at this
        exact this
      have hi : j / 3 < len := by omega
      obtain ⟨e0, e1, e2, _⟩ := hq (j / 3) hi
      rw [hadd] at e0 e1 e2
      obtain ⟨k0, k1, k2⟩ := tcells_at ((List.range len).map q) (j / 3) (by rw [hlen]; exact hi)
      rw [hk0 _ hi] at k0
      rw [hk1 _ hi] at k1
      rw [hk2 _ hi] at k2
      have hd := Nat.div_add_mod j 3
      have hmo : j % 3 = 0 ∨ j % 3 = 1 ∨ j % 3 = 2 := by omega
      rcases hmo with hmo | hmo | hmo
      · have e : j = j / 3 * 3 := by omega
        rw [e] at hu ⊢
        rw [k0] at hu
        rw [← hu]
        exact e0
      · have e : j = j / 3 * 3 + 1 := by omega
        rw [e] at hu ⊢
        rw [k1] at hu
        rw [← hu]
        exact e1
      · have e : j = j / 3 * 3 + 2 := by omega
        rw [e] at hu ⊢
        rw [k2] at hu
        rw [← hu]
        exact e2
    · rw [hlen] at hi
      rw [hk2 i hi, ← hmax]
      exact (hq i hi).2.2.2
end Go.Proofs.YtfpkfgimhanekaaGreat

/- The limits of a term: limitedTerm of the program, l26Made of the reference. -/
namespace Go.Proofs.YtfpkfgimhanekaaGreat
open Go.RowKit

def bigT (_k n : Int) (_s : ByteArray) : Bool := decide (99 < n)
/-- A term that has not too many nodes and no great number. -/
noncomputable def limT (xs : List Tn) : List Tn × Int := if decide (60 < xs.length) || anyT bigT xs then ([], 3) else (xs, 0)
theorem limT_len {xs : List Tn} : (limT xs).1.length ≤ 60 := by
  unfold limT
  split
  · simp
  · rename_i h
    simp only [Bool.or_eq_true, decide_eq_true_eq, not_or] at h
    simp; omega
theorem limitedTerm1_ok : PredT 100 bigT := by
  intro a b s w hs
  unfold bigT
  go_enter Tryz.func100, Tryz.ntmps100
  go_wp2_with fail
  go_ret
  exact ⟨rfl, (Grew.refl w).alloc _⟩
/-- The call gives the term, or nothing and a code. -/
def LimG (w : World) (B : Nat) (xs : List Tn) (e : Ending) (w' : World) : Prop := ∃ u, e = .returned (.tuple #[u, .int .i64 (limT xs).2]) ∧ OwnT w' B u (limT xs).1 ∧ Grew w w'
theorem limitedTerm_c (v : Value) (xs : List Tn) (w : World) (B : Nat) (h : OwnT w B v xs) (hfit : FitsT xs) (hn : xs.length ≤ 1048576) :
    Calls Tryz.prog 65 #[v] w (LimG w B xs) := by
  unfold LimG limT
  have HC := fun w h => containsFuncT_c v xs _ _ w h hfit limitedTerm1_ok (enters_of Tryz.func100 (by kernel_rfl) rfl)
  obtain ⟨A, c, rfl⟩ := tms_slice h.tms
  have HO := Lib.hid h
  have HN := Lib.hid h.tms
  clear h hfit
  by_cases hl : 60 < xs.length
  · rw [decide_eq_true hl, Bool.true_or, if_pos rfl]
    clear HC HO HN
    generalize xs.length = n at *
    go_enter Tryz.func65, Tryz.ntmps65
    go_wp2_with fail
    go_ret2
    exact ⟨.slice none 0 0, rfl, OwnT.nil_ _ _, Grew.refl _⟩
  · rw [decide_eq_false hl, Bool.false_or]
    cases hq : anyT bigT xs with
    | true =>
      rw [if_pos rfl]
      rw [hq] at HC
      replace HC := Lib.hid HC
      clear HO hq
      generalize xs.length = n at *
      go_enter Tryz.func65, Tryz.ntmps65
      go_wp2_with fail
      refine (HC.out _ HN.out).mono ?_
      rintro e w1 ⟨rfl, hg1⟩
      go_wp2_with fail
      go_ret2
      exact ⟨.slice none 0 0, rfl, OwnT.nil_ _ _, hg1⟩
    | false =>
      rw [if_neg (by simp)]
      rw [hq] at HC
      replace HC := Lib.hid HC
      clear hq
      generalize xs.length = n at *
      go_enter Tryz.func65, Tryz.ntmps65
      go_wp2_with fail
      refine (HC.out _ HN.out).mono ?_
      rintro e w1 ⟨rfl, hg1⟩
      go_wp2_with fail
      go_ret2
      exact ⟨_, rfl, HO.out.grew hg1, hg1⟩
theorem l26Made_c (v : Value) (xs : List Tn) (w : World) (B : Nat) (h : OwnT w B v xs) (hn : xs.length ≤ 1048576) :
    Calls Tryz.prog 48 #[v] w (LimG w B xs) := by
  unfold LimG limT
  rcases h.tms.open_ with ⟨rfl, rfl⟩ | ⟨b, o, c, rfl, hc, hm, hb, hcell⟩
  · have hq : anyT bigT [] = false := anyT_no (NoneT.zero _ _)
    rw [hq, if_neg (by simp)]
    clear h hq
    go_enter Tryz.func48, Tryz.ntmps48
    go_wp2_with fail
    refine wp_loop_rounds 1 ?_; rw [rounds_succ]
    go_wp2_with fail
    go_ret2
    exact ⟨_, rfl, OwnT.nil_ _ _, Grew.refl _⟩
  have HO := Lib.hid h
  by_cases hl : 60 < xs.length
  · rw [decide_eq_true hl, Bool.true_or, if_pos rfl]
    clear h hcell HO
    generalize xs.length = n at *
    go_enter Tryz.func48, Tryz.ntmps48
    go_wp2_with fail
    go_ret2
    exact ⟨.slice none 0 0, rfl, OwnT.nil_ _ _, Grew.refl _⟩
  · rw [decide_eq_false hl, Bool.false_or]
    obtain ⟨R, hR⟩ : ∃ R, R = anyT bigT xs := ⟨_, rfl⟩
    rw [← hR]
    have HA := Lib.hid (fun k hk h => hR.trans (@anyT_at bigT xs k hk h))
    have HZ := Lib.hid (fun h => hR.trans (@anyT_no bigT xs h))
    have HC := Lib.hid hcell
    clear hcell h hR
    obtain ⟨RR, hRR⟩ : ∃ RR, RR = (if R = true then (([] : List Tn), (3 : Int)) else (xs, 0)) := ⟨_, rfl⟩
    rw [← hRR]
    have HRR := Lib.hid hRR
    clear hRR
    generalize hN : xs.length = n at *
    go_enter Tryz.func48, Tryz.ntmps48
    go_wp2_with fail
    go_loopw [4] (fun i wr => ∃ j : Nat, j ≤ n ∧ i = .int .i64 j ∧ Grew w wr ∧ Hid (NoneT bigT xs j)) (fun i _ => n - (intOf i).toNat)
    case atStart => exact ⟨0, Nat.zero_le _, rfl, Grew.refl _, NoneT.zero _ _⟩
    case round =>
      obtain ⟨j, hj, rfl, hB, HJ⟩ := hrel
      by_cases hlt : j < n
      · have k2 := (HC.out j hlt _ hB).2.1
        have hA := Lib.hid (HA.out j hlt)
        have hS := Lib.hid (fun h => HJ.out.succ (k := j) h)
        unfold bigT at hA hS
        generalize tn xs j = y at *
        by_cases hbig : 99 < y
        · have hv : Hid (RR = ([], 3)) := Lib.hid (by rw [HRR.out, hA.out (by simpa using hbig)]; rfl)
          go_wp2_with fail
          go_ret2
          rw [hv.out]
          exact ⟨.slice none 0 0, rfl, OwnT.nil_ _ _, hB⟩
        · have hs := Lib.hid (hS.out (by simpa using hbig))
          go_wp2_with fail
          go_roundw
          case rel => exact ⟨j + 1, by omega, by go_num, hB, hs⟩
          case measure => simp [intOf]; omega
      · obtain rfl : j = n := by omega
        have hv : Hid (RR = (xs, 0)) := Lib.hid (by rw [HRR.out, HZ.out HJ.out]; rfl)
        go_wp2_with fail
        go_ret2
        rw [hv.out]
        exact ⟨_, rfl, HO.out.grew hB, hB⟩
end Go.Proofs.YtfpkfgimhanekaaGreat

/- A contracted term is a term again. No program is in sight. -/
namespace Go.Proofs.YtfpkfgimhanekaaGreat
open Go.RowKit
open Tr (Tm)

namespace Tr
def mapTm (g : Tn → Int → Tm) : Tm → Int → Tm
  | .t0 x, n => g x n
  | .t1 x a, n => .t1 x (mapTm g a (n + bd x.1 0))
  | .t2 x a b, n => .t2 x (mapTm g a (n + bd x.1 0)) (mapTm g b (n + bd x.1 1))
  | .t3 x a b c, n => .t3 x (mapTm g a (n + bd x.1 0)) (mapTm g b (n + bd x.1 1)) (mapTm g c (n + bd x.1 2))
theorem enc_mapTm {g : Tn → Int → Tm} {f : Tn → Int → List Tn} (h : ∀ x n, enc (g x n) = f x n) : ∀ t n, enc (mapTm g t n) = mapN f t n := by
  intro t
  induction t with
  | t0 x => intro n; exact h x n
  | t1 x a ha => intro n; simp [mapTm, mapN, enc, ha]
  | t2 x a b ha hb => intro n; simp [mapTm, mapN, enc, ha, hb]
  | t3 x a b c ha hb hc => intro n; simp [mapTm, mapN, enc, ha, hb, hc]
theorem bd_pos (k : Int) (i : Nat) : 0 ≤ bd k i := by unfold bd; split <;> omega
theorem mapTm_wf {g : Tn → Int → Tm} {p q : Tn → Prop} {lo : Int} (hpq : ∀ x, p x → q x) (hg : ∀ x m, lo ≤ m → ar x.1 = 0 → p x → wf q (g x m)) : ∀ t n, lo ≤ n → wf p t → wf q (mapTm g t n) := by
  intro t
  induction t with
  | t0 x => intro n hn h; exact hg x n hn h.1 h.2
  | t1 x a ha =>
    intro n hn h
    exact ⟨⟨h.1.1, hpq _ h.1.2⟩, ha _ (by have := bd_pos x.1 0; omega) h.2⟩
  | t2 x a b ha hb =>
    intro n hn h
    exact ⟨⟨h.1.1, hpq _ h.1.2⟩, ha _ (by have := bd_pos x.1 0; omega) h.2.1, hb _ (by have := bd_pos x.1 1; omega) h.2.2⟩
  | t3 x a b c ha hb hc =>
    intro n hn h
    exact ⟨⟨h.1.1, hpq _ h.1.2⟩, ha _ (by have := bd_pos x.1 0; omega) h.2.1, hb _ (by have := bd_pos x.1 1; omega) h.2.2.1, hc _ (by have := bd_pos x.1 2; omega) h.2.2.2⟩
def nodeTm (g : Tn → Tn) : Tm → Tm
  | .t0 x => .t0 (g x)
  | .t1 x a => .t1 (g x) (nodeTm g a)
  | .t2 x a b => .t2 (g x) (nodeTm g a) (nodeTm g b)
  | .t3 x a b c => .t3 (g x) (nodeTm g a) (nodeTm g b) (nodeTm g c)
theorem enc_nodeTm (g : Tn → Tn) : ∀ t, enc (nodeTm g t) = (enc t).map g := by
  intro t
  induction t with
  | t0 x => rfl
  | t1 x a ha => simp [nodeTm, enc, ha]
  | t2 x a b ha hb => simp [nodeTm, enc, ha, hb]
  | t3 x a b c ha hb hc => simp [nodeTm, enc, ha, hb, hc]
theorem nodeTm_wf {g : Tn → Tn} {p q : Tn → Prop} (hk : ∀ x, (g x).1 = x.1) (hg : ∀ x, p x → q (g x)) : ∀ t, wf p t → wf q (nodeTm g t) := by
  intro t
  induction t with
  | t0 x => intro h; exact ⟨by rw [hk]; exact h.1, hg _ h.2⟩
  | t1 x a ha => intro h; exact ⟨⟨by rw [hk]; exact h.1.1, hg _ h.1.2⟩, ha h.2⟩
  | t2 x a b ha hb => intro h; exact ⟨⟨by rw [hk]; exact h.1.1, hg _ h.1.2⟩, ha h.2.1, hb h.2.2⟩
  | t3 x a b c ha hb hc => intro h; exact ⟨⟨by rw [hk]; exact h.1.1, hg _ h.1.2⟩, ha h.2.1, hb h.2.2.1, hc h.2.2.2⟩
theorem wf_mono {p q : Tn → Prop} (h : ∀ x, p x → q x) : ∀ t, wf p t → wf q t := by
  intro t
  induction t with
  | t0 x => intro k; exact ⟨k.1, h _ k.2⟩
  | t1 x a ha => intro k; exact ⟨⟨k.1.1, h _ k.1.2⟩, ha k.2⟩
  | t2 x a b ha hb => intro k; exact ⟨⟨k.1.1, h _ k.1.2⟩, ha k.2.1, hb k.2.2⟩
  | t3 x a b c ha hb hc => intro k; exact ⟨⟨k.1.1, h _ k.1.2⟩, ha k.2.1, hb k.2.2.1, hc k.2.2.2⟩
theorem wf_and {p q : Tn → Prop} : ∀ t, wf p t → (∀ x ∈ enc t, q x) → wf (fun x => p x ∧ q x) t := by
  intro t
  induction t with
  | t0 x => intro k h; exact ⟨k.1, k.2, h _ (by simp [enc])⟩
  | t1 x a ha => intro k h; exact ⟨⟨k.1.1, k.1.2, h _ (by simp [enc])⟩, ha k.2 (fun y hy => h y (by simp [enc, hy]))⟩
  | t2 x a b ha hb => intro k h; exact ⟨⟨k.1.1, k.1.2, h _ (by simp [enc])⟩, ha k.2.1 (fun y hy => h y (by simp [enc, hy])), hb k.2.2 (fun y hy => h y (by simp [enc, hy]))⟩
  | t3 x a b c ha hb hc => intro k h; exact ⟨⟨k.1.1, k.1.2, h _ (by simp [enc])⟩, ha k.2.1 (fun y hy => h y (by simp [enc, hy])), hb k.2.2.1 (fun y hy => h y (by simp [enc, hy])), hc k.2.2.2 (fun y hy => h y (by simp [enc, hy]))⟩
end Tr

/-- A node as good as that of a term, but that a number may be great. -/
def GoodU (x : Tn) : Prop := if x.1 = 0 then 0 ≤ x.2.1 ∧ x.2.2.toList.isEmpty = true else tnB x.1 x.2.1 x.2.2 = true
theorem goodU_of {x : Tn} (h : GoodN x) : GoodU x := by
  unfold GoodU
  split
  · rename_i h0
    unfold GoodN tnB at h
    rw [h0, if_pos (by rfl)] at h
    simp only [Bool.and_eq_true, decide_eq_true_eq] at h
    exact ⟨h.1.1, h.2⟩
  · exact h
theorem good_of {x : Tn} (h : GoodU x) (hn : x.2.1 ≤ 99) : GoodN x := by
  unfold GoodU at h
  unfold GoodN
  split at h
  · rename_i h0
    unfold tnB
    rw [h0, if_pos (by rfl)]
    simp only [Bool.and_eq_true, decide_eq_true_eq]
    exact ⟨⟨h.1, hn⟩, h.2⟩
  · exact h
theorem goodU_raise {k d : Int} {x : Tn} (hd : 0 ≤ d) (h : GoodU x) : GoodU (raiseN k d x) := by
  unfold raiseN
  split
  · rename_i h0
    unfold GoodU at h ⊢
    rw [if_pos h0.1] at h
    rw [if_pos (show (x.1, x.2.1 + d, x.2.2).1 = 0 from h0.1)]
    exact ⟨by show 0 ≤ x.2.1 + d; omega, h.2⟩
  · exact h
theorem ar_leaf {x : Tn} (h : GoodN x) (ha : Tr.ar x.1 = 0) : x.1 = 0 := by
  have := good_leaf (t := .t0 x) ⟨ha, h⟩
  exact this.1 rfl

/-- A variable with a term put for number n. -/
def putT (n : Int) (u : Tm) (x : Tn) (now : Int) : Tm := if x.2.1 = n then Tr.nodeTm (raiseN n (now - n - 1)) u else if n < x.2.1 then .t0 (x.1, x.2.1 - 1, x.2.2) else .t0 x
theorem enc_putT (n : Int) (u : Tm) (x : Tn) (now : Int) : Tr.enc (putT n u x now) = putN n (Tr.enc u) x now := by
  unfold putT putN
  split
  · rw [Tr.enc_nodeTm]; rfl
  · split <;> rfl
theorem raiseN_kind (k d : Int) (x : Tn) : (raiseN k d x).1 = x.1 := by unfold raiseN; split <;> rfl
theorem putT_wf {n : Int} {u : Tm} (hn : 0 ≤ n) (hu : Good u) (x : Tn) (m : Int) (hm : n + 1 ≤ m) (ha : Tr.ar x.1 = 0) (hx : GoodN x) : Tr.wf GoodU (putT n u x m) := by
  have h0 := ar_leaf hx ha
  unfold putT
  split
  · exact Tr.nodeTm_wf (raiseN_kind _ _) (fun y hy => goodU_raise (by omega) (goodU_of hy)) u hu
  · split
    · refine ⟨ha, ?_⟩
      have := goodU_of hx
      unfold GoodU at this ⊢
      rw [if_pos h0] at this
      rw [if_pos (show (x.1, x.2.1 - 1, x.2.2).1 = 0 from h0)]
      exact ⟨by show 0 ≤ x.2.1 - 1; omega, this.2⟩
    · exact ⟨ha, goodU_of hx⟩

def ctrT (t : Tm) (n : Int) : Tm :=
  match t with
  | .t2 _ f u => Tr.mapTm (putT n u) (Tr.kid f 0) (n + 1)
  | .t3 _ f a b => Tr.mapTm (putT n (Tr.kid f 0)) (if (Tr.hd f).1 = 6 then a else b) (n + 1)
  | .t1 x f => Tr.kid f (if x.1 = 4 then 0 else 1)
  | .t0 x => .t0 x
theorem enc_ctrT (t : Tm) (n : Int) : Tr.enc (ctrT t n) = ctr t n := by
  cases t with
  | t0 x => rfl
  | t1 x f => rfl
  | t2 x f u => exact Tr.enc_mapTm (enc_putT n u) _ _
  | t3 x f a b => exact Tr.enc_mapTm (enc_putT n (Tr.kid f 0)) _ _
theorem ctrT_wf {t : Tm} {n : Int} (hn : 0 ≤ n) (hg : Good t) (hr : rdxAt (Tr.enc t) 0 = true) : Tr.wf GoodU (ctrT t n) := by
  rcases rdx_shape hg hr with ⟨x, y, b, u, rfl, hx, hy⟩ | ⟨x, y, a, b, rfl, hx, hy⟩ | ⟨x, y, s, a, b, rfl, hx, hy⟩
  · exact Tr.mapTm_wf (lo := n + 1) (fun _ h => goodU_of h) (fun z m hm ha hz => putT_wf hn hg.2.2 z m hm ha hz) b _ (Int.le_refl _) hg.2.1.2
  · have hgf : Good (.t2 y a b) := hg.2
    rcases hx with hx | hx
    · have e : ctrT (.t1 x (.t2 y a b)) n = a := by simp [ctrT, hx, Tr.kid, Tr.kids]
      rw [e]; exact Tr.wf_mono (fun _ h => goodU_of h) a hgf.2.1
    · have e : ctrT (.t1 x (.t2 y a b)) n = b := by simp [ctrT, hx, Tr.kid, Tr.kids]
      rw [e]; exact Tr.wf_mono (fun _ h => goodU_of h) b hgf.2.2
  · refine Tr.mapTm_wf (lo := n + 1) (fun _ h => goodU_of h) (fun z m hm ha hz => putT_wf hn (u := s) hg.2.1.2 z m hm ha hz) _ _ (Int.le_refl _) ?_
    split
    · exact hg.2.2.1
    · exact hg.2.2.2

/-- A term with the redex at an index contracted. -/
def ctT : Tm → Int → Nat → Tm
  | t, n, 0 => ctrT t n
  | .t0 x, _, _ + 1 => .t0 x
  | .t1 x a, n, i + 1 => .t1 x (if i < (Tr.enc a).length then ctT a (n + Tr.bd x.1 0) i else a)
  | .t2 x a b, n, i + 1 => .t2 x (if i < (Tr.enc a).length then ctT a (n + Tr.bd x.1 0) i else a) (if (Tr.enc a).length ≤ i ∧ i < (Tr.enc a).length + (Tr.enc b).length then ctT b (n + Tr.bd x.1 1) (i - (Tr.enc a).length) else b)
  | .t3 x a b c, n, i + 1 => .t3 x (if i < (Tr.enc a).length then ctT a (n + Tr.bd x.1 0) i else a) (if (Tr.enc a).length ≤ i ∧ i < (Tr.enc a).length + (Tr.enc b).length then ctT b (n + Tr.bd x.1 1) (i - (Tr.enc a).length) else b) (if (Tr.enc a).length + (Tr.enc b).length ≤ i ∧ i < (Tr.enc a).length + (Tr.enc b).length + (Tr.enc c).length then ctT c (n + Tr.bd x.1 2) (i - ((Tr.enc a).length + (Tr.enc b).length)) else c)
theorem ctT_zero (t : Tm) (n : Int) : ctT t n 0 = ctrT t n := by cases t <;> rfl
theorem enc_ite {P : Prop} [Decidable P] {a b : Tm} {A : List Tn} (h : Tr.enc a = A) : Tr.enc (if P then a else b) = (if P then A else Tr.enc b) := by split; exact h; rfl
theorem enc_ctT : ∀ (t : Tm) (n : Int) (i : Nat), Tr.enc (ctT t n i) = ctAt t n i := by
  intro t
  induction t with
  | t0 x => intro n i; cases i <;> rfl
  | t1 x a ha =>
    intro n i
    cases i with
    | zero => rw [ctT_zero, ctAt_zero]; exact enc_ctrT _ _
    | succ i =>
      simp only [ctT, ctAt, Tr.enc]
      rw [enc_ite (ha _ _)]
  | t2 x a b ha hb =>
    intro n i
    cases i with
    | zero => rw [ctT_zero, ctAt_zero]; exact enc_ctrT _ _
    | succ i =>
      simp only [ctT, ctAt, Tr.enc]
      rw [enc_ite (ha _ _), enc_ite (hb _ _)]
  | t3 x a b c ha hb hc =>
    intro n i
    cases i with
    | zero => rw [ctT_zero, ctAt_zero]; exact enc_ctrT _ _
    | succ i =>
      simp only [ctT, ctAt, Tr.enc]
      rw [enc_ite (ha _ _), enc_ite (hb _ _), enc_ite (hc _ _)]
theorem wf_ite {P : Prop} [Decidable P] {a b : Tm} {p : Tn → Prop} (h : P → Tr.wf p a) (k : Tr.wf p b) : Tr.wf p (if P then a else b) := by split; exact h ‹_›; exact k
theorem ctT_wf : ∀ (t : Tm) (n : Int) (i : Nat), 0 ≤ n → Good t → rdxAt (Tr.enc t) i = true → Tr.wf GoodU (ctT t n i) := by
  intro t
  induction t with
  | t0 x =>
    intro n i hn hg hr
    unfold rdxAt at hr
    simp [Tr.enc] at hr
  | t1 x a ha =>
    intro n i hn hg hr
    cases i with
    | zero => rw [ctT_zero]; exact ctrT_wf hn hg hr
    | succ i =>
      refine ⟨⟨hg.1.1, goodU_of hg.1.2⟩, wf_ite (fun h => ?_) (Tr.wf_mono (fun _ h => goodU_of h) a hg.2)⟩
      have h1 := rdx_part (j := 0) hg hr (by decide : 0 < 1) (by rw [Tr.off_zero]; omega) (by rw [Tr.off_zero]; show i + 1 < 1 + (Tr.enc a).length; omega)
      rw [Tr.off_zero, Nat.add_sub_cancel] at h1
      exact ha _ _ (by have := Tr.bd_pos x.1 0; omega) hg.2 h1
  | t2 x a b ha hb =>
    intro n i hn hg hr
    cases i with
    | zero => rw [ctT_zero]; exact ctrT_wf hn hg hr
    | succ i =>
      have e1 : Tr.off (.t2 x a b) 1 = 1 + (Tr.enc a).length := by simp [Tr.off, Tr.kids]
      refine ⟨⟨hg.1.1, goodU_of hg.1.2⟩, wf_ite (fun h => ?_) (Tr.wf_mono (fun _ h => goodU_of h) a hg.2.1), wf_ite (fun h => ?_) (Tr.wf_mono (fun _ h => goodU_of h) b hg.2.2)⟩
      · have h1 := rdx_part (j := 0) hg hr (by decide : 0 < 2) (by rw [Tr.off_zero]; omega) (by rw [Tr.off_zero]; show i + 1 < 1 + (Tr.enc a).length; omega)
        rw [Tr.off_zero, Nat.add_sub_cancel] at h1
        exact ha _ _ (by have := Tr.bd_pos x.1 0; omega) hg.2.1 h1
      · have h1 := rdx_part (j := 1) hg hr (by decide : 1 < 2) (by rw [e1]; omega) (by rw [e1]; show i + 1 < 1 + (Tr.enc a).length + (Tr.enc b).length; omega)
        rw [e1, show i + 1 - (1 + (Tr.enc a).length) = i - (Tr.enc a).length by omega] at h1
        exact hb _ _ (by have := Tr.bd_pos x.1 1; omega) hg.2.2 h1
  | t3 x a b c ha hb hc =>
    intro n i hn hg hr
    cases i with
    | zero => rw [ctT_zero]; exact ctrT_wf hn hg hr
    | succ i =>
      have e1 : Tr.off (.t3 x a b c) 1 = 1 + (Tr.enc a).length := by simp [Tr.off, Tr.kids]
      have e2 : Tr.off (.t3 x a b c) 2 = 1 + ((Tr.enc a).length + (Tr.enc b).length) := by simp [Tr.off, Tr.kids]
      refine ⟨⟨hg.1.1, goodU_of hg.1.2⟩, wf_ite (fun h => ?_) (Tr.wf_mono (fun _ h => goodU_of h) a hg.2.1), wf_ite (fun h => ?_) (Tr.wf_mono (fun _ h => goodU_of h) b hg.2.2.1), wf_ite (fun h => ?_) (Tr.wf_mono (fun _ h => goodU_of h) c hg.2.2.2)⟩
      · have h1 := rdx_part (j := 0) hg hr (by decide : 0 < 3) (by rw [Tr.off_zero]; omega) (by rw [Tr.off_zero]; show i + 1 < 1 + (Tr.enc a).length; omega)
        rw [Tr.off_zero, Nat.add_sub_cancel] at h1
        exact ha _ _ (by have := Tr.bd_pos x.1 0; omega) hg.2.1 h1
      · have h1 := rdx_part (j := 1) hg hr (by decide : 1 < 3) (by rw [e1]; omega) (by rw [e1]; show i + 1 < 1 + (Tr.enc a).length + (Tr.enc b).length; omega)
        rw [e1, show i + 1 - (1 + (Tr.enc a).length) = i - (Tr.enc a).length by omega] at h1
        exact hb _ _ (by have := Tr.bd_pos x.1 1; omega) hg.2.2.1 h1
      · have h1 := rdx_part (j := 2) hg hr (by decide : 2 < 3) (by rw [e2]; omega) (by rw [e2]; show i + 1 < 1 + ((Tr.enc a).length + (Tr.enc b).length) + (Tr.enc c).length; omega)
        rw [e2, show i + 1 - (1 + ((Tr.enc a).length + (Tr.enc b).length)) = i - ((Tr.enc a).length + (Tr.enc b).length) by omega] at h1
        exact hc _ _ (by have := Tr.bd_pos x.1 2; omega) hg.2.2.2 h1

/-- Under the limits a contracted term is a good term. -/
theorem ct_good {t : Tm} {n : Int} {i : Nat} (hn : 0 ≤ n) (hg : Good t) (hr : rdxAt (Tr.enc t) i = true) (hl : (limT (ctAt t n i)).2 = 0) : Good (ctT t n i) ∧ Tr.enc (ctT t n i) = ctAt t n i ∧ (ctAt t n i).length ≤ 60 ∧ (limT (ctAt t n i)).1 = ctAt t n i := by
  have he := enc_ctT t n i
  unfold limT at hl ⊢
  split at hl
  · cases hl
  · rename_i hc
    rw [if_neg hc]
    simp only [Bool.or_eq_true, decide_eq_true_eq, not_or] at hc
    obtain ⟨h1, h2⟩ := hc
    refine ⟨?_, he, by omega, rfl⟩
    have hw := Tr.wf_and (q := fun x => x.2.1 ≤ 99) (ctT t n i) (ctT_wf t n i hn hg hr) ?_
    · exact Tr.wf_mono (fun x h => good_of h.1 h.2) _ hw
    · intro x hx
      rw [he] at hx
      obtain ⟨j, hj, rfl⟩ := List.getElem_of_mem hx
      have := anyT_none (by simpa using h2) hj
      rw [tk_lt hj]
      unfold bigT at this
      simpa using this
theorem limT_code (xs : List Tn) : (limT xs).2 = 0 ∨ limT xs = ([], 3) := by
  unfold limT
  split
  · exact .inr rfl
  · exact .inl rfl
end Go.Proofs.YtfpkfgimhanekaaGreat

/- Plain formulas of the size of a text, and their texts. No program is in sight. -/
namespace Go.Proofs.YtfpkfgimhanekaaGreat
open Go.RowKit

/-- The text of a formula. -/
def tx (A : Fm.Tree) : ByteArray := bs (Fm.txt A 0)
/-- A formula of the size of a text. -/
def FmOk (A : Fm.Tree) : Prop := (Fm.enc A).length ≤ 40 ∧ anyP isBD (Fm.enc A) = false
theorem tx_pf {A : Fm.Tree} (h : (Fm.enc A).length ≤ 40) : Fm.pf (tx A) = (Fm.enc A, 0, 0) := Fm.pf_txt A (by have := Fm.txt_len A 0; omega) h
theorem tx_size {A : Fm.Tree} (h : (Fm.enc A).length ≤ 40) : (tx A).size ≤ 160 := by
  unfold tx
  rw [bs_size]
  have := Fm.txt_len A 0
  omega
theorem tx_inj {A B : Fm.Tree} (ha : (Fm.enc A).length ≤ 40) (hb : (Fm.enc B).length ≤ 40) (h : tx A = tx B) : A = B := by
  have h1 := tx_pf ha
  rw [h, tx_pf hb] at h1
  simp only [Prod.mk.injEq, and_true] at h1
  exact (enc_inj h1).symm
theorem gp_tx {A : Fm.Tree} (h : FmOk A) : gp (tx A) = true := by
  unfold gp
  rw [gd_true ⟨A, tx_pf h.1, rfl⟩, tx_pf h.1]
  simp [h.2]
theorem gp_tree {s : ByteArray} (h : gp s = true) : ∃ A, FmOk A ∧ tx A = s := by
  unfold gp at h
  simp only [Bool.and_eq_true, Bool.not_eq_true'] at h
  have hg : IsGood s := by
    by_cases hg : IsGood s
    · exact hg
    · rw [gd_false hg] at h; exact absurd h.1 (by simp)
  obtain ⟨A, h1, h2⟩ := hg
  have hl := Fm.pf_len s
  rw [h1] at hl h
  exact ⟨A, ⟨hl, h.2⟩, h2⟩
theorem tx_ne (A : Fm.Tree) : (tx A).toList.isEmpty = false := by
  have h1 := Fm.txt_pos A 0
  unfold tx
  cases he : Fm.txt A 0 with
  | nil => rw [he] at h1; simp at h1
  | cons x xs =>
    have := Lib.bytes_beq_iff (bs (x :: xs)) ByteArray.empty
    cases hq : (bs (x :: xs)).toList.isEmpty with
    | false => rfl
    | true =>
      exfalso
      have h2 : (bs (x :: xs)).toList = ByteArray.empty.toList := by
        rw [List.isEmpty_iff] at hq
        rw [hq]; exact (by unfold ByteArray.toList ByteArray.toList.loop; rfl : ([] : List UInt8) = ByteArray.empty.toList)
      have h3 := this.1 (by rw [h2]; simp)
      have h4 := congrArg ByteArray.size h3
      rw [bs_size] at h4
      simp at h4

/-- The formula that a text is the text of. -/
noncomputable def fo (s : ByteArray) : Fm.Tree := @dite _ (gp s = true) (Classical.propDecidable _) (fun h => Classical.choose (gp_tree h)) (fun _ => .fls)
theorem fo_ok {s : ByteArray} (h : gp s = true) : FmOk (fo s) ∧ tx (fo s) = s := by
  unfold fo
  rw [dif_pos h]
  exact Classical.choose_spec (gp_tree h)

/-- The formula, if it has not too many nodes. -/
def smallF (A : Fm.Tree) : Option Fm.Tree := if (Fm.enc A).length ≤ 40 then some A else none
theorem anyP_mem {p : Int → Int → Bool} {xs : List Fm.Nd} : anyP p xs = false ↔ ∀ x ∈ xs, p x.1 x.2 = false := by
  constructor
  · intro h x hx
    obtain ⟨i, hi, rfl⟩ := List.getElem_of_mem hx
    cases hq : p xs[i].1 xs[i].2 with
    | false => rfl
    | true =>
      have := anyP_at (p := p) hi (by simpa [kd, sy, List.getD, hi] using hq)
      rw [this] at h; cases h
  · intro h
    apply anyP_no
    intro i hi
    have := h xs[i] (List.getElem_mem hi)
    simpa [kd, sy, List.getD, hi] using this
theorem FmOk.bin {k : Int} {A B : Fm.Tree} {C : Fm.Tree} (he : Fm.enc C = (k, 0) :: (Fm.enc A ++ Fm.enc B)) (h : FmOk C) : FmOk A ∧ FmOk B := by
  obtain ⟨h1, h2⟩ := h
  rw [he] at h1 h2
  rw [anyP_mem] at h2
  simp only [List.length_cons, List.length_append] at h1
  exact ⟨⟨by omega, anyP_mem.2 fun x hx => h2 x (by simp [hx])⟩, ⟨by omega, anyP_mem.2 fun x hx => h2 x (by simp [hx])⟩⟩
theorem FmOk.join {k : Int} {A B : Fm.Tree} {C : Fm.Tree} (he : Fm.enc C = (k, 0) :: (Fm.enc A ++ Fm.enc B)) (hk : k ≠ 5 ∧ k ≠ 6) (hA : FmOk A) (hB : FmOk B) (hl : (Fm.enc C).length ≤ 40) : FmOk C := by
  refine ⟨hl, anyP_mem.2 ?_⟩
  rw [he]
  intro x hx
  simp only [List.mem_cons, List.mem_append] at hx
  rcases hx with rfl | hx | hx
  · unfold isBD
    have h5 : (k == 5) = false := by simpa using hk.1
    have h6 : (k == 6) = false := by simpa using hk.2
    show (k == 5 || k == 6) = false
    rw [h5, h6]; rfl
  · exact anyP_mem.1 hA.2 x hx
  · exact anyP_mem.1 hB.2 x hx
theorem smallF_ok {A B : Fm.Tree} (h : smallF A = some B) : A = B ∧ (Fm.enc B).length ≤ 40 := by
  unfold smallF at h
  split at h
  · simp at h; subst h; exact ⟨rfl, ‹_›⟩
  · cases h
theorem fmOk_and {p q : Fm.Tree} (h : FmOk (.and p q)) : FmOk p ∧ FmOk q := FmOk.bin (k := 2) rfl h
theorem fmOk_or {p q : Fm.Tree} (h : FmOk (.or p q)) : FmOk p ∧ FmOk q := FmOk.bin (k := 3) rfl h
theorem fmOk_imp {p q : Fm.Tree} (h : FmOk (.imp p q)) : FmOk p ∧ FmOk q := FmOk.bin (k := 4) rfl h
theorem small_and {p q B : Fm.Tree} (hp : FmOk p) (hq : FmOk q) (h : smallF (.and p q) = some B) : FmOk B := by
  obtain ⟨rfl, hl⟩ := smallF_ok h
  exact FmOk.join (k := 2) rfl (by decide) hp hq hl
theorem small_or {p q B : Fm.Tree} (hp : FmOk p) (hq : FmOk q) (h : smallF (.or p q) = some B) : FmOk B := by
  obtain ⟨rfl, hl⟩ := smallF_ok h
  exact FmOk.join (k := 3) rfl (by decide) hp hq hl
theorem small_imp {p q B : Fm.Tree} (hp : FmOk p) (hq : FmOk q) (h : smallF (.imp p q) = some B) : FmOk B := by
  obtain ⟨rfl, hl⟩ := smallF_ok h
  exact FmOk.join (k := 4) rfl (by decide) hp hq hl
end Go.Proofs.YtfpkfgimhanekaaGreat

/- The types of terms, as trees. No program is in sight. -/
namespace Go.Proofs.YtfpkfgimhanekaaGreat
open Go.RowKit
open Tr (Tm)

/-- The type of a node whose parts have types. -/
noncomputable def tyLam (A : Fm.Tree) (b : Option Fm.Tree) : Option Fm.Tree := b.bind fun B => smallF (.imp A B)
noncomputable def ty1 (k : Int) (A : Fm.Tree) : Fm.Tree → Option Fm.Tree := fun a =>
  if k = 4 then (match a with | .and p _ => some p | _ => none)
  else if k = 5 then (match a with | .and _ q => some q | _ => none)
  else if k = 6 then smallF (.or a A)
  else if k = 7 then smallF (.or A a)
  else (match a with | .fls => some A | _ => none)
noncomputable def ty2 (k : Int) (f u : Fm.Tree) : Option Fm.Tree :=
  if k = 3 then smallF (.and f u) else (match f with | .imp p q => if @decide (p = u) (Classical.propDecidable _) then some q else none | _ => none)
/-- The type of a term in an assumption list. -/
noncomputable def ty : List Fm.Tree → Tm → Option Fm.Tree
  | G, .t0 x => G[x.2.1.toNat]?
  | G, .t1 x a => if x.1 = 1 then (if G.length < 12 then tyLam (fo x.2.2) (ty (G ++ [fo x.2.2]) a) else none) else (ty G a).bind (ty1 x.1 (fo x.2.2))
  | G, .t2 x f u => (ty G f).bind fun F => (ty G u).bind fun U => ty2 x.1 F U
  | G, .t3 _ c a b => (ty G c).bind fun C => match C with
      | .or p q => if G.length < 12 then ((ty (G ++ [p]) a).bind fun R => (ty (G ++ [q]) b).bind fun S => if @decide (R = S) (Classical.propDecidable _) then some R else none) else none
      | _ => none

end Go.Proofs.YtfpkfgimhanekaaGreat

/- The way to the normal term: the leftmost redex is contracted, at most 200 times. No program is in sight. -/
namespace Go.Proofs.YtfpkfgimhanekaaGreat
open Go.RowKit
open Tr (Tm)

theorem redL_mem {xs : List Tn} {j : Nat} {x : Int} (h : x ∈ redL xs j) : ∃ i : Nat, x = i ∧ i < j ∧ rdxAt xs i = true := by
  induction j with
  | zero => simp [redL] at h
  | succ j ih =>
    rw [redL] at h
    split at h
    · rename_i hr
      rw [List.mem_append] at h
      rcases h with h | h
      · obtain ⟨i, h1, h2, h3⟩ := ih h
        exact ⟨i, h1, by omega, h3⟩
      · simp at h
        exact ⟨j, h, by omega, hr⟩
    · obtain ⟨i, h1, h2, h3⟩ := ih h
      exact ⟨i, h1, by omega, h3⟩

theorem goodN_fits {x : Tn} (h : GoodN x) : x.2.2.size ≤ 1048576 := by
  have hempty : ∀ s : ByteArray, s.toList.isEmpty = true → s.size ≤ 1048576 := fun s hs => by
    have h1 : (s.toList == ByteArray.empty.toList) = true := by
      rw [List.isEmpty_iff] at hs
      rw [hs]
      have h2 : ByteArray.empty.toList = [] := by unfold ByteArray.toList ByteArray.toList.loop; rfl
      rw [h2]; rfl
    have := (Lib.bytes_beq_iff s ByteArray.empty).1 h1
    rw [this]; decide
  unfold GoodN tnB at h
  split at h
  · simp only [Bool.and_eq_true] at h
    exact hempty _ h.2
  · split at h
    · simp only [Bool.and_eq_true] at h
      obtain ⟨A, h1, h2⟩ := gp_tree h.2
      have := tx_size h1.1
      rw [h2] at this
      omega
    · simp only [Bool.and_eq_true] at h
      exact hempty _ h.2
theorem good_fits {t : Tm} (h : Good t) : FitsT (Tr.enc t) := by
  intro i hi
  have h1 := wf_all t h _ (List.getElem_mem hi)
  have h2 := goodN_fits h1
  rw [tk_lt hi] at h2
  exact h2

/-- The normal term and the number of contractions, or a code; at most k contractions more. -/
noncomputable def nrm : Nat → Tm → Int → List Tn × Int × Int
  | 0, t, _ => match redL (Tr.enc t) (Tr.enc t).length with
    | [] => (Tr.enc t, 200, 0)
    | _ :: _ => ([], 0, 3)
  | k + 1, t, n => match redL (Tr.enc t) (Tr.enc t).length with
    | [] => (Tr.enc t, 200 - ((k + 1 : Nat) : Int), 0)
    | i :: _ => if (limT (ctAt t n i.toNat)).2 = 0 then nrm k (ctT t n i.toNat) n else ([], 0, 3)
theorem nrm_done {k : Nat} {t : Tm} {n : Int} (h : redL (Tr.enc t) (Tr.enc t).length = []) : nrm k t n = (Tr.enc t, 200 - (k : Int), 0) := by
  cases k with
  | zero => rw [nrm, h]; rfl
  | succ k => rw [nrm, h]
theorem nrm_stop {t : Tm} {n i : Int} {L : List Int} (h : redL (Tr.enc t) (Tr.enc t).length = i :: L) : nrm 0 t n = ([], 0, 3) := by rw [nrm, h]
theorem nrm_big {k : Nat} {t : Tm} {n i : Int} {L : List Int} (h : redL (Tr.enc t) (Tr.enc t).length = i :: L) (hb : ¬ (limT (ctAt t n i.toNat)).2 = 0) : nrm k t n = ([], 0, 3) := by
  cases k with
  | zero => rw [nrm, h]
  | succ k => rw [nrm, h]; simp only; rw [if_neg hb]
theorem nrm_step {k : Nat} {t : Tm} {n i : Int} {L : List Int} (h : redL (Tr.enc t) (Tr.enc t).length = i :: L) (hb : (limT (ctAt t n i.toNat)).2 = 0) : nrm (k + 1) t n = nrm k (ctT t n i.toNat) n := by
  rw [nrm, h]; simp only; rw [if_pos hb]
theorem nrm_tree (n : Int) (hn : 0 ≤ n) : ∀ (k : Nat) (t : Tm), Good t → (Tr.enc t).length ≤ 60 → ((nrm k t n).2.2 = 0 ∧ ∃ u, Good u ∧ Tr.enc u = (nrm k t n).1 ∧ (Tr.enc u).length ≤ 60) ∨ nrm k t n = ([], 0, 3) := by
  intro k
  induction k with
  | zero =>
    intro t hg hl
    cases h : redL (Tr.enc t) (Tr.enc t).length with
    | nil => rw [nrm_done h]; exact .inl ⟨rfl, t, hg, rfl, hl⟩
    | cons i L => rw [nrm_stop h]; exact .inr rfl
  | succ k ih =>
    intro t hg hl
    cases h : redL (Tr.enc t) (Tr.enc t).length with
    | nil => rw [nrm_done h]; exact .inl ⟨rfl, t, hg, rfl, hl⟩
    | cons i L =>
      by_cases hb : (limT (ctAt t n i.toNat)).2 = 0
      · rw [nrm_step h hb]
        obtain ⟨j, rfl, hj, hr⟩ := redL_mem (xs := Tr.enc t) (j := (Tr.enc t).length) (x := i) (by rw [h]; simp)
        rw [Int.toNat_natCast] at hb ⊢
        obtain ⟨g1, g2, g3, _⟩ := ct_good hn hg hr hb
        exact ih _ g1 (by rw [g2]; exact g3)
      · rw [nrm_big h hb]; exact .inr rfl
end Go.Proofs.YtfpkfgimhanekaaGreat

/- mapNumbers and putTerm of the program. -/
namespace Go.Proofs.YtfpkfgimhanekaaGreat
open Go.RowKit
open Tr (Tm)

theorem OwnT.one (w : World) (B : Nat) (x : Tn) (hB : B ≤ w.heap.size) : OwnT (w.alloc (.cells #[.int .i64 x.1, .int .i64 x.2.1, .string x.2.2] 45)) B (.slice (some ⟨w.heap.size, 0, none⟩) 1 1) [x] :=
  OwnT.lit w B [x] _ hB (by simp) rfl

/-- What the function value gives at a variable and what it is read with, in every world from w0 on. -/
def MapOk (f : Nat) (caps : Array Value) (w0 : World) (lo hi : Int) (F : Tn → Int → List Tn) : Prop := ∀ (x : Tn) n W, Grew w0 W → GoodN x → lo ≤ n → n ≤ hi → Calls Tryz.prog f (#[.agg #[.int .i64 x.1, .int .i64 x.2.1, .string x.2.2], .int .i64 n] ++ caps) W (GivesT W (F x n))

theorem mapNumbers_c (f : Nat) (caps : Array Value) (w0 : World) (lo hi : Int) (F : Tn → Int → List Tn) (M : Nat) (hM : 1 ≤ M) (hM2 : M ≤ 1000) (hFl : ∀ x n, (F x n).length ≤ M) (hf : MapOk f caps w0 lo hi F) (h0 : 0 ≤ lo) (h1 : hi ≤ 1000000)
    (eg : ∀ args w, (callFunc f args).run Tryz.prog w = .ok (.enter f args) w) :
    ∀ t : Tm, Good t → ∀ (v : Value) (n : Int) (w : World), Grew w0 w → Tms w v (Tr.enc t) → (Tr.enc t).length ≤ 1000 → lo ≤ n → n + (Tr.enc t).length ≤ hi →
    Calls Tryz.prog 136 #[v, .int .i64 n, .func (.func f) #[] caps] w (GivesT w (Tr.mapN F t n)) := by
  intro t
  refine Tr.ind (P := fun t => Good t → ∀ (v : Value) (n : Int) (w : World), Grew w0 w → Tms w v (Tr.enc t) → (Tr.enc t).length ≤ 1000 → lo ≤ n → n + (Tr.enc t).length ≤ hi →
    Calls Tryz.prog 136 #[v, .int .i64 n, .func (.func f) #[] caps] w (GivesT w (Tr.mapN F t n))) ?_ t
  intro t ih hg v n w hw0 h hlen hn0 hn1
  obtain ⟨b, o, c, rfl, hc, hm, hb, hcl⟩ := tms_head h
  have hpos := Tr.enc_pos t
  obtain ⟨k1, k2, k3⟩ := hcl _ (Grew.refl w)
  by_cases hleaf : Tr.kids t = []
  · have hk := (good_leaf hg).1 hleaf
    rw [Tr.mapN_leaf hleaf]
    have HF := Lib.hid (hf (Tr.hd t) n w hw0 (Tr.hd_wf hg) hn0 (by omega))
    rw [hk] at k1 HF
    clear hcl ih hg h hf hk hleaf hFl
    generalize F (Tr.hd t) n = R at *
    generalize (Tr.hd t).2.1 = a at *
    generalize (Tr.hd t).2.2 = z at *
    generalize (Tr.enc t).length = nn at *
    go_enter Tryz.func136, Tryz.ntmps136
    go_wp2_with fail
    go_at_fn f
    refine HF.out.mono ?_
    rintro e w1 ⟨u, rfl, ho, hg1⟩
    go_wp2_with fail
    go_ret
    exact ⟨_, rfl, ho, hg1⟩
  · have hk : ((Tr.hd t).1 == 0) = false := by
      have := mt (good_leaf hg).2 hleaf
      simpa using this
    have hm1 : 0 < (Tr.kids t).length := List.length_pos_iff.2 hleaf
    have hkl := Tr.kids_len hg
    have har := Tr.ar_le (Tr.hd t).1
    rw [Tr.mapN_kids hleaf]
    have HI := Lib.hid (fun W (hW : Grew w W) => inner_o _ t w W h hW hg (by omega))
    have HK := Lib.hid (fun W (hW : Grew w W) => (hcl W hW).1)
    have HLN := Lib.hid (fun j hj => Nat.le_trans (Tr.mapL_len hM hFl (t := t) (n := n) j hj) (Nat.mul_le_mul (show Tr.off t j ≤ 1000 from by
      rcases Nat.lt_or_ge j (Tr.kids t).length with hh | hh
      · have := Tr.off_end hh; omega
      · have e : Tr.off t j = Tr.off t (Tr.kids t).length := by unfold Tr.off; rw [List.take_of_length_le hh, List.take_length]
        rw [e]
        have := Tr.off_end (t := t) (i := (Tr.kids t).length - 1) (by omega)
        have e2 := Tr.off_next (t := t) (i := (Tr.kids t).length - 1) (by omega)
        rw [show (Tr.kids t).length - 1 + 1 = (Tr.kids t).length by omega] at e2
        omega) hM2))
    have HLN2 := Lib.hid (fun j d (hj : j < (Tr.kids t).length) => Nat.le_trans (Tr.mapN_len hM hFl (Tr.kid t j) (n + d)) (Nat.mul_le_mul (show (Tr.enc (Tr.kid t j)).length ≤ 1000 from by have := Tr.kid_small hj; omega) hM2))
    have HIH := Lib.hid (fun i (hi : i < (Tr.kids t).length) u d W (hW : Grew w W) (hd0 : 0 ≤ d) (hd1 : d ≤ 1) hu => ih _ (Tr.kid_mem hi) (Tr.kids_wf hg _ (Tr.kid_mem hi)) u (n + d) W (hw0.trans hW) hu (by have := Tr.kid_small hi; omega) (by omega) (by have := Tr.kid_small hi; omega))
    have HBD := Lib.hid (fun i (hi : i < (Tr.kids t).length) w => bindsIn_c (Tr.hd t).1 i w (by omega))
    have HB2 := Lib.hid (fun i => (by unfold Tr.bd; split <;> omega : 0 ≤ Tr.bd (Tr.hd t).1 i ∧ Tr.bd (Tr.hd t).1 i ≤ 1))
    obtain ⟨ML, hML⟩ : ∃ ML, ML = Tr.mapL F t n := ⟨_, rfl⟩
    have HST := Lib.hid (fun j => (by rw [hML]; rfl : ML (j + 1) = ML j ++ Tr.mapN F (Tr.kid t j) (n + Tr.bd (Tr.hd t).1 j)))
    have HS0 : Hid (ML 0 = [((Tr.hd t).1, (Tr.hd t).2.1, (Tr.hd t).2.2)]) := Lib.hid (by rw [hML]; rfl)
    rw [← hML] at HLN ⊢
    clear hML
    clear hcl ih hg h hf hleaf hFl
    generalize (Tr.hd t).1 = kk at *
    generalize (Tr.hd t).2.1 = aa at *
    generalize (Tr.hd t).2.2 = zz at *
    generalize (Tr.enc t).length = nn at *
    generalize hMM : (Tr.kids t).length = m at *
    go_enter Tryz.func136, Tryz.ntmps136
    go_wp2_with fail
    have hone := OwnT.one w w.heap.size (kk, aa, zz) (Nat.le_refl _)
    refine (HI.out _ ((Grew.refl w).alloc _)).mono ?_
    rintro e w1 ⟨u, us, rfl, hU1, hul, hhold, hg1⟩
    have ho1 := hone.grew hg1
    have hgw := Grew.of_alloc hg1
    obtain ⟨g2, c2, rfl, hc2, hm2, _, _⟩ := hU1.open_ (by omega)
    rw [hul] at hc2 hU1 ⊢
    have hU1 := Lib.hid hU1
    have HH := Lib.hid hhold
    clear hone hhold
    go_wp2_with fail
    go_loopw [7, 8, 9, 28] (fun vv _ _ i wr => ∃ j : Nat, j ≤ m ∧ i = .int .i64 j ∧ Grew w wr ∧ OwnT wr w.heap.size vv (ML j) ∧ Hid (OwnVT wr (w.alloc (.cells #[.int .i64 kk, .int .i64 aa, .string zz] 45)).heap.size (.slice (some ⟨g2, 0, none⟩) m c2) us)) (fun _ _ _ i _ => m - (intOf i).toNat)
    case atStart => exact ⟨0, Nat.zero_le _, rfl, hgw, by rw [HS0.out]; exact ho1, hU1.out⟩
    case round =>
      clear ho1 hU1
      obtain ⟨j, hj, rfl, hB, hO, hU⟩ := hrel
      by_cases hlt : j < m
      · obtain ⟨x, hx1⟩ : ∃ x, us[j]? = some x := ⟨_, List.getElem?_eq_getElem (by omega)⟩
        have e1 : wr.cell? ⟨g2, j, none⟩ = some x := hU.out.cell hx1
        have e2 : wr.cell? ⟨b, o, none⟩ = some (.int .i64 kk) := HK.out _ hB
        have hx3 : Tms wr x (Tr.enc (Tr.kid t j)) := (HH.out j x hx1).grew hB
        obtain ⟨A3, c3, rfl⟩ := tms_slice hx3
        have hih := Lib.hid (fun W (hW : Grew wr W) => HIH.out j hlt _ (Tr.bd kk j) W (hB.trans hW) (HB2.out j).1 (HB2.out j).2 (hx3.grew hW))
        have hbd := Lib.hid (HBD.out j hlt)
        have hb01 := HB2.out j
        have hl1 := HLN.out j hj
        have hl2 := HLN2.out j (Tr.bd kk j) hlt
        have hst := Lib.hid (HST.out j)
        clear hx1 hx3
        generalize Tr.bd kk j = d at *
        generalize (Tr.enc (Tr.kid t j)).length = ln at *
        generalize Tr.mapN F (Tr.kid t j) (n + d) = X at *
        generalize ML j = Y at *
        obtain ⟨hb0, hb1⟩ := hb01
        go_wp2_with fail
        refine (hbd.out _).mono ?_
        rintro e w2 ⟨rfl, hg2⟩
        go_wp2_with fail
        refine (hih.out _ hg2).mono ?_
        rintro e w3 ⟨q, rfl, hq, hg3⟩
        have hk3 := hg2.trans hg3
        have hO3 := hO.grew hk3
        have hw3 := hB.trans hk3
        go_wp2_with (first | (at_builtin; refine wpList_appT (w0 := w) _ _ rfl rfl _ Y rfl hO3 hw3 _ X rfl hq.tms (by omega) ?_; intro v4 w4 hown4 hg4 hgr4))
        go_roundw
        case rel => exact ⟨j + 1, by omega, by go_num, hg4, by rw [hst.out]; exact hown4, ownVT_app (own_grew hU.out hk3) hO3 hgr4⟩
        case measure => simp [intOf]; omega
      · obtain rfl : j = m := by omega
        go_wp2_with fail
        go_ret
        exact ⟨_, rfl, hO, hB⟩
end Go.Proofs.YtfpkfgimhanekaaGreat

/- putTerm of the program. -/
namespace Go.Proofs.YtfpkfgimhanekaaGreat
open Go.RowKit
open Tr (Tm)

theorem putTerm1_c (x : Tn) (now n : Int) (bn bu : Nat) (u : Value) (us : List Tn) (W : World) (hx : GoodN x) (hc1 : W.cell? ⟨bn, 0, none⟩ = some (.int .i64 n)) (hc2 : W.cell? ⟨bu, 0, none⟩ = some u) (hu : Tms W u us) (hl : us.length ≤ 1048576) (hok : NumOk us)
    (hn0 : 0 ≤ n) (hn1 : n ≤ 1000000) (h0 : n + 1 ≤ now) (h1 : now ≤ 1000000) (hbn : bn < W.heap.size) (hbu : bu < W.heap.size) :
    Calls Tryz.prog 137 (#[.agg #[.int .i64 x.1, .int .i64 x.2.1, .string x.2.2], .int .i64 now] ++ #[.pointer (some ⟨bn, 0, none⟩), .pointer (some ⟨bu, 0, none⟩)]) W (GivesT W (putN n us x now)) := by
  have hx0 := tnB_num0 hx
  have HR := Lib.hid (fun W' (hW : Grew W W') => raised_c u us n (now - n - 1) W' (hu.grew hW) hl hok (by omega) (by omega))
  obtain ⟨A, c, rfl⟩ := tms_slice hu
  have k1 : ∀ W', Grew W W' → W'.cell? ⟨bn, 0, none⟩ = some (.int .i64 n) := fun W' hW => (hW.cell (p := ⟨bn, 0, none⟩) hbn).trans hc1
  have k2 : ∀ W', Grew W W' → W'.cell? ⟨bu, 0, none⟩ = some (.slice A us.length c) := fun W' hW => (hW.cell (p := ⟨bu, 0, none⟩) hbu).trans hc2
  obtain ⟨xk, xn, xs⟩ := x
  simp only at hx0 ⊢
  have hal := (Grew.refl W).alloc (.cells #[.int .i64 xk, .int .i64 xn, .string xs] 45)
  clear hx hu hok hc1 hc2
  by_cases he : xn = n
  · have hp : putN n us (xk, xn, xs) now = raiseL n (now - n - 1) us := by unfold putN; rw [if_pos he]
    rw [hp]
    clear hp
    subst he
    generalize raiseL xn (now - xn - 1) us = R at *
    generalize us.length = ul at *
    go_enter Tryz.func137, Tryz.ntmps137
    go_wp2_with fail
    refine (HR.out _ hal).mono ?_
    rintro e w1 ⟨q, rfl, hq, hg1⟩
    go_wp2_with fail
    go_ret
    exact ⟨_, rfl, hq.base hal.size, hal.trans hg1⟩
  · by_cases hgt : n < xn
    · have hp : putN n us (xk, xn, xs) now = [(xk, xn - 1, xs)] := by unfold putN; rw [if_neg he, if_pos hgt]
      rw [hp]
      have hne : (xn == n) = false := by simpa using he
      clear hp HR
      generalize us.length = ul at *
      have hone := fun w => OwnT.one w W.heap.size (xk, xn - 1, xs)
      go_enter Tryz.func137, Tryz.ntmps137
      go_wp2_with fail
      go_ret
      have hal2 := (Grew.refl W).alloc (.cells #[.int .i64 xk, .int .i64 (xn - 1), .string xs] 45)
      have h1 := hone _ hal2.size
      rw [World.size_alloc] at h1
      exact ⟨_, rfl, h1, hal2.alloc _⟩
    · have hp : putN n us (xk, xn, xs) now = [(xk, xn, xs)] := by unfold putN; rw [if_neg he, if_neg hgt]
      rw [hp]
      have hne : (xn == n) = false := by simpa using he
      clear hp HR
      generalize us.length = ul at *
      have hone := fun w => OwnT.one w W.heap.size (xk, xn, xs)
      go_enter Tryz.func137, Tryz.ntmps137
      go_wp2_with fail
      go_ret
      have h1 := hone _ hal.size
      rw [World.size_alloc] at h1
      exact ⟨_, rfl, h1, hal.alloc _⟩

theorem putTerm_c (v u : Value) (t : Tm) (us : List Tn) (n : Int) (w : World) (h : Tms w v (Tr.enc t)) (hg : Good t) (hlen : (Tr.enc t).length ≤ 1000) (hu : Tms w u us) (hl : us.length ≤ 900) (hok : NumOk us) (hn0 : 0 ≤ n) (hn1 : n ≤ 1000) :
    Calls Tryz.prog 123 #[v, .int .i64 n, u] w (GivesT w (Tr.mapN (putN n us) t (n + 1))) := by
  obtain ⟨A, c, rfl⟩ := tms_slice hu
  have hw2 : Grew w ((w.alloc (.cells #[.int .i64 n] 2)).alloc (.cells #[.slice A us.length c] 27)) := ((Grew.refl w).alloc _).alloc _
  have HM := Lib.hid (mapNumbers_c 137 #[.pointer (some ⟨w.heap.size, 0, none⟩), .pointer (some ⟨w.heap.size + 1, 0, none⟩)] ((w.alloc (.cells #[.int .i64 n] 2)).alloc (.cells #[.slice A us.length c] 27)) (n + 1) (n + 1 + 1000) (putN n us) (us.length + 1) (by omega) (by omega) (fun x m => putN_len n us x m)
    (fun x m W hW hx h0 h1 => putTerm1_c x m n w.heap.size (w.heap.size + 1) (.slice A us.length c) us W hx
      ((hW.cell (p := ⟨w.heap.size, 0, none⟩) (by simp; omega)).trans (by simp)) ((hW.cell (p := ⟨w.heap.size + 1, 0, none⟩) (by simp)).trans (by simp)) (hu.grew (hw2.trans hW)) (by omega) hok hn0 (by omega) h0 (by omega)
      (Nat.lt_of_lt_of_le (by simp; omega) hW.size) (Nat.lt_of_lt_of_le (by simp) hW.size))
    (by omega) (by omega) (enters_of Tryz.func137 (by kernel_rfl) rfl) t hg v (n + 1) _ (Grew.refl _) (h.grew hw2) hlen (by omega) (by omega))
  obtain ⟨A', c', rfl⟩ := tms_slice h
  clear h hg hu hok
  generalize Tr.mapN (putN n us) t (n + 1) = R at *
  generalize us.length = ul at *
  generalize (Tr.enc t).length = tl at *
  go_enter Tryz.func123, Tryz.ntmps123
  go_wp2_with fail
  refine HM.out.mono ?_
  rintro e w1 ⟨q, rfl, hq, hg1⟩
  go_wp2_with fail
  go_ret
  exact ⟨_, rfl, hq.base hw2.size, hw2.trans hg1⟩
end Go.Proofs.YtfpkfgimhanekaaGreat

/- contracted of the program. -/
namespace Go.Proofs.YtfpkfgimhanekaaGreat
open Go.RowKit
open Tr (Tm)

/-- The call gives a slice that reads as the list. -/
def GivesR (w : World) (r : List Tn) (e : Ending) (w' : World) : Prop := ∃ v, e = .returned v ∧ Tms w' v r ∧ Grew w w'

theorem partsT_at {w : World} {v : Value} {t : Tm} (m : Nat) (h : PartsT w v t) (hk : (Tr.kids t).length = m) (h0 : 0 < m) : ∃ b o c, v = .slice (some ⟨b, o, none⟩) m c ∧ m ≤ c ∧ c ≤ 9223372036854775807 ∧
    ∀ i s, i < m → Tr.kid t i = s → ∃ b1 o1 c1, (∀ W, Grew w W → W.cell? ⟨b, o + i, none⟩ = some (.slice (some ⟨b1, o1, none⟩) (Tr.enc s).length c1)) ∧ Tms w (.slice (some ⟨b1, o1, none⟩) (Tr.enc s).length c1) (Tr.enc s) ∧ (Tr.enc s).length ≤ c1 ∧ c1 ≤ 9223372036854775807 ∧ ∀ W, Grew w W → W.cell? ⟨b1, o1, none⟩ = some (.int .i64 (Tr.hd s).1) := by
  subst hk
  rcases h with ⟨_, h⟩ | ⟨b, o, c, rfl, hc, hm, hb, hf⟩
  · rw [h] at h0; exact absurd h0 (by simp)
  · refine ⟨b, o, c, rfl, hc, hm, fun i s hi hs => ?_⟩
    subst hs
    obtain ⟨u, h1, h2⟩ := hf i hi
    obtain ⟨b1, o1, c1, rfl, hc1, hm1, _, hcl⟩ := tms_head h2
    exact ⟨b1, o1, c1, fun W hW => (hW.cell (p := ⟨b, o + i, none⟩) hb).trans h1, h2, hc1, hm1, fun W hW => (hcl W hW).1⟩

theorem contracted_c (v : Value) (t : Tm) (n : Int) (w : World) (h : Tms w v (Tr.enc t)) (hg : Good t) (hr : rdxAt (Tr.enc t) 0 = true) (hlen : (Tr.enc t).length ≤ 800) (hn0 : 0 ≤ n) (hn1 : n ≤ 900) :
    Calls Tryz.prog 101 #[v, .int .i64 n] w (GivesR w (ctr t n)) := by
  have HI := Lib.hid (inner_c v t w h hg (by omega))
  obtain ⟨b0, o0, c0, rfl, hc0, hm0, hb0, hcl0⟩ := tms_head h
  have k0 := fun W (hW : Grew w W) => (hcl0 W hW).1
  have hpos := Tr.enc_pos t
  have hrr := Grew.refl w
  rcases rdx_shape hg hr with ⟨x, y, b, u, rfl, hx, hy⟩ | ⟨x, y, a, b, rfl, hx, hy⟩ | ⟨x, y, s, a, b, rfl, hx, hy⟩
  · have hgf : Good (.t1 y b) := hg.2.1
    have hgb : Good b := hgf.2
    have hgu : Good u := hg.2.2
    have hl2 : (Tr.enc (.t1 y b)).length ≤ 800 ∧ (Tr.enc b).length ≤ 800 ∧ (Tr.enc u).length ≤ 800 := by simp [Tr.enc] at hlen ⊢; omega
    obtain ⟨hl2, hl3, hl4⟩ := hl2
    have HI2 := Lib.hid (fun v W (hv : Tms W v (Tr.enc (.t1 y b))) => inner_c v (.t1 y b) W hv hgf (by omega))
    have HP := Lib.hid (fun vb vu W (hb : Tms W vb (Tr.enc b)) (hu : Tms W vu (Tr.enc u)) => putTerm_c vb vu b (Tr.enc u) n W hb hgb (by omega) hu (by omega) (good_numOk hgu) hn0 (by omega))
    have hct : ctr (.t2 x (.t1 y b) u) n = Tr.mapN (putN n (Tr.enc u)) b (n + 1) := rfl
    rw [hct]
    have ek : (Tr.hd (.t2 x (.t1 y b) u)).1 = 2 := hx
    rw [ek] at k0
    generalize (Tr.enc (.t2 x (.t1 y b) u)).length = ll at *
    clear h hcl0 hr hct ek
    generalize Tr.mapN (putN n (Tr.enc u)) b (n + 1) = R at *
    go_enter Tryz.func101, Tryz.ntmps101
    go_wp2_with fail
    refine HI.out.mono ?_
    rintro e w1 ⟨p, rfl, hp, hg1⟩
    obtain ⟨b1, o1, c1, rfl, hc1, hm1, hcl1⟩ := partsT_at 2 hp rfl (by decide)
    clear hp
    obtain ⟨b2, o2, c2, e2, t2, hc2, hm2, q2⟩ := hcl1 0 (.t1 y b) (by decide) rfl
    obtain ⟨b3, o3, c3, e3, t3, hc3, hm3, q3⟩ := hcl1 1 u (by decide) rfl
    clear hcl1
    have HT2 := Lib.hid t2
    have HT3 := Lib.hid t3
    clear t2 t3
    simp only [Nat.add_zero] at e2
    clear q2 q3
    have r1 := Grew.refl w1
    go_wp2_with fail
    refine (HI2.out _ _ HT2.out).mono ?_
    rintro e w2 ⟨p2, rfl, hp2, hg2⟩
    obtain ⟨b4, o4, c4, rfl, hc4, hm4, hcl4⟩ := partsT_at 1 hp2 rfl (by decide)
    clear hp2
    obtain ⟨b5, o5, c5, e5, t5, hc5, hm5, q5⟩ := hcl4 0 b (by decide) rfl
    clear hcl4
    have HT5 := Lib.hid t5
    clear t5
    simp only [Nat.add_zero] at e5
    clear q5
    have r2 := Grew.refl w2
    have gw := hg1.trans hg2
    have d2 := r2.drew
    have f3 := fun W (hW : Grew w2 W) => e3 W (hg2.trans hW)
    clear e2 e3
    have HT3g := Lib.hid (HT3.out.grew (hg2.trans d2))
    have HT5g := Lib.hid (HT5.out.grew d2)
    go_wp2_with fail
    go_region_held3 (fun w' => Grew w2 w') (with_reducible assumption)
      (first | (go_at_call 123; refine (HP.out _ _ _ HT5g.out HT3g.out).mono ?_; rintro e w3 ⟨q, rfl, hq, hg3⟩; have hk3 := d2.trans hg3))
    go_wp2_with fail
    go_ret
    exact ⟨_, rfl, hq.tms, gw.trans hk3⟩
  · have hgf : Good (.t2 y a b) := hg.2
    have hl2 : (Tr.enc (.t2 y a b)).length ≤ 800 := by simp [Tr.enc] at hlen ⊢; omega
    have HI2 := Lib.hid (fun v W (hv : Tms W v (Tr.enc (.t2 y a b))) => inner_c v (.t2 y a b) W hv hgf (by omega))
    rcases hx with hx | hx
    · have hct : ctr (.t1 x (.t2 y a b)) n = Tr.enc a := by simp [ctr, hx, Tr.kid, Tr.kids]
      rw [hct]
      have ek : (Tr.hd (.t1 x (.t2 y a b))).1 = 4 := hx
      rw [ek] at k0
      generalize (Tr.enc (.t1 x (.t2 y a b))).length = ll at *
      clear h hcl0 hr hct ek
      go_enter Tryz.func101, Tryz.ntmps101
      go_wp2_with fail
      refine HI.out.mono ?_
      rintro e w1 ⟨p, rfl, hp, hg1⟩
      obtain ⟨b1, o1, c1, rfl, hc1, hm1, hcl1⟩ := partsT_at 1 hp rfl (by decide)
      clear hp
      obtain ⟨b2, o2, c2, e2, t2, hc2, hm2, q2⟩ := hcl1 0 (.t2 y a b) (by decide) rfl
      clear hcl1
      have HT2 := Lib.hid t2
      clear t2
      simp only [Nat.add_zero] at e2
      clear q2
      have r1 := Grew.refl w1
      go_wp2_with fail
      refine (HI2.out _ _ HT2.out).mono ?_
      rintro e w2 ⟨p2, rfl, hp2, hg2⟩
      obtain ⟨b3, o3, c3, rfl, hc3, hm3, hcl3⟩ := partsT_at 2 hp2 rfl (by decide)
      clear hp2
      obtain ⟨b4, o4, c4, e4, t4, hc4, hm4, q4⟩ := hcl3 0 a (by decide) rfl
      obtain ⟨b5, o5, c5, e5, t5, hc5, hm5, q5⟩ := hcl3 1 b (by decide) rfl
      clear hcl3
      have HT4 := Lib.hid t4
      have HT5 := Lib.hid t5
      clear t4 t5
      simp only [Nat.add_zero] at e4
      clear q4 q5
      have r2 := Grew.refl w2
      have gw := hg1.trans hg2
      go_wp2_with fail
      go_ret
      exact ⟨_, rfl, HT4.out, gw⟩
    · have hct : ctr (.t1 x (.t2 y a b)) n = Tr.enc b := by simp [ctr, hx, Tr.kid, Tr.kids]
      rw [hct]
      have ek : (Tr.hd (.t1 x (.t2 y a b))).1 = 5 := hx
      rw [ek] at k0
      generalize (Tr.enc (.t1 x (.t2 y a b))).length = ll at *
      clear h hcl0 hr hct ek
      go_enter Tryz.func101, Tryz.ntmps101
      go_wp2_with fail
      refine HI.out.mono ?_
      rintro e w1 ⟨p, rfl, hp, hg1⟩
      obtain ⟨b1, o1, c1, rfl, hc1, hm1, hcl1⟩ := partsT_at 1 hp rfl (by decide)
      clear hp
      obtain ⟨b2, o2, c2, e2, t2, hc2, hm2, q2⟩ := hcl1 0 (.t2 y a b) (by decide) rfl
      clear hcl1
      have HT2 := Lib.hid t2
      clear t2
      simp only [Nat.add_zero] at e2
      clear q2
      have r1 := Grew.refl w1
      go_wp2_with fail
      refine (HI2.out _ _ HT2.out).mono ?_
      rintro e w2 ⟨p2, rfl, hp2, hg2⟩
      obtain ⟨b3, o3, c3, rfl, hc3, hm3, hcl3⟩ := partsT_at 2 hp2 rfl (by decide)
      clear hp2
      obtain ⟨b4, o4, c4, e4, t4, hc4, hm4, q4⟩ := hcl3 0 a (by decide) rfl
      obtain ⟨b5, o5, c5, e5, t5, hc5, hm5, q5⟩ := hcl3 1 b (by decide) rfl
      clear hcl3
      have HT4 := Lib.hid t4
      have HT5 := Lib.hid t5
      clear t4 t5
      simp only [Nat.add_zero] at e4
      clear q4 q5
      have r2 := Grew.refl w2
      have gw := hg1.trans hg2
      go_wp2_with fail
      go_ret
      exact ⟨_, rfl, HT5.out, gw⟩
  · have hgf : Good (.t1 y s) := hg.2.1
    have hgs : Good s := hgf.2
    have hga : Good a := hg.2.2.1
    have hgb : Good b := hg.2.2.2
    have hl2 : (Tr.enc (.t1 y s)).length ≤ 800 ∧ (Tr.enc s).length ≤ 800 ∧ (Tr.enc a).length ≤ 800 ∧ (Tr.enc b).length ≤ 800 := by simp [Tr.enc] at hlen ⊢; omega
    obtain ⟨hl2, hl3, hl4, hl5⟩ := hl2
    have HI2 := Lib.hid (fun v W (hv : Tms W v (Tr.enc (.t1 y s))) => inner_c v (.t1 y s) W hv hgf (by omega))
    have ek : (Tr.hd (.t3 x (.t1 y s) a b)).1 = 8 := hx
    rw [ek] at k0
    rcases hy with hy | hy
    · have HP := Lib.hid (fun vb vu W (hb : Tms W vb (Tr.enc a)) (hu : Tms W vu (Tr.enc s)) => putTerm_c vb vu a (Tr.enc s) n W hb hga (by omega) hu (by omega) (good_numOk hgs) hn0 (by omega))
      have hct : ctr (.t3 x (.t1 y s) a b) n = Tr.mapN (putN n (Tr.enc s)) a (n + 1) := by simp [ctr, hy, Tr.kid, Tr.kids, Tr.hd]
      rw [hct]
      have ey : (Tr.hd (.t1 y s)).1 = 6 := hy
      generalize (Tr.enc (.t3 x (.t1 y s) a b)).length = ll at *
      clear h hcl0 hr hct ek
      generalize Tr.mapN (putN n (Tr.enc s)) a (n + 1) = R at *
      go_enter Tryz.func101, Tryz.ntmps101
      go_wp2_with fail
      refine HI.out.mono ?_
      rintro e w1 ⟨p, rfl, hp, hg1⟩
      obtain ⟨b1, o1, c1, rfl, hc1, hm1, hcl1⟩ := partsT_at 3 hp rfl (by decide)
      clear hp
      obtain ⟨b2, o2, c2, e2, t2, hc2, hm2, q2⟩ := hcl1 0 (.t1 y s) (by decide) rfl
      obtain ⟨b3, o3, c3, e3, t3, hc3, hm3, q3⟩ := hcl1 1 a (by decide) rfl
      obtain ⟨b4, o4, c4, e4, t4, hc4, hm4, q4⟩ := hcl1 2 b (by decide) rfl
      clear hcl1
      have HT2 := Lib.hid t2
      have HT3 := Lib.hid t3
      have HT4 := Lib.hid t4
      clear t2 t3 t4
      simp only [Nat.add_zero] at e2
      clear q3 q4
      rw [ey] at q2
      have r1 := Grew.refl w1
      go_wp2_with fail
      refine (HI2.out _ _ HT2.out).mono ?_
      rintro e w2 ⟨p2, rfl, hp2, hg2⟩
      obtain ⟨b5, o5, c5, rfl, hc5, hm5, hcl5⟩ := partsT_at 1 hp2 rfl (by decide)
      clear hp2
      obtain ⟨b6, o6, c6, e6, t6, hc6, hm6, q6⟩ := hcl5 0 s (by decide) rfl
      clear hcl5
      have HT6 := Lib.hid t6
      clear t6
      simp only [Nat.add_zero] at e6
      clear q6
      have r2 := Grew.refl w2
      have gw := hg1.trans hg2
      have d2 := r2.drew
      have g0 := fun W (hW : Grew w2 W) => k0 W (gw.trans hW)
      have f2 := fun W (hW : Grew w2 W) => e2 W (hg2.trans hW)
      have f3 := fun W (hW : Grew w2 W) => e3 W (hg2.trans hW)
      have f4 := fun W (hW : Grew w2 W) => e4 W (hg2.trans hW)
      have p2 := fun W (hW : Grew w2 W) => q2 W (hg2.trans hW)
      clear e2 e3 e4 q2 k0
      have HTg := Lib.hid (HT3.out.grew (hg2.trans d2))
      have hz : 0 < (Tr.enc (.t1 y s)).length := Tr.enc_pos _
      have hz2 : (0 : Int) < ((Tr.enc (.t1 y s)).length : Int) := by omega
      have s1 : IntKind.i64.wrap 7 = 7 := by decide
      have s2 : IntKind.i64.wrap 1 = 1 := by decide
      have HT6g := Lib.hid (HT6.out.grew d2)
      go_wp2_with fail
      go_region_held3 (fun w' => Grew w2 w') (with_reducible assumption)
        (first | (go_at_call 123; refine (HP.out _ _ _ HTg.out HT6g.out).mono ?_; rintro e w3 ⟨q, rfl, hq, hg3⟩; have hk3 := d2.trans hg3))
      go_wp2_with fail
      go_ret
      exact ⟨_, rfl, hq.tms, gw.trans hk3⟩
    · have HP := Lib.hid (fun vb vu W (hb : Tms W vb (Tr.enc b)) (hu : Tms W vu (Tr.enc s)) => putTerm_c vb vu b (Tr.enc s) n W hb hgb (by omega) hu (by omega) (good_numOk hgs) hn0 (by omega))
      have hct : ctr (.t3 x (.t1 y s) a b) n = Tr.mapN (putN n (Tr.enc s)) b (n + 1) := by simp [ctr, hy, Tr.kid, Tr.kids, Tr.hd]
      rw [hct]
      have ey : (Tr.hd (.t1 y s)).1 = 7 := hy
      generalize (Tr.enc (.t3 x (.t1 y s) a b)).length = ll at *
      clear h hcl0 hr hct ek
      generalize Tr.mapN (putN n (Tr.enc s)) b (n + 1) = R at *
      go_enter Tryz.func101, Tryz.ntmps101
      go_wp2_with fail
      refine HI.out.mono ?_
      rintro e w1 ⟨p, rfl, hp, hg1⟩
      obtain ⟨b1, o1, c1, rfl, hc1, hm1, hcl1⟩ := partsT_at 3 hp rfl (by decide)
      clear hp
      obtain ⟨b2, o2, c2, e2, t2, hc2, hm2, q2⟩ := hcl1 0 (.t1 y s) (by decide) rfl
      obtain ⟨b3, o3, c3, e3, t3, hc3, hm3, q3⟩ := hcl1 1 a (by decide) rfl
      obtain ⟨b4, o4, c4, e4, t4, hc4, hm4, q4⟩ := hcl1 2 b (by decide) rfl
      clear hcl1
      have HT2 := Lib.hid t2
      have HT3 := Lib.hid t3
      have HT4 := Lib.hid t4
      clear t2 t3 t4
      simp only [Nat.add_zero] at e2
      clear q3 q4
      rw [ey] at q2
      have r1 := Grew.refl w1
      go_wp2_with fail
      refine (HI2.out _ _ HT2.out).mono ?_
      rintro e w2 ⟨p2, rfl, hp2, hg2⟩
      obtain ⟨b5, o5, c5, rfl, hc5, hm5, hcl5⟩ := partsT_at 1 hp2 rfl (by decide)
      clear hp2
      obtain ⟨b6, o6, c6, e6, t6, hc6, hm6, q6⟩ := hcl5 0 s (by decide) rfl
      clear hcl5
      have HT6 := Lib.hid t6
      clear t6
      simp only [Nat.add_zero] at e6
      clear q6
      have r2 := Grew.refl w2
      have gw := hg1.trans hg2
      have d2 := r2.drew
      have g0 := fun W (hW : Grew w2 W) => k0 W (gw.trans hW)
      have f2 := fun W (hW : Grew w2 W) => e2 W (hg2.trans hW)
      have f3 := fun W (hW : Grew w2 W) => e3 W (hg2.trans hW)
      have f4 := fun W (hW : Grew w2 W) => e4 W (hg2.trans hW)
      have p2 := fun W (hW : Grew w2 W) => q2 W (hg2.trans hW)
      clear e2 e3 e4 q2 k0
      have HTg := Lib.hid (HT4.out.grew (hg2.trans d2))
      have hz : 0 < (Tr.enc (.t1 y s)).length := Tr.enc_pos _
      have hz2 : (0 : Int) < ((Tr.enc (.t1 y s)).length : Int) := by omega
      have s1 : IntKind.i64.wrap 8 = 8 := by decide
      have s2 : IntKind.i64.wrap 2 = 2 := by decide
      have HT6g := Lib.hid (HT6.out.grew d2)
      go_wp2_with fail
      go_region_held3 (fun w' => Grew w2 w') (with_reducible assumption)
        (first | (go_at_call 123; refine (HP.out _ _ _ HTg.out HT6g.out).mono ?_; rintro e w3 ⟨q, rfl, hq, hg3⟩; have hk3 := d2.trans hg3))
      go_wp2_with fail
      go_ret
      exact ⟨_, rfl, hq.tms, gw.trans hk3⟩
end Go.Proofs.YtfpkfgimhanekaaGreat

/- contractAt of the program. -/
namespace Go.Proofs.YtfpkfgimhanekaaGreat
open Go.RowKit
open Tr (Tm)

theorem rdxAt_lt {xs : List Tn} {i : Nat} (h : rdxAt xs i = true) : i + 1 < xs.length := by
  unfold rdxAt at h
  simp only [Bool.and_eq_true, decide_eq_true_eq] at h
  exact h.1

set_option maxHeartbeats 800000 in
theorem contractAt_c : ∀ t : Tm, Good t → ∀ (v : Value) (n : Int) (i : Nat) (w : World), Tms w v (Tr.enc t) → rdxAt (Tr.enc t) i = true → (Tr.enc t).length ≤ 60 → 0 ≤ n → n + (Tr.enc t).length ≤ 800 →
    Calls Tryz.prog 66 #[v, .int .i64 n, .int .i64 i] w (GivesR w (ctAt t n i)) := by
  intro t
  refine Tr.ind (P := fun t => Good t → ∀ (v : Value) (n : Int) (i : Nat) (w : World), Tms w v (Tr.enc t) → rdxAt (Tr.enc t) i = true → (Tr.enc t).length ≤ 60 → 0 ≤ n → n + (Tr.enc t).length ≤ 800 →
    Calls Tryz.prog 66 #[v, .int .i64 n, .int .i64 i] w (GivesR w (ctAt t n i))) ?_ t
  intro t ih hg v n i w h hr hlen hn0 hn1
  by_cases hi : i = 0
  · subst hi
    rw [ctAt_zero]
    have HC := Lib.hid (contracted_c v t n w h hg hr (by omega) hn0 (by omega))
    obtain ⟨A, c, rfl⟩ := tms_slice h
    clear h hr hg ih
    generalize ctr t n = R at *
    generalize (Tr.enc t).length = nn at *
    go_enter Tryz.func66, Tryz.ntmps66
    go_wp2_with fail
    refine HC.out.mono ?_
    rintro e w1 ⟨u, rfl, ho, hg1⟩
    go_wp2_with fail
    go_ret
    exact ⟨_, rfl, ho, hg1⟩
  · have hir := rdxAt_lt hr
    obtain ⟨b, o, c, rfl, hc, hm, hb, hcl⟩ := tms_head h
    have hpos := Tr.enc_pos t
    obtain ⟨k1, k2, k3⟩ := hcl _ (Grew.refl w)
    rw [ctAt_kids (by omega)]
    have hk0 : 0 < (Tr.kids t).length := by
      rcases Nat.eq_zero_or_pos (Tr.kids t).length with h0 | h0
      · have h1 := List.eq_nil_of_length_eq_zero h0
        have h2 : (Tr.enc t).length = 1 := by rw [Tr.enc_kids, h1]; rfl
        omega
      · exact h0
    have hkl := Tr.kids_len hg
    have har := Tr.ar_le (Tr.hd t).1
    have HI := Lib.hid (fun W (hW : Grew w W) => inner_o _ t w W h hW hg (by omega))
    have HK := Lib.hid (fun W (hW : Grew w W) => (hcl W hW).1)
    have HLN := Lib.hid (fun j hj => Nat.le_trans (ctL_len (n := n) (M := 60) hg hr hlen j hj) (Nat.mul_le_mul_right 61 (show Tr.off t j ≤ 61 from by
      rcases Nat.lt_or_ge j (Tr.kids t).length with hh | hh
      · have := Tr.off_end hh; omega
      · have e : Tr.off t j = Tr.off t (Tr.kids t).length := by unfold Tr.off; rw [List.take_of_length_le hh, List.take_length]
        rw [e]
        have := Tr.off_end (t := t) (i := (Tr.kids t).length - 1) (by omega)
        have e2 := Tr.off_next (t := t) (i := (Tr.kids t).length - 1) (by omega)
        rw [show (Tr.kids t).length - 1 + 1 = (Tr.kids t).length by omega] at e2
        omega)))
    have HIH := Lib.hid (fun j (hj : j < (Tr.kids t).length) (hc : Tr.off t j ≤ i ∧ i < Tr.off t j + (Tr.enc (Tr.kid t j)).length) u d W (hW : Grew w W) (hd0 : 0 ≤ d) (hd1 : d ≤ 1) hu => ih _ (Tr.kid_mem hj) (Tr.kids_wf hg _ (Tr.kid_mem hj)) u (n + d) (i - Tr.off t j) W hu (rdx_kid hg hr hj hc) (by have := Tr.kid_small hj; omega) (by omega) (by have := Tr.kid_small hj; omega))
    have HBD := Lib.hid (fun i (hi : i < (Tr.kids t).length) w => bindsIn_c (Tr.hd t).1 i w (by omega))
    have HB2 := Lib.hid (fun i => (by unfold Tr.bd; split <;> omega : 0 ≤ Tr.bd (Tr.hd t).1 i ∧ Tr.bd (Tr.hd t).1 i ≤ 1))
    have HOF := Lib.hid (fun j (hj : j < (Tr.kids t).length) => (⟨Tr.off_end hj, Tr.off_next hj, Tr.enc_pos (Tr.kid t j)⟩ : Tr.off t j + (Tr.enc (Tr.kid t j)).length ≤ (Tr.enc t).length ∧ Tr.off t (j + 1) = Tr.off t j + (Tr.enc (Tr.kid t j)).length ∧ 1 ≤ (Tr.enc (Tr.kid t j)).length))
    have hoz := Tr.off_zero t
    have HP1 := Lib.hid (fun j (hc : Tr.off t j ≤ i ∧ i < Tr.off t j + (Tr.enc (Tr.kid t j)).length) => (by unfold ctP; exact if_pos hc : ctP t n i j = ctAt (Tr.kid t j) (n + Tr.bd (Tr.hd t).1 j) (i - Tr.off t j)))
    have HP2 := Lib.hid (fun j (hc : ¬ (Tr.off t j ≤ i ∧ i < Tr.off t j + (Tr.enc (Tr.kid t j)).length)) => (by unfold ctP; exact if_neg hc : ctP t n i j = Tr.enc (Tr.kid t j)))
    have HPL := Lib.hid (fun j (hj : j < (Tr.kids t).length) (hc : Tr.off t j ≤ i ∧ i < Tr.off t j + (Tr.enc (Tr.kid t j)).length) => Nat.le_trans (ctAt_len (M := 60) _ (Tr.kids_wf hg _ (Tr.kid_mem hj)) (n + Tr.bd (Tr.hd t).1 j) _ (rdx_kid hg hr hj hc) (by have := Tr.kid_small hj; omega)) (Nat.mul_le_mul_right 61 (show (Tr.enc (Tr.kid t j)).length ≤ 60 from by have := Tr.kid_small hj; omega)))
    obtain ⟨ML, hML⟩ : ∃ ML, ML = ctL t n i := ⟨_, rfl⟩
    have HST := Lib.hid (fun j => (by rw [hML]; rfl : ML (j + 1) = ML j ++ ctP t n i j))
    have HS0 : Hid (ML 0 = [((Tr.hd t).1, (Tr.hd t).2.1, (Tr.hd t).2.2)]) := Lib.hid (by rw [hML]; rfl)
    rw [← hML] at HLN ⊢
    clear hML hcl ih hg h hr
    generalize (Tr.hd t).1 = kk at *
    generalize (Tr.hd t).2.1 = aa at *
    generalize (Tr.hd t).2.2 = zz at *
    generalize (Tr.enc t).length = nn at *
    generalize hMM : (Tr.kids t).length = m at *
    have hi0 : ((i : Int) == 0) = false := by simpa using hi
    have hm3 : m ≤ 3 := by omega
    clear hkl har
    go_enter Tryz.func66, Tryz.ntmps66
    go_wp2_with fail
    have hone := OwnT.one w w.heap.size (kk, aa, zz) (Nat.le_refl _)
    refine (HI.out _ ((Grew.refl w).alloc _)).mono ?_
    rintro e w1 ⟨u, us, rfl, hU1, hul, hhold, hg1⟩
    have ho1 := hone.grew hg1
    have hgw := Grew.of_alloc hg1
    obtain ⟨g2, c2, rfl, hc2, hm2, _, _⟩ := hU1.open_ (by omega)
    rw [hul] at hc2 hU1 ⊢
    have hU1 := Lib.hid hU1
    have HH := Lib.hid hhold
    clear hone hhold
    go_wp2_with fail
    go_loopw [7, 8, 9, 10, 23] (fun vv x _ _ i' wr => ∃ j : Nat, j ≤ m ∧ i' = .int .i64 j ∧ x = .int .i64 (Tr.off t j) ∧ Grew w wr ∧ OwnT wr w.heap.size vv (ML j) ∧ Hid (OwnVT wr (w.alloc (.cells #[.int .i64 kk, .int .i64 aa, .string zz] 45)).heap.size (.slice (some ⟨g2, 0, none⟩) m c2) us)) (fun _ _ _ _ i' _ => m - (intOf i').toNat)
    case atStart => exact ⟨0, Nat.zero_le _, rfl, by rw [hoz]; rfl, hgw, by rw [HS0.out]; exact ho1, hU1.out⟩
    case round =>
      clear ho1 hU1
      obtain ⟨j, hj, rfl, rfl, hB, hO, hU⟩ := hrel
      by_cases hlt : j < m
      · obtain ⟨x, hx1⟩ : ∃ x, us[j]? = some x := ⟨_, List.getElem?_eq_getElem (by omega)⟩
        have e1 : wr.cell? ⟨g2, j, none⟩ = some x := hU.out.cell hx1
        have e2 : wr.cell? ⟨b, o, none⟩ = some (.int .i64 kk) := HK.out _ hB
        have hx3 : Tms wr x (Tr.enc (Tr.kid t j)) := (HH.out j x hx1).grew hB
        obtain ⟨A3, c3, rfl⟩ := tms_slice hx3
        have hb01 := HB2.out j
        have hbd := Lib.hid (HBD.out j hlt)
        obtain ⟨hl1, hl2, hl3⟩ := HOF.out j hlt
        have HL2 := Lib.hid hl2
        have hln := HLN.out j hj
        have hst := Lib.hid (HST.out j)
        clear hx1 hl2
        by_cases hc : Tr.off t j ≤ i ∧ i < Tr.off t j + (Tr.enc (Tr.kid t j)).length
        · have hpl := HPL.out j hlt hc
          rw [HP1.out j hc] at hst
          have hih := fun W (hW : Grew wr W) => HIH.out j hlt hc _ (Tr.bd kk j) W (hB.trans hW) hb01.1 hb01.2 (hx3.grew hW)
          rw [Int.ofNat_sub hc.1] at hih
          replace hih := Lib.hid hih
          obtain ⟨hc3, hc4⟩ := hc
          clear hx3
          generalize ctAt (Tr.kid t j) (n + Tr.bd kk j) (i - Tr.off t j) = X at *
          generalize Tr.bd kk j = d at *
          generalize (Tr.enc (Tr.kid t j)).length = ln at *
          generalize Tr.off t j = oj at *
          generalize ML j = Y at *
          obtain ⟨hb0, hb1⟩ := hb01
          have hd1 : decide ((oj : Int) ≤ (i : Int)) = true := by simp; omega
          have hd2 : decide ((i : Int) < (oj : Int) + (ln : Int)) = true := by simp; omega
          go_wp2_with fail
          refine (hbd.out _).mono ?_
          rintro e w2 ⟨rfl, hg2⟩
          go_wp2_with fail
          refine (hih.out _ hg2).mono ?_
          rintro e w3 ⟨q, rfl, hq, hg3⟩
          have hk3 := hg2.trans hg3
          have hO3 := hO.grew hk3
          have hw3 := hB.trans hk3
          go_wp2_with (first | (at_builtin; refine wpList_appT (w0 := w) _ _ rfl rfl _ Y rfl hO3 hw3 _ X rfl hq (by omega) ?_; intro v4 w4 hown4 hg4 hgr4))
          go_roundw
          case rel => exact ⟨j + 1, by omega, by go_num, by rw [HL2.out]; go_num, hg4, by rw [hst.out]; exact hown4, ownVT_app (own_grew hU.out hk3) hO3 hgr4⟩
          case measure => simp [intOf]; omega
        · rw [HP2.out j hc] at hst
          have hX := Lib.hid hx3
          have hXl : (Tr.enc (Tr.kid t j)).length ≤ 60 := by omega
          clear hx3 hbd
          generalize Tr.enc (Tr.kid t j) = X at *
          generalize Tr.off t j = oj at *
          generalize ML j = Y at *
          have r := Grew.refl wr
          by_cases hc3 : oj ≤ i
          · have hc4 : oj + X.length ≤ i := by omega
            have hd1 : decide ((oj : Int) ≤ (i : Int)) = true := by simp; omega
            have hd2 : decide ((i : Int) < (oj : Int) + (X.length : Int)) = false := by simp; omega
            go_wp2_with (first | (at_builtin; refine wpList_appT (w0 := w) _ _ rfl rfl _ Y rfl hO hB _ X rfl hX.out (by omega) ?_; intro v4 w4 hown4 hg4 hgr4))
            go_roundw
            case rel => exact ⟨j + 1, by omega, by go_num, by rw [HL2.out]; go_num, hg4, by rw [hst.out]; exact hown4, ownVT_app hU.out hO hgr4⟩
            case measure => simp [intOf]; omega
          · have hd1 : decide ((oj : Int) ≤ (i : Int)) = false := by simp; omega
            go_wp2_with (first | (at_builtin; refine wpList_appT (w0 := w) _ _ rfl rfl _ Y rfl hO hB _ X rfl hX.out (by omega) ?_; intro v4 w4 hown4 hg4 hgr4))
            go_roundw
            case rel => exact ⟨j + 1, by omega, by go_num, by rw [HL2.out]; go_num, hg4, by rw [hst.out]; exact hown4, ownVT_app hU.out hO hgr4⟩
            case measure => simp [intOf]; omega
      · obtain rfl : j = m := by omega
        go_wp2_with fail
        go_ret
        exact ⟨_, rfl, hO.tms, hB⟩
end Go.Proofs.YtfpkfgimhanekaaGreat

/- l26Put of the reference. -/
namespace Go.Proofs.YtfpkfgimhanekaaGreat
open Go.RowKit
open Tr (Tm)

set_option maxHeartbeats 800000 in
theorem l26Put_c (n : Int) (us : List Tn) (hl : us.length ≤ 900) (hok : NumOk us) (hn0 : 0 ≤ n) (hn1 : n ≤ 1000) :
    ∀ t : Tm, Good t → ∀ (v u : Value) (d : Int) (w : World), Tms w v (Tr.enc t) → (Tr.enc t).length ≤ 1000 → Tms w u us → 0 ≤ d → d + (Tr.enc t).length ≤ 2000 →
    Calls Tryz.prog 115 #[v, .int .i64 n, .int .i64 d, u] w (GivesT w (Tr.mapN (putN n us) t (n + 1 + d))) := by
  intro t
  refine Tr.ind (P := fun t => Good t → ∀ (v u : Value) (d : Int) (w : World), Tms w v (Tr.enc t) → (Tr.enc t).length ≤ 1000 → Tms w u us → 0 ≤ d → d + (Tr.enc t).length ≤ 2000 →
    Calls Tryz.prog 115 #[v, .int .i64 n, .int .i64 d, u] w (GivesT w (Tr.mapN (putN n us) t (n + 1 + d)))) ?_ t
  intro t ih hg v u d w h hlen hu hd0 hd1
  obtain ⟨b, o, c, rfl, hc, hm, hb, hcl⟩ := tms_head h
  have hpos := Tr.enc_pos t
  obtain ⟨k1, k2, k3⟩ := hcl _ (Grew.refl w)
  have hnum := tnB_num0 (Tr.hd_wf hg)
  obtain ⟨A, cu, rfl⟩ := tms_slice hu
  by_cases hleaf : Tr.kids t = []
  · have hk := (good_leaf hg).1 hleaf
    rw [Tr.mapN_leaf hleaf]
    have HR := Lib.hid (fun W (hW : Grew w W) => l26Shift_c _ us n d W (hu.grew hW) (by omega) hok hd0 (by omega))
    rw [hk] at k1
    have hhd : Tr.hd t = (0, (Tr.hd t).2.1, (Tr.hd t).2.2) := by rw [← hk]
    rw [hhd]
    generalize (Tr.hd t).2.1 = xn at *
    generalize (Tr.hd t).2.2 = xs at *
    have hal := (Grew.refl w).alloc (.cells #[.int .i64 0, .int .i64 xn, .string xs] 45)
    clear hcl ih hg h hk hleaf hu hok hhd
    generalize (Tr.enc t).length = nn at *
    by_cases he : xn = n
    · have hp : putN n us (0, xn, xs) (n + 1 + d) = raiseL n d us := by unfold putN; rw [if_pos he, show n + 1 + d - n - 1 = d by omega]
      rw [hp]
      clear hp
      subst he
      generalize raiseL xn d us = R at *
      generalize us.length = ul at *
      go_enter Tryz.func115, Tryz.ntmps115
      go_wp2_with fail
      refine (HR.out _ hal).mono ?_
      rintro e w1 ⟨q, rfl, hq, hg1⟩
      go_wp2_with fail
      go_ret
      exact ⟨_, rfl, hq.base hal.size, hal.trans hg1⟩
    · have hne : (xn == n) = false := by simpa using he
      by_cases hgt : n < xn
      · have hp : putN n us (0, xn, xs) (n + 1 + d) = [(0, xn - 1, xs)] := by unfold putN; rw [if_neg he, if_pos hgt]
        rw [hp]
        clear hp HR
        generalize us.length = ul at *
        have hone := fun W => OwnT.one W w.heap.size (0, xn - 1, xs)
        go_enter Tryz.func115, Tryz.ntmps115
        go_wp2_with fail
        go_ret
        have hal2 := (Grew.refl w).alloc (.cells #[.int .i64 0, .int .i64 (xn - 1), .string xs] 45)
        have h1 := hone _ hal2.size
        rw [World.size_alloc] at h1
        exact ⟨_, rfl, h1, hal2.alloc _⟩
      · have hp : putN n us (0, xn, xs) (n + 1 + d) = [(0, xn, xs)] := by unfold putN; rw [if_neg he, if_neg hgt]
        rw [hp]
        clear hp HR
        generalize us.length = ul at *
        have hone := fun W => OwnT.one W w.heap.size (0, xn, xs)
        go_enter Tryz.func115, Tryz.ntmps115
        go_wp2_with fail
        go_ret
        have h1 := hone _ hal.size
        rw [World.size_alloc] at h1
        exact ⟨_, rfl, h1, hal.alloc _⟩
  · have hk : ((Tr.hd t).1 == 0) = false := by
      have := mt (good_leaf hg).2 hleaf
      simpa using this
    have hm1 : 0 < (Tr.kids t).length := List.length_pos_iff.2 hleaf
    have hkl := Tr.kids_len hg
    have har := Tr.ar_le (Tr.hd t).1
    have hgk := good_kind hg
    have hpv : (if 0 ≤ (Tr.hd t).1 ∧ (Tr.hd t).1 ≤ 9 then (Tr.ar (Tr.hd t).1 : Int) else -1) = (((Tr.kids t).length : Nat) : Int) := by rw [if_pos hgk, hkl]
    have HPT := Lib.hid (fun w => l26Parts_c (Tr.hd t).1 w)
    rw [Tr.mapN_kids hleaf]
    have HP := Lib.hid (fun j (hj : j < (Tr.kids t).length) W (hW : Grew w W) => l26Part_c _ t j W (h.grew hW) hg (by omega) hj)
    have hFl : ∀ x m, (putN n us x m).length ≤ us.length + 1 := fun x m => putN_len n us x m
    have hM2 : us.length + 1 ≤ 1000 := by omega
    have HLN := Lib.hid (fun j hj => Nat.le_trans (Tr.mapL_len (by omega) hFl (t := t) (n := n + 1 + d) j hj) (Nat.mul_le_mul (show Tr.off t j ≤ 1000 from by
      rcases Nat.lt_or_ge j (Tr.kids t).length with hh | hh
      · have := Tr.off_end hh; omega
      · have e : Tr.off t j = Tr.off t (Tr.kids t).length := by unfold Tr.off; rw [List.take_of_length_le hh, List.take_length]
        rw [e]
        have := Tr.off_end (t := t) (i := (Tr.kids t).length - 1) (by omega)
        have e2 := Tr.off_next (t := t) (i := (Tr.kids t).length - 1) (by omega)
        rw [show (Tr.kids t).length - 1 + 1 = (Tr.kids t).length by omega] at e2
        omega) hM2))
    have HLN2 := Lib.hid (fun j m (hj : j < (Tr.kids t).length) => Nat.le_trans (Tr.mapN_len (by omega) hFl (Tr.kid t j) m) (Nat.mul_le_mul (show (Tr.enc (Tr.kid t j)).length ≤ 1000 from by have := Tr.kid_small hj; omega) hM2))
    have HIH := Lib.hid (fun i (hi : i < (Tr.kids t).length) x m W (hW : Grew w W) (hd0' : 0 ≤ m) (hd1' : m ≤ 1) hx => ih _ (Tr.kid_mem hi) (Tr.kids_wf hg _ (Tr.kid_mem hi)) x _ (d + m) W hx (by have := Tr.kid_small hi; omega) (hu.grew hW) (by omega) (by have := Tr.kid_small hi; omega))
    obtain ⟨ML, hML⟩ : ∃ ML, ML = Tr.mapL (putN n us) t (n + 1 + d) := ⟨_, rfl⟩
    have HST := Lib.hid (fun j => (by rw [hML, show Tr.mapL (putN n us) t (n + 1 + d) (j + 1) = Tr.mapL (putN n us) t (n + 1 + d) j ++ Tr.mapN (putN n us) (Tr.kid t j) (n + 1 + d + Tr.bd (Tr.hd t).1 j) from rfl, Int.add_assoc (n + 1)] : ML (j + 1) = ML j ++ Tr.mapN (putN n us) (Tr.kid t j) (n + 1 + (d + Tr.bd (Tr.hd t).1 j))))
    have HS0 : Hid (ML 0 = [((Tr.hd t).1, (Tr.hd t).2.1, (Tr.hd t).2.2)]) := Lib.hid (by rw [hML]; rfl)
    rw [← hML] at HLN ⊢
    clear hML hcl ih hg h hleaf hFl hgk hkl hu hok
    generalize (Tr.hd t).1 = kk at *
    generalize (Tr.hd t).2.1 = aa at *
    generalize (Tr.hd t).2.2 = zz at *
    generalize (Tr.enc t).length = nn at *
    generalize hMM : (Tr.kids t).length = m at *
    have hm3 : m ≤ 3 := by have h9 := hpv; split at h9 <;> omega
    generalize hpp : (if 0 ≤ kk ∧ kk ≤ 9 then (Tr.ar kk : Int) else -1) = pp at *
    clear hpp
    generalize us.length = ul at *
    have hal := (Grew.refl w).alloc (.cells #[.int .i64 kk, .int .i64 aa, .string zz] 45)
    have hone := OwnT.one (w.alloc (.cells #[.int .i64 kk, .int .i64 aa, .string zz] 45)) (w.alloc (.cells #[.int .i64 kk, .int .i64 aa, .string zz] 45)).heap.size (kk, aa, zz) (Nat.le_refl _)
    have hg0 := (Grew.refl (w.alloc (.cells #[.int .i64 kk, .int .i64 aa, .string zz] 45))).alloc (.cells #[.int .i64 kk, .int .i64 aa, .string zz] 45)
    have HC0 := Lib.hid (fun W (hW : Grew (w.alloc (.cells #[.int .i64 kk, .int .i64 aa, .string zz] 45)) W) => ((hW.cell (p := ⟨w.heap.size, 0, none⟩) (by simp)).trans (by simp) : W.cell? ⟨w.heap.size, 0, none⟩ = some (.int .i64 kk)))
    go_enter Tryz.func115, Tryz.ntmps115
    go_wp2_with fail
    go_loopw [10, 11] (fun vv i wr => ∃ j : Nat, j ≤ m ∧ i = .int .i64 j ∧ Grew (w.alloc (.cells #[.int .i64 kk, .int .i64 aa, .string zz] 45)) wr ∧ OwnT wr (w.alloc (.cells #[.int .i64 kk, .int .i64 aa, .string zz] 45)).heap.size vv (ML j)) (fun _ i _ => m - (intOf i).toNat)
    case atStart => exact ⟨0, Nat.zero_le _, rfl, hg0, by rw [HS0.out]; simpa using hone⟩
    case round =>
      clear hone hg0
      obtain ⟨j, hj, rfl, hB, hO⟩ := hrel
      have e0 : ∀ W, Grew wr W → W.cell? ⟨w.heap.size, 0, none⟩ = some (.int .i64 kk) := fun W hW => HC0.out W (hB.trans hW)
      have hrr := Grew.refl wr
      by_cases hlt : j < m
      · have hP := Lib.hid (fun W (hW : Grew (w.alloc (.cells #[.int .i64 kk, .int .i64 aa, .string zz] 45)) W) => HP.out j hlt W (hal.trans hW))
        have hl1 := HLN.out j hj
        have hl2 := HLN2.out j (n + 1 + (d + Tr.bd kk j)) hlt
        have hst := Lib.hid (HST.out j)
        have hltI : (j : Int) < (m : Int) := by omega
        cases h1 : (kk == 1) with
        | true =>
          have hbd : Tr.bd kk j = 1 := by unfold Tr.bd; rw [if_pos (.inl (by simpa using h1))]
          rw [hbd] at hst hl2
          have hih := Lib.hid (fun x W (hW : Grew (w.alloc (.cells #[.int .i64 kk, .int .i64 aa, .string zz] 45)) W) hx => HIH.out j hlt x 1 W (hal.trans hW) (by omega) (by omega) hx)
          clear hbd
          generalize Tr.mapN (putN n us) (Tr.kid t j) (n + 1 + (d + 1)) = X at *
          generalize ML j = Y at *
          go_wp2_with fail
          refine (HPT.out _).mono ?_
          rintro e w2 ⟨rfl, hg2⟩
          rw [hpv]
          have hB2 := hB.trans hg2
          go_wp2_with fail
          refine (hP.out _ hB2).mono ?_
          rintro e w3 ⟨x, rfl, hx, hg3⟩
          have hB3 := hB2.trans hg3
          go_wp2_with fail
          refine (hih.out _ _ hB3 hx).mono ?_
          rintro e w4 ⟨q, rfl, hq, hg4⟩
          have hk4 := (hg2.trans hg3).trans hg4
          have hO4 := hO.grew hk4
          have hB4 := hB.trans hk4
          go_wp2_with (first | (at_builtin; refine wpList_appT (w0 := w.alloc (.cells #[.int .i64 kk, .int .i64 aa, .string zz] 45)) _ _ rfl rfl _ Y rfl hO4 hB4 _ X rfl hq.tms (by omega) ?_; intro v5 w5 hown5 hg5 hgr5))
          go_roundw
          case rel => exact ⟨j + 1, by omega, by go_num, hg5, by rw [hst.out]; exact hown5⟩
          case measure => simp [intOf]; omega
        | false =>
          have n1 : kk ≠ 1 := by simpa using h1
          cases h8 : (kk == 8) with
          | true =>
            have e8 : kk = 8 := by simpa using h8
            by_cases hj0 : 0 < j
            · have hbd : Tr.bd kk j = 1 := by unfold Tr.bd; rw [if_pos (.inr ⟨e8, hj0⟩)]
              rw [hbd] at hst hl2
              have hih := Lib.hid (fun x W (hW : Grew (w.alloc (.cells #[.int .i64 kk, .int .i64 aa, .string zz] 45)) W) hx => HIH.out j hlt x 1 W (hal.trans hW) (by omega) (by omega) hx)
              have hj0' : decide ((0 : Int) < (j : Int)) = true := by simp; omega
              clear hbd e8 n1
              generalize Tr.mapN (putN n us) (Tr.kid t j) (n + 1 + (d + 1)) = X at *
              generalize ML j = Y at *
              go_wp2_with fail
              refine (HPT.out _).mono ?_
              rintro e w2 ⟨rfl, hg2⟩
              rw [hpv]
              have hB2 := hB.trans hg2
              go_wp2_with fail
              refine (hP.out _ hB2).mono ?_
              rintro e w3 ⟨x, rfl, hx, hg3⟩
              have hB3 := hB2.trans hg3
              go_wp2_with fail
              refine (hih.out _ _ hB3 hx).mono ?_
              rintro e w4 ⟨q, rfl, hq, hg4⟩
              have hk4 := (hg2.trans hg3).trans hg4
              have hO4 := hO.grew hk4
              have hB4 := hB.trans hk4
              go_wp2_with (first | (at_builtin; refine wpList_appT (w0 := w.alloc (.cells #[.int .i64 kk, .int .i64 aa, .string zz] 45)) _ _ rfl rfl _ Y rfl hO4 hB4 _ X rfl hq.tms (by omega) ?_; intro v5 w5 hown5 hg5 hgr5))
              go_roundw
              case rel => exact ⟨j + 1, by omega, by go_num, hg5, by rw [hst.out]; exact hown5⟩
              case measure => simp [intOf]; omega
            · have hbd : Tr.bd kk j = 0 := by unfold Tr.bd; rw [if_neg (by omega)]
              rw [hbd, Int.add_zero] at hst hl2
              have hih := fun x W (hW : Grew (w.alloc (.cells #[.int .i64 kk, .int .i64 aa, .string zz] 45)) W) hx => HIH.out j hlt x 0 W (hal.trans hW) (by omega) (by omega) hx
              rw [Int.add_zero] at hih
              replace hih := Lib.hid hih
              have hj0' : decide ((0 : Int) < (j : Int)) = false := by simp; omega
              clear hbd e8 n1
              generalize Tr.mapN (putN n us) (Tr.kid t j) (n + 1 + d) = X at *
              generalize ML j = Y at *
              go_wp2_with fail
              refine (HPT.out _).mono ?_
              rintro e w2 ⟨rfl, hg2⟩
              rw [hpv]
              have hB2 := hB.trans hg2
              go_wp2_with fail
              refine (hP.out _ hB2).mono ?_
              rintro e w3 ⟨x, rfl, hx, hg3⟩
              have hB3 := hB2.trans hg3
              go_wp2_with fail
              refine (hih.out _ _ hB3 hx).mono ?_
              rintro e w4 ⟨q, rfl, hq, hg4⟩
              have hk4 := (hg2.trans hg3).trans hg4
              have hO4 := hO.grew hk4
              have hB4 := hB.trans hk4
              go_wp2_with (first | (at_builtin; refine wpList_appT (w0 := w.alloc (.cells #[.int .i64 kk, .int .i64 aa, .string zz] 45)) _ _ rfl rfl _ Y rfl hO4 hB4 _ X rfl hq.tms (by omega) ?_; intro v5 w5 hown5 hg5 hgr5))
              go_roundw
              case rel => exact ⟨j + 1, by omega, by go_num, hg5, by rw [hst.out]; exact hown5⟩
              case measure => simp [intOf]; omega
          | false =>
            have n8 : kk ≠ 8 := by simpa using h8
            have hbd : Tr.bd kk j = 0 := by unfold Tr.bd; rw [if_neg (by omega)]
            rw [hbd, Int.add_zero] at hst hl2
            have hih := fun x W (hW : Grew (w.alloc (.cells #[.int .i64 kk, .int .i64 aa, .string zz] 45)) W) hx => HIH.out j hlt x 0 W (hal.trans hW) (by omega) (by omega) hx
            rw [Int.add_zero] at hih
            replace hih := Lib.hid hih
            clear hbd n8 n1
            generalize Tr.mapN (putN n us) (Tr.kid t j) (n + 1 + d) = X at *
            generalize ML j = Y at *
            go_wp2_with fail
            refine (HPT.out _).mono ?_
            rintro e w2 ⟨rfl, hg2⟩
            rw [hpv]
            have hB2 := hB.trans hg2
            go_wp2_with fail
            refine (hP.out _ hB2).mono ?_
            rintro e w3 ⟨x, rfl, hx, hg3⟩
            have hB3 := hB2.trans hg3
            go_wp2_with fail
            refine (hih.out _ _ hB3 hx).mono ?_
            rintro e w4 ⟨q, rfl, hq, hg4⟩
            have hk4 := (hg2.trans hg3).trans hg4
            have hO4 := hO.grew hk4
            have hB4 := hB.trans hk4
            go_wp2_with (first | (at_builtin; refine wpList_appT (w0 := w.alloc (.cells #[.int .i64 kk, .int .i64 aa, .string zz] 45)) _ _ rfl rfl _ Y rfl hO4 hB4 _ X rfl hq.tms (by omega) ?_; intro v5 w5 hown5 hg5 hgr5))
            go_roundw
            case rel => exact ⟨j + 1, by omega, by go_num, hg5, by rw [hst.out]; exact hown5⟩
            case measure => simp [intOf]; omega
      · obtain rfl : j = m := by omega
        go_wp2_with fail
        refine (HPT.out _).mono ?_
        rintro e w2 ⟨rfl, hg2⟩
        rw [hpv]
        go_wp2_with fail
        go_ret
        exact ⟨_, rfl, (hO.grew hg2).base hal.size, (hal.trans hB).trans hg2⟩
end Go.Proofs.YtfpkfgimhanekaaGreat

/- l26Contract of the reference. -/
namespace Go.Proofs.YtfpkfgimhanekaaGreat
open Go.RowKit
open Tr (Tm)

theorem l26Contract_c (v : Value) (t : Tm) (n : Int) (w : World) (h : Tms w v (Tr.enc t)) (hg : Good t) (hr : rdxAt (Tr.enc t) 0 = true) (hlen : (Tr.enc t).length ≤ 800) (hn0 : 0 ≤ n) (hn1 : n ≤ 900) :
    Calls Tryz.prog 88 #[v, .int .i64 n] w (GivesR w (ctr t n)) := by
  have HF := Lib.hid (fun k W (hW : Grew w W) (hk : k < (Tr.kids t).length) => l26Part_c v t k W (h.grew hW) hg (by omega) hk)
  obtain ⟨b0, o0, c0, rfl, hc0, hm0, hb0, hcl0⟩ := tms_head h
  have k0 := fun W (hW : Grew w W) => (hcl0 W hW).1
  have hpos := Tr.enc_pos t
  have hrr := Grew.refl w
  rcases rdx_shape hg hr with ⟨x, y, b, u, rfl, hx, hy⟩ | ⟨x, y, a, b, rfl, hx, hy⟩ | ⟨x, y, s, a, b, rfl, hx, hy⟩
  · have hgf : Good (.t1 y b) := hg.2.1
    have hgb : Good b := hgf.2
    have hgu : Good u := hg.2.2
    have hl2 : (Tr.enc b).length ≤ 800 ∧ (Tr.enc u).length ≤ 800 := by simp [Tr.enc] at hlen ⊢; omega
    obtain ⟨hl3, hl4⟩ := hl2
    have HP0 := fun vb vu W (hb : Tms W vb (Tr.enc b)) (hu : Tms W vu (Tr.enc u)) => l26Put_c n (Tr.enc u) (by omega) (good_numOk hgu) hn0 (by omega) b hgb vb vu 0 W hb (by omega) hu (by omega) (by omega)
    simp only [Int.add_zero] at HP0
    have HP := Lib.hid HP0
    have HF0 := Lib.hid (fun W (hW : Grew w W) => HF.out 0 W hW (by decide : 0 < 2))
    have HF1 := Lib.hid (fun W (hW : Grew w W) => HF.out 1 W hW (by decide : 1 < 2))
    rw [show Tr.kid (.t2 x (.t1 y b) u) 0 = .t1 y b from rfl] at HF0
    rw [show Tr.kid (.t2 x (.t1 y b) u) 1 = u from rfl] at HF1
    have hct : ctr (.t2 x (.t1 y b) u) n = Tr.mapN (putN n (Tr.enc u)) b (n + 1) := rfl
    rw [hct]
    have ek : (Tr.hd (.t2 x (.t1 y b) u)).1 = 2 := hx
    rw [ek] at k0
    generalize (Tr.enc (.t2 x (.t1 y b) u)).length = ll at *
    clear h hcl0 hr hct ek HP0 HF
    generalize Tr.mapN (putN n (Tr.enc u)) b (n + 1) = R at *
    go_enter Tryz.func88, Tryz.ntmps88
    go_wp2_with fail
    refine (HF0.out _ hrr).mono ?_
    rintro e w1 ⟨fv, rfl, hf, hg1⟩
    obtain ⟨b1, o1, c1, rfl, hc1, hm1, hb1, hcl1⟩ := tms_head hf
    have hsub := sub_one (x := y) (a := b) (by simpa [Tr.enc] using hf) (by simpa [Tr.enc] using hc1) hm1
    have hlc : (Tr.enc (.t1 y b)).length = (Tr.enc b).length + 1 := by simp [Tr.enc]
    rw [hlc] at hc1 ⊢
    have HS := Lib.hid hsub
    have q1 := fun W (hW : Grew w1 W) => (hcl1 W hW).1
    change ∀ W, Grew w1 W → W.cell? ⟨b1, o1, none⟩ = some (.int .i64 y.1) at q1
    clear hsub hcl1 hf hlc
    have hc1n : ¬ c1 = 1 := by have := Tr.enc_pos b; omega
    have hs0 := Tr.enc_pos b
    have r1 := Grew.refl w1
    have d1 := r1.drew
    have i1 : (1 : Int) ≤ ((Tr.enc b).length : Int) + 1 := by omega
    have i2 : ((Tr.enc b).length : Int) + 1 ≤ (c1 : Int) := by omega
    have i3 : (0 : Int) ≤ ((Tr.enc b).length : Int) := by omega
    have g0 := fun W (hW : Grew w1 W) => k0 W (hg1.trans hW)
    go_wp2_with fail
    go_region_held3 (fun w' => Grew w1 w') (with_reducible assumption)
      (first
        | (go_at_call 51; refine (HF1.out _ (hg1.trans d1)).mono ?_; rintro e w2 ⟨uv, rfl, hu, hg2⟩; have hk2 := d1.trans hg2)
        | (go_at_call 115; refine (HP.out _ _ _ (HS.out.grew (d1.trans hg2)) (hu)).mono ?_; rintro e w3 ⟨q, rfl, hq, hg3⟩; have hk3 := (d1.trans hg2).trans hg3))
    go_wp2_with fail
    go_ret
    exact ⟨_, rfl, hq.tms, hg1.trans hk3⟩
  · have hgf : Good (.t2 y a b) := hg.2
    have hl2 : (Tr.enc (.t2 y a b)).length ≤ 800 := by simp [Tr.enc] at hlen ⊢; omega
    have HF0 := Lib.hid (fun W (hW : Grew w W) => HF.out 0 W hW (by decide : 0 < 1))
    rw [show Tr.kid (.t1 x (.t2 y a b)) 0 = .t2 y a b from rfl] at HF0
    have HG0 := Lib.hid (fun v W (hv : Tms W v (Tr.enc (.t2 y a b))) => l26Part_c v (.t2 y a b) 0 W hv hgf (by omega) (by decide : 0 < 2))
    have HG1 := Lib.hid (fun v W (hv : Tms W v (Tr.enc (.t2 y a b))) => l26Part_c v (.t2 y a b) 1 W hv hgf (by omega) (by decide : 1 < 2))
    rw [show Tr.kid (.t2 y a b) 0 = a from rfl] at HG0
    rw [show Tr.kid (.t2 y a b) 1 = b from rfl] at HG1
    rcases hx with hx | hx
    · have hct : ctr (.t1 x (.t2 y a b)) n = Tr.enc a := by simp [ctr, hx, Tr.kid, Tr.kids]
      rw [hct]
      have ek : (Tr.hd (.t1 x (.t2 y a b))).1 = 4 := hx
      rw [ek] at k0
      generalize (Tr.enc (.t1 x (.t2 y a b))).length = ll at *
      clear h hcl0 hr hct ek HF
      go_enter Tryz.func88, Tryz.ntmps88
      go_wp2_with fail
      refine (HF0.out _ hrr).mono ?_
      rintro e w1 ⟨fv, rfl, hf, hg1⟩
      have g0 := fun W (hW : Grew w1 W) => k0 W (hg1.trans hW)
      have r1 := Grew.refl w1
      have HF2 := Lib.hid hf
      obtain ⟨A1, c1, rfl⟩ := tms_slice hf
      clear hf
      go_wp2_with fail
      refine (HG0.out _ _ HF2.out).mono ?_
      rintro e w2 ⟨q, rfl, hq, hg2⟩
      go_wp2_with fail
      go_ret
      exact ⟨_, rfl, hq, hg1.trans hg2⟩
    · have hct : ctr (.t1 x (.t2 y a b)) n = Tr.enc b := by simp [ctr, hx, Tr.kid, Tr.kids]
      rw [hct]
      have ek : (Tr.hd (.t1 x (.t2 y a b))).1 = 5 := hx
      rw [ek] at k0
      generalize (Tr.enc (.t1 x (.t2 y a b))).length = ll at *
      clear h hcl0 hr hct ek HF
      go_enter Tryz.func88, Tryz.ntmps88
      go_wp2_with fail
      refine (HF0.out _ hrr).mono ?_
      rintro e w1 ⟨fv, rfl, hf, hg1⟩
      have g0 := fun W (hW : Grew w1 W) => k0 W (hg1.trans hW)
      have r1 := Grew.refl w1
      have HF2 := Lib.hid hf
      obtain ⟨A1, c1, rfl⟩ := tms_slice hf
      clear hf
      go_wp2_with fail
      refine (HG1.out _ _ HF2.out).mono ?_
      rintro e w2 ⟨q, rfl, hq, hg2⟩
      go_wp2_with fail
      go_ret
      exact ⟨_, rfl, hq, hg1.trans hg2⟩
  · have hgf : Good (.t1 y s) := hg.2.1
    have hgs : Good s := hgf.2
    have hga : Good a := hg.2.2.1
    have hgb : Good b := hg.2.2.2
    have hl2 : (Tr.enc s).length ≤ 800 ∧ (Tr.enc a).length ≤ 800 ∧ (Tr.enc b).length ≤ 800 := by simp [Tr.enc] at hlen ⊢; omega
    obtain ⟨hl3, hl4, hl5⟩ := hl2
    have HF0 := Lib.hid (fun W (hW : Grew w W) => HF.out 0 W hW (by decide : 0 < 3))
    rw [show Tr.kid (.t3 x (.t1 y s) a b) 0 = .t1 y s from rfl] at HF0
    have HF1 := Lib.hid (fun W (hW : Grew w W) => HF.out 1 W hW (by decide : 1 < 3))
    rw [show Tr.kid (.t3 x (.t1 y s) a b) 1 = a from rfl] at HF1
    have HF2 := Lib.hid (fun W (hW : Grew w W) => HF.out 2 W hW (by decide : 2 < 3))
    rw [show Tr.kid (.t3 x (.t1 y s) a b) 2 = b from rfl] at HF2
    have ek : (Tr.hd (.t3 x (.t1 y s) a b)).1 = 8 := hx
    rw [ek] at k0
    rcases hy with hy | hy
    · have HP0 := fun vb vu W (hb : Tms W vb (Tr.enc a)) (hu : Tms W vu (Tr.enc s)) => l26Put_c n (Tr.enc s) (by omega) (good_numOk hgs) hn0 (by omega) a hga vb vu 0 W hb (by omega) hu (by omega) (by omega)
      simp only [Int.add_zero] at HP0
      have HP := Lib.hid HP0
      have hct : ctr (.t3 x (.t1 y s) a b) n = Tr.mapN (putN n (Tr.enc s)) a (n + 1) := by simp [ctr, hy, Tr.kid, Tr.kids, Tr.hd]
      rw [hct]
      generalize (Tr.enc (.t3 x (.t1 y s) a b)).length = ll at *
      clear h hcl0 hr hct ek HP0 HF
      generalize Tr.mapN (putN n (Tr.enc s)) a (n + 1) = R at *
      go_enter Tryz.func88, Tryz.ntmps88
      go_wp2_with fail
      refine (HF0.out _ hrr).mono ?_
      rintro e w1 ⟨fv, rfl, hf, hg1⟩
      obtain ⟨b1, o1, c1, rfl, hc1, hm1, hb1, hcl1⟩ := tms_head hf
      have hsub := sub_one (x := y) (a := s) (by simpa [Tr.enc] using hf) (by simpa [Tr.enc] using hc1) hm1
      have hlc : (Tr.enc (.t1 y s)).length = (Tr.enc s).length + 1 := by simp [Tr.enc]
      rw [hlc] at hc1 ⊢
      have HS := Lib.hid hsub
      have q1 := fun W (hW : Grew w1 W) => (hcl1 W hW).1
      change ∀ W, Grew w1 W → W.cell? ⟨b1, o1, none⟩ = some (.int .i64 y.1) at q1
      clear hsub hcl1 hf hlc
      have hc1n : ¬ c1 = 1 := by have := Tr.enc_pos s; omega
      have hs0 := Tr.enc_pos s
      have r1 := Grew.refl w1
      have d1 := r1.drew
      rw [hy] at q1
      have i1 : (1 : Int) ≤ ((Tr.enc s).length : Int) + 1 := by omega
      have i2 : ((Tr.enc s).length : Int) + 1 ≤ (c1 : Int) := by omega
      have i3 : (0 : Int) ≤ ((Tr.enc s).length : Int) := by omega
      have g0 := fun W (hW : Grew w1 W) => k0 W (hg1.trans hW)
      go_wp2_with fail
      go_region_held3 (fun w' => Grew w1 w') (with_reducible assumption)
        (first
          | (go_at_call 51; refine (HF1.out _ (hg1.trans d1)).mono ?_; rintro e w2 ⟨uv, rfl, hu, hg2⟩; have hk2 := d1.trans hg2)
          | (go_at_call 115; refine (HP.out _ _ _ (hu) (HS.out.grew (d1.trans hg2))).mono ?_; rintro e w3 ⟨q, rfl, hq, hg3⟩; have hk3 := (d1.trans hg2).trans hg3))
      go_wp2_with fail
      go_ret
      exact ⟨_, rfl, hq.tms, hg1.trans hk3⟩
    · have HP0 := fun vb vu W (hb : Tms W vb (Tr.enc b)) (hu : Tms W vu (Tr.enc s)) => l26Put_c n (Tr.enc s) (by omega) (good_numOk hgs) hn0 (by omega) b hgb vb vu 0 W hb (by omega) hu (by omega) (by omega)
      simp only [Int.add_zero] at HP0
      have HP := Lib.hid HP0
      have hct : ctr (.t3 x (.t1 y s) a b) n = Tr.mapN (putN n (Tr.enc s)) b (n + 1) := by simp [ctr, hy, Tr.kid, Tr.kids, Tr.hd]
      rw [hct]
      generalize (Tr.enc (.t3 x (.t1 y s) a b)).length = ll at *
      clear h hcl0 hr hct ek HP0 HF
      generalize Tr.mapN (putN n (Tr.enc s)) b (n + 1) = R at *
      go_enter Tryz.func88, Tryz.ntmps88
      go_wp2_with fail
      refine (HF0.out _ hrr).mono ?_
      rintro e w1 ⟨fv, rfl, hf, hg1⟩
      obtain ⟨b1, o1, c1, rfl, hc1, hm1, hb1, hcl1⟩ := tms_head hf
      have hsub := sub_one (x := y) (a := s) (by simpa [Tr.enc] using hf) (by simpa [Tr.enc] using hc1) hm1
      have hlc : (Tr.enc (.t1 y s)).length = (Tr.enc s).length + 1 := by simp [Tr.enc]
      rw [hlc] at hc1 ⊢
      have HS := Lib.hid hsub
      have q1 := fun W (hW : Grew w1 W) => (hcl1 W hW).1
      change ∀ W, Grew w1 W → W.cell? ⟨b1, o1, none⟩ = some (.int .i64 y.1) at q1
      clear hsub hcl1 hf hlc
      have hc1n : ¬ c1 = 1 := by have := Tr.enc_pos s; omega
      have hs0 := Tr.enc_pos s
      have r1 := Grew.refl w1
      have d1 := r1.drew
      rw [hy] at q1
      have i1 : (1 : Int) ≤ ((Tr.enc s).length : Int) + 1 := by omega
      have i2 : ((Tr.enc s).length : Int) + 1 ≤ (c1 : Int) := by omega
      have i3 : (0 : Int) ≤ ((Tr.enc s).length : Int) := by omega
      have g0 := fun W (hW : Grew w1 W) => k0 W (hg1.trans hW)
      go_wp2_with fail
      go_region_held3 (fun w' => Grew w1 w') (with_reducible assumption)
        (first
          | (go_at_call 51; refine (HF2.out _ (hg1.trans d1)).mono ?_; rintro e w2 ⟨uv, rfl, hu, hg2⟩; have hk2 := d1.trans hg2)
          | (go_at_call 115; refine (HP.out _ _ _ (hu) (HS.out.grew (d1.trans hg2))).mono ?_; rintro e w3 ⟨q, rfl, hq, hg3⟩; have hk3 := (d1.trans hg2).trans hg3))
      go_wp2_with fail
      go_ret
      exact ⟨_, rfl, hq.tms, hg1.trans hk3⟩
end Go.Proofs.YtfpkfgimhanekaaGreat

/- l26At of the reference. -/
namespace Go.Proofs.YtfpkfgimhanekaaGreat
open Go.RowKit
open Tr (Tm)

set_option maxHeartbeats 800000 in
theorem l26At_c : ∀ t : Tm, Good t → ∀ (v : Value) (n : Int) (i : Nat) (w : World), Tms w v (Tr.enc t) → rdxAt (Tr.enc t) i = true → (Tr.enc t).length ≤ 60 → 0 ≤ n → n + (Tr.enc t).length ≤ 800 →
    Calls Tryz.prog 49 #[v, .int .i64 n, .int .i64 i] w (GivesT w (ctAt t n i)) := by
  intro t
  refine Tr.ind (P := fun t => Good t → ∀ (v : Value) (n : Int) (i : Nat) (w : World), Tms w v (Tr.enc t) → rdxAt (Tr.enc t) i = true → (Tr.enc t).length ≤ 60 → 0 ≤ n → n + (Tr.enc t).length ≤ 800 →
    Calls Tryz.prog 49 #[v, .int .i64 n, .int .i64 i] w (GivesT w (ctAt t n i))) ?_ t
  intro t ih hg v n i w h hr hlen hn0 hn1
  by_cases hi : i = 0
  · subst hi
    rw [ctAt_zero]
    have HC := Lib.hid (fun W (hW : Grew w W) => l26Contract_c v t n W (h.grew hW) hg hr (by omega) hn0 (by omega))
    have hlr := Nat.le_trans (ctr_len (n := n) (M := 60) hg hr hlen) (Nat.mul_le_mul_right 61 hlen)
    obtain ⟨A, c, rfl⟩ := tms_slice h
    clear h hr hg ih
    generalize ctr t n = R at *
    generalize (Tr.enc t).length = nn at *
    have he := own_emptyT w
    have hg0 := (Grew.refl w).alloc (.cells #[] 45)
    go_enter Tryz.func49, Tryz.ntmps49
    go_wp2_with fail
    refine (HC.out _ hg0).mono ?_
    rintro e w1 ⟨u, rfl, ho, hg1⟩
    have he1 := he.grew hg1
    have hk1 := hg0.trans hg1
    clear he
    go_wp2_with (first | (at_builtin; refine wpList_appT (w0 := w) _ _ rfl rfl _ [] rfl he1 hk1 _ R rfl ho (by simp; omega) ?_; intro v2 w2 hown2 hg2 _))
    go_ret
    exact ⟨_, rfl, by simpa using hown2, hg2⟩
  · have hir := rdxAt_lt hr
    have hEnd := Lib.hid (fun j (hj : j < (Tr.kids t).length) W (hW : Grew w W) => by
      have h1 := l26End_c v (Tr.enc t) (Tr.enc t).length (Tr.off t j) W (by omega) (h.grew hW) (by omega) (by have := Tr.off_end hj; omega)
      rw [Tr.pend_kid hg hj, Int.natCast_add] at h1
      exact h1)
    obtain ⟨b, o, c, rfl, hc, hm, hb, hcl⟩ := tms_head h
    have hpos := Tr.enc_pos t
    obtain ⟨k1, k2, k3⟩ := hcl _ (Grew.refl w)
    rw [ctAt_kids (by omega)]
    have hk0 : 0 < (Tr.kids t).length := by
      rcases Nat.eq_zero_or_pos (Tr.kids t).length with h0 | h0
      · have h1 := List.eq_nil_of_length_eq_zero h0
        have h2 : (Tr.enc t).length = 1 := by rw [Tr.enc_kids, h1]; rfl
        omega
      · exact h0
    have hkl := Tr.kids_len hg
    have har := Tr.ar_le (Tr.hd t).1
    have hgk := good_kind hg
    have hpv : (if 0 ≤ (Tr.hd t).1 ∧ (Tr.hd t).1 ≤ 9 then (Tr.ar (Tr.hd t).1 : Int) else -1) = (((Tr.kids t).length : Nat) : Int) := by rw [if_pos hgk, hkl]
    have HPT := Lib.hid (fun w => l26Parts_c (Tr.hd t).1 w)
    have HLN := Lib.hid (fun j hj => Nat.le_trans (ctL_len (n := n) (M := 60) hg hr hlen j hj) (Nat.mul_le_mul_right 61 (show Tr.off t j ≤ 61 from by
      rcases Nat.lt_or_ge j (Tr.kids t).length with hh | hh
      · have := Tr.off_end hh; omega
      · have e : Tr.off t j = Tr.off t (Tr.kids t).length := by unfold Tr.off; rw [List.take_of_length_le hh, List.take_length]
        rw [e]
        have := Tr.off_end (t := t) (i := (Tr.kids t).length - 1) (by omega)
        have e2 := Tr.off_next (t := t) (i := (Tr.kids t).length - 1) (by omega)
        rw [show (Tr.kids t).length - 1 + 1 = (Tr.kids t).length by omega] at e2
        omega)))
    have HIH := Lib.hid (fun j (hj : j < (Tr.kids t).length) (hc : Tr.off t j ≤ i ∧ i < Tr.off t j + (Tr.enc (Tr.kid t j)).length) u d W (hd0 : 0 ≤ d) (hd1 : d ≤ 1) hu => ih _ (Tr.kid_mem hj) (Tr.kids_wf hg _ (Tr.kid_mem hj)) u (n + d) (i - Tr.off t j) W hu (rdx_kid hg hr hj hc) (by have := Tr.kid_small hj; omega) (by omega) (by have := Tr.kid_small hj; omega))
    have HOF := Lib.hid (fun j (hj : j < (Tr.kids t).length) => (⟨Tr.off_end hj, Tr.off_next hj, Tr.enc_pos (Tr.kid t j)⟩ : Tr.off t j + (Tr.enc (Tr.kid t j)).length ≤ (Tr.enc t).length ∧ Tr.off t (j + 1) = Tr.off t j + (Tr.enc (Tr.kid t j)).length ∧ 1 ≤ (Tr.enc (Tr.kid t j)).length))
    have hoz := Tr.off_zero t
    have HSU := Lib.hid (fun j (hj : j < (Tr.kids t).length) => by
      have h1 := h.sub (Tr.off t j) (Tr.enc (Tr.kid t j)).length (c - Tr.off t j) (Tr.off_end hj) (by have := Tr.off_end hj; omega) (by omega)
      rw [Tr.take_kid hj] at h1
      exact h1)
    have HP1 := Lib.hid (fun j (hc : Tr.off t j ≤ i ∧ i < Tr.off t j + (Tr.enc (Tr.kid t j)).length) => (by unfold ctP; exact if_pos hc : ctP t n i j = ctAt (Tr.kid t j) (n + Tr.bd (Tr.hd t).1 j) (i - Tr.off t j)))
    have HP2 := Lib.hid (fun j (hc : ¬ (Tr.off t j ≤ i ∧ i < Tr.off t j + (Tr.enc (Tr.kid t j)).length)) => (by unfold ctP; exact if_neg hc : ctP t n i j = Tr.enc (Tr.kid t j)))
    have HPL := Lib.hid (fun j (hj : j < (Tr.kids t).length) (hc : Tr.off t j ≤ i ∧ i < Tr.off t j + (Tr.enc (Tr.kid t j)).length) => Nat.le_trans (ctAt_len (M := 60) _ (Tr.kids_wf hg _ (Tr.kid_mem hj)) (n + Tr.bd (Tr.hd t).1 j) _ (rdx_kid hg hr hj hc) (by have := Tr.kid_small hj; omega)) (Nat.mul_le_mul_right 61 (show (Tr.enc (Tr.kid t j)).length ≤ 60 from by have := Tr.kid_small hj; omega)))
    obtain ⟨ML, hML⟩ : ∃ ML, ML = ctL t n i := ⟨_, rfl⟩
    have HST := Lib.hid (fun j => (by rw [hML]; rfl : ML (j + 1) = ML j ++ ctP t n i j))
    have HS0 : Hid (ML 0 = [((Tr.hd t).1, (Tr.hd t).2.1, (Tr.hd t).2.2)]) := Lib.hid (by rw [hML]; rfl)
    rw [← hML] at HLN ⊢
    have HK := Lib.hid (fun W (hW : Grew w W) => (hcl W hW).1)
    clear hML hcl ih hg h hr hgk hkl
    generalize (Tr.hd t).1 = kk at *
    generalize (Tr.hd t).2.1 = aa at *
    generalize (Tr.hd t).2.2 = zz at *
    generalize (Tr.enc t).length = nn at *
    generalize hMM : (Tr.kids t).length = m at *
    have hi0 : ((i : Int) == 0) = false := by simpa using hi
    have hm3 : m ≤ 3 := by have h9 := hpv; split at h9 <;> omega
    generalize hpp : (if 0 ≤ kk ∧ kk ≤ 9 then (Tr.ar kk : Int) else -1) = pp at *
    clear hpp har
    have hal := (Grew.refl w).alloc (.cells #[.int .i64 kk, .int .i64 aa, .string zz] 45)
    have hone := OwnT.one w w.heap.size (kk, aa, zz) (Nat.le_refl _)
    go_enter Tryz.func49, Tryz.ntmps49
    go_wp2_with fail
    go_loopw [7, 8, 9] (fun vv x i' wr => ∃ j : Nat, j ≤ m ∧ i' = .int .i64 j ∧ x = .int .i64 (Tr.off t j) ∧ Grew w wr ∧ OwnT wr w.heap.size vv (ML j)) (fun _ _ i' _ => m - (intOf i').toNat)
    case atStart => exact ⟨0, Nat.zero_le _, rfl, by rw [hoz]; rfl, hal, by rw [HS0.out]; exact hone⟩
    case round =>
      clear hone hal
      obtain ⟨j, hj, rfl, rfl, hB, hO⟩ := hrel
      have e0 : ∀ W, Grew wr W → W.cell? ⟨b, o, none⟩ = some (.int .i64 kk) := fun W hW => HK.out W (hB.trans hW)
      have hrr := Grew.refl wr
      by_cases hlt : j < m
      · obtain ⟨hl1, hl2, hl3⟩ := HOF.out j hlt
        have HL2 := Lib.hid hl2
        have hln := HLN.out j hj
        have hst := Lib.hid (HST.out j)
        have hEn := Lib.hid (fun W hW => hEnd.out j hlt W hW)
        have hSu := Lib.hid (fun W (hW : Grew w W) => (HSU.out j hlt).grew hW)
        have hltI : (j : Int) < (m : Int) := by omega
        clear hl2
        by_cases hc : Tr.off t j ≤ i ∧ i < Tr.off t j + (Tr.enc (Tr.kid t j)).length
        · have hX := HPL.out j hlt hc
          rw [HP1.out j hc] at hst
          have hih := fun W hu => HIH.out j hlt hc (.slice (some ⟨b, o + Tr.off t j * 3, none⟩) (Tr.enc (Tr.kid t j)).length (c - Tr.off t j)) (Tr.bd kk j) W (by unfold Tr.bd; split <;> omega) (by unfold Tr.bd; split <;> omega) hu
          rw [Int.ofNat_sub hc.1] at hih
          obtain ⟨hc3, hc4⟩ := hc
          cases h1 : (kk == 1) with
          | true =>
            have hbd : Tr.bd kk j = 1 := by unfold Tr.bd; rw [if_pos (.inl (by simpa using h1))]
            rw [hbd] at hih hX hst
            clear hbd
            replace hih := Lib.hid hih
            replace hX := hX
            generalize ctAt (Tr.kid t j) (n + 1) (i - Tr.off t j) = X at *
            generalize Tr.enc (Tr.kid t j) = KT at *
            skip
            generalize Tr.off t j = oj at *
            generalize ML j = Y at *
            have hq0 : (0 : Int) ≤ (oj : Int) := by omega
            have hq1 : (oj : Int) ≤ (oj : Int) + (KT.length : Int) := by omega
            have hq2 : (oj : Int) + (KT.length : Int) ≤ (c : Int) := by omega
            have hd1 : decide ((oj : Int) ≤ (i : Int)) = true := by simp; omega
            have hd2 : decide ((i : Int) < (oj : Int) + (KT.length : Int)) = true := by simp; omega
            go_wp2_with fail
            refine (HPT.out _).mono ?_
            rintro e w2 ⟨rfl, hg2⟩
            rw [hpv]
            have hB2 := hB.trans hg2
            go_wp2_with fail
            refine (hEn.out _ hB2).mono ?_
            rintro e w3 ⟨rfl, hg3⟩
            have hk3 := hg2.trans hg3
            have hB3 := hB.trans hk3
            have hO3 := hO.grew hk3
            have S3 := Lib.hid (hSu.out _ hB3)
            go_wp2_with fail
            refine (hih.out _ S3.out).mono ?_
            rintro e w4 ⟨q, rfl, hq, hg4⟩
            have hO4 := hO3.grew hg4
            have hB4 := hB3.trans hg4
            go_wp2_with (first | (at_builtin; refine wpList_appT (w0 := w) _ _ rfl rfl _ Y rfl hO4 hB4 _ X rfl hq.tms (by omega) ?_; intro v5 w5 hown5 hg5 hgr5))
            go_roundw
            case rel => exact ⟨j + 1, by omega, by go_num, by rw [HL2.out]; go_num, hg5, by rw [hst.out]; exact hown5⟩
            case measure => simp [intOf]; omega
          | false =>
            have n1 : kk ≠ 1 := by simpa using h1
            cases h8 : (kk == 8) with
            | true =>
              have e8 : kk = 8 := by simpa using h8
              by_cases hj0 : 0 < j
              · have hbd : Tr.bd kk j = 1 := by unfold Tr.bd; rw [if_pos (.inr ⟨e8, hj0⟩)]
                have hj0' : decide ((0 : Int) < (j : Int)) = true := by simp; omega
                clear e8 n1
                rw [hbd] at hih hX hst
                clear hbd
                replace hih := Lib.hid hih
                replace hX := hX
                generalize ctAt (Tr.kid t j) (n + 1) (i - Tr.off t j) = X at *
                generalize Tr.enc (Tr.kid t j) = KT at *
                skip
                generalize Tr.off t j = oj at *
                generalize ML j = Y at *
                have hq0 : (0 : Int) ≤ (oj : Int) := by omega
                have hq1 : (oj : Int) ≤ (oj : Int) + (KT.length : Int) := by omega
                have hq2 : (oj : Int) + (KT.length : Int) ≤ (c : Int) := by omega
                have hd1 : decide ((oj : Int) ≤ (i : Int)) = true := by simp; omega
                have hd2 : decide ((i : Int) < (oj : Int) + (KT.length : Int)) = true := by simp; omega
                go_wp2_with fail
                refine (HPT.out _).mono ?_
                rintro e w2 ⟨rfl, hg2⟩
                rw [hpv]
                have hB2 := hB.trans hg2
                go_wp2_with fail
                refine (hEn.out _ hB2).mono ?_
                rintro e w3 ⟨rfl, hg3⟩
                have hk3 := hg2.trans hg3
                have hB3 := hB.trans hk3
                have hO3 := hO.grew hk3
                have S3 := Lib.hid (hSu.out _ hB3)
                go_wp2_with fail
                refine (hih.out _ S3.out).mono ?_
                rintro e w4 ⟨q, rfl, hq, hg4⟩
                have hO4 := hO3.grew hg4
                have hB4 := hB3.trans hg4
                go_wp2_with (first | (at_builtin; refine wpList_appT (w0 := w) _ _ rfl rfl _ Y rfl hO4 hB4 _ X rfl hq.tms (by omega) ?_; intro v5 w5 hown5 hg5 hgr5))
                go_roundw
                case rel => exact ⟨j + 1, by omega, by go_num, by rw [HL2.out]; go_num, hg5, by rw [hst.out]; exact hown5⟩
                case measure => simp [intOf]; omega
              · have hbd : Tr.bd kk j = 0 := by unfold Tr.bd; rw [if_neg (by omega)]
                have hj0' : decide ((0 : Int) < (j : Int)) = false := by simp; omega
                clear e8 n1
                rw [hbd, Int.add_zero] at hih hX hst
                clear hbd
                replace hih := Lib.hid hih
                replace hX := hX
                generalize ctAt (Tr.kid t j) (n) (i - Tr.off t j) = X at *
                generalize Tr.enc (Tr.kid t j) = KT at *
                skip
                generalize Tr.off t j = oj at *
                generalize ML j = Y at *
                have hq0 : (0 : Int) ≤ (oj : Int) := by omega
                have hq1 : (oj : Int) ≤ (oj : Int) + (KT.length : Int) := by omega
                have hq2 : (oj : Int) + (KT.length : Int) ≤ (c : Int) := by omega
                have hd1 : decide ((oj : Int) ≤ (i : Int)) = true := by simp; omega
                have hd2 : decide ((i : Int) < (oj : Int) + (KT.length : Int)) = true := by simp; omega
                go_wp2_with fail
                refine (HPT.out _).mono ?_
                rintro e w2 ⟨rfl, hg2⟩
                rw [hpv]
                have hB2 := hB.trans hg2
                go_wp2_with fail
                refine (hEn.out _ hB2).mono ?_
                rintro e w3 ⟨rfl, hg3⟩
                have hk3 := hg2.trans hg3
                have hB3 := hB.trans hk3
                have hO3 := hO.grew hk3
                have S3 := Lib.hid (hSu.out _ hB3)
                go_wp2_with fail
                refine (hih.out _ S3.out).mono ?_
                rintro e w4 ⟨q, rfl, hq, hg4⟩
                have hO4 := hO3.grew hg4
                have hB4 := hB3.trans hg4
                go_wp2_with (first | (at_builtin; refine wpList_appT (w0 := w) _ _ rfl rfl _ Y rfl hO4 hB4 _ X rfl hq.tms (by omega) ?_; intro v5 w5 hown5 hg5 hgr5))
                go_roundw
                case rel => exact ⟨j + 1, by omega, by go_num, by rw [HL2.out]; go_num, hg5, by rw [hst.out]; exact hown5⟩
                case measure => simp [intOf]; omega
            | false =>
              have n8 : kk ≠ 8 := by simpa using h8
              have hbd : Tr.bd kk j = 0 := by unfold Tr.bd; rw [if_neg (by omega)]
              clear n8 n1
              rw [hbd, Int.add_zero] at hih hX hst
              clear hbd
              replace hih := Lib.hid hih
              replace hX := hX
              generalize ctAt (Tr.kid t j) (n) (i - Tr.off t j) = X at *
              generalize Tr.enc (Tr.kid t j) = KT at *
              skip
              generalize Tr.off t j = oj at *
              generalize ML j = Y at *
              have hq0 : (0 : Int) ≤ (oj : Int) := by omega
              have hq1 : (oj : Int) ≤ (oj : Int) + (KT.length : Int) := by omega
              have hq2 : (oj : Int) + (KT.length : Int) ≤ (c : Int) := by omega
              have hd1 : decide ((oj : Int) ≤ (i : Int)) = true := by simp; omega
              have hd2 : decide ((i : Int) < (oj : Int) + (KT.length : Int)) = true := by simp; omega
              go_wp2_with fail
              refine (HPT.out _).mono ?_
              rintro e w2 ⟨rfl, hg2⟩
              rw [hpv]
              have hB2 := hB.trans hg2
              go_wp2_with fail
              refine (hEn.out _ hB2).mono ?_
              rintro e w3 ⟨rfl, hg3⟩
              have hk3 := hg2.trans hg3
              have hB3 := hB.trans hk3
              have hO3 := hO.grew hk3
              have S3 := Lib.hid (hSu.out _ hB3)
              go_wp2_with fail
              refine (hih.out _ S3.out).mono ?_
              rintro e w4 ⟨q, rfl, hq, hg4⟩
              have hO4 := hO3.grew hg4
              have hB4 := hB3.trans hg4
              go_wp2_with (first | (at_builtin; refine wpList_appT (w0 := w) _ _ rfl rfl _ Y rfl hO4 hB4 _ X rfl hq.tms (by omega) ?_; intro v5 w5 hown5 hg5 hgr5))
              go_roundw
              case rel => exact ⟨j + 1, by omega, by go_num, by rw [HL2.out]; go_num, hg5, by rw [hst.out]; exact hown5⟩
              case measure => simp [intOf]; omega
        · rw [HP2.out j hc] at hst
          by_cases hc3 : Tr.off t j ≤ i
          · have hc4 : Tr.off t j + (Tr.enc (Tr.kid t j)).length ≤ i := by omega
            cases h1 : (kk == 1) with
            | true =>
              have hbd : Tr.bd kk j = 1 := by unfold Tr.bd; rw [if_pos (.inl (by simpa using h1))]
              clear hbd
              generalize Tr.enc (Tr.kid t j) = KT at *
              generalize Tr.off t j = oj at *
              generalize ML j = Y at *
              have hq0 : (0 : Int) ≤ (oj : Int) := by omega
              have hq1 : (oj : Int) ≤ (oj : Int) + (KT.length : Int) := by omega
              have hq2 : (oj : Int) + (KT.length : Int) ≤ (c : Int) := by omega
              have hd1 : decide ((oj : Int) ≤ (i : Int)) = true := by simp; omega
              have hd2 : decide ((i : Int) < (oj : Int) + (KT.length : Int)) = false := by simp; omega
              go_wp2_with fail
              refine (HPT.out _).mono ?_
              rintro e w2 ⟨rfl, hg2⟩
              rw [hpv]
              have hB2 := hB.trans hg2
              go_wp2_with fail
              refine (hEn.out _ hB2).mono ?_
              rintro e w3 ⟨rfl, hg3⟩
              have hk3 := hg2.trans hg3
              have hB3 := hB.trans hk3
              have hO3 := hO.grew hk3
              have S3 := Lib.hid (by have hS := hSu.out _ hB3; rw [show KT.length = oj + KT.length - oj by omega] at hS; exact hS)
              go_wp2_with (first | (at_builtin; refine wpList_appT (w0 := w) _ _ rfl rfl _ Y rfl hO3 hB3 _ KT rfl S3.out (by omega) ?_; intro v5 w5 hown5 hg5 hgr5))
              go_roundw
              case rel => exact ⟨j + 1, by omega, by go_num, by rw [HL2.out]; go_num, hg5, by rw [hst.out]; exact hown5⟩
              case measure => simp [intOf]; omega
            | false =>
              have n1 : kk ≠ 1 := by simpa using h1
              cases h8 : (kk == 8) with
              | true =>
                have e8 : kk = 8 := by simpa using h8
                by_cases hj0 : 0 < j
                · have hbd : Tr.bd kk j = 1 := by unfold Tr.bd; rw [if_pos (.inr ⟨e8, hj0⟩)]
                  have hj0' : decide ((0 : Int) < (j : Int)) = true := by simp; omega
                  clear e8 n1
                  clear hbd
                  generalize Tr.enc (Tr.kid t j) = KT at *
                  generalize Tr.off t j = oj at *
                  generalize ML j = Y at *
                  have hq0 : (0 : Int) ≤ (oj : Int) := by omega
                  have hq1 : (oj : Int) ≤ (oj : Int) + (KT.length : Int) := by omega
                  have hq2 : (oj : Int) + (KT.length : Int) ≤ (c : Int) := by omega
                  have hd1 : decide ((oj : Int) ≤ (i : Int)) = true := by simp; omega
                  have hd2 : decide ((i : Int) < (oj : Int) + (KT.length : Int)) = false := by simp; omega
                  go_wp2_with fail
                  refine (HPT.out _).mono ?_
                  rintro e w2 ⟨rfl, hg2⟩
                  rw [hpv]
                  have hB2 := hB.trans hg2
                  go_wp2_with fail
                  refine (hEn.out _ hB2).mono ?_
                  rintro e w3 ⟨rfl, hg3⟩
                  have hk3 := hg2.trans hg3
                  have hB3 := hB.trans hk3
                  have hO3 := hO.grew hk3
                  have S3 := Lib.hid (by have hS := hSu.out _ hB3; rw [show KT.length = oj + KT.length - oj by omega] at hS; exact hS)
                  go_wp2_with (first | (at_builtin; refine wpList_appT (w0 := w) _ _ rfl rfl _ Y rfl hO3 hB3 _ KT rfl S3.out (by omega) ?_; intro v5 w5 hown5 hg5 hgr5))
                  go_roundw
                  case rel => exact ⟨j + 1, by omega, by go_num, by rw [HL2.out]; go_num, hg5, by rw [hst.out]; exact hown5⟩
                  case measure => simp [intOf]; omega
                · have hbd : Tr.bd kk j = 0 := by unfold Tr.bd; rw [if_neg (by omega)]
                  have hj0' : decide ((0 : Int) < (j : Int)) = false := by simp; omega
                  clear e8 n1
                  clear hbd
                  generalize Tr.enc (Tr.kid t j) = KT at *
                  generalize Tr.off t j = oj at *
                  generalize ML j = Y at *
                  have hq0 : (0 : Int) ≤ (oj : Int) := by omega
                  have hq1 : (oj : Int) ≤ (oj : Int) + (KT.length : Int) := by omega
                  have hq2 : (oj : Int) + (KT.length : Int) ≤ (c : Int) := by omega
                  have hd1 : decide ((oj : Int) ≤ (i : Int)) = true := by simp; omega
                  have hd2 : decide ((i : Int) < (oj : Int) + (KT.length : Int)) = false := by simp; omega
                  go_wp2_with fail
                  refine (HPT.out _).mono ?_
                  rintro e w2 ⟨rfl, hg2⟩
                  rw [hpv]
                  have hB2 := hB.trans hg2
                  go_wp2_with fail
                  refine (hEn.out _ hB2).mono ?_
                  rintro e w3 ⟨rfl, hg3⟩
                  have hk3 := hg2.trans hg3
                  have hB3 := hB.trans hk3
                  have hO3 := hO.grew hk3
                  have S3 := Lib.hid (by have hS := hSu.out _ hB3; rw [show KT.length = oj + KT.length - oj by omega] at hS; exact hS)
                  go_wp2_with (first | (at_builtin; refine wpList_appT (w0 := w) _ _ rfl rfl _ Y rfl hO3 hB3 _ KT rfl S3.out (by omega) ?_; intro v5 w5 hown5 hg5 hgr5))
                  go_roundw
                  case rel => exact ⟨j + 1, by omega, by go_num, by rw [HL2.out]; go_num, hg5, by rw [hst.out]; exact hown5⟩
                  case measure => simp [intOf]; omega
              | false =>
                have n8 : kk ≠ 8 := by simpa using h8
                have hbd : Tr.bd kk j = 0 := by unfold Tr.bd; rw [if_neg (by omega)]
                clear n8 n1
                clear hbd
                generalize Tr.enc (Tr.kid t j) = KT at *
                generalize Tr.off t j = oj at *
                generalize ML j = Y at *
                have hq0 : (0 : Int) ≤ (oj : Int) := by omega
                have hq1 : (oj : Int) ≤ (oj : Int) + (KT.length : Int) := by omega
                have hq2 : (oj : Int) + (KT.length : Int) ≤ (c : Int) := by omega
                have hd1 : decide ((oj : Int) ≤ (i : Int)) = true := by simp; omega
                have hd2 : decide ((i : Int) < (oj : Int) + (KT.length : Int)) = false := by simp; omega
                go_wp2_with fail
                refine (HPT.out _).mono ?_
                rintro e w2 ⟨rfl, hg2⟩
                rw [hpv]
                have hB2 := hB.trans hg2
                go_wp2_with fail
                refine (hEn.out _ hB2).mono ?_
                rintro e w3 ⟨rfl, hg3⟩
                have hk3 := hg2.trans hg3
                have hB3 := hB.trans hk3
                have hO3 := hO.grew hk3
                have S3 := Lib.hid (by have hS := hSu.out _ hB3; rw [show KT.length = oj + KT.length - oj by omega] at hS; exact hS)
                go_wp2_with (first | (at_builtin; refine wpList_appT (w0 := w) _ _ rfl rfl _ Y rfl hO3 hB3 _ KT rfl S3.out (by omega) ?_; intro v5 w5 hown5 hg5 hgr5))
                go_roundw
                case rel => exact ⟨j + 1, by omega, by go_num, by rw [HL2.out]; go_num, hg5, by rw [hst.out]; exact hown5⟩
                case measure => simp [intOf]; omega
          · skip
            cases h1 : (kk == 1) with
            | true =>
              have hbd : Tr.bd kk j = 1 := by unfold Tr.bd; rw [if_pos (.inl (by simpa using h1))]
              clear hbd
              generalize Tr.enc (Tr.kid t j) = KT at *
              generalize Tr.off t j = oj at *
              generalize ML j = Y at *
              have hq0 : (0 : Int) ≤ (oj : Int) := by omega
              have hq1 : (oj : Int) ≤ (oj : Int) + (KT.length : Int) := by omega
              have hq2 : (oj : Int) + (KT.length : Int) ≤ (c : Int) := by omega
              have hd1 : decide ((oj : Int) ≤ (i : Int)) = false := by simp; omega
              go_wp2_with fail
              refine (HPT.out _).mono ?_
              rintro e w2 ⟨rfl, hg2⟩
              rw [hpv]
              have hB2 := hB.trans hg2
              go_wp2_with fail
              refine (hEn.out _ hB2).mono ?_
              rintro e w3 ⟨rfl, hg3⟩
              have hk3 := hg2.trans hg3
              have hB3 := hB.trans hk3
              have hO3 := hO.grew hk3
              have S3 := Lib.hid (by have hS := hSu.out _ hB3; rw [show KT.length = oj + KT.length - oj by omega] at hS; exact hS)
              go_wp2_with (first | (at_builtin; refine wpList_appT (w0 := w) _ _ rfl rfl _ Y rfl hO3 hB3 _ KT rfl S3.out (by omega) ?_; intro v5 w5 hown5 hg5 hgr5))
              go_roundw
              case rel => exact ⟨j + 1, by omega, by go_num, by rw [HL2.out]; go_num, hg5, by rw [hst.out]; exact hown5⟩
              case measure => simp [intOf]; omega
            | false =>
              have n1 : kk ≠ 1 := by simpa using h1
              cases h8 : (kk == 8) with
              | true =>
                have e8 : kk = 8 := by simpa using h8
                by_cases hj0 : 0 < j
                · have hbd : Tr.bd kk j = 1 := by unfold Tr.bd; rw [if_pos (.inr ⟨e8, hj0⟩)]
                  have hj0' : decide ((0 : Int) < (j : Int)) = true := by simp; omega
                  clear e8 n1
                  clear hbd
                  generalize Tr.enc (Tr.kid t j) = KT at *
                  generalize Tr.off t j = oj at *
                  generalize ML j = Y at *
                  have hq0 : (0 : Int) ≤ (oj : Int) := by omega
                  have hq1 : (oj : Int) ≤ (oj : Int) + (KT.length : Int) := by omega
                  have hq2 : (oj : Int) + (KT.length : Int) ≤ (c : Int) := by omega
                  have hd1 : decide ((oj : Int) ≤ (i : Int)) = false := by simp; omega
                  go_wp2_with fail
                  refine (HPT.out _).mono ?_
                  rintro e w2 ⟨rfl, hg2⟩
                  rw [hpv]
                  have hB2 := hB.trans hg2
                  go_wp2_with fail
                  refine (hEn.out _ hB2).mono ?_
                  rintro e w3 ⟨rfl, hg3⟩
                  have hk3 := hg2.trans hg3
                  have hB3 := hB.trans hk3
                  have hO3 := hO.grew hk3
                  have S3 := Lib.hid (by have hS := hSu.out _ hB3; rw [show KT.length = oj + KT.length - oj by omega] at hS; exact hS)
                  go_wp2_with (first | (at_builtin; refine wpList_appT (w0 := w) _ _ rfl rfl _ Y rfl hO3 hB3 _ KT rfl S3.out (by omega) ?_; intro v5 w5 hown5 hg5 hgr5))
                  go_roundw
                  case rel => exact ⟨j + 1, by omega, by go_num, by rw [HL2.out]; go_num, hg5, by rw [hst.out]; exact hown5⟩
                  case measure => simp [intOf]; omega
                · have hbd : Tr.bd kk j = 0 := by unfold Tr.bd; rw [if_neg (by omega)]
                  have hj0' : decide ((0 : Int) < (j : Int)) = false := by simp; omega
                  clear e8 n1
                  clear hbd
                  generalize Tr.enc (Tr.kid t j) = KT at *
                  generalize Tr.off t j = oj at *
                  generalize ML j = Y at *
                  have hq0 : (0 : Int) ≤ (oj : Int) := by omega
                  have hq1 : (oj : Int) ≤ (oj : Int) + (KT.length : Int) := by omega
                  have hq2 : (oj : Int) + (KT.length : Int) ≤ (c : Int) := by omega
                  have hd1 : decide ((oj : Int) ≤ (i : Int)) = false := by simp; omega
                  go_wp2_with fail
                  refine (HPT.out _).mono ?_
                  rintro e w2 ⟨rfl, hg2⟩
                  rw [hpv]
                  have hB2 := hB.trans hg2
                  go_wp2_with fail
                  refine (hEn.out _ hB2).mono ?_
                  rintro e w3 ⟨rfl, hg3⟩
                  have hk3 := hg2.trans hg3
                  have hB3 := hB.trans hk3
                  have hO3 := hO.grew hk3
                  have S3 := Lib.hid (by have hS := hSu.out _ hB3; rw [show KT.length = oj + KT.length - oj by omega] at hS; exact hS)
                  go_wp2_with (first | (at_builtin; refine wpList_appT (w0 := w) _ _ rfl rfl _ Y rfl hO3 hB3 _ KT rfl S3.out (by omega) ?_; intro v5 w5 hown5 hg5 hgr5))
                  go_roundw
                  case rel => exact ⟨j + 1, by omega, by go_num, by rw [HL2.out]; go_num, hg5, by rw [hst.out]; exact hown5⟩
                  case measure => simp [intOf]; omega
              | false =>
                have n8 : kk ≠ 8 := by simpa using h8
                have hbd : Tr.bd kk j = 0 := by unfold Tr.bd; rw [if_neg (by omega)]
                clear n8 n1
                clear hbd
                generalize Tr.enc (Tr.kid t j) = KT at *
                generalize Tr.off t j = oj at *
                generalize ML j = Y at *
                have hq0 : (0 : Int) ≤ (oj : Int) := by omega
                have hq1 : (oj : Int) ≤ (oj : Int) + (KT.length : Int) := by omega
                have hq2 : (oj : Int) + (KT.length : Int) ≤ (c : Int) := by omega
                have hd1 : decide ((oj : Int) ≤ (i : Int)) = false := by simp; omega
                go_wp2_with fail
                refine (HPT.out _).mono ?_
                rintro e w2 ⟨rfl, hg2⟩
                rw [hpv]
                have hB2 := hB.trans hg2
                go_wp2_with fail
                refine (hEn.out _ hB2).mono ?_
                rintro e w3 ⟨rfl, hg3⟩
                have hk3 := hg2.trans hg3
                have hB3 := hB.trans hk3
                have hO3 := hO.grew hk3
                have S3 := Lib.hid (by have hS := hSu.out _ hB3; rw [show KT.length = oj + KT.length - oj by omega] at hS; exact hS)
                go_wp2_with (first | (at_builtin; refine wpList_appT (w0 := w) _ _ rfl rfl _ Y rfl hO3 hB3 _ KT rfl S3.out (by omega) ?_; intro v5 w5 hown5 hg5 hgr5))
                go_roundw
                case rel => exact ⟨j + 1, by omega, by go_num, by rw [HL2.out]; go_num, hg5, by rw [hst.out]; exact hown5⟩
                case measure => simp [intOf]; omega
      · obtain rfl : j = m := by omega
        go_wp2_with fail
        refine (HPT.out _).mono ?_
        rintro e w2 ⟨rfl, hg2⟩
        rw [hpv]
        go_wp2_with fail
        go_ret
        exact ⟨_, rfl, hO.grew hg2, hB.trans hg2⟩
end Go.Proofs.YtfpkfgimhanekaaGreat

/- The type of a term is a formula of the size of a text. No program is in sight. -/
namespace Go.Proofs.YtfpkfgimhanekaaGreat
open Go.RowKit
open Tr (Tm)

theorem goodN_text {x : Tn} (h : GoodN x) (hk : typedB x.1 = true) (h0 : x.1 ≠ 0) : gp x.2.2 = true := by
  unfold GoodN tnB at h
  have h0' : (x.1 == 0) = false := by simpa using h0
  rw [h0', if_neg (by simp), hk, if_pos rfl] at h
  simp only [Bool.and_eq_true] at h
  exact h.2
theorem ty1_ok {k : Int} {A a B : Fm.Tree} (hA : (k = 6 ∨ k = 7 ∨ k = 9) → FmOk A) (hk : k = 4 ∨ k = 5 ∨ k = 6 ∨ k = 7 ∨ k = 9) (ha : FmOk a) (h : ty1 k A a = some B) : FmOk B := by
  unfold ty1 at h
  rcases hk with rfl | rfl | rfl | rfl | rfl
  · simp only [if_pos] at h
    cases a <;> simp at h
    subst h; exact (fmOk_and ha).1
  · rw [if_neg (by decide), if_pos rfl] at h
    cases a <;> simp at h
    subst h; exact (fmOk_and ha).2
  · rw [if_neg (by decide), if_neg (by decide), if_pos rfl] at h
    exact small_or ha (hA (by simp)) h
  · rw [if_neg (by decide), if_neg (by decide), if_neg (by decide), if_pos rfl] at h
    exact small_or (hA (by simp)) ha h
  · rw [if_neg (by decide), if_neg (by decide), if_neg (by decide), if_neg (by decide)] at h
    cases a <;> simp at h
    subst h; exact hA (by simp)
theorem ty2_ok {k : Int} {F U B : Fm.Tree} (hF : FmOk F) (hU : FmOk U) (h : ty2 k F U = some B) : FmOk B := by
  unfold ty2 at h
  split at h
  · exact small_and hF hU h
  · cases F with
    | imp p q =>
      simp only at h
      split at h
      · simp at h; subst h; exact (fmOk_imp hF).2
      · cases h
    | _ => cases h
theorem ty_ok : ∀ t : Tm, Good t → ∀ (G : List Fm.Tree) (B : Fm.Tree), (∀ A ∈ G, FmOk A) → ty G t = some B → FmOk B := by
  intro t
  induction t with
  | t0 x =>
    intro _ G B hG h
    exact hG _ (List.mem_of_getElem? h)
  | t1 x a ha =>
    intro hg G B hG h
    have hk := ar_one hg.1.1
    have hx : (x.1 = 1 ∨ x.1 = 6 ∨ x.1 = 7 ∨ x.1 = 9) → FmOk (fo x.2.2) := fun hh => (fo_ok (goodN_text hg.1.2 (by rcases hh with e | e | e | e <;> rw [e] <;> decide) (by omega))).1
    unfold ty at h
    by_cases h1 : x.1 = 1
    · rw [if_pos h1] at h
      split at h
      · unfold tyLam at h
        rw [Option.bind_eq_some_iff] at h
        obtain ⟨C, hC, h⟩ := h
        have hC2 := ha hg.2 _ _ (fun A hA => by
          rw [List.mem_append] at hA
          rcases hA with hA | hA
          · exact hG A hA
          · simp at hA; subst hA; exact hx (.inl h1)) hC
        exact small_imp (hx (.inl h1)) hC2 h
      · cases h
    · rw [if_neg h1] at h
      rw [Option.bind_eq_some_iff] at h
      obtain ⟨C, hC, h⟩ := h
      exact ty1_ok (fun hh => hx (.inr hh)) (by omega) (ha hg.2 G C hG hC) h
  | t2 x f u hf hu =>
    intro hg G B hG h
    unfold ty at h
    rw [Option.bind_eq_some_iff] at h
    obtain ⟨F, hF, h⟩ := h
    rw [Option.bind_eq_some_iff] at h
    obtain ⟨U, hU, h⟩ := h
    exact ty2_ok (hf hg.2.1 G F hG hF) (hu hg.2.2 G U hG hU) h
  | t3 x c a b hc ha hb =>
    intro hg G B hG h
    unfold ty at h
    rw [Option.bind_eq_some_iff] at h
    obtain ⟨C, hC, h⟩ := h
    have hC2 := hc hg.2.1 G C hG hC
    cases C with
    | or p q =>
      simp only at h
      split at h
      · rw [Option.bind_eq_some_iff] at h
        obtain ⟨R, hR, h⟩ := h
        rw [Option.bind_eq_some_iff] at h
        obtain ⟨S, hS, h⟩ := h
        have hR2 := ha hg.2.2.1 _ R (fun A hA => by
          rw [List.mem_append] at hA
          rcases hA with hA | hA
          · exact hG A hA
          · simp at hA; subst hA; exact (fmOk_or hC2).1) hR
        split at h
        · simp at h; subst h; exact hR2
        · cases h
      · cases h
    | _ => cases h
/-- The text of a type, or the empty text. -/
noncomputable def otx : Option Fm.Tree → ByteArray
  | some A => tx A
  | none => ByteArray.empty
end Go.Proofs.YtfpkfgimhanekaaGreat

/- Formulas of two parts. -/
namespace Go.Proofs.YtfpkfgimhanekaaGreat
open Go.RowKit

/-- The formula has two parts. -/
def TwoF (A p q : Fm.Tree) : Prop := Fm.enc A = (kindOf A, 0) :: (Fm.enc p ++ Fm.enc q)
theorem TwoF.len {A p q : Fm.Tree} (h : TwoF A p q) : (Fm.enc A).length = 1 + (Fm.enc p).length + (Fm.enc q).length := by rw [h]; simp; omega
end Go.Proofs.YtfpkfgimhanekaaGreat

/- The parts of a formula by their texts: l25Parts of the reference. -/
namespace Go.Proofs.YtfpkfgimhanekaaGreat
open Go.RowKit

theorem l25Parts_yes (k : Int) (A p q : Fm.Tree) (w : World) (hA : FmOk A) (hk : kindOf A = k) (h2 : TwoF A p q) :
    Calls Tryz.prog 86 #[.string (tx A), .int .i64 k] w fun e w' => e = .returned (.tuple #[.string (tx p), .string (tx q), .bool true]) ∧ Grew w w' := by
  have KA := fun w => l25Formula_c (tx A) w (by have := tx_size hA.1; omega)
  unfold GivesP at KA
  rw [gp_tx hA, tx_pf hA.1] at KA
  replace KA := Lib.hid KA
  have hl := h2.len
  have hA1 := hA.1
  have KL := Lib.hid (fun v w h => l02Left_c v (Fm.enc A) p w h (by omega) (at_first h2))
  have KR := Lib.hid (fun v w h => l02Right_c v (Fm.enc A) p q w h (by omega) (at_first h2) (at_second h2) hl)
  have KP := Lib.hid (fun v w h => l02Text_c p v w h (by omega))
  have KQ := Lib.hid (fun v w h => l02Text_c q v w h (by omega))
  have e1 : bs (Fm.txt p 0) = tx p := rfl
  have e2 : bs (Fm.txt q 0) = tx q := rfl
  unfold Says at KP KQ
  rw [e1] at KP
  rw [e2] at KQ
  clear e1 e2 hl
  go_enter Tryz.func86, Tryz.ntmps86
  go_wp2_with fail
  refine (KA.out _).mono ?_
  rintro e w1 ⟨v1, rfl, ho1, hg1⟩
  have HA1 := Lib.hid ho1.nodes
  obtain ⟨b1, o1, c1, rfl, hc1, hm1, k1⟩ := nodes_head ho1.nodes
  rw [hk] at k1
  clear ho1
  have r1 := Grew.refl w1
  have d1 := r1.drew
  have hpos := Fm.enc_pos A
  go_wp2_with fail
  refine (KL.out _ _ HA1.out).mono ?_
  rintro e w2 ⟨v2, rfl, hn2, hg2⟩
  have H2 := Lib.hid hn2
  obtain ⟨A2, c2, rfl⟩ := nodes_slice hn2
  clear hn2
  go_wp2_with fail
  refine (KP.out _ _ H2.out).mono ?_
  rintro e w3 ⟨rfl, hg3⟩
  have g13 := hg2.trans hg3
  go_wp2_with fail
  refine (KR.out _ _ (HA1.out.grew g13)).mono ?_
  rintro e w4 ⟨v4, rfl, hn4, hg4⟩
  have H4 := Lib.hid hn4
  obtain ⟨A4, c4, rfl⟩ := nodes_slice hn4
  clear hn4
  go_wp2_with fail
  refine (KQ.out _ _ H4.out).mono ?_
  rintro e w5 ⟨rfl, hg5⟩
  go_wp2_with fail
  go_ret3
  exact ⟨rfl, ((hg1.trans g13).trans hg4).trans hg5⟩

theorem l25Parts_no (k : Int) (A : Fm.Tree) (w : World) (hA : FmOk A) (hk : kindOf A ≠ k) :
    Calls Tryz.prog 86 #[.string (tx A), .int .i64 k] w fun e w' => e = .returned (.tuple #[.string ByteArray.empty, .string ByteArray.empty, .bool false]) ∧ Grew w w' := by
  have KA := fun w => l25Formula_c (tx A) w (by have := tx_size hA.1; omega)
  unfold GivesP at KA
  rw [gp_tx hA, tx_pf hA.1] at KA
  replace KA := Lib.hid KA
  have hA1 := hA.1
  have hkk : (kindOf A != k) = true := by simpa using hk
  go_enter Tryz.func86, Tryz.ntmps86
  go_wp2_with fail
  refine (KA.out _).mono ?_
  rintro e w1 ⟨v1, rfl, ho1, hg1⟩
  have HA1 := Lib.hid ho1.nodes
  obtain ⟨b1, o1, c1, rfl, hc1, hm1, k1⟩ := nodes_head ho1.nodes
  clear ho1
  have r1 := Grew.refl w1
  have d1 := r1.drew
  have hpos := Fm.enc_pos A
  generalize kindOf A = kk at *
  go_wp2_with fail
  go_ret3
  exact ⟨rfl, hg1⟩
end Go.Proofs.YtfpkfgimhanekaaGreat

/- The parts of a formula: parts, partTexts of the program. -/
namespace Go.Proofs.YtfpkfgimhanekaaGreat
open Go.RowKit

/-- 'out = append(out, s)', out a row of strings of the call's own. -/
theorem wpList_appStr {ops : Array Oper} {rest : List Oper} {o : Oper} {a : Act} {Q : Exit → Act → World → Prop} {w w0 : World} (s x : Operand) (hgd : o.guard = none)
    (ho : o.op = .call { callee := .builtin .append, args := #[s, x], argTypes := #[34, 34] })
    (v : Value) (L : List ByteArray) (hs : a.eval s = v) (hown : OwnS w w0.heap.size v L) (hg : Grew w0 w) (vx : Value) (k : ByteArray) (hx : a.eval x = vx) (hr : Rd w 1 vx 1 [.string k]) (hn : L.length ≤ 1048576)
    (h : ∀ v' w', OwnS w' w0.heap.size v' (L ++ [k]) → Grew w0 w' → w.grownBy w' v.ownBlock → wpList Tryz.prog ops Q rest (a.put o.dst v') w') : wpList Tryz.prog ops Q (o :: rest) a w := by
  obtain ⟨i0, hi0, hz0, hz1, hz2⟩ := info_parts Tryz.infoStr
  refine wpList_append_rd w hgd s x _ ho w0.heap.size 9 i0 _ 1 16 Tryz.underlying34 hi0 hz0 hz1 hz2 rfl (by omega) v L.length (scells L) hs hown vx 1 [.string k] hx hr (by simp [Value.oneCell']) (by unfold maxLen; omega) (by omega) hg.size ?_
  intro v' w' h1 h2 h3
  refine h v' w' ?_ (hg.grown h2 fun k hk => (hown.lt k hk).1) h2
  unfold OwnS
  rw [List.length_append, scells_append]
  exact h1

/-- A slice of two slices that read as the two parts. -/
def Two (w : World) (v : Value) (p q : Fm.Tree) : Prop := ∃ g u1 u2, v = .slice (some ⟨g, 0, none⟩) 2 2 ∧ (∀ W, Grew w W → W.cell? ⟨g, 0, none⟩ = some u1) ∧ (∀ W, Grew w W → W.cell? ⟨g, 1, none⟩ = some u2) ∧ Nodes w u1 (Fm.enc p) ∧ Nodes w u2 (Fm.enc q)

theorem parts_two (v : Value) (A p q : Fm.Tree) (w : World) (h : Nodes w v (Fm.enc A)) (hl : (Fm.enc A).length ≤ 40) (h2 : TwoF A p q) (hk : kindOf A = 2 ∨ kindOf A = 3 ∨ kindOf A = 4) :
    Calls Tryz.prog 134 #[v] w fun e w' => ∃ u, e = .returned u ∧ Two w' u p q ∧ Grew w w' := by
  have HH := Lib.hid h
  obtain ⟨b, o, c, rfl, hc, hm, k0⟩ := nodes_head h
  have K1 := Lib.hid (fun W (hW : Grew w W) => first_c _ (Fm.enc A) p W (h.grew hW) (by omega) (at_first h2))
  have K2 := Lib.hid (fun W (hW : Grew w W) => second_c _ (Fm.enc A) p q W (h.grew hW) (by omega) (at_first h2) (at_second h2))
  have KO := Lib.hid (fun w => partsOf_c (kindOf A) w)
  have ha : (Fm.arity (kindOf A) : Int) = 2 := by unfold Fm.arity; rw [if_pos hk]; rfl
  rw [ha] at KO
  have r0 := Grew.refl w
  have hpos := Fm.enc_pos A
  clear h h2 hk ha HH
  generalize kindOf A = kk at *
  generalize (Fm.enc A).length = n at *
  go_enter Tryz.func134, Tryz.ntmps134
  go_wp2_with fail
  refine (KO.out _).mono ?_
  rintro e w1 ⟨rfl, hg1⟩
  go_wp2_with fail
  refine (K1.out _ hg1).mono ?_
  rintro e w2 ⟨u1, rfl, hn1, hg2⟩
  have H1 := Lib.hid hn1
  obtain ⟨A1, c1, rfl⟩ := nodes_slice hn1
  clear hn1
  have g2 := hg1.trans hg2
  go_wp2_with fail
  refine (K2.out _ g2).mono ?_
  rintro e w3 ⟨u2, rfl, hn2, hg3⟩
  have H2 := Lib.hid hn2
  obtain ⟨A2, c2, rfl⟩ := nodes_slice hn2
  clear hn2
  go_wp2_with fail
  go_ret
  have hal := (Grew.refl w3).alloc (.cells #[.slice A1 (Fm.enc p).length c1, .slice A2 (Fm.enc q).length c2] 66)
  exact ⟨_, rfl, ⟨w3.heap.size, _, _, rfl, fun W hW => (hW.cell (by simp)).trans (by simp), fun W hW => (hW.cell (by simp)).trans (by simp), (H1.out.grew hg3).grew hal, H2.out.grew hal⟩, (g2.trans hg3).trans hal⟩

theorem parts_none (v : Value) (A : Fm.Tree) (w : World) (h : Nodes w v (Fm.enc A)) (hk : kindOf A = 0 ∨ kindOf A = 1) :
    Calls Tryz.prog 134 #[v] w fun e w' => e = .returned (.slice none 0 0) ∧ Grew w w' := by
  obtain ⟨b, o, c, rfl, hc, hm, k0⟩ := nodes_head h
  have KO := Lib.hid (fun w => partsOf_c (kindOf A) w)
  have ha : (Fm.arity (kindOf A) : Int) = 0 := by unfold Fm.arity; rw [if_neg (by omega), if_neg (by omega)]; rfl
  rw [ha] at KO
  have r0 := Grew.refl w
  have hpos := Fm.enc_pos A
  clear h hk ha
  generalize kindOf A = kk at *
  generalize (Fm.enc A).length = n at *
  go_enter Tryz.func134, Tryz.ntmps134
  go_wp2_with fail
  refine (KO.out _).mono ?_
  rintro e w1 ⟨rfl, hg1⟩
  go_wp2_with fail
  go_ret
  exact ⟨rfl, hg1⟩

theorem partTexts_none (v : Value) (A : Fm.Tree) (w : World) (h : Nodes w v (Fm.enc A)) (hk : kindOf A = 0 ∨ kindOf A = 1) :
    Calls Tryz.prog 121 #[v] w fun e w' => e = .returned (.slice none 0 0) ∧ Grew w w' := by
  have KP := Lib.hid (parts_none v A w h hk)
  obtain ⟨b, o, c, rfl, hc, hm, k0⟩ := nodes_head h
  clear h hk k0
  generalize (Fm.enc A).length = n at *
  go_enter Tryz.func121, Tryz.ntmps121
  go_wp2_with fail
  refine KP.out.mono ?_
  rintro e w1 ⟨rfl, hg1⟩
  go_wp2_with fail
  refine wp_loop_rounds 1 ?_; rw [rounds_succ]
  go_wp2_with fail
  go_ret
  exact ⟨rfl, hg1⟩

theorem partTexts_two (v : Value) (A p q : Fm.Tree) (w : World) (h : Nodes w v (Fm.enc A)) (hl : (Fm.enc A).length ≤ 40) (h2 : TwoF A p q) (hk : kindOf A = 2 ∨ kindOf A = 3 ∨ kindOf A = 4) :
    Calls Tryz.prog 121 #[v] w (GivesS w [tx p, tx q]) := by
  have KP := Lib.hid (parts_two v A p q w h hl h2 hk)
  have hlen := h2.len
  have K1 := Lib.hid (fun v w h => text0_c p v w h (by omega))
  have K2 := Lib.hid (fun v w h => text0_c q v w h (by omega))
  have e1 : bs (Fm.txt p 0) = tx p := rfl
  have e2 : bs (Fm.txt q 0) = tx q := rfl
  unfold Says at K1 K2
  rw [e1] at K1
  rw [e2] at K2
  obtain ⟨b, o, c, rfl, hc, hm, k0⟩ := nodes_head h
  clear h h2 hk k0 e1 e2 hlen
  generalize (Fm.enc A).length = n at *
  generalize tx p = sp at *
  generalize tx q = sq at *
  go_enter Tryz.func121, Tryz.ntmps121
  go_wp2_with fail
  refine KP.out.mono ?_
  rintro e w1 ⟨u, rfl, ⟨g, u1, u2, rfl, c1, c2, hn1, hn2⟩, hg1⟩
  have H1 := Lib.hid hn1
  have H2 := Lib.hid hn2
  obtain ⟨A1, d1, rfl⟩ := nodes_slice hn1
  obtain ⟨A2, d2, rfl⟩ := nodes_slice hn2
  clear hn1 hn2
  have r1 := Grew.refl w1
  have HO1 := OwnS.nil_ w1 w.heap.size
  go_wp2_with fail
  refine wp_loop_rounds 3 ?_; rw [rounds_succ]
  go_wp2_with fail
  refine (K1.out _ _ H1.out).mono ?_
  rintro e w2 ⟨rfl, hg2⟩
  have hB2 := hg1.trans hg2
  have hO2 := HO1.grew (hg2.trans ((Grew.refl w2).alloc (.cells #[.string sp] 9)))
  go_wp2_with (first | (at_builtin; refine wpList_appStr (w0 := w) _ _ rfl rfl _ [] rfl hO2 (hB2.alloc _) _ sp rfl (rd_lit _ _ _) (by simp) ?_; intro v3 w3 hown3 hg3 hgr3))
  have g13 : Grew w1 w3 := (hg2.trans ((Grew.refl w2).alloc (.cells #[.string sp] 9))).trans (by
    have hg' : (w2.alloc (.cells #[.string sp] 9)).grownBy w3 none := hgr3
    exact ⟨hg'.os, hg'.tape, hg'.output, hg'.size, fun i hi => hg'.block i hi (by simp)⟩)
  clear HO1 hO2 hgr3 hB2
  rw [rounds_succ]
  go_wp2_with fail
  refine (K2.out _ _ (H2.out.grew g13)).mono ?_
  rintro e w4 ⟨rfl, hg4⟩
  have hB4 := hg3.trans hg4
  have hO4 := hown3.grew (hg4.trans ((Grew.refl w4).alloc (.cells #[.string sq] 9)))
  go_wp2_with (first | (at_builtin; refine wpList_appStr (w0 := w) _ _ rfl rfl _ [sp] rfl hO4 (hB4.alloc _) _ sq rfl (rd_lit _ _ _) (by simp) ?_; intro v5 w5 hown5 hg5 hgr5))
  rw [rounds_succ]
  go_wp2_with fail
  go_ret
  exact ⟨_, rfl, hown5, hg5⟩
end Go.Proofs.YtfpkfgimhanekaaGreat

/- The parts of a formula by their texts: parts, partTexts, partsWith of the program. -/
namespace Go.Proofs.YtfpkfgimhanekaaGreat
open Go.RowKit

/-- What partsWith gives. -/
theorem partsWith_two (k : Int) (A p q : Fm.Tree) (w : World) (hA : FmOk A) (h2 : TwoF A p q) (hk : kindOf A = 2 ∨ kindOf A = 3 ∨ kindOf A = 4) :
    Calls Tryz.prog 96 #[.string (tx A), .int .i64 k] w fun e w' => ∃ v, e = .returned (.tuple #[v, .bool (kindOf A == k)]) ∧ OwnS w' w.heap.size v [tx p, tx q] ∧ Grew w w' := by
  have hA1 := hA.1
  have KA := fun w => parsed_c (tx A) w (by have := tx_size hA1; omega)
  rw [tx_pf hA1] at KA
  replace KA := Lib.hid KA
  have KP := Lib.hid (fun v w h => partTexts_two v A p q w h hA1 h2 hk)
  have hpos := Fm.enc_pos A
  clear h2 hk
  go_enter Tryz.func96, Tryz.ntmps96
  go_wp2_with fail
  refine (KA.out _).mono ?_
  rintro e w1 ⟨v1, rfl, ho1, hg1, _⟩
  have HA1 := Lib.hid ho1.nodes
  obtain ⟨b1, o1, c1, rfl, hc1, hm1, k1⟩ := nodes_head ho1.nodes
  clear ho1
  have r1 := Grew.refl w1
  have d1 := r1.drew
  have hz : 0 < (Fm.enc A).length := by omega
  have hz2 : (0 : Int) < ((Fm.enc A).length : Int) := by omega
  have HA2 := Lib.hid (HA1.out.grew d1)
  go_wp2_with fail
  go_region_held3 (fun w' => Grew w1 w') (with_reducible assumption)
    (first | (go_at_call 121; refine (KP.out _ _ HA2.out).mono ?_; rintro e w2 ⟨v2, rfl, ho2, hg2⟩; have hk2 := d1.trans hg2))
  go_wp2_with fail
  go_ret2
  exact ⟨_, rfl, ho2.base (hg1.trans d1).size, hg1.trans hk2⟩
theorem partsWith_none (k : Int) (A : Fm.Tree) (w : World) (hA : FmOk A) (hk : kindOf A = 0 ∨ kindOf A = 1) :
    Calls Tryz.prog 96 #[.string (tx A), .int .i64 k] w fun e w' => e = .returned (.tuple #[.slice none 0 0, .bool (kindOf A == k)]) ∧ Grew w w' := by
  have hA1 := hA.1
  have KA := fun w => parsed_c (tx A) w (by have := tx_size hA1; omega)
  rw [tx_pf hA1] at KA
  replace KA := Lib.hid KA
  have KP := Lib.hid (fun v w h => partTexts_none v A w h hk)
  have hpos := Fm.enc_pos A
  clear hk
  go_enter Tryz.func96, Tryz.ntmps96
  go_wp2_with fail
  refine (KA.out _).mono ?_
  rintro e w1 ⟨v1, rfl, ho1, hg1, _⟩
  have HA1 := Lib.hid ho1.nodes
  obtain ⟨b1, o1, c1, rfl, hc1, hm1, k1⟩ := nodes_head ho1.nodes
  clear ho1
  have r1 := Grew.refl w1
  have d1 := r1.drew
  have hz : 0 < (Fm.enc A).length := by omega
  have hz2 : (0 : Int) < ((Fm.enc A).length : Int) := by omega
  have HA2 := Lib.hid (HA1.out.grew d1)
  go_wp2_with fail
  go_region_held3 (fun w' => Grew w1 w') (with_reducible assumption)
    (first | (go_at_call 121; refine (KP.out _ _ HA2.out).mono ?_; rintro e w2 ⟨rfl, hg2⟩; have hk2 := d1.trans hg2))
  go_wp2_with fail
  go_ret2
  exact ⟨rfl, hg1.trans hk2⟩
end Go.Proofs.YtfpkfgimhanekaaGreat

/- Assumption lists with one more: slices.Clip and behind of the program, l11Copy and l25With of the reference. -/
namespace Go.Proofs.YtfpkfgimhanekaaGreat
open Go.RowKit

/-- 'out = append(out, list...)', out a row of strings of the call's own. -/
theorem wpList_appStrs {ops : Array Oper} {rest : List Oper} {o : Oper} {a : Act} {Q : Exit → Act → World → Prop} {w w0 : World} (s x : Operand) (hgd : o.guard = none)
    (ho : o.op = .call { callee := .builtin .append, args := #[s, x], argTypes := #[34, 34] })
    (v : Value) (L : List ByteArray) (hs : a.eval s = v) (hown : OwnS w w0.heap.size v L) (hg : Grew w0 w) (vx : Value) (M : List ByteArray) (hx : a.eval x = vx) (hr : Strs w vx M) (hn : L.length + M.length ≤ 1048576)
    (h : ∀ v' w', OwnS w' w0.heap.size v' (L ++ M) → Grew w0 w' → w.grownBy w' v.ownBlock → wpList Tryz.prog ops Q rest (a.put o.dst v') w') : wpList Tryz.prog ops Q (o :: rest) a w := by
  obtain ⟨i0, hi0, hz0, hz1, hz2⟩ := info_parts Tryz.infoStr
  refine wpList_append_rd w hgd s x _ ho w0.heap.size 9 i0 _ 1 16 Tryz.underlying34 hi0 hz0 hz1 hz2 rfl (by omega) v L.length (scells L) hs hown vx M.length (scells M) hx hr (scells_one M) (by unfold maxLen; omega) (by omega) hg.size ?_
  intro v' w' h1 h2 h3
  refine h v' w' ?_ (hg.grown h2 fun k hk => (hown.lt k hk).1) h2
  unfold OwnS
  rw [List.length_append, scells_append]
  exact h1
theorem own_emptyS (w : World) : OwnS (w.alloc (.cells #[] 9)) w.heap.size (.slice (some ⟨w.heap.size, 0, none⟩) 0 0) [] :=
  World.ownsRow_lit (e := 9) (size := 1) w #[] 0 (Nat.le_refl _) (by omega) rfl

theorem l11Copy_c (v : Value) (L : List ByteArray) (w : World) (h : Strs w v L) (hn : L.length ≤ 1000) :
    Calls Tryz.prog 128 #[v] w (GivesS w L) := by
  have he := own_emptyS w
  have hg0 := (Grew.refl w).alloc (.cells #[] 9)
  have HV := Lib.hid (h.grew hg0)
  obtain ⟨A, c, rfl⟩ := strs_slice h
  clear h
  go_enter Tryz.func128, Tryz.ntmps128
  go_wp2_with (first | (at_builtin; refine wpList_appStrs (w0 := w) _ _ rfl rfl _ [] rfl he hg0 _ L rfl HV.out (by simp; omega) ?_; intro v1 w1 hown1 hg1 hgr1))
  go_ret
  exact ⟨_, rfl, by simpa using hown1, hg1⟩

theorem l25With_c (v u : Value) (L M : List ByteArray) (w : World) (h : Strs w v L) (hu : Strs w u M) (hn : L.length ≤ 1000) (hm : M.length ≤ 1000) :
    Calls Tryz.prog 111 #[v, u] w (GivesS w (L ++ M)) := by
  have KC := Lib.hid (fun W (hW : Grew w W) => l11Copy_c v L W (h.grew hW) hn)
  have HU := Lib.hid hu
  obtain ⟨A, c, rfl⟩ := strs_slice h
  obtain ⟨A2, c2, rfl⟩ := strs_slice hu
  clear h hu
  go_enter Tryz.func111, Tryz.ntmps111
  go_wp2_with fail
  refine (KC.out _ (Grew.refl w)).mono ?_
  rintro e w1 ⟨v1, rfl, ho1, hg1⟩
  have HU1 := Lib.hid (HU.out.grew hg1)
  go_wp2_with (first | (at_builtin; refine wpList_appStrs (w0 := w) _ _ rfl rfl _ L rfl ho1 hg1 _ M rfl HU1.out (by omega) ?_; intro v2 w2 hown2 hg2 hgr2))
  go_ret
  exact ⟨_, rfl, hown2, hg2⟩

theorem clip_c (A : Option Addr) (n c : Nat) (w : World) (hc : n ≤ c) (_hm : c ≤ 9223372036854775807) :
    Calls Tryz.prog 97 #[.slice A n c] w fun e w' => e = .returned (.slice A n n) ∧ Grew w w' := by
  have h0 : (0 : Int) ≤ (n : Int) := by omega
  have h1 : (n : Int) ≤ (c : Int) := by omega
  go_enter Tryz.func97, Tryz.ntmps97
  go_wp2_with fail
  go_ret
  exact ⟨rfl, Grew.refl _⟩

theorem behind_c (v : Value) (L : List ByteArray) (s : ByteArray) (w : World) (h : Strs w v L) (hn : L.length ≤ 1000) :
    Calls Tryz.prog 61 #[v, .string s] w (GivesS w (L ++ [s])) := by
  obtain ⟨i0, hi0, hz0, hz1, hz2⟩ := info_parts Tryz.infoStr
  have HI := Lib.hid (⟨hi0, hz0, hz1, hz2⟩ : _ ∧ _ ∧ _ ∧ _)
  clear hi0 hz0 hz1 hz2
  have hlit := fun w => rd_lit w (.string s) 9
  rcases h.open_ with ⟨rfl, rfl⟩ | ⟨b, o, c, rfl, hc, hm, hb, hf⟩
  · have KC := Lib.hid (fun w => clip_c none 0 0 w (by omega) (by omega))
    clear h
    have hnil := OwnS.nil_ w w.heap.size
    go_enter Tryz.func61, Tryz.ntmps61
    go_wp2_with fail
    refine (KC.out _).mono ?_
    rintro e w1 ⟨rfl, hg1⟩
    have ho1 := hnil.grew (hg1.trans ((Grew.refl w1).alloc (.cells #[.string s] 9)))
    go_wp2_with (first | (at_builtin; refine wpList_appStr (w0 := w) _ _ rfl rfl _ [] rfl ho1 (hg1.alloc _) _ s rfl (rd_lit _ _ _) (by simp) ?_; intro v2 w2 hown2 hg2 hgr2))
    go_ret
    exact ⟨_, rfl, hown2, hg2⟩
  · have KC := Lib.hid (fun w => clip_c (some ⟨b, o, none⟩) L.length c w hc hm)
    have HF := Lib.hid hf
    clear h hf
    go_enter Tryz.func61, Tryz.ntmps61
    go_wp2_with fail
    refine (KC.out _).mono ?_
    rintro e w1 ⟨rfl, hg1⟩
    have hga := hg1.alloc (.cells #[.string s] 9)
    have hlen : (scells L).length = L.length := by simp [scells]
    go_wp2_with (first | (at_builtin; refine wpList_append_grows _ rfl _ _ _ rfl 9 i0 _ 1 16 Tryz.underlying34 HI.out.1 HI.out.2.1 HI.out.2.2.1 HI.out.2.2.2 rfl (by omega) (some ⟨b, o, none⟩) L.length L.length (scells L) rfl (by intro h; cases h) (by omega) ?_ ⟨w1.heap.size, 0, none⟩ 1 1 [.string s] rfl rfl ?_ (by simp [Value.oneCell']) (by omega) (by unfold maxLen; omega) (by omega) ?_))
    · intro bb hbb j u hj
      cases hbb
      have hjl : j < L.length := by
        have := (List.getElem?_eq_some_iff.1 hj).1
        omega
      rw [scells_at hjl] at hj
      cases hj
      rw [Addr.add_lit]
      exact HF.out j hjl _ hga
    · intro j u hj
      have hj0 : j = 0 := by
        have := (List.getElem?_eq_some_iff.1 hj).1
        simp at this
        omega
      subst hj0
      simp at hj
      subst hj
      rw [Addr.add_lit]
      simp
    · intro v2 w2 hown2 hgr2
      have hg2 : Grew (w1.alloc (.cells #[.string s] 9)) w2 := ⟨hgr2.os, hgr2.tape, hgr2.output, hgr2.size, fun i hi => hgr2.block i hi (by simp)⟩
      have hown3 : OwnS w2 (w1.heap.size + 1) v2 (L ++ [s]) := by
        unfold OwnS
        rw [List.length_append, scells_append]
        exact hown2
      have hown4 := hown3.base (Nat.le_trans hg1.size (Nat.le_succ _))
      have hg3 := hga.trans hg2
      clear hown2 hgr2 hown3
      go_wp2_with fail
      go_ret
      exact ⟨_, rfl, hown4, hg3⟩
end Go.Proofs.YtfpkfgimhanekaaGreat

/- Formulas joined by their texts: joinTexts of the program, l26Joined of the reference. -/
namespace Go.Proofs.YtfpkfgimhanekaaGreat
open Go.RowKit

theorem joinTexts_c (k : Int) (A B C : Fm.Tree) (w : World) (hA : (Fm.enc A).length ≤ 40) (hB : (Fm.enc B).length ≤ 40) (he : Fm.enc C = Fm.join k (Fm.enc A) (Fm.enc B)) :
    Calls Tryz.prog 98 #[.int .i64 k, .string (tx A), .string (tx B)] w fun e w' => e = .returned (.tuple #[.string (tx C), .bool (decide ((Fm.enc C).length ≤ 40))]) ∧ Grew w w' := by
  have KA := fun w => parsed_c (tx A) w (by have := tx_size hA; omega)
  have KB := fun w => parsed_c (tx B) w (by have := tx_size hB; omega)
  rw [tx_pf hA] at KA
  rw [tx_pf hB] at KB
  have hC : (Fm.enc C).length ≤ 81 := by rw [he]; simp [Fm.join]; omega
  have KT := Lib.hid (fun v w h => text0_c C v w h (by omega))
  have KJ := Lib.hid (fun va vb w (ha : Nodes w va (Fm.enc A)) (hb : Nodes w vb (Fm.enc B)) => by
    have h1 := join_c k va vb (Fm.enc A) (Fm.enc B) w ha hb (by omega)
    rw [← he] at h1
    exact h1)
  replace KA := Lib.hid KA
  replace KB := Lib.hid KB
  have hS : bs (Fm.txt C 0) = tx C := rfl
  unfold Says at KT
  rw [hS] at KT
  generalize tx A = a at *
  generalize tx B = b at *
  generalize tx C = c at *
  clear hS he hA hB
  generalize Fm.enc A = xa at *
  generalize Fm.enc B = xb at *
  generalize Fm.enc C = xc at *
  have r0 := Grew.refl w
  go_enter Tryz.func98, Tryz.ntmps98
  go_wp2_with fail
  refine (KA.out _).mono ?_
  rintro e w1 ⟨v1, rfl, ho1, hg1, _⟩
  have HA1 := Lib.hid ho1.nodes
  obtain ⟨A1, c1, rfl⟩ := nodes_slice ho1.nodes
  clear ho1
  go_wp2_with fail
  refine (KB.out _).mono ?_
  rintro e w2 ⟨v2, rfl, ho2, hg2, _⟩
  have HB2 := Lib.hid ho2.nodes
  obtain ⟨A2, c2, rfl⟩ := nodes_slice ho2.nodes
  clear ho2
  go_wp2_with fail
  refine (KJ.out _ _ _ (HA1.out.grew hg2) HB2.out).mono ?_
  rintro e w3 ⟨v3, rfl, ho3, hg3⟩
  have HC3 := Lib.hid ho3.nodes
  obtain ⟨A3, c3, rfl⟩ := nodes_slice ho3.nodes
  clear ho3
  have g3 := (hg1.trans hg2).trans hg3
  go_wp2_with fail
  refine (KT.out _ _ HC3.out).mono ?_
  rintro e w4 ⟨rfl, hg4⟩
  go_wp2_with fail
  go_ret2
  have hd2 : decide ((xc.length : Int) ≤ 40) = decide (xc.length ≤ 40) := decide_eq_decide.2 (by omega)
  exact ⟨by rw [← hd2]; rfl, g3.trans hg4⟩

theorem l26Joined_c (k : Int) (A B C : Fm.Tree) (w : World) (hA : (Fm.enc A).length ≤ 40) (hB : (Fm.enc B).length ≤ 40) (he : Fm.enc C = Fm.join k (Fm.enc A) (Fm.enc B)) :
    Calls Tryz.prog 85 #[.int .i64 k, .string (tx A), .string (tx B)] w fun e w' => e = .returned (.string (if (Fm.enc C).length ≤ 40 then tx C else ByteArray.empty)) ∧ Grew w w' := by
  have KA := fun w => l02Good_c (tx A) w (by have := tx_size hA; omega)
  have KB := fun w => l02Good_c (tx B) w (by have := tx_size hB; omega)
  unfold GivesG at KA KB
  rw [tx_pf hA] at KA
  rw [tx_pf hB] at KB
  have hC : (Fm.enc C).length ≤ 81 := by rw [he]; simp [Fm.join]; omega
  have KT := Lib.hid (fun v w h => l02Text_c C v w h (by omega))
  have KJ := Lib.hid (fun va vb w (ha : Nodes w va (Fm.enc A)) (hb : Nodes w vb (Fm.enc B)) => by
    have h1 := l02Pair_c k va vb (Fm.enc A) (Fm.enc B) w ha hb (by omega)
    rw [← he] at h1
    exact h1)
  generalize gd (tx A) = ga at *
  generalize gd (tx B) = gb at *
  replace KA := Lib.hid KA
  replace KB := Lib.hid KB
  have hS : bs (Fm.txt C 0) = tx C := rfl
  unfold Says at KT
  rw [hS] at KT
  generalize tx A = a at *
  generalize tx B = b at *
  generalize tx C = c at *
  clear hS he hA hB
  generalize Fm.enc A = xa at *
  generalize Fm.enc B = xb at *
  generalize Fm.enc C = xc at *
  by_cases hl : xc.length ≤ 40
  · rw [if_pos hl]
    go_enter Tryz.func85, Tryz.ntmps85
    go_wp2_with fail
    refine (KA.out _).mono ?_
    rintro e w1 ⟨v1, rfl, ho1, hg1⟩
    have HA1 := Lib.hid ho1.nodes
    obtain ⟨A1, c1, rfl⟩ := nodes_slice ho1.nodes
    clear ho1
    go_wp2_with fail
    refine (KB.out _).mono ?_
    rintro e w2 ⟨v2, rfl, ho2, hg2⟩
    have HB2 := Lib.hid ho2.nodes
    obtain ⟨A2, c2, rfl⟩ := nodes_slice ho2.nodes
    clear ho2
    go_wp2_with fail
    refine (KJ.out _ _ _ (HA1.out.grew hg2) HB2.out).mono ?_
    rintro e w3 ⟨v3, rfl, ho3, hg3⟩
    have HC3 := Lib.hid ho3.nodes
    obtain ⟨A3, c3, rfl⟩ := nodes_slice ho3.nodes
    clear ho3
    have g3 := (hg1.trans hg2).trans hg3
    go_wp2_with fail
    refine (KT.out _ _ HC3.out).mono ?_
    rintro e w4 ⟨rfl, hg4⟩
    go_wp2_with fail
    go_ret
    exact ⟨rfl, g3.trans hg4⟩
  · rw [if_neg hl]
    have hl2 : 40 < xc.length := by omega
    go_enter Tryz.func85, Tryz.ntmps85
    go_wp2_with fail
    refine (KA.out _).mono ?_
    rintro e w1 ⟨v1, rfl, ho1, hg1⟩
    have HA1 := Lib.hid ho1.nodes
    obtain ⟨A1, c1, rfl⟩ := nodes_slice ho1.nodes
    clear ho1
    go_wp2_with fail
    refine (KB.out _).mono ?_
    rintro e w2 ⟨v2, rfl, ho2, hg2⟩
    have HB2 := Lib.hid ho2.nodes
    obtain ⟨A2, c2, rfl⟩ := nodes_slice ho2.nodes
    clear ho2
    go_wp2_with fail
    refine (KJ.out _ _ _ (HA1.out.grew hg2) HB2.out).mono ?_
    rintro e w3 ⟨v3, rfl, ho3, hg3⟩
    have HC3 := Lib.hid ho3.nodes
    obtain ⟨A3, c3, rfl⟩ := nodes_slice ho3.nodes
    clear ho3
    have g3 := (hg1.trans hg2).trans hg3
    go_wp2_with fail
    go_ret
    exact ⟨rfl, g3⟩
end Go.Proofs.YtfpkfgimhanekaaGreat

/- l26Type of the reference. -/
namespace Go.Proofs.YtfpkfgimhanekaaGreat
open Go.RowKit
open Tr (Tm)

theorem strs_map {w : World} {v : Value} {G : List Fm.Tree} (h : Strs w v (G.map tx)) : (∃ A c, v = .slice A G.length c) ∧ ∀ i, i < G.length → ∃ b o c, v = .slice (some ⟨b, o, none⟩) G.length c ∧ ∀ W, Grew w W → W.cell? ⟨b, o + i, none⟩ = some (.string (otx G[i]?)) := by
  constructor
  · obtain ⟨A, c, hv⟩ := strs_slice h
    rw [List.length_map] at hv
    exact ⟨A, c, hv⟩
  · intro i hi
    rcases h.open_ with ⟨_, h0⟩ | ⟨b, o, c, rfl, hc, hm, hb, hf⟩
    · rw [List.map_eq_nil_iff] at h0
      rw [h0] at hi
      exact absurd hi (by simp)
    · refine ⟨b, o, c, by rw [List.length_map], fun W hW => ?_⟩
      have h1 := hf i (by simpa using hi) W hW
      rw [h1]
      have e1 : G[i]? = some G[i] := List.getElem?_eq_getElem hi
      rw [e1]
      simp [st, List.getD, hi, otx]

theorem l26Type_var (x : Tn) (hg : Good (.t0 x)) (G : List Fm.Tree) (va v : Value) (w : World) (_hl : G.length ≤ 12) (hs : Strs w va (G.map tx)) (h : Tms w v (Tr.enc (.t0 x))) :
    Calls Tryz.prog 46 #[va, v] w fun e w' => e = .returned (.string (otx (ty G (.t0 x)))) ∧ Grew w w' := by
  have hk : x.1 = 0 := (good_leaf hg).1 rfl
  have hn := tnB_num0 (Tr.hd_wf hg)
  obtain ⟨b, o, c, rfl, hc, hm, hb, hcl⟩ := tms_head h
  obtain ⟨⟨A, d, hva⟩, hat⟩ := strs_map hs
  have k0 := fun W (hW : Grew w W) => (hcl W hW).1
  have k1 := fun W (hW : Grew w W) => (hcl W hW).2.1
  have k2 := fun W (hW : Grew w W) => (hcl W hW).2.2
  change ∀ W, Grew w W → W.cell? ⟨b, o, none⟩ = some (.int .i64 x.1) at k0
  change ∀ W, Grew w W → W.cell? ⟨b, o + 1, none⟩ = some (.int .i64 x.2.1) at k1
  change ∀ W, Grew w W → W.cell? ⟨b, o + 2, none⟩ = some (.string x.2.2) at k2
  rw [hk] at k0
  have hR : ty G (.t0 x) = G[x.2.1.toNat]? := rfl
  rw [hR]
  have hr := Grew.refl w
  have hx2 : (Tr.hd (.t0 x)).2.1 = x.2.1 := rfl
  rw [hx2] at hn
  have hl1 : (Tr.enc (.t0 x)).length = 1 := rfl
  rw [hl1]
  obtain ⟨m, hm2⟩ : ∃ m : Nat, x.2.1 = m := ⟨x.2.1.toNat, by omega⟩
  rw [hm2] at k1 hn ⊢
  rw [Int.toNat_natCast]
  clear hcl h hg hk hR hx2 hl1 hm2
  have hal := hr.alloc (.cells #[.int .i64 0, .int .i64 m, .string x.2.2] 45)
  by_cases hlt : m < G.length
  · obtain ⟨gb, go, gc, hv, e1⟩ := hat m hlt
    subst hv
    generalize otx G[m]? = R at *
    clear hat hs hva
    have hlt2 : (m : Int) < (G.length : Int) := by omega
    generalize G.length = gl at *
    go_enter Tryz.func46, Tryz.ntmps46
    go_wp2_with fail
    go_ret
    exact ⟨rfl, (Grew.refl w).alloc _⟩
  · have hnone : G[m]? = none := List.getElem?_eq_none (by omega)
    rw [hnone]
    subst hva
    clear hat hs hnone
    have hge : (G.length : Int) ≤ (m : Int) := by omega
    generalize G.length = gl at *
    go_enter Tryz.func46, Tryz.ntmps46
    go_wp2_with fail
    go_ret
    exact ⟨rfl, (Grew.refl w).alloc _⟩

/-- What l26Type gives at a term, whatever the values. -/
def TypS (t : Tm) (G : List Fm.Tree) : Prop := ∀ va v w, Strs w va (G.map tx) → Tms w v (Tr.enc t) → Calls Tryz.prog 46 #[va, v] w fun e w' => e = .returned (.string (otx (ty G t))) ∧ Grew w w'

theorem l26Under_c (A : Fm.Tree) (t : Tm) (G : List Fm.Tree) (K : G.length < 12 → TypS t (G ++ [A])) (va v : Value) (w : World) (hs : Strs w va (G.map tx)) (h : Tms w v (Tr.enc t)) (hl : G.length ≤ 12) :
    Calls Tryz.prog 84 #[va, .string (tx A), v] w fun e w' => e = .returned (.string (otx (if G.length < 12 then ty (G ++ [A]) t else none))) ∧ Grew w w' := by
  obtain ⟨B, d, rfl⟩ := (strs_map hs).1
  by_cases hlt : G.length < 12
  · rw [if_pos hlt]
    have hal := (Grew.refl w).alloc (.cells #[.string (tx A)] 9)
    have hone : Strs (w.alloc (.cells #[.string (tx A)] 9)) (.slice (some ⟨w.heap.size, 0, none⟩) 1 1) [tx A] := rd_lit w (.string (tx A)) 9
    have KW := Lib.hid (l25With_c _ _ (G.map tx) [tx A] _ (hs.grew hal) hone (by rw [List.length_map]; omega) (by simp))
    have HT := Lib.hid h
    obtain ⟨C, c, rfl⟩ := tms_slice h
    have KT := Lib.hid (fun va W (hW : Grew w W) (hva : Strs W va (G.map tx ++ [tx A])) => K hlt va _ W (by rw [List.map_append]; exact hva) (h.grew hW))
    have hlt2 : (G.length : Int) < 12 := by omega
    clear h hs K hone
    generalize G.map tx = gm at *
    generalize otx (ty (G ++ [A]) t) = R at *
    generalize G.length = gl at *
    generalize tx A = ta at *
    go_enter Tryz.func84, Tryz.ntmps84
    go_wp2_with fail
    refine KW.out.mono ?_
    rintro e w1 ⟨u, rfl, ho, hg1⟩
    have HS := Lib.hid ho.strs
    have gw := hal.trans hg1
    go_wp2_with fail
    refine (KT.out _ _ gw HS.out).mono ?_
    rintro e w2 ⟨rfl, hg2⟩
    go_wp2_with fail
    go_ret
    exact ⟨rfl, gw.trans hg2⟩
  · rw [if_neg hlt]
    obtain ⟨C, c, rfl⟩ := tms_slice h
    have hge : (12 : Int) ≤ (G.length : Int) := by omega
    clear h hs K
    generalize G.length = gl at *
    generalize (Tr.enc t).length = n at *
    generalize tx A = ta at *
    go_enter Tryz.func84, Tryz.ntmps84
    go_wp2_with fail
    go_ret
    exact ⟨rfl, Grew.refl w⟩

theorem otx_small (C : Fm.Tree) : otx (smallF C) = if (Fm.enc C).length ≤ 40 then tx C else ByteArray.empty := by
  unfold smallF
  split <;> rfl

theorem l26Type_lam (x : Tn) (a : Tm) (hg : Good (.t1 x a)) (hk : x.1 = 1) (G : List Fm.Tree) (hG : ∀ A ∈ G, FmOk A) (hl : G.length ≤ 12) (IH : G.length < 12 → TypS a (G ++ [fo x.2.2])) (va v : Value) (w : World) (hs : Strs w va (G.map tx)) (h : Tms w v (Tr.enc (.t1 x a))) :
    Calls Tryz.prog 46 #[va, v] w fun e w' => e = .returned (.string (otx (ty G (.t1 x a)))) ∧ Grew w w' := by
  have hA := fo_ok (goodN_text hg.1.2 (by rw [hk]; rfl) (by rw [hk]; decide))
  have hty : ty G (.t1 x a) = tyLam (fo x.2.2) (if G.length < 12 then ty (G ++ [fo x.2.2]) a else none) := by
    rw [ty, if_pos hk]
    split
    · rfl
    · rfl
  rw [hty]
  obtain ⟨b, o, c, rfl, hc, hm, hb, hcl⟩ := tms_head h
  have hlen : (Tr.enc (.t1 x a)).length = (Tr.enc a).length + 1 := by simp [Tr.enc]
  have hsub := sub_one (x := x) (a := a) (by simpa [Tr.enc] using h) (by rw [hlen] at hc; exact hc) hm
  have k0 := fun W (hW : Grew w W) => (hcl W hW).1
  have k1 := fun W (hW : Grew w W) => (hcl W hW).2.1
  have k2 := fun W (hW : Grew w W) => (hcl W hW).2.2
  change ∀ W, Grew w W → W.cell? ⟨b, o, none⟩ = some (.int .i64 x.1) at k0
  change ∀ W, Grew w W → W.cell? ⟨b, o + 1, none⟩ = some (.int .i64 x.2.1) at k1
  change ∀ W, Grew w W → W.cell? ⟨b, o + 2, none⟩ = some (.string x.2.2) at k2
  rw [hk] at k0
  generalize hF : fo x.2.2 = A at *
  rw [← hA.2] at k2
  rw [hlen] at hc ⊢
  have hpos := Tr.enc_pos a
  have KU := Lib.hid (fun W (hW : Grew w W) => l26Under_c A a G IH va (.slice (some ⟨b, o + 3, none⟩) (Tr.enc a).length (c - 1)) W (hs.grew hW) (hsub.grew hW) hl)
  have HOK := Lib.hid (fun B (hlt : G.length < 12) hB => (ty_ok a hg.2 (G ++ [A]) B (fun D hD => by
    rw [List.mem_append] at hD
    rcases hD with hD | hD
    · exact hG D hD
    · simp at hD; subst hD; exact hA.1) hB).1)
  have KJ := Lib.hid (fun B w (hB : (Fm.enc B).length ≤ 40) => l26Joined_c 4 A B (.imp A B) w hA.1.1 hB rfl)
  obtain ⟨D, d, rfl⟩ := (strs_map hs).1
  have hal := (Grew.refl w).alloc (.cells #[.int .i64 1, .int .i64 x.2.1, .string (tx A)] 45)
  have hr := Grew.refl w
  have hc1 : ¬ c = 1 := by omega
  have HOK2 : Hid (∀ B, (if G.length < 12 then ty (G ++ [A]) a else none) = some B → (Fm.enc B).length ≤ 40) := Lib.hid (fun B hB => by
    split at hB
    · exact HOK.out B ‹_› hB
    · cases hB)
  clear hcl h hg hsub hty HOK IH hs hG hA hF
  generalize (if G.length < 12 then ty (G ++ [A]) a else none) = R at *
  generalize G.length = gl at *
  generalize (Tr.enc a).length = n at *
  generalize x.2.1 = xn at *
  cases R with
  | none =>
    have hR : otx (tyLam A none) = ByteArray.empty := rfl
    have hR2 : otx none = ByteArray.empty := rfl
    rw [hR]
    rw [hR2] at KU
    clear hR hR2 HOK2 KJ
    generalize tx A = ta at *
    have i1 : (1 : Int) ≤ (n : Int) + 1 := by omega
    have i2 : (n : Int) + 1 ≤ (c : Int) := by omega
    have i3 : (0 : Int) ≤ (n : Int) := by omega
    have f2 : ∀ W, Grew (w.alloc (.cells #[.int .i64 1, .int .i64 xn, .string ta] 45)) W → W.cell? ⟨w.heap.size, 2, none⟩ = some (.string ta) := fun W hW => (hW.cell (p := ⟨w.heap.size, 2, none⟩) (by simp)).trans (by simp)
    have ra := Grew.refl (w.alloc (.cells #[.int .i64 1, .int .i64 xn, .string ta] 45))
    have da := ra.drew
    have gd := hal.trans da
    go_enter Tryz.func46, Tryz.ntmps46
    go_wp2_with fail
    go_region_held3 (fun w' => Grew (w.alloc (.cells #[.int .i64 1, .int .i64 xn, .string ta] 45)) w') (with_reducible assumption)
      (first | (go_at_call 84; refine (KU.out _ gd).mono ?_; rintro e w1 ⟨rfl, hg1⟩; have hk1 := da.trans hg1))
    go_wp2_with fail
    go_ret
    exact ⟨rfl, hal.trans hk1⟩
  | some B =>
    have hR : otx (tyLam A (some B)) = if (Fm.enc (.imp A B)).length ≤ 40 then tx (.imp A B) else ByteArray.empty := otx_small _
    have hR2 : otx (some B) = tx B := rfl
    have hne := tx_ne B
    rw [hR]
    rw [hR2] at KU
    have KJ2 := Lib.hid (fun w => KJ.out B w (HOK2.out B rfl))
    clear hR hR2 HOK2 KJ
    generalize (if (Fm.enc (.imp A B)).length ≤ 40 then tx (.imp A B) else ByteArray.empty) = Z at *
    generalize tx A = ta at *
    generalize tx B = tb at *
    have i1 : (1 : Int) ≤ (n : Int) + 1 := by omega
    have i2 : (n : Int) + 1 ≤ (c : Int) := by omega
    have i3 : (0 : Int) ≤ (n : Int) := by omega
    have f2 : ∀ W, Grew (w.alloc (.cells #[.int .i64 1, .int .i64 xn, .string ta] 45)) W → W.cell? ⟨w.heap.size, 2, none⟩ = some (.string ta) := fun W hW => (hW.cell (p := ⟨w.heap.size, 2, none⟩) (by simp)).trans (by simp)
    have ra := Grew.refl (w.alloc (.cells #[.int .i64 1, .int .i64 xn, .string ta] 45))
    have da := ra.drew
    have gd := hal.trans da
    go_enter Tryz.func46, Tryz.ntmps46
    go_wp2_with fail
    go_region_held3 (fun w' => Grew (w.alloc (.cells #[.int .i64 1, .int .i64 xn, .string ta] 45)) w') (with_reducible assumption)
      (first | (go_at_call 84; refine (KU.out _ gd).mono ?_; rintro e w1 ⟨rfl, hg1⟩; have hk1 := da.trans hg1))
    go_wp2_with fail
    refine (KJ2.out _).mono ?_
    rintro e w2 ⟨rfl, hg2⟩
    go_wp2_with fail
    go_ret
    exact ⟨rfl, (hal.trans hk1).trans hg2⟩
end Go.Proofs.YtfpkfgimhanekaaGreat

/- l26Type of the projections. -/
namespace Go.Proofs.YtfpkfgimhanekaaGreat
open Go.RowKit
open Tr (Tm)

theorem l26Type_fst (x : Tn) (a : Tm) (hg : Good (.t1 x a)) (hk : x.1 = 4) (G : List Fm.Tree) (hG : ∀ A ∈ G, FmOk A) (_hl : G.length ≤ 12) (IH : TypS a G) (va v : Value) (w : World) (hs : Strs w va (G.map tx)) (h : Tms w v (Tr.enc (.t1 x a))) (hn : (Tr.enc (.t1 x a)).length ≤ 60) :
    Calls Tryz.prog 46 #[va, v] w fun e w' => e = .returned (.string (otx (ty G (.t1 x a)))) ∧ Grew w w' := by
  have hty : ty G (.t1 x a) = (ty G a).bind (ty1 4 (fo x.2.2)) := by
    rw [ty, if_neg (by rw [hk]; decide), hk]
  rw [hty]
  have KP := Lib.hid (fun W (hW : Grew w W) => by
    have h1 := l26Part_c v (.t1 x a) 0 W (h.grew hW) hg (by omega) (by decide : 0 < 1)
    rw [show Tr.kid (.t1 x a) 0 = a from rfl] at h1
    exact h1)
  obtain ⟨b, o, c, rfl, hc, hm, hb, hcl⟩ := tms_head h
  have k0 := fun W (hW : Grew w W) => (hcl W hW).1
  have k1 := fun W (hW : Grew w W) => (hcl W hW).2.1
  have k2 := fun W (hW : Grew w W) => (hcl W hW).2.2
  change ∀ W, Grew w W → W.cell? ⟨b, o, none⟩ = some (.int .i64 x.1) at k0
  change ∀ W, Grew w W → W.cell? ⟨b, o + 1, none⟩ = some (.int .i64 x.2.1) at k1
  change ∀ W, Grew w W → W.cell? ⟨b, o + 2, none⟩ = some (.string x.2.2) at k2
  rw [hk] at k0
  have hpos := Tr.enc_pos (.t1 x a)
  have hal := (Grew.refl w).alloc (.cells #[.int .i64 4, .int .i64 x.2.1, .string x.2.2] 45)
  have hr := Grew.refl w
  have HOK := fun B hB => ty_ok a hg.2 G B hG hB
  have KI := fun u W (hW : Grew w W) hu => IH va u W (hs.grew hW) hu
  obtain ⟨D, d, rfl⟩ := (strs_map hs).1
  clear hcl h hg hty IH hs hG
  generalize fo x.2.2 = A at *
  generalize x.2.1 = xn at *
  generalize x.2.2 = xs at *
  generalize (Tr.enc (.t1 x a)).length = n at *
  generalize G.length = gl at *
  have hC : ty G a = none ∨ (∃ p q, ty G a = some (.and p q)) ∨ ∃ C, ty G a = some C ∧ kindOf C ≠ 2 ∧ ty1 4 A C = none := by
    cases ty G a with
    | none => exact .inl rfl
    | some C =>
      cases C with
      | and p q => exact .inr (.inl ⟨p, q, rfl⟩)
      | _ => exact .inr (.inr ⟨_, rfl, by simp [kindOf], by simp [ty1]⟩)
  rcases hC with hC | ⟨p, q, hC⟩ | ⟨C, hC, hk2, h1⟩
  · rw [hC] at KI ⊢
    change Calls _ _ _ _ (fun e w' => e = .returned (.string ByteArray.empty) ∧ Grew w w')
    rw [show otx none = ByteArray.empty from rfl] at KI
    clear HOK hC
    replace KI := Lib.hid KI
    go_enter Tryz.func46, Tryz.ntmps46
    go_wp2_with fail
    refine (KP.out _ hal).mono ?_
    rintro e w1 ⟨u, rfl, hu, hg1⟩
    have HU := Lib.hid hu
    obtain ⟨U, e1, rfl⟩ := tms_slice hu
    clear hu
    have g1 := hal.trans hg1
    have f0 : ∀ W, Grew w1 W → W.cell? ⟨w.heap.size, 0, none⟩ = some (.int .i64 4) := fun W hW => ((hg1.trans hW).cell (p := ⟨w.heap.size, 0, none⟩) (by simp)).trans (by simp)
    go_wp2_with fail
    refine (KI.out _ _ g1 HU.out).mono ?_
    rintro e w2 ⟨rfl, hg2⟩
    have g2 := g1.trans hg2
    go_wp2_with fail
    go_ret
    exact ⟨rfl, g2⟩
  · rw [hC] at KI ⊢
    change Calls _ _ _ _ (fun e w' => e = .returned (.string (tx p)) ∧ Grew w w')
    have hok := HOK _ hC
    have KL := Lib.hid (fun w => l25Parts_yes 2 (.and p q) p q w hok rfl rfl)
    have hne := tx_ne (.and p q)
    rw [show otx (some (.and p q)) = tx (.and p q) from rfl] at KI
    clear HOK hC hok
    generalize tx (.and p q) = tc at *
    generalize tx p = tp at *
    generalize tx q = tq at *
    replace KI := Lib.hid KI
    go_enter Tryz.func46, Tryz.ntmps46
    go_wp2_with fail
    refine (KP.out _ hal).mono ?_
    rintro e w1 ⟨u, rfl, hu, hg1⟩
    have HU := Lib.hid hu
    obtain ⟨U, e1, rfl⟩ := tms_slice hu
    clear hu
    have g1 := hal.trans hg1
    have f0 : ∀ W, Grew w1 W → W.cell? ⟨w.heap.size, 0, none⟩ = some (.int .i64 4) := fun W hW => ((hg1.trans hW).cell (p := ⟨w.heap.size, 0, none⟩) (by simp)).trans (by simp)
    go_wp2_with fail
    refine (KI.out _ _ g1 HU.out).mono ?_
    rintro e w2 ⟨rfl, hg2⟩
    have g2 := g1.trans hg2
    go_wp2_with fail
    refine (KL.out _).mono ?_
    rintro e w3 ⟨rfl, hg3⟩
    have f3 := f0 _ (hg2.trans hg3)
    go_wp2_with fail
    go_ret
    exact ⟨rfl, g2.trans hg3⟩
  · rw [hC] at KI ⊢
    rw [show (some C).bind (ty1 4 A) = none from h1]
    change Calls _ _ _ _ (fun e w' => e = .returned (.string ByteArray.empty) ∧ Grew w w')
    have hok := HOK _ hC
    have KL := Lib.hid (fun w => l25Parts_no 2 C w hok hk2)
    have hne := tx_ne C
    rw [show otx (some C) = tx C from rfl] at KI
    clear HOK hC hok h1 hk2
    generalize tx C = tc at *
    replace KI := Lib.hid KI
    go_enter Tryz.func46, Tryz.ntmps46
    go_wp2_with fail
    refine (KP.out _ hal).mono ?_
    rintro e w1 ⟨u, rfl, hu, hg1⟩
    have HU := Lib.hid hu
    obtain ⟨U, e1, rfl⟩ := tms_slice hu
    clear hu
    have g1 := hal.trans hg1
    have f0 : ∀ W, Grew w1 W → W.cell? ⟨w.heap.size, 0, none⟩ = some (.int .i64 4) := fun W hW => ((hg1.trans hW).cell (p := ⟨w.heap.size, 0, none⟩) (by simp)).trans (by simp)
    go_wp2_with fail
    refine (KI.out _ _ g1 HU.out).mono ?_
    rintro e w2 ⟨rfl, hg2⟩
    have g2 := g1.trans hg2
    go_wp2_with fail
    refine (KL.out _).mono ?_
    rintro e w3 ⟨rfl, hg3⟩
    go_wp2_with fail
    go_ret
    exact ⟨rfl, g2.trans hg3⟩

theorem l26Type_snd (x : Tn) (a : Tm) (hg : Good (.t1 x a)) (hk : x.1 = 5) (G : List Fm.Tree) (hG : ∀ A ∈ G, FmOk A) (_hl : G.length ≤ 12) (IH : TypS a G) (va v : Value) (w : World) (hs : Strs w va (G.map tx)) (h : Tms w v (Tr.enc (.t1 x a))) (hn : (Tr.enc (.t1 x a)).length ≤ 60) :
    Calls Tryz.prog 46 #[va, v] w fun e w' => e = .returned (.string (otx (ty G (.t1 x a)))) ∧ Grew w w' := by
  have hty : ty G (.t1 x a) = (ty G a).bind (ty1 5 (fo x.2.2)) := by
    rw [ty, if_neg (by rw [hk]; decide), hk]
  rw [hty]
  have KP := Lib.hid (fun W (hW : Grew w W) => by
    have h1 := l26Part_c v (.t1 x a) 0 W (h.grew hW) hg (by omega) (by decide : 0 < 1)
    rw [show Tr.kid (.t1 x a) 0 = a from rfl] at h1
    exact h1)
  obtain ⟨b, o, c, rfl, hc, hm, hb, hcl⟩ := tms_head h
  have k0 := fun W (hW : Grew w W) => (hcl W hW).1
  have k1 := fun W (hW : Grew w W) => (hcl W hW).2.1
  have k2 := fun W (hW : Grew w W) => (hcl W hW).2.2
  change ∀ W, Grew w W → W.cell? ⟨b, o, none⟩ = some (.int .i64 x.1) at k0
  change ∀ W, Grew w W → W.cell? ⟨b, o + 1, none⟩ = some (.int .i64 x.2.1) at k1
  change ∀ W, Grew w W → W.cell? ⟨b, o + 2, none⟩ = some (.string x.2.2) at k2
  rw [hk] at k0
  have hpos := Tr.enc_pos (.t1 x a)
  have hal := (Grew.refl w).alloc (.cells #[.int .i64 5, .int .i64 x.2.1, .string x.2.2] 45)
  have hr := Grew.refl w
  have HOK := fun B hB => ty_ok a hg.2 G B hG hB
  have KI := fun u W (hW : Grew w W) hu => IH va u W (hs.grew hW) hu
  obtain ⟨D, d, rfl⟩ := (strs_map hs).1
  clear hcl h hg hty IH hs hG
  generalize fo x.2.2 = A at *
  generalize x.2.1 = xn at *
  generalize x.2.2 = xs at *
  generalize (Tr.enc (.t1 x a)).length = n at *
  generalize G.length = gl at *
  have hC : ty G a = none ∨ (∃ p q, ty G a = some (.and p q)) ∨ ∃ C, ty G a = some C ∧ kindOf C ≠ 2 ∧ ty1 5 A C = none := by
    cases ty G a with
    | none => exact .inl rfl
    | some C =>
      cases C with
      | and p q => exact .inr (.inl ⟨p, q, rfl⟩)
      | _ => exact .inr (.inr ⟨_, rfl, by simp [kindOf], by simp [ty1]⟩)
  rcases hC with hC | ⟨p, q, hC⟩ | ⟨C, hC, hk2, h1⟩
  · rw [hC] at KI ⊢
    change Calls _ _ _ _ (fun e w' => e = .returned (.string ByteArray.empty) ∧ Grew w w')
    rw [show otx none = ByteArray.empty from rfl] at KI
    clear HOK hC
    replace KI := Lib.hid KI
    go_enter Tryz.func46, Tryz.ntmps46
    go_wp2_with fail
    refine (KP.out _ hal).mono ?_
    rintro e w1 ⟨u, rfl, hu, hg1⟩
    have HU := Lib.hid hu
    obtain ⟨U, e1, rfl⟩ := tms_slice hu
    clear hu
    have g1 := hal.trans hg1
    have f0 : ∀ W, Grew w1 W → W.cell? ⟨w.heap.size, 0, none⟩ = some (.int .i64 5) := fun W hW => ((hg1.trans hW).cell (p := ⟨w.heap.size, 0, none⟩) (by simp)).trans (by simp)
    go_wp2_with fail
    refine (KI.out _ _ g1 HU.out).mono ?_
    rintro e w2 ⟨rfl, hg2⟩
    have g2 := g1.trans hg2
    go_wp2_with fail
    go_ret
    exact ⟨rfl, g2⟩
  · rw [hC] at KI ⊢
    change Calls _ _ _ _ (fun e w' => e = .returned (.string (tx q)) ∧ Grew w w')
    have hok := HOK _ hC
    have KL := Lib.hid (fun w => l25Parts_yes 2 (.and p q) p q w hok rfl rfl)
    have hne := tx_ne (.and p q)
    rw [show otx (some (.and p q)) = tx (.and p q) from rfl] at KI
    clear HOK hC hok
    generalize tx (.and p q) = tc at *
    generalize tx p = tp at *
    generalize tx q = tq at *
    replace KI := Lib.hid KI
    go_enter Tryz.func46, Tryz.ntmps46
    go_wp2_with fail
    refine (KP.out _ hal).mono ?_
    rintro e w1 ⟨u, rfl, hu, hg1⟩
    have HU := Lib.hid hu
    obtain ⟨U, e1, rfl⟩ := tms_slice hu
    clear hu
    have g1 := hal.trans hg1
    have f0 : ∀ W, Grew w1 W → W.cell? ⟨w.heap.size, 0, none⟩ = some (.int .i64 5) := fun W hW => ((hg1.trans hW).cell (p := ⟨w.heap.size, 0, none⟩) (by simp)).trans (by simp)
    go_wp2_with fail
    refine (KI.out _ _ g1 HU.out).mono ?_
    rintro e w2 ⟨rfl, hg2⟩
    have g2 := g1.trans hg2
    go_wp2_with fail
    refine (KL.out _).mono ?_
    rintro e w3 ⟨rfl, hg3⟩
    have f3 := f0 _ (hg2.trans hg3)
    go_wp2_with fail
    go_ret
    exact ⟨rfl, g2.trans hg3⟩
  · rw [hC] at KI ⊢
    rw [show (some C).bind (ty1 5 A) = none from h1]
    change Calls _ _ _ _ (fun e w' => e = .returned (.string ByteArray.empty) ∧ Grew w w')
    have hok := HOK _ hC
    have KL := Lib.hid (fun w => l25Parts_no 2 C w hok hk2)
    have hne := tx_ne C
    rw [show otx (some C) = tx C from rfl] at KI
    clear HOK hC hok h1 hk2
    generalize tx C = tc at *
    replace KI := Lib.hid KI
    go_enter Tryz.func46, Tryz.ntmps46
    go_wp2_with fail
    refine (KP.out _ hal).mono ?_
    rintro e w1 ⟨u, rfl, hu, hg1⟩
    have HU := Lib.hid hu
    obtain ⟨U, e1, rfl⟩ := tms_slice hu
    clear hu
    have g1 := hal.trans hg1
    have f0 : ∀ W, Grew w1 W → W.cell? ⟨w.heap.size, 0, none⟩ = some (.int .i64 5) := fun W hW => ((hg1.trans hW).cell (p := ⟨w.heap.size, 0, none⟩) (by simp)).trans (by simp)
    go_wp2_with fail
    refine (KI.out _ _ g1 HU.out).mono ?_
    rintro e w2 ⟨rfl, hg2⟩
    have g2 := g1.trans hg2
    go_wp2_with fail
    refine (KL.out _).mono ?_
    rintro e w3 ⟨rfl, hg3⟩
    go_wp2_with fail
    go_ret
    exact ⟨rfl, g2.trans hg3⟩
end Go.Proofs.YtfpkfgimhanekaaGreat

/- l26Type of the injections. -/
namespace Go.Proofs.YtfpkfgimhanekaaGreat
open Go.RowKit
open Tr (Tm)

theorem l26Type_inl (x : Tn) (a : Tm) (hg : Good (.t1 x a)) (hk : x.1 = 6) (G : List Fm.Tree) (hG : ∀ A ∈ G, FmOk A) (_hl : G.length ≤ 12) (IH : TypS a G) (va v : Value) (w : World) (hs : Strs w va (G.map tx)) (h : Tms w v (Tr.enc (.t1 x a))) (hn : (Tr.enc (.t1 x a)).length ≤ 60) :
    Calls Tryz.prog 46 #[va, v] w fun e w' => e = .returned (.string (otx (ty G (.t1 x a)))) ∧ Grew w w' := by
  have hty : ty G (.t1 x a) = (ty G a).bind (ty1 6 (fo x.2.2)) := by
    rw [ty, if_neg (by rw [hk]; decide), hk]
  rw [hty]
  have KP := Lib.hid (fun W (hW : Grew w W) => by
    have h1 := l26Part_c v (.t1 x a) 0 W (h.grew hW) hg (by omega) (by decide : 0 < 1)
    rw [show Tr.kid (.t1 x a) 0 = a from rfl] at h1
    exact h1)
  obtain ⟨b, o, c, rfl, hc, hm, hb, hcl⟩ := tms_head h
  have k0 := fun W (hW : Grew w W) => (hcl W hW).1
  have k1 := fun W (hW : Grew w W) => (hcl W hW).2.1
  have k2 := fun W (hW : Grew w W) => (hcl W hW).2.2
  change ∀ W, Grew w W → W.cell? ⟨b, o, none⟩ = some (.int .i64 x.1) at k0
  change ∀ W, Grew w W → W.cell? ⟨b, o + 1, none⟩ = some (.int .i64 x.2.1) at k1
  change ∀ W, Grew w W → W.cell? ⟨b, o + 2, none⟩ = some (.string x.2.2) at k2
  rw [hk] at k0
  have hpos := Tr.enc_pos (.t1 x a)
  have hal := (Grew.refl w).alloc (.cells #[.int .i64 6, .int .i64 x.2.1, .string x.2.2] 45)
  have hr := Grew.refl w
  have HOK := fun B hB => ty_ok a hg.2 G B hG hB
  have KI := fun u W (hW : Grew w W) hu => IH va u W (hs.grew hW) hu
  obtain ⟨D, d, rfl⟩ := (strs_map hs).1
  have hA := fo_ok (goodN_text hg.1.2 (by rw [hk]; rfl) (by rw [hk]; decide))
  clear hcl h hg hty IH hs hG
  generalize fo x.2.2 = A at *
  rw [← hA.2] at k2 hal
  generalize x.2.1 = xn at *
  generalize (Tr.enc (.t1 x a)).length = n at *
  generalize G.length = gl at *
  have hC : ty G a = none ∨ ∃ C, ty G a = some C := by
    cases ty G a with
    | none => exact .inl rfl
    | some C => exact .inr ⟨C, rfl⟩
  rcases hC with hC | ⟨C, hC⟩
  · rw [hC] at KI ⊢
    change Calls _ _ _ _ (fun e w' => e = .returned (.string ByteArray.empty) ∧ Grew w w')
    rw [show otx none = ByteArray.empty from rfl] at KI
    clear HOK hC hA
    generalize tx A = ta at *
    replace KI := Lib.hid KI
    go_enter Tryz.func46, Tryz.ntmps46
    go_wp2_with fail
    refine (KP.out _ hal).mono ?_
    rintro e w1 ⟨u, rfl, hu, hg1⟩
    have HU := Lib.hid hu
    obtain ⟨U, e1, rfl⟩ := tms_slice hu
    clear hu
    have g1 := hal.trans hg1
    have f0 : ∀ W, Grew w1 W → W.cell? ⟨w.heap.size, 0, none⟩ = some (.int .i64 6) := fun W hW => ((hg1.trans hW).cell (p := ⟨w.heap.size, 0, none⟩) (by simp)).trans (by simp)
    go_wp2_with fail
    refine (KI.out _ _ g1 HU.out).mono ?_
    rintro e w2 ⟨rfl, hg2⟩
    have g2 := g1.trans hg2
    go_wp2_with fail
    go_ret
    exact ⟨rfl, g2⟩
  · rw [hC] at KI ⊢
    change Calls _ _ _ _ (fun e w' => e = .returned (.string (otx (smallF (.or C A)))) ∧ Grew w w')
    rw [otx_small]
    have hok := HOK _ hC
    have KL := Lib.hid (fun w => l26Joined_c 3 C A (.or C A) w hok.1 hA.1.1 rfl)
    have hne := tx_ne C
    rw [show otx (some C) = tx C from rfl] at KI
    clear HOK hC hok
    generalize (if (Fm.enc (.or C A)).length ≤ 40 then tx (.or C A) else ByteArray.empty) = Z at *
    clear hA
    generalize tx C = tc at *
    generalize tx A = ta at *
    replace KI := Lib.hid KI
    go_enter Tryz.func46, Tryz.ntmps46
    go_wp2_with fail
    refine (KP.out _ hal).mono ?_
    rintro e w1 ⟨u, rfl, hu, hg1⟩
    have HU := Lib.hid hu
    obtain ⟨U, e1, rfl⟩ := tms_slice hu
    clear hu
    have g1 := hal.trans hg1
    have f0 : ∀ W, Grew w1 W → W.cell? ⟨w.heap.size, 0, none⟩ = some (.int .i64 6) := fun W hW => ((hg1.trans hW).cell (p := ⟨w.heap.size, 0, none⟩) (by simp)).trans (by simp)
    go_wp2_with fail
    refine (KI.out _ _ g1 HU.out).mono ?_
    rintro e w2 ⟨rfl, hg2⟩
    have g2 := g1.trans hg2
    have f2 : ∀ W, Grew w2 W → W.cell? ⟨w.heap.size, 2, none⟩ = some (.string ta) := fun W hW => (((hg1.trans hg2).trans hW).cell (p := ⟨w.heap.size, 2, none⟩) (by simp)).trans (by simp)
    have r2 := Grew.refl w2
    go_wp2_with fail
    refine (KL.out _).mono ?_
    rintro e w3 ⟨rfl, hg3⟩
    go_wp2_with fail
    go_ret
    exact ⟨rfl, g2.trans hg3⟩

theorem l26Type_inr (x : Tn) (a : Tm) (hg : Good (.t1 x a)) (hk : x.1 = 7) (G : List Fm.Tree) (hG : ∀ A ∈ G, FmOk A) (_hl : G.length ≤ 12) (IH : TypS a G) (va v : Value) (w : World) (hs : Strs w va (G.map tx)) (h : Tms w v (Tr.enc (.t1 x a))) (hn : (Tr.enc (.t1 x a)).length ≤ 60) :
    Calls Tryz.prog 46 #[va, v] w fun e w' => e = .returned (.string (otx (ty G (.t1 x a)))) ∧ Grew w w' := by
  have hty : ty G (.t1 x a) = (ty G a).bind (ty1 7 (fo x.2.2)) := by
    rw [ty, if_neg (by rw [hk]; decide), hk]
  rw [hty]
  have KP := Lib.hid (fun W (hW : Grew w W) => by
    have h1 := l26Part_c v (.t1 x a) 0 W (h.grew hW) hg (by omega) (by decide : 0 < 1)
    rw [show Tr.kid (.t1 x a) 0 = a from rfl] at h1
    exact h1)
  obtain ⟨b, o, c, rfl, hc, hm, hb, hcl⟩ := tms_head h
  have k0 := fun W (hW : Grew w W) => (hcl W hW).1
  have k1 := fun W (hW : Grew w W) => (hcl W hW).2.1
  have k2 := fun W (hW : Grew w W) => (hcl W hW).2.2
  change ∀ W, Grew w W → W.cell? ⟨b, o, none⟩ = some (.int .i64 x.1) at k0
  change ∀ W, Grew w W → W.cell? ⟨b, o + 1, none⟩ = some (.int .i64 x.2.1) at k1
  change ∀ W, Grew w W → W.cell? ⟨b, o + 2, none⟩ = some (.string x.2.2) at k2
  rw [hk] at k0
  have hpos := Tr.enc_pos (.t1 x a)
  have hal := (Grew.refl w).alloc (.cells #[.int .i64 7, .int .i64 x.2.1, .string x.2.2] 45)
  have hr := Grew.refl w
  have HOK := fun B hB => ty_ok a hg.2 G B hG hB
  have KI := fun u W (hW : Grew w W) hu => IH va u W (hs.grew hW) hu
  obtain ⟨D, d, rfl⟩ := (strs_map hs).1
  have hA := fo_ok (goodN_text hg.1.2 (by rw [hk]; rfl) (by rw [hk]; decide))
  clear hcl h hg hty IH hs hG
  generalize fo x.2.2 = A at *
  rw [← hA.2] at k2 hal
  generalize x.2.1 = xn at *
  generalize (Tr.enc (.t1 x a)).length = n at *
  generalize G.length = gl at *
  have hC : ty G a = none ∨ ∃ C, ty G a = some C := by
    cases ty G a with
    | none => exact .inl rfl
    | some C => exact .inr ⟨C, rfl⟩
  rcases hC with hC | ⟨C, hC⟩
  · rw [hC] at KI ⊢
    change Calls _ _ _ _ (fun e w' => e = .returned (.string ByteArray.empty) ∧ Grew w w')
    rw [show otx none = ByteArray.empty from rfl] at KI
    clear HOK hC hA
    generalize tx A = ta at *
    replace KI := Lib.hid KI
    go_enter Tryz.func46, Tryz.ntmps46
    go_wp2_with fail
    refine (KP.out _ hal).mono ?_
    rintro e w1 ⟨u, rfl, hu, hg1⟩
    have HU := Lib.hid hu
    obtain ⟨U, e1, rfl⟩ := tms_slice hu
    clear hu
    have g1 := hal.trans hg1
    have f0 : ∀ W, Grew w1 W → W.cell? ⟨w.heap.size, 0, none⟩ = some (.int .i64 7) := fun W hW => ((hg1.trans hW).cell (p := ⟨w.heap.size, 0, none⟩) (by simp)).trans (by simp)
    go_wp2_with fail
    refine (KI.out _ _ g1 HU.out).mono ?_
    rintro e w2 ⟨rfl, hg2⟩
    have g2 := g1.trans hg2
    go_wp2_with fail
    go_ret
    exact ⟨rfl, g2⟩
  · rw [hC] at KI ⊢
    change Calls _ _ _ _ (fun e w' => e = .returned (.string (otx (smallF (.or A C)))) ∧ Grew w w')
    rw [otx_small]
    have hok := HOK _ hC
    have KL := Lib.hid (fun w => l26Joined_c 3 A C (.or A C) w hA.1.1 hok.1 rfl)
    have hne := tx_ne C
    rw [show otx (some C) = tx C from rfl] at KI
    clear HOK hC hok
    generalize (if (Fm.enc (.or A C)).length ≤ 40 then tx (.or A C) else ByteArray.empty) = Z at *
    clear hA
    generalize tx C = tc at *
    generalize tx A = ta at *
    replace KI := Lib.hid KI
    go_enter Tryz.func46, Tryz.ntmps46
    go_wp2_with fail
    refine (KP.out _ hal).mono ?_
    rintro e w1 ⟨u, rfl, hu, hg1⟩
    have HU := Lib.hid hu
    obtain ⟨U, e1, rfl⟩ := tms_slice hu
    clear hu
    have g1 := hal.trans hg1
    have f0 : ∀ W, Grew w1 W → W.cell? ⟨w.heap.size, 0, none⟩ = some (.int .i64 7) := fun W hW => ((hg1.trans hW).cell (p := ⟨w.heap.size, 0, none⟩) (by simp)).trans (by simp)
    go_wp2_with fail
    refine (KI.out _ _ g1 HU.out).mono ?_
    rintro e w2 ⟨rfl, hg2⟩
    have g2 := g1.trans hg2
    have f2 : ∀ W, Grew w2 W → W.cell? ⟨w.heap.size, 2, none⟩ = some (.string ta) := fun W hW => (((hg1.trans hg2).trans hW).cell (p := ⟨w.heap.size, 2, none⟩) (by simp)).trans (by simp)
    have r2 := Grew.refl w2
    go_wp2_with fail
    refine (KL.out _).mono ?_
    rintro e w3 ⟨rfl, hg3⟩
    go_wp2_with fail
    go_ret
    exact ⟨rfl, g2.trans hg3⟩
end Go.Proofs.YtfpkfgimhanekaaGreat

/- l26Type of a pair. -/
namespace Go.Proofs.YtfpkfgimhanekaaGreat
open Go.RowKit
open Tr (Tm)

theorem l26Type_pair (x : Tn) (a b : Tm) (hg : Good (.t2 x a b)) (hk : x.1 = 3) (G : List Fm.Tree) (hG : ∀ A ∈ G, FmOk A) (hl : G.length ≤ 12) (IHa : TypS a G) (IHb : TypS b G) (va v : Value) (w : World) (hs : Strs w va (G.map tx)) (h : Tms w v (Tr.enc (.t2 x a b))) (hn : (Tr.enc (.t2 x a b)).length ≤ 60) :
    Calls Tryz.prog 46 #[va, v] w fun e w' => e = .returned (.string (otx (ty G (.t2 x a b)))) ∧ Grew w w' := by
  have hty : ty G (.t2 x a b) = (ty G a).bind fun C => (ty G b).bind fun D => smallF (.and C D) := by
    rw [ty]
    simp [ty2, hk]
  rw [hty]
  have KP := Lib.hid (fun W (hW : Grew w W) => by
    have h1 := l26Part_c v (.t2 x a b) 0 W (h.grew hW) hg (by omega) (by decide : 0 < 2)
    rw [show Tr.kid (.t2 x a b) 0 = a from rfl] at h1
    exact h1)
  have KQ := Lib.hid (fun W (hW : Grew w W) => by
    have h1 := l26Part_c v (.t2 x a b) 1 W (h.grew hW) hg (by omega) (by decide : 1 < 2)
    rw [show Tr.kid (.t2 x a b) 1 = b from rfl] at h1
    exact h1)
  obtain ⟨bb, o, c, rfl, hc, hm, hb, hcl⟩ := tms_head h
  have k0 := fun W (hW : Grew w W) => (hcl W hW).1
  have k1 := fun W (hW : Grew w W) => (hcl W hW).2.1
  have k2 := fun W (hW : Grew w W) => (hcl W hW).2.2
  change ∀ W, Grew w W → W.cell? ⟨bb, o, none⟩ = some (.int .i64 x.1) at k0
  change ∀ W, Grew w W → W.cell? ⟨bb, o + 1, none⟩ = some (.int .i64 x.2.1) at k1
  change ∀ W, Grew w W → W.cell? ⟨bb, o + 2, none⟩ = some (.string x.2.2) at k2
  rw [hk] at k0
  have hpos := Tr.enc_pos (.t2 x a b)
  have hal := (Grew.refl w).alloc (.cells #[.int .i64 3, .int .i64 x.2.1, .string x.2.2] 45)
  have hr := Grew.refl w
  have HA := fun B hB => ty_ok a hg.2.1 G B hG hB
  have HB := fun B hB => ty_ok b hg.2.2 G B hG hB
  have KI := fun u W (hW : Grew w W) hu => IHa va u W (hs.grew hW) hu
  have KJ := fun u W (hW : Grew w W) hu => IHb va u W (hs.grew hW) hu
  obtain ⟨D0, d, rfl⟩ := (strs_map hs).1
  clear hcl h hg hty IHa IHb hs hG
  generalize x.2.1 = xn at *
  generalize x.2.2 = xs at *
  generalize (Tr.enc (.t2 x a b)).length = n at *
  generalize G.length = gl at *
  generalize ty G a = ra at *
  generalize ty G b = rb at *
  cases ra with
  | none =>
    change Calls _ _ _ _ (fun e w' => e = .returned (.string ByteArray.empty) ∧ Grew w w')
    rw [show otx none = ByteArray.empty from rfl] at KI
    clear HA HB
    replace KI := Lib.hid KI
    replace KJ := Lib.hid KJ
    go_enter Tryz.func46, Tryz.ntmps46
    go_wp2_with fail
    refine (KP.out _ hal).mono ?_
    rintro e w1 ⟨u, rfl, hu, hg1⟩
    have HU := Lib.hid hu
    obtain ⟨U, e1, rfl⟩ := tms_slice hu
    clear hu
    have g1 := hal.trans hg1
    have f0 : ∀ W, Grew w1 W → W.cell? ⟨w.heap.size, 0, none⟩ = some (.int .i64 3) := fun W hW => ((hg1.trans hW).cell (p := ⟨w.heap.size, 0, none⟩) (by simp)).trans (by simp)
    go_wp2_with fail
    refine (KI.out _ _ g1 HU.out).mono ?_
    rintro e w2 ⟨rfl, hg2⟩
    have g2 := g1.trans hg2
    go_wp2_with fail
    go_ret
    exact ⟨rfl, g2⟩
  | some C =>
    have hneC := tx_ne C
    have hokC := (HA C rfl).1
    rw [show otx (some C) = tx C from rfl] at KI
    cases rb with
    | none =>
      change Calls _ _ _ _ (fun e w' => e = .returned (.string ByteArray.empty) ∧ Grew w w')
      rw [show otx none = ByteArray.empty from rfl] at KJ
      clear HA HB hokC
      generalize tx C = tc at *
      replace KI := Lib.hid KI
      replace KJ := Lib.hid KJ
      go_enter Tryz.func46, Tryz.ntmps46
      go_wp2_with fail
      refine (KP.out _ hal).mono ?_
      rintro e w1 ⟨u, rfl, hu, hg1⟩
      have HU := Lib.hid hu
      obtain ⟨U, e1, rfl⟩ := tms_slice hu
      clear hu
      have g1 := hal.trans hg1
      have f0 : ∀ W, Grew w1 W → W.cell? ⟨w.heap.size, 0, none⟩ = some (.int .i64 3) := fun W hW => ((hg1.trans hW).cell (p := ⟨w.heap.size, 0, none⟩) (by simp)).trans (by simp)
      go_wp2_with fail
      refine (KI.out _ _ g1 HU.out).mono ?_
      rintro e w2 ⟨rfl, hg2⟩
      have g2 := g1.trans hg2
      have f1 := f0 _ hg2
      go_wp2_with fail
      refine (KQ.out _ g2).mono ?_
      rintro e w3 ⟨u3, rfl, hu3, hg3⟩
      have HU3 := Lib.hid hu3
      obtain ⟨U3, e3, rfl⟩ := tms_slice hu3
      clear hu3
      have g3 := g2.trans hg3
      go_wp2_with fail
      refine (KJ.out _ _ g3 HU3.out).mono ?_
      rintro e w4 ⟨rfl, hg4⟩
      have g4 := g3.trans hg4
      have f4 := f0 _ ((hg2.trans hg3).trans hg4)
      go_wp2_with fail
      go_ret
      exact ⟨rfl, g4⟩
    | some D =>
      have hneD := tx_ne D
      have hokD := (HB D rfl).1
      rw [show otx (some D) = tx D from rfl] at KJ
      change Calls _ _ _ _ (fun e w' => e = .returned (.string (otx (smallF (.and C D)))) ∧ Grew w w')
      rw [otx_small]
      have KL := Lib.hid (fun w => l26Joined_c 2 C D (.and C D) w hokC hokD rfl)
      clear HA HB hokC hokD
      generalize (if (Fm.enc (.and C D)).length ≤ 40 then tx (.and C D) else ByteArray.empty) = Z at *
      generalize tx C = tc at *
      generalize tx D = td at *
      replace KI := Lib.hid KI
      replace KJ := Lib.hid KJ
      go_enter Tryz.func46, Tryz.ntmps46
      go_wp2_with fail
      refine (KP.out _ hal).mono ?_
      rintro e w1 ⟨u, rfl, hu, hg1⟩
      have HU := Lib.hid hu
      obtain ⟨U, e1, rfl⟩ := tms_slice hu
      clear hu
      have g1 := hal.trans hg1
      have f0 : ∀ W, Grew w1 W → W.cell? ⟨w.heap.size, 0, none⟩ = some (.int .i64 3) := fun W hW => ((hg1.trans hW).cell (p := ⟨w.heap.size, 0, none⟩) (by simp)).trans (by simp)
      go_wp2_with fail
      refine (KI.out _ _ g1 HU.out).mono ?_
      rintro e w2 ⟨rfl, hg2⟩
      have g2 := g1.trans hg2
      have f1 := f0 _ hg2
      go_wp2_with fail
      refine (KQ.out _ g2).mono ?_
      rintro e w3 ⟨u3, rfl, hu3, hg3⟩
      have HU3 := Lib.hid hu3
      obtain ⟨U3, e3, rfl⟩ := tms_slice hu3
      clear hu3
      have g3 := g2.trans hg3
      go_wp2_with fail
      refine (KJ.out _ _ g3 HU3.out).mono ?_
      rintro e w4 ⟨rfl, hg4⟩
      have g4 := g3.trans hg4
      have f4 := f0 _ ((hg2.trans hg3).trans hg4)
      go_wp2_with fail
      refine (KL.out _).mono ?_
      rintro e w5 ⟨rfl, hg5⟩
      go_wp2_with fail
      go_ret
      exact ⟨rfl, g4.trans hg5⟩
end Go.Proofs.YtfpkfgimhanekaaGreat

/- l26Type of an application. -/
namespace Go.Proofs.YtfpkfgimhanekaaGreat
open Go.RowKit
open Tr (Tm)

theorem l26Type_app (x : Tn) (a b : Tm) (hg : Good (.t2 x a b)) (hk : x.1 = 2) (G : List Fm.Tree) (hG : ∀ A ∈ G, FmOk A) (hl : G.length ≤ 12) (IHa : TypS a G) (IHb : TypS b G) (va v : Value) (w : World) (hs : Strs w va (G.map tx)) (h : Tms w v (Tr.enc (.t2 x a b))) (hn : (Tr.enc (.t2 x a b)).length ≤ 60) :
    Calls Tryz.prog 46 #[va, v] w fun e w' => e = .returned (.string (otx (ty G (.t2 x a b)))) ∧ Grew w w' := by
  have hty : ty G (.t2 x a b) = (ty G a).bind fun C => (ty G b).bind fun D => ty2 2 C D := by
    rw [ty, hk]
  rw [hty]
  have KP := Lib.hid (fun W (hW : Grew w W) => by
    have h1 := l26Part_c v (.t2 x a b) 0 W (h.grew hW) hg (by omega) (by decide : 0 < 2)
    rw [show Tr.kid (.t2 x a b) 0 = a from rfl] at h1
    exact h1)
  have KQ := Lib.hid (fun W (hW : Grew w W) => by
    have h1 := l26Part_c v (.t2 x a b) 1 W (h.grew hW) hg (by omega) (by decide : 1 < 2)
    rw [show Tr.kid (.t2 x a b) 1 = b from rfl] at h1
    exact h1)
  obtain ⟨bb, o, c, rfl, hc, hm, hb, hcl⟩ := tms_head h
  have k0 := fun W (hW : Grew w W) => (hcl W hW).1
  have k1 := fun W (hW : Grew w W) => (hcl W hW).2.1
  have k2 := fun W (hW : Grew w W) => (hcl W hW).2.2
  change ∀ W, Grew w W → W.cell? ⟨bb, o, none⟩ = some (.int .i64 x.1) at k0
  change ∀ W, Grew w W → W.cell? ⟨bb, o + 1, none⟩ = some (.int .i64 x.2.1) at k1
  change ∀ W, Grew w W → W.cell? ⟨bb, o + 2, none⟩ = some (.string x.2.2) at k2
  rw [hk] at k0
  have hpos := Tr.enc_pos (.t2 x a b)
  have hal := (Grew.refl w).alloc (.cells #[.int .i64 2, .int .i64 x.2.1, .string x.2.2] 45)
  have hr := Grew.refl w
  have HA := fun B hB => ty_ok a hg.2.1 G B hG hB
  have HB := fun B hB => ty_ok b hg.2.2 G B hG hB
  have KI := fun u W (hW : Grew w W) hu => IHa va u W (hs.grew hW) hu
  have KJ := fun u W (hW : Grew w W) hu => IHb va u W (hs.grew hW) hu
  obtain ⟨D0, d, rfl⟩ := (strs_map hs).1
  clear hcl h hg hty IHa IHb hs hG
  generalize x.2.1 = xn at *
  generalize x.2.2 = xs at *
  generalize (Tr.enc (.t2 x a b)).length = n at *
  generalize G.length = gl at *
  generalize ty G a = ra at *
  generalize ty G b = rb at *
  cases ra with
  | none =>
    change Calls _ _ _ _ (fun e w' => e = .returned (.string ByteArray.empty) ∧ Grew w w')
    rw [show otx none = ByteArray.empty from rfl] at KI
    clear HA HB
    replace KI := Lib.hid KI
    replace KJ := Lib.hid KJ
    go_enter Tryz.func46, Tryz.ntmps46
    go_wp2_with fail
    refine (KP.out _ hal).mono ?_
    rintro e w1 ⟨u, rfl, hu, hg1⟩
    have HU := Lib.hid hu
    obtain ⟨U, e1, rfl⟩ := tms_slice hu
    clear hu
    have g1 := hal.trans hg1
    have f0 : ∀ W, Grew w1 W → W.cell? ⟨w.heap.size, 0, none⟩ = some (.int .i64 2) := fun W hW => ((hg1.trans hW).cell (p := ⟨w.heap.size, 0, none⟩) (by simp)).trans (by simp)
    go_wp2_with fail
    refine (KI.out _ _ g1 HU.out).mono ?_
    rintro e w2 ⟨rfl, hg2⟩
    have g2 := g1.trans hg2
    go_wp2_with fail
    go_ret
    exact ⟨rfl, g2⟩
  | some C =>
    have hneC := tx_ne C
    have hokC := (HA C rfl).1
    rw [show otx (some C) = tx C from rfl] at KI
    cases rb with
    | none =>
      change Calls _ _ _ _ (fun e w' => e = .returned (.string ByteArray.empty) ∧ Grew w w')
      rw [show otx none = ByteArray.empty from rfl] at KJ
      clear HA HB hokC
      generalize tx C = tc at *
      replace KI := Lib.hid KI
      replace KJ := Lib.hid KJ
      go_enter Tryz.func46, Tryz.ntmps46
      go_wp2_with fail
      refine (KP.out _ hal).mono ?_
      rintro e w1 ⟨u, rfl, hu, hg1⟩
      have HU := Lib.hid hu
      obtain ⟨U, e1, rfl⟩ := tms_slice hu
      clear hu
      have g1 := hal.trans hg1
      have f0 : ∀ W, Grew w1 W → W.cell? ⟨w.heap.size, 0, none⟩ = some (.int .i64 2) := fun W hW => ((hg1.trans hW).cell (p := ⟨w.heap.size, 0, none⟩) (by simp)).trans (by simp)
      go_wp2_with fail
      refine (KI.out _ _ g1 HU.out).mono ?_
      rintro e w2 ⟨rfl, hg2⟩
      have g2 := g1.trans hg2
      have f1 := f0 _ hg2
      go_wp2_with fail
      refine (KQ.out _ g2).mono ?_
      rintro e w3 ⟨u3, rfl, hu3, hg3⟩
      have HU3 := Lib.hid hu3
      obtain ⟨U3, e3, rfl⟩ := tms_slice hu3
      clear hu3
      have g3 := g2.trans hg3
      go_wp2_with fail
      refine (KJ.out _ _ g3 HU3.out).mono ?_
      rintro e w4 ⟨rfl, hg4⟩
      have g4 := g3.trans hg4
      have f4 := f0 _ ((hg2.trans hg3).trans hg4)
      go_wp2_with fail
      go_ret
      exact ⟨rfl, g4⟩
    | some D =>
      have hneD := tx_ne D
      have hokD := (HB D rfl).1
      have hokC2 := HA C rfl
      rw [show otx (some D) = tx D from rfl] at KJ
      have hCC : (∃ p q, C = .imp p q) ∨ (kindOf C ≠ 4 ∧ ty2 2 C D = none) := by
        cases C with
        | imp p q => exact .inl ⟨p, q, rfl⟩
        | _ => exact .inr ⟨by simp [kindOf], by simp [ty2]⟩
      rcases hCC with ⟨p, q, rfl⟩ | ⟨hk4, hno⟩
      · have KL := Lib.hid (fun w => l25Parts_yes 4 (.imp p q) p q w hokC2 rfl rfl)
        by_cases hpd : p = D
        · subst hpd
          have hR : ((some (.imp p q)).bind fun C => (some p).bind fun D => ty2 2 C D) = some q := by simp [ty2]
          rw [hR]
          change Calls _ _ _ _ (fun e w' => e = .returned (.string (tx q)) ∧ Grew w w')
          clear HA HB hokC hokD hokC2 hR
          generalize tx (.imp p q) = tc at *
          generalize tx p = td at *
          generalize tx q = tq at *
          replace KI := Lib.hid KI
          replace KJ := Lib.hid KJ
          go_enter Tryz.func46, Tryz.ntmps46
          go_wp2_with fail
          refine (KP.out _ hal).mono ?_
          rintro e w1 ⟨u, rfl, hu, hg1⟩
          have HU := Lib.hid hu
          obtain ⟨U, e1, rfl⟩ := tms_slice hu
          clear hu
          have g1 := hal.trans hg1
          have f0 : ∀ W, Grew w1 W → W.cell? ⟨w.heap.size, 0, none⟩ = some (.int .i64 2) := fun W hW => ((hg1.trans hW).cell (p := ⟨w.heap.size, 0, none⟩) (by simp)).trans (by simp)
          go_wp2_with fail
          refine (KI.out _ _ g1 HU.out).mono ?_
          rintro e w2 ⟨rfl, hg2⟩
          have g2 := g1.trans hg2
          have f1 := f0 _ hg2
          go_wp2_with fail
          refine (KQ.out _ g2).mono ?_
          rintro e w3 ⟨u3, rfl, hu3, hg3⟩
          have HU3 := Lib.hid hu3
          obtain ⟨U3, e3, rfl⟩ := tms_slice hu3
          clear hu3
          have g3 := g2.trans hg3
          go_wp2_with fail
          refine (KJ.out _ _ g3 HU3.out).mono ?_
          rintro e w4 ⟨rfl, hg4⟩
          have g4 := g3.trans hg4
          have f4 := f0 _ ((hg2.trans hg3).trans hg4)
          go_wp2_with fail
          refine (KL.out _).mono ?_
          rintro e w5 ⟨rfl, hg5⟩
          go_wp2_with fail
          go_ret
          exact ⟨rfl, g4.trans hg5⟩
        · have hR : ((some (.imp p q)).bind fun C => (some D).bind fun D => ty2 2 C D) = none := by simp [ty2, hpd]
          rw [hR]
          have hokp := (fmOk_imp hokC2).1.1
          have hneq : tx p ≠ tx D := fun hh => hpd (tx_inj hokp hokD hh)
          have hb1 : ((tx p).toList == (tx D).toList) = false := by
            cases hq : ((tx p).toList == (tx D).toList) with
            | false => rfl
            | true => exact absurd ((Lib.bytes_beq_iff _ _).1 hq) hneq
          have hb2 : ((tx p).toList != (tx D).toList) = true := by rw [bne, hb1]; rfl
          change Calls _ _ _ _ (fun e w' => e = .returned (.string ByteArray.empty) ∧ Grew w w')
          clear HA HB hokC hokD hokC2 hR hokp hneq hpd
          generalize tx (.imp p q) = tc at *
          generalize tx p = tp at *
          generalize tx D = td at *
          generalize tx q = tq at *
          replace KI := Lib.hid KI
          replace KJ := Lib.hid KJ
          go_enter Tryz.func46, Tryz.ntmps46
          go_wp2_with fail
          refine (KP.out _ hal).mono ?_
          rintro e w1 ⟨u, rfl, hu, hg1⟩
          have HU := Lib.hid hu
          obtain ⟨U, e1, rfl⟩ := tms_slice hu
          clear hu
          have g1 := hal.trans hg1
          have f0 : ∀ W, Grew w1 W → W.cell? ⟨w.heap.size, 0, none⟩ = some (.int .i64 2) := fun W hW => ((hg1.trans hW).cell (p := ⟨w.heap.size, 0, none⟩) (by simp)).trans (by simp)
          go_wp2_with fail
          refine (KI.out _ _ g1 HU.out).mono ?_
          rintro e w2 ⟨rfl, hg2⟩
          have g2 := g1.trans hg2
          have f1 := f0 _ hg2
          go_wp2_with fail
          refine (KQ.out _ g2).mono ?_
          rintro e w3 ⟨u3, rfl, hu3, hg3⟩
          have HU3 := Lib.hid hu3
          obtain ⟨U3, e3, rfl⟩ := tms_slice hu3
          clear hu3
          have g3 := g2.trans hg3
          go_wp2_with fail
          refine (KJ.out _ _ g3 HU3.out).mono ?_
          rintro e w4 ⟨rfl, hg4⟩
          have g4 := g3.trans hg4
          have f4 := f0 _ ((hg2.trans hg3).trans hg4)
          go_wp2_with fail
          refine (KL.out _).mono ?_
          rintro e w5 ⟨rfl, hg5⟩
          go_wp2_with fail
          go_ret
          exact ⟨rfl, g4.trans hg5⟩
      · have KL := Lib.hid (fun w => l25Parts_no 4 C w hokC2 hk4)
        rw [show ((some C).bind fun C => (some D).bind fun D => ty2 2 C D) = none from hno]
        change Calls _ _ _ _ (fun e w' => e = .returned (.string ByteArray.empty) ∧ Grew w w')
        clear HA HB hokC hokD hokC2 hno hk4
        generalize tx C = tc at *
        generalize tx D = td at *
        replace KI := Lib.hid KI
        replace KJ := Lib.hid KJ
        go_enter Tryz.func46, Tryz.ntmps46
        go_wp2_with fail
        refine (KP.out _ hal).mono ?_
        rintro e w1 ⟨u, rfl, hu, hg1⟩
        have HU := Lib.hid hu
        obtain ⟨U, e1, rfl⟩ := tms_slice hu
        clear hu
        have g1 := hal.trans hg1
        have f0 : ∀ W, Grew w1 W → W.cell? ⟨w.heap.size, 0, none⟩ = some (.int .i64 2) := fun W hW => ((hg1.trans hW).cell (p := ⟨w.heap.size, 0, none⟩) (by simp)).trans (by simp)
        go_wp2_with fail
        refine (KI.out _ _ g1 HU.out).mono ?_
        rintro e w2 ⟨rfl, hg2⟩
        have g2 := g1.trans hg2
        have f1 := f0 _ hg2
        go_wp2_with fail
        refine (KQ.out _ g2).mono ?_
        rintro e w3 ⟨u3, rfl, hu3, hg3⟩
        have HU3 := Lib.hid hu3
        obtain ⟨U3, e3, rfl⟩ := tms_slice hu3
        clear hu3
        have g3 := g2.trans hg3
        go_wp2_with fail
        refine (KJ.out _ _ g3 HU3.out).mono ?_
        rintro e w4 ⟨rfl, hg4⟩
        have g4 := g3.trans hg4
        have f4 := f0 _ ((hg2.trans hg3).trans hg4)
        go_wp2_with fail
        refine (KL.out _).mono ?_
        rintro e w5 ⟨rfl, hg5⟩
        go_wp2_with fail
        go_ret
        exact ⟨rfl, g4.trans hg5⟩
end Go.Proofs.YtfpkfgimhanekaaGreat

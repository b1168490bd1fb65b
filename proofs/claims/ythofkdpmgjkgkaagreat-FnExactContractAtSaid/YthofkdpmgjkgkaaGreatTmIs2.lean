/- Where a part of a term ends, and what a term is, of both. -/
import Derived.Test.YthofkdpmgjkgkaaGreatTmIs
import Derived.Test.YthofkdpmgjkgkaaGreatTmCont
namespace Go.Proofs.YthofkdpmgjkgkaaGreat
open Go.RowKit

theorem tnB_kind {k n : Int} {s : ByteArray} (h : ¬ (0 ≤ k ∧ k ≤ 9)) : tnB k n s = false := by
  unfold tnB typedB
  rw [if_neg (by simp; omega), if_neg (by simp; omega), decide_eq_false (by omega)]
  rfl
theorem tnB_range {k n : Int} {s : ByteArray} (h : ¬ (0 ≤ n ∧ n ≤ 99)) : tnB k n s = false := by
  unfold tnB
  split
  · rw [decide_eq_false h]; rfl
  · have : (n == 0) = false := by simp; omega
    rw [this]
    simp
theorem tnB_num {k n : Int} {s : ByteArray} (h0 : (k != 0) = true) (h1 : (n != 0) = true) : tnB k n s = false := by
  unfold tnB
  have h0' : ¬ (k == 0) = true := by simp at h0; simp [h0]
  have h1' : (n == 0) = false := by simp at h1; simp [h1]
  rw [if_neg h0', h1']
  simp
theorem tnB_typed {k n : Int} {s : ByteArray} (hn : 0 ≤ n ∧ n ≤ 99) (h : (k != 0) = false ∨ (n != 0) = false) (ht : typedB k = true) : tnB k n s = gp s := by
  have h0 : ¬ (k == 0) = true := fun e => by
    have : k = 0 := by simpa using e
    subst this
    simp [typedB] at ht
  unfold tnB
  rw [if_neg h0, if_pos ht]
  rcases h with h | h
  · simp at h; simp [h] at h0
  · simp at h; simp [h]
theorem tnB_plain {k n : Int} {s : ByteArray} (hk : 0 ≤ k ∧ k ≤ 9) (hn : 0 ≤ n ∧ n ≤ 99) (h : (k != 0) = false ∨ (n != 0) = false) (ht : typedB k = false) : tnB k n s = s.toList.isEmpty := by
  unfold tnB
  by_cases h0 : (k == 0) = true
  · rw [if_pos h0, decide_eq_true hn, Bool.true_and]
  · rw [if_neg h0, if_neg (by rw [ht]; simp)]
    have hne : k ≠ 0 := by simpa using h0
    rcases h with h | h
    · simp at h; omega
    · simp at h
      rw [h, decide_eq_true (by omega)]
      rfl

set_option maxHeartbeats 1600000 in
theorem l26Node_c (k n : Int) (s : ByteArray) (w : World) (hs : s.size ≤ 140737488355328) :
    Calls Tryz.prog 83 #[.agg #[.int .i64 k, .int .i64 n, .string s]] w fun e w' => e = .returned (.bool (tnB k n s)) ∧ Grew w w' := by
  have HP := fun w => l26Parts_c k w
  have hr := Grew.refl w
  by_cases hk : 0 ≤ k ∧ k ≤ 9
  · rw [if_pos hk] at HP
    have hp0 : (0 : Int) ≤ (Tr.ar k : Int) := by omega
    have HI := fun w => l01In_c n 0 99 w
    cases h0 : (k != 0 && n != 0) with
    | true =>
      simp only [Bool.and_eq_true] at h0
      obtain ⟨h0, h1⟩ := h0
      rw [tnB_num h0 h1]
      generalize Tr.ar k = a at *
      replace HP := Lib.hid HP
      go_enter Tryz.func83, Tryz.ntmps83
      go_wp2_with fail
      refine (HP.out _).mono ?_
      rintro e w1 ⟨rfl, hg1⟩
      have k0 : ∀ W, Grew w1 W → W.cell? ⟨w.heap.size, 0, none⟩ = some (.int .i64 k) := fun W hW => ((hg1.trans hW).cell (by simp)).trans (by simp)
      have k1 : ∀ W, Grew w1 W → W.cell? ⟨w.heap.size, 1, none⟩ = some (.int .i64 n) := fun W hW => ((hg1.trans hW).cell (by simp)).trans (by simp)
      have hr1 := Grew.refl w1
      go_wp2_with fail
      go_ret
      exact ⟨rfl, Grew.of_alloc hg1⟩
    | false =>
      have hor : (k != 0) = false ∨ (n != 0) = false := by
        cases hk0 : (k != 0) with
        | false => exact .inl rfl
        | true => rw [hk0] at h0; exact .inr h0
      by_cases hn : 0 ≤ n ∧ n ≤ 99
      · rw [decide_eq_true hn] at HI
        have HT := fun w => l26Typed_c k w
        cases ht : typedB k with
        | true =>
          rw [tnB_typed hn hor ht]
          rw [ht] at HT
          have HF := fun w => l25Formula_c s w hs
          unfold GivesP at HF
          generalize gp s = g at *
          generalize Tr.ar k = a at *
          replace HP := Lib.hid HP
          replace HI := Lib.hid HI
          replace HT := Lib.hid HT
          replace HF := Lib.hid HF
          clear ht
          rcases hor with hz | hz
          all_goals
            go_enter Tryz.func83, Tryz.ntmps83
            go_wp2_with fail
            refine (HP.out _).mono ?_
            rintro e w1 ⟨rfl, hg1⟩
            have k0 : ∀ W, Grew w1 W → W.cell? ⟨w.heap.size, 0, none⟩ = some (.int .i64 k) := fun W hW => ((hg1.trans hW).cell (by simp)).trans (by simp)
            have k1 : ∀ W, Grew w1 W → W.cell? ⟨w.heap.size, 1, none⟩ = some (.int .i64 n) := fun W hW => ((hg1.trans hW).cell (by simp)).trans (by simp)
            have k2 : ∀ W, Grew w1 W → W.cell? ⟨w.heap.size, 2, none⟩ = some (.string s) := fun W hW => ((hg1.trans hW).cell (by simp)).trans (by simp)
            have hr1 := Grew.refl w1
            first
              | cases hkz : (k != 0) with
                | true =>
                  go_wp2_with fail
                  refine (HI.out _).mono ?_
                  rintro e w2 ⟨rfl, hg2⟩
                  go_wp2_with fail
                  refine (HT.out _).mono ?_
                  rintro e w3 ⟨rfl, hg3⟩
                  have hk13 := hg2.trans hg3
                  go_wp2_with fail
                  refine (HF.out _).mono ?_
                  rintro e w4 ⟨q, rfl, _, hg4⟩
                  go_wp2_with fail
                  go_ret
                  exact ⟨rfl, Grew.of_alloc ((hg1.trans hk13).trans hg4)⟩
                | false =>
                  go_wp2_with fail
                  refine (HI.out _).mono ?_
                  rintro e w2 ⟨rfl, hg2⟩
                  go_wp2_with fail
                  refine (HT.out _).mono ?_
                  rintro e w3 ⟨rfl, hg3⟩
                  have hk13 := hg2.trans hg3
                  go_wp2_with fail
                  refine (HF.out _).mono ?_
                  rintro e w4 ⟨q, rfl, _, hg4⟩
                  go_wp2_with fail
                  go_ret
                  exact ⟨rfl, Grew.of_alloc ((hg1.trans hk13).trans hg4)⟩
        | false =>
          rw [tnB_plain hk hn hor ht]
          rw [ht] at HT
          generalize Tr.ar k = a at *
          replace HP := Lib.hid HP
          replace HI := Lib.hid HI
          replace HT := Lib.hid HT
          clear ht
          rcases hor with hz | hz
          all_goals
            go_enter Tryz.func83, Tryz.ntmps83
            go_wp2_with fail
            refine (HP.out _).mono ?_
            rintro e w1 ⟨rfl, hg1⟩
            have k0 : ∀ W, Grew w1 W → W.cell? ⟨w.heap.size, 0, none⟩ = some (.int .i64 k) := fun W hW => ((hg1.trans hW).cell (by simp)).trans (by simp)
            have k1 : ∀ W, Grew w1 W → W.cell? ⟨w.heap.size, 1, none⟩ = some (.int .i64 n) := fun W hW => ((hg1.trans hW).cell (by simp)).trans (by simp)
            have k2 : ∀ W, Grew w1 W → W.cell? ⟨w.heap.size, 2, none⟩ = some (.string s) := fun W hW => ((hg1.trans hW).cell (by simp)).trans (by simp)
            have hr1 := Grew.refl w1
            first
              | cases hkz : (k != 0) with
                | true =>
                  go_wp2_with fail
                  refine (HI.out _).mono ?_
                  rintro e w2 ⟨rfl, hg2⟩
                  go_wp2_with fail
                  refine (HT.out _).mono ?_
                  rintro e w3 ⟨rfl, hg3⟩
                  have hk13 := hg2.trans hg3
                  go_wp2_with fail
                  go_ret
                  exact ⟨rfl, Grew.of_alloc (hg1.trans hk13)⟩
                | false =>
                  go_wp2_with fail
                  refine (HI.out _).mono ?_
                  rintro e w2 ⟨rfl, hg2⟩
                  go_wp2_with fail
                  refine (HT.out _).mono ?_
                  rintro e w3 ⟨rfl, hg3⟩
                  have hk13 := hg2.trans hg3
                  go_wp2_with fail
                  go_ret
                  exact ⟨rfl, Grew.of_alloc (hg1.trans hk13)⟩
      · rw [tnB_range hn]
        rw [decide_eq_false hn] at HI
        replace HI := Lib.hid HI
        generalize Tr.ar k = a at *
        replace HP := Lib.hid HP
        rcases hor with hz | hz
        all_goals
          go_enter Tryz.func83, Tryz.ntmps83
          go_wp2_with fail
          refine (HP.out _).mono ?_
          rintro e w1 ⟨rfl, hg1⟩
          have k0 : ∀ W, Grew w1 W → W.cell? ⟨w.heap.size, 0, none⟩ = some (.int .i64 k) := fun W hW => ((hg1.trans hW).cell (by simp)).trans (by simp)
          have k1 : ∀ W, Grew w1 W → W.cell? ⟨w.heap.size, 1, none⟩ = some (.int .i64 n) := fun W hW => ((hg1.trans hW).cell (by simp)).trans (by simp)
          have hr1 := Grew.refl w1
          first
            | cases hkz : (k != 0) with
              | true =>
                go_wp2_with fail
                refine (HI.out _).mono ?_
                rintro e w2 ⟨rfl, hg2⟩
                go_wp2_with fail
                go_ret
                exact ⟨rfl, Grew.of_alloc (hg1.trans hg2)⟩
              | false =>
                go_wp2_with fail
                refine (HI.out _).mono ?_
                rintro e w2 ⟨rfl, hg2⟩
                go_wp2_with fail
                go_ret
                exact ⟨rfl, Grew.of_alloc (hg1.trans hg2)⟩
  · rw [tnB_kind hk]
    rw [if_neg hk] at HP
    replace HP := Lib.hid HP
    clear hk
    go_enter Tryz.func83, Tryz.ntmps83
    go_wp2_with fail
    refine (HP.out _).mono ?_
    rintro e w1 ⟨rfl, hg1⟩
    go_wp2_with fail
    go_ret
    exact ⟨rfl, Grew.of_alloc hg1⟩

theorem termEnd_c (v : Value) (xs : List Tn) (i : Nat) (w : World) (h : Tms w v xs) (hn : xs.length ≤ 1048576) (hi : i ≤ 1048576) :
    Calls Tryz.prog 91 #[v, .int .i64 i] w fun e w' => e = .returned (.int .i64 (Tr.pend xs i 1)) ∧ Grew w w' := by
  rcases h.open_ with ⟨rfl, rfl⟩ | ⟨b, o, c, rfl, hc, hm, hb, hf⟩
  · rw [Tr.pend_out (by simp) 0]
    clear h
    go_enter Tryz.func91, Tryz.ntmps91
    go_wp2_with fail
    refine wp_loop_rounds 1 ?_; rw [rounds_succ]
    go_wp2_with fail
    go_ret
    exact ⟨rfl, Grew.refl _⟩
  · clear h
    obtain ⟨P, hP⟩ : ∃ P, P = Tr.pend xs i 1 := ⟨_, rfl⟩
    rw [← hP]
    have hstart : Hid (P = Tr.pend xs i 1) := hP
    have HS := Lib.hid (fun j o hj => @Tr.pend_step xs j hj o)
    have HL := Lib.hid (fun j o hj => @Tr.pend_out xs j hj o)
    have HZ := Lib.hid (fun j => Tr.pend_zero xs j)
    clear hP
    have HF := Lib.hid hf
    clear hf
    generalize hN : xs.length = n at *
    clear hN
    go_enter Tryz.func91, Tryz.ntmps91
    go_wp2_with fail
    go_loopg [1, 5] (n + 1 - i) (fun k x y wr => ∃ j op : Nat, x = .int .i64 j ∧ y = .int .i64 op ∧ Grew w wr ∧ i ≤ j ∧ op ≤ 2 * (j - i) + 1 ∧ k = n + 1 - j ∧ j ≤ i + n ∧ Hid (P = Tr.pend xs j op))
    case atStart => exact ⟨i, 1, rfl, rfl, Grew.refl _, Nat.le_refl _, by omega, rfl, by omega, hstart⟩
    case round =>
      obtain ⟨j, op, rfl, rfl, hB, hij, hop, rfl, hjn, HP⟩ := hrel
      by_cases hz : op = 0
      · subst hz
        have hv : Hid (P = (j : Int)) := Lib.hid (by rw [HP.out, HZ.out])
        clear HP
        go_wp2_with fail
        go_ret
        rw [hv.out]
        exact ⟨rfl, hB⟩
      · obtain ⟨q, rfl⟩ : ∃ q, op = q + 1 := ⟨op - 1, by omega⟩
        by_cases hlt : j < n
        · have k1 : ∀ W, Grew w W → W.cell? ⟨b, o + j * 3, none⟩ = some (.int .i64 (tk xs j)) := fun W hW => (HF.out j hlt W hW).1
          have hv : Hid (P = Tr.pend xs (j + 1) (q + Tr.ar (tk xs j))) := Lib.hid (by rw [HP.out, HS.out j q hlt])
          have har := Tr.ar_le (tk xs j)
          clear HP hz
          go_wp2_with fail
          refine (termParts_c _ _).mono ?_
          rintro e w1 ⟨rfl, hg1⟩
          generalize Tr.ar (tk xs j) = ar at *
          go_wp2_with fail
          go_roundg (n + 1 - (j + 1))
          case measure => omega
          case rel => exact ⟨j + 1, q + ar, by go_num, by go_num, hB.trans hg1, by omega, by omega, rfl, by omega, hv⟩
        · have hv : Hid (P = -1) := Lib.hid (by rw [HP.out, HL.out j q (by omega)])
          clear HP
          go_wp2_with fail
          go_ret
          rw [hv.out]
          exact ⟨rfl, hB⟩

theorem l26End_c (v : Value) (xs : List Tn) : ∀ (d i : Nat) (w : World), xs.length ≤ i + d → Tms w v xs → xs.length ≤ 1048576 → i ≤ 1048576 →
    Calls Tryz.prog 84 #[v, .int .i64 i] w fun e w' => e = .returned (.int .i64 (Tr.pend xs i 1)) ∧ Grew w w' := by
  intro d
  induction d with
  | zero =>
    intro i w hd h hn hi
    rw [Tr.pend_out (by omega) 0]
    obtain ⟨A, c, rfl⟩ := tms_slice h
    clear h
    generalize xs.length = n at *
    go_enter Tryz.func84, Tryz.ntmps84
    go_wp2_with fail
    go_ret
    exact ⟨rfl, Grew.refl _⟩
  | succ d ih =>
    intro i w hd h hn hi
    by_cases hout : xs.length ≤ i
    · rw [Tr.pend_out hout 0]
      obtain ⟨A, c, rfl⟩ := tms_slice h
      clear h ih
      generalize xs.length = n at *
      go_enter Tryz.func84, Tryz.ntmps84
      go_wp2_with fail
      go_ret
      exact ⟨rfl, Grew.refl _⟩
    · rcases h.open_ with ⟨rfl, rfl⟩ | ⟨b, o, c, rfl, hc, hm, hb, hf⟩
      · simp at hout
      have hlt : i < xs.length := by omega
      have IH := Lib.hid (fun e W (hW : Grew w W) he1 he2 => ih e W he1 (h.grew hW) hn he2)
      have k1 := (hf i hlt _ (Grew.refl w)).1
      obtain ⟨P, hP⟩ : ∃ P, P = Tr.pend xs i 1 := ⟨_, rfl⟩
      rw [← hP]
      rw [Tr.pend_step hlt 0, Nat.zero_add] at hP
      have hsP := Lib.hid hP
      have HS := Lib.hid (fun j o => @Tr.pend_part xs j o)
      have HZ := Lib.hid (fun j => Tr.pend_zero xs j)
      have har := Tr.ar_le (tk xs i)
      have hkk : Hid ((if 0 ≤ tk xs i ∧ tk xs i ≤ 9 then (Tr.ar (tk xs i) : Int) else -1) = (Tr.ar (tk xs i) : Int) ∨ ((if 0 ≤ tk xs i ∧ tk xs i ≤ 9 then (Tr.ar (tk xs i) : Int) else -1) = -1 ∧ Tr.ar (tk xs i) = 0)) := Lib.hid (by
        split
        · exact .inl rfl
        · exact .inr ⟨rfl, by unfold Tr.ar; rw [if_neg (by omega), if_neg (by omega), if_neg (by omega)]⟩)
      have HK := Lib.hid (fun w => l26Parts_c (tk xs i) w)
      generalize (if 0 ≤ tk xs i ∧ tk xs i ≤ 9 then (Tr.ar (tk xs i) : Int) else -1) = pv at *
      generalize Tr.ar (tk xs i) = ar at *
      generalize tk xs i = kk at *
      clear hf hP h ih
      generalize hN : xs.length = n at *
      clear hN
      have hpv : pv ≤ 3 ∧ -1 ≤ pv := by rcases hkk.out with h | ⟨h, h0⟩ <;> omega
      go_enter Tryz.func84, Tryz.ntmps84
      go_wp2_with fail
      refine (HK.out _).mono ?_
      rintro e w1 ⟨rfl, hg1⟩
      go_wp2_with fail
      go_loopw [5, 6] (fun x y wr => ∃ (E q : Int), x = .int .i64 E ∧ y = .int .i64 q ∧ Grew w wr ∧ q ≤ 3 ∧ -1 ≤ q ∧ -1 ≤ E ∧ E ≤ n ∧ Hid ((0 ≤ E → (i : Int) + 1 ≤ E ∧ P = Tr.pend xs E.toNat q.toNat) ∧ (E < 0 → P = -1))) (fun _ y _ => (intOf y).toNat)
      case atStart => exact ⟨(i : Int) + 1, pv, by go_num, rfl, hg1, hpv.1, hpv.2, by omega, by omega, Lib.hid ⟨fun _ => ⟨by omega, by
        rw [hsP.out]
        rcases hkk.out with h | ⟨h, h0⟩
        · rw [h]; rfl
        · rw [h, h0]; rfl⟩, fun h => absurd h (by omega)⟩⟩
      case round =>
        obtain ⟨E, q, rfl, rfl, hB, hq3, hq1, hE1, hEn, HP⟩ := hrel
        by_cases hq : 0 < q
        · by_cases hE : 0 ≤ E
          · obtain ⟨hiE, hPE⟩ := HP.out.1 hE
            obtain ⟨e, rfl⟩ : ∃ e : Nat, E = (e : Int) := ⟨E.toNat, by omega⟩
            obtain ⟨r, rfl⟩ : ∃ r : Nat, q = ((r + 1 : Nat) : Int) := ⟨q.toNat - 1, by omega⟩
            have hst := HS.out e r
            simp only [Int.toNat_natCast] at hPE
            have HPE := Lib.hid hPE
            have HST := Lib.hid hst
            have hgt : ¬ ((r + 1 : Nat) : Int) ≤ 0 := by omega
            clear hPE hst HP
            go_wp2_with fail
            refine (IH.out e _ hB (by omega) (by omega)).mono ?_
            rintro e2 w2 ⟨rfl, hg2⟩
            have hB2 := hB.trans hg2
            rcases HST.out with ⟨h1, h2⟩ | ⟨m, h1, hm2, h2⟩
            · have H2 : Hid (P = -1) := Lib.hid (by rw [HPE.out, h2])
              rw [h1]
              clear h1 h2 HST
              go_wp2_with fail
              go_roundw
              case rel => exact ⟨-1, (r : Int), rfl, by go_num, hB2, by omega, by omega, by omega, by omega, Lib.hid ⟨fun h => absurd h (by omega), fun _ => H2.out⟩⟩
              case measure => (simp [intOf]; try omega)
            · have H2 : Hid (P = Tr.pend xs (e + m) r) := Lib.hid (by rw [HPE.out, h2])
              rw [h1]
              clear h1 h2 HST
              go_wp2_with fail
              go_roundw
              case rel => exact ⟨((e + m : Nat) : Int), (r : Int), rfl, by go_num, hB2, by omega, by omega, by omega, by omega, Lib.hid ⟨fun _ => ⟨by omega, by rw [Int.toNat_natCast, Int.toNat_natCast]; exact H2.out⟩, fun h => absurd h (by omega)⟩⟩
              case measure => (simp [intOf]; try omega)
          · have hv : Hid (P = -1) := Lib.hid (HP.out.2 (by omega))
            obtain rfl : E = -1 := by omega
            clear HP
            go_wp2_with fail
            go_ret
            rw [hv.out]
            exact ⟨rfl, hB⟩
        · by_cases hE : 0 ≤ E
          · obtain ⟨hiE, hPE⟩ := HP.out.1 hE
            have hv : Hid (P = E) := Lib.hid (by
              rw [hPE, show q.toNat = 0 by omega, HZ.out]
              omega)
            clear HP hPE
            go_wp2_with fail
            go_ret
            rw [hv.out]
            exact ⟨rfl, hB⟩
          · have hv : Hid (P = E) := Lib.hid (by rw [HP.out.2 (by omega)]; omega)
            clear HP
            go_wp2_with fail
            go_ret
            rw [hv.out]
            exact ⟨rfl, hB⟩

/-- Is it no node of a term? -/
noncomputable def noTn (k n : Int) (s : ByteArray) : Bool := !tnB k n s
theorem isTerm1_ok : PredT 89 noTn := by
  intro a b s w hs
  unfold noTn
  have HR := Lib.hid (fun w => isTermNode_c a b s w hs)
  generalize tnB a b s = R at *
  go_enter Tryz.func89, Tryz.ntmps89
  go_wp2_with fail
  refine (HR.out _).mono ?_
  rintro e w1 ⟨rfl, hg1⟩
  go_wp2_with fail
  go_ret
  exact ⟨rfl, Grew.of_alloc hg1⟩

/-- Is the list a term's? -/
noncomputable def tmB (xs : List Tn) : Bool := decide (1 ≤ xs.length ∧ xs.length ≤ 60) && !anyT noTn xs && (Tr.pend xs 0 1 == (xs.length : Int))

theorem isTerm_c (v : Value) (xs : List Tn) (w : World) (h : Tms w v xs) (hfit : FitsT xs) (hn : xs.length ≤ 1048576) :
    Calls Tryz.prog 51 #[v] w fun e w' => e = .returned (.bool (tmB xs)) ∧ Grew w w' := by
  have HC := Lib.hid (fun w h => containsFuncT_c v xs _ _ w h hfit isTerm1_ok (enters_of Tryz.func89 (by kernel_rfl) rfl))
  have HP := Lib.hid (fun w h => termEnd_c v xs 0 w h hn (by omega))
  obtain ⟨A, c, rfl⟩ := tms_slice h
  have HN := Lib.hid h
  clear h hfit
  unfold tmB
  generalize Tr.pend xs 0 1 = p at *
  generalize anyT noTn xs = q at *
  generalize hL : xs.length = n at *
  clear hL
  by_cases h1 : 1 ≤ n
  · by_cases h2 : n ≤ 60
    · rw [decide_eq_true (⟨h1, h2⟩ : 1 ≤ n ∧ n ≤ 60), Bool.true_and]
      cases q with
      | true =>
        go_enter Tryz.func51, Tryz.ntmps51
        go_wp2_with fail
        refine (HC.out _ HN.out).mono ?_
        rintro e w1 ⟨rfl, hg1⟩
        go_wp2_with fail
        go_ret
        exact ⟨by simp, hg1⟩
      | false =>
        go_enter Tryz.func51, Tryz.ntmps51
        go_wp2_with fail
        refine (HC.out _ HN.out).mono ?_
        rintro e w1 ⟨rfl, hg1⟩
        go_wp2_with fail
        refine (HP.out _ (HN.out.grew hg1)).mono ?_
        rintro e w2 ⟨rfl, hg2⟩
        go_wp2_with fail
        go_ret
        exact ⟨by simp, hg1.trans hg2⟩
    · rw [decide_eq_false (fun h : 1 ≤ n ∧ n ≤ 60 => h2 h.2), Bool.false_and, Bool.false_and]
      go_enter Tryz.func51, Tryz.ntmps51
      go_wp2_with fail
      go_ret
      exact ⟨rfl, Grew.refl _⟩
  · rw [decide_eq_false (fun h : 1 ≤ n ∧ n ≤ 60 => h1 h.1), Bool.false_and, Bool.false_and]
    go_enter Tryz.func51, Tryz.ntmps51
    go_wp2_with fail
    go_ret
    exact ⟨rfl, Grew.refl _⟩

theorem l26Is_c (v : Value) (xs : List Tn) (w : World) (h : Tms w v xs) (hfit : FitsT xs) (hn : xs.length ≤ 1048576) :
    Calls Tryz.prog 45 #[v] w fun e w' => e = .returned (.bool (tmB xs)) ∧ Grew w w' := by
  unfold tmB
  rcases h.open_ with ⟨rfl, rfl⟩ | ⟨b, o, c, rfl, hc, hm, hb, hcell⟩
  · clear h hfit
    go_enter Tryz.func45, Tryz.ntmps45
    go_wp2_with fail
    go_ret
    exact ⟨rfl, Grew.refl _⟩
  by_cases hr : 1 ≤ xs.length ∧ xs.length ≤ 60
  · rw [decide_eq_true hr, Bool.true_and]
    obtain ⟨R, hR⟩ : ∃ R, R = anyT noTn xs := ⟨_, rfl⟩
    rw [← hR]
    have HA := Lib.hid (fun k hk h => hR.trans (@anyT_at noTn xs k hk h))
    have HZ := Lib.hid (fun h => hR.trans (@anyT_no noTn xs h))
    have HP := Lib.hid (fun W (hW : Grew w W) => l26End_c _ xs xs.length 0 W (by omega) (h.grew hW) hn (by omega))
    have HC := Lib.hid hcell
    unfold FitsT at hfit
    have HT := Lib.hid hfit
    clear hcell h hR hfit
    generalize Tr.pend xs 0 1 = p at *
    generalize hN : xs.length = n at *
    clear hN
    have hcond : ((n : Int) == 0 || decide (60 < (n : Int))) = false := by simp; omega
    have hcond0 : ((n : Int) == 0) = false := by simp; omega
    have hcond6 : decide (60 < (n : Int)) = false := by simp; omega
    go_enter Tryz.func45, Tryz.ntmps45
    go_wp2_with fail
    go_loopw [3] (fun i wr => ∃ j : Nat, j ≤ n ∧ i = .int .i64 j ∧ Grew w wr ∧ Hid (NoneT noTn xs j)) (fun i _ => n - (intOf i).toNat)
    case atStart => exact ⟨0, Nat.zero_le _, rfl, Grew.refl _, NoneT.zero _ _⟩
    case round =>
      obtain ⟨j, hj, rfl, hB, HJ⟩ := hrel
      by_cases hlt : j < n
      · have k1 := (HC.out j hlt _ hB).1
        have k2 := (HC.out j hlt _ hB).2.1
        have k3 := (HC.out j hlt _ hB).2.2
        have hz := HT.out j hlt
        have hA : Hid (tnB (tk xs j) (tn xs j) (tt xs j) = false → R = true) := Lib.hid (fun h => HA.out j hlt (by rw [noTn, h]; rfl))
        have hS : Hid (tnB (tk xs j) (tn xs j) (tt xs j) = true → NoneT noTn xs (j + 1)) := Lib.hid (fun h => HJ.out.succ (k := j) (by rw [noTn, h]; rfl))
        generalize tk xs j = x at *
        generalize tn xs j = y at *
        generalize tt xs j = z at *
        have HNd := Lib.hid (fun w => l26Node_c x y z w (by omega))
        cases hq : tnB x y z with
        | false =>
          have hv := Lib.hid (hA.out hq)
          rw [hq] at HNd
          go_wp2_with fail
          refine (HNd.out _).mono ?_
          rintro e w1 ⟨rfl, hg1⟩
          go_wp2_with fail
          go_ret
          rw [hv.out]
          exact ⟨by simp, hB.trans hg1⟩
        | true =>
          have hs := Lib.hid (hS.out hq)
          rw [hq] at HNd
          go_wp2_with fail
          refine (HNd.out _).mono ?_
          rintro e w1 ⟨rfl, hg1⟩
          go_wp2_with fail
          go_roundw
          case rel => exact ⟨j + 1, by omega, by go_num, hB.trans hg1, hs⟩
          case measure => simp [intOf]; omega
      · obtain rfl : j = n := by omega
        have hv := Lib.hid (HZ.out HJ.out)
        go_wp2_with fail
        refine (HP.out _ hB).mono ?_
        rintro e w1 ⟨rfl, hg1⟩
        go_wp2_with fail
        go_ret
        rw [hv.out]
        exact ⟨by simp, hB.trans hg1⟩
  · rw [decide_eq_false hr, Bool.false_and, Bool.false_and]
    clear hcell h hfit
    generalize xs.length = n at *
    rcases Nat.eq_zero_or_pos n with h0 | h0
    · subst h0
      go_enter Tryz.func45, Tryz.ntmps45
      go_wp2_with fail
      go_ret
      exact ⟨rfl, Grew.refl _⟩
    · have h60 : 60 < n := by omega
      have hcond0 : ((n : Int) == 0) = false := by simp; omega
      have hcond6 : decide (60 < (n : Int)) = true := by simp; omega
      clear hr
      go_enter Tryz.func45, Tryz.ntmps45
      go_wp2_with fail
      go_ret
      exact ⟨rfl, Grew.refl _⟩
end Go.Proofs.YthofkdpmgjkgkaaGreat

/- MeaningOf of both: the formula of a sequent. -/
import Derived.Test.YtpbaiadaanpllaaJoinAll
import Derived.Test.YtpbaiadaanpllaaSeq
namespace Go.Proofs.Ytpbaiadaanpllaa
open Go.RowKit
open Fm (Nd)

theorem l22Formulas_c (v : Value) (L : List ByteArray) (w : World) (h : Strs w v L) (hs : Fits L) (hn : L.length ≤ 1048576) :
    Calls Try.prog 95 #[v] w (GivesL w (lf L)) := by
  rcases h.open_ with ⟨rfl, rfl⟩ | ⟨b, o, c, rfl, hc, hm, hb, hcell⟩
  · clear h hs
    go_enter Try.func95, Try.ntmps95
    go_wp2_with fail
    refine wp_loop_rounds 1 ?_; rw [rounds_succ]
    go_wp2_with fail
    go_ret
    exact ⟨_, rfl, .inr ⟨w.heap.size, 0, 0, rfl, by simp [lf], by omega, by simp, fun i hi => absurd hi (by simp [lf])⟩, (Grew.refl w).alloc _⟩
  have HE := Lib.hid (fun w' v us (h1 : OwnV w' w.heap.size v us) h2 h3 => @lists_of w' w.heap.size v us L h1 h2 h3)
  have HC := Lib.hid hcell
  have HS := Lib.hid hs
  have HA := Lib.hid (fun i h => @lf_at L i h)
  clear hcell h hs
  unfold Fits at HS
  generalize hN : L.length = n at *
  clear hN
  go_enter Try.func95, Try.ntmps95
  go_wp2_with fail
  go_loopw [3, 4] (fun vv i wr => ∃ (j : Nat) (us : List Value), j ≤ n ∧ us.length = j ∧ i = .int .i64 j ∧ OwnV wr w.heap.size vv us ∧ Grew w wr ∧ Hid (Hold wr w.heap.size us L)) (fun _ i _ => n - (intOf i).toNat)
  case atStart => exact ⟨0, [], Nat.zero_le _, rfl, rfl, own_empty w, (Grew.refl w).alloc _, fun i hi => absurd hi (by simp)⟩
  case round =>
    obtain ⟨j, us, hj, hu, rfl, hO, hB, HH⟩ := hrel
    by_cases hlt : j < n
    · have k1 := HC.out j hlt _ hB
      have hsz := HS.out j hlt
      have hP := Lib.hid (fun w => l22Formula_c (st L j) w (by omega))
      have hA : (lf L).getD us.length [] = (Fm.pf (st L j)).1 := by rw [hu]; exact HA.out j hlt
      have hA := Lib.hid hA
      generalize st L j = x at *
      go_wp2_with fail
      refine (hP.out _).mono ?_
      rintro e w1 ⟨u, rfl, ho1, hg1⟩
      obtain ⟨A, cc, rfl⟩ := nodes_slice ho1.nodes
      have hB1 := hB.trans hg1
      have hu1 := (ho1.base hB.size).grew ((Grew.refl w1).alloc (.cells #[.slice A (Fm.pf x).1.length cc] 22))
      have hO1 : OwnV (w1.alloc (.cells #[.slice A (Fm.pf x).1.length cc] 22)) w.heap.size u3 us := own_grew hO (hg1.trans ((Grew.refl w1).alloc _))
      have HH1 := Lib.hid (HH.out.grew (hg1.trans ((Grew.refl w1).alloc (.cells #[.slice A (Fm.pf x).1.length cc] 22))))
      have hone := own_one ho1
      go_wp2_with (first | (at_builtin; refine wpList_appV (w0 := w) _ _ rfl rfl _ us rfl hO1 (hB1.alloc _) _ _ rfl (rd_lit _ _ _) hone (by omega) ?_; intro v2 w2 hown2 hg2 hgr2))
      go_roundw
      case rel => exact ⟨j + 1, _, by omega, by rw [List.length_append, hu]; rfl, by go_num, hown2, hg2, Hold.snoc (HH1.out.app hO1 hgr2) (by rw [hA.out]; exact own_app hu1 hO1 hgr2)⟩
      case measure => simp [intOf]; omega
    · obtain rfl : j = n := by omega
      go_wp2_with fail
      go_ret
      exact ⟨_, rfl, HE.out _ _ _ hO HH.out hu, hB⟩

/-- Are the two sides a sequent? -/
noncomputable def isQ (L : List ByteArray) (s : ByteArray) : Bool := gp s && (ascP L && decide (L.length ≤ 12))
def mnL (L : List ByteArray) (s : ByteArray) : List Nd := Fm.join 4 (allF 2 (lf L)) (Fm.pf s).1
/-- What MeaningOf gives. -/
noncomputable def mnF (L : List ByteArray) (s : ByteArray) : List Nd × Int := if isQ L s then (if L.length = 0 then ((Fm.pf s).1, 0) else lim (mnL L s)) else ([], 1)
def GivesC2 (w : World) (r : List Nd × Int) (e : Ending) (w' : World) : Prop := ∃ v, e = .returned (.tuple #[v, .int .i64 r.2]) ∧ Own w' w.heap.size v r.1 ∧ Grew w w'
theorem isQ_len {L : List ByteArray} {s : ByteArray} (h : isQ L s = true) : L.length ≤ 12 := by
  simp only [isQ, Bool.and_eq_true, decide_eq_true_eq] at h
  exact h.2.2
theorem lf_flat (L : List ByteArray) (h : L.length ≤ 16) : (lf L).flatten.length ≤ 640 := by
  have : ∀ L : List ByteArray, (lf L).flatten.length ≤ L.length * 40 := by
    intro L
    induction L with
    | nil => simp [lf]
    | cons s L ih =>
      have := Fm.pf_len s
      simp only [lf, List.map_cons, List.flatten_cons, List.length_append, List.length_cons] at ih ⊢
      omega
  have := this L
  omega
theorem allF_len (k : Int) (L : List ByteArray) (h : L.length ≤ 16) : (allF k (lf L)).length ≤ 1000 := by
  unfold allF
  split
  · split <;> simp [Fm.truth, Fm.falsum]
  · rw [upto_length]
    have h1 := lf_flat L h
    have h2 := total_mono (L := lf L) (k := (lf L).length)
    have h3 := lf_length L
    omega

theorem implMean_c (v : Value) (L : List ByteArray) (s : ByteArray) (w : World) (h : Strs w v L) (hs : Fits L) (hn : L.length ≤ 1048576) (hsz : s.size ≤ 140737488355328) :
    Calls Try.prog 52 #[v, .string s] w (GivesC2 w (mnF L s)) := by
  have HI := fun W (hW : Grew w W) => isSequent_c v L s W (h.grew hW) hs hn hsz
  rw [show (gp s && (ascP L && decide (L.length ≤ 12))) = isQ L s from rfl] at HI
  obtain ⟨A, c, rfl⟩ := strs_slice h
  have hz := Fm.pf_len s
  cases hM : isQ L s with
  | false =>
    rw [hM] at HI
    have hE : mnF L s = ([], 1) := by unfold mnF; rw [hM]; rfl
    rw [hE]
    replace HI := Lib.hid HI
    clear h hM hE hs
    go_enter Try.func52, Try.ntmps52
    go_wp2_with fail
    refine (HI.out _ (Grew.refl w)).mono ?_
    rintro e w1 ⟨rfl, hg1⟩
    go_wp2_with fail
    go_ret2
    exact ⟨.slice none 0 0, rfl, Own.nil_ _ _, hg1⟩
  | true =>
    rw [hM] at HI
    have l1 := isQ_len hM
    by_cases h0 : L.length ≤ 0
    · have hE : mnF L s = ((Fm.pf s).1, 0) := by unfold mnF; rw [hM, if_pos rfl, if_pos (by omega)]
      rw [hE]
      replace HI := Lib.hid HI
      have HP := fun W => parsed_c s W hsz
      unfold GivesN at HP
      replace HP := Lib.hid HP
      generalize (Fm.pf s).1 = Y at *
      generalize hN : L.length = n at *
      clear h hM hE hs hN
      go_enter Try.func52, Try.ntmps52
      go_wp2_with fail
      refine (HI.out _ (Grew.refl w)).mono ?_
      rintro e w1 ⟨rfl, hg1⟩
      go_wp2_with fail
      refine (HP.out _).mono ?_
      rintro e w2 ⟨q, rfl, ho2, hg2, _⟩
      go_wp2_with fail
      go_ret2
      exact ⟨_, rfl, ho2.base hg1.size, hg1.trans hg2⟩
    · have hE : mnF L s = lim (mnL L s) := by unfold mnF; rw [hM, if_pos rfl, if_neg (by omega)]
      rw [hE]
      replace HI := Lib.hid HI
      have K1 := Lib.hid (fun W (hW : Grew w W) => formulasOf_c (.slice A L.length c) L W (h.grew hW) hs hn)
      have HP := fun W => parsed_c s W hsz
      unfold GivesN at HP
      replace HP := Lib.hid HP
      have J1 := Lib.hid (fun v W h => joinAll_c 2 v (lf L) W h (by rw [lf_length]; omega) (by have := lf_flat L (by omega); omega))
      have A1 := allF_len 2 L (by omega)
      obtain ⟨R, hR⟩ : ∃ R, R = lim (mnL L s) := ⟨_, rfl⟩
      rw [← hR]
      unfold mnL at hR
      have HR := Lib.hid hR
      clear hR hE
      generalize allF 2 (lf L) = X1 at *
      generalize (Fm.pf s).1 = Y at *
      generalize hN : L.length = n at *
      clear h hM hs hN
      go_enter Try.func52, Try.ntmps52
      go_wp2_with fail
      refine (HI.out _ (Grew.refl w)).mono ?_
      rintro e w1 ⟨rfl, hg1⟩
      go_wp2_with fail
      refine (K1.out _ hg1).mono ?_
      rintro e w2 ⟨q1, rfl, hl2, hg2⟩
      go_wp2_with fail
      refine (J1.out _ _ hl2).mono ?_
      rintro e w3 ⟨q2, rfl, ho3, hg3⟩
      have hk3 := (hg1.trans hg2).trans hg3
      go_wp2_with fail
      refine (HP.out _).mono ?_
      rintro e w4 ⟨q3, rfl, ho4, hg4, _⟩
      go_wp2_with fail
      refine (join_c 4 _ _ X1 Y _ (ho3.grew hg4).nodes ho4.nodes (by omega)).mono ?_
      rintro e w5 ⟨q4, rfl, ho5, hg5⟩
      go_wp2_with fail
      refine (limited_c _ _ _ _ ho5).mono ?_
      rintro e w6 ⟨q5, rfl, ho6, hg6⟩
      go_wp2_with fail
      go_ret2
      exact ⟨q5, by rw [HR.out]; rfl, by rw [HR.out]; exact ho6.base (hk3.trans hg4).size, ((hk3.trans hg4).trans hg5).trans hg6⟩

theorem specMean_c (v : Value) (L : List ByteArray) (s : ByteArray) (w : World) (h : Strs w v L) (hs : Fits L) (hn : L.length ≤ 1048576) (hsz : s.size ≤ 140737488355328) :
    Calls Try.prog 51 #[v, .string s] w (GivesC2 w (mnF L s)) := by
  have HI := fun W (hW : Grew w W) => l22Is_c v L s W (h.grew hW) hs hn hsz
  rw [show (gp s && (ascP L && decide (L.length ≤ 12))) = isQ L s from rfl] at HI
  obtain ⟨A, c, rfl⟩ := strs_slice h
  have hz := Fm.pf_len s
  cases hM : isQ L s with
  | false =>
    rw [hM] at HI
    have hE : mnF L s = ([], 1) := by unfold mnF; rw [hM]; rfl
    rw [hE]
    replace HI := Lib.hid HI
    clear h hM hE hs
    go_enter Try.func51, Try.ntmps51
    go_wp2_with fail
    refine (HI.out _ (Grew.refl w)).mono ?_
    rintro e w1 ⟨rfl, hg1⟩
    go_wp2_with fail
    go_ret2
    exact ⟨.slice none 0 0, rfl, Own.nil_ _ _, hg1⟩
  | true =>
    rw [hM] at HI
    have l1 := isQ_len hM
    by_cases h0 : L.length ≤ 0
    · have hE : mnF L s = ((Fm.pf s).1, 0) := by unfold mnF; rw [hM, if_pos rfl, if_pos (by omega)]
      rw [hE]
      replace HI := Lib.hid HI
      have HP := fun W => l22Formula_c s W hsz
      unfold GivesP at HP
      replace HP := Lib.hid HP
      generalize (Fm.pf s).1 = Y at *
      generalize hN : L.length = n at *
      clear h hM hE hs hN
      go_enter Try.func51, Try.ntmps51
      go_wp2_with fail
      refine (HI.out _ (Grew.refl w)).mono ?_
      rintro e w1 ⟨rfl, hg1⟩
      go_wp2_with fail
      refine (HP.out _).mono ?_
      rintro e w2 ⟨q, rfl, ho2, hg2⟩
      go_wp2_with fail
      go_ret2
      exact ⟨_, rfl, ho2.base hg1.size, hg1.trans hg2⟩
    · have hE : mnF L s = lim (mnL L s) := by unfold mnF; rw [hM, if_pos rfl, if_neg (by omega)]
      rw [hE]
      replace HI := Lib.hid HI
      have K1 := Lib.hid (fun W (hW : Grew w W) => l22Formulas_c (.slice A L.length c) L W (h.grew hW) hs hn)
      have HP := fun W => l22Formula_c s W hsz
      unfold GivesP at HP
      replace HP := Lib.hid HP
      have J1 := Lib.hid (fun v W h => l02All_c 2 v (lf L) W h (by rw [lf_length]; omega) (by have := lf_flat L (by omega); omega))
      have A1 := allF_len 2 L (by omega)
      obtain ⟨R, hR⟩ : ∃ R, R = lim (mnL L s) := ⟨_, rfl⟩
      rw [← hR]
      unfold mnL at hR
      have HR := Lib.hid hR
      clear hR hE
      generalize allF 2 (lf L) = X1 at *
      generalize (Fm.pf s).1 = Y at *
      generalize hN : L.length = n at *
      clear h hM hs hN
      go_enter Try.func51, Try.ntmps51
      go_wp2_with fail
      refine (HI.out _ (Grew.refl w)).mono ?_
      rintro e w1 ⟨rfl, hg1⟩
      go_wp2_with fail
      refine (HP.out _).mono ?_
      rintro e w2 ⟨q3, rfl, ho2, hg2⟩
      have hk2 := hg1.trans hg2
      go_wp2_with fail
      refine (K1.out _ hk2).mono ?_
      rintro e w3 ⟨q1, rfl, hl3, hg3⟩
      go_wp2_with fail
      refine (J1.out _ _ hl3).mono ?_
      rintro e w4 ⟨q2, rfl, ho4, hg4⟩
      go_wp2_with fail
      refine (l02Pair_c 4 _ _ X1 Y _ ho4.nodes ((ho2.grew hg3).grew hg4).nodes (by omega)).mono ?_
      rintro e w5 ⟨q4, rfl, ho5, hg5⟩
      go_wp2_with fail
      refine (l02Made_c _ _ _ _ ho5).mono ?_
      rintro e w6 ⟨q5, rfl, ho6, hg6⟩
      go_wp2_with fail
      go_ret2
      exact ⟨q5, by rw [HR.out]; rfl, by rw [HR.out]; exact ho6.base (((hk2.trans hg3).trans hg4).size), (((hk2.trans hg3).trans hg4).trans hg5).trans hg6⟩
end Go.Proofs.Ytpbaiadaanpllaa

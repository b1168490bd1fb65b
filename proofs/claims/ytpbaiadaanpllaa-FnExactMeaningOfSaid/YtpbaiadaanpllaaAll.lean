/- A list of formulas joined: l02All of the reference, joinAll of the program; limited, l02Made. -/
import Derived.Test.YtpbaiadaanpllaaLists
import Derived.OwnWalk
namespace Go.Proofs.Ytpbaiadaanpllaa
open Go.RowKit
open Fm (Nd)

/-- The first k lists, joined. -/
def upto (k : Int) (L : List (List Nd)) (j : Nat) : List Nd := List.replicate (j - 1) (k, 0) ++ (L.take j).flatten
/-- All lists, joined. -/
def allF (k : Int) (L : List (List Nd)) : List Nd := if L.length = 0 then (if k == 2 then Fm.truth else Fm.falsum) else upto k L L.length
theorem flatten_succ {L : List (List Nd)} {j : Nat} (h : j < L.length) : (L.take (j + 1)).flatten = (L.take j).flatten ++ L.getD j [] := by
  rw [List.take_succ_eq_append_getElem h, List.flatten_append]
  simp [List.getD, h]
theorem upto_one {k : Int} {L : List (List Nd)} (h : 0 < L.length) : upto k L 1 = L.getD 0 [] := by
  rw [upto, flatten_succ h]
  simp
theorem upto_succ {k : Int} {L : List (List Nd)} {j : Nat} (h : j < L.length) (h0 : 0 < j) : upto k L (j + 1) = Fm.join k (upto k L j) (L.getD j []) := by
  obtain ⟨m, rfl⟩ : ∃ m, j = m + 1 := ⟨j - 1, by omega⟩
  rw [upto, upto, Fm.join, flatten_succ h]
  simp [List.replicate_succ]
theorem upto_length (k : Int) (L : List (List Nd)) (j : Nat) : (upto k L j).length = (j - 1) + total L j := by
  simp [upto, total]

theorem l02Own_c (v : Value) (xs : List Nd) (w : World) (h : Nodes w v xs) (hn : xs.length ≤ 1099511627775) :
    Calls Try.prog 138 #[v] w (Gives w xs) := by
  have he : Own (w.alloc (.cells #[] 83)) w.heap.size (.slice (some ⟨w.heap.size, 0, none⟩) 0 0) [] :=
    World.ownsRow_lit (e := 83) (size := 2) w #[] 0 (Nat.le_refl _) (by omega) rfl
  go_enter Try.func138, Try.ntmps138
  go_wp2_with (first
    | (at_builtin; refine wpList_app (w0 := w) _ _ rfl rfl _ [] rfl he ((Grew.refl w).alloc _) v xs rfl (h.grew ((Grew.refl w).alloc _)) (by simp; omega) ?_; intro v1 w1 hown1 hg1 _))
  go_ret
  exact ⟨_, rfl, by simpa using hown1, hg1⟩

theorem l02All_c (k : Int) (v : Value) (L : List (List Nd)) (w : World) (h : Lists w v L) (hn : L.length ≤ 1048576) (hf : L.flatten.length ≤ 1073741824) :
    Calls Try.prog 88 #[.int .i64 k, v] w (Gives w (allF k L)) := by
  unfold allF
  rcases Nat.eq_zero_or_pos L.length with h0 | hpos
  · rw [if_pos h0]
    obtain ⟨A, c, rfl⟩ : ∃ A c, v = .slice A 0 c := by
      rcases h with ⟨rfl, _⟩ | ⟨b, o, c, rfl, _⟩
      · exact ⟨_, _, rfl⟩
      · rw [h0]; exact ⟨_, _, rfl⟩
    clear h
    cases hk : (k == 2) with
    | true =>
      rw [if_pos rfl]
      go_enter Try.func88, Try.ntmps88
      go_wp2_with fail
      refine (l02True_c _).mono ?_
      rintro e w1 ⟨v1, rfl, ho1, hg1⟩
      go_wp2_with fail
      go_ret
      exact ⟨_, rfl, ho1, hg1⟩
    | false =>
      rw [if_neg (by simp)]
      go_enter Try.func88, Try.ntmps88
      go_wp2_with fail
      refine (l02False_c _).mono ?_
      rintro e w1 ⟨v1, rfl, ho1, hg1⟩
      go_wp2_with fail
      go_ret
      exact ⟨_, rfl, ho1, hg1⟩
  · rw [if_neg (by omega)]
    rcases h with ⟨_, rfl⟩ | ⟨b, o, c, rfl, hc, hm, hb, hcell⟩
    · simp at hpos
    have HC := Lib.hid hcell
    have HU := Lib.hid (fun j (h : j < L.length) h0 => @upto_succ k L j h h0)
    have HL := Lib.hid (fun j => Nat.le_trans (Nat.le_of_eq (upto_length k L j)) (Nat.add_le_add_left (Nat.le_trans (total_mono (L := L) (k := j)) hf) _))
    have HT := Lib.hid (fun j (h : j < L.length) => Nat.le_trans (by rw [total_succ h]; omega : (L.getD j []).length ≤ total L (j + 1)) (Nat.le_trans (total_mono (L := L) (k := j + 1)) hf))
    have h1 := upto_one (k := k) hpos
    have H1 := Lib.hid h1
    clear hcell h1 hf
    generalize hN : L.length = n at *
    clear hN
    obtain ⟨u0, hu0, hN0⟩ := HC.out 0 hpos
    have hlen0 := HT.out 0 hpos
    go_enter Try.func88, Try.ntmps88
    obtain ⟨A0, c0, rfl⟩ := nodes_slice hN0
    simp only [Nat.add_zero] at hu0
    go_wp2_with fail
    refine (l02Own_c _ _ _ hN0 (by omega)).mono ?_
    rintro e w1 ⟨v1, rfl, ho1, hg1⟩
    go_wp2_with fail
    go_loopw [5, 6] (fun vv i wr => ∃ j : Nat, 1 ≤ j ∧ j ≤ n ∧ i = .int .i64 j ∧ Own wr w.heap.size vv (upto k L j) ∧ Grew w wr) (fun _ i _ => n - (intOf i).toNat)
    case atStart => exact ⟨1, by omega, by omega, rfl, by rw [H1.out]; exact ho1, hg1⟩
    case round =>
      obtain ⟨j, hj1, hj, rfl, hO, hB⟩ := hrel
      by_cases hlt : j < n
      · obtain ⟨u, hu, hNu⟩ := HC.out j hlt
        have hlu := HT.out j hlt
        have hlj := HL.out j
        have hup := HU.out j hlt (by omega)
        obtain ⟨A, cc, rfl⟩ := nodes_slice hNu
        have k1 := (hB.cell (p := ⟨b, o + j, none⟩) hb).trans hu
        have HUP := Lib.hid hup
        clear hup hu
        generalize L.getD j [] = X at *
        generalize upto k L j = Y at *
        go_wp2_with fail
        refine (l02Pair_c k _ _ Y X _ hO.nodes (hNu.grew hB) (by omega)).mono ?_
        rintro e w2 ⟨v2, rfl, ho2, hg2⟩
        go_wp2_with fail
        go_roundw
        case rel => exact ⟨j + 1, by omega, by omega, by go_num, by rw [HUP.out]; exact ho2.base hB.size, hB.trans hg2⟩
        case measure => simp [intOf]; omega
      · obtain rfl : j = n := by omega
        go_wp2_with fail
        go_ret
        exact ⟨_, rfl, hO, hB⟩

/-- A formula that is not too long. -/
def lim (xs : List Nd) : List Nd × Int := if xs.length ≤ 40 then (xs, 0) else ([], 3)
theorem lim_yes {xs : List Nd} (h : xs.length ≤ 40) : lim xs = (xs, 0) := by rw [lim, if_pos h]
theorem lim_no {xs : List Nd} (h : ¬ xs.length ≤ 40) : lim xs = ([], 3) := by rw [lim, if_neg h]

theorem l02Made_c (v : Value) (xs : List Nd) (w : World) (B : Nat) (h : Own w B v xs) :
    Calls Try.prog 86 #[v] w fun e w' => ∃ u, e = .returned (.tuple #[u, .int .i64 (lim xs).2]) ∧ Own w' B u (lim xs).1 ∧ Grew w w' := by
  by_cases h40 : xs.length ≤ 40
  · rw [lim_yes h40]
    obtain ⟨A, c, rfl⟩ := nodes_slice h.nodes
    have H := Lib.hid h
    clear h
    go_enter Try.func86, Try.ntmps86
    go_wp2_with fail
    go_ret2
    exact ⟨_, rfl, H.out, Grew.refl _⟩
  · rw [lim_no h40]
    obtain ⟨A, c, rfl⟩ := nodes_slice h.nodes
    clear h
    go_enter Try.func86, Try.ntmps86
    go_wp2_with fail
    go_ret2
    exact ⟨.slice none 0 0, rfl, Own.nil_ _ _, Grew.refl _⟩
theorem limited_c (v : Value) (xs : List Nd) (w : World) (B : Nat) (h : Own w B v xs) :
    Calls Try.prog 90 #[v] w fun e w' => ∃ u, e = .returned (.tuple #[u, .int .i64 (lim xs).2]) ∧ Own w' B u (lim xs).1 ∧ Grew w w' := by
  by_cases h40 : xs.length ≤ 40
  · rw [lim_yes h40]
    obtain ⟨A, c, rfl⟩ := nodes_slice h.nodes
    have H := Lib.hid h
    clear h
    go_enter Try.func90, Try.ntmps90
    go_wp2_with fail
    go_ret2
    exact ⟨_, rfl, H.out, Grew.refl _⟩
  · rw [lim_no h40]
    obtain ⟨A, c, rfl⟩ := nodes_slice h.nodes
    clear h
    go_enter Try.func90, Try.ntmps90
    go_wp2_with fail
    go_ret2
    exact ⟨.slice none 0 0, rfl, Own.nil_ _ _, Grew.refl _⟩
end Go.Proofs.Ytpbaiadaanpllaa

/- Texts in one file: ArgDd Nd NdS Nn Prn PrnP PrnS PrnFit LawPrn. -/
import Derived.Deep.SlicePairs
import Derived.Lib.SmallJoins
import Derived.Carry
import Derived.ProofKit
import Derived.Deep.CutRange
import Derived.Test.YtofeeenjlaljpaaGreatPb1
import Derived.Test.YtofeeenjlaljpaaGreatPb2
import Derived.Test.YtofeeenjlaljpaaGreatPb3
import Derived.Test.YtofeeenjlaljpaaGreatPb4
import Derived.Test.YtofeeenjlaljpaaGreatPb5
set_option linter.all false

/- An argument that is a list of Deductions. -/
namespace Go.Proofs.YtofeeenjlaljpaaGreat
open Go.RowKit


theorem argDd_of_trod {H : Type} {enc : TypeId × Value → H} {P : Program} {W : World} {sp : Nat → Bool} {held : Bool} {n : Nat} {t e ei es : TypeId} {f0 f1 f2 f3 f4 : Field} {v : Value} {y : DataW H × List MemPlace}
    (ht : P.underlying t = some (.slice e)) (he : P.underlying e = some (.struct #[f0, f1, f2, f3, f4])) (ce : P.cellsOf e = 5) (o0 : f0.offset = 0) (o1 : f1.offset = 1) (o2 : f2.offset = 2) (o3 : f3.offset = 3) (o4 : f4.offset = 4)
    (c0 : P.cellsOf f0.type = 1) (c1 : P.cellsOf f1.type = 1) (c2 : P.cellsOf f2.type = 1) (c3 : P.cellsOf f3.type = 1) (c4 : P.cellsOf f4.type = 1)
    (u0 : P.underlying f0.type = some (.int .i64)) (u1 : P.underlying f1.type = some (.slice ei)) (u2 : P.underlying f2.type = some (.slice es)) (u3 : P.underlying f3.type = some .string) (u4 : P.underlying f4.type = some (.int .i64))
    (ui : P.underlying ei = some (.int .i64)) (ci : P.cellsOf ei = 1) (us : P.underlying es = some .string) (cs : P.cellsOf es = 1) (h : DataW.trod enc P W 0 sp held n t [v] = some y) : ∃ xs, ArgDd W v xs := by
  rcases Go.Deep.open_slice ht h with ⟨hv, _⟩ | ⟨a, len, cap, m, k, D, Pl, hv, _, hl, hm, hmm, _, hcell⟩
  · obtain rfl : v = .slice none 0 0 := by simpa using hv
    exact ⟨[], ⟨none, 0, rfl, by simp⟩, fun h => absurd h (by simp), fun x hx => absurd hx (by simp)⟩
  · obtain rfl : v = .slice (some a) len cap := by simpa using hv
    have hlm : len ≤ m := by rw [hmm]; split <;> omega
    have hmax : maxLen = 9223372036854775807 := by decide
    rw [hmax] at hm
    have each : ∀ i, i < len → ∃ q : (Value × Value) × Dd, W.cell? (a.add (i * 5)) = some (.int .i64 q.2.1) ∧ W.cell? (a.add (i * 5 + 1)) = some q.1.1 ∧ W.cell? (a.add (i * 5 + 2)) = some q.1.2 ∧ W.cell? (a.add (i * 5 + 3)) = some (.string q.2.2.2.2.1) ∧ W.cell? (a.add (i * 5 + 4)) = some (.int .i64 q.2.2.2.2.2) ∧ ArgI W q.1.1 q.2.2.1 ∧ ArgS W q.1.2 q.2.2.2.1 ∧ q.2.2.2.2.1.size ≤ maxLen := fun i hi => by
      obtain ⟨cs', h1, h2⟩ := hcell i (by omega)
      rw [ce] at h1
      obtain ⟨_, hlen, hc⟩ := World.cells?_some h1
      obtain ⟨xs, k', hk, hxy, _, hxl, hf⟩ := DataW.trod_struct he h2
      match xs, hxl, cs', hlen with
      | [y0, y1, y2, y3, y4], _, [v0, v1, v2, v3, v4], _ =>
        have g0 := hf 0 f0 rfl
        have g1 := hf 1 f1 rfl
        have g2 := hf 2 f2 rfl
        have g3 := hf 3 f3 rfl
        have g4 := hf 4 f4 rfl
        simp [o0, o1, o2, o3, o4, c0, c1, c2, c3, c4] at g0 g1 g2 g3 g4
        have e0 := hc 0 (by omega)
        have e1 := hc 1 (by omega)
        have e2 := hc 2 (by omega)
        have e3 := hc 3 (by omega)
        have e4 := hc 4 (by omega)
        rw [Go.Deep.add_add] at e0 e1 e2 e3 e4
        obtain ⟨x, hx, _⟩ := DataW.trod_int u0 g0
        obtain ⟨L1, hL1⟩ := argI_of_trod u1 ui ci g1
        obtain ⟨L2, hL2⟩ := argS_of_trod u2 us cs g2
        obtain ⟨s, hs, _, hsz⟩ := DataW.trod_string u3 g3
        obtain ⟨z, hz, _⟩ := DataW.trod_int u4 g4
        obtain rfl : v0 = .int .i64 x := by simpa using hx
        obtain rfl : v3 = .string s := by simpa using hs
        obtain rfl : v4 = .int .i64 z := by simpa using hz
        exact ⟨((v1, v2), (x, L1, L2, s, z)), by simpa using e0, by simpa using e1, by simpa using e2, by simpa using e3, by simpa using e4, hL1, hL2, hsz⟩
    obtain ⟨q, hq⟩ := Go.Deep.choose_lt each
    have hlen : ((List.range len).map fun i => (q i).2).length = len := by simp
    refine ⟨(List.range len).map fun i => (q i).2, ⟨some a, cap, by rw [hlen], by rw [hlen]; omega⟩, fun hp => ?_, fun x hx => ?_⟩
    · rw [hlen] at hp
      obtain ⟨b, off, spot⟩ := a
      have h0 := (hq 0 (by omega)).1
      have hspot : spot = none := by simpa [Addr.add] using World.cell?_spot h0
      subst hspot
      have hb := cell_lt h0
      have hadd : ∀ i, (⟨b, off, none⟩ : Addr).add i = ⟨b, off + i, none⟩ := fun i => by
        unfold Addr.add
        split
        · subst_vars; rfl
        · rfl
      rw [hadd] at hb
      refine .inr ⟨b, off, cap, by rw [hlen], by rw [hlen]; exact hl, hm, hb, fun i x hx => ?_⟩
      have hi : i < len := by
        have := (List.getElem?_eq_some_iff.1 hx).1
        rw [hlen] at this
        exact this
      have hxe : x = (q i).2 := by
        rw [List.getElem?_map, List.getElem?_range hi] at hx
        simp at hx
        exact hx.symm
      subst hxe
      obtain ⟨e0, e1, e2, e3, e4, e5, e6, _⟩ := hq i hi
      rw [hadd] at e0 e1 e2 e3 e4
      exact ⟨_, _, ⟨e0, by rw [← e1, Nat.add_assoc], by rw [← e2, Nat.add_assoc], by rw [← e3, Nat.add_assoc], by rw [← e4, Nat.add_assoc]⟩, e5, e6⟩
    · rw [List.mem_map] at hx
      obtain ⟨i, hi, rfl⟩ := hx
      rw [← hmax]
      exact (hq i (by simpa using hi)).2.2.2.2.2.2.2
end Go.Proofs.YtofeeenjlaljpaaGreat

/- Which steps of a deduction are used. -/
namespace Go.Proofs.YtofeeenjlaljpaaGreat
open Go.RowKit

/-- A set of numbers with those of a list. -/
def orF (u : Nat → Bool) (L : List Int) : Nat → Bool := fun i => u i || decide ((i : Int) ∈ L)
/-- What is used, behind the m last of n steps with the premises P. -/
def usd (P : Nat → List Int) (n : Nat) : Nat → Nat → Bool
  | 0 => fun i => i == n - 1
  | m + 1 => if usd P n m (n - 1 - m) then orF (usd P n m) (P (n - 1 - m)) else usd P n m
theorem usd_yes {P : Nat → List Int} {n i : Nat} (hi : i < n) (h : usd P n (n - (i + 1)) i = true) : usd P n (n - i) = orF (usd P n (n - (i + 1))) (P i) := by
  have e : n - i = (n - (i + 1)) + 1 := by omega
  have e2 : n - 1 - (n - (i + 1)) = i := by omega
  rw [e]
  show (if usd P n (n - (i + 1)) (n - 1 - (n - (i + 1))) then _ else _) = _
  rw [e2, if_pos h]
theorem usd_no {P : Nat → List Int} {n i : Nat} (hi : i < n) (h : usd P n (n - (i + 1)) i = false) : usd P n (n - i) = usd P n (n - (i + 1)) := by
  have e : n - i = (n - (i + 1)) + 1 := by omega
  have e2 : n - 1 - (n - (i + 1)) = i := by omega
  rw [e]
  show (if usd P n (n - (i + 1)) (n - 1 - (n - (i + 1))) then _ else _) = _
  rw [e2, h]
  rfl
theorem orF_zero (u : Nat → Bool) (L : List Int) : orF u (L.take 0) = u := by
  funext i
  simp [orF]
theorem orF_succ {u : Nat → Bool} {L : List Int} {q p : Nat} (hq : q < L.length) (hp : it L q = (p : Int)) : orF u (L.take (q + 1)) = fun i => orF u (L.take q) i || i == p := by
  funext i
  unfold orF
  have e : L[q]? = some (it L q) := by rw [List.getElem?_eq_getElem hq]; exact congrArg some (by simp [it, List.getD, hq])
  rw [List.take_add_one, e, hp]
  have e2 : decide ((i : Int) ∈ L.take q ++ (some (p : Int)).toList) = (decide ((i : Int) ∈ L.take q) || i == p) := by
    by_cases h1 : (i : Int) ∈ L.take q
    · simp [h1]
    · by_cases h2 : i = p
      · simp [h2]
      · have h3 : ¬ ((i : Int) = (p : Int)) := by omega
        have h4 : (i == p) = false := by simpa using h2
        simp only [Option.toList_some, List.mem_append, List.mem_singleton]
        rw [decide_eq_false h1, h4, decide_eq_false (by intro h; rcases h with h | h; exact h1 h; exact h3 h)]
        rfl
  rw [e2, Bool.or_assoc]
/-- A block of Booleans. -/
def BRow (w : World) (g n : Nat) (u : Nat → Bool) : Prop := ∃ cur, w.heap[g]? = some (.cells cur 4 (0, 0)) ∧ cur.size = n ∧ ∀ i, i < n → cur[i]? = some (.bool (u i))
theorem BRow.lt {w : World} {g n : Nat} {u : Nat → Bool} (h : BRow w g n u) : g < w.heap.size := by
  obtain ⟨cur, h1, _⟩ := h
  exact blk_lt h1
theorem BRow.grew {w w' : World} {g n : Nat} {u : Nat → Bool} (h : BRow w g n u) (hg : Grew w w') : BRow w' g n u := by
  have hl := h.lt
  obtain ⟨cur, h1, h2, h3⟩ := h
  exact ⟨cur, (hg.block hl).trans h1, h2, h3⟩
theorem BRow.cell {w : World} {g n : Nat} {u : Nat → Bool} (h : BRow w g n u) {p : Nat} (hp : p < n) : w.cell? ⟨g, p, none⟩ = some (.bool (u p)) := by
  obtain ⟨cur, h1, h2, h3⟩ := h
  rw [blk_cell h1]
  exact h3 p hp
theorem BRow.free {w : World} {g n : Nat} {u : Nat → Bool} (h : BRow w g n u) (p : Nat) : w.frozen? ⟨g, p, none⟩ = false := by
  obtain ⟨cur, h1, h2, h3⟩ := h
  exact blk_frozen h1 p
theorem BRow.set {w : World} {g n : Nat} {u u' : Nat → Bool} (h : BRow w g n u) {p : Nat} (hp : p < n) (hu : u' = fun i => u i || i == p) : BRow (w.setCell ⟨g, p, none⟩ (.bool true)) g n u' := by
  obtain ⟨cur, h1, h2, h3⟩ := h
  refine ⟨_, blk_set h1 p _, by simp [h2], fun i hi => ?_⟩
  rw [Array.getElem?_setIfInBounds, hu]
  by_cases hip : p = i
  · subst hip
    rw [if_pos rfl, if_pos (by omega)]
    simp
  · rw [if_neg hip, h3 i hi]
    have : (i == p) = false := by simp; omega
    show some (Value.bool (u i)) = some (.bool (u i || i == p))
    rw [this, Bool.or_false]
theorem BRow.set_new {w : World} {cur : Array Value} {n : Nat} {u u' : Nat → Bool} (h : BRow (w.alloc (.cells cur 4)) w.heap.size n u) {p : Nat} (hp : p < n) (hu : u' = fun i => u i || i == p) : BRow (w.alloc (.cells (cur.setIfInBounds p (.bool true)) 4)) w.heap.size n u' := by
  obtain ⟨cur', h1, h2, h3⟩ := h
  have h4 := h1.symm.trans (blk_new w _)
  injection h4 with h4
  injection h4 with h5
  subst h5
  refine ⟨_, blk_new w _, by simp [h2], fun i hi => ?_⟩
  rw [Array.getElem?_setIfInBounds, hu]
  by_cases hip : p = i
  · subst hip
    rw [if_pos rfl, if_pos (by omega)]
    simp
  · rw [if_neg hip, h3 i hi]
    have : (i == p) = false := by simp; omega
    show some (Value.bool (u i)) = some (.bool (u i || i == p))
    rw [this, Bool.or_false]
/-- A slice of slices of numbers. -/
def LLs (w : World) (v : Value) (P : List (List Int)) : Prop :=
  (v = .slice none 0 0 ∧ P = []) ∨ ∃ b o c, v = .slice (some ⟨b, o, none⟩) P.length c ∧ P.length ≤ c ∧ c ≤ 9223372036854775807 ∧ b < w.heap.size ∧
    ∀ i L, P[i]? = some L → ∃ u, w.cell? ⟨b, o + i, none⟩ = some u ∧ Ints w u L
def GivesB (w : World) (n : Nat) (u : Nat → Bool) (e : Ending) (w' : World) : Prop := ∃ g, w.heap.size ≤ g ∧ e = .returned (.slice (some ⟨g, 0, none⟩) n n) ∧ BRow w' g n u ∧ Grew w w'
theorem made_b {n i : Nat} (hi : i < n) : (madeCells #[Value.bool false] n)[i]? = some (.bool false) := by
  have e := toList_madeCells_one (.bool false) n
  rw [← Array.getElem?_toList, e]
  simp [hi]
theorem infoBl : (Tryz.prog.info? 4).map (fun i => (i.zero, i.size, i.bytes)) = some (some (.bool false), 1, 1) := by kernel_rfl
set_option maxHeartbeats 4000000 in
theorem neededFor_c (v : Value) (PL : List (List Int)) (w : World) (h : LLs w v PL) (hn0 : PL.length ≠ 0) (hn : PL.length ≤ 1048576)
    (hk : ∀ (i : Nat) (L : List Int), PL[i]? = some L → ∀ q, q < L.length → 0 ≤ it L q ∧ it L q < (PL.length : Int)) :
    Calls Tryz.prog 93 #[v] w (GivesB w PL.length (usd (fun i => PL.getD i []) PL.length PL.length)) := by
  unfold GivesB
  rcases h with ⟨_, h0⟩ | ⟨b, o, c, rfl, hc, hm, hb, hcl⟩
  · rw [h0] at hn0; exact absurd rfl hn0
  have HC := Lib.hid hcl
  have HX := Lib.hid (fun j (hj : j < PL.length) => (⟨PL[j], List.getElem?_eq_getElem hj, by simp [List.getD, hj]⟩ : ∃ L, PL[j]? = some L ∧ PL.getD j [] = L))
  have HK := Lib.hid hk
  clear hcl hk
  have HUy := Lib.hid (fun i hi h => @usd_yes (fun i => PL.getD i []) PL.length i hi h)
  have HUn := Lib.hid (fun i hi h => @usd_no (fun i => PL.getD i []) PL.length i hi h)
  have HU0 : Hid (usd (fun i => PL.getD i []) PL.length 0 = fun i => i == PL.length - 1) := Lib.hid rfl
  have hmk := fun W => run_make_rows (P := Tryz.prog) 70 4 (.bool false) 1 1 #[.bool false] Tryz.underlying70 infoBl rfl .i64 .i64 PL.length (by omega) (by omega) W
  rw [Nat.mul_one] at hmk
  have hbr : BRow (w.alloc (.cells (madeCells #[Value.bool false] PL.length) 4)) w.heap.size PL.length (fun _ => false) := ⟨_, blk_new w _, size_madeCells _ _, fun i hi => made_b hi⟩
  have HBR := Lib.hid hbr
  have HAL := Lib.hid ((Grew.refl w).alloc (.cells (madeCells #[Value.bool false] PL.length) 4))
  clear hbr
  generalize madeCells #[Value.bool false] PL.length = cur0 at *
  generalize hgp : usd (fun i => PL.getD i []) PL.length = US at *
  clear hgp
  generalize hN : PL.length = n at *
  have f0 := HBR.out.cell (p := n - 1) (by omega)
  have f1 := HBR.out.free
  have i0 : (0 : Int) ≤ (n : Int) - 1 := by omega
  have i1 : (n : Int) - 1 < (n : Int) := by omega
  go_enter Tryz.func93, Tryz.ntmps93
  go_wp2_with fail
  go_loopw [4] (fun k wr => ∃ (j : Nat), j ≤ n ∧ k = .int .i64 ((j : Int) - 1) ∧ Hid (BRow wr w.heap.size n (US (n - j))) ∧ Grew w wr) (fun k _ => (intOf k + 1).toNat)
  case atStart =>
    refine ⟨n, Nat.le_refl _, rfl, ?_, (Grew.refl w).alloc _⟩
    rw [Nat.sub_self, HU0.out]
    exact Lib.hid (HBR.out.set_new (by omega) (by funext i; simp))
  clear f0 f1 i0 i1 hmk HBR HAL HU0
  case round =>
    obtain ⟨j, hj, rfl, hO, hB⟩ := hrel
    by_cases hlt : 0 < j
    · obtain ⟨i, rfl⟩ : ∃ i, j = i + 1 := ⟨j - 1, by omega⟩
      have e : (((i + 1 : Nat) : Int) - 1) = (i : Int) := by omega
      rw [e]
      obtain ⟨L, hL, hLe⟩ := HX.out i (by omega)
      obtain ⟨uv, hcu, hui⟩ := HC.out i L hL
      have hki := Lib.hid (HK.out i L hL)
      have hy := HUy.out i (by omega)
      have hno := HUn.out i (by omega)
      rw [hLe] at hy
      have z1 : ∀ W, Grew w W → W.cell? ⟨b, o + i, none⟩ = some uv := fun W hW => (hW.cell (p := ⟨b, o + i, none⟩) hb).trans hcu
      have hfree := hO.out.free
      have hcell := hO.out.cell (p := i) (by omega)
      have HUI := Lib.hid hui
      obtain ⟨A1, c1, rfl⟩ := ints_slice hui
      have i0 : (0 : Int) ≤ (i : Int) := by omega
      have i1 : (i : Int) < (n : Int) := by omega
      clear hcu hui hL hLe e
      generalize US (n - (i + 1)) = u at *
      cases hu : u i with
      | true =>
        rw [hu] at hcell
        have hyy := Lib.hid (hy hu)
        clear hy hno hu
        go_wp2_with fail
        go_loopw [31] (fun r wx => ∃ (q : Nat), q ≤ L.length ∧ r = .int .i64 q ∧ Hid (BRow wx w.heap.size n (orF u (L.take q))) ∧ Grew w wx) (fun r _ => L.length - (intOf r).toNat)
        case atStart => exact ⟨0, Nat.zero_le _, rfl, by rw [orF_zero]; exact hO, hB⟩
        clear hfree hcell hO hB
        case round =>
          obtain ⟨q, hq, rfl, hO2, hB2⟩ := hrel
          by_cases hlt2 : q < L.length
          · obtain ⟨hk0, hk1⟩ := hki.out q hlt2
            obtain ⟨p, hpe⟩ : ∃ p : Nat, it L q = p := ⟨(it L q).toNat, by omega⟩
            rcases HUI.out.open_ with ⟨_, h2⟩ | ⟨b1, o1, c1', hv1, hc1, hm1, hb1, hcl1⟩
            · rw [h2] at hlt2; simp at hlt2
            obtain ⟨rfl, rfl⟩ : A1 = some ⟨b1, o1, none⟩ ∧ c1 = c1' := by simpa using hv1
            have z2 := hcl1 q hlt2 _ hB2
            rw [hpe] at z2
            have y0 := hO2.out.cell (p := p) (by omega)
            have y1 := hO2.out.free
            have j0 : (0 : Int) ≤ (p : Int) := by omega
            have j1 : (p : Int) < (n : Int) := by omega
            have hnx := Lib.hid (hO2.out.set (show p < n by omega) (orF_succ (u := u) hlt2 hpe))
            clear hcl1 hv1 hk0 hk1 hpe
            go_wp2_with fail
            go_roundw
            case rel => exact ⟨q + 1, by omega, by go_num, hnx, hB2.setCell (Nat.le_refl _) _⟩
            case measure => simp [intOf]; omega
          · obtain rfl : q = L.length := by omega
            rw [List.take_length] at hO2
            go_wp2_with fail
            go_roundw
            case rel => exact ⟨i, by omega, by go_num, by rw [hyy.out]; exact hO2, hB2⟩
            case measure => first | (simp [intOf]; done) | (simp [intOf]; omega)
      | false =>
        rw [hu] at hcell
        have hyy := Lib.hid (hno hu)
        clear hy hno hu
        go_wp2_with fail
        go_roundw
        case rel => exact ⟨i, by omega, by go_num, by rw [hyy.out]; exact hO, hB⟩
        case measure => first | (simp [intOf]; done) | (simp [intOf]; omega)
    · obtain rfl : j = 0 := by omega
      rw [Nat.sub_zero] at hO
      go_wp2_with fail
      go_ret
      exact ⟨_, Nat.le_refl _, rfl, hO.out, hB⟩
end Go.Proofs.YtofeeenjlaljpaaGreat

/- neededSteps, l25Used: which steps of a deduction are used. -/
namespace Go.Proofs.YtofeeenjlaljpaaGreat
open Go.RowKit

/-- A row of slices of numbers of the call's own. -/
def OwnW (w : World) (B : Nat) (v : Value) (us : List Value) : Prop := w.ownsRow B 34 1 v us.length us
theorem infoIs : (Tryz.prog.info? 34).map (fun i => (i.zero, i.size, i.bytes)) = some (some (.slice none 0 0), 1, 24) := by kernel_rfl
theorem wpList_appW {ops : Array Oper} {rest : List Oper} {o : Oper} {a : Act} {Q : Exit → Act → World → Prop} {w w0 : World} (s x : Operand) (hgd : o.guard = none)
    (ho : o.op = .call { callee := .builtin .append, args := #[s, x], argTypes := #[96, 96] })
    (v : Value) (us : List Value) (hs : a.eval s = v) (hown : OwnW w w0.heap.size v us) (hg : Grew w0 w) (vx u : Value) (hx : a.eval x = vx) (hr : Rd w 1 vx 1 [u]) (h1 : u.oneCell' = true) (hn : us.length ≤ 1048576)
    (h : ∀ v' w', OwnW w' w0.heap.size v' (us ++ [u]) → Grew w0 w' → wpList Tryz.prog ops Q rest (a.put o.dst v') w') : wpList Tryz.prog ops Q (o :: rest) a w := by
  obtain ⟨i0, hi0, hz0, hz1, hz2⟩ := info_parts infoIs
  refine wpList_append_rd w hgd s x _ ho w0.heap.size 34 i0 _ 1 24 Tryz.underlying96 hi0 hz0 hz1 hz2 rfl (by omega) v us.length us hs hown vx 1 [u] hx hr (by simpa using h1) (by unfold maxLen; omega) (by omega) hg.size ?_
  intro v' w' h1 h2 h3
  refine h v' w' ?_ (hg.grown h2 fun k hk => (hown.lt k hk).1)
  unfold OwnW
  rw [List.length_append]
  exact h1
theorem rd_litb (w : World) {g : Nat} (hg : g = w.heap.size) (u : Value) (t : TypeId) : Rd (w.alloc (.cells #[u] t)) 1 (.slice (some ⟨g, 0, none⟩) 1 1) 1 [u] := by
  subst hg
  exact rd_lit w u t
theorem LLs.of_rd {w w0 : World} {v : Value} {us : List Value} {PL : List (List Int)} (h : Rd w 1 v us.length us) (hg : Grew w0 w) (hP : PL.length = us.length) (hin : ∀ (i : Nat) (L : List Int), PL[i]? = some L → ∃ u, us[i]? = some u ∧ Ints w0 u L) : LLs w v PL := by
  obtain ⟨_, _, h3⟩ := h
  rcases h3 with ⟨h4, h5⟩ | ⟨b, o, c, h4, h5, h6, h7, h8⟩
  · exact .inl ⟨h4, List.eq_nil_of_length_eq_zero (by omega)⟩
  · refine .inr ⟨b, o, c, by rw [hP]; exact h4, by omega, h6, h7, fun i L hL => ?_⟩
    obtain ⟨u, hu, hi⟩ := hin i L hL
    exact ⟨u, h8 i u hu, hi.grew hg⟩
theorem prems_at (xs : List Dd) : (fun i => (xs.map fun x : Dd => x.2.1).getD i []) = fun i => (xs.getD i dd0).2.1 := by
  funext i
  simp only [List.getD, List.getElem?_map]
  cases xs[i]? <;> rfl
set_option maxHeartbeats 4000000 in
theorem neededSteps_c (v : Value) (xs : List Dd) (w : World) (h : Dds w v xs) (hfb : fbd xs xs.length = -1) (hn0 : xs.length ≠ 0) (hn : xs.length ≤ 1048576) :
    Calls Tryz.prog 62 #[v] w (GivesB w xs.length (usd (fun i => (xs.getD i dd0).2.1) xs.length xs.length)) := by
  unfold GivesB
  have KN := Lib.hid (fun W u (h1 : LLs W u (xs.map fun x : Dd => x.2.1)) => by
    have h := neededFor_c u (xs.map fun x : Dd => x.2.1) W h1 (by rw [List.length_map]; exact hn0) (by rw [List.length_map]; exact hn) (fun i L hL q hq => by
      rw [List.getElem?_map] at hL
      cases hx : xs[i]? with
      | none => rw [hx] at hL; cases hL
      | some x =>
        rw [hx] at hL
        obtain rfl : x.2.1 = L := by injection hL
        have h1 := prem_lt hfb hx (it x.2.1 q) (by rw [← it_get hq]; exact List.getElem_mem hq)
        have h2 := (List.getElem?_eq_some_iff.1 hx).1
        rw [List.length_map]
        omega)
    rw [List.length_map, prems_at] at h
    exact h)
  unfold GivesB at KN
  rcases h with ⟨_, h0⟩ | ⟨b, o, c, rfl, hc, hm, hb, hcl⟩
  · rw [h0] at hn0; exact absurd rfl hn0
  have HC := Lib.hid hcl
  have HX := Lib.hid (fun j (hj : j < xs.length) => (⟨xs[j], List.getElem?_eq_getElem hj⟩ : ∃ x, xs[j]? = some x))
  have HM := Lib.hid (fun v' (us : List Value) W (hW : Grew w W) (h1 : OwnW W w.heap.size v' us) (h2 : us.length = xs.length) (h3 : ∀ (i : Nat) (x : Dd), i < xs.length → xs[i]? = some x → ∃ u, us[i]? = some u ∧ Ints w u x.2.1) =>
    LLs.of_rd (PL := xs.map fun x : Dd => x.2.1) (Rd.of_own h1) hW (by rw [List.length_map, h2]) (fun i L hL => by
      rw [List.getElem?_map] at hL
      cases hx : xs[i]? with
      | none => rw [hx] at hL; cases hL
      | some x =>
        rw [hx] at hL
        obtain rfl : x.2.1 = L := by injection hL
        exact h3 i x (List.getElem?_eq_some_iff.1 hx).1 hx))
  clear hcl hfb
  generalize usd (fun i => (xs.getD i dd0).2.1) xs.length xs.length = US at *
  generalize (xs.map fun x : Dd => x.2.1) = PL at *
  generalize hN : xs.length = n at *
  go_enter Tryz.func62, Tryz.ntmps62
  go_wp2_with fail
  go_loopw [3, 8] (fun vv i wr => ∃ (j : Nat) (us : List Value), j ≤ n ∧ i = .int .i64 j ∧ Hid (OwnW wr w.heap.size vv us ∧ us.length = j ∧ ∀ (i : Nat) (x : Dd), i < j → xs[i]? = some x → ∃ u, us[i]? = some u ∧ Ints w u x.2.1) ∧ Grew w wr) (fun _ i _ => n - (intOf i).toNat)
  case atStart => exact ⟨0, [], Nat.zero_le _, rfl, Lib.hid ⟨World.ownsRow_nil w _ _ 1, rfl, fun i x hi => by omega⟩, Grew.refl _⟩
  case round =>
    obtain ⟨j, us, hj, rfl, hO, hB⟩ := hrel
    by_cases hlt : j < n
    · obtain ⟨x, hx⟩ := HX.out j hlt
      obtain ⟨up, ua, hcl, hup, hus⟩ := HC.out j x hx
      obtain ⟨k0, k1, k2, k3, k4⟩ := hcl.grew hb hB
      have hx' := Lib.hid hx
      have HUP := Lib.hid hup
      obtain ⟨A1, ca1, rfl⟩ := ints_slice hup
      obtain ⟨A2, ca2, rfl⟩ := strs_slice hus
      clear hcl hup hus hx
      obtain ⟨r0, rA, rs, rc, rn⟩ := x
      simp only at *
      have hal : ∀ a b, Grew w ((wr.alloc a).alloc b) := fun a b => (hB.alloc a).alloc b
      have hO1 : Hid (∀ a b, OwnW ((wr.alloc a).alloc b) w.heap.size _ us) := Lib.hid (fun a b => own_grew hO.out.1 (((Grew.refl wr).alloc a).alloc b))
      have hul := Lib.hid (show us.length ≤ 1048576 by have := hO.out.2.1; omega)
      go_wp2_with (first | (at_builtin; refine wpList_appW (w0 := w) _ _ rfl rfl _ us rfl (hO1.out _ _) (hal _ _) _ (.slice A1 rA.length ca1) rfl (rd_litb _ (by simp) _ _) rfl hul.out ?_; intro v2 w2 hown2 hg2))
      go_roundw
      case rel =>
        refine ⟨j + 1, us ++ [.slice A1 rA.length ca1], by omega, by go_num, Lib.hid ⟨hown2, by rw [List.length_append, hO.out.2.1]; rfl, fun i x hi hxi => ?_⟩, hg2⟩
        have hul2 := hO.out.2.1
        by_cases h : i < j
        · obtain ⟨u, h1, h2⟩ := hO.out.2.2 i x h hxi
          exact ⟨u, by rw [List.getElem?_append_left (by omega)]; exact h1, h2⟩
        · obtain rfl : i = j := by omega
          rw [hx'.out] at hxi
          obtain rfl := Option.some.inj hxi
          refine ⟨_, ?_, HUP.out⟩
          rw [List.getElem?_append_right (by omega), hul2, Nat.sub_self]
          rfl
      case measure => simp [intOf]; omega
    · obtain rfl : j = n := by omega
      go_wp2_with fail
      refine (KN.out _ _ (HM.out _ us _ hB hO.out.1 (by rw [hO.out.2.1]) hO.out.2.2)).mono ?_
      rintro e w2 ⟨g, hg0, rfl, hbr, hg2⟩
      have HBR := Lib.hid hbr
      have hsz := Nat.le_trans hB.size hg0
      clear hbr hg0
      go_wp2_with fail
      go_ret
      exact ⟨g, hsz, rfl, HBR.out, hB.trans hg2⟩
set_option maxHeartbeats 4000000 in
theorem l25Used_c (v : Value) (xs : List Dd) (w : World) (h : Dds w v xs) (hfb : fbd xs xs.length = -1) (hn0 : xs.length ≠ 0) (hn : xs.length ≤ 1048576) :
    Calls Tryz.prog 60 #[v] w (GivesB w xs.length (usd (fun i => (xs.getD i dd0).2.1) xs.length xs.length)) := by
  unfold GivesB
  rcases h with ⟨_, h0⟩ | ⟨b, o, c, rfl, hc, hm, hb, hcl⟩
  · rw [h0] at hn0; exact absurd rfl hn0
  have HC := Lib.hid hcl
  have HX := Lib.hid (fun j (hj : j < xs.length) => (⟨xs[j], List.getElem?_eq_getElem hj, by simp [List.getD, hj]⟩ : ∃ x, xs[j]? = some x ∧ (xs.getD j dd0).2.1 = x.2.1))
  have HK : Hid (∀ (i : Nat) (x : Dd), xs[i]? = some x → ∀ q, q < x.2.1.length → 0 ≤ it x.2.1 q ∧ it x.2.1 q < (xs.length : Int)) := Lib.hid (fun i x hx q hq => by
    have h1 := prem_lt hfb hx (it x.2.1 q) (by rw [← it_get hq]; exact List.getElem_mem hq)
    have h2 := (List.getElem?_eq_some_iff.1 hx).1
    omega)
  clear hcl hfb
  have HUy := Lib.hid (fun i hi h => @usd_yes (fun i => (xs.getD i dd0).2.1) xs.length i hi h)
  have HUn := Lib.hid (fun i hi h => @usd_no (fun i => (xs.getD i dd0).2.1) xs.length i hi h)
  have HU0 : Hid (usd (fun i => (xs.getD i dd0).2.1) xs.length 0 = fun i => i == xs.length - 1) := Lib.hid rfl
  have hmk := fun W => run_make_rows (P := Tryz.prog) 70 4 (.bool false) 1 1 #[.bool false] Tryz.underlying70 infoBl rfl .i64 .i64 xs.length (by omega) (by omega) W
  rw [Nat.mul_one] at hmk
  have hbr : BRow (w.alloc (.cells (madeCells #[Value.bool false] xs.length) 4)) w.heap.size xs.length (fun _ => false) := ⟨_, blk_new w _, size_madeCells _ _, fun i hi => made_b hi⟩
  have HBR := Lib.hid hbr
  have HAL := Lib.hid ((Grew.refl w).alloc (.cells (madeCells #[Value.bool false] xs.length) 4))
  clear hbr
  generalize madeCells #[Value.bool false] xs.length = cur0 at *
  generalize hgp : usd (fun i => (xs.getD i dd0).2.1) xs.length = US at *
  clear hgp
  generalize hN : xs.length = n at *
  have f0 := HBR.out.cell (p := n - 1) (by omega)
  have f1 := HBR.out.free
  have i0 : (0 : Int) ≤ (n : Int) - 1 := by omega
  have i1 : (n : Int) - 1 < (n : Int) := by omega
  go_enter Tryz.func60, Tryz.ntmps60
  go_wp2_with fail
  go_loopw [4] (fun k wr => ∃ (j : Nat), j ≤ n ∧ k = .int .i64 ((j : Int) - 1) ∧ Hid (BRow wr w.heap.size n (US (n - j))) ∧ Grew w wr) (fun k _ => (intOf k + 1).toNat)
  case atStart =>
    refine ⟨n, Nat.le_refl _, rfl, ?_, (Grew.refl w).alloc _⟩
    rw [Nat.sub_self, HU0.out]
    exact Lib.hid (HBR.out.set_new (by omega) (by funext i; simp))
  clear f0 f1 i0 i1 hmk HBR HAL HU0
  case round =>
    obtain ⟨j, hj, rfl, hO, hB⟩ := hrel
    by_cases hlt : 0 < j
    · obtain ⟨i, rfl⟩ : ∃ i, j = i + 1 := ⟨j - 1, by omega⟩
      have e : (((i + 1 : Nat) : Int) - 1) = (i : Int) := by omega
      rw [e]
      obtain ⟨x, hx, hxe⟩ := HX.out i (by omega)
      obtain ⟨up, ua, hcl, hui, hus⟩ := HC.out i x hx
      have hki := Lib.hid (HK.out i x hx)
      have hy := HUy.out i (by omega)
      have hno := HUn.out i (by omega)
      rw [hxe] at hy
      have k1 := fun W (hW : Grew w W) => (hcl.grew hb hW).2.1
      have HUI := Lib.hid hui
      obtain ⟨A1, c1, rfl⟩ := ints_slice hui
      obtain ⟨r0, L, rs, rc, rn⟩ := x
      clear hcl hui hus hx hxe e
      simp only at *
      have i0 : (0 : Int) ≤ (i : Int) := by omega
      have i1 : (i : Int) < (n : Int) := by omega
      generalize US (n - (i + 1)) = u at *
      cases hu : u i with
      | true =>
        have hyy := Lib.hid (hy hu)
        have hu2 := Lib.hid hu
        clear hy hno hu
        go_wp2_with fail
        go_loopw [5] (fun r wx => ∃ (q : Nat), q ≤ L.length ∧ r = .int .i64 q ∧ Hid (BRow wx w.heap.size n (orF u (L.take q))) ∧ Grew w wx) (fun r _ => L.length - (intOf r).toNat)
        case atStart => exact ⟨0, Nat.zero_le _, rfl, by rw [orF_zero]; exact hO, hB⟩
        clear hO hB
        case round =>
          obtain ⟨q, hq, rfl, hO2, hB2⟩ := hrel
          by_cases hlt2 : q < L.length
          · obtain ⟨hk0, hk1⟩ := hki.out q hlt2
            obtain ⟨p, hpe⟩ : ∃ p : Nat, it L q = p := ⟨(it L q).toNat, by omega⟩
            rcases HUI.out.open_ with ⟨_, h2⟩ | ⟨b1, o1, c1', hv1, hc1, hm1, hb1, hcl1⟩
            · rw [h2] at hlt2; simp at hlt2
            obtain ⟨rfl, rfl⟩ : A1 = some ⟨b1, o1, none⟩ ∧ c1 = c1' := by simpa using hv1
            have z2 := hcl1 q hlt2 _ hB2
            rw [hpe] at z2
            have hcell := hO2.out.cell (p := i) (by omega)
            have ht : orF u (L.take q) i = true := by unfold orF; rw [hu2.out, Bool.true_or]
            rw [ht] at hcell
            have y0 := hO2.out.cell (p := p) (by omega)
            have y1 := hO2.out.free
            have j0 : (0 : Int) ≤ (p : Int) := by omega
            have j1 : (p : Int) < (n : Int) := by omega
            have hnx := Lib.hid (hO2.out.set (show p < n by omega) (orF_succ (u := u) hlt2 hpe))
            clear hcl1 hv1 hk0 hk1 hpe ht
            go_wp2_with fail
            go_roundw
            case rel => exact ⟨q + 1, by omega, by go_num, hnx, hB2.setCell (Nat.le_refl _) _⟩
            case measure => simp [intOf]; omega
          · obtain rfl : q = L.length := by omega
            rw [List.take_length] at hO2
            go_wp2_with fail
            go_roundw
            case rel => exact ⟨i, by omega, by go_num, by rw [hyy.out]; exact hO2, hB2⟩
            case measure => first | (simp [intOf]; done) | (simp [intOf]; omega)
      | false =>
        have hyy := Lib.hid (hno hu)
        have hu2 := Lib.hid hu
        clear hy hno hu
        go_wp2_with fail
        go_loopw [5] (fun r wx => r = .int .i64 0 ∧ Hid (BRow wx w.heap.size n u) ∧ Grew w wx) (fun r _ => 0)
        case atStart => exact ⟨rfl, hO, hB⟩
        clear hO hB
        case round =>
          obtain ⟨rfl, hO2, hB2⟩ := hrel
          have hcell := hO2.out.cell (p := i) (by omega)
          rw [hu2.out] at hcell
          by_cases hl0 : (0 : Int) < (L.length : Int)
          · go_wp2_with fail
            go_roundw
            case rel => exact ⟨i, by omega, by go_num, by rw [hyy.out]; exact hO2, hB2⟩
            case measure => first | (simp [intOf]; done) | (simp [intOf]; omega)
          · go_wp2_with fail
            go_roundw
            case rel => exact ⟨i, by omega, by go_num, by rw [hyy.out]; exact hO2, hB2⟩
            case measure => first | (simp [intOf]; done) | (simp [intOf]; omega)
    · obtain rfl : j = 0 := by omega
      rw [Nat.sub_zero] at hO
      go_wp2_with fail
      go_ret
      exact ⟨_, Nat.le_refl _, rfl, hO.out, hB⟩
end Go.Proofs.YtofeeenjlaljpaaGreat

/- newNumbers: the numbers that the steps that are kept get. -/
namespace Go.Proofs.YtofeeenjlaljpaaGreat
open Go.RowKit

/-- How many of the first k are in the set. -/
def cn (u : Nat → Bool) : Nat → Nat
  | 0 => 0
  | k + 1 => cn u k + (if u k then 1 else 0)
def nums (u : Nat → Bool) (n : Nat) : List Int := (List.range n).map fun k : Nat => (cn u k : Int)
theorem cn_le (u : Nat → Bool) : ∀ k, cn u k ≤ k
  | 0 => Nat.le_refl _
  | k + 1 => by
    have := cn_le u k
    show cn u k + (if u k then 1 else 0) ≤ k + 1
    split <;> omega
theorem cn_yes {u : Nat → Bool} {k : Nat} (h : u k = true) : cn u (k + 1) = cn u k + 1 := by
  show cn u k + (if u k then 1 else 0) = _
  rw [if_pos h]
theorem cn_no {u : Nat → Bool} {k : Nat} (h : u k = false) : cn u (k + 1) = cn u k := by
  show cn u k + (if u k then 1 else 0) = _
  rw [h]
  rfl
/-- A block of numbers. -/
def IRow (w : World) (g n : Nat) (f : Nat → Int) : Prop := ∃ cur, w.heap[g]? = some (.cells cur 2 (0, 0)) ∧ cur.size = n ∧ ∀ i, i < n → cur[i]? = some (.int .i64 (f i))
theorem IRow.lt {w : World} {g n : Nat} {f : Nat → Int} (h : IRow w g n f) : g < w.heap.size := by
  obtain ⟨cur, h1, _⟩ := h
  exact blk_lt h1
theorem IRow.grew {w w' : World} {g n : Nat} {f : Nat → Int} (h : IRow w g n f) (hg : Grew w w') : IRow w' g n f := by
  have hl := h.lt
  obtain ⟨cur, h1, h2, h3⟩ := h
  exact ⟨cur, (hg.block hl).trans h1, h2, h3⟩
theorem IRow.cell {w : World} {g n : Nat} {f : Nat → Int} (h : IRow w g n f) {p : Nat} (hp : p < n) : w.cell? ⟨g, p, none⟩ = some (.int .i64 (f p)) := by
  obtain ⟨cur, h1, h2, h3⟩ := h
  rw [blk_cell h1]
  exact h3 p hp
theorem IRow.free {w : World} {g n : Nat} {f : Nat → Int} (h : IRow w g n f) (p : Nat) : w.frozen? ⟨g, p, none⟩ = false := by
  obtain ⟨cur, h1, h2, h3⟩ := h
  exact blk_frozen h1 p
theorem IRow.set {w : World} {g n : Nat} {f f' : Nat → Int} (h : IRow w g n f) {p : Nat} (hp : p < n) {z : Int} (hz : f' p = z) (hf : ∀ i, i < n → i ≠ p → f' i = f i) : IRow (w.setCell ⟨g, p, none⟩ (.int .i64 z)) g n f' := by
  obtain ⟨cur, h1, h2, h3⟩ := h
  refine ⟨_, blk_set h1 p _, by simp [h2], fun i hi => ?_⟩
  rw [Array.getElem?_setIfInBounds]
  by_cases hip : p = i
  · subst hip
    rw [if_pos rfl, if_pos (by omega), hz]
  · rw [if_neg hip, h3 i hi, hf i hi (fun h => hip h.symm)]
theorem IRow.own {w : World} {g n B : Nat} {f : Nat → Int} (h : IRow w g n f) (hB : B ≤ g) (hn : n ≤ 1048576) : OwnI w B (.slice (some ⟨g, 0, none⟩) n n) ((List.range n).map f) := by
  obtain ⟨cur, h1, h2, h3⟩ := h
  have hl : ((List.range n).map f).length = n := by simp
  unfold OwnI
  rw [hl]
  refine ⟨by simp [icells], .inr ⟨g, n, cur, rfl, hB, h1, Nat.le_refl _, by unfold maxLen; omega, by omega, ?_⟩⟩
  apply List.ext_getElem?
  intro i
  rw [List.getElem?_take]
  by_cases hi : i < n
  · rw [if_pos (by omega), Array.getElem?_toList, h3 i hi]
    simp [icells, hi]
  · rw [if_neg (by omega)]
    simp [icells, hi]
theorem made_i {n i : Nat} (hi : i < n) : (madeCells #[Value.int .i64 0] n)[i]? = some (.int .i64 0) := by
  have e := toList_madeCells_one (.int .i64 0) n
  rw [← Array.getElem?_toList, e]
  simp [hi]
theorem one_c (t : Bool) (w : World) : Calls Tryz.prog 94 #[.bool t] w fun e w' => e = .returned (.int .i64 (if t then 1 else 0)) ∧ Grew w w' := by
  cases t with
  | true =>
    go_enter Tryz.func94, Tryz.ntmps94
    go_wp2_with fail
    go_ret
    exact ⟨rfl, Grew.refl _⟩
  | false =>
    go_enter Tryz.func94, Tryz.ntmps94
    go_wp2_with fail
    go_ret
    exact ⟨rfl, Grew.refl _⟩
set_option maxHeartbeats 4000000 in
theorem newNumbers_c (g n : Nat) (u : Nat → Bool) (w : World) (h : BRow w g n u) (hn : n ≤ 1048576) :
    Calls Tryz.prog 63 #[.slice (some ⟨g, 0, none⟩) n n] w (GivesI1 w (nums u n)) := by
  unfold GivesI1
  have HBR := Lib.hid h
  have hmk := fun W => run_make_rows (P := Tryz.prog) 34 2 (.int .i64 0) 1 8 #[.int .i64 0] Tryz.underlying34 Tryz.infoI rfl .i64 .i64 n (by omega) (by omega) W
  rw [Nat.mul_one] at hmk
  have hir : IRow (w.alloc (.cells (madeCells #[Value.int .i64 0] n) 2)) w.heap.size n (fun i => if i < 0 then (cn u i : Int) else 0) := ⟨_, blk_new w _, size_madeCells _ _, fun i hi => by
    show _ = some (Value.int .i64 (if i < 0 then (cn u i : Int) else 0))
    rw [if_neg (by omega)]
    exact made_i hi⟩
  have HIR := Lib.hid hir
  have HAL := Lib.hid ((Grew.refl w).alloc (.cells (madeCells #[Value.int .i64 0] n) 2))
  clear hir h
  generalize madeCells #[Value.int .i64 0] n = cur0 at *
  have HC := Lib.hid (fun k => cn_le u k)
  have HF : Hid (∀ W, IRow W w.heap.size n (fun i => if i < n then (cn u i : Int) else 0) → OwnI W w.heap.size (.slice (some ⟨w.heap.size, 0, none⟩) n n) (nums u n)) := Lib.hid (fun W hW => by
    have h := hW.own (Nat.le_refl _) hn
    have e : (List.range n).map (fun i => if i < n then (cn u i : Int) else 0) = nums u n := by
      unfold nums
      apply List.map_congr_left
      intro i hi
      rw [if_pos (List.mem_range.1 hi)]
    rwa [e] at h)
  go_enter Tryz.func63, Tryz.ntmps63
  go_wp2_with fail
  go_loopw [4, 12] (fun kc i wr => ∃ (j : Nat), j ≤ n ∧ i = .int .i64 j ∧ kc = .int .i64 (cn u j) ∧ Hid (IRow wr w.heap.size n (fun i => if i < j then (cn u i : Int) else 0)) ∧ Grew w wr) (fun _ i _ => n - (intOf i).toNat)
  case atStart => exact ⟨0, Nat.zero_le _, rfl, rfl, HIR, HAL.out⟩
  clear hmk HIR HAL
  case round =>
    obtain ⟨j, hj, rfl, rfl, hO, hB⟩ := hrel
    by_cases hlt : j < n
    · have hcell := (HBR.out.grew hB).cell hlt
      have y0 := hO.out.cell hlt
      have y1 := hO.out.free
      have hnx : Hid (∀ W : World, IRow (wr.setCell ⟨w.heap.size, j, none⟩ (.int .i64 (cn u j))) w.heap.size n (fun i => if i < j + 1 then (cn u i : Int) else 0)) := Lib.hid (fun _ => hO.out.set hlt (by rw [if_pos (by omega)]) (fun i hi hij => by
        by_cases h : i < j
        · rw [if_pos h, if_pos (by omega)]
        · rw [if_neg h, if_neg (by omega)]))
      have hcj := HC.out j
      have hst := Lib.hid (show (cn u (j + 1) : Int) = (cn u j : Int) + (if u j then 1 else 0) by cases hu : u j; rw [cn_no hu]; simp; rw [cn_yes hu]; simp)
      generalize hcn : cn u j = k at *
      clear hcn
      go_wp2_with fail
      refine (one_c _ _).mono ?_
      rintro e w2 ⟨rfl, hg2⟩
      have hb1 : 0 ≤ (if u j = true then (1 : Int) else 0) ∧ (if u j = true then (1 : Int) else 0) ≤ 1 := by split <;> omega
      generalize (if u j = true then (1 : Int) else 0) = o1 at *
      obtain ⟨hb1, hb2⟩ := hb1
      go_wp2_with fail
      go_roundw
      case rel => exact ⟨j + 1, by omega, by go_num, by rw [hst.out], Lib.hid ((hnx.out w2).grew hg2), (hB.setCell (Nat.le_refl _) _).trans hg2⟩
      case measure => simp [intOf]; omega
    · obtain rfl : j = n := by omega
      go_wp2_with fail
      go_ret
      exact ⟨_, rfl, HF.out _ hO.out, hB⟩
end Go.Proofs.YtofeeenjlaljpaaGreat

/- PruneDeduction of both sides. -/
namespace Go.Proofs.YtofeeenjlaljpaaGreat
open Go.RowKit

/-- The steps among the first k that are in the set. -/
def kp (u : Nat → Bool) (xs : List Dd) (k : Nat) : List Dd := ((List.range k).filter u).map fun i : Nat => xs.getD i dd0
theorem kp_yes {u : Nat → Bool} {xs : List Dd} {k : Nat} {x : Dd} (hx : xs[k]? = some x) (h : u k = true) : kp u xs (k + 1) = kp u xs k ++ [x] := by
  unfold kp
  rw [List.range_succ, List.filter_append, List.map_append]
  have e : xs.getD k dd0 = x := by simp [List.getD, hx]
  congr 1
  rw [List.filter_cons, h]
  show [xs.getD k dd0] = [x]
  rw [e]
theorem kp_no {u : Nat → Bool} {xs : List Dd} {k : Nat} (h : u k = false) : kp u xs (k + 1) = kp u xs k := by
  unfold kp
  rw [List.range_succ, List.filter_append, List.map_append, List.filter_cons, h]
  simp
theorem kp_len (u : Nat → Bool) (xs : List Dd) : ∀ k, (kp u xs k).length = cn u k
  | 0 => rfl
  | k + 1 => by
    have ih := kp_len u xs k
    unfold kp at ih ⊢
    rw [List.length_map] at ih ⊢
    rw [List.range_succ, List.filter_append, List.length_append, ih, List.filter_cons]
    show _ = cn u k + (if u k then 1 else 0)
    cases u k <;> rfl
theorem kp_mem {u : Nat → Bool} {xs : List Dd} {k : Nat} (hk : k ≤ xs.length) {x : Dd} (h : x ∈ kp u xs k) : ∃ i, i < xs.length ∧ xs[i]? = some x := by
  unfold kp at h
  obtain ⟨i, hi, rfl⟩ := List.mem_map.1 h
  have h1 := List.mem_range.1 (List.mem_filter.1 hi).1
  have h2 : i < xs.length := by omega
  exact ⟨i, h2, by rw [List.getElem?_eq_getElem h2]; simp [List.getD, h2]⟩
/-- What is used for the result. -/
def ud (xs : List Dd) : Nat → Bool := usd (fun i => (xs.getD i dd0).2.1) xs.length xs.length
noncomputable def prnF (xs : List Dd) : List Dd × Int := if dcode [xs] = 0 then ((kp (ud xs) xs xs.length).map (toD (nums (ud xs) xs.length)), 0) else ([], dcode [xs])
set_option maxHeartbeats 8000000 in
theorem implPrn_c (v : Value) (xs : List Dd) (w : World) (hv : Dds w v xs) (hf : FitsDd xs) (_hn : xs.length ≤ 1048576) :
    Calls Tryz.prog 30 #[v] w (GivesDc w (prnF xs)) := by
  unfold GivesDc prnF
  obtain ⟨A, c, rfl⟩ := Dds_slice hv
  have KD := Lib.hid (deductionCode_c _ [xs] _ (DdL.one (T := 27) hv) (fun i hi => by obtain rfl : i = 0 := (by simpa using hi); exact hf))
  have HAL := Lib.hid ((Grew.refl w).alloc (.cells #[.slice A xs.length c] 27))
  by_cases hd : dcode [xs] = 0
  case neg =>
    rw [if_neg hd]
    have e0 : (dcode [xs] == 0) = false := by simpa using hd
    clear hv hf hd
    generalize dcode [xs] = d at *
    go_enter Tryz.func30, Tryz.ntmps30
    go_wp2_with fail
    refine (KD.out).mono ?_
    rintro e w1 ⟨rfl, hg1⟩
    go_wp2_with fail
    go_ret2
    exact ⟨_, rfl, OwnDx.nil_ _ _ _, HAL.out.trans hg1⟩
  rw [if_pos hd]
  rw [hd] at KD
  obtain ⟨hn0, hn1, hfb⟩ := dcode_zero hd
  have KS := Lib.hid (fun W (hW : Grew w W) => neededSteps_c _ xs W (hv.grew hW) hfb hn0 _hn)
  have KN := Lib.hid (fun g W (h : BRow W g xs.length (ud xs)) => newNumbers_c g xs.length (ud xs) W h _hn)
  have hln : (nums (ud xs) xs.length).length = xs.length := by simp [nums]
  have KM := Lib.hid (fun W vk vt (hk : Dds W vk (kp (ud xs) xs xs.length)) (hvt : Ints W vt (nums (ud xs) xs.length)) =>
    mapDeductions_c vk vt (kp (ud xs) xs xs.length) (nums (ud xs) xs.length) W hk hvt (fun x hx => by
      obtain ⟨i, hi, hx2⟩ := kp_mem (Nat.le_refl _) hx
      exact hf x (List.mem_of_getElem? hx2)) (fun i x hx q hq => by
      obtain ⟨i2, hi2, hx2⟩ := kp_mem (Nat.le_refl _) (List.mem_of_getElem? hx)
      have h1 := prem_lt hfb hx2 (it x.2.1 q) (by rw [← it_get hq]; exact List.getElem_mem hq)
      rw [hln]
      omega) (by rw [kp_len]; have := cn_le (ud xs) xs.length; omega))
  have HY := Lib.hid (fun k x hx h => @kp_yes (ud xs) xs k x hx h)
  have HO := Lib.hid (fun k h => @kp_no (ud xs) xs k h)
  have HLn := Lib.hid (fun k => Nat.le_trans (Nat.le_of_eq (kp_len (ud xs) xs k)) (cn_le (ud xs) k))
  have HZ : Hid (kp (ud xs) xs 0 = []) := Lib.hid rfl
  have HX := Lib.hid (fun j (hj : j < xs.length) => (⟨xs[j], List.getElem?_eq_getElem hj⟩ : ∃ x, xs[j]? = some x))
  unfold GivesB at KS
  unfold GivesI1 at KN
  unfold GivesDp at KM
  rcases hv with ⟨_, h0⟩ | ⟨b, o, c', hv, hc, hm, hb, hcl⟩
  · rw [h0] at hn0; exact absurd rfl hn0
  obtain ⟨rfl, rfl⟩ : A = some ⟨b, o, none⟩ ∧ c = c' := by simpa using hv
  have HC := Lib.hid hcl
  clear hv hf hd hfb hcl hln
  generalize hud : ud xs = u at *
  unfold ud at hud
  rw [hud] at KS
  clear hud
  generalize (kp u xs xs.length).map (toD (nums u xs.length)) = MX at *
  generalize nums u xs.length = NU at *
  generalize hN : xs.length = n at *
  go_enter Tryz.func30, Tryz.ntmps30
  go_wp2_with fail
  refine (KD.out).mono ?_
  rintro e w1 ⟨rfl, hg1⟩
  have g1 := HAL.out.trans hg1
  go_wp2_with fail
  refine (KS.out _ g1).mono ?_
  rintro e w2 ⟨g, hg0, rfl, hbr, hg2⟩
  have g2 := g1.trans hg2
  have HBR := Lib.hid hbr
  clear hbr hg0 KS KD HAL hg1 hg2
  go_wp2_with fail
  go_loopw [6, 19] (fun vv i wr => ∃ (j : Nat), j ≤ n ∧ i = .int .i64 j ∧ Hid (OwnP w2 wr w2.heap.size vv (kp u xs j)) ∧ Grew w2 wr) (fun _ i _ => n - (intOf i).toNat)
  case atStart => exact ⟨0, Nat.zero_le _, rfl, by rw [HZ.out]; exact Lib.hid ⟨[], rfl, World.ownsRow_nil w2 _ _ 5, fun p hp => by cases hp⟩, Grew.refl _⟩
  case round =>
    obtain ⟨j, hj, rfl, hO, hB⟩ := hrel
    by_cases hlt : j < n
    · obtain ⟨x, hx⟩ := HX.out j hlt
      obtain ⟨up, ua, hcl, hup, hus⟩ := HC.out j x hx
      obtain ⟨k0, k1, k2, k3, k4⟩ := hcl.grew hb (g2.trans hB)
      have hy := HY.out j x hx
      have hno := HO.out j
      have hll := HLn.out j
      have HUP := Lib.hid (hup.grew g2)
      have HUS := Lib.hid (hus.grew g2)
      have hbc := HBR.out.cell hlt
      have hbc2 := (HBR.out.grew hB).cell hlt
      have hbl := HBR.out.lt
      obtain ⟨A1, ca1, rfl⟩ := ints_slice hup
      obtain ⟨A2, ca2, rfl⟩ := strs_slice hus
      clear hcl hup hus hx hbc
      obtain ⟨r0, rA, rs, rc, rn⟩ := x
      simp only at *
      have hal : ∀ a, Grew w2 (wr.alloc a) := fun a => hB.alloc a
      have hal2 : ∀ a b, Grew w2 ((wr.alloc a).alloc b) := fun a b => (hB.alloc a).alloc b
      have hbw := hB.size
      have hgw : g < wr.heap.size := by omega
      cases hu : u j with
      | true =>
        rw [hu] at hbc2
        have hyy := Lib.hid (hy hu)
        clear hy hno hu
        generalize kp u xs j = Kj at *
        have hO1 := Lib.hid (fun a b => hO.out.grew (((Grew.refl wr).alloc a).alloc b))
        have hkl := Lib.hid (show Kj.length ≤ 1048576 by omega)
        clear hll
        go_wp2_with (first | (at_builtin; refine wpList_appD (w0 := w2) _ _ rfl rfl _ Kj rfl (hO1.out _ _) (hal2 _ _) _ _ _ (r0, rA, rs, rc, rn) rfl (rd_litDb _ (by simp) _ _ _ _ _ _) HUP.out HUS.out hkl.out ?_; intro v2 w3 hown2 hg3 _ _))
        go_roundw
        case rel => exact ⟨j + 1, by omega, by go_num, by rw [hyy.out]; exact Lib.hid hown2, hg3⟩
        case measure => simp [intOf]; omega
      | false =>
        rw [hu] at hbc2
        have hyy := Lib.hid (hno hu)
        clear hy hno hu
        go_wp2_with fail
        go_roundw
        case rel => exact ⟨j + 1, by omega, by go_num, by rw [hyy.out]; exact Lib.hid (hO.out.grew ((Grew.refl wr).alloc _)), hal _⟩
        case measure => simp [intOf]; omega
    · obtain rfl : j = n := by omega
      go_wp2_with fail
      refine (KN.out g _ (HBR.out.grew hB)).mono ?_
      rintro e w3 ⟨v3, rfl, ho3, hg3⟩
      have HV := Lib.hid ho3
      clear ho3
      go_wp2_with fail
      refine (KM.out _ _ _ ((hO.out.dds hB).grew hg3) HV.out.ints).mono ?_
      rintro e w4 ⟨v4, ps, rfl, ho4, hg4⟩
      have HO4 := Lib.hid ho4
      have gg := (g2.trans hB).trans hg3
      clear ho4
      go_wp2_with fail
      go_ret2
      exact ⟨_, rfl, (HO4.out.base gg.size).ownDx, gg.trans hg4⟩
end Go.Proofs.YtofeeenjlaljpaaGreat

/- What is used is closed: the premises of a used step are used. No program is in sight. -/
namespace Go.Proofs.YtofeeenjlaljpaaGreat
open Go.RowKit

theorem usd_mono {P : Nat → List Int} {n m i : Nat} (h : usd P n m i = true) : ∀ k, usd P n (m + k) i = true
  | 0 => h
  | k + 1 => by
    have ih := usd_mono h k
    show (if usd P n (m + k) (n - 1 - (m + k)) then orF (usd P n (m + k)) (P (n - 1 - (m + k))) else usd P n (m + k)) i = true
    split
    · unfold orF; rw [ih]; rfl
    · exact ih
theorem usd_stay {P : Nat → List Int} {n k : Nat} (hk : k < n) (hP : ∀ j, j < n → ∀ p ∈ P j, p < (j : Int)) : ∀ d, d ≤ k + 1 → usd P n (n - (k + 1) + d) k = usd P n (n - (k + 1)) k
  | 0, _ => rfl
  | d + 1, hd => by
    have ih := usd_stay hk hP d (by omega)
    show (if usd P n (n - (k + 1) + d) (n - 1 - (n - (k + 1) + d)) then orF (usd P n (n - (k + 1) + d)) (P (n - 1 - (n - (k + 1) + d))) else usd P n (n - (k + 1) + d)) k = _
    split
    · unfold orF
      have h1 : decide ((k : Int) ∈ P (n - 1 - (n - (k + 1) + d))) = false := by
        apply decide_eq_false
        intro h
        have := hP _ (by omega) _ h
        omega
      rw [h1, ih, Bool.or_false]
    · exact ih
theorem usd_closed {P : Nat → List Int} {n k p : Nat} (hk : k < n) (hP : ∀ j, j < n → ∀ p ∈ P j, p < (j : Int)) (h : usd P n n k = true) (hp : (p : Int) ∈ P k) : usd P n n p = true := by
  have h1 := usd_stay hk hP (k + 1) (Nat.le_refl _)
  have e : n - (k + 1) + (k + 1) = n := by omega
  rw [e] at h1
  rw [h1] at h
  have h2 := usd_yes hk h
  have h3 : usd P n (n - k) p = true := by
    rw [h2]
    unfold orF
    rw [decide_eq_true hp, Bool.or_true]
  have h4 := usd_mono h3 k
  have e2 : n - k + k = n := by omega
  rwa [e2] at h4
/-- The numbers while the k first steps have been looked at. -/
def nmk (u : Nat → Bool) (n k : Nat) : List Int := (List.range n).map fun i : Nat => if i < k ∧ u i = true then (cn u i : Int) else 0
theorem toD_nmk {xs : List Dd} {k : Nat} {x : Dd} (hfb : fbd xs xs.length = -1) (hx : xs[k]? = some x) (hu : ud xs k = true) : toD (nmk (ud xs) xs.length (k + 1)) x = toD (nums (ud xs) xs.length) x := by
  have hk := (List.getElem?_eq_some_iff.1 hx).1
  have hP : ∀ j, j < xs.length → ∀ p ∈ (xs.getD j dd0).2.1, p < (j : Int) := fun j hj p hp => by
    have e : xs.getD j dd0 = xs[j] := by simp [List.getD, hj]
    rw [e] at hp
    exact (prem_lt hfb (List.getElem?_eq_getElem hj) p hp).2
  have hxk : xs.getD k dd0 = x := by simp [List.getD, hx]
  unfold toD imgs
  have e : x.2.1.map (fun q => it (nmk (ud xs) xs.length (k + 1)) q.toNat) = x.2.1.map (fun q => it (nums (ud xs) xs.length) q.toNat) := by
    apply List.map_congr_left
    intro q hq
    obtain ⟨h1, h2⟩ := prem_lt hfb hx q hq
    obtain ⟨p, rfl⟩ : ∃ p : Nat, q = (p : Int) := ⟨q.toNat, by omega⟩
    have hup : ud xs p = true := usd_closed hk hP hu (by rw [hxk]; exact hq)
    have hpk : p < k := by omega
    have hpn : p < xs.length := by omega
    rw [Int.toNat_natCast]
    have e1 : it (nmk (ud xs) xs.length (k + 1)) p = cn (ud xs) p := by
      simp only [it, nmk, List.getD, List.getElem?_map, List.getElem?_range hpn]
      show (if p < k + 1 ∧ ud xs p = true then (cn (ud xs) p : Int) else 0) = _
      rw [if_pos ⟨by omega, hup⟩]
    have e2 : it (nums (ud xs) xs.length) p = cn (ud xs) p := by
      simp only [it, nums, List.getD, List.getElem?_map, List.getElem?_range hpn]
      rfl
    rw [e1, e2]
  rw [e]
end Go.Proofs.YtofeeenjlaljpaaGreat

/- PruneDeduction of the reference. -/
namespace Go.Proofs.YtofeeenjlaljpaaGreat
open Go.RowKit

theorem irow_newb (w : World) {g : Nat} (hg : g = w.heap.size) {n : Nat} {f : Nat → Int} {cur : Array Value} (hs : cur.size = n) (h : ∀ i, i < n → cur[i]? = some (.int .i64 (f i))) : IRow (w.alloc (.cells cur 2)) g n f := by
  subst hg
  exact ⟨cur, blk_new w _, hs, h⟩
theorem own_emptyDb (w : World) {g B : Nat} (hg : g = w.heap.size) (hB : B ≤ w.heap.size) : OwnDp (w.alloc (.cells #[] 50)) B (.slice (some ⟨g, 0, none⟩) 0 0) [] [] := by
  subst hg
  exact (own_emptyD w).base hB
theorem BRow.other {w w' : World} {g n : Nat} {u : Nat → Bool} (h : BRow w g n u) (he : w'.heap[g]? = w.heap[g]?) : BRow w' g n u := by
  obtain ⟨cur, h1, h2, h3⟩ := h
  exact ⟨cur, he.trans h1, h2, h3⟩
theorem IRow.other {w w' : World} {g n : Nat} {f : Nat → Int} (h : IRow w g n f) (he : w'.heap[g]? = w.heap[g]?) : IRow w' g n f := by
  obtain ⟨cur, h1, h2, h3⟩ := h
  exact ⟨cur, he.trans h1, h2, h3⟩
theorem IRow.congr {w : World} {g n : Nat} {f f' : Nat → Int} (h : IRow w g n f) (hf : ∀ i, i < n → f' i = f i) : IRow w g n f' := by
  obtain ⟨cur, h1, h2, h3⟩ := h
  exact ⟨cur, h1, h2, fun i hi => by rw [h3 i hi, hf i hi]⟩
theorem BRow.ne {w : World} {g g2 n m : Nat} {u : Nat → Bool} {f : Nat → Int} (h : BRow w g n u) (h2 : IRow w g2 m f) : g ≠ g2 := by
  rintro rfl
  obtain ⟨cur, k1, _⟩ := h
  obtain ⟨cur2, k2, _⟩ := h2
  rw [k1] at k2
  exact absurd k2 (by intro h; injection h with h; injection h with h3 h4; exact absurd h4 (by decide))
set_option maxHeartbeats 8000000 in
theorem specPrn_c (v : Value) (xs : List Dd) (w : World) (hv : Dds w v xs) (hf : FitsDd xs) (_hn : xs.length ≤ 1048576) :
    Calls Tryz.prog 29 #[v] w (GivesDc w (prnF xs)) := by
  unfold GivesDc prnF
  obtain ⟨A, c, rfl⟩ := Dds_slice hv
  have KD := Lib.hid (l25Code_c _ [xs] _ (DdL.one (T := 27) hv) (fun i hi => by obtain rfl : i = 0 := (by simpa using hi); exact hf) (by simp))
  have HAL := Lib.hid ((Grew.refl w).alloc (.cells #[.slice A xs.length c] 27))
  by_cases hd : dcode [xs] = 0
  case neg =>
    rw [if_neg hd]
    have e0 : (dcode [xs] == 0) = false := by simpa using hd
    clear hv hf hd
    generalize dcode [xs] = d at *
    go_enter Tryz.func29, Tryz.ntmps29
    go_wp2_with fail
    refine (KD.out).mono ?_
    rintro e w1 ⟨rfl, hg1⟩
    go_wp2_with fail
    go_ret2
    exact ⟨_, rfl, OwnDx.nil_ _ _ _, HAL.out.trans hg1⟩
  rw [if_pos hd]
  rw [hd] at KD
  obtain ⟨hn0, hn1, hfb⟩ := dcode_zero hd
  have KU := Lib.hid (fun W (hW : Grew w W) => l25Used_c _ xs W (hv.grew hW) hfb hn0 _hn)
  have hmk := fun W => run_make_rows (P := Tryz.prog) 34 2 (.int .i64 0) 1 8 #[.int .i64 0] Tryz.underlying34 Tryz.infoI rfl .i64 .i64 xs.length (by omega) (by omega) W
  rw [Nat.mul_one] at hmk
  have hcs : Hid ((madeCells #[Value.int .i64 0] xs.length).size = xs.length) := Lib.hid (size_madeCells _ _)
  have hcat : Hid (∀ i, i < xs.length → (madeCells #[Value.int .i64 0] xs.length)[i]? = some (.int .i64 ((fun i => if i < 0 ∧ ud xs i = true then (cn (ud xs) i : Int) else 0) i))) := Lib.hid (fun i hi => by
    show _ = some (Value.int .i64 (if i < 0 ∧ ud xs i = true then (cn (ud xs) i : Int) else 0))
    rw [if_neg (by omega)]
    exact made_i hi)
  generalize madeCells #[Value.int .i64 0] xs.length = cur0 at *
  unfold GivesB at KU
  have HX := Lib.hid (fun j (hj : j < xs.length) => (⟨xs[j], List.getElem?_eq_getElem hj⟩ : ∃ x, xs[j]? = some x))
  have HT := Lib.hid (fun k x hx hu => @toD_nmk xs k x hfb hx hu)
  have HY := Lib.hid (fun k x hx h => @kp_yes (ud xs) xs k x hx h)
  have HO := Lib.hid (fun k h => @kp_no (ud xs) xs k h)
  have HLk := Lib.hid (fun k => kp_len (ud xs) xs k)
  have HLn := Lib.hid (fun k => cn_le (ud xs) k)
  have HPm := Lib.hid (fun j x hx => @prem_lt xs hfb j x hx)
  generalize hud : ud xs = u at *
  unfold ud at hud
  rw [hud] at KU
  clear hud
  have hgw := Lib.hid hv
  clear hv hd hfb
  generalize hN : xs.length = n at *
  go_enter Tryz.func29, Tryz.ntmps29
  go_wp2_with fail
  refine (KD.out).mono ?_
  rintro e w1 ⟨rfl, hg1⟩
  have g1 := HAL.out.trans hg1
  clear KD HAL hg1
  go_upto_region 4 with fail
  go_cut [5, 6, 7] from 15 (fun a5 a6 a7 wx => ∃ g g2, a5 = .slice (some ⟨g, 0, none⟩) n n ∧ BRow wx g n u ∧ a6 = .slice (some ⟨g2, 0, none⟩) n n ∧ IRow wx g2 n (fun i => if i < 0 ∧ u i = true then (cn u i : Int) else 0) ∧ OwnDp wx w1.heap.size a7 [] [] ∧ w1.heap.size ≤ g2 ∧ Grew w1 wx)
  case first =>
    go_region_with (first | (go_at_call 60; refine (KU.out _ (g1.trans (by first | exact (Grew.refl _).drew | exact ((Grew.refl _).alloc _).drew | exact (((Grew.refl _).alloc _).alloc _).drew))).mono ?_; rintro e wU ⟨g, hgl, rfl, hbr, hgU⟩))
    all_goals go_wp2_with fail
    all_goals go_meet
    all_goals
      have h1U : Grew w1 wU := Grew.trans (by first | exact (Grew.refl _).drew | exact ((Grew.refl _).alloc _).drew | exact (((Grew.refl _).alloc _).alloc _).drew) hgU
      have hle := h1U.size
      refine ⟨g, _, rfl, hbr.grew (by first | exact Grew.refl _ | exact (Grew.refl _).alloc _ | exact ((Grew.refl _).alloc _).alloc _), rfl, ?_, ?_, ?_, ?_⟩
      · first
          | exact IRow.grew (irow_newb w1 (by simp) hcs.out hcat.out) ((((Grew.refl _).alloc _).drew).trans hgU)
          | exact IRow.grew (irow_newb (w1.alloc _) (by simp) hcs.out hcat.out) ((Grew.refl _).drew.trans hgU)
          | exact IRow.grew (irow_newb w1 (by simp) hcs.out hcat.out) (((Grew.refl _).drew.trans hgU).alloc _)
          | exact irow_newb wU (by simp) hcs.out hcat.out
          | exact IRow.grew (irow_newb wU (by simp) hcs.out hcat.out) ((Grew.refl _).alloc _)
          | exact irow_newb (wU.alloc _) (by simp) hcs.out hcat.out
      · first
          | exact OwnDp.grew (own_emptyDb w1 (by simp) (Nat.le_refl _)) ((((Grew.refl _).alloc _).drew).trans hgU)
          | exact OwnDp.grew (own_emptyDb (w1.alloc _) (by simp) (by simp)) ((Grew.refl _).drew.trans hgU)
          | exact OwnDp.grew (own_emptyDb w1 (by simp) (Nat.le_refl _)) (((Grew.refl _).drew.trans hgU).alloc _)
          | exact own_emptyDb wU (by simp) hle
          | exact OwnDp.grew (own_emptyDb wU (by simp) hle) ((Grew.refl _).alloc _)
          | exact own_emptyDb (wU.alloc _) (by simp) (by rw [World.size_alloc]; omega)
      · omega
      · first | exact h1U | exact h1U.alloc _ | exact (h1U.alloc _).alloc _
  case rest =>
    obtain ⟨g, g2, rfl, hb, rfl, hi, ho, hgl, hg⟩ := hcut
    have HS0 := Lib.hid (And.intro ho (And.intro hi hb))
    clear hb hi ho hmk hcs hcat KU
    go_wp2_with fail
    go_loopw [7, 8] (fun vo i wr => ∃ (j : Nat) (ps : List (Value × Value × Dd)), j ≤ n ∧ i = .int .i64 j ∧ Hid (OwnDp wr w1.heap.size vo ((kp u xs j).map (toD (nums u n))) ps ∧ IRow wr g2 n (fun i => if i < j ∧ u i = true then (cn u i : Int) else 0) ∧ BRow wr g n u ∧ (∀ p ∈ ps, p.1.ownBlock ≠ some g2)) ∧ Grew w1 wr) (fun _ i _ => n - (intOf i).toNat)
    case atStart => exact ⟨0, [], Nat.zero_le _, rfl, Lib.hid ⟨HS0.out.1, HS0.out.2.1, HS0.out.2.2, fun p hp => by cases hp⟩, hg⟩
    clear HS0 hg
    case round =>
      obtain ⟨j, ps, hj, rfl, hO, hB⟩ := hrel
      obtain ⟨Ah, ch, rfl⟩ := hO.out.1.slice
      by_cases hlt : j < n
      · obtain ⟨x, hx⟩ := HX.out j hlt
        have hbc := hO.out.2.2.1.cell hlt
        cases hu : u j with
        | false =>
          rw [hu] at hbc
          have hyy := Lib.hid (HO.out j hu)
          have hcg : Hid (∀ i : Nat, i < n → (if i < j + 1 ∧ u i = true then (cn u i : Int) else 0) = if i < j ∧ u i = true then (cn u i : Int) else 0) := Lib.hid (fun i _ => by
            by_cases h : i = j
            · subst h
              rw [if_neg (by rw [hu]; simp), if_neg (by rw [hu]; simp)]
            · by_cases h2 : i < j ∧ u i = true
              · rw [if_pos h2, if_pos ⟨by omega, h2.2⟩]
              · rw [if_neg h2, if_neg (by intro h3; exact h2 ⟨by omega, h3.2⟩)])
          clear hu hx
          go_wp2_with fail
          go_roundw
          case rel => exact ⟨j + 1, ps, by omega, by go_num, Lib.hid ⟨by rw [hyy.out]; exact hO.out.1, hO.out.2.1.congr hcg.out, hO.out.2.2.1, hO.out.2.2.2⟩, hB⟩
          case measure => simp [intOf]; omega
        | true =>
          rw [hu] at hbc
          have hyy := HY.out j x hx hu
          have htd := HT.out j x hx hu
          have hfx := hf x (List.mem_of_getElem? hx)
          have hpl := HPm.out j x hx
          rcases hgw.out with ⟨_, h2⟩ | ⟨b, o, c1, hv1, hc1, hm1, hb1, hcl1⟩
          · rw [h2] at hN; simp at hN; omega
          obtain ⟨rfl, rfl⟩ : A = some ⟨b, o, none⟩ ∧ c = c1 := by simpa [hN] using hv1
          obtain ⟨up, ua, hcl, hup, hus⟩ := hcl1 j x hx
          have k0 := fun W (hW : Grew w W) => (hcl.grew hb1 hW).1
          have k1 := fun W (hW : Grew w W) => (hcl.grew hb1 hW).2.1
          have k2 := fun W (hW : Grew w W) => (hcl.grew hb1 hW).2.2.1
          have k3 := fun W (hW : Grew w W) => (hcl.grew hb1 hW).2.2.2.1
          have k4 := fun W (hW : Grew w W) => (hcl.grew hb1 hW).2.2.2.2
          have hs : Hid ((kp u xs (j + 1)).map (toD (nums u n)) = (kp u xs j).map (toD (nums u n)) ++ [toD (nums u n) x]) := Lib.hid (by rw [hyy, List.map_append]; rfl)
          have hlL : Hid (((kp u xs j).map (toD (nums u n))).length = cn u j) := Lib.hid (by rw [List.length_map, HLk.out])
          have hnl : (nmk u n (j + 1)).length = n := by simp [nmk]
          have KM := Lib.hid (fun W (hW : Grew w W) (hI : Ints W (.slice (some ⟨g2, 0, none⟩) n n) (nmk u n (j + 1))) => by
            have h := l25Move_c x up ua (.slice (some ⟨g2, 0, none⟩) n n) (nmk u n (j + 1)) W (hup.grew hW) (hus.grew hW) hI (fun i hi => by
              have h1 := hpl (it x.2.1 i) (by rw [← it_get hi]; exact List.getElem_mem hi)
              rw [hnl]
              omega) hfx.1 hfx.2.1 (by rw [hnl]; exact _hn)
            rwa [htd] at h)
          clear hcl1 hv1 hcl hpl hfx hyy htd hnl
          obtain ⟨r0, rA, rs, rc, rn⟩ := x
          obtain ⟨A1, ca1, rfl⟩ := ints_slice hup
          obtain ⟨A2, ca2, rfl⟩ := strs_slice hus
          have hM2 : toD (nums u n) (r0, rA, rs, rc, rn) = (r0, imgs rA (nums u n), rs, rc, rn) := rfl
          rw [hM2] at KM hs
          clear hup hus hx hM2
          unfold GivesOd at KM
          simp only at *
          generalize (kp u xs j).map (toD (nums u n)) = Lj at *
          generalize imgs rA (nums u n) = IM at *
          have hsz := Lib.hid (show Lj.length ≤ 1048576 by have h1 := hlL.out; have h2 := HLn.out j; omega)
          have hI1 : Hid (IRow (wr.setCell ⟨g2, j, none⟩ (.int .i64 (Lj.length : Int))) g2 n (fun i => if i < j + 1 ∧ u i = true then (cn u i : Int) else 0)) := Lib.hid (hO.out.2.1.set hlt (by rw [if_pos ⟨by omega, hu⟩, hlL.out]) (fun i hi hij => by
            by_cases h2 : i < j ∧ u i = true
            · rw [if_pos h2, if_pos ⟨by omega, h2.2⟩]
            · rw [if_neg h2, if_neg (fun h3 => h2 ⟨by omega, h3.2⟩)]))
          have hOn := hO.out.2.1.own hgl _hn
          have hD1 : Hid (OwnDp (wr.setCell ⟨g2, j, none⟩ (.int .i64 (Lj.length : Int))) w1.heap.size (.slice Ah Lj.length ch) Lj ps) := Lib.hid (hO.out.1.apart (r := .slice (some ⟨g2, 0, none⟩) n n) ((Only.refl g2 wr).setCell _) (own_types hOn hO.out.1.row tI_D) (fun p hp => ⟨fun c hc hc2 => by
            have e : some g2 = some c := hc
            injection e with e
            subst e
            exact hO.out.2.2.2 p hp hc2, own_types hOn (hO.out.1.inn p hp).2 tI_S⟩))
          have hne := hO.out.2.2.1.ne hO.out.2.1
          have hBR1 : Hid (BRow (wr.setCell ⟨g2, j, none⟩ (.int .i64 (Lj.length : Int))) g n u) := Lib.hid (hO.out.2.2.1.other (((Only.refl g2 wr).setCell _).block hO.out.2.2.1.lt hne))
          have hW1 : Grew w1 (wr.setCell ⟨g2, j, none⟩ (.int .i64 (Lj.length : Int))) := hB.setCell hgl _
          have hWw : Grew w (wr.setCell ⟨g2, j, none⟩ (.int .i64 (Lj.length : Int))) := g1.trans hW1
          have hII : Hid (Ints (wr.setCell ⟨g2, j, none⟩ (.int .i64 (Lj.length : Int))) (.slice (some ⟨g2, 0, none⟩) n n) (nmk u n (j + 1))) := Lib.hid (hI1.out.own hgl _hn).ints
          have y0 := hO.out.2.1.cell hlt
          have y1 := hO.out.2.1.free
          have hbg : b ≠ g2 := by have := g1.size; omega
          clear hOn hu hne
          go_wp2_with fail
          refine (KM.out _ hWw hII.out).mono ?_
          rintro e w3 ⟨u1, u2, rfl, ho1, ho2, hg3⟩
          have HU1 := Lib.hid ho1
          have HU2 := Lib.hid ho2
          obtain ⟨V1, e1, rfl⟩ := ints_slice ho1.ints
          obtain ⟨V2, e2, rfl⟩ := strs_slice ho2.strs
          clear ho1 ho2
          have g3 := hW1.trans hg3
          go_wp2_with (first
            | (at_builtin; refine wpList_appDp w1.heap.size (wr.setCell ⟨g2, j, none⟩ (.int .i64 (Lj.length : Int))).heap.size _ _ rfl rfl (.slice Ah Lj.length ch) Lj ps rfl (hD1.out.grew (hg3.alloc _)) (g3.alloc _).size _ _ _ (r0, IM, rs, rc, rn) rfl (rd_litD _ _ _ _ _ _ _) (own_grew HU1.out ((Grew.refl _).alloc _)) (own_grew HU2.out ((Grew.refl _).alloc _)) hW1.size hD1.out.below hsz.out ?_; intro v4 w4 hown4 hg4))
          go_roundw
          case rel =>
            have hIe := hI1.out.grew (hg3.alloc (.cells #[.int .i64 r0, .slice V1 IM.length e1, .slice V2 rs.length e2, .string rc, .int .i64 rn] 50))
            have hBe := hBR1.out.grew (hg3.alloc (.cells #[.int .i64 r0, .slice V1 IM.length e1, .slice V2 rs.length e2, .string rc, .int .i64 rn] 50))
            have hn1 : (Value.slice Ah Lj.length ch).ownBlock ≠ some g2 := by
              obtain ⟨cur, h1, _⟩ := hI1.out
              exact own_ne hD1.out.row h1 (by decide)
            have hn2 : (Value.slice Ah Lj.length ch).ownBlock ≠ some g := by
              obtain ⟨cur, h1, _⟩ := hBR1.out
              exact own_ne hD1.out.row h1 (by decide)
            refine ⟨j + 1, _, by omega, by go_num, Lib.hid ⟨by rw [hs.out]; exact hown4, hIe.other (hg4.block g2 hIe.lt hn1.symm), hBe.other (hg4.block g hBe.lt hn2.symm), fun p hp => ?_⟩, (g3.alloc _).grown hg4 (fun k hk => own_of_ge hD1.out.row hk)⟩
            rcases List.mem_append.1 hp with hp | hp
            · exact hO.out.2.2.2 p hp
            · simp only [List.mem_singleton] at hp
              subst hp
              intro h
              have h1 := own_of_ge HU1.out h
              have h2 := hI1.out.lt
              omega
          case measure => simp [intOf]; omega
      · obtain rfl : j = n := by omega
        go_wp2_with fail
        go_ret2
        exact ⟨_, rfl, (hO.out.1.base g1.size).ownDx, g1.trans hB⟩
end Go.Proofs.YtofeeenjlaljpaaGreat

/- The bounds of PruneDeduction's result. No program is in sight. -/
namespace Go.Proofs.YtofeeenjlaljpaaGreat
open Go.RowKit

theorem prnF_len {xs : List Dd} (hn : xs.length ≤ 1048576) : (prnF xs).1.length ≤ 1048576 := by
  unfold prnF
  split
  · show ((kp (ud xs) xs xs.length).map _).length ≤ 1048576
    rw [List.length_map, kp_len]
    exact Nat.le_trans (cn_le _ _) hn
  · simp
theorem prnF_fit {xs : List Dd} (hf : FitsDd xs) : FitsDd (prnF xs).1 := by
  unfold prnF
  split
  · intro y hy
    obtain ⟨x, hx, rfl⟩ := List.mem_map.1 hy
    obtain ⟨i, hi, hx2⟩ := kp_mem (Nat.le_refl _) hx
    obtain ⟨k1, k2, k3, k4⟩ := hf x (List.mem_of_getElem? hx2)
    exact ⟨by show (imgs x.2.1 _).length ≤ 1048576; rw [imgs_len]; exact k1, k2, k3, k4⟩
  · exact FitsDd.nil
end Go.Proofs.YtofeeenjlaljpaaGreat

/- The law FnExactPruneDeduction, walked. -/
namespace Go.Proofs.YtofeeenjlaljpaaGreat
open Go.RowKit

theorem lawPrn_c (v0 : Value) (L0 : List Dd) (w : World) (h0 : ArgDd w v0 L0) :
    Calls Tryz.prog 7 #[v0] w fun e w' => e = .returned (.bool true) ∧ Grew w w' := by
  have Z0 := Lib.hid (fun W l (hW : Grew w W) (a0 : 0 ≤ l) (a1 : l ≤ 1048576) => szDeductionS_c v0 L0 l W (h0.grew hW) a0 a1)
  have T0 := Lib.hid (fun W (hW : Grew w W) => toDeductionS_x v0 L0 W (h0.grew hW))
  clear h0
  go_enter Tryz.func7, Tryz.ntmps7
  go_wp2_with fail
  refine (Z0.out _ _ (Grew.refl w) (by omega) (by omega)).mono ?_
  rintro e w1 ⟨r0, rfl, ⟨hm0, hs0⟩, hg1⟩
  have z1 := Lib.hid hg1.size
  have g1 : Grew w w1 := (Grew.refl w).trans hg1
  clear hg1
  by_cases hr0 : r0 < 0
  · clear hs0
    go_wp2_with fail
    go_ret
    exact ⟨rfl, g1⟩
  obtain ⟨hn0, hf0⟩ := hs0 (by omega)
  have F0 : Hid (FitsDd L0) := Lib.hid hf0
  clear hs0 hf0
  have KS := Lib.hid (fun u0 W x0 => specPrn_c u0 L0 W x0 F0.out (by omega))
  have KI := Lib.hid (fun u0 W x0 => implPrn_c u0 L0 W x0 F0.out (by omega))
  have hlen := prnF_len (xs := L0) (by omega)
  have hrfit := Lib.hid (prnF_fit F0.out)
  generalize prnF L0 = rr at *
  obtain ⟨xs, c⟩ := rr
  simp only at hlen
  simp only at hrfit
  unfold GivesDc at KS KI
  simp only at KS KI
  have hcc : (c != c) = false := by simp
  go_wp2_with fail
  refine (T0.out _ g1 hn0 F0.out).mono ?_
  rintro e w2 ⟨a0, rfl, oa0, hg2⟩
  have z2 := Lib.hid hg2.size
  have g2 : Grew w w2 := g1.trans hg2
  clear hg2
  go_wp2_with fail
  refine (KS.out _ _ oa0.rd).mono ?_
  rintro e w3 ⟨q0, rfl, hq, hg3⟩
  have z3 := Lib.hid hg3.size
  have g3 : Grew w w3 := g2.trans hg3
  clear hg3 oa0
  go_wp2_with fail
  refine (T0.out _ g3 hn0 F0.out).mono ?_
  rintro e w4 ⟨x0, rfl, ox0, hg4⟩
  have z4 := Lib.hid hg4.size
  have g4 : Grew w w4 := g3.trans hg4
  replace hq := hq.grew hg4
  clear hg4
  go_wp2_with fail
  refine (KI.out _ _ ox0.rd).mono ?_
  rintro e w5 ⟨g0, rfl, hog, hg5⟩
  have z5 := Lib.hid hg5.size
  have g5 : Grew w w5 := g4.trans hg5
  replace hq := hq.grew hg5
  replace ox0 := ox0.grew hg5
  clear hg5
  go_wp2_with fail
  refine (eqDeductionS_yes _ _ xs _ hog.rd hq.rd (by omega) hrfit.out).mono ?_
  rintro e w6 ⟨rfl, hg6⟩
  have z6 := Lib.hid hg6.size
  have g6 : Grew w w6 := g5.trans hg6
  replace hq := hq.grew hg6
  replace ox0 := ox0.grew hg6
  replace hog := hog.grew hg6
  clear hg6
  go_wp2_with fail
  refine (T0.out _ g6 hn0 F0.out).mono ?_
  rintro e w7 ⟨y0, rfl, oy0, hg7⟩
  have z7 := Lib.hid hg7.size
  have g7 : Grew w w7 := g6.trans hg7
  replace hq := hq.grew hg7
  replace ox0 := ox0.grew hg7
  replace hog := hog.grew hg7
  clear hg7
  go_wp2_with fail
  refine (eqDeductionS_yes _ _ L0 _ ox0.rd oy0.rd (by omega) F0.out).mono ?_
  rintro e w8 ⟨rfl, hg8⟩
  have z8 := Lib.hid hg8.size
  have g8 : Grew w w8 := g7.trans hg8
  replace hq := hq.grew hg8
  replace ox0 := ox0.grew hg8
  replace hog := hog.grew hg8
  clear hg8 oy0
  have hdk0 := dk_le (k := 1) F0.out L0.length (Nat.le_refl _)
  go_wp2_with fail
  refine (markDeductionS_x _ L0 _ _ (1) _ ox0 F0.out (by omega) (by omega) (by omega)).mono ?_
  rintro e w9 ⟨rfl, _, hsp⟩
  replace hq := hsp.ownDx hq (.inl (by have y1 := z1.out; have y2 := z2.out; have y3 := z3.out; have y4 := z4.out; omega))
  replace hog := hsp.ownDx hog (.inr (by have y1 := z1.out; have y2 := z2.out; have y3 := z3.out; have y4 := z4.out; omega))
  have g9 : Grew w w9 := hsp.old g8 (by have y1 := z1.out; have y2 := z2.out; have y3 := z3.out; have y4 := z4.out; omega)
  clear hsp ox0
  generalize hkk0 : dk 1 L0 L0.length = kk0 at *
  clear hkk0
  go_wp2_with fail
  refine (eqDeductionS_yes _ _ xs _ hog.rd hq.rd (by omega) hrfit.out).mono ?_
  rintro e w10 ⟨rfl, hg10⟩
  have z10 := Lib.hid hg10.size
  have g10 : Grew w w10 := g9.trans hg10
  replace hq := hq.grew hg10
  replace hog := hog.grew hg10
  clear hg10
  have hdkr := dk_le (k := 1) hrfit.out xs.length (Nat.le_refl _)
  go_wp2_with fail
  refine (markDeductionS_x _ xs _ _ 1 _ hog hrfit.out (by omega) (by omega) (by omega)).mono ?_
  rintro e w11 ⟨rfl, hog, hsp⟩
  replace hq := hsp.ownDx hq (.inl (by have y1 := z1.out; have y2 := z2.out; have y3 := z3.out; have y4 := z4.out; omega))
  have g11 : Grew w w11 := hsp.old g10 (by have y1 := z1.out; have y2 := z2.out; have y3 := z3.out; have y4 := z4.out; omega)
  clear hsp
  have hdd : (dk 1 xs xs.length != dk 1 xs xs.length) = false := by simp
  go_wp2_with fail
  refine (heldDeductionS_c _ xs 1 _ hog.rd hrfit.out (by omega) (by omega) (by omega)).mono ?_
  rintro e w12 ⟨rfl, hg12⟩
  have z12 := Lib.hid hg12.size
  have g12 : Grew w w12 := g11.trans hg12
  replace hq := hq.grew hg12
  replace hog := hog.grew hg12
  clear hg12
  go_wp2_with fail
  refine (T0.out _ g12 hn0 F0.out).mono ?_
  rintro e w13 ⟨b0, rfl, ob0, hg13⟩
  have z13 := Lib.hid hg13.size
  have g13 : Grew w w13 := g12.trans hg13
  replace hq := hq.grew hg13
  replace hog := hog.grew hg13
  clear hg13
  go_wp2_with fail
  refine (KI.out _ _ ob0.rd).mono ?_
  rintro e w14 ⟨h0, rfl, hoh, hg14⟩
  have z14 := Lib.hid hg14.size
  have g14 : Grew w w14 := g13.trans hg14
  replace hq := hq.grew hg14
  replace hog := hog.grew hg14
  clear hg14
  go_wp2_with fail
  refine (eqDeductionS_yes _ _ xs _ hoh.rd hq.rd (by omega) hrfit.out).mono ?_
  rintro e w15 ⟨rfl, hg15⟩
  have z15 := Lib.hid hg15.size
  have g15 : Grew w w15 := g14.trans hg15
  replace hq := hq.grew hg15
  replace hog := hog.grew hg15
  replace hoh := hoh.grew hg15
  clear hg15
  go_wp2_with fail
  refine (heldDeductionS_c _ xs 1 _ hog.rd hrfit.out (by omega) (by omega) (by omega)).mono ?_
  rintro e w16 ⟨rfl, hg16⟩
  go_wp2_with fail
  go_ret
  exact ⟨rfl, g15.trans hg16⟩
end Go.Proofs.YtofeeenjlaljpaaGreat

/- Texts in one file: Uu LsO PsL LsD MnT LsR Src Parse1 Tree Draw NdTl Own Any Bx MnU LsM RfP Rng RfV Fv EncI Join TakeP WalkP WalkA Round ParseI Take WalkQ WalkB ParseF Part Agree Equal Write Good PartP Text Parsed Strs IsText Cont Plain Gp TxP Fo KrT. -/
import Derived.Deep.LoopGhost
import Derived.Sort.Statements
import Derived.Deep.QuietTactic
import Derived.BigQuiet
import Derived.Deep.RegionHeld3
import Derived.WalkLawsBesides
import Derived.Outline
import Derived.Conc.WgArith
import Derived.Laws.Bits64
import Derived.Deep.RegionLaw
import Derived.OwnWalk
import Derived.Laws.EntriesVeiled
import Derived.RangeFuncNested
import Derived.RangeFuncBound
import Derived.RangeFuncCalls
import Derived.RangeFuncLeaves
import Derived.Shelf.Abstract
import Derived.Shelf.RegionOpen
import Derived.WalkKit
import Derived.OwnWalkIn
import Derived.TacticsInMore
import Derived.LoopNIn
import Derived.LoopIn
import Derived.Lib.SlicesS
import Derived.Lib.OthersKept
import Derived.Test.YtmcbjekianclpaaGreatProg
import Derived.WalkSpells
import Derived.Test.YtmcbjekianclpaaGreatPa1
set_option linter.all false

/- Rows of rows of numbers of the call's own, that grow by append; l01Has, l01Own of numbers. -/
namespace Go.Proofs.YtmcbjekianclpaaGreat
open Go.RowKit

theorem infoIs : (Tryz.prog.info? 24).map (fun i => (i.zero, i.size, i.bytes)) = some (some (.slice none 0 0), 1, 24) := by kernel_rfl
theorem tyIs : (2 : TypeId) ≠ 24 := by decide
/-- A row of the call's own, newer than block B, of rows of the call's own. -/
def OwnU (w : World) (B : Nat) (v : Value) (Us : List (List Int)) : Prop :=
  ∃ us : List Value, us.length = Us.length ∧ w.ownsRow B 24 1 v Us.length us ∧ ∀ j, j < Us.length → OwnI w B (us.getD j (.bool false)) (Us.getD j [])
theorem OwnU.grew {w w' : World} {B : Nat} {v : Value} {Us : List (List Int)} (h : OwnU w B v Us) (hg : Grew w w') : OwnU w' B v Us := by
  obtain ⟨us, h1, h2, h3⟩ := h
  exact ⟨us, h1, own_grew h2 hg, fun j hj => (h3 j hj).grew hg⟩
theorem OwnU.base {w : World} {B B' : Nat} {v : Value} {Us : List (List Int)} (h : OwnU w B v Us) (hb : B' ≤ B) : OwnU w B' v Us := by
  obtain ⟨us, h1, h2, h3⟩ := h
  exact ⟨us, h1, own_base h2 hb, fun j hj => (h3 j hj).base hb⟩
theorem OwnU.nil_ (w : World) (B : Nat) : OwnU w B (.slice none 0 0) [] := ⟨[], rfl, World.ownsRow_nil w B _ 1, fun j hj => absurd hj (by simp)⟩
theorem OwnU.lit (w : World) : OwnU (w.alloc (.cells #[] 24)) w.heap.size (.slice (some ⟨w.heap.size, 0, none⟩) 0 0) [] :=
  ⟨[], rfl, World.ownsRow_lit (e := 24) (size := 1) w #[] 0 (Nat.le_refl _) (by first | omega | decide | simp) rfl, fun j hj => absurd hj (by simp)⟩
theorem kept_of {w w' : World} {base : Nat} {e : TypeId} {k n : Nat} {v : Value} {xs : List Value} {r : Option Nat} (h : w.ownsRow base e k v n xs) (hg : w.grownBy w' r) (hne : ∀ g, r = some g → v.ownBlock ≠ some g) : w'.ownsRow base e k v n xs := by
  cases r with
  | none => exact h.kept (row := none) hg (by cases hv : v.ownBlock <;> simp)
  | some g => exact own_only h (g := g) hg (hne g rfl)
/-- Rows of different types lie in different blocks. -/
theorem types_ne {w : World} {B B' : Nat} {e e' : TypeId} {k k' n n' : Nat} {v v' : Value} {xs xs' : List Value} (h : w.ownsRow B e k v n xs) (h' : w.ownsRow B' e' k' v' n' xs') (hne : e ≠ e') : ∀ g, v'.ownBlock = some g → v.ownBlock ≠ some g := by
  intro g hg
  rcases h'.2 with ⟨rfl, _⟩ | ⟨g', cap, cur, rfl, _, hh, _⟩
  · simp [Value.ownBlock] at hg
  · have : g' = g := by simpa [Value.ownBlock] using hg
    subst this
    exact own_ne h hh hne
/-- What a row of rows holds at a place. -/
theorem OwnU.at_ {w : World} {B : Nat} {v : Value} {Us : List (List Int)} (h : OwnU w B v Us) {i : Nat} (hi : i < Us.length) : ∃ g c u, v = .slice (some ⟨g, 0, none⟩) Us.length c ∧ (∀ W, Grew w W → W.cell? ⟨g, i, none⟩ = some u) ∧ OwnI w B u (Us.getD i []) := by
  obtain ⟨us, h1, h2, h3⟩ := h
  obtain ⟨_, h4⟩ := h2
  rcases h4 with ⟨_, h5⟩ | ⟨g, cap, cur, rfl, hb, hg, hnc, hcm, hcs, ht⟩
  · omega
  · refine ⟨g, cap, us.getD i (.bool false), rfl, fun W hW => ?_, h3 i hi⟩
    rw [hW.cell (p := ⟨g, i, none⟩) (blk_lt hg), blk_cell hg]
    have e : us[i]? = some (us.getD i (.bool false)) := by rw [List.getElem?_eq_getElem (by omega)]; simp [List.getD, h1, hi]
    rw [← e, ← ht, List.getElem?_take, if_pos (by omega)]
    simp
theorem OwnU.slice {w : World} {B : Nat} {v : Value} {Us : List (List Int)} (h : OwnU w B v Us) : ∃ A c, v = .slice A Us.length c := by
  obtain ⟨us, h1, h2, h3⟩ := h
  obtain ⟨_, h4⟩ := h2
  rcases h4 with ⟨rfl, h5⟩ | ⟨g, cap, cur, rfl, hb, hg, hnc, hcm, hcs, ht⟩
  · rw [h5]; exact ⟨_, _, rfl⟩
  · exact ⟨_, _, rfl⟩
theorem own_of_geU {w : World} {B : Nat} {v : Value} {Us : List (List Int)} (h : OwnU w B v Us) {g : Nat} (hg : v.ownBlock = some g) : B ≤ g := by
  obtain ⟨us, h1, h2, h3⟩ := h
  exact own_of_ge h2 hg
theorem snocU {w w' : World} {B : Nat} {v v' u : Value} {Us : List (List Int)} {U : List Int} {us : List Value} (h1 : us.length = Us.length) (h2 : w.ownsRow B 24 1 v Us.length us) (h3 : ∀ j, j < Us.length → OwnI w B (us.getD j (.bool false)) (Us.getD j [])) (hu : OwnI w B u U)
    (k1 : w'.ownsRow B 24 1 v' (Us.length + 1) (us ++ [u])) (k2 : w.grownBy w' v.ownBlock) : OwnU w' B v' (Us ++ [U]) := by
  refine ⟨us ++ [u], by simp [h1], by rw [List.length_append]; exact k1, fun j hj => ?_⟩
  rw [List.getD_eq_getElem?_getD, List.getD_eq_getElem?_getD]
  rcases Nat.lt_or_ge j Us.length with hk | hk
  · rw [List.getElem?_append_left (by omega), List.getElem?_append_left hk, ← List.getD_eq_getElem?_getD, ← List.getD_eq_getElem?_getD]
    have := h3 j hk
    exact kept_of this k2 (types_ne this h2 tyIs)
  · obtain rfl : j = Us.length := by simp at hj; omega
    have e : us.length ≤ Us.length := by omega
    rw [List.getElem?_append_right e, List.getElem?_append_right (Nat.le_refl _), h1, Nat.sub_self]
    exact kept_of hu k2 (types_ne hu h2 tyIs)
/-- 'append(out, x)', out a row of rows. -/
theorem wpList_appU {ops : Array Oper} {rest : List Oper} {o : Oper} {a : Act} {Q : Exit → Act → World → Prop} {w : World} (B : Nat) (s x : Operand) (hgd : o.guard = none)
    (ho : o.op = .call { callee := .builtin .append, args := #[s, x], argTypes := #[52, 52] })
    (v : Value) (Us : List (List Int)) (hs : a.eval s = v) (hown : OwnU w B v Us) (hB : B ≤ w.heap.size) (vx u : Value) (U : List Int) (hx : a.eval x = vx) (hr : Rd w 1 vx 1 [u]) (hu : OwnI w B u U) (hn : Us.length ≤ 1048576)
    (h : ∀ v' w', OwnU w' B v' (Us ++ [U]) → w.grownBy w' v.ownBlock → wpList Tryz.prog ops Q rest (a.put o.dst v') w') : wpList Tryz.prog ops Q (o :: rest) a w := by
  obtain ⟨i0, hi0, hz0, hz1, hz2⟩ := info_parts infoIs
  obtain ⟨us, h1, h2, h3⟩ := hown
  have hu1 : u.oneCell' = true := by
    obtain ⟨A, c, rfl⟩ := ints_slice hu.ints
    rfl
  refine wpList_append_rd w hgd s x _ ho B 24 i0 _ 1 24 Tryz.underlying52 hi0 hz0 hz1 hz2 rfl (by omega) v Us.length us hs h2 vx 1 [u] hx hr (by simpa using hu1) (by unfold maxLen; omega) (by omega) hB ?_
  intro v' w' k1 k2 _
  exact h v' w' (snocU h1 h2 h3 hu k1 k2) k2
theorem rd_litU (w : World) (u : Value) (t : TypeId) : Rd (w.alloc (.cells #[u] t)) 1 (.slice (some ⟨w.heap.size, 0, none⟩) 1 1) 1 [u] := by
  refine ⟨rfl, by omega, .inr ⟨w.heap.size, 0, 1, rfl, by omega, by omega, by simp, fun j x hx => ?_⟩⟩
  have hj : j = 0 := by
    have := (List.getElem?_eq_some_iff.1 hx).1
    simp at this
    omega
  subst hj
  simp at hx
  subst hx
  simp
theorem rd_litU' (w : World) (n : Nat) (hn : w.heap.size = n) (u : Value) (t : TypeId) : Rd (w.alloc (.cells #[u] t)) 1 (.slice (some ⟨n, 0, none⟩) 1 1) 1 [u] := by
  subst hn
  exact rd_litU w u t
theorem litI1' (w : World) (n : Nat) (hn : w.heap.size = n) (k : Int) : OwnI (w.alloc (.cells #[.int .i64 k] 2)) n (.slice (some ⟨n, 0, none⟩) 1 1) [k] := by
  subst hn
  exact litI1 w k
theorem rd_litI' (w : World) (n : Nat) (hn : w.heap.size = n) (k : Int) (t : TypeId) : Rd (w.alloc (.cells #[.int .i64 k] t)) 1 (.slice (some ⟨n, 0, none⟩) 1 1) 1 [.int .i64 k] := by
  subst hn
  exact rd_litI w k t

theorem l01OwnI_c (v : Value) (L : List Int) (w : World) (h : Ints w v L) (hn : L.length ≤ 1048575) :
    Calls Tryz.prog 33 #[v] w (GivesI w L) := by
  have he := own_emptyI w
  have hr := h.grew ((Grew.refl w).alloc (.cells #[] 2))
  go_enter Tryz.func33, Tryz.ntmps33
  go_wp2_with (at_builtin; refine wpList_appIs (w0 := w) _ _ rfl rfl _ [] rfl he ((Grew.refl w).alloc _) v L rfl hr (by simp; omega) ?_; intro v1 w1 hown1 hg1 _)
  go_ret
  exact ⟨_, rfl, by simpa using hown1, hg1⟩
/-- None of the first k is x. -/
def NotI (L : List Int) (x : Int) (k : Nat) : Prop := ∀ i, i < k → it L i ≠ x
theorem NotI.zero (L : List Int) (x : Int) : NotI L x 0 := fun i hi => absurd hi (by omega)
theorem NotI.succ {L : List Int} {x : Int} {k : Nat} (h : NotI L x k) (h1 : it L k ≠ x) : NotI L x (k + 1) := by
  intro i hi
  rcases Nat.lt_or_ge i k with hk | hk
  · exact h i hk
  · obtain rfl : i = k := by omega
    exact h1
theorem NotI.all {L : List Int} {x : Int} (h : NotI L x L.length) : decide (x ∈ L) = false := by
  rw [decide_eq_false_iff_not]
  intro hx
  obtain ⟨i, hi, rfl⟩ := List.getElem_of_mem hx
  exact h i hi (it_get hi).symm
theorem it_mem {L : List Int} {i : Nat} (h : i < L.length) : it L i ∈ L := by rw [← it_get h]; exact List.getElem_mem h
theorem l01Has_c (v : Value) (L : List Int) (x : Int) (w : World) (h : Ints w v L) :
    Calls Tryz.prog 78 #[v, .int .i64 x] w fun e w' => e = .returned (.bool (decide (x ∈ L))) ∧ Grew w w' := by
  rcases h.open_ with ⟨rfl, rfl⟩ | ⟨b, o, c, rfl, hc, hm, hb, hcell⟩
  · clear h
    go_enter Tryz.func78, Tryz.ntmps78
    go_wp2_with fail
    refine wp_loop_rounds 1 ?_; rw [rounds_succ]
    go_wp2_with fail
    go_ret
    exact ⟨by simp, Grew.refl _⟩
  · obtain ⟨R, hR⟩ : ∃ R, R = decide (x ∈ L) := ⟨_, rfl⟩
    rw [← hR]
    have HY := Lib.hid (fun i (hi : i < L.length) (he : it L i = x) => (by rw [hR]; exact decide_eq_true (by rw [← he]; exact it_mem hi) : R = true))
    have HZ := Lib.hid (fun (h : NotI L x L.length) => hR.trans h.all)
    have HC := Lib.hid hcell
    clear h hcell hR
    generalize hN : L.length = n at *
    clear hN
    go_enter Tryz.func78, Tryz.ntmps78
    go_wp2_with fail
    go_loopw [5] (fun i wr => ∃ j : Nat, j ≤ n ∧ i = .int .i64 j ∧ Grew w wr ∧ Hid (NotI L x j)) (fun i _ => n - (intOf i).toNat)
    case atStart => exact ⟨0, Nat.zero_le _, rfl, Grew.refl _, NotI.zero _ _⟩
    case round =>
      obtain ⟨j, hj, rfl, hB, HJ⟩ := hrel
      by_cases hlt : j < n
      · have k1 := HC.out j hlt _ hB
        have hS := Lib.hid (fun h => HJ.out.succ (k := j) h)
        have hY := Lib.hid (HY.out j hlt)
        generalize it L j = y at *
        by_cases hy : y = x
        · have hv := hY.out hy
          subst hy
          go_wp2_with fail
          go_ret
          exact ⟨by first | rfl | (rw [hv]; rfl), hB⟩
        · have hs := Lib.hid (hS.out hy)
          have hq : (y == x) = false := by simpa using hy
          clear hy
          go_wp2_with fail
          go_roundw
          case rel => exact ⟨j + 1, by omega, by go_num, hB, hs⟩
          case measure => simp [intOf]; omega
      · obtain rfl : j = n := by omega
        have hv := Lib.hid (HZ.out HJ.out)
        go_wp2_with fail
        go_ret
        exact ⟨by rw [hv.out]; rfl, hB⟩
end Go.Proofs.YtmcbjekianclpaaGreat

/- The reference's orders and least form: l05Orders, l05Least. -/
namespace Go.Proofs.YtmcbjekianclpaaGreat
open Go.RowKit

/-- Rows of natural numbers as rows in memory. -/
def zss (Us : List (List Nat)) : List (List Int) := Us.map zs
theorem zss_len (Us : List (List Nat)) : (zss Us).length = Us.length := by simp [zss]
theorem zss_get {Us : List (List Nat)} {i : Nat} (h : i < Us.length) : (zss Us).getD i [] = zs (Us.getD i []) := by simp [zss, List.getD, h]
theorem zss_append (K L : List (List Nat)) : zss (K ++ L) = zss K ++ zss L := by simp [zss]
/-- What of one order is done: the numbers below v. -/
def extK (o : List Nat) (v : Nat) : List (List Nat) := ((List.range v).filter fun x => !o.contains x).map fun x => o ++ [x]
theorem extK_yes {o : List Nat} {v : Nat} (h : v ∈ o) : extK o (v + 1) = extK o v := by
  unfold extK
  rw [List.range_succ, List.filter_append]
  simp [h]
theorem extK_no {o : List Nat} {v : Nat} (h : v ∉ o) : extK o (v + 1) = extK o v ++ [o ++ [v]] := by
  unfold extK
  rw [List.range_succ, List.filter_append, List.map_append]
  simp [h]
theorem extK_len (o : List Nat) (v : Nat) : (extK o v).length ≤ v := by
  unfold extK
  rw [List.length_map]
  have := List.length_filter_le (fun x => !o.contains x) (List.range v)
  rw [List.length_range] at this
  exact this
theorem take_next {α : Type} {L : List α} {i : Nat} (d : α) (h : i < L.length) : L.take (i + 1) = L.take i ++ [L.getD i d] := by
  rw [List.take_add_one, List.getElem?_eq_getElem h]
  simp [List.getD, h]
theorem flat_len {n m : Nat} : ∀ (P : List (List Nat)), P.length ≤ m → (P.flatMap (ext1 n)).length ≤ m * n
  | [], _ => by simp
  | p :: P, h => by
    rw [List.flatMap_cons, List.length_append]
    have h1 := extK_len p n
    have h2 := flat_len (n := n) P (Nat.le_refl _)
    have h3 : (ext1 n p).length ≤ n := h1
    rw [List.length_cons] at h
    have h4 : (P.length + 1) * n ≤ m * n := Nat.mul_le_mul_right _ h
    rw [Nat.add_mul, Nat.one_mul] at h4
    omega
theorem pms_len (n : Nat) : ∀ k, (pms n k).length ≤ n ^ k
  | 0 => by simp [pms]
  | k + 1 => by
    rw [Nat.pow_succ]
    exact flat_len (pms n k) (pms_len n k)
theorem ownU_one {w : World} {B : Nat} {u : Value} {U : List Int} (h : OwnI w B u U) (hB : B ≤ w.heap.size) : OwnU (w.alloc (.cells #[u] 24)) B (.slice (some ⟨w.heap.size, 0, none⟩) 1 1) [U] := by
  refine ⟨[u], rfl, World.ownsRow_lit (e := 24) (size := 1) w #[u] 1 hB (by first | omega | decide | simp) rfl, fun j hj => ?_⟩
  obtain rfl : j = 0 := by simp at hj; omega
  exact h.grew ((Grew.refl w).alloc _)

theorem zs_mem {o : List Nat} {v : Nat} : ((v : Int) ∈ zs o) ↔ v ∈ o := by
  unfold zs
  rw [List.mem_map]
  constructor
  · rintro ⟨x, hx, he⟩
    obtain rfl : x = v := by omega
    exact hx
  · exact fun h => ⟨v, h, rfl⟩
set_option maxHeartbeats 2000000 in
theorem l05Orders_c (n : Nat) (hn : n ≤ 6) (w : World) :
    Calls Tryz.prog 53 #[.int .i64 (n : Int)] w fun e w' => ∃ v, e = .returned v ∧ OwnU w' w.heap.size v (zss (pms n n)) ∧ Grew w w' := by
  have HLN := Lib.hid (fun k (hk : k ≤ n) => (show (pms n k).length ≤ 46656 from Nat.le_trans (pms_len n k) (Nat.le_trans (Nat.pow_le_pow_left hn k) (Nat.le_trans (Nat.pow_le_pow_right (by omega) (show k ≤ 6 by omega)) (by decide)))))
  have HOL := Lib.hid (fun k i (hi : i < (pms n k).length) => (pms_mem.1 (show (pms n k).getD i [] ∈ pms n k by simp [List.getD, hi])).1)
  go_enter Tryz.func53, Tryz.ntmps53
  go_wp2_with fail
  go_loopw [3, 4, 5, 6, 7] (fun s k _ _ _ wr => ∃ j : Nat, j ≤ n ∧ k = .int .i64 j ∧ Grew w wr ∧ Hid (OwnU wr w.heap.size s (zss (pms n j)))) (fun _ k _ _ _ _ => n - (intOf k).toNat)
  case atStart =>
    refine ⟨0, by omega, rfl, ((Grew.refl w).alloc _).alloc _, Lib.hid ?_⟩
    have h1 := ownU_one (w := w.alloc (.cells #[] 2)) (B := w.heap.size) (u := .slice (some ⟨w.heap.size, 0, none⟩) 0 0) (U := []) (own_emptyI w) (by simp)
    rw [show (w.alloc (.cells #[] 2)).heap.size = w.heap.size + 1 by simp] at h1
    exact h1
  case round =>
    obtain ⟨k, hk, rfl, hB, hO⟩ := hrel
    obtain ⟨A3, c3, rfl⟩ := hO.out.slice
    rw [zss_len]
    have hPL := HLN.out k hk
    by_cases hlt : k < n
    · have HPQ : Hid (pms n (k + 1) = (pms n k).flatMap (ext1 n)) := Lib.hid rfl
      have HAT := Lib.hid (fun i (hi : i < (pms n k).length) => hO.out.at_ (i := i) (by rw [zss_len]; exact hi))
      have HGT := Lib.hid (fun i (hi : i < (pms n k).length) => zss_get (Us := pms n k) (i := i) hi)
      have HLI := Lib.hid (fun i (hi : i < (pms n k).length) => HOL.out k i hi)
      have HFL := Lib.hid (fun i => flat_len (n := n) ((pms n k).take i) (m := 46656) (by rw [List.length_take]; omega))
      have HTK := Lib.hid (fun i (hi : i < (pms n k).length) => (show ((pms n k).take (i + 1)).flatMap (ext1 n) = ((pms n k).take i).flatMap (ext1 n) ++ ext1 n ((pms n k).getD i []) by rw [take_next [] hi, List.flatMap_append]; simp))
      have HEND : Hid (((pms n k).take (pms n k).length).flatMap (ext1 n) = pms n (k + 1)) := Lib.hid (by rw [List.take_length]; rfl)
      have HZ : Hid (zss (((pms n k).take 0).flatMap (ext1 n)) = []) := Lib.hid rfl
      clear hO
      generalize hP : pms n k = P at *
      generalize hPl : P.length = pl at *
      clear hP hPl
      generalize wr = wk at *
      go_wp2_with fail
      go_loopw [5, 6, 7] (fun s i _ wi => ∃ m : Nat, m ≤ pl ∧ i = .int .i64 m ∧ Grew wk wi ∧ Hid (OwnU wi wk.heap.size s (zss ((P.take m).flatMap (ext1 n))))) (fun _ i _ _ => pl - (intOf i).toNat)
      case atStart => exact ⟨0, by omega, rfl, (Grew.refl _).alloc _, Lib.hid (by rw [HZ.out]; exact OwnU.lit wk)⟩
      case round =>
        obtain ⟨m, hm, rfl, hB2, hO2⟩ := hrel
        obtain ⟨A5, c5, rfl⟩ := hO2.out.slice
        rw [zss_len]
        by_cases hlm : m < pl
        · obtain ⟨go, co, uo, he, hco, huo⟩ := HAT.out m hlm
          injection he with he1 _ he3
          subst he1 he3
          rw [HGT.out m hlm] at huo
          have hol := HLI.out m hlm
          have htk := Lib.hid (HTK.out m hlm)
          have hfl := HFL.out m
          have HUO := Lib.hid huo
          have HZ2 : Hid (zss ((P.take m).flatMap (ext1 n) ++ extK (P.getD m []) 0) = zss ((P.take m).flatMap (ext1 n))) := Lib.hid (by simp [extK])
          have HE2 : Hid (ext1 n (P.getD m []) = extK (P.getD m []) n) := Lib.hid rfl
          have HEY := Lib.hid (fun v h => @extK_yes (P.getD m []) v h)
          have HEN := Lib.hid (fun v h => @extK_no (P.getD m []) v h)
          have HEL := Lib.hid (fun v => extK_len (P.getD m []) v)
          have hO3 : Hid (OwnU wr wk.heap.size (.slice A5 ((P.take m).flatMap (ext1 n)).length c5) (zss ((P.take m).flatMap (ext1 n) ++ extK (P.getD m []) 0))) := Lib.hid (by rw [HZ2.out]; have := hO2.out; rwa [zss_len] at this)
          clear huo hO2 HZ2
          generalize P.getD m [] = o at *
          generalize hM : (P.take m).flatMap (ext1 n) = M at *
          clear hM
          generalize wr = wm at *
          go_wp2_with fail
          go_loopw [5, 7] (fun s i wi => ∃ v : Nat, v ≤ n ∧ i = .int .i64 v ∧ Grew wk wi ∧ Hid (OwnU wi wk.heap.size s (zss (M ++ extK o v)))) (fun _ i _ => n - (intOf i).toNat)
          case atStart => exact ⟨0, by omega, rfl, hB2, hO3⟩
          case round =>
            obtain ⟨v, hv, rfl, hB3, hO3⟩ := hrel
            obtain ⟨A6, c6, rfl⟩ := hO3.out.slice
            by_cases hlv : v < n
            · have hcell := hco wr hB3
              have hIo := HUO.out.ints.grew hB3
              have hLl : (zss (M ++ extK o v)).length ≤ 1048576 := by rw [zss_len, List.length_append]; have := HEL.out v; omega
              have hH := Lib.hid (l01Has_c uo (zs o) (v : Int) wr hIo)
              have hmem : decide ((v : Int) ∈ zs o) = decide (v ∈ o) := by rw [decide_eq_decide]; exact zs_mem
              rw [hmem] at hH
              clear hmem
              by_cases hvo : v ∈ o
              · have hx := Lib.hid (HEY.out v hvo)
                rw [decide_eq_true hvo] at hH
                clear hvo
                go_wp2_with fail
                refine hH.out.mono ?_
                rintro e w2 ⟨rfl, hg2⟩
                have hO4 := Lib.hid (hO3.out.grew hg2)
                go_wp2_with fail
                go_roundw
                case rel => exact ⟨v + 1, by omega, by go_num, hB3.trans hg2, by rw [hx.out]; exact hO4⟩
                case measure => simp [intOf]; omega
              · have hx : Hid (zss (M ++ extK o (v + 1)) = zss (M ++ extK o v) ++ [zs o ++ [(v : Int)]]) := Lib.hid (by rw [HEN.out v hvo, ← List.append_assoc, zss_append (M ++ extK o v)]; simp [zss, zs_append, zs])
                rw [decide_eq_false hvo] at hH
                clear hvo
                go_wp2_with fail
                refine hH.out.mono ?_
                rintro e w2 ⟨rfl, hg2⟩
                have hB4 := hB3.trans hg2
                have hcell2 := hco w2 hB4
                have hO4 := hO3.out.grew hg2
                have hIo2 := hIo.grew hg2
                have hOW := Lib.hid (ownR_c uo (zs o) w2 hIo2 (by rw [zs_len, hol]; omega))
                have hol6 : (zs o).length ≤ 1048576 := by rw [zs_len, hol]; omega
                generalize zss (M ++ extK o v) = K at *
                generalize zs o = Lo at *
                go_wp2_with fail
                refine hOW.out.mono ?_
                rintro e w3 ⟨v3, rfl, hO5, hg3⟩
                have hB5 := hB4.trans hg3
                have hO6 := hO4.grew hg3
                have hl3 := (Grew.refl w3).alloc (.cells #[.int .i64 (v : Int)] 2)
                go_wp2_with (first
                  | (at_builtin
                     refine wpList_appI (w0 := w2) _ _ rfl rfl _ Lo rfl (hO5.grew hl3) (hg3.trans hl3) _ (v : Int) rfl (rd_litI _ _ _) hol6 ?_
                     intro v7 w7 hO7 hg7 hgr7
                     generalize Lo ++ [(v : Int)] = Lv at *
                     have hB7 := hB4.trans hg7
                     have hO8 := hO4.grew hg7
                     obtain ⟨A7, c7, rfl⟩ := ints_slice hO7.ints
                     have hl7 := (Grew.refl w7).alloc (.cells #[.slice A7 Lv.length c7] 24)
                     have hO7b := OwnI.base (B' := wk.heap.size) hO7 hB4.size)
                  | (at_builtin
                     refine wpList_appU wk.heap.size _ _ rfl rfl _ K rfl (hO8.grew hl7) (hB7.alloc _).size _ (.slice A7 Lv.length c7) _ rfl (rd_litU _ _ _) (hO7b.grew hl7) hLl ?_
                     intro v9 w9 hO9 hgr9
                     have hB9 := Grew.grown (hB7.alloc (.cells #[.slice A7 Lv.length c7] 24)) hgr9 (fun k hk => own_of_geU (hO8.grew hl7) hk)))
                go_roundw
                case rel => exact ⟨v + 1, by omega, by go_num, hB9, Lib.hid (by rw [hx.out]; exact hO9)⟩
                case measure => simp [intOf]; omega
            · obtain rfl : v = n := by omega
              have hE := Lib.hid (htk.out)
              go_wp2_with fail
              go_roundw
              case rel => exact ⟨m + 1, by omega, by go_num, hB3, Lib.hid (by rw [htk.out, HE2.out]; exact hO3.out)⟩
              case measure => simp [intOf]; omega
        · obtain rfl : m = pl := by omega
          go_wp2_with fail
          go_roundw
          case rel => exact ⟨k + 1, by omega, by go_num, hB.trans hB2, Lib.hid (by have := hO2.out.base hB.size; rw [zss_len] at this; rw [← HEND.out]; exact this)⟩
          case measure => simp [intOf]; omega
    · obtain rfl : k = n := by omega
      have HO := Lib.hid hO.out
      go_wp2_with fail
      go_ret
      exact ⟨_, rfl, by rw [← zss_len]; exact HO.out, hB⟩

/-- The least form among the first k orders. -/
def lstK (A : List Nat) (k : Nat) : List Nat := ((pms A.length A.length).take k).foldl (lstep A) A
theorem lstK_succ {A : List Nat} {k : Nat} (h : k < (pms A.length A.length).length) : lstK A (k + 1) = lstep A (lstK A k) ((pms A.length A.length).getD k []) := by
  unfold lstK
  rw [take_next [] h, List.foldl_append]
  rfl
theorem lstK_all (A : List Nat) : lstK A (pms A.length A.length).length = lst A := by unfold lstK lst; rw [List.take_length]
theorem lstK_len {A : List Nat} {k : Nat} : (lstK A k).length = A.length := by
  unfold lstK
  rcases fold_mem A ((pms A.length A.length).take k) A with h | ⟨o, ho, h⟩
  · rw [h]
  · rw [h, reo_len]
    exact (isPm_iff.1 (List.mem_of_mem_take ho)).1

set_option maxHeartbeats 1000000 in
theorem l05Least_c (v : Value) (A : List Nat) (w : World) (h : Ints w v (zs A)) (hA : Rl A) (hn : A.length ≤ 6) :
    Calls Tryz.prog 37 #[v] w (GivesI w (zs (lst A))) := by
  have HOR := Lib.hid (l05Orders_c A.length hn)
  have HOW := Lib.hid (fun W (hW : Grew w W) => ownR_c v (zs A) W (h.grew hW) (by rw [zs_len]; omega))
  have HGT := Lib.hid (fun i (hi : i < (pms A.length A.length).length) => zss_get (Us := pms A.length A.length) (i := i) hi)
  have HPM := Lib.hid (fun i (hi : i < (pms A.length A.length).length) => isPm_iff.1 (show (pms A.length A.length).getD i [] ∈ pms A.length A.length by simp [List.getD, hi]))
  have HRE := Lib.hid (fun u o W (hW : Grew w W) (hu : Ints W u (zs o)) (ho : IsPm A.length o) => l05RenumberX_c v u A o W (h.grew hW) hu hA.sm ho.2.2 hA.1 (by rw [ho.1]; omega))
  have HLE := Lib.hid (fun v1 v2 o best W (h1 : Ints W v1 (zs (reo A o))) (h2 : Ints W v2 (zs best)) (ho : IsPm A.length o) (hb : best.length = A.length) => l01Less_c v1 v2 (reo A o) best W h1 h2 (by rw [reo_len, ho.1, hb]))
  have HSU := Lib.hid (fun k h => @lstK_succ A k h)
  have HAL := Lib.hid (lstK_all A)
  have HKL := Lib.hid (fun k => @lstK_len A k)
  have H0 : Hid (lstK A 0 = A) := Lib.hid rfl
  have hPL : (pms A.length A.length).length ≤ 46656 := Nat.le_trans (pms_len _ _) (Nat.le_trans (Nat.pow_le_pow_left hn _) (Nat.le_trans (Nat.pow_le_pow_right (by omega) hn) (by decide)))
  obtain ⟨A1, c1, rfl⟩ := ints_sliceN h
  have HNA := Lib.hid (rfl : A.length = A.length)
  clear h hA
  generalize hnn : A.length = n at *
  have HN := Lib.hid hnn
  clear hnn
  go_enter Tryz.func37, Tryz.ntmps37
  go_wp2_with fail
  refine (HOR.out _).mono ?_
  rintro e w1 ⟨v1, rfl, hO1, hg1⟩
  obtain ⟨A3, c3, rfl⟩ := hO1.slice
  have HAT := Lib.hid (fun i (hi : i < (pms n n).length) => hO1.at_ (i := i) (by rw [zss_len]; exact hi))
  rw [zss_len]
  clear hO1
  generalize pms n n = P at *
  generalize hpl : P.length = pl at *
  clear hpl
  go_wp2_with fail
  refine (HOW.out _ hg1).mono ?_
  rintro e w2 ⟨v2, rfl, hO2, hg2⟩
  obtain ⟨A4, c4, rfl⟩ := ints_sliceN hO2.ints
  rw [HN.out] at hO2 ⊢
  have hO2' : OwnI w2 w.heap.size (.slice A4 n c4) (zs (lstK A 0)) := by rw [H0.out]; exact hO2.base hg1.size
  have HO2 := Lib.hid hO2'
  clear hO2 hO2'
  go_wp2_with fail
  go_loopw [4, 5, 6] (fun s i _ wr => ∃ k : Nat, k ≤ pl ∧ i = .int .i64 k ∧ Grew w1 wr ∧ Hid (OwnI wr w.heap.size s (zs (lstK A k)))) (fun _ i _ _ => pl - (intOf i).toNat)
  case atStart => exact ⟨0, by omega, rfl, hg2, HO2⟩
  case round =>
    obtain ⟨k, hk, rfl, hB, hO⟩ := hrel
    obtain ⟨A5, c5, rfl⟩ := ints_sliceN hO.out.ints
    have hB0 := hg1.trans hB
    have hlk := HKL.out k
    rw [hlk] at hO ⊢
    by_cases hlt : k < pl
    · obtain ⟨go, co, uo, he, hco, huo⟩ := HAT.out k hlt
      injection he with he1 _ he3
      subst he1 he3
      rw [HGT.out k hlt] at huo
      have hcell := hco wr hB
      have hpm := HPM.out k hlt
      have hsu := HSU.out k hlt
      rw [show lstep A (lstK A k) (P.getD k []) = if lessL (reo A (P.getD k [])) (lstK A k) = true then reo A (P.getD k []) else lstK A k from rfl] at hsu
      have hR := Lib.hid (HRE.out uo (P.getD k []) wr hB0 (huo.ints.grew hB) hpm)
      have hL := Lib.hid (fun v1 v2 W h1 h2 => HLE.out v1 v2 (P.getD k []) (lstK A k) W h1 h2 hpm hlk)
      have hrl : (reo A (P.getD k [])).length = n := by rw [reo_len, hpm.1]
      have HSUk := Lib.hid hsu
      have HUO := Lib.hid huo
      obtain ⟨Au, cu, rfl⟩ := ints_sliceN huo.ints
      clear hsu hpm hlk huo
      generalize P.getD k [] = o at *
      generalize hro : reo A o = R at *
      clear hro
      go_wp2_with fail
      refine hR.out.mono ?_
      rintro e w4 ⟨v4, rfl, hO4, hg4⟩
      obtain ⟨A6, c6, rfl⟩ := ints_sliceN hO4.ints
      rw [hrl] at hO4 ⊢
      have hM := Lib.hid (hL.out _ _ w4 hO4.ints (hO.out.ints.grew hg4))
      have HO4 := Lib.hid (hO4.base (B' := w.heap.size) hB0.size)
      clear hO4 hrl
      generalize hls : lessL R (lstK A k) = b at *
      clear hls
      go_wp2_with fail
      refine hM.out.mono ?_
      rintro e w5 ⟨rfl, hg5⟩
      have hB5 := hB.trans (hg4.trans hg5)
      cases b with
      | true =>
        have HR : Hid (lstK A (k + 1) = R) := Lib.hid (by rw [HSUk.out]; rfl)
        have HO5 := Lib.hid (HO4.out.grew hg5)
        go_wp2_with fail
        go_roundw
        case rel => exact ⟨k + 1, by omega, by go_num, hB5, Lib.hid (by rw [HR.out]; exact HO5.out)⟩
        case measure => simp [intOf]; omega
      | false =>
        have HR : Hid (lstK A (k + 1) = lstK A k) := Lib.hid (by rw [HSUk.out]; rfl)
        have HO5 := Lib.hid (hO.out.grew (hg4.trans hg5))
        go_wp2_with fail
        go_roundw
        case rel => exact ⟨k + 1, by omega, by go_num, hB5, Lib.hid (by rw [HR.out]; exact HO5.out)⟩
        case measure => simp [intOf]; omega
    · obtain rfl : k = pl := by omega
      go_wp2_with fail
      go_ret
      exact ⟨_, rfl, by rw [← HAL.out]; exact hO.out, hB0⟩
end Go.Proofs.YtmcbjekianclpaaGreat

/- Rows of posets of the call's own. -/
namespace Go.Proofs.YtmcbjekianclpaaGreat
open Go.RowKit

def pscells (ps : List (Value × List Nat)) : List Value := ps.flatMap fun p => [.int .i64 (p.2.length : Int), p.1]
theorem pscells_append (ps qs : List (Value × List Nat)) : pscells (ps ++ qs) = pscells ps ++ pscells qs := by simp [pscells]
theorem pscells_length (ps : List (Value × List Nat)) : (pscells ps).length = ps.length * 2 := by
  induction ps with
  | nil => rfl
  | cons p ps ih => show ([Value.int .i64 (p.2.length : Int), p.1] ++ pscells ps).length = _; simp [ih]; omega
theorem pscells_at (ps : List (Value × List Nat)) : ∀ i p, ps[i]? = some p → (pscells ps)[i * 2]? = some (.int .i64 (p.2.length : Int)) ∧ (pscells ps)[i * 2 + 1]? = some p.1 := by
  induction ps with
  | nil => intro i p hi; simp at hi
  | cons x ps ih =>
    intro i p hi
    match i with
    | 0 => simp at hi; subst hi; exact ⟨rfl, rfl⟩
    | i + 1 =>
      have h := ih i p (by simpa using hi)
      have e1 : (i + 1) * 2 = i * 2 + 1 + 1 := by omega
      rw [e1]
      show ([Value.int .i64 (x.2.length : Int), x.1] ++ pscells ps)[i * 2 + 1 + 1]? = _ ∧ ([Value.int .i64 (x.2.length : Int), x.1] ++ pscells ps)[i * 2 + 1 + 1 + 1]? = _
      simpa using h
/-- A row of posets; each one's order lies in a row of its own. -/
def OwnPs (w : World) (B : Nat) (v : Value) (Ls : List (List Nat)) : Prop := ∃ ps : List (Value × List Nat), ps.map (fun p => p.2) = Ls ∧ w.ownsRow B 26 2 v Ls.length (pscells ps) ∧ ∀ p ∈ ps, OwnI w B p.1 (zs p.2)
theorem OwnPs.nil_ (w : World) (B : Nat) : OwnPs w B (.slice none 0 0) [] := ⟨[], rfl, World.ownsRow_nil w B _ 2, fun p hp => by cases hp⟩
theorem OwnPs.lit (w : World) : OwnPs (w.alloc (.cells #[] 26)) w.heap.size (.slice (some ⟨w.heap.size, 0, none⟩) 0 0) [] :=
  ⟨[], rfl, World.ownsRow_lit (e := 26) (size := 2) w #[] 0 (Nat.le_refl _) (by first | omega | decide | simp) rfl, fun p hp => by cases hp⟩
theorem OwnPs.grew {w w' : World} {B : Nat} {v : Value} {Ls : List (List Nat)} (h : OwnPs w B v Ls) (hg : Grew w w') : OwnPs w' B v Ls := by
  obtain ⟨ps, h1, h2, h3⟩ := h
  exact ⟨ps, h1, own_grew h2 hg, fun p hp => (h3 p hp).grew hg⟩
theorem OwnPs.base {w : World} {B B' : Nat} {v : Value} {Ls : List (List Nat)} (h : OwnPs w B v Ls) (hb : B' ≤ B) : OwnPs w B' v Ls := by
  obtain ⟨ps, h1, h2, h3⟩ := h
  exact ⟨ps, h1, own_base h2 hb, fun p hp => (h3 p hp).base hb⟩
theorem OwnPs.slice {w : World} {B : Nat} {v : Value} {Ls : List (List Nat)} (h : OwnPs w B v Ls) : ∃ A c, v = .slice A Ls.length c := by
  obtain ⟨ps, h1, h2, h3⟩ := h
  obtain ⟨_, h4⟩ := h2
  rcases h4 with ⟨rfl, h5⟩ | ⟨g, cap, cur, rfl, hb, hg, hnc, hcm, hcs, ht⟩
  · rw [h5]; exact ⟨_, _, rfl⟩
  · exact ⟨_, _, rfl⟩
theorem OwnPs.ge {w : World} {B : Nat} {v : Value} {Ls : List (List Nat)} (h : OwnPs w B v Ls) {g : Nat} (hg : v.ownBlock = some g) : B ≤ g := by
  obtain ⟨ps, h1, h2, h3⟩ := h
  exact own_of_ge h2 hg
theorem OwnPs.at_ {w : World} {B : Nat} {v : Value} {Ls : List (List Nat)} (h : OwnPs w B v Ls) {i : Nat} (hi : i < Ls.length) : ∃ g c u, v = .slice (some ⟨g, 0, none⟩) Ls.length c ∧ g < w.heap.size ∧
    (∀ W, Grew w W → W.cell? ⟨g, i * 2, none⟩ = some (.int .i64 ((Ls.getD i []).length : Int)) ∧ W.cell? ⟨g, i * 2 + 1, none⟩ = some u) ∧ OwnI w B u (zs (Ls.getD i [])) := by
  obtain ⟨ps, h1, h2, h3⟩ := h
  have hl : ps.length = Ls.length := by rw [← h1, List.length_map]
  obtain ⟨_, h4⟩ := h2
  rcases h4 with ⟨_, h5⟩ | ⟨g, cap, cur, rfl, hb, hg, hnc, hcm, hcs, ht⟩
  · omega
  · have hp : ps[i]? = some (ps[i]'(by omega)) := List.getElem?_eq_getElem (by omega)
    have he : Ls.getD i [] = (ps[i]'(by omega)).2 := by
      have h6 : Ls[i]? = some (ps[i]'(by omega)).2 := by simp only [← h1, List.getElem?_map, hp]; rfl
      simp only [List.getD, h6]; rfl
    obtain ⟨e1, e2⟩ := pscells_at ps i _ hp
    refine ⟨g, cap, (ps[i]'(by omega)).1, rfl, blk_lt hg, fun W hW => ⟨?_, ?_⟩, by rw [he]; exact h3 _ (List.getElem_mem _)⟩
    · rw [hW.cell (p := ⟨g, i * 2, none⟩) (blk_lt hg), blk_cell hg, he, ← e1, ← ht, List.getElem?_take, if_pos (by omega)]
      simp
    · rw [hW.cell (p := ⟨g, i * 2 + 1, none⟩) (blk_lt hg), blk_cell hg, ← e2, ← ht, List.getElem?_take, if_pos (by omega)]
      simp
theorem infoPs : (Tryz.prog.info? 26).map (fun i => (i.zero, i.size, i.bytes)) = some (some (.agg #[.int .i64 0, .slice none 0 0]), 2, 32) := by kernel_rfl
theorem tyPs : (2 : TypeId) ≠ 26 := by decide
theorem rd_litPs (w : World) (k : Int) (u : Value) (t : TypeId) : Rd (w.alloc (.cells #[.int .i64 k, u] t)) 2 (.slice (some ⟨w.heap.size, 0, none⟩) 1 1) 1 [.int .i64 k, u] := by
  refine ⟨rfl, by omega, .inr ⟨w.heap.size, 0, 1, rfl, by omega, by omega, by simp, fun j x hx => ?_⟩⟩
  have hj : j = 0 ∨ j = 1 := by
    have := (List.getElem?_eq_some_iff.1 hx).1
    simp at this
    omega
  rcases hj with rfl | rfl
  · simp at hx; subst hx; simp
  · simp at hx; subst hx; simp
/-- 'append(out, list...)', out a row of posets. -/
theorem wpList_appPs {ops : Array Oper} {rest : List Oper} {o : Oper} {a : Act} {Q : Exit → Act → World → Prop} {w : World} (B : Nat) (s x : Operand) (hgd : o.guard = none)
    (ho : o.op = .call { callee := .builtin .append, args := #[s, x], argTypes := #[38, 38] })
    (v : Value) (Ls : List (List Nat)) (hs : a.eval s = v) (hown : OwnPs w B v Ls) (hB : B ≤ w.heap.size) (vx : Value) (qs : List (Value × List Nat)) (hx : a.eval x = vx) (hr : Rd w 2 vx qs.length (pscells qs)) (hu : ∀ p ∈ qs, OwnI w B p.1 (zs p.2)) (hn : Ls.length + qs.length ≤ 1048577)
    (h : ∀ v' w', OwnPs w' B v' (Ls ++ qs.map (fun p => p.2)) → w.grownBy w' v.ownBlock → (v'.ownBlock = v.ownBlock ∨ v'.ownBlock = some w.heap.size) → wpList Tryz.prog ops Q rest (a.put o.dst v') w') : wpList Tryz.prog ops Q (o :: rest) a w := by
  obtain ⟨i0, hi0, hz0, hz1, hz2⟩ := info_parts infoPs
  obtain ⟨ps, h1, h2, h3⟩ := hown
  have hone : ∀ u ∈ pscells qs, u.oneCell' = true := by
    intro u hu1
    unfold pscells at hu1
    obtain ⟨p, hp, hq⟩ := List.mem_flatMap.1 hu1
    simp at hq
    rcases hq with rfl | rfl
    · rfl
    · obtain ⟨A, c, hA⟩ := ints_sliceN (hu p hp).ints
      rw [hA]
      rfl
  refine wpList_append_rd w hgd s x _ ho B 26 i0 _ 2 32 Tryz.underlying38 hi0 hz0 hz1 hz2 rfl (by omega) v Ls.length (pscells ps) hs h2 vx qs.length (pscells qs) hx hr hone (by unfold maxLen; omega) (by omega) hB ?_
  intro v' w' k1 k2 k3
  refine h v' w' ⟨ps ++ qs, by rw [List.map_append, h1], ?_, fun p hp => ?_⟩ k2 k3
  · rw [List.length_append, List.length_map, pscells_append]
    exact k1
  · rcases List.mem_append.1 hp with hp | hp
    · exact kept_of (h3 p hp) k2 (types_ne (h3 p hp) h2 tyPs)
    · exact kept_of (hu p hp) k2 (types_ne (hu p hp) h2 tyPs)
theorem OwnPs.rd {w : World} {B : Nat} {v : Value} {Ls : List (List Nat)} (h : OwnPs w B v Ls) : ∃ qs : List (Value × List Nat), qs.map (fun p => p.2) = Ls ∧ qs.length = Ls.length ∧ Rd w 2 v qs.length (pscells qs) ∧ ∀ p ∈ qs, OwnI w B p.1 (zs p.2) := by
  obtain ⟨ps, h1, h2, h3⟩ := h
  have hl : ps.length = Ls.length := by rw [← h1, List.length_map]
  exact ⟨ps, h1, hl, by rw [hl]; exact Rd.of_own h2, h3⟩
end Go.Proofs.YtmcbjekianclpaaGreat

/- Ascending rows: what is left when a sorted list of rows loses its doubles (plain). -/
namespace Go.Proofs.YtmcbjekianclpaaGreat
open Go.RowKit

def Asc (K : List (List Nat)) : Prop := K.Pairwise (fun a b => lessL a b = true)
/-- Ascending, with doubles. -/
def AscD (K : List (List Nat)) : Prop := K.Pairwise (fun a b => lessL b a = false)
/-- P is Q without its doubles. -/
structure Comp (P Q : List (List Nat)) : Prop where
  asc : Asc P
  mem : ∀ x, x ∈ P ↔ x ∈ Q
  last : P.getLast? = Q.getLast?
theorem Comp.skip {P Q : List (List Nat)} {x : List Nat} (h : Comp P Q) (hx : Q.getLast? = some x) : Comp P (Q ++ [x]) := by
  refine ⟨h.asc, fun y => ?_, by rw [h.last, hx]; simp⟩
  rw [h.mem y, List.mem_append, List.mem_singleton]
  constructor
  · exact .inl
  · rintro (h1 | rfl)
    · exact h1
    · exact List.mem_of_getLast? hx
theorem asc_last : ∀ {P : List (List Nat)} {y : List Nat}, Asc P → P.getLast? = some y → ∀ p ∈ P, p = y ∨ lessL p y = true
  | [], _, _, h, _, _ => by simp at h
  | [a], y, _, h, p, hp => by
    simp at h hp
    left
    rw [hp, h]
  | a :: b :: r, y, hA, h, p, hp => by
    have h1 : (b :: r).getLast? = some y := by simpa using h
    rcases List.mem_cons.1 hp with rfl | hp
    · have hy := List.mem_of_getLast? h1
      exact .inr ((List.pairwise_cons.1 hA).1 y hy)
    · exact asc_last (List.pairwise_cons.1 hA).2 h1 p hp
theorem Comp.keep {P Q : List (List Nat)} {x y : List Nat} (h : Comp P Q) (hy : Q.getLast? = some y) (hl : lessL y x = true) : Comp (P ++ [x]) (Q ++ [x]) := by
  refine ⟨?_, fun z => by rw [List.mem_append, List.mem_append, h.mem z], by simp⟩
  unfold Asc
  rw [List.pairwise_append]
  refine ⟨h.asc, List.pairwise_singleton _ _, fun p hp z hz => ?_⟩
  rw [List.mem_singleton] at hz
  subst hz
  rcases asc_last h.asc (h.last.trans hy) p hp with rfl | h2
  · exact hl
  · exact lessL_trans h2 hl
theorem Comp.refl {P : List (List Nat)} (h : Asc P) : Comp P P := ⟨h, fun _ => Iff.rfl, rfl⟩
theorem asc_keep {P : List (List Nat)} {x y : List Nat} (h : Asc P) (hy : P.getLast? = some y) (hl : lessL y x = true) : Asc (P ++ [x]) := (Comp.keep (Comp.refl h) hy hl).asc

/-- The first n rows of a numbering. -/
def rws (f : Nat → Value × List Nat) (n : Nat) : List (List Nat) := (List.range n).map fun i => (f i).2
theorem rws_succ (f : Nat → Value × List Nat) (n : Nat) : rws f (n + 1) = rws f n ++ [(f n).2] := by simp [rws, List.range_succ]
theorem rws_len (f : Nat → Value × List Nat) (n : Nat) : (rws f n).length = n := by simp [rws]
theorem rws_congr {f g : Nat → Value × List Nat} {n : Nat} (h : ∀ i, i < n → f i = g i) : rws f n = rws g n := List.map_congr_left fun i hi => by rw [h i (List.mem_range.1 hi)]
theorem rws_last (f : Nat → Value × List Nat) (n : Nat) (h : 0 < n) : (rws f n).getLast? = some (f (n - 1)).2 := by
  obtain ⟨m, rfl⟩ : ∃ m, n = m + 1 := ⟨n - 1, by omega⟩
  rw [rws_succ]
  simp
theorem rws_get {f : Nat → Value × List Nat} {n i : Nat} (h : i < n) : (rws f n).getD i [] = (f i).2 := by simp [rws, List.getD, h]

theorem less_of {a b : List Nat} (h : lessL b a = false) (hne : a ≠ b) : lessL a b = true := by
  cases hl : lessL a b with
  | true => rfl
  | false => exact absurd (lessL_tri hl h) hne
theorem lessL_ntrans {x y z : List Nat} (h1 : lessL x y = false) (h2 : lessL y z = false) : lessL x z = false := by
  cases hl : lessL x z with
  | false => rfl
  | true =>
    by_cases hxy : x = y
    · subst hxy
      rw [hl] at h2
      cases h2
    · have h3 := less_of h1 (Ne.symm hxy)
      rw [lessL_trans h3 hl] at h2
      cases h2

/-- Rows with their values, each of which meets p. -/
theorem rows_exist {p : Value → List Nat → Prop} : ∀ (us : List Value) (Ls : List (List Nat)), us.length = Ls.length → (∀ j, j < Ls.length → p (us.getD j (.bool false)) (Ls.getD j [])) →
    ∃ ds : List {q : Value × List Nat // p q.1 q.2}, ds.map (fun q => q.1.1) = us ∧ ds.map (fun q => q.1.2) = Ls
  | [], [], _, _ => ⟨[], rfl, rfl⟩
  | [], _ :: _, h, _ => by simp at h
  | _ :: _, [], h, _ => by simp at h
  | u :: us, L :: Ls, h, hp => by
    obtain ⟨ds, h1, h2⟩ := rows_exist us Ls (by simpa using h) (fun j hj => by have := hp (j + 1) (by simpa using hj); simpa using this)
    have h0 : p u L := by have := hp 0 (by simp); simpa using this
    exact ⟨⟨(u, L), h0⟩ :: ds, by simp [h1], by simp [h2]⟩
theorem perm_of_in {α : Type} [Inhabited α] {d d' : Array α} (h : Sort.PermIn 0 d.size d d') : d'.toList.Perm d.toList := by
  obtain ⟨h1, _, h3⟩ := h
  have e1 : (d'.extract 0 d.size) = d' := by rw [← h1]; simp
  have e2 : (d.extract 0 d.size) = d := by simp
  rwa [e1, e2] at h3
theorem pairs_of_in {α : Type} [Inhabited α] {lt : α → α → Bool} {d : Array α} {n : Nat} (hn : n = d.size) (h : Sort.SortedIn lt 0 n d) : d.toList.Pairwise (fun a b => lt b a = false) := by
  subst hn
  rw [List.pairwise_iff_getElem]
  intro i j hi hj hij
  have := h i j (Nat.zero_le _) hij (by simpa using hj)
  rw [getElem!_pos d j (by simpa using hj), getElem!_pos d i (by simpa using hi)] at this
  simpa using this
end Go.Proofs.YtmcbjekianclpaaGreat

/- FnMonotone: what draws of posets reckon with: reflexive and transitive closure, numbering anew; only their shape is told. -/
namespace Go.Proofs.YtmcbjekianclpaaGreat
open Go.RowKit

/-- A row of n small natural numbers. -/
def GivesMR (w : World) (n : Nat) (e : Ending) (w' : World) : Prop := ∃ v L, e = .returned v ∧ OwnI w' w.heap.size v (zs L) ∧ L.length = n ∧ Sm L ∧ Grew w w'

theorem NRow.own {w : World} {g n c B : Nat} {f : Nat → Nat} (h : NRow w g n c f) (hB : B ≤ g) : OwnI w B (.slice (some ⟨g, 0, none⟩) n c) (zs ((List.range n).map f)) := by
  obtain ⟨cur, h1, h2, hn, hm, h3⟩ := h
  have hl : (zs ((List.range n).map f)).length = n := by simp [zs]
  have hk := OwnI.mk_ (L := zs ((List.range n).map f)) hB h1 (by rw [hl]; exact hn) hm h2 (fun i hi => by
    rw [hl] at hi
    rw [h3 i hi]
    simp [it, zs, hi])
  rwa [hl] at hk
theorem own_nrow {w : World} {B c n : Nat} {A : Option Addr} {L : List Nat} (h : OwnI w B (.slice A n c) (zs L)) (hn : L.length = n) (h0 : 0 < n) :
    ∃ g, A = some ⟨g, 0, none⟩ ∧ B ≤ g ∧ NRow w g n c (nt L) := by
  rcases h.2 with ⟨he, _⟩ | ⟨g, c', cur, he, hB, hh, hnc, hcm, hcs, htk⟩
  · injection he with _ e2 _
    omega
  · injection he with e1 _ e3
    subst e1 e3
    refine ⟨g, rfl, hB, cur, hh, by omega, by rw [zs_len] at hnc; omega, hcm, fun i hi => ?_⟩
    have hc := h.ints.open_
    rcases hc with ⟨he, _⟩ | ⟨b, o, c3, he, _, _, _, hcell⟩
    · cases he
    · injection he with e1 _ _
      injection e1 with e1
      injection e1 with e1 e2
      subst e1 e2
      have := hcell i (by rw [zs_len]; omega) w (Grew.refl _)
      rw [Nat.zero_add, blk_cell hh, zs_it (by omega)] at this
      exact this

theorem l01Closure_c (v : Value) (A : List Nat) (w : World) (h : Ints w v (zs A)) (hA : Sm A) (hn30 : A.length ≤ 30) :
    Calls Tryz.prog 75 #[v] w (GivesMR w A.length) := by
  have HCL := Lib.hid (ownR_c v (zs A) w h (by rw [zs_len]; omega))
  have HZ := Lib.hid (fun i (hi : i < A.length) => hA.at_ hi)
  have HH := Lib.hid (fun m i (hm : m < 1073741824) (hi : i < 64) => l01Bit_q m i (by omega) hi)
  have HO := Lib.hid (fun a b (ha : a < 1073741824) (hb : b < 1073741824) => or_i64 a b (by omega) (by omega))
  have HOS := Lib.hid (fun a b (ha : a < 1073741824) (hb : b < 1073741824) => or_sm ha hb)
  obtain ⟨A', c, rfl⟩ := ints_sliceN h
  clear h hA
  generalize hN : A.length = n at *
  have hNL := Lib.hid hN
  clear hN
  by_cases h00 : n = 0
  · have h0 : n ≤ 0 := by omega
    have HA0 : Hid (A = []) := Lib.hid (List.eq_nil_of_length_eq_zero (by have := hNL.out; omega))
    clear h00
    go_enter Tryz.func75, Tryz.ntmps75
    go_wp2_with fail
    refine HCL.out.mono ?_
    rintro e w1 ⟨v1, rfl, hO1, hg1⟩
    obtain ⟨A2, c2, rfl⟩ := ints_sliceN hO1.ints
    have HO1 := Lib.hid hO1
    clear hO1
    rw [hNL.out]
    go_wp2_with fail
    refine wp_loop_rounds 1 ?_; rw [rounds_succ]
    go_wp2_with fail
    go_ret
    have hO2 := HO1.out
    rw [hNL.out] at hO2
    exact ⟨_, A, rfl, hO2, hNL.out, by rw [HA0.out]; exact Sm.nil_, hg1⟩
  have h0 : 0 < n := by omega
  clear h00
  go_enter Tryz.func75, Tryz.ntmps75
  go_wp2_with fail
  refine HCL.out.mono ?_
  rintro e w1 ⟨v1, rfl, hO1, hg1⟩
  obtain ⟨A2, c2, rfl⟩ := ints_sliceN hO1.ints
  rw [hNL.out] at hO1 ⊢
  obtain ⟨g, rfl, hgw, hR0⟩ := own_nrow hO1 hNL.out h0
  have HR0 := Lib.hid hR0
  clear hR0 hO1 HCL
  go_wp2_with fail
  go_loopw [4, 5] (fun i _ wr => ∃ (j : Nat) (f : Nat → Nat), j ≤ n ∧ i = .int .i64 j ∧ Hid (NRow wr g n c2 f) ∧ Hid (∀ x, x < n → f x < 1073741824) ∧ Grew w wr) (fun i _ _ => n - (intOf i).toNat)
  case atStart => exact ⟨0, _, Nat.zero_le _, rfl, HR0, HZ, hg1⟩
  clear HZ HR0
  case round =>
    obtain ⟨j, f, hj, rfl, hR, hK, hB⟩ := hrel
    by_cases hlt : j < n
    · go_wp2_with fail
      go_loopw [5] (fun i wr => ∃ (k : Nat) (f : Nat → Nat), k ≤ n ∧ i = .int .i64 k ∧ Hid (NRow wr g n c2 f) ∧ Hid (∀ x, x < n → f x < 1073741824) ∧ Grew w wr) (fun i _ => n - (intOf i).toNat)
      case atStart => exact ⟨0, f, Nat.zero_le _, rfl, hR, hK, hB⟩
      case round =>
        obtain ⟨k, f2, hk, rfl, hR2, hK2, hB2⟩ := hrel
        by_cases hlk : k < n
        · have c2' : ∀ W, Grew wr W → W.cell? ⟨g, k, none⟩ = some (.int .i64 ((f2 k : Nat) : Int)) := fun W hW => (hR2.out.grew hW).cell hlk
          have c3' : ∀ W, Grew wr W → W.cell? ⟨g, j, none⟩ = some (.int .i64 ((f2 j : Nat) : Int)) := fun W hW => (hR2.out.grew hW).cell hlt
          have c4' : ∀ W, Grew wr W → W.frozen? ⟨g, k, none⟩ = false := fun W hW => (hR2.out.grew hW).free k
          have ho := HO.out _ _ (hK2.out k hlk) (hK2.out j hlt)
          have hos := Lib.hid (HOS.out _ _ (hK2.out k hlk) (hK2.out j hlt))
          have hH := Lib.hid (HH.out (f2 k) j (hK2.out k hlk) (by omega))
          have hr1 := Grew.refl wr
          have hd1 := (Grew.refl wr).drew
          generalize f2 k = y at *
          generalize f2 j = z at *
          generalize y.testBit j = t at *
          have hi0 : (0 : Int) ≤ (k : Int) := by omega
          have hi6 : (k : Int) < (n : Int) := by omega
          have hj0 : (0 : Int) ≤ (j : Int) := by omega
          have hj6 : (j : Int) < (n : Int) := by omega
          go_wp2_with fail
          refine (hH.out _).mono ?_
          rintro e w2 ⟨rfl, rfl⟩
          cases t with
          | true =>
            go_wp2_with fail
            go_region
            go_wp2_with fail
            go_roundw
            case rel =>
              have e1 : (fun q => if q = k then y ||| z else f2 q) k = y ||| z := if_pos rfl
              have e2 : ∀ q, q < n → q ≠ k → (fun q => if q = k then y ||| z else f2 q) q = f2 q := fun q _ hq => if_neg hq
              refine ⟨k + 1, fun q => if q = k then y ||| z else f2 q, by omega, by go_num, Lib.hid ((hR2.out.set hlk e1 e2).grew ((Grew.refl _).drew)), Lib.hid (fun x hx => ?_), (hB2.setCell hgw _).drew⟩
              by_cases hxk : x = k
              · rw [hxk, e1]; exact hos.out
              · rw [e2 x hx hxk]; exact hK2.out x hx
            case measure => simp [intOf]; omega
          | false =>
            go_wp2_with fail
            go_roundw
            case rel => exact ⟨k + 1, f2, by omega, by go_num, hR2, hK2, hB2⟩
            case measure => simp [intOf]; omega
        · obtain rfl : k = n := by omega
          go_wp2_with fail
          go_roundw
          case rel => exact ⟨j + 1, f2, by omega, by go_num, hR2, hK2, hB2⟩
          case measure => simp [intOf]; omega
    · obtain rfl : j = n := by omega
      go_wp2_with fail
      go_ret
      refine ⟨_, _, rfl, hR.out.own hgw, by simp, fun m hm => ?_, hB⟩
      rw [List.mem_map] at hm
      obtain ⟨i, hi, rfl⟩ := hm
      exact hK.out i (List.mem_range.1 hi)

theorem l05Renumber_c (v u : Value) (A O : List Nat) (w : World) (h : Ints w v (zs A)) (hu : Ints w u (zs O)) (hA : Sm A) (hO : ∀ x ∈ O, x < A.length) (hn30 : A.length ≤ 30) (ho30 : O.length ≤ 30) :
    Calls Tryz.prog 54 #[v, u] w (GivesMR w O.length) := by
  have HT := Lib.hid (fun i (hi : i < A.length) => hA.at_ hi)
  have HI := Lib.hid (fun i (hi : i < O.length) => hO _ (nt_mem hi))
  have HS := Lib.hid (fun m (hm : m < 1073741824) W (hW : Grew w W) => l05Squeeze_c u O m W (hu.grew hW) (fun x hx => by have := hO x hx; omega) ho30 hm)
  have HQ := Lib.hid (fun m => @sqK_sm m O O.length ho30)
  obtain ⟨A', c, rfl⟩ := ints_sliceN h
  obtain ⟨A2, c2, rfl⟩ := ints_sliceN hu
  have HC := Lib.hid (fun h0 => cellsN h h0)
  have HD := Lib.hid (fun h0 => cellsN hu h0)
  clear h hu hA hO
  generalize A.length = na at *
  generalize hM : O.length = n at *
  clear hM
  go_enter Tryz.func54, Tryz.ntmps54
  go_wp2_with fail
  go_loopw [5, 6] (fun s i wr => ∃ (j : Nat) (K : List Nat), j ≤ n ∧ i = .int .i64 j ∧ Hid (K.length = j) ∧ Hid (Sm K) ∧ Grew w wr ∧ OwnI wr w.heap.size s (zs K)) (fun _ i _ => n - (intOf i).toNat)
  case atStart => exact ⟨0, [], by omega, rfl, Lib.hid rfl, Lib.hid Sm.nil_, (Grew.refl _).alloc _, own_emptyI w⟩
  case round =>
    obtain ⟨j, K, hj, rfl, hK, hS, hB, hO⟩ := hrel
    by_cases hlt : j < n
    · have hi := HI.out j hlt
      obtain ⟨b, o, rfl, hcell⟩ := HD.out (by omega)
      obtain ⟨b2, o2, rfl, hcell2⟩ := HC.out (by omega)
      have k1 : ∀ W, Grew wr W → W.cell? ⟨b, o + j, none⟩ = some (.int .i64 (nt O j)) := fun W hW => hcell j hlt _ (hB.trans hW)
      have k2 : ∀ W, Grew wr W → W.cell? ⟨b2, o2 + nt O j, none⟩ = some (.int .i64 (nt A (nt O j))) := fun W hW => hcell2 _ hi _ (hB.trans hW)
      have hs := Lib.hid (fun W (hW : Grew wr W) => HS.out _ (HT.out _ hi) W (hB.trans hW))
      have hZ := Lib.hid (HQ.out (nt A (nt O j)))
      clear hcell hcell2 HC HD
      generalize nt O j = x at *
      generalize nt A x = y at *
      generalize hsq : sqK y O n = q at *
      clear hsq
      have hl : (zs K).length ≤ 1048576 := by rw [zs_len, hK.out]; omega
      obtain ⟨P, hP⟩ : ∃ P, P = zs K := ⟨_, rfl⟩
      rw [← hP] at hO hl
      have HPK := Lib.hid hP
      clear hP
      have hr0 := Grew.refl wr
      go_wp2_with fail
      refine (hs.out _ hr0).mono ?_
      rintro e w4 ⟨rfl, hg4⟩
      have hB4 := hB.trans hg4
      have hO4 := hO.grew hg4
      go_wp2_with (first
        | (at_builtin; refine wpList_appI (w0 := w) _ _ rfl rfl _ P rfl (hO4.grew ((Grew.refl _).alloc _)) (hB4.alloc _) _ (q : Int) rfl (rd_litI _ _ _) hl ?_; intro v6 w6 hown6 hB6 _))
      go_roundw
      case rel => exact ⟨j + 1, K ++ [q], by omega, by go_num, Lib.hid (by rw [List.length_append, hK.out]; rfl), Lib.hid (hS.out.app hZ.out), hB6, by rw [zs_append, zs_one, ← HPK.out]; exact hown6⟩
      case measure => simp [intOf]; omega
    · obtain rfl : j = n := by omega
      go_wp2_with fail
      go_ret
      exact ⟨_, K, rfl, hO, hK.out, hS.out, hB⟩
end Go.Proofs.YtmcbjekianclpaaGreat

/- The program's numbering anew: reordered. -/
namespace Go.Proofs.YtmcbjekianclpaaGreat
open Go.RowKit

/-- The first k members of a mask, numbered anew. -/
def prK (f : Nat → Nat) (L : List Nat) : Nat → Nat
  | 0 => 0
  | k + 1 => prK f L k ||| 2 ^ f (nt L k)
theorem prK_bit (f : Nat → Nat) (L : List Nat) : ∀ k j, (prK f L k).testBit j = true ↔ ∃ i, i < k ∧ f (nt L i) = j
  | 0, j => by
    show (0 : Nat).testBit j = true ↔ _
    rw [Nat.zero_testBit]
    constructor
    · intro h; cases h
    · rintro ⟨i, h, _⟩; omega
  | k + 1, j => by
    show (prK f L k ||| 2 ^ f (nt L k)).testBit j = true ↔ _
    rw [Nat.testBit_or, Bool.or_eq_true, prK_bit f L k j, Nat.testBit_two_pow, decide_eq_true_eq]
    constructor
    · rintro (⟨i, h1, h2⟩ | h)
      · exact ⟨i, by omega, h2⟩
      · exact ⟨k, by omega, h⟩
    · rintro ⟨i, h1, h2⟩
      by_cases hi : i = k
      · subst hi; exact .inr h2
      · exact .inl ⟨i, by omega, h2⟩
theorem prK_all {A O : List Nat} {f : Nat → Nat} {n x : Nat} (hA : Rl A) (hl : A.length = n) (hO : IsPm n O) (hf : ∀ i, i < n → f (nt O i) = i) (hx : x < n) :
    prK f (mbs (nt A x)) (mbs (nt A x)).length = sqK (nt A x) O n := by
  have hm : nt A x < 1073741824 := hA.sm.at_ (by omega)
  apply Nat.eq_of_testBit_eq
  intro j
  rw [Bool.eq_iff_iff, prK_bit, sqK_bit, Bool.and_eq_true, decide_eq_true_eq]
  constructor
  · rintro ⟨i, h1, rfl⟩
    have h2 := (mbs_mem hm).1 (nt_mem h1)
    have h3 : nt (mbs (nt A x)) i < n := by rw [← hl]; exact hA.bit (by omega) h2
    obtain ⟨k, hk, he⟩ := hO.hit h3
    rw [← he, hf k hk]
    exact ⟨hk, by rw [he]; exact h2⟩
  · rintro ⟨h1, h2⟩
    obtain ⟨i, hi, he⟩ := mem_nt ((mbs_mem hm).2 h2)
    exact ⟨i, hi, by rw [he, hf j h1]⟩
theorem prK_sm {f : Nat → Nat} {L : List Nat} (h : ∀ y ∈ L, f y < 30) : ∀ k, k ≤ L.length → prK f L k < 1073741824
  | 0, _ => by show 0 < _; omega
  | k + 1, hk => or_sm (prK_sm h k (by omega)) (pow30 (h _ (nt_mem (by omega))))

set_option maxHeartbeats 2000000 in
theorem reordered_c (v u : Value) (A O : List Nat) (w : World) (h : Ints w v (zs A)) (hu : Ints w u (zs O)) (hA : Rl A) (hO : IsPm A.length O) (hn : A.length ≤ 6) :
    Calls Tryz.prog 89 #[v, u] w (GivesI w (zs (reo A O))) := by
  have hmk := fun W => run_make_rows (P := Tryz.prog) 24 2 (.int .i64 0) 1 8 #[.int .i64 0] Tryz.underlying24 Tryz.infoI rfl .i64 .i64 A.length (by omega) (by omega) W
  rw [Nat.mul_one] at hmk
  have HNR := Lib.hid (fun W : World => (show NRow (W.alloc (.cells (madeCells #[Value.int .i64 0] A.length) 2)) W.heap.size A.length A.length (fun _ => 0) from ⟨_, blk_new W _, size_madeCells _ _, Nat.le_refl _, by omega, fun i hi => made_z hi⟩))
  have HOL := Lib.hid hO.1
  have HOI := Lib.hid (fun i (hi : i < A.length) => hO.2.2 _ (nt_mem (by rw [hO.1]; exact hi)))
  have HIN := Lib.hid (fun i j (hi : i < A.length) (hj : j < A.length) (he : nt O i = nt O j) => nodup_inj hO.2.1 (by rw [hO.1]; exact hi) (by rw [hO.1]; exact hj) he)
  have HM := Lib.hid (fun x (hx : x < A.length) => membersOf_c (nt A x) (hA.sm.at_ hx))
  have HMB := Lib.hid (fun x (hx : x < A.length) y (hy : y ∈ mbs (nt A x)) => hA.bit hx ((mbs_mem (hA.sm.at_ hx)).1 hy))
  have HPA := Lib.hid (fun (f : Nat → Nat) x (hf : ∀ i, i < A.length → f (nt O i) = i) (hx : x < A.length) => prK_all hA rfl hO hf hx)
  have HRN := Lib.hid (fun i (hi : i < A.length) => (show nt (reo A O) i = sqK (nt A (nt O i)) O A.length by rw [reo_nt (by rw [hO.1]; exact hi), hO.1]))
  have HHI := Lib.hid (fun x (hx : x < A.length) => hO.hit hx)
  have HRE : Hid (reo A O = (List.range A.length).map (nt (reo A O))) := Lib.hid (by
    apply List.ext_getElem
    · simp [reo, hO.1]
    · intro i h1 h2
      rw [nt_get h1]
      simp)
  have HOR := Lib.hid (fun a k (ha : a < 1073741824) (h : k < 30) => or_i64 a (2 ^ k) (by omega) (Nat.lt_trans (pow30 h) (by omega)))
  have HMC := Lib.hid (fun x (hx : x < A.length) => mbs_len (nt A x))
  obtain ⟨A1, c1, rfl⟩ := ints_sliceN h
  obtain ⟨A2, c2, rfl⟩ := ints_sliceN hu
  have HC := Lib.hid (fun h0 => cellsN h h0)
  have HD := Lib.hid (fun h0 => cellsN hu h0)
  rw [hO.1] at HD ⊢
  clear h hu hA hO
  generalize hnn : A.length = n at *
  clear hnn
  generalize reo A O = R at *
  generalize madeCells #[Value.int .i64 0] n = cur0 at *
  go_enter Tryz.func89, Tryz.ntmps89
  go_wp2_with fail
  have hg1 := (Grew.refl w).alloc (.cells cur0 2)
  have HR1 := Lib.hid (HNR.out w)
  go_loopw [6, 7, 18] (fun _ _ i wr => ∃ (k : Nat) (f : Nat → Nat), k ≤ n ∧ i = .int .i64 k ∧ Hid (NRow wr w.heap.size n n f) ∧ Hid (∀ j, j < k → f (nt O j) = j) ∧ Grew w wr) (fun _ _ i _ => n - (intOf i).toNat)
  case atStart => exact ⟨0, _, by omega, rfl, HR1, Lib.hid (fun j hj => absurd hj (by omega)), hg1⟩
  clear HR1 hg1
  case round =>
    obtain ⟨k, f, hk, rfl, hR, hK, hB⟩ := hrel
    by_cases hlt : k < n
    · obtain ⟨b, o, rfl, hcell⟩ := HD.out (by omega)
      have k1 := hcell k hlt _ hB
      have hx := HOI.out k hlt
      have c4 := hR.out.cell hx
      have f4 := hR.out.free (nt O k)
      have e1 : (fun q => if q = nt O k then k else f q) (nt O k) = k := if_pos rfl
      have e2 : ∀ q, q < n → q ≠ nt O k → (fun q => if q = nt O k then k else f q) q = f q := fun q _ hq => if_neg hq
      have hR2 := Lib.hid (hR.out.set hx e1 e2)
      have hK2 : Hid (∀ j, j < k + 1 → (fun q => if q = nt O k then k else f q) (nt O j) = j) := Lib.hid (fun j hj => by
        by_cases hjk : j = k
        · subst hjk; exact if_pos rfl
        · have hne : nt O j ≠ nt O k := fun he => hjk (HIN.out j k (by omega) hlt he)
          show (if nt O j = nt O k then k else f (nt O j)) = j
          rw [if_neg hne]
          exact hK.out j (by omega))
      clear e1 e2 hcell
      generalize nt O k = x at *
      go_wp2_with fail
      go_roundw
      case rel => exact ⟨k + 1, _, by omega, by go_num, hR2, hK2, hB.setCell (Nat.le_refl _) _⟩
      case measure => simp [intOf]; omega
    · obtain rfl : k = n := by omega
      have HF := Lib.hid hK.out
      have HR0 := Lib.hid hR.out
      clear hR hK
      generalize wr = wm at *
      have hgm := (Grew.refl wm).alloc (.cells cur0 2)
      have HR1 := Lib.hid (HNR.out wm)
      have HR2 := Lib.hid (HR0.out.grew hgm)
      have hBm := hB.trans hgm
      have hgo := HR0.out.lt
      go_wp2_with fail
      go_loopw [9, 10, 12, 33, 42, 43, 44] (fun _ _ _ i _ _ _ wr => ∃ (j : Nat) (g : Nat → Nat), j ≤ k ∧ i = .int .i64 j ∧ Hid (NRow wr wm.heap.size k k g) ∧ Hid (∀ q, q < j → g q = nt R q) ∧ Hid (∀ q, j ≤ q → q < k → g q = 0) ∧ Hid (NRow wr w.heap.size k k f) ∧ Grew w wr) (fun _ _ _ i _ _ _ _ => k - (intOf i).toNat)
      case atStart => exact ⟨0, _, by omega, rfl, HR1, Lib.hid (fun q hq => absurd hq (by omega)), Lib.hid (fun q _ _ => rfl), HR2, hBm⟩
      clear HR1 HR2 hgm hBm
      case round =>
        obtain ⟨j, g, hj, rfl, hG, hgA, hgZ, hT, hB2⟩ := hrel
        by_cases hlj : j < k
        · obtain ⟨b, o, rfl, hcell⟩ := HD.out (by omega)
          have k1 := hcell j hlj _ hB2
          have hx := HOI.out j hlj
          obtain ⟨b2, o2, rfl, hcell2⟩ := HC.out (by omega)
          have k2 := hcell2 _ hx _ hB2
          have hM := Lib.hid (HM.out _ hx)
          have hMB := Lib.hid (HMB.out _ hx)
          have hPA := Lib.hid (HPA.out f _ HF.out hx)
          have hRN := Lib.hid (HRN.out j hlj)
          have hml := HMC.out _ hx
          have hFL := Lib.hid (fun y (hy : y ∈ mbs (nt A (nt O j))) => (show f y < k by obtain ⟨i, hi, he⟩ := HHI.out y (hMB.out y hy); rw [← he, HF.out i hi]; exact hi))
          clear hcell hcell2
          generalize nt O j = x at *
          generalize nt A x = m at *
          go_wp2_with fail
          refine (hM.out _).mono ?_
          rintro e w4 ⟨v4, rfl, hO4, hg4⟩
          obtain ⟨A4, c4, rfl⟩ := ints_sliceN hO4.ints
          have hlw0 := hG.out.lt
          have HE := Lib.hid (fun h0 => cellsO hO4 h0)
          have hB4 := hB2.trans hg4
          have hlw := hG.out.lt
          have hG4 : Hid (NRow w4 wm.heap.size k k (fun q => if q = j then prK f (mbs m) 0 else g q)) := Lib.hid (by
            have h0 := hG.out.grew hg4
            obtain ⟨cur, q1, q2, q3, q4, q5⟩ := h0
            refine ⟨cur, q1, q2, q3, q4, fun i hi => ?_⟩
            rw [q5 i hi]
            by_cases hij : i = j
            · subst hij
              rw [hgZ.out i (Nat.le_refl _) hi]
              simp [prK]
            · simp [hij])
          have hT4 := Lib.hid (hT.out.grew hg4)
          have hwg := hO4.lt
          clear hO4 hG hT
          generalize hLL : mbs m = L at *
          clear hLL
          generalize hNL : L.length = nl at *
          have HNL := Lib.hid hNL
          clear hNL
          generalize wr = wi at *
          go_wp2_with fail
          go_loopw [12, 44] (fun _ i wr => ∃ q : Nat, q ≤ nl ∧ i = .int .i64 q ∧ Hid (NRow wr wm.heap.size k k (fun z => if z = j then prK f L q else g z)) ∧ Hid (NRow wr w.heap.size k k f) ∧ Only wm.heap.size w4 wr) (fun _ i _ => nl - (intOf i).toNat)
          case atStart => exact ⟨0, by omega, rfl, hG4, hT4, Only.refl _ _⟩
          clear hG4 hT4
          case round =>
            obtain ⟨q, hq, rfl, hG5, hT5, hU5⟩ := hrel
            by_cases hlq : q < nl
            · obtain ⟨b4, rfl, hb4, hb4w, hc4⟩ := HE.out (by omega)
              have hne : b4 ≠ wm.heap.size := by omega
              have k4 := (hU5.cell (p := ⟨b4, q, none⟩) hb4w hne).trans (hc4 q (by omega))
              have hyL : nt L q ∈ L := nt_mem (by rw [HNL.out]; exact hlq)
              have hyk := hMB.out _ hyL
              have hfy := hFL.out _ hyL
              have hsm : prK f L q < 1073741824 := prK_sm (fun y hy => by have := hFL.out y hy; omega) q (by rw [HNL.out]; exact hq)
              have ho := HOR.out (prK f L q) (f (nt L q)) hsm (by omega)
              have hp := wrap_pow (k := f (nt L q)) (by omega)
              have hst : Hid (prK f L (q + 1) = prK f L q ||| 2 ^ f (nt L q)) := Lib.hid rfl
              have c1 : ∀ W, Grew wr W → W.cell? ⟨wm.heap.size, j, none⟩ = some (.int .i64 ((prK f L q : Nat) : Int)) := fun W hW => by
                have h0 := (hG5.out.grew hW).cell hlj
                rw [if_pos rfl] at h0
                exact h0
              have c2 : ∀ W, Grew wr W → W.cell? ⟨w.heap.size, nt L q, none⟩ = some (.int .i64 ((f (nt L q) : Nat) : Int)) := fun W hW => (hT5.out.grew hW).cell hyk
              have c3 : ∀ W, Grew wr W → W.frozen? ⟨wm.heap.size, j, none⟩ = false := fun W hW => (hG5.out.grew hW).free j
              have e1 : (fun z => if z = j then prK f L (q + 1) else g z) j = prK f L (q + 1) := if_pos rfl
              have e2 : ∀ z, z < k → z ≠ j → (fun z => if z = j then prK f L (q + 1) else g z) z = (fun z => if z = j then prK f L q else g z) z := fun z _ hz => by
                show (if z = j then prK f L (q + 1) else g z) = (if z = j then prK f L q else g z)
                rw [if_neg hz, if_neg hz]
              have hG6 := (hG5.out.set hlj e1 e2).grew (Grew.refl _).drew
              rw [hst.out] at hG6
              have hU6 : Only wm.heap.size w4 (wr.setCell ⟨wm.heap.size, j, none⟩ (.int .i64 ((prK f L (q + 1) : Nat) : Int))).drew := (hU5.setCell _).drew
              have hwne : w.heap.size ≠ wm.heap.size := by omega
              have hT6 : NRow (wr.setCell ⟨wm.heap.size, j, none⟩ (.int .i64 ((prK f L (q + 1) : Nat) : Int))).drew w.heap.size k k f := by
                obtain ⟨cur, z1, z2⟩ := hT5.out
                exact ⟨cur, (Below.heap_setCell wr ⟨wm.heap.size, j, none⟩ _ _ hwne).trans z1, z2⟩
              rw [hst.out] at hU6 hT6
              have HX := Lib.hid (And.intro hG6 (And.intro hU6 hT6))
              have i1 : (0 : Int) ≤ (j : Int) := by omega
              have i2 : (j : Int) < (k : Int) := by omega
              have i3 : (0 : Int) ≤ ((nt L q : Nat) : Int) := by omega
              have i4 : ((nt L q : Nat) : Int) < (k : Int) := by omega
              have r1 := Grew.refl wr
              have r2 := (Grew.refl wr).drew
              have HST := Lib.hid hst.out
              clear e1 e2 hG6 hU6 hT6 hst hc4 hyL hsm
              generalize nt L q = y at *
              generalize f y = fy at *
              obtain ⟨P, hP⟩ : ∃ P, P = 2 ^ fy := ⟨_, rfl⟩
              rw [← hP] at ho hp HX HST
              clear hP
              generalize prK f L q = pr at *
              go_wp2_with fail
              go_region
              go_wp2_with fail
              go_roundw
              case rel => exact ⟨q + 1, by omega, by go_num, Lib.hid (by rw [HST.out]; exact HX.out.1), Lib.hid HX.out.2.2, HX.out.2.1⟩
              case measure => simp [intOf]; omega
            · obtain rfl : q = nl := by omega
              have hB5 := hU5.grew_of hB4 (by have := hB.size; omega)
              have hj1 : Hid (∀ z, z < j + 1 → (fun z => if z = j then prK f L q else g z) z = nt R z) := Lib.hid (fun z hz => by
                show (if z = j then prK f L q else g z) = nt R z
                by_cases hzj : z = j
                · rw [if_pos hzj, hzj, hRN.out, ← hPA.out]
                · rw [if_neg hzj]
                  exact hgA.out z (by omega))
              have hj2 : Hid (∀ z, j + 1 ≤ z → z < k → (fun z => if z = j then prK f L q else g z) z = 0) := Lib.hid (fun z h1 h2 => by
                show (if z = j then prK f L q else g z) = 0
                rw [if_neg (by omega)]
                exact hgZ.out z (by omega) h2)
              go_wp2_with fail
              go_roundw
              case rel => exact ⟨j + 1, _, by omega, by go_num, hG5, hj1, hj2, hT5, hB5⟩
              case measure => simp [intOf]; omega
        · obtain rfl : j = k := by omega
          have hRR : Hid ((List.range j).map g = R) := Lib.hid (by
            rw [HRE.out]
            refine List.map_congr_left fun i hi => ?_
            exact hgA.out i (List.mem_range.1 hi))
          go_wp2_with fail
          go_ret
          refine ⟨_, rfl, ?_, hB2⟩
          rw [← hRR.out]
          exact hG.out.own hB.size
end Go.Proofs.YtmcbjekianclpaaGreat

/- The source of the drawn inputs: l01Next. -/
namespace Go.Proofs.YtmcbjekianclpaaGreat
open Go.RowKit

/-- The bytes that the source reads, in a block before block g. -/
def Code (w : World) (g : Nat) (v : Value) (N : Nat) : Prop :=
  N ≤ 4096 ∧ (∃ A c, v = .slice A N c) ∧ (0 < N → ∃ b o c, v = .slice (some ⟨b, o, none⟩) N c ∧ b < g ∧ N ≤ c ∧ c ≤ 9223372036854775807 ∧ ∀ j, j < N → ∃ x : Int, 0 ≤ x ∧ x ≤ 255 ∧ w.cell? ⟨b, o + j, none⟩ = some (.int .u8 x))
theorem Code.only {w w' : World} {g : Nat} {v : Value} {N : Nat} (h : Code w g v N) (hg : g < w.heap.size) (ho : Only g w w') : Code w' g v N := by
  obtain ⟨h1, h2, h3⟩ := h
  refine ⟨h1, h2, fun hp => ?_⟩
  obtain ⟨b, o, c, e, hb, hc, hm, hx⟩ := h3 hp
  refine ⟨b, o, c, e, hb, hc, hm, fun j hj => ?_⟩
  obtain ⟨x, x0, x1, hcell⟩ := hx j hj
  exact ⟨x, x0, x1, (ho.cell (p := ⟨b, o + j, none⟩) (by show b < _; omega) (by show b ≠ g; omega)).trans hcell⟩

theorem small_hash (X : Int) (h0 : 0 ≤ X) (h1 : X ≤ 18446744073709551615) : 0 ≤ wrap64 (bits .and .u64 (X / 8589934592) 16777215) ∧ wrap64 (bits .and .u64 (X / 8589934592) 16777215) ≤ 16777215 := by
  have h := bits_mask .u64 63 (by decide) Go.ConcN.wraps_u64_63 24 (by decide) (X / 8589934592) (by omega) (by omega)
  have e : ((2 : Int) ^ 24 - 1) = 16777215 := by decide
  have e2 : ((2 : Int) ^ 24) = 16777216 := by decide
  rw [e, e2] at h
  rw [h]
  unfold wrap64
  omega

end Go.Proofs.YtmcbjekianclpaaGreat

/- The plain parser: how far it comes, how many nodes it makes, which byte is next. No program is in sight. -/
namespace Go.Proofs.YtmcbjekianclpaaGreat
namespace Fm

theorem sees_eq {s : List UInt8} {st : St} {c : UInt8} (h : sees s st c = true) : st.2 = false ∧ s[st.1]? = some c := by
  unfold sees at h
  simp only [Bool.and_eq_true, Bool.not_eq_true', beq_iff_eq] at h
  exact h
theorem sees_lt {s : List UInt8} {st : St} {c : UInt8} (h : sees s st c = true) : st.1 < s.length := by
  have := (sees_eq h).2
  rcases Nat.lt_or_ge st.1 s.length with h1 | h1
  · exact h1
  · rw [List.getElem?_eq_none h1] at this; cases this
theorem sees_other {s : List UInt8} {st : St} {c d : UInt8} (h : sees s st c = true) (hne : c ≠ d) : sees s st d = false := by
  obtain ⟨h1, h2⟩ := sees_eq h
  unfold sees
  rw [h1, h2]
  simp [hne]
theorem letter_some {s : List UInt8} {st : St} {v : Nat} (h : letter s st = some v) : v < 6 ∧ sees s st (UInt8.ofNat (112 + v)) = true := by
  unfold letter at h
  split at h
  · cases h
  · rename_i hb
    have hb' : st.2 = false := by simpa using hb
    split at h
    · rename_i c hc
      split at h
      · rename_i hr
        injection h with h
        subst h
        refine ⟨by omega, ?_⟩
        unfold sees
        have e : UInt8.ofNat (112 + (c.toNat - 112)) = c := by
          apply UInt8.toNat_inj.1
          rw [UInt8.toNat_ofNat']
          omega
        rw [hb', hc, e]
        simp
      · cases h
    · cases h
theorem letter_of_sees {s : List UInt8} {st : St} {v : Nat} (hv : v < 6) (h : sees s st (UInt8.ofNat (112 + v)) = true) : letter s st = some v := by
  obtain ⟨h1, h2⟩ := sees_eq h
  unfold letter
  rw [h1, h2]
  have e : (UInt8.ofNat (112 + v)).toNat = 112 + v := by rw [UInt8.toNat_ofNat']; omega
  simp only [e]
  rw [if_neg (by simp), if_pos (by omega)]
  congr 1
  omega
theorem letter_none {s : List UInt8} {st : St} (h : letter s st = none) (v : Nat) (hv : v < 6) : sees s st (UInt8.ofNat (112 + v)) = false := by
  cases hs : sees s st (UInt8.ofNat (112 + v)) with
  | false => rfl
  | true => rw [letter_of_sees hv hs] at h; cases h
theorem letter_ne {s : List UInt8} {st : St} {v i : Nat} (h : letter s st = some v) (hi : i < 6) (hne : i ≠ v) : sees s st (UInt8.ofNat (112 + i)) = false := by
  cases hs : sees s st (UInt8.ofNat (112 + i)) with
  | false => rfl
  | true => rw [letter_of_sees hi hs] at h; injection h with h; exact absurd h hne
theorem letter_of_other {s : List UInt8} {st : St} {c : UInt8} (h : sees s st c = true) (hc : c.toNat < 112 ∨ 117 < c.toNat) : letter s st = none := by
  obtain ⟨h1, h2⟩ := sees_eq h
  unfold letter
  rw [h1, h2]
  simp only
  rw [if_neg (by simp), if_neg (by omega)]

/-- A result that does not run backwards or over the end, and is not too long. -/
def Ok (s : List UInt8) (st : St) (r : Res) : Prop := st.1 ≤ r.2.1 ∧ r.2.1 ≤ s.length ∧ r.1.length ≤ 3 * (r.2.1 - st.1) + 1

theorem need_pos {s : List UInt8} {st : St} {c : UInt8} (h : st.1 ≤ s.length) : st.1 ≤ (need s st c).1 ∧ (need s st c).1 ≤ s.length := by
  unfold need
  split
  · rename_i hs
    have := sees_lt hs
    simp only [step]
    omega
  · exact ⟨Nat.le_refl _, h⟩

theorem loop_ok {s : List UInt8} {k : Int} {c : UInt8} {sub : St → Res} (hsub : ∀ st, st.1 ≤ s.length → Ok s st (sub st)) : ∀ (m : Nat) (a : List Nd) (st st0 : St), st0.1 ≤ st.1 → st.1 ≤ s.length → a.length ≤ 3 * (st.1 - st0.1) + 1 → Ok s st0 (loop s k c sub m a st) := by
  intro m
  induction m with
  | zero => intro a st st0 h1 h2 h3; exact ⟨h1, h2, h3⟩
  | succ m ih =>
    intro a st st0 h1 h2 h3
    unfold loop
    split
    · rename_i hs
      have hlt := sees_lt hs
      have h := hsub (step st) (by simp only [step]; omega)
      obtain ⟨g1, g2, g3⟩ := h
      simp only [step] at g1 g2 g3
      refine ih _ _ st0 (by simp only [step]; omega) (by simp only [step]; omega) ?_
      simp only [join, List.length_cons, List.length_append, step]
      omega
    · exact ⟨h1, h2, h3⟩

theorem andF_ok {s : List UInt8} {m : Nat} {sub : St → Res} (hsub : ∀ st, st.1 ≤ s.length → Ok s st (sub st)) (st : St) (h : st.1 ≤ s.length) : Ok s st (andF s m sub st) := by
  obtain ⟨g1, g2, g3⟩ := hsub st h
  exact loop_ok hsub m _ _ st g1 g2 g3
theorem orF_ok {s : List UInt8} {m : Nat} {sub : St → Res} (hsub : ∀ st, st.1 ≤ s.length → Ok s st (sub st)) (st : St) (h : st.1 ≤ s.length) : Ok s st (orF s m sub st) := by
  obtain ⟨g1, g2, g3⟩ := andF_ok (m := m) hsub st h
  exact loop_ok (fun st h => andF_ok hsub st h) m _ _ st g1 g2 g3
theorem impF_ok {s : List UInt8} {m : Nat} {sub : St → Res} (hsub : ∀ st, st.1 ≤ s.length → Ok s st (sub st)) : ∀ (i : Nat) (st : St), st.1 ≤ s.length → Ok s st (impF s m sub i st) := by
  intro i
  induction i with
  | zero => intro st h; exact orF_ok hsub st h
  | succ i ih =>
    intro st h
    unfold impF
    obtain ⟨g1, g2, g3⟩ := orF_ok (m := m) hsub st h
    dsimp only
    split
    · rename_i hs
      have hlt := sees_lt hs
      obtain ⟨k1, k2, k3⟩ := ih (step (orF s m sub st).2) (by simp only [step]; omega)
      simp only [step] at k1 k2 k3
      refine ⟨by simp only [step]; omega, by simp only [step]; omega, ?_⟩
      simp only [join, List.length_cons, List.length_append, step]
      omega
    · exact ⟨g1, g2, g3⟩
theorem preF_ok {s : List UInt8} {m : Nat} : ∀ (f : Nat) (st : St), st.1 ≤ s.length → Ok s st (preF s m f st) := by
  intro f
  induction f with
  | zero => intro st h; exact ⟨Nat.le_refl _, h, by simp [preF, falsum]⟩
  | succ f ih =>
    intro st h
    unfold preF
    split
    · rename_i hs
      have hlt := sees_lt hs
      obtain ⟨k1, k2, k3⟩ := ih (step st) (by simp only [step]; omega)
      simp only [step] at k1 k2 k3
      refine ⟨by simp only [step]; omega, by simp only [step]; omega, ?_⟩
      simp only [neg, join, falsum, List.length_cons, List.length_append, List.length_nil, step]
      omega
    split
    · rename_i hs
      have hlt := sees_lt hs
      obtain ⟨n1, n2⟩ := need_pos (s := s) (st := step st) (c := 93) (by simp only [step]; omega)
      obtain ⟨k1, k2, k3⟩ := ih (need s (step st) 93) n2
      have e : (step st).1 = st.1 + 1 := rfl
      refine ⟨by simp only; omega, by simp only; omega, ?_⟩
      simp only [pre, List.length_cons]
      omega
    split
    · rename_i hs
      have hlt := sees_lt hs
      obtain ⟨n1, n2⟩ := need_pos (s := s) (st := step st) (c := 62) (by simp only [step]; omega)
      obtain ⟨k1, k2, k3⟩ := ih (need s (step st) 62) n2
      have e : (step st).1 = st.1 + 1 := rfl
      refine ⟨by simp only; omega, by simp only; omega, ?_⟩
      simp only [pre, List.length_cons]
      omega
    split
    · rename_i hs
      have hlt := sees_lt hs
      exact ⟨by simp only [step]; omega, by simp only [step]; omega, by simp [falsum]⟩
    split
    · rename_i hs
      have hlt := sees_lt hs
      exact ⟨by simp only [step]; omega, by simp only [step]; omega, by simp only [truth, step, List.length_cons, List.length_nil]; omega⟩
    split
    · rename_i hs
      have hlt := sees_lt hs
      obtain ⟨k1, k2, k3⟩ := impF_ok (m := m) ih m (step st) (by simp only [step]; omega)
      obtain ⟨n1, n2⟩ := need_pos (s := s) (st := (impF s m (preF s m f) m (step st)).2) (c := 41) k2
      have e : (step st).1 = st.1 + 1 := rfl
      refine ⟨by simp only; omega, n2, ?_⟩
      simp only
      omega
    split
    · rename_i v hv
      have hlt := sees_lt (letter_some hv).2
      exact ⟨by simp only [step]; omega, by simp only [step]; omega, by simp [vari]⟩
    · exact ⟨Nat.le_refl _, h, by simp [falsum]⟩

theorem parse_ok (s : List UInt8) (m : Nat) : Ok s (0, false) (parse s m) := impF_ok (fun st h => preF_ok m st h) m (0, false) (by simp)

theorem preF_not {s : List UInt8} {m f : Nat} {st : St} (h : sees s st 126 = true) : preF s m (f + 1) st = (neg (preF s m f (step st)).1, (preF s m f (step st)).2) := by
  rw [preF, if_pos h]
theorem preF_box {s : List UInt8} {m f : Nat} {st : St} (h : sees s st 91 = true) : preF s m (f + 1) st = (pre 5 (preF s m f (need s (step st) 93)).1, (preF s m f (need s (step st) 93)).2) := by
  rw [preF, if_neg (by rw [sees_other h (by decide)]; decide), if_pos h]
theorem preF_dia {s : List UInt8} {m f : Nat} {st : St} (h : sees s st 60 = true) : preF s m (f + 1) st = (pre 6 (preF s m f (need s (step st) 62)).1, (preF s m f (need s (step st) 62)).2) := by
  rw [preF, if_neg (by rw [sees_other h (by decide)]; decide), if_neg (by rw [sees_other h (by decide)]; decide), if_pos h]
theorem preF_fls {s : List UInt8} {m f : Nat} {st : St} (h : sees s st 70 = true) : preF s m (f + 1) st = (falsum, step st) := by
  rw [preF, if_neg (by rw [sees_other h (by decide)]; decide), if_neg (by rw [sees_other h (by decide)]; decide), if_neg (by rw [sees_other h (by decide)]; decide), if_pos h]
theorem preF_tru {s : List UInt8} {m f : Nat} {st : St} (h : sees s st 84 = true) : preF s m (f + 1) st = (truth, step st) := by
  rw [preF, if_neg (by rw [sees_other h (by decide)]; decide), if_neg (by rw [sees_other h (by decide)]; decide), if_neg (by rw [sees_other h (by decide)]; decide), if_neg (by rw [sees_other h (by decide)]; decide), if_pos h]
theorem preF_par {s : List UInt8} {m f : Nat} {st : St} (h : sees s st 40 = true) : preF s m (f + 1) st = ((impF s m (preF s m f) m (step st)).1, need s (impF s m (preF s m f) m (step st)).2 41) := by
  rw [preF, if_neg (by rw [sees_other h (by decide)]; decide), if_neg (by rw [sees_other h (by decide)]; decide), if_neg (by rw [sees_other h (by decide)]; decide), if_neg (by rw [sees_other h (by decide)]; decide), if_neg (by rw [sees_other h (by decide)]; decide), if_pos h]
theorem sees_low {s : List UInt8} {st : St} {v : Nat} {c : UInt8} (h : letter s st = some v) (hc : c.toNat < 112 ∨ 117 < c.toNat) : sees s st c = false := by
  refine sees_other (letter_some h).2 fun e => ?_
  have := (letter_some h).1
  have h2 : (UInt8.ofNat (112 + v)).toNat = 112 + v := by rw [UInt8.toNat_ofNat']; omega
  rw [e] at h2
  omega
theorem preF_var {s : List UInt8} {m f : Nat} {st : St} {v : Nat} (h : letter s st = some v) : preF s m (f + 1) st = (vari v, step st) := by
  rw [preF, if_neg (by rw [sees_low h (by decide)]; decide), if_neg (by rw [sees_low h (by decide)]; decide), if_neg (by rw [sees_low h (by decide)]; decide), if_neg (by rw [sees_low h (by decide)]; decide), if_neg (by rw [sees_low h (by decide)]; decide), if_neg (by rw [sees_low h (by decide)]; decide), h]
theorem preF_bad {s : List UInt8} {m f : Nat} {st : St} (h1 : sees s st 126 = false) (h2 : sees s st 91 = false) (h3 : sees s st 60 = false) (h4 : sees s st 70 = false) (h5 : sees s st 84 = false) (h6 : sees s st 40 = false) (h : letter s st = none) : preF s m (f + 1) st = (falsum, (st.1, true)) := by
  rw [preF, if_neg (by rw [h1]; decide), if_neg (by rw [h2]; decide), if_neg (by rw [h3]; decide), if_neg (by rw [h4]; decide), if_neg (by rw [h5]; decide), if_neg (by rw [h6]; decide), h]
theorem impF_yes {s : List UInt8} {m i : Nat} {sub : St → Res} {st : St} (h : sees s (orF s m sub st).2 62 = true) : impF s m sub (i + 1) st = (join 4 (orF s m sub st).1 (impF s m sub i (step (orF s m sub st).2)).1, (impF s m sub i (step (orF s m sub st).2)).2) := by
  rw [impF]; dsimp only; rw [if_pos h]
theorem impF_no {s : List UInt8} {m i : Nat} {sub : St → Res} {st : St} (h : sees s (orF s m sub st).2 62 = false) : impF s m sub (i + 1) st = orF s m sub st := by
  rw [impF]; dsimp only; rw [if_neg (by rw [h]; decide)]

end Fm
end Go.Proofs.YtmcbjekianclpaaGreat

/- Formulas as trees, their lists of nodes and their texts. No program is in sight. -/
namespace Go.Proofs.YtmcbjekianclpaaGreat
namespace Fm

inductive Tree where
  | var (v : Fin 6)
  | fls
  | and (a b : Tree)
  | or (a b : Tree)
  | imp (a b : Tree)
  | box (a : Tree)
  | dia (a : Tree)

/-- The list of the nodes. -/
def enc : Tree → List Nd
  | .var v => [(0, (v.val : Int))]
  | .fls => [(1, 0)]
  | .and a b => (2, 0) :: (enc a ++ enc b)
  | .or a b => (3, 0) :: (enc a ++ enc b)
  | .imp a b => (4, 0) :: (enc a ++ enc b)
  | .box a => (5, 0) :: enc a
  | .dia a => (6, 0) :: enc a

theorem enc_pos (t : Tree) : 1 ≤ (enc t).length := by cases t <;> simp [enc]

def isF : Tree → Bool
  | .fls => true
  | _ => false
theorem isF_eq {t : Tree} (h : isF t = true) : t = .fls := by cases t <;> simp_all [isF]

/-- How many parts the nodes of a kind have. -/
def arity (k : Int) : Nat := if k = 2 ∨ k = 3 ∨ k = 4 then 2 else if k = 5 ∨ k = 6 then 1 else 0
theorem arity_le (k : Int) : arity k ≤ 2 := by unfold arity; split; omega; split <;> omega

/-- How many nodes are read till no part is open. -/
def scan : List Nd → Nat → Option Nat
  | _, 0 => some 0
  | [], _ + 1 => none
  | x :: xs, o + 1 => (scan xs (o + arity x.1)).map (· + 1)

theorem scan_zero (xs : List Nd) : scan xs 0 = some 0 := by cases xs <;> rfl
theorem scan_nil (o : Nat) : scan [] (o + 1) = none := rfl
theorem scan_cons (x : Nd) (xs : List Nd) (o : Nat) : scan (x :: xs) (o + 1) = (scan xs (o + arity x.1)).map (· + 1) := rfl

theorem scan_enc (t : Tree) : ∀ (rest : List Nd) (o : Nat), scan (enc t ++ rest) (o + 1) = (scan rest o).map (· + (enc t).length) := by
  induction t with
  | var v => intro rest o; simp [enc, scan_cons, arity]
  | fls => intro rest o; simp [enc, scan_cons, arity]
  | and a b iha ihb =>
    intro rest o
    simp only [enc, List.cons_append, scan_cons, List.append_assoc]
    rw [show arity 2 = 2 from rfl, show o + 2 = (o + 1) + 1 from rfl, iha, ihb]
    cases scan rest o <;> simp; omega
  | or a b iha ihb =>
    intro rest o
    simp only [enc, List.cons_append, scan_cons, List.append_assoc]
    rw [show arity 3 = 2 from rfl, show o + 2 = (o + 1) + 1 from rfl, iha, ihb]
    cases scan rest o <;> simp; omega
  | imp a b iha ihb =>
    intro rest o
    simp only [enc, List.cons_append, scan_cons, List.append_assoc]
    rw [show arity 4 = 2 from rfl, show o + 2 = (o + 1) + 1 from rfl, iha, ihb]
    cases scan rest o <;> simp; omega
  | box a iha =>
    intro rest o
    simp only [enc, List.cons_append, scan_cons]
    rw [show arity 5 = 1 from rfl, iha]
    cases scan rest o <;> simp; omega
  | dia a iha =>
    intro rest o
    simp only [enc, List.cons_append, scan_cons]
    rw [show arity 6 = 1 from rfl, iha]
    cases scan rest o <;> simp; omega
theorem scan_one (t : Tree) (rest : List Nd) : scan (enc t ++ rest) 1 = some (enc t).length := by
  rw [scan_enc t rest 0, scan_zero]; simp
theorem scan_le : ∀ (xs : List Nd) (o n : Nat), scan xs o = some n → n ≤ xs.length := by
  intro xs
  induction xs with
  | nil => intro o n h; cases o with
    | zero => simp [scan_zero] at h; omega
    | succ o => simp [scan_nil] at h
  | cons x xs ih => intro o n h; cases o with
    | zero => simp [scan_zero] at h; omega
    | succ o =>
      rw [scan_cons] at h
      cases hs : scan xs (o + arity x.1) with
      | none => rw [hs] at h; simp at h
      | some m => rw [hs] at h; simp at h; have := ih _ _ hs; simp; omega

/-- The level of the grammar at which a text stands. -/
def own : Tree → Nat
  | .and _ _ => 2
  | .or _ _ => 1
  | .imp _ b => if isF b then 3 else 0
  | _ => 3
def wrap (l o : Nat) (s : List UInt8) : List UInt8 := if o < l then [40] ++ s ++ [41] else s
/-- The text at a level. -/
def txt : Tree → Nat → List UInt8
  | .var v, _ => [UInt8.ofNat (112 + v.val)]
  | .fls, _ => [70]
  | .and a b, l => wrap l 2 (txt a 2 ++ [38] ++ txt b 3)
  | .or a b, l => wrap l 1 (txt a 1 ++ [124] ++ txt b 2)
  | .imp a b, l => if isF b then (if isF a then [84] else [126] ++ txt a 3) else wrap l 0 (txt a 1 ++ [62] ++ txt b 0)
  | .box a, _ => [91, 93] ++ txt a 3
  | .dia a, _ => [60, 62] ++ txt a 3

theorem wrap_len (l o : Nat) (s : List UInt8) : (wrap l o s).length ≤ s.length + 2 := by
  unfold wrap; split <;> simp
theorem txt_len (t : Tree) : ∀ l, (txt t l).length ≤ 4 * (enc t).length := by
  induction t with
  | var v => intro l; simp [txt, enc]
  | fls => intro l; simp [txt, enc]
  | and a b iha ihb =>
    intro l
    have := wrap_len l 2 (txt a 2 ++ [38] ++ txt b 3)
    have h1 := iha 2
    have h2 := ihb 3
    simp only [txt, enc, List.length_cons, List.length_append, List.length_nil] at *
    omega
  | or a b iha ihb =>
    intro l
    have := wrap_len l 1 (txt a 1 ++ [124] ++ txt b 2)
    have h1 := iha 1
    have h2 := ihb 2
    simp only [txt, enc, List.length_cons, List.length_append, List.length_nil] at *
    omega
  | imp a b iha ihb =>
    intro l
    have := wrap_len l 0 (txt a 1 ++ [62] ++ txt b 0)
    have h1 := iha 1
    have h2 := ihb 0
    have h3 := iha 3
    have h4 := enc_pos a
    simp only [txt]
    split
    · split
      · simp [enc]; omega
      · simp only [enc, List.length_cons, List.length_append, List.length_nil]; omega
    · simp only [enc, List.length_cons, List.length_append, List.length_nil] at *; omega
  | box a iha =>
    intro l
    have h3 := iha 3
    simp only [txt, enc, List.length_cons, List.length_append, List.length_nil]; omega
  | dia a iha =>
    intro l
    have h3 := iha 3
    simp only [txt, enc, List.length_cons, List.length_append, List.length_nil]; omega

theorem arity_enc (t : Tree) : ∃ x rest, enc t = x :: rest := by cases t <;> exact ⟨_, _, rfl⟩

/-- Every list that the parser makes is that of a tree. -/
def IsEnc (xs : List Nd) : Prop := ∃ t, xs = enc t
theorem isEnc_join {k : Int} {a b : List Nd} (hk : k = 2 ∨ k = 3 ∨ k = 4) (ha : IsEnc a) (hb : IsEnc b) : IsEnc (join k a b) := by
  obtain ⟨s, rfl⟩ := ha
  obtain ⟨t, rfl⟩ := hb
  rcases hk with rfl | rfl | rfl
  · exact ⟨.and s t, rfl⟩
  · exact ⟨.or s t, rfl⟩
  · exact ⟨.imp s t, rfl⟩
theorem isEnc_pre {k : Int} {a : List Nd} (hk : k = 5 ∨ k = 6) (ha : IsEnc a) : IsEnc (pre k a) := by
  obtain ⟨s, rfl⟩ := ha
  rcases hk with rfl | rfl
  · exact ⟨.box s, rfl⟩
  · exact ⟨.dia s, rfl⟩
theorem isEnc_falsum : IsEnc falsum := ⟨.fls, rfl⟩
theorem loop_enc {s : List UInt8} {k : Int} {c : UInt8} {sub : St → Res} (hk : k = 2 ∨ k = 3 ∨ k = 4) (hsub : ∀ st, IsEnc (sub st).1) : ∀ (m : Nat) (a : List Nd) (st : St), IsEnc a → IsEnc (loop s k c sub m a st).1 := by
  intro m
  induction m with
  | zero => intro a st h; exact h
  | succ m ih =>
    intro a st h
    unfold loop
    split
    · exact ih _ _ (isEnc_join hk h (hsub _))
    · exact h
theorem andF_enc {s : List UInt8} {m : Nat} {sub : St → Res} (hsub : ∀ st, IsEnc (sub st).1) (st : St) : IsEnc (andF s m sub st).1 := loop_enc (.inl rfl) hsub _ _ _ (hsub st)
theorem orF_enc {s : List UInt8} {m : Nat} {sub : St → Res} (hsub : ∀ st, IsEnc (sub st).1) (st : St) : IsEnc (orF s m sub st).1 := loop_enc (.inr (.inl rfl)) (fun st => andF_enc hsub st) _ _ _ (andF_enc hsub st)
theorem impF_enc {s : List UInt8} {m : Nat} {sub : St → Res} (hsub : ∀ st, IsEnc (sub st).1) : ∀ (i : Nat) (st : St), IsEnc (impF s m sub i st).1 := by
  intro i
  induction i with
  | zero => intro st; exact orF_enc hsub st
  | succ i ih =>
    intro st
    unfold impF
    dsimp only
    split
    · exact isEnc_join (.inr (.inr rfl)) (orF_enc hsub st) (ih _)
    · exact orF_enc hsub st
theorem preF_enc {s : List UInt8} {m : Nat} : ∀ (f : Nat) (st : St), IsEnc (preF s m f st).1 := by
  intro f
  induction f with
  | zero => intro st; exact isEnc_falsum
  | succ f ih =>
    intro st
    unfold preF
    split
    · exact isEnc_join (.inr (.inr rfl)) (ih _) isEnc_falsum
    split
    · exact isEnc_pre (.inl rfl) (ih _)
    split
    · exact isEnc_pre (.inr rfl) (ih _)
    split
    · exact isEnc_falsum
    split
    · exact ⟨.imp .fls .fls, rfl⟩
    split
    · exact impF_enc ih _ _
    split
    · rename_i v hv
      exact ⟨.var ⟨v, (letter_some hv).1⟩, rfl⟩
    · exact isEnc_falsum
theorem parse_enc (s : List UInt8) (m : Nat) : IsEnc (parse s m).1 := impF_enc (fun st => preF_enc m st) m _

end Fm
end Go.Proofs.YtmcbjekianclpaaGreat

/- The drawn formula: l02Draw gives a tree of at most as many nodes as told. -/
namespace Go.Proofs.YtmcbjekianclpaaGreat
open Go.RowKit
open Fm (Nd)

theorem isEnc_vari {r : Int} (h0 : 0 ≤ r) (h1 : r < 6) : Fm.IsEnc (Fm.vari r) :=
  ⟨.var ⟨r.toNat, by omega⟩, by simp [Fm.vari, Fm.enc, Int.toNat_of_nonneg h0]⟩

theorem own_src {w w' : World} {B g : Nat} {v : Value} {xs : List Nd} (h : Own w B v xs) (hg : g < B) (ho : Only g w w') : Own w' B v xs :=
  own_only h ho (fun he => by have := own_of_ge h he; omega)

end Go.Proofs.YtmcbjekianclpaaGreat

/- The tail of a list of nodes. -/
namespace Go.Proofs.YtmcbjekianclpaaGreat
open Go.RowKit
open Fm (Nd)

theorem nodes_tail {w : World} {b o n c : Nat} {xs : List Nd} (h : Nodes w (.slice (some ⟨b, o, none⟩) n c) xs) (i : Nat) (hi : i ≤ n) (hn : n ≤ c) (hx : xs.length = n) : Nodes w (.slice (if c = i then some ⟨b, o, none⟩ else some ⟨b, o + i * 2, none⟩) (n - i) (c - i)) (xs.drop i) := by
  obtain ⟨h1, h2, h3⟩ := h
  have hl : (xs.drop i).length = n - i := by rw [List.length_drop]; omega
  unfold Nodes
  rw [hl]
  refine ⟨by rw [cells_length, hl], by omega, ?_⟩
  rcases h3 with ⟨h4, _⟩ | ⟨b', o', c', h4, h5, h6, h7, h8⟩
  · cases h4
  · obtain ⟨⟨rfl, rfl⟩, _, rfl⟩ : (b = b' ∧ o = o') ∧ n = xs.length ∧ c = c' := by simpa using h4
    refine .inr ⟨b, if c = i then o else o + i * 2, c - i, by split <;> rfl, by omega, by omega, h7, fun j u hu => ?_⟩
    have hj : j < (cells (xs.drop i)).length := (List.getElem?_eq_some_iff.1 hu).1
    rw [cells_length, hl] at hj
    rw [if_neg (by omega)]
    have e : cells xs = cells (xs.take i) ++ cells (xs.drop i) := by rw [← cells_append, List.take_append_drop]
    have hk : (cells (xs.take i)).length = i * 2 := by rw [cells_length, List.length_take]; congr 1; omega
    have := h8 (i * 2 + j) u (by rw [e, List.getElem?_append_right (by omega), hk]; simpa using hu)
    rw [Nat.add_assoc]
    exact this

end Go.Proofs.YtmcbjekianclpaaGreat

/- A copy: l02Own of the reference. -/
namespace Go.Proofs.YtmcbjekianclpaaGreat
open Go.RowKit
open Fm (Nd)

end Go.Proofs.YtmcbjekianclpaaGreat

/- Drawn lists of nodes: l01Pick, l02Bend, l02Any give an own row of nodes that isn't long; what it holds does not matter. -/
namespace Go.Proofs.YtmcbjekianclpaaGreat
open Go.RowKit
open Fm (Nd)

/-- Stores into an own row. -/
theorem cells_set0 {cur : Array Value} {xs : List Nd} {k : Nat} {a : Int} (hk : k < xs.length) (hs : xs.length * 2 ≤ cur.size)
    (h : ∀ i, i < xs.length → cur[i * 2]? = some (.int .i64 (kd xs i)) ∧ cur[i * 2 + 1]? = some (.int .i64 (sy xs i))) :
    ∀ i, i < (xs.set k (a, sy xs k)).length → (cur.setIfInBounds (k * 2) (.int .i64 a))[i * 2]? = some (.int .i64 (kd (xs.set k (a, sy xs k)) i)) ∧ (cur.setIfInBounds (k * 2) (.int .i64 a))[i * 2 + 1]? = some (.int .i64 (sy (xs.set k (a, sy xs k)) i)) := by
  intro i hi
  rw [List.length_set] at hi
  obtain ⟨h1, h2⟩ := h i hi
  simp only [Array.getElem?_setIfInBounds]
  by_cases he : k = i
  · subst he
    rw [if_pos rfl, if_pos (by omega), if_neg (by omega), h2]
    simp [kd, sy, List.getD, hk]
  · rw [if_neg (by omega), if_neg (by omega), h1, h2]
    simp [kd, sy, List.getD, he]
theorem cells_set1 {cur : Array Value} {xs : List Nd} {k : Nat} {a : Int} (hk : k < xs.length) (hs : xs.length * 2 ≤ cur.size)
    (h : ∀ i, i < xs.length → cur[i * 2]? = some (.int .i64 (kd xs i)) ∧ cur[i * 2 + 1]? = some (.int .i64 (sy xs i))) :
    ∀ i, i < (xs.set k (kd xs k, a)).length → (cur.setIfInBounds (k * 2 + 1) (.int .i64 a))[i * 2]? = some (.int .i64 (kd (xs.set k (kd xs k, a)) i)) ∧ (cur.setIfInBounds (k * 2 + 1) (.int .i64 a))[i * 2 + 1]? = some (.int .i64 (sy (xs.set k (kd xs k, a)) i)) := by
  intro i hi
  rw [List.length_set] at hi
  obtain ⟨h1, h2⟩ := h i hi
  simp only [Array.getElem?_setIfInBounds]
  by_cases he : k = i
  · subst he
    rw [if_neg (by omega), if_pos rfl, if_pos (by omega), h1]
    simp [kd, sy, List.getD, hk]
  · rw [if_neg (by omega), if_neg (by omega), h1, h2]
    simp [kd, sy, List.getD, he]

theorem step_apprdN {P : Program} (w : World) {ops : Array Oper} {o : Oper} {a : Act} {K : Act → World → Prop} {Q : Exit → Act → World → Prop} {E : Prop} (hgd : o.guard = none) (s x : Operand) (t : TypeId)
    (ho : o.op = .call { callee := .builtin .append, args := #[s, x], argTypes := #[t, t] })
    (base : Nat) (e : TypeId) (i : TypeInfo) (z : Value) (size bytes : Nat) (ht : P.underlying t = some (.slice e)) (hi : P.info? e = some i) (hz : i.zero = some z)
    (hsize : i.size = size) (hby : i.bytes = bytes) (hzs : z.cells.size = size) (hsz : 0 < size)
    (v : Value) (n : Nat) (xs : List Value) (hs : a.eval s = v) (hown : w.ownsRow base e size v n xs)
    (vx : Value) (m : Nat) (news : List Value) (hx : a.eval x = vx) (hr : Rd w size vx m news) (h1 : ∀ u ∈ news, u.oneCell' = true)
    (h63 : n + m ≤ maxLen) (hbytes : (n + m) * bytes ≤ 140737488355328) (hbase : base ≤ w.heap.size)
    (h : ∀ v' w', w'.ownsRow base e size v' (n + m) (xs ++ news) → w.grownBy w' v.ownBlock → K (a.put o.dst v') w') :
    if Region.wanted o (yielded ops a.tmps) = true then Oper.wp P o a w K Q else E := by
  have hw : Region.wanted o (yielded ops a.tmps) = true := by simp [Region.wanted, hgd]
  rw [if_pos hw]
  obtain ⟨hl, _, hr⟩ := hr
  rcases hr with ⟨rfl, rfl⟩ | ⟨b, of, c, rfl, _, _, _, hc⟩
  · have hnews : news = [] := List.eq_nil_of_length_eq_zero (by simpa using hl)
    subst hnews
    have hrun := run_append_owned_none (P := P) w base t o.type e i size ht hi v n xs hown
    unfold Oper.wp execOp
    simp only [ho, resolve, invoke, builtin, Sem.run_bind, Sem.run_pure, Result.andThen_ok, List.map_toArray, List.map_cons, List.map_nil, hs, hx, hrun]
    exact h v w (by simpa using hown) (World.grownBy.refl _ _)
  · obtain ⟨v', w', hrun, h2, h3, _, _⟩ := run_append_own_at (P := P) w base t o.type e i z size bytes ht hi hz hsize hby hzs hsz v n xs hown ⟨b, of, none⟩ m c news hl (fun j u hu => by rw [Addr.add_lit]; exact hc j u hu) h1 h63 hbytes hbase
    unfold Oper.wp execOp
    simp only [ho, resolve, invoke, builtin, Sem.run_bind, Sem.run_pure, Result.andThen_ok, List.map_toArray, List.map_cons, List.map_nil, hs, hx, hrun]
    exact h v' w' h2 h3
/-- 'append(out, xs...)' as one step of a region, out an own row of nodes from block B on. -/
theorem step_appN {ops : Array Oper} {o : Oper} {a : Act} {K : Act → World → Prop} {Q : Exit → Act → World → Prop} {E : Prop} {w : World} (B : Nat) (hgd : o.guard = none) (s x : Operand)
    (ho : o.op = .call { callee := .builtin .append, args := #[s, x], argTypes := #[29, 29] })
    (v : Value) (xs : List Nd) (hs : a.eval s = v) (hown : Own w B v xs) (hB : B ≤ w.heap.size) (vx : Value) (ys : List Nd) (hx : a.eval x = vx) (hr : Nodes w vx ys) (hn : xs.length + ys.length ≤ 1099511627776)
    (h : ∀ v' w', Own w' B v' (xs ++ ys) → w.grownBy w' v.ownBlock → K (a.put o.dst v') w') : if Region.wanted o (yielded ops a.tmps) = true then Oper.wp Tryz.prog o a w K Q else E := by
  obtain ⟨i0, hi0, hz0, hz1, hz2⟩ := info_parts Tryz.infoNd
  refine step_apprdN w hgd s x _ ho B 42 i0 _ 2 16 Tryz.underlying29 hi0 hz0 hz1 hz2 rfl (by omega) v xs.length (cells xs) hs hown vx ys.length (cells ys) hx hr (cells_one ys) (big2 hn).1 (big2 hn).2 hB ?_
  intro v' w' h1 h2
  refine h v' w' ?_ h2
  unfold Own
  rw [cells_append, List.length_append]
  exact h1
theorem wpList_appN {ops : Array Oper} {rest : List Oper} {o : Oper} {a : Act} {Q : Exit → Act → World → Prop} {w : World} (B : Nat) (s x : Operand) (hgd : o.guard = none)
    (ho : o.op = .call { callee := .builtin .append, args := #[s, x], argTypes := #[29, 29] })
    (v : Value) (xs : List Nd) (hs : a.eval s = v) (hown : Own w B v xs) (hB : B ≤ w.heap.size) (vx : Value) (ys : List Nd) (hx : a.eval x = vx) (hr : Nodes w vx ys) (hn : xs.length + ys.length ≤ 1099511627776)
    (h : ∀ v' w', Own w' B v' (xs ++ ys) → w.grownBy w' v.ownBlock → wpList Tryz.prog ops Q rest (a.put o.dst v') w') : wpList Tryz.prog ops Q (o :: rest) a w := by
  obtain ⟨i0, hi0, hz0, hz1, hz2⟩ := info_parts Tryz.infoNd
  refine wpList_append_rd w hgd s x _ ho B 42 i0 _ 2 16 Tryz.underlying29 hi0 hz0 hz1 hz2 rfl (by omega) v xs.length (cells xs) hs hown vx ys.length (cells ys) hx hr (cells_one ys) (big2 hn).1 (big2 hn).2 hB ?_
  intro v' w' h1 h2 _
  refine h v' w' ?_ h2
  unfold Own
  rw [cells_append, List.length_append]
  exact h1
theorem Only.newer {g gb : Nat} {a b c : World} (h : Only g a b) (k : Only gb b c) (hgb : a.heap.size ≤ gb) : Only g a c :=
  ⟨k.os.trans h.os, k.tape.trans h.tape, k.output.trans h.output, Nat.le_trans h.size k.size, fun i hi hne => (k.block (Nat.lt_of_lt_of_le hi h.size) (by omega)).trans (World.grownBy.block h i hi hne)⟩

theorem Only.newer2 {g : Nat} {a b c : World} {r : Option Nat} (h : Only g a b) (ho : b.grownBy c r) (hr : ∀ k, r = some k → a.heap.size ≤ k) : Only g a c := by
  cases r with
  | none => exact h.newer (gb := b.heap.size) ⟨ho.os, ho.tape, ho.output, ho.size, fun i hi _ => ho.block i hi (by simp)⟩ h.size
  | some k => exact h.newer (gb := k) ho (hr k rfl)

theorem isEnc_pos {xs : List Nd} (h : Fm.IsEnc xs) : 0 < xs.length := by
  obtain ⟨t, rfl⟩ := h
  cases t <;> simp [Fm.enc]

def slen : Value → Nat
  | .slice _ n _ => n
  | _ => 0

end Go.Proofs.YtmcbjekianclpaaGreat

/- Boxes, full masks, implications of sets, plain. No program is in sight. -/
namespace Go.Proofs.YtmcbjekianclpaaGreat
open Go.RowKit

/-- The elements among the first k that see members of m alone. -/
def bxK (A : List Nat) (m : Nat) : Nat → Nat
  | 0 => 0
  | k + 1 => if dif (nt A k) m = 0 then bxK A m k ||| 2 ^ k else bxK A m k
theorem bxK_yes {A : List Nat} {m k : Nat} (h : decide (dif (nt A k) m = 0) = true) : bxK A m (k + 1) = bxK A m k ||| 2 ^ k := by
  show (if _ then _ else _) = _
  rw [if_pos (of_decide_eq_true h)]
theorem bxK_no {A : List Nat} {m k : Nat} (h : decide (dif (nt A k) m = 0) = false) : bxK A m (k + 1) = bxK A m k := by
  show (if _ then _ else _) = _
  rw [if_neg (of_decide_eq_false h)]
theorem bxK_lt (A : List Nat) (m : Nat) : ∀ k, bxK A m k < 2 ^ k
  | 0 => by show 0 < _; omega
  | k + 1 => by
    have ih := bxK_lt A m k
    have h2 : 2 ^ (k + 1) = 2 * 2 ^ k := by rw [Nat.pow_succ]; omega
    unfold bxK
    split
    · exact or_n (by omega) (by omega)
    · omega
theorem bxK_sm {A : List Nat} {m k : Nat} (h : k ≤ 30) : bxK A m k < 1073741824 := Nat.lt_of_lt_of_le (bxK_lt _ _ _) (pow30' h)
theorem bxK_bit (A : List Nat) (m x : Nat) : ∀ k, (bxK A m k).testBit x = true ↔ x < k ∧ ∀ z, (nt A x).testBit z = true → m.testBit z = true
  | 0 => by show (0 : Nat).testBit x = true ↔ _; simp
  | k + 1 => by
    have ih := bxK_bit A m x k
    have hlt := bxK_lt A m k
    rw [show bxK A m (k + 1) = if dif (nt A k) m = 0 then bxK A m k ||| 2 ^ k else bxK A m k from rfl]
    by_cases hd : dif (nt A k) m = 0
    · rw [if_pos hd, Nat.testBit_or, Bool.or_eq_true, ih, Nat.testBit_two_pow]
      constructor
      · rintro (⟨h1, h2⟩ | h1)
        · exact ⟨by omega, h2⟩
        · obtain rfl : k = x := by simpa using h1
          exact ⟨by omega, dif_zero.1 hd⟩
      · rintro ⟨h1, h2⟩
        by_cases hx : k = x
        · exact .inr (by simp [hx])
        · exact .inl ⟨by omega, h2⟩
    · rw [if_neg hd, ih]
      constructor
      · rintro ⟨h1, h2⟩; exact ⟨by omega, h2⟩
      · rintro ⟨h1, h2⟩
        by_cases hx : x = k
        · exact absurd (dif_zero.2 (hx ▸ h2)) hd
        · exact ⟨by omega, h2⟩
/-- The elements that see members of m alone. -/
def bx (A : List Nat) (m : Nat) : Nat := bxK A m A.length
theorem bx_lt (A : List Nat) (m : Nat) : bx A m < 2 ^ A.length := bxK_lt A m A.length
theorem bx_bit {A : List Nat} {m x : Nat} : (bx A m).testBit x = true ↔ x < A.length ∧ ∀ z, (nt A x).testBit z = true → m.testBit z = true := bxK_bit A m x A.length
theorem and_dif {a m : Nat} : (a &&& m = a) ↔ dif a m = 0 := by
  rw [dif_zero]
  constructor
  · intro h z hz
    rw [← h, Nat.testBit_and] at hz
    simp only [Bool.and_eq_true] at hz
    exact hz.2
  · intro h
    apply Nat.eq_of_testBit_eq
    intro z
    rw [Nat.testBit_and]
    cases hz : a.testBit z with
    | false => rfl
    | true => rw [h z hz]; rfl
theorem dif_le {a b : Nat} : dif a b ≤ a := by
  have h : dif a b &&& a = dif a b := and_dif.2 (dif_zero.2 fun z hz => by rw [dif_bit] at hz; simp only [Bool.and_eq_true] at hz; exact hz.1)
  rw [← h]
  exact Nat.and_le_right
/-- All elements. -/
def full (n : Nat) : Nat := 2 ^ n - 1
theorem full_bit (n x : Nat) : (full n).testBit x = decide (x < n) := Nat.testBit_two_pow_sub_one n x
theorem full_lt (n : Nat) : full n < 2 ^ n := by
  have : 0 < 2 ^ n := Nat.pow_pos (by omega)
  unfold full; omega
theorem full_cast (n : Nat) : ((full n : Nat) : Int) = ((2 ^ n : Nat) : Int) - 1 := by
  have : 0 < 2 ^ n := Nat.pow_pos (by omega)
  unfold full
  generalize 2 ^ n = p at *
  omega
/-- The implication of two sets. -/
def ar (A : List Nat) (a b : Nat) : Nat := bx A (dif (full A.length) a ||| b)
theorem ar_bit {A : List Nat} (hA : Rl A) {a b x : Nat} : (ar A a b).testBit x = true ↔ x < A.length ∧ ∀ z, (nt A x).testBit z = true → a.testBit z = true → b.testBit z = true := by
  unfold ar
  rw [bx_bit]
  constructor
  · rintro ⟨h1, h2⟩
    refine ⟨h1, fun z hz ha => ?_⟩
    have h3 := h2 z hz
    rw [Nat.testBit_or, dif_bit, ha] at h3
    simpa using h3
  · rintro ⟨h1, h2⟩
    refine ⟨h1, fun z hz => ?_⟩
    rw [Nat.testBit_or, dif_bit, full_bit, decide_eq_true (hA.bit h1 hz)]
    cases ha : a.testBit z with
    | false => rfl
    | true => rw [h2 z hz ha]; simp
end Go.Proofs.YtmcbjekianclpaaGreat

/- FnMonotone: the draw of a poset (l16Shuffle, l16Some); only its shape is told. -/
namespace Go.Proofs.YtmcbjekianclpaaGreat
open Go.RowKit

/-- 'out = append(out, x)' onto a row of numbers from block B on. -/
theorem wpList_appIB {ops : Array Oper} {rest : List Oper} {o : Oper} {a : Act} {Q : Exit → Act → World → Prop} {w : World} (B : Nat) (s x : Operand) (hgd : o.guard = none)
    (ho : o.op = .call { callee := .builtin .append, args := #[s, x], argTypes := #[24, 24] })
    (v : Value) (L : List Int) (hs : a.eval s = v) (hown : OwnI w B v L) (hB : B ≤ w.heap.size) (vx : Value) (k : Int) (hx : a.eval x = vx) (hr : Rd w 1 vx 1 [.int .i64 k]) (hn : L.length ≤ 1048576)
    (h : ∀ v' w', OwnI w' B v' (L ++ [k]) → w.grownBy w' v.ownBlock → wpList Tryz.prog ops Q rest (a.put o.dst v') w') : wpList Tryz.prog ops Q (o :: rest) a w := by
  obtain ⟨i0, hi0, hz0, hz1, hz2⟩ := info_parts Tryz.infoI
  refine wpList_append_rd w hgd s x _ ho B 2 i0 _ 1 8 Tryz.underlying24 hi0 hz0 hz1 hz2 rfl (by omega) v L.length (icells L) hs hown vx 1 [.int .i64 k] hx hr (by simp [Value.oneCell']) (by unfold maxLen; omega) (by omega) hB ?_
  intro v' w' h1 h2 _
  refine h v' w' ?_ h2
  unfold OwnI
  rw [List.length_append, icells_append]
  exact h1
theorem own_srcI {w w' : World} {B g : Nat} {v : Value} {L : List Int} (h : OwnI w B v L) (hg : g < B) (ho : Only g w w') : OwnI w' B v L :=
  own_only h ho (fun he => by have := own_of_ge h he; omega)
theorem own_irow {w : World} {B c : Nat} {A : Option Addr} {L : List Int} (h : OwnI w B (.slice A L.length c) L) (h0 : 0 < L.length) :
    ∃ g cur, A = some ⟨g, 0, none⟩ ∧ B ≤ g ∧ w.heap[g]? = some (.cells cur 2 (0, 0)) ∧ (L.length ≤ c ∧ c ≤ 9223372036854775807 ∧ cur.size = c) ∧ ∀ i, i < L.length → cur[i]? = some (.int .i64 (it L i)) := by
  have hI := h.ints
  rcases h.2 with ⟨he, _⟩ | ⟨g, c', cur, he, hB, hh, hnc, hcm, hcs, htk⟩
  · injection he with _ e2 _
    omega
  · injection he with e1 _ e3
    subst e1 e3
    refine ⟨g, cur, rfl, hB, hh, ⟨hnc, hcm, by omega⟩, fun i hi => ?_⟩
    rcases hI.open_ with ⟨he, _⟩ | ⟨b, o, c3, he, _, _, _, hcell⟩
    · cases he
    · injection he with e1 _ _
      injection e1 with e1
      injection e1 with e1 e2
      subst e1 e2
      have := hcell i hi w (Grew.refl _)
      rwa [Nat.zero_add, blk_cell hh] at this
theorem NRow.only {w w' : World} {g gs n c : Nat} {f : Nat → Nat} (h : NRow w g n c f) (ho : Only gs w w') (hne : g ≠ gs) : NRow w' g n c f := by
  have hl := h.lt
  obtain ⟨cur, h1, h2⟩ := h
  exact ⟨cur, (ho.block hl hne).trans h1, h2⟩

theorem and_sm {a b : Nat} (ha : a < 1073741824) : a &&& b < 1073741824 := Nat.lt_of_le_of_lt Nat.and_le_left ha

end Go.Proofs.YtmcbjekianclpaaGreat

/- The program's least form: permutations (with the callback of leastRelation), leastRelation. -/
namespace Go.Proofs.YtmcbjekianclpaaGreat
open Go.RowKit

/-- 'out = append(out, x)' onto a row of numbers from block B on; where it lies then. -/
theorem wpList_appIBL {ops : Array Oper} {rest : List Oper} {o : Oper} {a : Act} {Q : Exit → Act → World → Prop} {w : World} (B : Nat) (s x : Operand) (hgd : o.guard = none)
    (ho : o.op = .call { callee := .builtin .append, args := #[s, x], argTypes := #[24, 24] })
    (v : Value) (L : List Int) (hs : a.eval s = v) (hown : OwnI w B v L) (hB : B ≤ w.heap.size) (vx : Value) (k : Int) (hx : a.eval x = vx) (hr : Rd w 1 vx 1 [.int .i64 k]) (hn : L.length ≤ 1048576)
    (h : ∀ v' w', OwnI w' B v' (L ++ [k]) → w.grownBy w' v.ownBlock → (v'.ownBlock = v.ownBlock ∨ v'.ownBlock = some w.heap.size) → wpList Tryz.prog ops Q rest (a.put o.dst v') w') : wpList Tryz.prog ops Q (o :: rest) a w := by
  obtain ⟨i0, hi0, hz0, hz1, hz2⟩ := info_parts Tryz.infoI
  refine wpList_append_rd w hgd s x _ ho B 2 i0 _ 1 8 Tryz.underlying24 hi0 hz0 hz1 hz2 rfl (by omega) v L.length (icells L) hs hown vx 1 [.int .i64 k] hx hr (by simp [Value.oneCell']) (by unfold maxLen; omega) (by omega) hB ?_
  intro v' w' h1 h2 h3
  refine h v' w' ?_ h2 h3
  unfold OwnI
  rw [List.length_append, icells_append]
  exact h1
theorem OwnI.take {w : World} {B n c : Nat} {A : Option Addr} {L : List Int} (h : OwnI w B (.slice A (n + 1) c) L) (hl : L.length = n + 1) : OwnI w B (.slice A n c) (L.take n) := by
  rcases h.2 with ⟨he, _⟩ | ⟨g, c', cur, he, hB, hh, hnc, hcm, hcs, htk⟩
  · cases he
  · injection he with e1 e2 e3
    subst e1 e3
    have h2 := own_irow (w := w) (B := B) (c := c) (A := some ⟨g, 0, none⟩) (L := L) (by rw [hl]; exact h) (by omega)
    obtain ⟨g', cur', he', hB', hh', hcs', hall⟩ := h2
    injection he' with he'
    injection he' with he'
    subst he'
    have hlt : (L.take n).length = n := by rw [List.length_take]; omega
    have hk := OwnI.mk_ (L := L.take n) hB' hh' (by rw [hlt]; omega) hcs'.2.1 hcs'.2.2 (fun i hi => by
      rw [hlt] at hi
      rw [hall i (by omega)]
      simp [it, List.getD, hi])
    rwa [hlt] at hk

/-- The memory of the search for a least form: the boxes, the order under way, the best row. -/
structure GS (w0 : World) (A : List Nat) (bA bB bN bF bO bG Bo : Nat) (va vF vG : Value) (W : World) (o : List Nat) (vO : Value) (b : List Nat) (vb : Value) : Prop where
  grew : Grew w0 W
  hA : W.heap[bA]? = some (.cells #[va] 24 (0, 0))
  hB : W.heap[bB]? = some (.cells #[vb] 24 (0, 0))
  hN : W.heap[bN]? = some (.cells #[.int .i64 (A.length : Int)] 2 (0, 0))
  hF : W.heap[bF]? = some (.cells #[vF] 94 (0, 0))
  hO : W.heap[bO]? = some (.cells #[vO] 24 (0, 0))
  hG : W.heap[bG]? = some (.cells #[vG] 103 (0, 0))
  own : OwnI W Bo vO (zs o)
  best : OwnI W w0.heap.size vb (zs b)
  apart : ∀ g, vO.ownBlock = some g → vb.ownBlock ≠ some g
  len : b.length = A.length
theorem blk_ltM {w : World} {k : Nat} {o : Obj} (h : w.heap[k]? = some o) : k < w.heap.size := (Array.getElem?_eq_some_iff.1 h).1
section
variable {w0 : World} {A : List Nat} {bA bB bN bF bO bG Bo : Nat} {va vF vG : Value}
theorem GS.up {W W' : World} {o b : List Nat} {vO vb : Value} (h : GS w0 A bA bB bN bF bO bG Bo va vF vG W o vO b vb) (hg : Grew W W') : GS w0 A bA bB bN bF bO bG Bo va vF vG W' o vO b vb :=
  ⟨h.grew.trans hg, (hg.block (blk_ltM h.hA)).trans h.hA, (hg.block (blk_ltM h.hB)).trans h.hB, (hg.block (blk_ltM h.hN)).trans h.hN, (hg.block (blk_ltM h.hF)).trans h.hF, (hg.block (blk_ltM h.hO)).trans h.hO, (hg.block (blk_ltM h.hG)).trans h.hG, h.own.grew hg, h.best.grew hg, h.apart, h.len⟩
/-- The boxes are apart. -/
structure BX (w0 : World) (bA bB bN bF bO bG Bo : Nat) : Prop where
  a0 : w0.heap.size ≤ bA
  b0 : w0.heap.size ≤ bB
  o0 : w0.heap.size ≤ bO
  ab : bA ≠ bB
  nb : bN ≠ bB
  fb : bF ≠ bB
  ob : bO ≠ bB
  gb : bG ≠ bB
  ao : bA ≠ bO
  no : bN ≠ bO
  fo : bF ≠ bO
  go : bG ≠ bO
  na : bN < Bo
  bo : Bo ≤ bO
  wB : w0.heap.size ≤ Bo
theorem GS.setB {W : World} {o b b' : List Nat} {vO vb vb' : Value} (h : GS w0 A bA bB bN bF bO bG Bo va vF vG W o vO b vb) (hx : BX w0 bA bB bN bF bO bG Bo) (hb : OwnI W w0.heap.size vb' (zs b')) (hap : ∀ g, vO.ownBlock = some g → vb'.ownBlock ≠ some g) (hl : b'.length = A.length) :
    GS w0 A bA bB bN bF bO bG Bo va vF vG (W.setCell ⟨bB, 0, none⟩ vb') o vO b' vb' := by
  have hk : Only bB W (W.setCell ⟨bB, 0, none⟩ vb') := (Only.refl _ _).setCell _
  have hne : ∀ (v : Value) (B : Nat) (L : List Int), OwnI W B v L → v.ownBlock ≠ some bB := fun v B L ho he => by
    have := own_ne ho h.hB (by decide : (2 : TypeId) ≠ 24)
    exact this he
  exact ⟨h.grew.setCell hx.b0 _, (hk.block (blk_ltM h.hA) hx.ab).trans h.hA, blk_set h.hB 0 _, (hk.block (blk_ltM h.hN) hx.nb).trans h.hN, (hk.block (blk_ltM h.hF) hx.fb).trans h.hF, (hk.block (blk_ltM h.hO) hx.ob).trans h.hO, (hk.block (blk_ltM h.hG) hx.gb).trans h.hG,
    own_only h.own hk (hne _ _ _ h.own), own_only hb hk (hne _ _ _ hb), hap, hl⟩
theorem GS.setO {W : World} {o o' b : List Nat} {vO vO' vb : Value} (h : GS w0 A bA bB bN bF bO bG Bo va vF vG W o vO b vb) (hx : BX w0 bA bB bN bF bO bG Bo) (hb : OwnI W Bo vO' (zs o')) (hap : ∀ g, vO'.ownBlock = some g → vb.ownBlock ≠ some g) :
    GS w0 A bA bB bN bF bO bG Bo va vF vG (W.setCell ⟨bO, 0, none⟩ vO') o' vO' b vb := by
  have hk : Only bO W (W.setCell ⟨bO, 0, none⟩ vO') := (Only.refl _ _).setCell _
  have hne : ∀ (v : Value) (B : Nat) (L : List Int), OwnI W B v L → v.ownBlock ≠ some bO := fun v B L ho he => by
    have := own_ne ho h.hO (by decide : (2 : TypeId) ≠ 24)
    exact this he
  exact ⟨h.grew.setCell hx.o0 _, (hk.block (blk_ltM h.hA) hx.ao).trans h.hA, (hk.block (blk_ltM h.hB) hx.ob.symm).trans h.hB, (hk.block (blk_ltM h.hN) hx.no).trans h.hN, (hk.block (blk_ltM h.hF) hx.fo).trans h.hF, blk_set h.hO 0 _, (hk.block (blk_ltM h.hG) hx.go).trans h.hG,
    own_only hb hk (hne _ _ _ hb), own_only h.best hk (hne _ _ _ h.best), hap, h.len⟩
/-- The order's row is written. -/
theorem GS.app {W W' : World} {o b : List Nat} {vO vb vO' : Value} {L : List Int} (h : GS w0 A bA bB bN bF bO bG Bo va vF vG W o vO b vb) (hx : BX w0 bA bB bN bF bO bG Bo) (_hB : Bo ≤ W.heap.size) (hg : W.grownBy W' vO.ownBlock) (ho : OwnI W' Bo vO' L) (hl : vO'.ownBlock = vO.ownBlock ∨ vO'.ownBlock = some W.heap.size) :
    (∀ o', L = zs o' → GS w0 A bA bB bN bF bO bG Bo va vF vG (W'.setCell ⟨bO, 0, none⟩ vO') o' vO' b vb) ∧ W'.heap[bO]? = some (.cells #[vO] 24 (0, 0)) := by
  have hg0 : Grew w0 W' := h.grew.grown hg (fun g hgg => Nat.le_trans hx.wB (own_of_ge h.own hgg))
  have keep : ∀ {k : Nat} {c : Value} {t : TypeId}, W.heap[k]? = some (.cells #[c] t (0, 0)) → (t ≠ 2 ∨ k < Bo) → W'.heap[k]? = some (.cells #[c] t (0, 0)) := fun {k c t} hk ht => by
    refine (World.grownBy.block hg k (blk_ltM hk) (fun e => ?_)).trans hk
    rcases ht with ht | ht
    · exact own_ne h.own hk (fun he => ht he.symm) e.symm
    · have := own_of_ge h.own e.symm
      omega
  have hb : OwnI W' w0.heap.size vb (zs b) := kept_of h.best hg (fun g hgg => h.apart g hgg)
  have hap : ∀ g, vO'.ownBlock = some g → vb.ownBlock ≠ some g := fun g hgg => by
    rcases hl with hl | hl
    · rw [hl] at hgg; exact h.apart g hgg
    · rw [hl] at hgg
      injection hgg with hgg
      intro he
      have := (h.best.lt g he).2
      omega
  have hOO := keep h.hO (.inl (by decide))
  refine ⟨?_, hOO⟩
  rintro o' rfl
  have hS : GS w0 A bA bB bN bF bO bG Bo va vF vG W' o' vO b vb → True := fun _ => trivial
  have hk : Only bO W' (W'.setCell ⟨bO, 0, none⟩ vO') := (Only.refl _ _).setCell _
  have hne : ∀ (v : Value) (B : Nat) (L : List Int), OwnI W' B v L → v.ownBlock ≠ some bO := fun v B L hoo he => own_ne hoo hOO (by decide : (2 : TypeId) ≠ 24) he
  have h1 := keep h.hA (.inl (by decide))
  have h2 := keep h.hB (.inl (by decide))
  have h3 := keep h.hN (.inr hx.na)
  have h4 := keep h.hF (.inl (by decide))
  have h5 := keep h.hG (.inl (by decide))
  exact ⟨hg0.setCell hx.o0 _, (hk.block (blk_ltM h1) hx.ao).trans h1, (hk.block (blk_ltM h2) hx.ob.symm).trans h2, (hk.block (blk_ltM h3) hx.no).trans h3, (hk.block (blk_ltM h4) hx.fo).trans h4, blk_set hOO 0 _, (hk.block (blk_ltM h5) hx.go).trans h5,
    own_only ho hk (hne _ _ _ ho), own_only hb hk (hne _ _ _ hb), hap, h.len⟩
end

set_option maxHeartbeats 1000000 in
theorem lstCall_c {w0 : World} {A : List Nat} {bA bB bN bF bO bG Bo : Nat} {va vF vG : Value} (hva : Ints w0 va (zs A)) (hA : Rl A) (hn : A.length ≤ 6) (hx : BX w0 bA bB bN bF bO bG Bo) {W : World} {o b : List Nat} {vO vb : Value}
    (h : GS w0 A bA bB bN bF bO bG Bo va vF vG W o vO b vb) (ho : IsPm A.length o) :
    Calls Tryz.prog 88 #[vO, .pointer (some ⟨bA, 0, none⟩), .pointer (some ⟨bB, 0, none⟩)] W fun e W' => (∃ v, e = .returned v) ∧ ∃ vb', GS w0 A bA bB bN bF bO bG Bo va vF vG W' o vO (lstep A b o) vb' := by
  have HR := Lib.hid (reordered_c va vO A o W (hva.grew h.grew) h.own.ints hA ho hn)
  have HC := Lib.hid (fun v4 X (h4 : Ints X v4 (zs (reo A o))) (hg : Grew W X) => slicesCompare_c v4 vb (reo A o) b X h4 (h.best.ints.grew hg))
  have hll : lessL (reo A o) b = decide (cmpL (reo A o) b < 0) := rfl
  have HLT : Hid (lstep A b o = if decide (cmpL (reo A o) b < 0) = true then reo A o else b) := Lib.hid rfl
  have hrl : (reo A o).length = A.length := by rw [reo_len, ho.1]
  have c1 : W.cell? ⟨bA, 0, none⟩ = some va := by rw [blk_cell h.hA]; rfl
  have hbl := blk_ltM h.hB
  have c2 : ∀ X, Grew W X → X.cell? ⟨bB, 0, none⟩ = some vb := fun X hX => by rw [blk_cell ((hX.block hbl).trans h.hB)]; rfl
  have f2 : ∀ X, Grew W X → X.frozen? ⟨bB, 0, none⟩ = false := fun X hX => blk_frozen ((hX.block hbl).trans h.hB) 0
  obtain ⟨A1, n1, rfl⟩ := ints_sliceN hva
  obtain ⟨A2, n2, rfl⟩ := ints_sliceN h.own.ints
  obtain ⟨A3, n3, rfl⟩ := ints_sliceN h.best.ints
  have HGS := Lib.hid h
  have hsz := Nat.le_trans hx.wB (Nat.le_refl _)
  have hlt2 := fun g hg => (h.own.lt g hg).2
  have hW0 := h.grew.size
  have HRL := Lib.hid hrl
  have HXX := Lib.hid hx
  clear h hva hA hll hrl ho hx
  generalize hro : reo A o = R at *
  generalize cmpL R b = q at *
  clear hro
  have r1 := Grew.refl W
  go_enter Tryz.func88, Tryz.ntmps88
  go_wp2_with fail
  refine HR.out.mono ?_
  rintro e w4 ⟨v4, rfl, hO4, hg4⟩
  obtain ⟨A4, n4, rfl⟩ := ints_sliceN hO4.ints
  have hM := Lib.hid (HC.out _ w4 hO4.ints hg4)
  have HO4 := Lib.hid hO4
  clear hO4
  go_wp2_with fail
  refine hM.out.mono ?_
  rintro e w5 ⟨rfl, rfl⟩
  by_cases hlt : q < 0
  · have HX : Hid (lstep A b o = R) := Lib.hid (by rw [HLT.out, decide_eq_true hlt]; rfl)
    go_wp2_with fail
    go_end0
    refine ⟨⟨_, rfl⟩, ?_⟩
    rw [HX.out]
    exact ⟨_, (HGS.out.up hg4).setB HXX.out (HO4.out.base hW0) (fun g hg => by
      intro he
      have h1 := hlt2 g hg
      have h2 := own_of_ge HO4.out he
      omega) HRL.out⟩
  · have HX : Hid (lstep A b o = b) := Lib.hid (by rw [HLT.out, decide_eq_false hlt]; rfl)
    go_wp2_with fail
    go_end0
    refine ⟨⟨_, rfl⟩, ?_⟩
    rw [HX.out]
    exact ⟨_, HGS.out.up hg4⟩
/-- What the search has found when the numbers below v are tried. -/
def bK (A : List Nat) (m : Nat) (o b : List Nat) (v : Nat) : List Nat := ((extK o v).flatMap (dfs A.length m)).foldl (lstep A) b
theorem bK_yes {A : List Nat} {m : Nat} {o b : List Nat} {v : Nat} (h : v ∈ o) : bK A m o b (v + 1) = bK A m o b v := by
  unfold bK
  rw [extK_yes h]
theorem bK_no {A : List Nat} {m : Nat} {o b : List Nat} {v : Nat} (h : v ∉ o) : bK A m o b (v + 1) = (dfs A.length m (o ++ [v])).foldl (lstep A) (bK A m o b v) := by
  unfold bK
  rw [extK_no h, List.flatMap_append, List.foldl_append]
  simp
/-- The memory of the search, whatever it holds. -/
def GSx (w0 : World) (A : List Nat) (bA bB bN bF bO bG Bo : Nat) (va vF vG : Value) (W : World) : Prop := ∃ o vO b vb, GS w0 A bA bB bN bF bO bG Bo va vF vG W o vO b vb
theorem GSx.drew {w0 : World} {A : List Nat} {bA bB bN bF bO bG Bo : Nat} {va vF vG : Value} {W : World} (h : GSx w0 A bA bB bN bF bO bG Bo va vF vG W) : GSx w0 A bA bB bN bF bO bG Bo va vF vG W.drew := by
  obtain ⟨o, vO, b, vb, h⟩ := h
  exact ⟨o, vO, b, vb, h.up (Grew.refl _).drew⟩

theorem OwnI.capI {w : World} {B n c : Nat} {A : Option Addr} {L : List Int} (h : OwnI w B (.slice A (n + 1) c) L) : n + 1 ≤ c := by
  rcases h.2 with ⟨he, _⟩ | ⟨g, c', cur, he, hB, hh, hnc, hcm, hcs, htk⟩
  · cases he
  · injection he with e1 e2 e3
    omega
theorem wrapI_pow {k : Nat} (h : k ≤ 60) : IntKind.i64.wrap (2 ^ k) = ((2 ^ k : Nat) : Int) := by
  have h1 : (2 : Nat) ^ k ≤ 2 ^ 60 := Nat.pow_le_pow_right (by omega) h
  have h2 : ((2 ^ k : Nat) : Int) = 2 ^ k := by rw [Int.natCast_pow]; rfl
  rw [← h2]
  generalize (2 ^ k : Nat) = p at *
  rw [IntKind.wrap_i64]
  omega
theorem sizeI_q (A : Option Addr) (n c : Nat) (_hm : n ≤ 9223372036854775807) (w : World) :
    Calls Tryz.prog 83 #[.slice A n c] w fun e w' => e = .returned (.int .i64 n) ∧ w' = w := by
  go_enter Tryz.func83, Tryz.ntmps83
  go_wp2_with fail
  go_ret
  exact ⟨rfl, rfl⟩
set_option maxHeartbeats 1000000 in
theorem search_c {w0 : World} {A : List Nat} {bA bB bN bF bO bG Bo : Nat} {va vF vG : Value} (hva : Ints w0 va (zs A)) (hA : Rl A) (hn : A.length ≤ 6) (hx : BX w0 bA bB bN bF bO bG Bo)
    (hf : vF = .func (.func 88) #[] #[.pointer (some ⟨bA, 0, none⟩), .pointer (some ⟨bB, 0, none⟩)])
    (hg : vG = .func (.func 120) #[] #[.pointer (some ⟨bO, 0, none⟩), .pointer (some ⟨bN, 0, none⟩), .pointer (some ⟨bF, 0, none⟩), .pointer (some ⟨bG, 0, none⟩)]) :
    ∀ (m : Nat) (o b : List Nat) (vO vb : Value) (used : Nat) (W : World), GS w0 A bA bB bN bF bO bG Bo va vF vG W o vO b vb → o.length + m = A.length → o.Nodup → (∀ x ∈ o, x < A.length) → (∀ j, used.testBit j = decide (j ∈ o)) → used < 64 →
      Calls Tryz.prog 120 #[.int .i64 (used : Int), .pointer (some ⟨bO, 0, none⟩), .pointer (some ⟨bN, 0, none⟩), .pointer (some ⟨bF, 0, none⟩), .pointer (some ⟨bG, 0, none⟩)] W fun e W' =>
        (∃ v, e = .returned v) ∧ ∃ vO' vb', GS w0 A bA bB bN bF bO bG Bo va vF vG W' o vO' ((dfs A.length m o).foldl (lstep A) b) vb' := by
  intro m
  induction m with
  | zero =>
    intro o b vO vb used W h hl hnd hlt hu hub
    have HGS := Lib.hid h
    have HL := Lib.hid (fun W (hW : GS w0 A bA bB bN bF bO bG Bo va vF vG W o vO b vb) => lstCall_c hva hA hn hx hW ⟨by omega, hnd, hlt⟩)
    have hnn : (zs o).length = A.length := by rw [zs_len]; omega
    obtain ⟨A2, cc, rfl⟩ := ints_sliceN h.own.ints
    have c1 : ∀ X, Grew W X → X.cell? ⟨bO, 0, none⟩ = some (.slice A2 o.length cc) := fun X hX => by rw [blk_cell ((hX.block (blk_ltM h.hO)).trans h.hO)]; rfl
    have c2 : ∀ X, Grew W X → X.cell? ⟨bN, 0, none⟩ = some (.int .i64 (A.length : Int)) := fun X hX => by rw [blk_cell ((hX.block (blk_ltM h.hN)).trans h.hN)]; rfl
    have c3 : ∀ X, Grew W X → X.cell? ⟨bF, 0, none⟩ = some vF := fun X hX => by rw [blk_cell ((hX.block (blk_ltM h.hF)).trans h.hF)]; rfl
    subst hf
    have KS := Lib.hid (fun (X : World) => sizeI_q A2 A.length cc (by omega) X)
    have hq : ((A.length : Int) == (A.length : Int)) = true := by simp
    rw [show o.length = A.length by omega] at HL c1 HGS
    clear h hnn hl hnd hlt hu hub
    generalize A.length = n at *
    have r1 := Grew.refl W
    have r2 := (Grew.refl W).drew
    go_enter Tryz.func120, Tryz.ntmps120
    go_wp2_with fail
    go_quiet ((go_at_call 83; exact Calls.quiet_of_same (KS.out _)))
    go_wp2_with fail
    refine (HL.out _ (HGS.out.up (by first | exact (Grew.refl W).drewN _ | exact r1 | exact r2))).mono ?_
    rintro e w3 ⟨⟨v3, rfl⟩, vb', h3⟩
    go_wp2_with fail
    refine bodyPost_ret (results_none rfl _ _ _) rfl ?_
    exact ⟨⟨_, rfl⟩, _, _, h3⟩
  | succ m ih =>
    intro o b vO vb used W h hl hnd hlt hu hub
    have HGS := Lib.hid h
    obtain ⟨A2, cc, rfl⟩ := ints_sliceN h.own.ints
    have HPM := Lib.hid (And.intro hnd (And.intro hlt hl))
    have HNC := Lib.hid (fun v (hv : v < A.length) (hvo : v ∉ o) (b' : List Nat) (vO' vb' : Value) (X : World) (hX : GS w0 A bA bB bN bF bO bG Bo va vF vG X (o ++ [v]) vO' b' vb') =>
      ih (o ++ [v]) b' vO' vb' (used ||| 2 ^ v) X hX (by simp; omega) (List.nodup_append.2 ⟨hnd, by simp, by intro a ha b hb; rw [List.mem_singleton] at hb; subst hb; intro he; subst he; exact hvo ha⟩)
        (fun x hx => by rcases List.mem_append.1 hx with hx | hx; · exact hlt x hx
                        · rw [List.mem_singleton] at hx; omega)
        (fun j => by rw [Nat.testBit_or, hu j, Nat.testBit_two_pow, ← Bool.decide_or, decide_eq_decide]; simp; constructor <;> rintro (h | h) <;> first | exact .inl h | exact .inr h.symm)
        (Nat.or_lt_two_pow (n := 6) hub (Nat.pow_lt_pow_right (by omega) (by omega))))
    have HHAS := Lib.hid (fun v (hv : v < A.length) X => has_q used v (by omega) (by omega) X)
    have HUB := Lib.hid hu
    have HBY := Lib.hid (fun v hv => @bK_yes A m o b v hv)
    have HBN := Lib.hid (fun v hv => @bK_no A m o b v hv)
    have HB0 : Hid (bK A m o b 0 = b) := Lib.hid rfl
    have HBE : Hid ((dfs A.length (m + 1) o).foldl (lstep A) b = bK A m o b A.length) := Lib.hid rfl
    have hol : o.length < A.length := by omega
    have c1 : ∀ X, Grew W X → X.cell? ⟨bO, 0, none⟩ = some (.slice A2 o.length cc) := fun X hX => by rw [blk_cell ((hX.block (blk_ltM h.hO)).trans h.hO)]; rfl
    have c2 : ∀ X, Grew W X → X.cell? ⟨bN, 0, none⟩ = some (.int .i64 (A.length : Int)) := fun X hX => by rw [blk_cell ((hX.block (blk_ltM h.hN)).trans h.hN)]; rfl
    have KS := Lib.hid (fun (X : World) => sizeI_q A2 o.length cc (by omega) X)
    have hq : ((o.length : Int) == (A.length : Int)) = false := by rw [beq_eq_false_iff_ne]; omega
    have HGT := Lib.hid (fun (X : World) (o' b' : List Nat) (vO' vb' : Value) (hX : GS w0 A bA bB bN bF bO bG Bo va vF vG X o' vO' b' vb') => And.intro (show X.cell? ⟨bO, 0, none⟩ = some vO' by rw [blk_cell hX.hO]; rfl) (And.intro (show X.cell? ⟨bN, 0, none⟩ = some (.int .i64 (A.length : Int)) by rw [blk_cell hX.hN]; rfl) (And.intro (show X.cell? ⟨bG, 0, none⟩ = some vG by rw [blk_cell hX.hG]; rfl) (show X.frozen? ⟨bO, 0, none⟩ = false from blk_frozen hX.hO 0))))
    have HXX := Lib.hid hx
    clear h hl hnd hlt hu ih hva hA hx hf
    generalize A.length = n at *
    have r1 := Grew.refl W
    have r2 := (Grew.refl W).drew
    go_enter Tryz.func120, Tryz.ntmps120
    go_wp2_with fail
    go_quiet ((go_at_call 83; exact Calls.quiet_of_same (KS.out _)))
    have HG2 := Lib.hid (fun q => HGS.out.up ((Grew.refl W).drewN q))
    have g1 := fun q => (HGT.out _ _ _ _ _ (HG2.out q)).2.1
    go_wp2_with fail
    go_loopw [6, 15] (fun _ i wr => ∃ (k : Nat) (vO' vb' : Value), k ≤ n ∧ i = .int .i64 k ∧ Hid (GS w0 A bA bB bN bF bO bG Bo va vF vG wr o vO' (bK A m o b k) vb')) (fun _ i _ => n - (intOf i).toNat)
    case atStart => exact ⟨0, _, _, by omega, rfl, Lib.hid (by rw [HB0.out]; exact HG2.out _)⟩
    case round =>
      obtain ⟨k, vO', vb', hk, rfl, hG⟩ := hrel
      by_cases hlk : k < n
      · have hh := Lib.hid (HHAS.out k hlk)
        rw [HUB.out k] at hh
        by_cases hko : k ∈ o
        · rw [decide_eq_true hko] at hh
          have HN := Lib.hid (HBY.out k hko)
          clear hko
          go_wp2_with fail
          refine (hh.out _).mono ?_
          rintro e w3 ⟨rfl, rfl⟩
          go_wp2_with fail
          go_roundw
          case rel => exact ⟨k + 1, _, _, by omega, by go_num, Lib.hid (by rw [HN.out]; exact hG.out)⟩
          case measure => simp [intOf]; omega
        · rw [decide_eq_false hko] at hh
          have HN := Lib.hid (HBN.out k hko)
          have HC := Lib.hid (HNC.out k hlk hko)
          clear hko
          have g1 := (HGT.out _ _ _ _ _ hG.out).1
          go_wp2_with fail
          refine (hh.out _).mono ?_
          rintro e w3 ⟨rfl, rfl⟩
          have hG4 := hG.out.up ((Grew.refl w3).alloc (.cells #[.int .i64 (k : Int)] 2))
          have hol6 : (zs o).length ≤ 1048576 := by rw [zs_len]; omega
          have hBo : Bo ≤ (w3.alloc (.cells #[.int .i64 (k : Int)] 2)).heap.size := by have h1 := hG4.own; have h2 := blk_ltM hG4.hO; have h3 := HXX.out.bo; omega
          have HAP := Lib.hid (fun (w7 : World) (v7 : Value) h1 h2 h3 => hG4.app (W' := w7) (vO' := v7) (L := zs o ++ [(k : Int)]) HXX.out hBo h1 h2 h3)
          have HOW := Lib.hid hG4.own
          have HFR := Lib.hid (fun (w7 : World) (v7 : Value) (h2 : w7.heap[bO]? = some (.cells #[v7] 24 (0, 0))) => blk_frozen h2 0)
          have HCE := Lib.hid (fun (w7 : World) (v7 : Value) (h2 : w7.heap[bO]? = some (.cells #[v7] 24 (0, 0))) => show w7.cell? ⟨bO, 0, none⟩ = some v7 by rw [blk_cell h2]; rfl)
          have HEQ : Hid (zs o ++ [(k : Int)] = zs (o ++ [k])) := Lib.hid (by rw [zs_append]; rfl)
          have HNL : Hid ((o ++ [k]).length = o.length + 1) := Lib.hid (by simp)
          clear hG4
          go_wp2_with (at_builtin
                       refine wpList_appIBL Bo _ _ rfl rfl _ (zs o) rfl HOW.out hBo _ (k : Int) rfl (rd_litI _ _ _) hol6 ?_
                       intro v7 w7 hO7 hg7 hl7
                       rw [HEQ.out] at hO7
                       obtain ⟨A7, c7, rfl⟩ := ints_sliceN hO7.ints
                       rw [HNL.out] at hO7 hl7 ⊢
                       have H7 := HAP.out w7 (.slice A7 (o.length + 1) c7) hg7 (by rw [HEQ.out]; exact hO7) hl7
                       have hf7 := HFR.out _ _ H7.2
                       have hc7 := HCE.out _ _ H7.2
                       have H8 := H7.1 _ HEQ.out
                       have g7 := HGT.out _ _ _ _ _ H8
                       have H9 := Lib.hid H8
                       have H10 := Lib.hid hO7
                       clear hO7 hg7 hl7 H7 H8)
          have HC2 := Lib.hid (fun (X : World) (hX : GS w0 A bA bB bN bF bO bG Bo va vF vG X (o ++ [k]) (.slice A7 (o.length + 1) c7) (bK A m o b k) vb') => HC.out _ _ _ X hX)
          have hGd := H9.out.up (Grew.refl _).drew
          have hGx : GSx w0 A bA bB bN bF bO bG Bo va vF vG _ := ⟨_, _, _, _, hGd⟩
          have x0 : ∀ X, GSx w0 A bA bB bN bF bO bG Bo va vF vG X → X.cell? ⟨bG, 0, none⟩ = some vG := fun X hX => by
            obtain ⟨o', vO', b', vb', hX⟩ := hX
            exact (HGT.out _ _ _ _ _ hX).2.2.1
          have ho := or_i64 used (2 ^ k) (by omega) (Nat.lt_trans (pow30 (by omega)) (by omega))
          have hp := wrap_pow (k := k) (by omega)
          have hp2 : IntKind.i64.wrap (2 ^ k) = ((2 ^ k : Nat) : Int) := wrapI_pow (by omega)
          have i3 : (0 : Int) ≤ (k : Int) := by omega
          have i4 : (k : Int) < (n : Int) := by omega
          have HG0 := Lib.hid hg
          subst hg
          clear c1 c2 g1 hc7 hf7 HC
          obtain ⟨P, hP⟩ : ∃ P, P = 2 ^ k := ⟨_, rfl⟩
          rw [← hP] at ho hp hp2 HC2
          clear hP
          generalize bK A m o b k = bk at *
          generalize w7.setCell ⟨bO, 0, none⟩ (.slice A7 (o.length + 1) c7) = w8 at *
          go_region_held3 (fun (w' : World) => GSx w0 A bA bB bN bF bO bG Bo va vF (.func (.func 120) #[] #[.pointer (some ⟨bO, 0, none⟩), .pointer (some ⟨bN, 0, none⟩), .pointer (some ⟨bF, 0, none⟩), .pointer (some ⟨bG, 0, none⟩)]) w') (first | assumption | exact GSx.drew ‹_›) (first
            | (go_at_call 120; refine Calls.mono (HC2.out _ (by assumption)) ?_; rintro e w9 ⟨⟨v9, rfl⟩, vO9, vb9, h9⟩; have hx9 : GSx w0 A bA bB bN bF bO bG Bo va vF (.func (.func 120) #[] #[.pointer (some ⟨bO, 0, none⟩), .pointer (some ⟨bN, 0, none⟩), .pointer (some ⟨bF, 0, none⟩), .pointer (some ⟨bG, 0, none⟩)]) w9 := ⟨_, _, _, _, h9⟩))
          clear hx9 x0 hGd hGx
          obtain ⟨A9, c9, rfl⟩ := ints_sliceN h9.own.ints
          rw [HNL.out] at h9
          have g9 := HGT.out _ _ _ _ _ h9
          have hown := h9.own
          have hcap := OwnI.capI hown
          have ht : OwnI w9 Bo (.slice A9 o.length c9) (zs o) := by
            have h0 := hown.take (by rw [zs_len]; exact HNL.out)
            rwa [← HEQ.out, List.take_left' (zs_len o)] at h0
          have hsub : wrap64 (((o.length + 1 : Nat) : Int) - 1) = (o.length : Int) := by rw [wrap64]; omega
          have hsub2 : IntKind.i64.wrap (((o.length + 1 : Nat) : Int) - 1) = (o.length : Int) := by rw [IntKind.wrap_i64]; omega
          have HS := Lib.hid (h9.setO HXX.out ht (fun g hgg => h9.apart g (by cases A9 <;> first | exact hgg | (simp [Value.ownBlock] at hgg))))
          have HBE2 := HBE
          clear hown ht h9 H9 H10
          go_wp2_with fail
          go_roundw
          case rel => exact ⟨k + 1, _, _, by omega, by go_num, Lib.hid (by rw [HN.out]; exact HS.out)⟩
          case measure => simp [intOf]; omega
      · obtain rfl : k = n := by omega
        go_wp2_with fail
        go_end0
        exact ⟨⟨_, rfl⟩, _, _, by rw [HBE.out]; exact hG.out⟩
end Go.Proofs.YtmcbjekianclpaaGreat

/- Valuations, plain: the lists that give each of some variables a value of a list, in ascending order. No program is in sight. -/
namespace Go.Proofs.YtmcbjekianclpaaGreat

/-- The lists that differ from cur at the variables vs alone, where they have values out of U, in order. -/
def fs (U : List Nat) : List Nat → List Nat → List (List Nat)
  | [], cur => [cur]
  | v :: vs, cur => U.flatMap fun u => fs U vs (cur.set v u)
theorem fs_congr (U : List Nat) : ∀ (vs cur cur' : List Nat), cur.length = cur'.length → (∀ i, i ∉ vs → cur[i]? = cur'[i]?) → fs U vs cur = fs U vs cur'
  | [], cur, cur', hl, h => by
    have : cur = cur' := List.ext_getElem? fun i => h i (by simp)
    rw [this]
  | v :: vs, cur, cur', hl, h => by
    show (U.flatMap fun u => fs U vs (cur.set v u)) = U.flatMap fun u => fs U vs (cur'.set v u)
    refine congrArg (fun f => U.flatMap f) (funext fun u => fs_congr U vs _ _ (by simp [hl]) fun i hi => ?_)
    by_cases hiv : v = i
    · subst hiv
      simp [List.getElem?_set, hl]
    · rw [List.getElem?_set_ne hiv, List.getElem?_set_ne hiv]
      exact h i (by simp [hi]; omega)
def lf (f : Nat → Nat) : List Nat := (List.range 6).map f
theorem lf_len (f : Nat → Nat) : (lf f).length = 6 := by simp [lf]
theorem lf_get (f : Nat → Nat) {i : Nat} (h : i < 6) : (lf f)[i]? = some (f i) := by simp [lf, h]
theorem lf_set (f : Nat → Nat) (v u : Nat) : (lf f).set v u = lf (fun i => if i = v then u else f i) := by
  apply List.ext_getElem?
  intro i
  by_cases hi : i < 6
  · rw [lf_get _ hi]
    by_cases hv : v = i
    · subst hv
      rw [List.getElem?_set_self (by rw [lf_len]; exact hi), if_pos rfl]
    · rw [List.getElem?_set_ne hv, lf_get _ hi, if_neg (fun h => hv h.symm)]
  · rw [List.getElem?_eq_none (by rw [List.length_set, lf_len]; omega), List.getElem?_eq_none (by rw [lf_len]; omega)]
/-- Two rows agree off the variables. -/
def Off (vs : List Nat) (f f' : Nat → Nat) : Prop := ∀ i, i < 6 → i ∉ vs → f' i = f i
theorem fs_off {U vs : List Nat} {f f' : Nat → Nat} (h : Off vs f f') : fs U vs (lf f') = fs U vs (lf f) := by
  refine fs_congr U vs _ _ (by simp [lf_len]) fun i hi => ?_
  by_cases h6 : i < 6
  · rw [lf_get _ h6, lf_get _ h6, h i h6 hi]
  · rw [List.getElem?_eq_none (by rw [lf_len]; omega), List.getElem?_eq_none (by rw [lf_len]; omega)]
theorem Off.set {v u : Nat} {vs : List Nat} {f f' : Nat → Nat} (h : Off (v :: vs) f f') : Off vs (fun i => if i = v then u else f i) (fun i => if i = v then u else f' i) := by
  intro i h6 hi
  by_cases hv : i = v
  · show (if i = v then u else f' i) = (if i = v then u else f i)
    rw [if_pos hv, if_pos hv]
  · show (if i = v then u else f' i) = (if i = v then u else f i)
    rw [if_neg hv, if_neg hv]
    exact h i h6 (by simp [hv, hi])
theorem Off.back {v u : Nat} {vs : List Nat} {f f' f'' : Nat → Nat} (h : Off (v :: vs) f f') (k : Off vs (fun i => if i = v then u else f' i) f'') : Off (v :: vs) f f'' := by
  intro i h6 hi
  rw [List.mem_cons, not_or] at hi
  have := k i h6 hi.2
  rw [this]
  show (if i = v then u else f' i) = f i
  rw [if_neg hi.1]
  exact h i h6 (by simp [hi.1, hi.2])
theorem Off.refl (vs : List Nat) (f : Nat → Nat) : Off vs f f := fun _ _ _ => rfl
theorem fs_good {P : Nat → Prop} {U : List Nat} (hU : ∀ u ∈ U, P u) : ∀ (vs cur : List Nat), cur.length = 6 → (∀ m ∈ cur, P m) → ∀ x ∈ fs U vs cur, x.length = 6 ∧ ∀ m ∈ x, P m
  | [], cur, hl, h, x, hx => by
    rw [List.mem_singleton.1 hx]
    exact ⟨hl, h⟩
  | v :: vs, cur, hl, h, x, hx => by
    obtain ⟨u, hu, hx⟩ := List.mem_flatMap.1 hx
    refine fs_good hU vs (cur.set v u) (by simp [hl]) (fun m hm => ?_) x hx
    rcases List.mem_or_eq_of_mem_set hm with h1 | h1
    · exact h m h1
    · rw [h1]; exact hU u hu
end Go.Proofs.YtmcbjekianclpaaGreat

/- A range over a function whose iterator hands out a row of its own that it writes anew between two rounds: the law of the loop's walk. No program is in sight. -/
namespace Go.Proofs.YtmcbjekianclpaaGreat
open Go.RowKit

/-- What a round that goes on keeps: all blocks but the loop's record. -/
def KeptBut (l : Nat) (W W' : World) : Prop := W.heap.size ≤ W'.heap.size ∧ ∀ i, i < W.heap.size → i ≠ l → W'.heap[i]? = W.heap[i]?
theorem KeptBut.refl (l : Nat) (W : World) : KeptBut l W W := ⟨Nat.le_refl _, fun _ _ _ => rfl⟩
theorem KeptBut.trans {l : Nat} {X Y Z : World} (h : KeptBut l X Y) (k : KeptBut l Y Z) : KeptBut l X Z :=
  ⟨Nat.le_trans h.1 k.1, fun i hi hl => (k.2 i (Nat.lt_of_lt_of_le hi h.1) hl).trans (h.2 i hi hl)⟩
theorem KeptBut.grew {l : Nat} {X Y : World} (h : Grew X Y) : KeptBut l X Y := ⟨h.size, fun _ hl _ => h.block hl⟩
theorem KeptBut.putObj (W : World) (l : Nat) (o : Obj) : KeptBut l W (W.putObj l o) :=
  ⟨by simp, fun i _ hi => World.putObj_heap_other hi⟩

/-- The iterator's word: it hands out rows v that read as x (Rv), one after another, of a list that S tells (all) or Sp tells (where a round has said 'no more'). -/
def SeqV {α : Type} (P : Program) (gf : Nat) (lb : Array Value) (Rv : World → Value → α → Prop) (S Sp : List α → Prop) (w0 : World) : Prop :=
  ∀ (n l : Nat) (J Jx : List α → World → Prop) (W : World), Grew w0 W → w0.heap.size ≤ l → l < W.heap.size →
    (∀ s A A', J s A → Below W.heap.size A A' → J s A') → (∀ s A A', Jx s A → Below W.heap.size A A' → Jx s A') →
    (∀ m pre x v A, J pre A → Rv A v x → YieldAt Fence.wide m P l #[v] A fun e A' =>
      (e = .returned (.bool true) ∧ J (pre ++ [x]) A' ∧ KeptBut l A A') ∨ (e = .returned (.bool false) ∧ Jx (pre ++ [x]) A')) →
    J [] W →
    CallsIn Fence.wide n P gf (#[.func (.yield l) #[] #[]] ++ lb) W fun e W' => (∃ v, e = .returned v) ∧ ((∃ xs, S xs ∧ J xs W') ∨ (∃ pre, Sp pre ∧ Jx pre W'))

/-- How the body of a round may be left. -/
def vPost {α : Type} (I : List α → World → Prop) (Ix : List α → World → Prop) (xs : List α) (W : World) : Exit → Act → World → Prop
  | .normal, _, W' => Grew W W' ∧ I xs W'
  | .ret, _, W' => KeepsOthers W W' ∧ Ix xs W'
  | _, _, _ => False

theorem below_putObj {B : Nat} {W : World} {l : Nat} {o : Obj} (o' : Obj) (hB : B ≤ l) (h : W.heap[l]? = some o) : Below B W (W.putObj l o') :=
  (Below.refl B W).grown (grownBy_putObj' W l o') (by have := (Array.getElem?_eq_some_iff.1 h).1; omega) (fun k e => by cases e; omega)
/-- What is read of cells stands where an object that is no cells is turned. -/
theorem rd_putObj {W : World} {k n : Nat} {v : Value} {xs : List Value} {l : Nat} {o : Obj} (o' : Obj) (h : Rd W k v n xs) (hl : W.heap[l]? = some o) (ho : o.isCells = false) : Rd (W.putObj l o') k v n xs := by
  obtain ⟨h1, h2, h3⟩ := h
  refine ⟨h1, h2, ?_⟩
  rcases h3 with ⟨h4, h5⟩ | ⟨b, of, c, h4, h5, h6, h7, h8⟩
  · exact .inl ⟨h4, h5⟩
  · exact .inr ⟨b, of, c, h4, h5, h6, by simpa using h7, fun j x hx => cell_kept (h8 j x hx) (grownBy_putObj' W l o') (fun r e => by cases e; exact ⟨o, hl, ho⟩)⟩

theorem wpIn_rangeV {P : Program} {α : Type} {n : Nat} {g : Operand} {ps : Array Tmp} {assign body : Go.Code} {Q : Exit → Act → World → Prop} {a : Act} {w : World}
    {gf : Nat} {lb : Array Value} (hg : a.eval g = .func (.func gf) #[] lb) (eg : ∀ args w, (callFunc gf args).run P w = .ok (.enter gf args) w)
    {Rv : World → Value → α → Prop} (hRv : ∀ W v x l o o', Rv W v x → W.heap[l]? = some o → o.isCells = false → Rv (W.putObj l o') v x)
    {S Sp : List α → Prop} {w0 : World} (hseq : SeqV P gf lb Rv S Sp w0) (hw0 : Grew w0 w) (hps : ps.size = 1)
    (I Ix : List α → World → Prop) (hI : ∀ s A A', I s A → Below w.heap.size A A' → I s A') (hIx : ∀ s A A', Ix s A → Below w.heap.size A A' → Ix s A') (h0 : I [] w) (a₁ : Value → Act)
    (hassign : ∀ (l m : Nat) (v : Value) (W : World) (K : Act → World → Prop), K (a₁ v) W →
      assign.wpIn (Fence.wide.inRound l) m P (Exit.then K (fun _ _ _ => False)) { tmps := (ps.zip #[v]).foldl (fun t (p, v) => t.setIfInBounds p v) a.tmps, defers := [] } W)
    (hbody : ∀ (l m : Nat) (pre : List α) (x : α) (v : Value) (W : World), I pre W → Rv W v x → w.heap.size ≤ W.heap.size → body.wpIn (Fence.wide.inRound l) m P (vPost I Ix (pre ++ [x]) W) (a₁ v) W)
    (hdone : ∀ (D : Nat) (xs : List α) (W : World), w.heap.size ≤ D → S xs → I xs W → W.heap[D]? = some (.deferred (some [])) → Q .normal { a with defers := { target := .collected D, args := #[] } :: a.defers } W)
    (hstop : ∀ (D : Nat) (pre : List α) (W : World), w.heap.size ≤ D → Sp pre → Ix pre W → W.heap[D]? = some (.deferred (some [])) → Go.Code.ret.wpIn Fence.wide n P Q { a with defers := { target := .collected D, args := #[] } :: a.defers } W) :
    (Go.Code.rangeFunc g ps assign body).wpIn Fence.wide n P Q a w := by
  refine wpIn_rangeFunc ?_
  intro fn hfn
  show ∃ l mark w₁ d w₁' f args w₂, (Instr.enterLoop fn a.tmps ps assign body none).run P w = _ ∧ _
  obtain ⟨rec, hrec⟩ : ∃ rec : LoopState → Option Go.Code → Loop, rec = fun st pe => { state := st, pending := pe, fn, tmps := a.tmps, params := ps, assign, body, defers := w.heap.size } := ⟨_, rfl⟩
  obtain ⟨W1, hW1⟩ : ∃ W1, (w.alloc (.deferred (some []))).alloc (.loop (rec .ready none)) = W1 := ⟨_, rfl⟩
  have hL1 : W1.heap[w.heap.size + 1]? = some (.loop (rec .ready none)) := by
    rw [← hW1]; have := World.alloc_heap_new (w.alloc (.deferred (some []))) (.loop (rec .ready none)); rwa [World.size_alloc] at this
  have hK1 : W1.heap[w.heap.size]? = some (.deferred (some [])) := by
    rw [← hW1]; exact (Below.heap_alloc _ _ _ (by simp)).trans (World.alloc_heap_new w _)
  have hg1 : Grew w W1 := by rw [← hW1]; exact ((Grew.refl w).alloc _).alloc _
  have hs1 : W1.heap.size = w.heap.size + 2 := by rw [← hW1]; simp
  have hI1 : I [] W1 := hI _ _ _ h0 hg1
  refine ⟨w.heap.size + 1, [{ target := .collected w.heap.size, args := #[] }], W1, { target := .fn (.func gf) lb, args := #[.func (.yield (w.heap.size + 1)) #[] #[]] }, W1, gf,
    #[.func (.yield (w.heap.size + 1)) #[] #[]] ++ lb, W1, ?_, ?_, ?_, ?_, fun h => by simp [Fence.wide] at h, ?_⟩
  · rw [← hW1, hrec]; exact run_enterLoop_outer _ _ _ _ _
  · simp only [resolve, hg]
    simp [go_sem]
  · intro f' hf'; trivial
  · simp [invoke, go_sem, eg]
  · have abide : ∀ {A A' : World} {k : Nat} {o : Obj}, k < w.heap.size + 2 → Below W1.heap.size A A' → A.heap[k]? = some o → A'.heap[k]? = some o := fun hk hb h => (hb.block _ (by omega)).trans h
    refine (hseq (n - 1) (w.heap.size + 1)
      (fun pre W => I pre W ∧ W.heap[w.heap.size + 1]? = some (.loop (rec .ready none)) ∧ W.heap[w.heap.size]? = some (.deferred (some [])))
      (fun pre W => Ix pre W ∧ W.heap[w.heap.size + 1]? = some (.loop (rec .done (some .ret))) ∧ W.heap[w.heap.size]? = some (.deferred (some [])))
      W1 (hw0.trans hg1) (by have := hw0.size; omega) (by omega)
      (fun s A A' hs hb => ⟨hI s A A' hs.1 (hb.mono (by omega)), abide (by omega) hb hs.2.1, abide (by omega) hb hs.2.2⟩)
      (fun s A A' hs hb => ⟨hIx s A A' hs.1 (hb.mono (by omega)), abide (by omega) hb hs.2.1, abide (by omega) hb hs.2.2⟩)
      ?_ ⟨hI1, hL1, hK1⟩).mono ?_
    · rintro m pre x v W ⟨hi, hl, hk⟩ hv
      have hlt : w.heap.size + 1 < W.heap.size := (Array.getElem?_eq_some_iff.1 hl).1
      have hy := run_yield (P := P) (args := #[v]) hl (by rw [hrec]; simp [hps])
      rw [hrec] at hy
      refine ⟨fn, _, assign, body, hy, roundIn_of_wpIn hfn (hassign _ m v W _ ⟨_, run_beginRound hl (by rw [hrec]), ?_⟩)⟩
      have hl2 : (W.putObj (w.heap.size + 1) (.loop { rec .ready none with state := .busy })).heap[w.heap.size + 1]? = some (.loop { rec .ready none with state := .busy }) := World.putObj_heap_same hlt
      have hk2 : (W.putObj (w.heap.size + 1) (.loop { rec .ready none with state := .busy })).heap[w.heap.size]? = some (.deferred (some [])) := (World.putObj_heap_other (by omega)).trans hk
      refine wpIn_mono (hbody _ m pre x v _ (hI _ _ _ hi (below_putObj _ (by omega) hl)) (hRv _ _ _ _ _ _ hv hl rfl) (by simp; omega)) ?_
      have fin : ∀ (jump : Option Go.Code) (W3 : World), W3.heap[w.heap.size + 1]? = some (.loop { rec .ready none with state := .busy }) → W3.heap[w.heap.size]? = some (.deferred (some [])) →
          (Instr.endRound (w.heap.size + 1) jump).run P W3 = .ok (.bool jump.isNone) (W3.putObj (w.heap.size + 1) (.loop (rec (if jump.isNone then .ready else .done) jump))) ∧
          (W3.putObj (w.heap.size + 1) (.loop (rec (if jump.isNone then .ready else .done) jump))).heap[w.heap.size + 1]? = some (.loop (rec (if jump.isNone then .ready else .done) jump)) ∧
          (W3.putObj (w.heap.size + 1) (.loop (rec (if jump.isNone then .ready else .done) jump))).heap[w.heap.size]? = some (.deferred (some [])) := fun jump W3 hl3 hk3 => by
        have := run_endRound (P := P) jump hl3
        rw [hrec] at this ⊢
        exact ⟨this, World.putObj_heap_same (Array.getElem?_eq_some_iff.1 hl3).1, (World.putObj_heap_other (by omega)).trans hk3⟩
      rintro e a3 W3 hp
      cases e with
      | normal =>
        obtain ⟨hg3, hi3⟩ := hp
        have hl3 := (hg3.block (k := w.heap.size + 1) (by simp; omega)).trans hl2
        obtain ⟨hr, hl4, hk4⟩ := fin none W3 hl3 ((hg3.block (k := w.heap.size) (by simp; omega)).trans hk2)
        exact ⟨_, _, hr, .inl ⟨rfl, ⟨hI _ _ _ hi3 (below_putObj _ (by omega) hl3), hl4, hk4⟩, ((KeptBut.putObj W _ _).trans (KeptBut.grew hg3)).trans (KeptBut.putObj W3 _ _)⟩⟩
      | ret =>
        obtain ⟨hk3, hi3⟩ := hp
        have hl3 := hk3.same _ _ hl2 rfl
        obtain ⟨hr, hl4, hk4⟩ := fin (some .ret) W3 hl3 (hk3.same _ _ hk2 rfl)
        exact ⟨_, _, hr, .inr ⟨rfl, hIx _ _ _ hi3 (below_putObj _ (by omega) hl3), hl4, hk4⟩⟩
      | exit id => exact hp.elim
      | goto t => exact hp.elim
      | panic ch => exact hp.elim
      | outgrown => exact hp.elim
    · rintro e W2 ⟨⟨v, rfl⟩, (⟨xs, hS, hi, hl, hk⟩ | ⟨pre, hSp, hi, hl, hk⟩)⟩
      · exact ⟨none, _, by have := run_endLoop (P := P) hl (by rw [hrec]; simp); rw [hrec] at this; exact this, hdone _ xs _ (Nat.le_refl _) hS (hI _ _ _ hi (below_putObj _ (by omega) hl)) ((World.putObj_heap_other (by omega)).trans hk)⟩
      · exact ⟨some .ret, _, by have := run_endLoop (P := P) hl (by rw [hrec]; simp); rw [hrec] at this; exact this, hstop _ pre _ (Nat.le_refl _) hSp (hIx _ _ _ hi (below_putObj _ (by omega) hl)) ((World.putObj_heap_other (by omega)).trans hk)⟩
end Go.Proofs.YtmcbjekianclpaaGreat

/- The program's iterator over valuations of a poset (Poset.valuations and its closures): it hands out fs U vars zeros. -/
namespace Go.Proofs.YtmcbjekianclpaaGreat
open Go.RowKit
attribute [local go_sem] Oper.semAt_some

/-- The iterator's own memory through its rounds: all that lay in W0 but the record and the row of values. -/
def KB (W0 : World) (l gv : Nat) (W : World) : Prop := W0.heap.size ≤ W.heap.size ∧ ∀ i, i < W0.heap.size → i ≠ l → i ≠ gv → W.heap[i]? = W0.heap[i]?
theorem KB.refl (W : World) (l gv : Nat) : KB W l gv W := ⟨Nat.le_refl _, fun _ _ _ _ => rfl⟩
theorem KB.kept {W0 W W' : World} {l gv : Nat} (h : KB W0 l gv W) (k : KeptBut l W W') : KB W0 l gv W' :=
  ⟨Nat.le_trans h.1 k.1, fun i hi hl hg => (k.2 i (Nat.lt_of_lt_of_le hi h.1) hl).trans (h.2 i hi hl hg)⟩
theorem KB.set {W0 W : World} {l gv o : Nat} (h : KB W0 l gv W) (u : Value) : KB W0 l gv (W.setCell ⟨gv, o, none⟩ u) :=
  ⟨Nat.le_trans h.1 (by simp), fun i hi hl hg => (Below.heap_setCell W ⟨gv, o, none⟩ u i hg).trans (h.2 i hi hl hg)⟩
theorem KB.drew {W0 W : World} {l gv : Nat} (h : KB W0 l gv W) : KB W0 l gv W.drew := h
theorem KB.cell {W0 W : World} {l gv : Nat} (h : KB W0 l gv W) {p : Addr} (hp : p.block < W0.heap.size) (hl : p.block ≠ l) (hg : p.block ≠ gv) : W.cell? p = W0.cell? p :=
  World.cell?_of_block (h.2 _ hp hl hg)
theorem NRow.kept {W W' : World} {l g n c : Nat} {f : Nat → Nat} (h : NRow W g n c f) (k : KeptBut l W W') (hne : g ≠ l) : NRow W' g n c f := by
  have hl := h.lt
  obtain ⟨cur, h1, h2⟩ := h
  exact ⟨cur, (k.2 _ hl hne).trans h1, h2⟩
theorem below_set {B : Nat} {W : World} {g o : Nat} (u : Value) (h : B ≤ g) : Below B W (W.setCell ⟨g, o, none⟩ u) := (Below.refl B W).setCell (p := ⟨g, o, none⟩) h u

/-- How the closure ends: all have come, or a round has said 'no more'. -/
def FillPost (U vs : List Nat) (f : Nat → Nat) (J Jx : List (List Nat) → World → Prop) (W0 : World) (l gv : Nat) (pre : List (List Nat)) (e : Ending) (W' : World) : Prop :=
  (e = .returned (.bool true) ∧ J (pre ++ fs U vs (lf f)) W' ∧ KB W0 l gv W' ∧ ∃ f', NRow W' gv 6 6 f' ∧ Off vs f f') ∨
  (e = .returned (.bool false) ∧ ∃ q, q <+: fs U vs (lf f) ∧ Jx (pre ++ q) W')

set_option maxHeartbeats 1000000 in
theorem fill_c (G : List Nat → Prop) (U vars : List Nat) (l gv bV bY bS bU bF : Nat) (W0 : World) (J Jx : List (List Nat) → World → Prop) (B : Nat) (vV vU : Value)
    (hJ : ∀ s A A', J s A → Below B A A' → J s A') (hB : B ≤ gv) (hlB : l < B)
    (hY : ∀ m pre x v A, J pre A → (Ints A v (zs x) ∧ G x) → YieldAt Fence.wide m Tryz.prog l #[v] A fun e A' => (e = .returned (.bool true) ∧ J (pre ++ [x]) A' ∧ KeptBut l A A') ∨ (e = .returned (.bool false) ∧ Jx (pre ++ [x]) A'))
    (cV : ∀ W, KB W0 l gv W → W.cell? ⟨bV, 0, none⟩ = some vV) (cY : ∀ W, KB W0 l gv W → W.cell? ⟨bY, 0, none⟩ = some (.func (.yield l) #[] #[]))
    (cS : ∀ W, KB W0 l gv W → W.cell? ⟨bS, 0, none⟩ = some (.slice (some ⟨gv, 0, none⟩) 6 6)) (cU : ∀ W, KB W0 l gv W → W.cell? ⟨bU, 0, none⟩ = some vU)
    (cF : ∀ W, KB W0 l gv W → W.cell? ⟨bF, 0, none⟩ = some (.func (.func 96) #[] #[.pointer (some ⟨bV, 0, none⟩), .pointer (some ⟨bY, 0, none⟩), .pointer (some ⟨bS, 0, none⟩), .pointer (some ⟨bU, 0, none⟩), .pointer (some ⟨bF, 0, none⟩)]))
    (hV : ∃ A c, vV = .slice A vars.length c ∧ ∀ k, k < vars.length → ∃ b o, A = some ⟨b, o, none⟩ ∧ ∀ W, KB W0 l gv W → W.cell? ⟨b, o + k, none⟩ = some (.int .i64 ((nt vars k : Nat) : Int)))
    (hU : ∃ A c, vU = .slice A U.length c ∧ ∀ k, k < U.length → ∃ b o, A = some ⟨b, o, none⟩ ∧ ∀ W, KB W0 l gv W → W.cell? ⟨b, o + k, none⟩ = some (.int .i64 ((nt U k : Nat) : Int)))
    (h6 : ∀ v ∈ vars, v < 6) (hvl : vars.length ≤ 6) (hul : U.length ≤ 256) :
    ∀ (vs : List Nat) (k : Nat), vars.drop k = vs → k + vs.length = vars.length → ∀ (n : Nat) (pre : List (List Nat)) (f : Nat → Nat) (W : World), KB W0 l gv W → J pre W → NRow W gv 6 6 f → (∀ x ∈ fs U vs (lf f), G x) →
      CallsIn Fence.wide n Tryz.prog 96 #[.int .i64 (k : Int), .pointer (some ⟨bV, 0, none⟩), .pointer (some ⟨bY, 0, none⟩), .pointer (some ⟨bS, 0, none⟩), .pointer (some ⟨bU, 0, none⟩), .pointer (some ⟨bF, 0, none⟩)] W (FillPost U vs f J Jx W0 l gv pre) := by
  obtain ⟨AV, nV, rfl, hVc⟩ := hV
  obtain ⟨AU, nU, rfl, hUc⟩ := hU
  intro vs
  induction vs with
  | nil =>
    intro k hk hlen n pre f W hKB hJp hR hG
    have hkl : k = vars.length := by simpa using hlen
    have hYY := hY
    obtain ⟨fn, tmps, assign, body, hy, hRd⟩ := hY (n - 1) pre (lf f) (.slice (some ⟨gv, 0, none⟩) 6 6) W hJp ⟨hR.ints, hG _ (List.mem_singleton.2 rfl)⟩
    have c1 := cV W hKB
    have c2 := cY W hKB
    have c3 := cS W hKB
    clear hY hYY cV cY cS cU cF hVc hUc
    subst hkl
    refine callsIn_of_wp Tryz.func96 rfl trivial ?_ rfl
    simp only [Tryz.ntmps96, List.size_toArray, List.length_cons, List.length_nil, Nat.reduceAdd, Nat.reduceSub, Array.replicate_succ, Array.replicate_zero, List.push_toArray, List.append_toArray, List.nil_append, List.cons_append]
    gi_wp2
    refine ⟨fun h => by simp [Fence.wide] at h, hRd.mono ?_⟩
    rintro e W3 (⟨rfl, hJ3, hk3⟩ | ⟨rfl, hJx3⟩)
    · gi_wp2
      go_ret
      exact .inl ⟨rfl, hJ3, hKB.kept hk3, f, hR.kept hk3 (by omega), Off.refl _ _⟩
    · gi_wp2
      go_ret
      exact .inr ⟨rfl, [lf f], List.prefix_refl _, hJx3⟩
  | cons v vs ih =>
    intro k hk hlen n pre f W hKB hJp hR hG
    have hkl : k < vars.length := by simp at hlen; omega
    have hv : nt vars k = v := by
      have h0 : (vars.drop k)[0]? = some v := by rw [hk]; rfl
      rw [List.getElem?_drop, Nat.add_zero] at h0
      simp [nt, List.getD, h0]
    have hv6 : v < 6 := by rw [← hv]; exact h6 _ (nt_mem hkl)
    have IH := Lib.hid (fun n pre f W => ih (k + 1) (by rw [← List.drop_drop, hk]; rfl) (by simp at hlen; omega) n pre f W)
    rw [show ((k + 1 : Nat) : Int) = (k : Int) + 1 from rfl] at IH
    have c1 := cV W hKB
    have c4 := cU W hKB
    obtain ⟨bv, ov, rfl, hVk⟩ := hVc k hkl
    rw [hv] at hVk
    have HU := Lib.hid hUc
    have HJA := Lib.hid hJ
    have HJ0 : Hid (J (pre ++ (U.take 0).flatMap (fun u => fs U vs ((lf f).set v u))) W) := Lib.hid (by simpa using hJp)
    have HR0 := Lib.hid hR
    have HK0 := Lib.hid hKB
    have HO0 := Lib.hid (Off.refl (v :: vs) f)
    have HGG := Lib.hid hG
    clear hG hY ih hJp hR hUc hk hv hlen hJ h6
    generalize vars.length = vl at *
    have hbe : ((k : Int) == (vl : Int)) = false := by simp; omega
    refine callsIn_of_wp Tryz.func96 rfl trivial ?_ rfl
    simp only [Tryz.ntmps96, List.size_toArray, List.length_cons, List.length_nil, Nat.reduceAdd, Nat.reduceSub, Array.replicate_succ, Array.replicate_zero, List.push_toArray, List.append_toArray, List.nil_append, List.cons_append]
    gi_wp2
    gi_loopw [19] (fun i wr => ∃ (j : Nat) (f' : Nat → Nat), j ≤ U.length ∧ i = .int .i64 j ∧ Hid (KB W0 l gv wr) ∧ Hid (J (pre ++ (U.take j).flatMap (fun u => fs U vs ((lf f).set v u))) wr) ∧ Hid (NRow wr gv 6 6 f') ∧ Hid (Off (v :: vs) f f')) (fun i _ => U.length - (intOf i).toNat)
    case atStart => exact ⟨0, f, Nat.zero_le _, rfl, HK0, HJ0, HR0, HO0⟩
    case round =>
      obtain ⟨j, f', hj, rfl, hK, hJj, hR, hO⟩ := hrel
      by_cases hlt : j < U.length
      · obtain ⟨bu, ou, rfl, hUk⟩ := HU.out j hlt
        have hK1 := hK.out
        have hK2 := hK.out.drew
        have c6 : ∀ A, Grew wr A → A.cell? ⟨gv, v, none⟩ = some (.int .i64 ((f' v : Nat) : Int)) := fun A hA => (hR.out.grew hA).cell hv6
        have c7 : ∀ A, Grew wr A → A.frozen? ⟨gv, v, none⟩ = false := fun A hA => (hR.out.grew hA).free v
        have r1 := Grew.refl wr
        have r2 := (Grew.refl wr).drew
        have hb0 : (0 : Int) ≤ (k : Int) := by omega
        have hb1 : (k : Int) < (vl : Int) := by omega
        have hb2 : (0 : Int) ≤ (v : Int) := by omega
        have hb3 : (v : Int) < 6 := by omega
        have e1 : (fun q => if q = v then nt U j else f' q) v = nt U j := if_pos rfl
        have e2 : ∀ q, q < 6 → q ≠ v → (fun q => if q = v then nt U j else f' q) q = f' q := fun q _ hq => if_neg hq
        have hR3 := Lib.hid ((hR.out.set hv6 e1 e2).grew (Grew.refl _).drew)
        have hK3 := (hK.out.set (o := v) (.int .i64 ((nt U j : Nat) : Int))).drew
        have hJ3 := Lib.hid (HJA.out _ _ _ hJj.out ((below_set (o := v) (.int .i64 ((nt U j : Nat) : Int)) hB).drew))
        have hO3 := Lib.hid (hO.out.set (u := nt U j))
        clear e1 e2
        gi_wp2
        gi_region
        gi_wp2
        refine ⟨trivial, fun h => by simp [Fence.wide] at h, (IH.out _ _ _ _ hK3 hJ3.out hR3.out (fun x hx => HGG.out x (by rw [fs_off (U := U) hO3.out, ← lf_set] at hx; exact List.mem_flatMap.2 ⟨_, nt_mem hlt, hx⟩))).mono ?_⟩
        rintro e W4 (⟨rfl, hJ4, hK4, f4, hR4, hO4⟩ | ⟨rfl, q, hq, hJx4⟩)
        · have hJ5 : J (pre ++ (U.take (j + 1)).flatMap (fun u => fs U vs ((lf f).set v u))) W4 := by
            rw [fs_off (U := U) hO3.out, ← lf_set, List.append_assoc] at hJ4
            rw [take_succ_nt hlt, List.flatMap_append]
            simpa using hJ4
          have HJ5 := Lib.hid hJ5
          have HK4 := Lib.hid hK4
          have HR4 := Lib.hid hR4
          have HO4 := Lib.hid (hO.out.back hO4)
          clear hJ4 hJ5 hK4 hR4 hO4
          gi_wp2
          go_roundw
          case rel => exact ⟨j + 1, f4, by omega, by go_num, HK4, HJ5, HR4, HO4⟩
          case measure => simp [intOf]; omega
        · have hq2 : (U.take j).flatMap (fun u => fs U vs ((lf f).set v u)) ++ q <+: fs U (v :: vs) (lf f) := by
            rw [fs_off (U := U) hO3.out, ← lf_set] at hq
            obtain ⟨r, hr⟩ := hq
            refine ⟨r ++ (U.drop (j + 1)).flatMap (fun u => fs U vs ((lf f).set v u)), ?_⟩
            have e : U = U.take j ++ (nt U j :: U.drop (j + 1)) := by
              rw [← nt_get hlt, List.getElem_cons_drop, List.take_append_drop]
            refine Eq.trans ?_ (congrArg (fun L : List Nat => L.flatMap (fun u => fs U vs ((lf f).set v u))) e).symm
            show _ = (U.take j ++ (nt U j :: U.drop (j + 1))).flatMap (fun u => fs U vs ((lf f).set v u))
            rw [List.flatMap_append, List.flatMap_cons, ← hr]
            simp only [List.append_assoc]
          have HX : Hid (Jx (pre ++ ((U.take j).flatMap (fun u => fs U vs ((lf f).set v u)) ++ q)) W4) := Lib.hid (by rw [← List.append_assoc]; exact hJx4)
          have HQ := Lib.hid hq2
          clear hq2 hJx4 hq
          gi_wp2
          go_ret
          exact .inr ⟨rfl, _, HQ.out, HX.out⟩
      · obtain rfl : j = U.length := by omega
        have HJ6 : Hid (J (pre ++ fs U (v :: vs) (lf f)) wr) := Lib.hid (by have := hJj.out; rwa [List.take_length] at this)
        gi_wp2
        go_ret
        exact .inl ⟨rfl, HJ6.out, hK.out, f', hR.out, hO.out⟩

theorem alloc4 (w wa : World) (o1 o2 o3 o4 : Obj) (h : wa = (((w.alloc o1).alloc o2).alloc o3).alloc o4) : Grew w wa ∧ wa.heap.size = w.heap.size + 4 ∧ wa.heap[w.heap.size]? = some o1 ∧ wa.heap[w.heap.size + 1]? = some o2 ∧ wa.heap[w.heap.size + 1 + 1]? = some o3 ∧ wa.heap[w.heap.size + 1 + 1 + 1]? = some o4 := by
  obtain ⟨wb, hwb⟩ : ∃ wb, wb = ((w.alloc o1).alloc o2).alloc o3 := ⟨_, rfl⟩
  rw [← hwb] at h
  subst h
  have s1 : (w.alloc o1).heap.size = w.heap.size + 1 := by simp
  have s2 : ((w.alloc o1).alloc o2).heap.size = w.heap.size + 1 + 1 := by simp
  have s3 : wb.heap.size = w.heap.size + 1 + 1 + 1 := by rw [hwb]; simp
  have b1 := blk_new w o1
  have b2 := blk_new (w.alloc o1) o2
  have b3 := blk_new ((w.alloc o1).alloc o2) o3
  have b4 := blk_new wb o4
  rw [s1] at b2
  rw [s2] at b3
  rw [s3] at b4
  have g2 := (Grew.refl (w.alloc o1)).alloc o2
  have g3 := (Grew.refl ((w.alloc o1).alloc o2)).alloc o3
  have g4 := (Grew.refl wb).alloc o4
  rw [← hwb] at g3 b3
  refine ⟨?_, by simp [s3], ((g2.trans (g3.trans g4)).block (by omega)).trans b1, ((g3.trans g4).block (by omega)).trans b2, (g4.block (by omega)).trans b3, b4⟩
  exact (((Grew.refl w).alloc o1).trans (g2.trans g3)).trans g4

theorem kb_cells {w0 W0 : World} {l gv : Nat} {v : Value} {L : List Nat} (h : Ints w0 v (zs L)) (hg : Grew w0 W0) (hl : w0.heap.size ≤ l) (hgv : w0.heap.size ≤ gv) :
    ∃ A c, v = .slice A L.length c ∧ ∀ k, k < L.length → ∃ b o, A = some ⟨b, o, none⟩ ∧ ∀ W, KB W0 l gv W → W.cell? ⟨b, o + k, none⟩ = some (.int .i64 ((nt L k : Nat) : Int)) := by
  rcases h.open_ with ⟨rfl, h0⟩ | ⟨b, o, c, rfl, _, _, hb, hc⟩
  · have hL : L = [] := by
      have := congrArg List.length h0
      rw [zs_len] at this
      exact List.eq_nil_of_length_eq_zero this
    subst hL
    exact ⟨none, 0, rfl, fun k hk => absurd hk (by simp)⟩
  · rw [zs_len] at hc ⊢
    refine ⟨_, _, rfl, fun k hk => ⟨b, o, rfl, fun W hW => ?_⟩⟩
    have h1 := hc k hk W0 hg
    rw [zs_it hk] at h1
    have hs := hg.size
    exact (hW.cell (p := ⟨b, o + k, none⟩) (by show b < _; omega) (by show b ≠ l; omega) (by show b ≠ gv; omega)).trans h1

set_option maxHeartbeats 1000000 in
theorem valSeq_c (G : List Nat → Prop) (U vars : List Nat) (bV bU : Nat) (w0 : World) (vV vU : Value) (cV : w0.cell? ⟨bV, 0, none⟩ = some vV) (cU : w0.cell? ⟨bU, 0, none⟩ = some vU) (hbV : bV < w0.heap.size) (hbU : bU < w0.heap.size)
    (hV : Ints w0 vV (zs vars)) (hU : Ints w0 vU (zs U)) (h6 : ∀ v ∈ vars, v < 6) (hvl : vars.length ≤ 6) (hul : U.length ≤ 256) (hG : ∀ x ∈ fs U vars (lf fun _ => 0), G x) :
    SeqV Tryz.prog 95 #[.pointer (some ⟨bV, 0, none⟩), .pointer (some ⟨bU, 0, none⟩)] (fun W v x => Ints W v (zs x) ∧ G x) (fun xs => xs = fs U vars (lf fun _ => 0)) (fun pre => pre <+: fs U vars (lf fun _ => 0)) w0 := by
  intro n l J Jx W hW hl0 hl1 hJ hJx hY h0
  have hmk : ∀ W : World, (Instr.makeSlice 24 (.int .i64 6) (.int .i64 6)).run Tryz.prog W = .ok (.slice (some ⟨W.heap.size, 0, none⟩) 6 6) (W.alloc (.cells (madeCells #[Value.int .i64 0] 6) 2)) := fun W => run_make_rows (P := Tryz.prog) 24 2 (.int .i64 0) 1 8 #[.int .i64 0] Tryz.underlying24 Tryz.infoI rfl .i64 .i64 6 (by omega) (by omega) W
  refine callsIn_of_wp Tryz.func95 rfl trivial ?_ rfl
  simp only [Tryz.ntmps95, List.size_toArray, List.length_cons, List.length_nil, Nat.reduceAdd, Nat.reduceSub, Array.replicate_succ, Array.replicate_zero, List.push_toArray, List.append_toArray, List.nil_append, List.cons_append]
  gi_wp2
  obtain ⟨wa, hwa⟩ : ∃ wa, wa = ((((W.alloc (.cells #[.func (.yield l) #[] #[]] 90)).alloc (.cells (madeCells #[Value.int .i64 0] 6) 2)).alloc (.cells #[.slice (some ⟨W.heap.size + 1, 0, none⟩) 6 6] 24)).alloc (.cells #[.func (.func 96) #[] #[.pointer (some ⟨bV, 0, none⟩), .pointer (some ⟨W.heap.size, 0, none⟩), .pointer (some ⟨W.heap.size + 1 + 1, 0, none⟩), .pointer (some ⟨bU, 0, none⟩), .pointer (some ⟨W.heap.size + 1 + 1 + 1, 0, none⟩)]] 98)) := ⟨_, rfl⟩
  obtain ⟨hg, hs, b1, b2, b3, b4⟩ := alloc4 _ _ _ _ _ _ hwa
  rw [← hwa]
  have hKB := KB.refl wa l (W.heap.size + 1)
  have hwl := hW.size
  have cc : ∀ (b : Nat) (v : Value), w0.cell? ⟨b, 0, none⟩ = some v → b < w0.heap.size → ∀ X, KB wa l (W.heap.size + 1) X → X.cell? ⟨b, 0, none⟩ = some v := fun b v hc hb X hX =>
    (hX.cell (p := ⟨b, 0, none⟩) (by show b < _; omega) (by show b ≠ l; omega) (by show b ≠ W.heap.size + 1; omega)).trans (((hW.trans hg).cell (p := ⟨b, 0, none⟩) hb).trans hc)
  refine ⟨trivial, fun h => by simp [Fence.wide] at h, (fill_c G U vars l (W.heap.size + 1) bV W.heap.size (W.heap.size + 1 + 1) bU (W.heap.size + 1 + 1 + 1) wa J Jx W.heap.size vV vU hJ (by omega) hl1 hY
    (cc bV vV cV hbV) (fun X hX => (hX.cell (p := ⟨W.heap.size, 0, none⟩) (by show W.heap.size < _; omega) (by show W.heap.size ≠ l; omega) (by show W.heap.size ≠ W.heap.size + 1; omega)).trans (by rw [blk_cell b1]; rfl))
    (fun X hX => (hX.cell (p := ⟨W.heap.size + 1 + 1, 0, none⟩) (by show W.heap.size + 1 + 1 < _; omega) (by show W.heap.size + 1 + 1 ≠ l; omega) (by show W.heap.size + 1 + 1 ≠ W.heap.size + 1; omega)).trans (by rw [blk_cell b3]; rfl))
    (cc bU vU cU hbU)
    (fun X hX => (hX.cell (p := ⟨W.heap.size + 1 + 1 + 1, 0, none⟩) (by show W.heap.size + 1 + 1 + 1 < _; omega) (by show W.heap.size + 1 + 1 + 1 ≠ l; omega) (by show W.heap.size + 1 + 1 + 1 ≠ W.heap.size + 1; omega)).trans (by rw [blk_cell b4]; rfl))
    (kb_cells hV (hW.trans hg) hl0 (by omega)) (kb_cells hU (hW.trans hg) hl0 (by omega)) h6 hvl hul vars 0 rfl (by simp) _ [] (fun _ => 0) wa hKB (hJ _ _ _ h0 hg) ⟨_, b2, size_madeCells _ _, Nat.le_refl _, by omega, fun i hi => made_z hi⟩ hG).mono ?_⟩
  rintro e W5 (⟨rfl, hJ5, hK5, f5, hR5, hO5⟩ | ⟨rfl, q, hq, hJx5⟩)
  · clear hY hJ hJx cc
    gi_wp2
    go_end0
    exact ⟨⟨_, rfl⟩, .inl ⟨_, rfl, hJ5⟩⟩
  · clear hY hJ hJx cc
    gi_wp2
    go_end0
    exact ⟨⟨_, rfl⟩, .inr ⟨q, hq, hJx5⟩⟩
end Go.Proofs.YtmcbjekianclpaaGreat

/- The value of a plain formula on a poset. No program is in sight. -/
namespace Go.Proofs.YtmcbjekianclpaaGreat
open Go.RowKit
open Fm (Nd Tree)

/-- The value of a plain formula. -/
def fv (A V : List Nat) : Tree → Nat
  | .var v => nt V v.val
  | .fls => 0
  | .and a b => fv A V a &&& fv A V b
  | .or a b => fv A V a ||| fv A V b
  | .imp a b => ar A (fv A V a) (fv A V b)
  | .box _ => 0
  | .dia _ => 0
theorem fv_lt {A V : List Nat} (hV : ∀ m ∈ V, m < 2 ^ A.length) : ∀ t : Tree, fv A V t < 2 ^ A.length
  | .var v => by
    show nt V v.val < _
    by_cases h : v.val < V.length
    · exact hV _ (nt_mem h)
    · unfold nt; rw [List.getD_eq_getElem?_getD, List.getElem?_eq_none (by omega)]; exact Nat.pow_pos (by omega)
  | .fls => Nat.pow_pos (by omega)
  | .and a b => Nat.and_lt_two_pow _ (fv_lt hV b)
  | .or a b => Nat.or_lt_two_pow (fv_lt hV a) (fv_lt hV b)
  | .imp a b => bx_lt _ _
  | .box _ => Nat.pow_pos (by omega)
  | .dia _ => Nat.pow_pos (by omega)
end Go.Proofs.YtmcbjekianclpaaGreat

/- A list of nodes is that of one formula at most. No program is in sight. -/
namespace Go.Proofs.YtmcbjekianclpaaGreat
open Fm (Nd)

theorem enc_pre (t : Fm.Tree) : ∀ (u : Fm.Tree) (a b : List Nd), Fm.enc t ++ a = Fm.enc u ++ b → t = u ∧ a = b := by
  induction t with
  | var v =>
    intro u a b h
    cases u <;> simp [Fm.enc] at h
    exact ⟨congrArg Fm.Tree.var (Fin.ext (by have := h.1; omega)), h.2⟩
  | fls =>
    intro u a b h
    cases u <;> simp [Fm.enc] at h
    exact ⟨rfl, h⟩
  | and x y hx hy =>
    intro u a b h
    cases u <;> simp [Fm.enc] at h
    obtain ⟨e1, h1⟩ := hx _ _ _ h
    obtain ⟨e2, h2⟩ := hy _ _ _ h1
    exact ⟨by rw [e1, e2], h2⟩
  | or x y hx hy =>
    intro u a b h
    cases u <;> simp [Fm.enc] at h
    obtain ⟨e1, h1⟩ := hx _ _ _ h
    obtain ⟨e2, h2⟩ := hy _ _ _ h1
    exact ⟨by rw [e1, e2], h2⟩
  | imp x y hx hy =>
    intro u a b h
    cases u <;> simp [Fm.enc] at h
    obtain ⟨e1, h1⟩ := hx _ _ _ h
    obtain ⟨e2, h2⟩ := hy _ _ _ h1
    exact ⟨by rw [e1, e2], h2⟩
  | box x hx =>
    intro u a b h
    cases u <;> simp [Fm.enc] at h
    obtain ⟨e1, h1⟩ := hx _ _ _ h
    exact ⟨by rw [e1], h1⟩
  | dia x hx =>
    intro u a b h
    cases u <;> simp [Fm.enc] at h
    obtain ⟨e1, h1⟩ := hx _ _ _ h
    exact ⟨by rw [e1], h1⟩
theorem enc_inj {t u : Fm.Tree} (h : Fm.enc t = Fm.enc u) : t = u := (enc_pre t u [] [] (by simpa using h)).1

end Go.Proofs.YtmcbjekianclpaaGreat

/- The program's makers over slices.Concat. -/
namespace Go.Proofs.YtmcbjekianclpaaGreat
open Go.RowKit
open Fm (Nd)

/-- A block that has just been made and holds slices of nodes. -/
theorem lists_new (w : World) (t : TypeId) (us : List Value) (L : List (List Nd)) (hm : L.length ≤ 9223372036854775807)
    (h : ∀ i, i < L.length → ∃ u, us[i]? = some u ∧ Nodes w u (L.getD i [])) : Lists (w.alloc (.cells us.toArray t)) (.slice (some ⟨w.heap.size, 0, none⟩) L.length L.length) L := by
  refine .inr ⟨w.heap.size, 0, L.length, rfl, Nat.le_refl _, hm, by simp, fun i hi => ?_⟩
  obtain ⟨u, h1, h2⟩ := h i hi
  refine ⟨u, ?_, h2.grew ((Grew.refl w).alloc _)⟩
  rw [Nat.zero_add, blk_cell (blk_new w _)]
  simpa using h1

end Go.Proofs.YtmcbjekianclpaaGreat

/- The readers' first steps: take, need, l02Take, l02Need. -/
namespace Go.Proofs.YtmcbjekianclpaaGreat
open Go.RowKit

/-- Block g holds a reader: its text, its position, whether it is bad. -/
def Rdr (w : World) (g : Nat) (T : TypeId) (s : ByteArray) (st : Fm.St) : Prop := w.heap[g]? = some (.cells #[.string s, .int .i64 st.1, .bool st.2] T (0, 0))
theorem Rdr.text {w : World} {g T : Nat} {s : ByteArray} {st : Fm.St} (h : Rdr w g T s st) : w.cell? ⟨g, 0, none⟩ = some (.string s) := by rw [blk_cell h]; rfl
theorem Rdr.at_ {w : World} {g T : Nat} {s : ByteArray} {st : Fm.St} (h : Rdr w g T s st) : w.cell? ⟨g, 1, none⟩ = some (.int .i64 st.1) := by rw [blk_cell h]; rfl
theorem Rdr.bad {w : World} {g T : Nat} {s : ByteArray} {st : Fm.St} (h : Rdr w g T s st) : w.cell? ⟨g, 2, none⟩ = some (.bool st.2) := by rw [blk_cell h]; rfl
theorem Rdr.free {w : World} {g T : Nat} {s : ByteArray} {st : Fm.St} (h : Rdr w g T s st) (i : Nat) : w.frozen? ⟨g, i, none⟩ = false := blk_frozen h i
theorem Rdr.lt {w : World} {g T : Nat} {s : ByteArray} {st : Fm.St} (h : Rdr w g T s st) : g < w.heap.size := blk_lt h
theorem Rdr.grew {w w' : World} {g T : Nat} {s : ByteArray} {st : Fm.St} (h : Rdr w g T s st) (hg : Grew w w') : Rdr w' g T s st := (hg.block h.lt).trans h
theorem Rdr.move {w : World} {g T : Nat} {s : ByteArray} {st : Fm.St} (h : Rdr w g T s st) (n : Nat) : Rdr (w.setCell ⟨g, 1, none⟩ (.int .i64 n)) g T s (n, st.2) := blk_set h 1 _
theorem Rdr.spoil {w : World} {g T : Nat} {s : ByteArray} {st : Fm.St} (h : Rdr w g T s st) : Rdr (w.setCell ⟨g, 2, none⟩ (.bool true)) g T s (st.1, true) := blk_set h 2 _

/-- What 'take' leaves. -/
def Took (w : World) (g : Nat) (T : TypeId) (s : ByteArray) (st : Fm.St) (c : UInt8) (e : Ending) (w' : World) : Prop :=
  e = .returned (.bool (Fm.sees s.data.toList st c)) ∧ Rdr w' g T s (if Fm.sees s.data.toList st c then Fm.step st else st) ∧ Only g w w'

theorem sees_bad (s : List UInt8) (p : Nat) (c : UInt8) : Fm.sees s (p, true) c = false := rfl
theorem sees_end (s : ByteArray) (p : Nat) (c : UInt8) (h : s.size ≤ p) : Fm.sees s.data.toList (p, false) c = false := by
  have : s.data.toList[p]? = none := by rw [Array.getElem?_toList, Array.getElem?_eq_none]; exact h
  simp [Fm.sees, this]
theorem sees_in (s : ByteArray) (p : Nat) (c : UInt8) (h : p < s.size) : Fm.sees s.data.toList (p, false) c = (s[p] == c) := by
  have : s.data.toList[p]? = some s[p] := by rw [Array.getElem?_toList]; exact Array.getElem?_eq_getElem h
  simp [Fm.sees, this]
theorem byte_eq (a b : UInt8) : ((a.toNat : Int) == b.toNat) = (a == b) := by
  rw [Bool.eq_iff_iff]; simp only [beq_iff_eq, ← UInt8.toNat_inj]; omega
theorem byte_ne (a b : UInt8) : ((a.toNat : Int) != b.toNat) = !(a == b) := by
  rw [bne, byte_eq]

theorem Took.no {w w' : World} {g T : Nat} {s : ByteArray} {st : Fm.St} {c : UInt8} (h : Rdr w g T s st) (hs : Fm.sees s.data.toList st c = false) (hw : Grew w w') : Took w g T s st c (.returned (.bool false)) w' := by
  unfold Took; rw [hs]; exact ⟨rfl, h.grew hw, hw.only⟩
theorem Took.yes {w w' : World} {g T : Nat} {s : ByteArray} {p : Nat} {b : Bool} {c : UInt8} (h : Rdr w g T s (p, b)) (hs : Fm.sees s.data.toList (p, b) c = true) (hw : Grew w w') : Took w g T s (p, b) c (.returned (.bool true)) (w'.setCell ⟨g, 1, none⟩ (.int .i64 ((p : Int) + 1))) := by
  unfold Took; rw [hs]; exact ⟨rfl, (h.grew hw).move (p + 1), hw.only.setCell _⟩

end Go.Proofs.YtmcbjekianclpaaGreat

/- The program's reader: what its functions read is what the plain parser gives. -/
namespace Go.Proofs.YtmcbjekianclpaaGreat
open Go.RowKit
open Fm (Nd)

/-- The call returns the list r.1 in new memory, and the reader stands at r.2. -/
def Reads (w : World) (g : Nat) (T : TypeId) (s : ByteArray) (r : Fm.Res) (e : Ending) (w' : World) : Prop :=
  ∃ v, e = .returned v ∧ Own w' w.heap.size v r.1 ∧ Rdr w' g T s r.2 ∧ Only g w w'

theorem own_rdr_ne {w : World} {B g : Nat} {v : Value} {xs : List Nd} {T : TypeId} {s : ByteArray} {st : Fm.St} (h : Own w B v xs) (hr : Rdr w g T s st) (hne : 42 ≠ T) : v.ownBlock ≠ some g := own_ne h hr hne

theorem size_toList (s : ByteArray) : s.data.toList.length = s.size := by simp

/-- One 'join' in a loop of 'and' or 'or'. -/
theorem Reads.ok_len {s : ByteArray} {st : Fm.St} {r : Fm.Res} (h : Fm.Ok s.data.toList st r) (hs : s.size ≤ 1048576) : r.1.length ≤ 3145729 := by
  obtain ⟨h1, h2, h3⟩ := h
  rw [size_toList] at h2
  omega

/-- The contract of a function that reads, for a plain function sub and all states from which less than f bytes are left. -/
def Sub (F : FuncId) (T : TypeId) (s : ByteArray) (f : Nat) (sub : Fm.St → Fm.Res) : Prop :=
  ∀ (g : Nat) (st : Fm.St) (w : World), Rdr w g T s st → st.1 ≤ s.size → s.size - st.1 < f → Calls Tryz.prog F #[.pointer (some ⟨g, 0, none⟩)] w (Reads w g T s (sub st))

end Go.Proofs.YtmcbjekianclpaaGreat

/- The program's reader: the two lowest levels. -/
namespace Go.Proofs.YtmcbjekianclpaaGreat
open Go.RowKit
open Fm (Nd)

/-- The range over the letters, at a block of the call's own. -/
def letters : ByteArray := ⟨#[112, 113, 114, 115, 116, 117]⟩
theorem only_iterAt {g k : Nat} {a b : World} (h : Only g a b) (hk : a.heap.size ≤ k) (s : ByteArray) (p : Nat) : Only g a (b.iterAt k s p) :=
  ⟨h.os, h.tape, h.output, by rw [Lib.iterAt_size]; exact h.size, fun i hi hne => (Lib.iterAt_other b k i s p (by omega)).trans (World.grownBy.block h i hi hne)⟩
theorem Rdr.iterAt {w : World} {g T k : Nat} {s : ByteArray} {st : Fm.St} (h : Rdr w g T s st) (hk : g ≠ k) (x : ByteArray) (p : Nat) : Rdr (w.iterAt k x p) g T s st := (Lib.iterAt_other w k g x p hk).trans h

theorem next_letter {P : Program} (w : World) (k i : Nat) (ty : TypeId) (hk : w.heap[k]? = some (.stringIter letters i)) (hi : i < 6) :
    (Instr.next (.pointer (some ⟨k, 0, none⟩)) true ty).run P w = .ok (.tuple #[.bool true, .int .i64 i, .int .i32 (112 + (i : Int))]) (w.iterAt k letters (i + 1)) := by
  have h6 : i = 0 ∨ i = 1 ∨ i = 2 ∨ i = 3 ∨ i = 4 ∨ i = 5 := by omega
  rcases h6 with rfl | rfl | rfl | rfl | rfl | rfl <;> exact Lib.run_next_ascii_at w k letters _ ty hk (by decide) (by decide)
theorem letter_byte {i : Nat} (hi : i < 6) : 112 + (i : Int) = ((UInt8.ofNat (112 + i)).toNat : Int) := by
  rw [UInt8.toNat_ofNat']; omega

end Go.Proofs.YtmcbjekianclpaaGreat

/- The text of a formula is parsed to the formula. No program is in sight. -/
namespace Go.Proofs.YtmcbjekianclpaaGreat
namespace Fm

theorem sees_drop {s : List UInt8} {i : Nat} {c : UInt8} {r : List UInt8} (h : s.drop i = c :: r) (d : UInt8) : sees s (i, false) d = (c == d) := by
  have h1 : s[i]? = some c := by
    have := congrArg List.head? h
    simpa using this
  unfold sees
  rw [h1]
  rw [Bool.eq_iff_iff]
  simp
theorem sees_none {s : List UInt8} {i : Nat} {r : List UInt8} {d : UInt8} (h : s.drop i = r) (hd : r.head? ≠ some d) : sees s (i, false) d = false := by
  have h1 : s[i]? = r.head? := by rw [← h]; simp
  unfold sees
  rw [h1]
  cases hr : r.head? with
  | none => rfl
  | some c =>
    rw [hr] at hd
    have : c ≠ d := fun e => hd (by rw [e])
    simp [this]
theorem drop_tail {s : List UInt8} {i : Nat} {x r : List UInt8} (h : s.drop i = x ++ r) : s.drop (i + x.length) = r := by
  rw [← List.drop_drop, h, List.drop_left]
theorem drop_len {s : List UInt8} {i : Nat} {x r : List UInt8} (h : s.drop i = x ++ r) (hx : 1 ≤ x.length) : i + x.length ≤ s.length := by
  have := congrArg List.length h
  simp only [List.length_drop, List.length_append] at this
  omega
theorem txt_pos (t : Tree) (l : Nat) : 1 ≤ (txt t l).length := by
  cases t with
  | var v => simp [txt]
  | fls => simp [txt]
  | and a b => simp only [txt, wrap]; split <;> simp <;> omega
  | or a b => simp only [txt, wrap]; split <;> simp <;> omega
  | imp a b => simp only [txt, wrap]; split <;> split <;> simp <;> omega
  | box a => simp only [txt, List.length_append, List.length_cons]; omega
  | dia a => simp only [txt, List.length_append, List.length_cons]; omega

section
variable (s : List UInt8) (m : Nat)
/-- The text at level 3 is read by the lowest level of the parser. -/
def P3 (t : Tree) : Prop := ∀ (f i : Nat) (r : List UInt8), s.drop i = txt t 3 ++ r → s.length - i < f → preF s m f (i, false) = (enc t, (i + (txt t 3).length, false))
def P2 (t : Tree) : Prop := ∀ (f i : Nat) (r : List UInt8), s.drop i = txt t 2 ++ r → s.length - i < f →
  ∃ k, s.length - (i + (txt t 2).length) < k ∧ andF s m (preF s m f) (i, false) = loop s 2 38 (preF s m f) k (enc t) (i + (txt t 2).length, false)
def P1 (t : Tree) : Prop := ∀ (f i : Nat) (r : List UInt8), s.drop i = txt t 1 ++ r → s.length - i < f → r.head? ≠ some 38 →
  ∃ k, s.length - (i + (txt t 1).length) < k ∧ orF s m (preF s m f) (i, false) = loop s 3 124 (andF s m (preF s m f)) k (enc t) (i + (txt t 1).length, false)
def P0 (t : Tree) : Prop := ∀ (f n i : Nat) (r : List UInt8), s.drop i = txt t 0 ++ r → s.length - i < f → s.length - i < n → r.head? ≠ some 38 → r.head? ≠ some 124 → r.head? ≠ some 62 →
  impF s m (preF s m f) n (i, false) = (enc t, (i + (txt t 0).length, false))
end

section
variable {s : List UInt8} {m : Nat}

theorem loop_stop {k : Int} {c : UInt8} {sub : St → Res} {n : Nat} {a : List Nd} {st : St} (h : sees s st c = false) : loop s k c sub n a st = (a, st) := by
  cases n with
  | zero => rfl
  | succ n => rw [loop, if_neg (by rw [h]; decide)]

/-- From the lowest level to the next one, where the text is the same. -/
theorem up2 (hm : s.length < m) {t : Tree} (ht : txt t 2 = txt t 3) (h : P3 s m t) : P2 s m t := by
  intro f i r hd hf
  rw [ht] at hd ⊢
  refine ⟨m, by omega, ?_⟩
  have := h f i r hd hf
  rw [andF, this]
theorem up1 (hm : s.length < m) {t : Tree} (ht : txt t 1 = txt t 2) (h : P2 s m t) : P1 s m t := by
  intro f i r hd hf hr
  rw [ht] at hd ⊢
  obtain ⟨k, hk, he⟩ := h f i r hd hf
  have hs := sees_none (drop_tail hd) hr
  rw [loop_stop hs] at he
  refine ⟨m, by omega, ?_⟩
  rw [orF, he]
theorem up0 {t : Tree} (ht : txt t 0 = txt t 1) (h : P1 s m t) : P0 s m t := by
  intro f n i r hd hf hn h1 h2 h3
  rw [ht] at hd ⊢
  obtain ⟨k, hk, he⟩ := h f i r hd hf h1
  rw [loop_stop (sees_none (drop_tail hd) h2)] at he
  cases n with
  | zero => omega
  | succ n =>
    rw [impF_no (by rw [he]; exact sees_none (drop_tail hd) h3), he]
/-- Brackets. -/
theorem down3 (hm : s.length < m) {t : Tree} (ht : txt t 3 = [40] ++ txt t 0 ++ [41]) (h : P0 s m t) : P3 s m t := by
  intro f i r hd hf
  have hp := txt_pos t 0
  rw [ht] at hd ⊢
  have hlen := drop_len hd (by simp)
  simp only [List.length_append, List.length_cons, List.length_nil] at hlen
  simp only [List.append_assoc, List.cons_append, List.nil_append] at hd
  have h1 : s.drop (i + 1) = txt t 0 ++ (41 :: r) := drop_tail (x := [40]) (r := txt t 0 ++ (41 :: r)) hd
  have h2 : s.drop (i + 1 + (txt t 0).length) = 41 :: r := drop_tail h1
  cases f with
  | zero => omega
  | succ f =>
    have h40 : sees s (i, false) 40 = true := by rw [sees_drop hd]; rfl
    rw [preF_par h40, show step (i, false) = (i + 1, false) from rfl]
    rw [h f m (i + 1) (41 :: r) h1 (by omega) (by omega) (by simp) (by simp) (by simp)]
    have h41 : sees s (i + 1 + (txt t 0).length, false) 41 = true := by rw [sees_drop h2]; rfl
    simp only [need, h41, if_true, step, List.length_append, List.length_cons, List.length_nil]
    congr 2
    omega

theorem all_fls (hm : s.length < m) : P3 s m .fls ∧ P2 s m .fls ∧ P1 s m .fls ∧ P0 s m .fls := by
  have h3 : P3 s m .fls := by
    intro f i r hd hf
    have hd' : s.drop i = 70 :: r := hd
    have hlen := drop_len hd (by simp [txt])
    simp only [txt, List.length_cons, List.length_nil] at hlen
    cases f with
    | zero => omega
    | succ f => rw [preF_fls (by rw [sees_drop hd']; rfl)]; rfl
  have h2 := up2 hm rfl h3
  have h1 := up1 hm rfl h2
  exact ⟨h3, h2, h1, up0 rfl h1⟩
theorem all_tru (hm : s.length < m) : P3 s m (.imp .fls .fls) ∧ P2 s m (.imp .fls .fls) ∧ P1 s m (.imp .fls .fls) ∧ P0 s m (.imp .fls .fls) := by
  have h3 : P3 s m (.imp .fls .fls) := by
    intro f i r hd hf
    have hd' : s.drop i = 84 :: r := hd
    have hlen := drop_len hd (by simp [txt, isF])
    simp only [txt, isF, if_true, List.length_cons, List.length_nil] at hlen
    cases f with
    | zero => omega
    | succ f => rw [preF_tru (by rw [sees_drop hd']; rfl)]; rfl
  have h2 := up2 hm rfl h3
  have h1 := up1 hm rfl h2
  exact ⟨h3, h2, h1, up0 rfl h1⟩
theorem all_var (hm : s.length < m) (v : Fin 6) : P3 s m (.var v) ∧ P2 s m (.var v) ∧ P1 s m (.var v) ∧ P0 s m (.var v) := by
  have h3 : P3 s m (.var v) := by
    intro f i r hd hf
    have hd' : s.drop i = UInt8.ofNat (112 + v.val) :: r := hd
    have hlen := drop_len hd (by simp [txt])
    simp only [txt, List.length_cons, List.length_nil] at hlen
    cases f with
    | zero => omega
    | succ f =>
      have hl : letter s (i, false) = some v.val := letter_of_sees v.isLt (by rw [sees_drop hd']; simp)
      rw [preF_var hl]; rfl
  have h2 := up2 hm rfl h3
  have h1 := up1 hm rfl h2
  exact ⟨h3, h2, h1, up0 rfl h1⟩
theorem all_not (hm : s.length < m) {x : Tree} (hx : isF x = false) (h : P3 s m x) : P3 s m (.imp x .fls) ∧ P2 s m (.imp x .fls) ∧ P1 s m (.imp x .fls) ∧ P0 s m (.imp x .fls) := by
  have ht : ∀ l, txt (.imp x .fls) l = [126] ++ txt x 3 := by intro l; rw [txt, if_pos (show isF .fls = true from rfl), if_neg (by rw [hx]; decide)]
  have h3 : P3 s m (.imp x .fls) := by
    intro f i r hd hf
    rw [ht] at hd ⊢
    have hlen := drop_len hd (by simp)
    simp only [List.length_append, List.length_cons, List.length_nil] at hlen
    have hd' : s.drop i = 126 :: (txt x 3 ++ r) := by simpa using hd
    have h1 : s.drop (i + 1) = txt x 3 ++ r := drop_tail (x := [126]) (r := txt x 3 ++ r) hd'
    cases f with
    | zero => omega
    | succ f =>
      rw [preF_not (by rw [sees_drop hd']; rfl), show step (i, false) = (i + 1, false) from rfl, h f (i + 1) r h1 (by omega)]
      simp only [List.length_append, List.length_cons, List.length_nil]
      refine Prod.ext rfl (Prod.ext (by simp only; omega) rfl)
  have h2 := up2 hm (by rw [ht, ht]) h3
  have h1 := up1 hm (by rw [ht, ht]) h2
  exact ⟨h3, h2, h1, up0 (by rw [ht, ht]) h1⟩
theorem all_box (hm : s.length < m) {x : Tree} (h : P3 s m x) : P3 s m (.box x) ∧ P2 s m (.box x) ∧ P1 s m (.box x) ∧ P0 s m (.box x) := by
  have h3 : P3 s m (.box x) := by
    intro f i r hd hf
    have hd' : s.drop i = 91 :: (93 :: (txt x 3 ++ r)) := by simpa [txt] using hd
    have hlen := drop_len hd (by simp [txt])
    simp only [txt, List.length_append, List.length_cons, List.length_nil] at hlen
    have h1 : s.drop (i + 1) = 93 :: (txt x 3 ++ r) := drop_tail (x := [91]) (r := 93 :: (txt x 3 ++ r)) hd'
    have h2 : s.drop (i + 2) = txt x 3 ++ r := drop_tail (x := [91, 93]) (r := txt x 3 ++ r) hd'
    cases f with
    | zero => omega
    | succ f =>
      have h93 : sees s (i + 1, false) 93 = true := by rw [sees_drop h1]; rfl
      rw [preF_box (by rw [sees_drop hd']; rfl), show step (i, false) = (i + 1, false) from rfl, show need s (i + 1, false) 93 = (i + 2, false) by simp [need, h93, step], h f (i + 2) r h2 (by omega)]
      simp only [txt, List.length_append, List.length_cons, List.length_nil]
      refine Prod.ext rfl (Prod.ext (by simp only; omega) rfl)
  have h2 := up2 hm rfl h3
  have h1 := up1 hm rfl h2
  exact ⟨h3, h2, h1, up0 rfl h1⟩
theorem all_dia (hm : s.length < m) {x : Tree} (h : P3 s m x) : P3 s m (.dia x) ∧ P2 s m (.dia x) ∧ P1 s m (.dia x) ∧ P0 s m (.dia x) := by
  have h3 : P3 s m (.dia x) := by
    intro f i r hd hf
    have hd' : s.drop i = 60 :: (62 :: (txt x 3 ++ r)) := by simpa [txt] using hd
    have hlen := drop_len hd (by simp [txt])
    simp only [txt, List.length_append, List.length_cons, List.length_nil] at hlen
    have h1 : s.drop (i + 1) = 62 :: (txt x 3 ++ r) := drop_tail (x := [60]) (r := 62 :: (txt x 3 ++ r)) hd'
    have h2 : s.drop (i + 2) = txt x 3 ++ r := drop_tail (x := [60, 62]) (r := txt x 3 ++ r) hd'
    cases f with
    | zero => omega
    | succ f =>
      have h93 : sees s (i + 1, false) 62 = true := by rw [sees_drop h1]; rfl
      rw [preF_dia (by rw [sees_drop hd']; rfl), show step (i, false) = (i + 1, false) from rfl, show need s (i + 1, false) 62 = (i + 2, false) by simp [need, h93, step], h f (i + 2) r h2 (by omega)]
      simp only [txt, List.length_append, List.length_cons, List.length_nil]
      refine Prod.ext rfl (Prod.ext (by simp only; omega) rfl)
  have h2 := up2 hm rfl h3
  have h1 := up1 hm rfl h2
  exact ⟨h3, h2, h1, up0 rfl h1⟩

theorem all_and (hm : s.length < m) {x y : Tree} (hx : P2 s m x) (hy : P3 s m y) : P3 s m (.and x y) ∧ P2 s m (.and x y) ∧ P1 s m (.and x y) ∧ P0 s m (.and x y) := by
  have ht : ∀ l, l ≤ 2 → txt (.and x y) l = txt x 2 ++ [38] ++ txt y 3 := by intro l hl; rw [txt, wrap, if_neg (by omega)]
  have h2 : P2 s m (.and x y) := by
    intro f i r hd hf
    rw [ht 2 (by omega)] at hd ⊢
    simp only [List.append_assoc, List.cons_append, List.nil_append] at hd
    obtain ⟨k, hk, he⟩ := hx f i _ hd hf
    have d1 := drop_tail hd
    have d2 : s.drop (i + (txt x 2).length + 1) = txt y 3 ++ r := drop_tail (x := [38]) (r := txt y 3 ++ r) d1
    have hp := txt_pos y 3
    have hlen := drop_len d2 hp
    obtain ⟨q, rfl⟩ : ∃ q, k = q + 1 := ⟨k - 1, by omega⟩
    refine ⟨q, ?_, ?_⟩
    · simp only [List.length_append, List.length_cons, List.length_nil]; omega
    · rw [he, loop, if_pos (by rw [sees_drop d1]; rfl), show step (i + (txt x 2).length, false) = (i + (txt x 2).length + 1, false) from rfl, hy f _ r d2 (by omega)]
      simp only [List.length_append, List.length_cons, List.length_nil]
      rw [show i + (txt x 2).length + 1 + (txt y 3).length = i + ((txt x 2).length + (0 + 1) + (txt y 3).length) by omega]
      rfl
  have h1 := up1 hm (by rw [ht 1 (by omega), ht 2 (by omega)]) h2
  have h0 := up0 (by rw [ht 0 (by omega), ht 1 (by omega)]) h1
  exact ⟨down3 hm (by rw [ht 0 (by omega), txt, wrap, if_pos (by omega)]) h0, h2, h1, h0⟩
theorem all_or (hm : s.length < m) {x y : Tree} (hx : P1 s m x) (hy : P2 s m y) : P3 s m (.or x y) ∧ P2 s m (.or x y) ∧ P1 s m (.or x y) ∧ P0 s m (.or x y) := by
  have ht : ∀ l, l ≤ 1 → txt (.or x y) l = txt x 1 ++ [124] ++ txt y 2 := by intro l hl; rw [txt, wrap, if_neg (by omega)]
  have hw : ∀ l, 2 ≤ l → txt (.or x y) l = [40] ++ txt (.or x y) 0 ++ [41] := by intro l hl; rw [ht 0 (by omega), txt, wrap, if_pos (by omega)]
  have h1 : P1 s m (.or x y) := by
    intro f i r hd hf hr
    rw [ht 1 (by omega)] at hd ⊢
    simp only [List.append_assoc, List.cons_append, List.nil_append] at hd
    obtain ⟨k, hk, he⟩ := hx f i _ hd hf (by simp)
    have d1 := drop_tail hd
    have d2 : s.drop (i + (txt x 1).length + 1) = txt y 2 ++ r := drop_tail (x := [124]) (r := txt y 2 ++ r) d1
    have hp := txt_pos y 2
    have hlen := drop_len d2 hp
    obtain ⟨q, rfl⟩ : ∃ q, k = q + 1 := ⟨k - 1, by omega⟩
    refine ⟨q, ?_, ?_⟩
    · simp only [List.length_append, List.length_cons, List.length_nil]; omega
    · obtain ⟨k2, hk2, he2⟩ := hy f _ r d2 (by omega)
      rw [loop_stop (sees_none (drop_tail d2) hr)] at he2
      rw [he, loop, if_pos (by rw [sees_drop d1]; rfl), show step (i + (txt x 1).length, false) = (i + (txt x 1).length + 1, false) from rfl, he2]
      simp only [List.length_append, List.length_cons, List.length_nil]
      rw [show i + (txt x 1).length + 1 + (txt y 2).length = i + ((txt x 1).length + (0 + 1) + (txt y 2).length) by omega]
      rfl
  have h0 := up0 (by rw [ht 0 (by omega), ht 1 (by omega)]) h1
  have h3 := down3 hm (hw 3 (by omega)) h0
  exact ⟨h3, up2 hm (by rw [hw 2 (by omega), hw 3 (by omega)]) h3, h1, h0⟩
theorem all_imp (hm : s.length < m) {x y : Tree} (hf : isF y = false) (hx : P1 s m x) (hy : P0 s m y) : P3 s m (.imp x y) ∧ P2 s m (.imp x y) ∧ P1 s m (.imp x y) ∧ P0 s m (.imp x y) := by
  have ht : txt (.imp x y) 0 = txt x 1 ++ [62] ++ txt y 0 := by rw [txt, if_neg (by rw [hf]; decide), wrap, if_neg (by omega)]
  have hw : ∀ l, 1 ≤ l → txt (.imp x y) l = [40] ++ txt (.imp x y) 0 ++ [41] := by intro l hl; rw [ht, txt, if_neg (by rw [hf]; decide), wrap, if_pos (by omega)]
  have h0 : P0 s m (.imp x y) := by
    intro f n i r hd hf hn q1 q2 q3
    rw [ht] at hd ⊢
    simp only [List.append_assoc, List.cons_append, List.nil_append] at hd
    obtain ⟨k, hk, he⟩ := hx f i _ hd hf (by simp)
    have d1 := drop_tail hd
    have d2 : s.drop (i + (txt x 1).length + 1) = txt y 0 ++ r := drop_tail (x := [62]) (r := txt y 0 ++ r) d1
    have hp := txt_pos y 0
    have hlen := drop_len d2 hp
    rw [loop_stop (by rw [sees_drop d1]; rfl)] at he
    cases n with
    | zero => omega
    | succ n =>
      have hsee : sees s (orF s m (preF s m f) (i, false)).2 62 = true := by rw [he, sees_drop d1]; rfl
      rw [impF_yes hsee, he]
      dsimp only
      rw [show step (i + (txt x 1).length, false) = (i + (txt x 1).length + 1, false) from rfl, hy f n _ r d2 (by omega) (by omega) q1 q2 q3]
      simp only [List.length_append, List.length_cons, List.length_nil]
      refine Prod.ext rfl (Prod.ext (by simp only; omega) rfl)
  have h3 := down3 hm (hw 3 (by omega)) h0
  have h2 := up2 hm (by rw [hw 2 (by omega), hw 3 (by omega)]) h3
  exact ⟨h3, h2, up1 hm (by rw [hw 1 (by omega), hw 2 (by omega)]) h2, h0⟩

theorem all_levels (hm : s.length < m) (t : Tree) : P3 s m t ∧ P2 s m t ∧ P1 s m t ∧ P0 s m t := by
  induction t with
  | var v => exact all_var hm v
  | fls => exact all_fls hm
  | and x y hx hy => exact all_and hm hx.2.1 hy.1
  | or x y hx hy => exact all_or hm hx.2.2.1 hy.2.1
  | imp x y hx hy =>
    cases hf : isF y with
    | true =>
      obtain rfl := isF_eq hf
      cases hg : isF x with
      | true => obtain rfl := isF_eq hg; exact all_tru hm
      | false => exact all_not hm hg hx.1
    | false => exact all_imp hm hf hx.2.2.1 hy.2.2.2
  | box x hx => exact all_box hm hx.1
  | dia x hx => exact all_dia hm hx.1
end

/-- The text of a formula reads as it. -/
theorem parse_txt (t : Tree) (m : Nat) (hm : (txt t 0).length < m) : parse (txt t 0) m = (enc t, ((txt t 0).length, false)) := by
  have h := (all_levels (s := txt t 0) hm t).2.2.2 m m 0 [] (by simp) (by omega) (by omega) (by simp) (by simp) (by simp)
  rw [parse, h]
  simp

end Fm

/-- A string of bytes. -/
def bs (l : List UInt8) : ByteArray := ⟨l.toArray⟩
theorem bs_append (a b : List UInt8) : bs a ++ bs b = bs (a ++ b) := by
  apply ByteArray.ext
  simp [bs]
theorem bs_size (a : List UInt8) : (bs a).size = a.length := by simp [bs, ByteArray.size]
theorem bs_list (a : List UInt8) : (bs a).data.toList = a := by simp [bs]
theorem bs_eq (s : ByteArray) : bs s.data.toList = s := by
  apply ByteArray.ext
  simp [bs]

namespace Fm
def fuel : Nat := 1048577
/-- What a text reads as. -/
def read (s : ByteArray) : Res := parse s.data.toList fuel
/-- The whole text is a formula of whatever size. -/
def whole (s : ByteArray) : Bool := !(read s).2.2 && decide (s.size ≤ (read s).2.1)
/-- The results of ParseFormula. -/
def pf (s : ByteArray) : List Nd × Nat × Int :=
  if 200 < s.size then ([], 0, 3) else if whole s = false then ([], (read s).2.1, 6) else if 40 < (read s).1.length then ([], 0, 3) else ((read s).1, 0, 0)
theorem read_ok (s : ByteArray) : (read s).2.1 ≤ s.size ∧ (read s).1.length ≤ 3 * s.size + 1 := by
  obtain ⟨h1, h2, h3⟩ := parse_ok s.data.toList fuel
  rw [show s.data.toList.length = s.size from by simp] at h2
  exact ⟨h2, by unfold read; omega⟩
theorem read_ne (s : ByteArray) : (read s).1 ≠ [] := by
  obtain ⟨t, h⟩ := parse_enc s.data.toList fuel
  have := enc_pos t
  unfold read
  rw [h]
  intro h0
  rw [h0] at this
  simp at this
theorem pf_len (s : ByteArray) : (pf s).1.length ≤ 40 := by
  unfold pf
  split
  · simp
  split
  · simp
  split
  · simp
  · simp only; omega
end Fm

/-- What l02Read gives. -/
def Fm.rd (s : ByteArray) : List Nd × Int := if Fm.whole s = false then ([], ((Fm.read s).2.1 : Int)) else ((Fm.read s).1, -1)


namespace Fm
theorem read_txt (t : Tree) (h : (txt t 0).length < fuel) : read (bs (txt t 0)) = (enc t, ((txt t 0).length, false)) := by
  rw [read, bs_list, parse_txt t fuel h]
theorem whole_txt (t : Tree) (h : (txt t 0).length < fuel) : whole (bs (txt t 0)) = true := by
  rw [whole, read_txt t h, bs_size]
  simp
theorem pf_txt (t : Tree) (h : (txt t 0).length ≤ 200) (hn : (enc t).length ≤ 40) : pf (bs (txt t 0)) = (enc t, 0, 0) := by
  have hf : (txt t 0).length < fuel := by unfold fuel; omega
  rw [pf, if_neg (by rw [bs_size]; omega), if_neg (by rw [whole_txt t hf]; decide), read_txt t hf, if_neg (by simp only; omega)]
theorem rd_txt (t : Tree) (h : (txt t 0).length < fuel) : rd (bs (txt t 0)) = (enc t, -1) := by
  rw [rd, if_neg (by rw [whole_txt t h]; decide), read_txt t h]
end Fm
end Go.Proofs.YtmcbjekianclpaaGreat

/- ParseFormula, of the program and of the reference: both give what the plain parser gives. -/
namespace Go.Proofs.YtmcbjekianclpaaGreat
open Go.RowKit
open Fm (Nd)

/-- The call returns a new list and two numbers. -/
def Gives3 (w : World) (r : List Nd × Nat × Int) (e : Ending) (w' : World) : Prop := ∃ v, e = .returned (.tuple #[v, .int .i64 r.2.1, .int .i64 r.2.2]) ∧ Own w' w.heap.size v r.1 ∧ Grew w w' ∧ (r.1 = [] → v = .slice none 0 0)

theorem Rdr.new (w : World) (T : TypeId) (s : ByteArray) : Rdr (w.alloc (.cells #[.string s, .int .i64 0, .bool false] T)) w.heap.size T s (0, false) := blk_new w _

/-- A new list and one number: what l02Read returns. -/
def Gives2 (w : World) (xs : List Nd) (n : Int) (e : Ending) (w' : World) : Prop := ∃ v, e = .returned (.tuple #[v, .int .i64 n]) ∧ Own w' w.heap.size v xs ∧ Grew w w'

end Go.Proofs.YtmcbjekianclpaaGreat

/- The reference's reader: l02Take, l02Need. -/
namespace Go.Proofs.YtmcbjekianclpaaGreat
open Go.RowKit

end Go.Proofs.YtmcbjekianclpaaGreat

/- The reference's reader: what l02Imply, l02Or, l02And read is what the plain parser gives. -/
namespace Go.Proofs.YtmcbjekianclpaaGreat
open Go.RowKit
open Fm (Nd)

end Go.Proofs.YtmcbjekianclpaaGreat

/- The reference's reader: l02Prefix and l02Imply. -/
namespace Go.Proofs.YtmcbjekianclpaaGreat
open Go.RowKit
open Fm (Nd)

theorem index_letter (w : World) (i : Nat) (hi : i < 6) :
    (Instr.index 9 (.string ⟨#[112, 113, 114, 115, 116, 117]⟩) (.int .i64 i)).run Tryz.prog w = .ok (.int .u8 (112 + (i : Int))) w := by
  have h6 : i = 0 ∨ i = 1 ∨ i = 2 ∨ i = 3 ∨ i = 4 ∨ i = 5 := by omega
  rcases h6 with rfl | rfl | rfl | rfl | rfl | rfl <;> (simp [Instr.index, run_underlying Tryz.underlying9, go_sem]; rfl)
theorem letter_byte2 {i : Nat} (hi : i < 6) : 112 + (i : Int) = ((UInt8.ofNat (112 + i)).toNat : Int) := by
  rw [UInt8.toNat_ofNat']; omega

end Go.Proofs.YtmcbjekianclpaaGreat

/- The readers of whole texts: ParseFormula of the reference. -/
namespace Go.Proofs.YtmcbjekianclpaaGreat
open Go.RowKit
open Fm (Nd)

end Go.Proofs.YtmcbjekianclpaaGreat

/- Where the part at an index ends; the parts of a formula. -/
namespace Go.Proofs.YtmcbjekianclpaaGreat
open Go.RowKit
open Fm (Nd Tree)

theorem partsOf_c (k : Int) (w : World) :
    Calls Tryz.prog 63 #[.int .i64 k] w fun e w' => e = .returned (.int .i64 (Fm.arity k)) ∧ Grew w w' := by
  by_cases h2 : k = 2 ∨ k = 3 ∨ k = 4
  · have ha : Fm.arity k = 2 := by unfold Fm.arity; rw [if_pos h2]
    rw [ha]
    rcases h2 with rfl | rfl | rfl
    all_goals
      go_enter Tryz.func63, Tryz.ntmps63
      go_wp2_with fail
      go_ret
      exact ⟨rfl, Grew.refl _⟩
  by_cases h1 : k = 5 ∨ k = 6
  · have ha : Fm.arity k = 1 := by unfold Fm.arity; rw [if_neg h2, if_pos h1]
    rw [ha]
    rcases h1 with rfl | rfl
    all_goals
      go_enter Tryz.func63, Tryz.ntmps63
      go_wp2_with fail
      go_ret
      exact ⟨rfl, Grew.refl _⟩
  · have ha : Fm.arity k = 0 := by unfold Fm.arity; rw [if_neg h2, if_neg h1]
    rw [ha]
    have n2 : (k == 2) = false := by simp; omega
    have n3 : (k == 3) = false := by simp; omega
    have n4 : (k == 4) = false := by simp; omega
    have n5 : (k == 5) = false := by simp; omega
    have n6 : (k == 6) = false := by simp; omega
    clear h1 h2 ha
    go_enter Tryz.func63, Tryz.ntmps63
    go_wp2_with fail
    go_ret
    exact ⟨rfl, Grew.refl _⟩

/-- What 'partEnd' gives. -/
def pval (j : Nat) : Option Nat → Int
  | some n => (j : Int) + n
  | none => -1
theorem pval_succ (j : Nat) (o : Option Nat) : pval j (o.map (· + 1)) = pval (j + 1) o := by
  cases o with
  | none => rfl
  | some n => show (j : Int) + ((n + 1 : Nat) : Int) = ((j + 1 : Nat) : Int) + n; omega
def pend (xs : List Nd) (i : Nat) : Int := pval i (Fm.scan (xs.drop i) 1)

theorem scan_step {xs : List Nd} {j o : Nat} (hj : j < xs.length) : Fm.scan (xs.drop j) (o + 1) = (Fm.scan (xs.drop (j + 1)) (o + Fm.arity (kd xs j))).map (· + 1) := by
  rw [List.drop_eq_getElem_cons hj, Fm.scan_cons, kd_lt hj]

theorem partEnd_c (v : Value) (xs : List Nd) (i : Nat) (w : World) (h : Nodes w v xs) (hn : xs.length ≤ 1099511627776) (hi : i ≤ 1099511627776) :
    Calls Tryz.prog 42 #[v, .int .i64 i] w fun e w' => e = .returned (.int .i64 (pend xs i)) ∧ Grew w w' := by
  rcases h.open_ with ⟨rfl, rfl⟩ | ⟨b, o, c, rfl, hc, hm, hb, hf⟩
  · have hp : pend [] i = -1 := by simp [pend, Fm.scan_nil, pval]
    rw [hp]
    clear hp
    go_enter Tryz.func42, Tryz.ntmps42
    go_wp2_with fail
    refine wp_loop_rounds 1 ?_; rw [rounds_succ]
    go_wp2_with fail
    go_ret
    exact ⟨rfl, Grew.refl _⟩
  · clear h
    obtain ⟨P, hP⟩ : ∃ P, P = pend xs i := ⟨_, rfl⟩
    rw [← hP]
    -- the rest of the scan decides the result
    have hstart : Hid (P = pval i (Fm.scan (xs.drop i) 1)) := hP
    have hstep := fun j o hj => @scan_step xs j o hj
    have HS := Lib.hid hstep
    have HL : Hid (∀ j, xs.length ≤ j → xs.drop j = []) := Lib.hid fun j hj => List.drop_eq_nil_of_le hj
    clear hP hstep
    have HF := Lib.hid hf
    clear hf
    generalize hN : xs.length = n at *
    clear hN
    go_enter Tryz.func42, Tryz.ntmps42
    go_wp2_with fail
    go_loopg [1, 5] (n + 1 - i) (fun k x y wr => ∃ j op : Nat, x = .int .i64 j ∧ y = .int .i64 op ∧ Grew w wr ∧ i ≤ j ∧ op ≤ j - i + 1 ∧ k = n + 1 - j ∧ j ≤ i + n ∧ Hid (P = pval j (Fm.scan (xs.drop j) op)))
    case atStart => exact ⟨i, 1, rfl, rfl, Grew.refl _, Nat.le_refl _, by omega, rfl, by omega, hstart⟩
    case round =>
      obtain ⟨j, op, rfl, rfl, hB, hij, hop, rfl, hjn, HP⟩ := hrel
      by_cases hz : op = 0
      · subst hz
        have hv : Hid (P = (j : Int)) := Lib.hid (by rw [HP.out, Fm.scan_zero]; simp [pval])
        clear HP
        go_wp2_with fail
        go_ret
        rw [hv.out]
        exact ⟨rfl, hB⟩
      · obtain ⟨q, rfl⟩ : ∃ q, op = q + 1 := ⟨op - 1, by omega⟩
        by_cases hlt : j < n
        · have k1 : ∀ W, Grew w W → W.cell? ⟨b, o + j * 2, none⟩ = some (.int .i64 (kd xs j)) := fun W hW => (HF.out j hlt W hW).1
          have hv : Hid (P = pval (j + 1) (Fm.scan (xs.drop (j + 1)) (q + Fm.arity (kd xs j)))) := Lib.hid (by rw [HP.out, HS.out j q hlt, pval_succ])
          have har := Fm.arity_le (kd xs j)
          clear HP hz
          go_wp2_with fail
          refine (partsOf_c _ _).mono ?_
          rintro e w1 ⟨rfl, hg1⟩
          generalize Fm.arity (kd xs j) = ar at *
          go_wp2_with fail
          go_roundg (n + 1 - (j + 1))
          case measure => omega
          case rel => exact ⟨j + 1, q + ar, by go_num, by go_num, hB.trans hg1, by omega, by omega, rfl, by omega, hv⟩
        · have hv : Hid (P = -1) := Lib.hid (by rw [HP.out, HL.out j (by omega), Fm.scan_nil]; rfl)
          clear HP
          go_wp2_with fail
          go_ret
          rw [hv.out]
          exact ⟨rfl, hB⟩
theorem l02Parts_c (k : Int) (w : World) :
    Calls Tryz.prog 73 #[.int .i64 k] w fun e w' => e = .returned (.int .i64 (Fm.arity k)) ∧ Grew w w' := by
  by_cases h2 : k = 2 ∨ k = 3 ∨ k = 4
  · have ha : Fm.arity k = 2 := by unfold Fm.arity; rw [if_pos h2]
    rw [ha]
    rcases h2 with rfl | rfl | rfl
    all_goals
      go_enter Tryz.func73, Tryz.ntmps73
      go_wp2_with fail
      go_ret
      exact ⟨rfl, Grew.refl _⟩
  by_cases h1 : k = 5 ∨ k = 6
  · have ha : Fm.arity k = 1 := by unfold Fm.arity; rw [if_neg h2, if_pos h1]
    rw [ha]
    rcases h1 with rfl | rfl
    all_goals
      go_enter Tryz.func73, Tryz.ntmps73
      go_wp2_with fail
      go_ret
      exact ⟨rfl, Grew.refl _⟩
  · have ha : Fm.arity k = 0 := by unfold Fm.arity; rw [if_neg h2, if_neg h1]
    rw [ha]
    have n2 : (k == 2) = false := by simp; omega
    have n3 : (k == 3) = false := by simp; omega
    have n4 : (k == 4) = false := by simp; omega
    have n5 : (k == 5) = false := by simp; omega
    have n6 : (k == 6) = false := by simp; omega
    clear h1 h2 ha
    go_enter Tryz.func73, Tryz.ntmps73
    go_wp2_with fail
    go_ret
    exact ⟨rfl, Grew.refl _⟩

theorem l02Part_c (v : Value) (xs : List Nd) (i : Nat) (w : World) (h : Nodes w v xs) (hn : xs.length ≤ 1099511627776) (hi : i ≤ 1099511627776) :
    Calls Tryz.prog 50 #[v, .int .i64 i] w fun e w' => e = .returned (.int .i64 (pend xs i)) ∧ Grew w w' := by
  rcases h.open_ with ⟨rfl, rfl⟩ | ⟨b, o, c, rfl, hc, hm, hb, hf⟩
  · have hp : pend [] i = -1 := by simp [pend, Fm.scan_nil, pval]
    rw [hp]
    clear hp
    go_enter Tryz.func50, Tryz.ntmps50
    go_wp2_with fail
    refine wp_loop_rounds 1 ?_; rw [rounds_succ]
    go_wp2_with fail
    go_ret
    exact ⟨rfl, Grew.refl _⟩
  · clear h
    obtain ⟨P, hP⟩ : ∃ P, P = pend xs i := ⟨_, rfl⟩
    rw [← hP]
    -- the rest of the scan decides the result
    have hstart : Hid (P = pval i (Fm.scan (xs.drop i) 1)) := hP
    have hstep := fun j o hj => @scan_step xs j o hj
    have HS := Lib.hid hstep
    have HL : Hid (∀ j, xs.length ≤ j → xs.drop j = []) := Lib.hid fun j hj => List.drop_eq_nil_of_le hj
    clear hP hstep
    have HF := Lib.hid hf
    clear hf
    generalize hN : xs.length = n at *
    clear hN
    go_enter Tryz.func50, Tryz.ntmps50
    go_wp2_with fail
    go_loopg [1, 5] (n + 1 - i) (fun k x y wr => ∃ j op : Nat, x = .int .i64 j ∧ y = .int .i64 op ∧ Grew w wr ∧ i ≤ j ∧ op ≤ j - i + 1 ∧ k = n + 1 - j ∧ j ≤ i + n ∧ Hid (P = pval j (Fm.scan (xs.drop j) op)))
    case atStart => exact ⟨i, 1, rfl, rfl, Grew.refl _, Nat.le_refl _, by omega, rfl, by omega, hstart⟩
    case round =>
      obtain ⟨j, op, rfl, rfl, hB, hij, hop, rfl, hjn, HP⟩ := hrel
      by_cases hz : op = 0
      · subst hz
        have hv : Hid (P = (j : Int)) := Lib.hid (by rw [HP.out, Fm.scan_zero]; simp [pval])
        clear HP
        go_wp2_with fail
        go_ret
        rw [hv.out]
        exact ⟨rfl, hB⟩
      · obtain ⟨q, rfl⟩ : ∃ q, op = q + 1 := ⟨op - 1, by omega⟩
        by_cases hlt : j < n
        · have k1 : ∀ W, Grew w W → W.cell? ⟨b, o + j * 2, none⟩ = some (.int .i64 (kd xs j)) := fun W hW => (HF.out j hlt W hW).1
          have hv : Hid (P = pval (j + 1) (Fm.scan (xs.drop (j + 1)) (q + Fm.arity (kd xs j)))) := Lib.hid (by rw [HP.out, HS.out j q hlt, pval_succ])
          have har := Fm.arity_le (kd xs j)
          clear HP hz
          go_wp2_with fail
          refine (l02Parts_c _ _).mono ?_
          rintro e w1 ⟨rfl, hg1⟩
          generalize Fm.arity (kd xs j) = ar at *
          go_wp2_with fail
          go_roundg (n + 1 - (j + 1))
          case measure => omega
          case rel => exact ⟨j + 1, q + ar, by go_num, by go_num, hB.trans hg1, by omega, by omega, rfl, by omega, hv⟩
        · have hv : Hid (P = -1) := Lib.hid (by rw [HP.out, HL.out j (by omega), Fm.scan_nil]; rfl)
          clear HP
          go_wp2_with fail
          go_ret
          rw [hv.out]
          exact ⟨rfl, hB⟩

theorem cells_drop (xs : List Nd) : ∀ i, cells (xs.drop i) = (cells xs).drop (i * 2) := by
  induction xs with
  | nil => intro i; simp [cells]
  | cons x xs ih =>
    intro i
    cases i with
    | zero => simp
    | succ i =>
      rw [List.drop_succ_cons, ih, cells_cons, show (i + 1) * 2 = i * 2 + 1 + 1 by omega]
      rfl
theorem cells_take (xs : List Nd) : ∀ i, cells (xs.take i) = (cells xs).take (i * 2) := by
  induction xs with
  | nil => intro i; simp [cells]
  | cons x xs ih =>
    intro i
    cases i with
    | zero => simp [cells]
    | succ i =>
      rw [List.take_succ_cons, cells_cons, ih, cells_cons, show (i + 1) * 2 = i * 2 + 1 + 1 by omega]
      rfl
/-- A cut of a slice of nodes. -/
theorem Nodes.sub {w : World} {b o n c : Nat} {xs : List Nd} (h : Nodes w (.slice (some ⟨b, o, none⟩) n c) xs) (i m c' : Nat) (him : i + m ≤ xs.length) (hc : m ≤ c') (hc' : c' ≤ 9223372036854775807) :
    Nodes w (.slice (some ⟨b, o + i * 2, none⟩) m c') ((xs.drop i).take m) := by
  obtain ⟨h1, h2, h3⟩ := h
  have hl : ((xs.drop i).take m).length = m := by simp; omega
  refine ⟨cells_length _, by omega, .inr ?_⟩
  rcases h3 with ⟨h4, _⟩ | ⟨b', o', c0, h4, h5, h6, h7, h8⟩
  · cases h4
  · simp only [Value.slice.injEq, Option.some.injEq, Addr.mk.injEq, and_true] at h4
    obtain ⟨⟨rfl, rfl⟩, rfl, rfl⟩ := h4
    refine ⟨b, o + i * 2, c', by rw [hl], by omega, hc', h7, fun j u hu => ?_⟩
    rw [cells_take, List.getElem?_take] at hu
    split at hu
    · rw [cells_drop, List.getElem?_drop] at hu
      have := h8 _ _ hu
      rw [show o + i * 2 + j = o + (i * 2 + j) by omega]
      exact this
    · cases hu

/-- A list that stands in another one from i on. -/
def At (xs : List Nd) (i : Nat) (t : Tree) : Prop := ∃ rest, xs.drop i = Fm.enc t ++ rest
theorem At.pend {xs : List Nd} {i : Nat} {t : Tree} (h : At xs i t) : pend xs i = (i : Int) + (Fm.enc t).length := by
  obtain ⟨rest, h⟩ := h
  rw [Go.Proofs.YtmcbjekianclpaaGreat.pend, h, Fm.scan_one]; rfl
theorem At.take {xs : List Nd} {i : Nat} {t : Tree} (h : At xs i t) : (xs.drop i).take (Fm.enc t).length = Fm.enc t := by
  obtain ⟨rest, h⟩ := h
  rw [h, List.take_left']; rfl
theorem At.le {xs : List Nd} {i : Nat} {t : Tree} (h : At xs i t) : i + (Fm.enc t).length ≤ xs.length := by
  obtain ⟨rest, h⟩ := h
  have h1 := congrArg List.length h
  have h2 := Fm.enc_pos t
  simp only [List.length_drop, List.length_append] at h1
  omega

/-- The call returns a slice that reads as the list, and changes nothing. -/
def Cuts (w : World) (xs : List Nd) (e : Ending) (w' : World) : Prop := ∃ v, e = .returned v ∧ Nodes w' v xs ∧ Grew w w'

theorem partEnd_at (v : Value) (xs : List Nd) (i : Nat) (t : Tree) (w : World) (h : Nodes w v xs) (hn : xs.length ≤ 1099511627776) (ht : At xs i t) :
    Calls Tryz.prog 42 #[v, .int .i64 i] w fun e w' => e = .returned (.int .i64 ((i : Int) + (Fm.enc t).length)) ∧ Grew w w' := by
  have := partEnd_c v xs i w h hn (by have := ht.le; omega)
  rw [ht.pend] at this
  exact this
theorem l02Part_at (v : Value) (xs : List Nd) (i : Nat) (t : Tree) (w : World) (h : Nodes w v xs) (hn : xs.length ≤ 1099511627776) (ht : At xs i t) :
    Calls Tryz.prog 50 #[v, .int .i64 i] w fun e w' => e = .returned (.int .i64 ((i : Int) + (Fm.enc t).length)) ∧ Grew w w' := by
  have := l02Part_c v xs i w h hn (by have := ht.le; omega)
  rw [ht.pend] at this
  exact this

/-- The kind of the first node. -/
def kindOf : Tree → Int
  | .var _ => 0
  | .fls => 1
  | .and _ _ => 2
  | .or _ _ => 3
  | .imp _ _ => 4
  | .box _ => 5
  | .dia _ => 6

theorem kd_enc (t : Tree) : kd (Fm.enc t) 0 = kindOf t := by cases t <;> rfl
theorem isF_kind (t : Tree) : Fm.isF t = (kindOf t == 1) := by cases t <;> rfl

/-- Is the formula a negation? -/
def isNeg : Tree → Bool
  | .imp _ b => Fm.isF b
  | _ => false

theorem at_first {xs : List Nd} {k : Nd} {a : Tree} {rest : List Nd} (h : xs = k :: (Fm.enc a ++ rest)) : At xs 1 a := ⟨rest, by rw [h]; rfl⟩
theorem at_second {xs : List Nd} {k : Nd} {a b : Tree} (h : xs = k :: (Fm.enc a ++ Fm.enc b)) : At xs (1 + (Fm.enc a).length) b :=
  ⟨[], by rw [h, Nat.add_comm, List.drop_succ_cons, List.drop_left', List.append_nil]; rfl⟩

/-- The call returns the text and changes nothing. -/
def Says (w : World) (s : List UInt8) (e : Ending) (w' : World) : Prop := e = .returned (.string (bs s)) ∧ Grew w w'

theorem nodes_head {w : World} {v : Value} {t : Tree} (h : Nodes w v (Fm.enc t)) : ∃ b o c, v = .slice (some ⟨b, o, none⟩) (Fm.enc t).length c ∧ (Fm.enc t).length ≤ c ∧ c ≤ 9223372036854775807 ∧ ∀ W, Grew w W → W.cell? ⟨b, o, none⟩ = some (.int .i64 (kindOf t)) := by
  have hpos := Fm.enc_pos t
  rcases h.open_ with ⟨rfl, h0⟩ | ⟨b, o, c, rfl, hc, hm, hb, hf⟩
  · rw [h0] at hpos; simp at hpos
  · refine ⟨b, o, c, rfl, hc, hm, fun W hW => ?_⟩
    have := (hf 0 (by omega) W hW).1
    rw [kd_enc] at this
    simpa using this

theorem letter_cut {q : Nat} (h : q < 6) : ByteArray.extract ⟨#[112, 113, 114, 115, 116, 117]⟩ q (q + 1) = bs [UInt8.ofNat (112 + q)] := by
  have h6 : q = 0 ∨ q = 1 ∨ q = 2 ∨ q = 3 ∨ q = 4 ∨ q = 5 := by omega
  rcases h6 with rfl | rfl | rfl | rfl | rfl | rfl <;> decide
end Go.Proofs.YtmcbjekianclpaaGreat

/- Two lists of nodes that agree as far as k. -/
namespace Go.Proofs.YtmcbjekianclpaaGreat
open Go.RowKit
open Fm (Nd)

/-- Two lists that agree as far as k. -/
def Agree (xs ys : List Nd) (k : Nat) : Prop := ∀ i, i < k → kd xs i = kd ys i ∧ sy xs i = sy ys i
theorem Agree.zero (xs ys : List Nd) : Agree xs ys 0 := fun i hi => absurd hi (by omega)
theorem Agree.succ {xs ys : List Nd} {k : Nat} (h : Agree xs ys k) (h1 : kd xs k = kd ys k) (h2 : sy xs k = sy ys k) : Agree xs ys (k + 1) := by
  intro i hi
  rcases Nat.lt_or_ge i k with hk | hk
  · exact h i hk
  · obtain rfl : i = k := by omega
    exact ⟨h1, h2⟩
end Go.Proofs.YtmcbjekianclpaaGreat

/- The reference's l02Equal on lists of nodes. -/
namespace Go.Proofs.YtmcbjekianclpaaGreat
open Go.RowKit
open Fm (Nd)

theorem agree_all {xs ys : List Nd} (hl : xs.length = ys.length) (h : Agree xs ys xs.length) : xs = ys := nd_ext hl h

end Go.Proofs.YtmcbjekianclpaaGreat

/- The text of a formula: the reference's l02Write. -/
namespace Go.Proofs.YtmcbjekianclpaaGreat
open Go.RowKit
open Fm (Nd Tree)

theorem l02Left_c (v : Value) (xs : List Nd) (a : Tree) (w : World) (h : Nodes w v xs) (hn : xs.length ≤ 1099511627776) (ha : At xs 1 a) :
    Calls Tryz.prog 80 #[v] w (Cuts w (Fm.enc a)) := by
  have hle := ha.le
  have hpos := Fm.enc_pos a
  rcases h.open_ with ⟨rfl, rfl⟩ | ⟨b, o, c, rfl, hc, hm, hb, hf⟩
  · simp only [List.length_nil] at hle; omega
  · have hsub := h.sub 1 (Fm.enc a).length (c - 1) hle (by omega) (by omega)
    rw [ha.take] at hsub
    have HH := Lib.hid h
    have HS := Lib.hid hsub
    have HT := Lib.hid ha
    clear h hf hsub ha
    go_enter Tryz.func80, Tryz.ntmps80
    go_wp2_with fail
    refine (l02Part_at _ xs 1 a _ HH.out hn HT.out).mono ?_
    rintro e w1 ⟨rfl, hg1⟩
    go_wp2_with fail
    go_ret
    refine ⟨_, rfl, ?_, hg1⟩
    rw [Nat.add_sub_cancel_left]
    exact HS.out.grew hg1

theorem l02Right_c (v : Value) (xs : List Nd) (a t : Tree) (w : World) (h : Nodes w v xs) (hn : xs.length ≤ 1099511627776) (ha : At xs 1 a) (ht : At xs (1 + (Fm.enc a).length) t) (hl : xs.length = 1 + (Fm.enc a).length + (Fm.enc t).length) :
    Calls Tryz.prog 81 #[v] w (Cuts w (Fm.enc t)) := by
  have hle := ha.le
  have hpos := Fm.enc_pos t
  rcases h.open_ with ⟨rfl, rfl⟩ | ⟨b, o, c, rfl, hc, hm, hb, hf⟩
  · simp only [List.length_nil] at hle; omega
  · have hsub := h.sub (1 + (Fm.enc a).length) (Fm.enc t).length (c - (1 + (Fm.enc a).length)) (by omega) (by omega) (by omega)
    rw [ht.take] at hsub
    have HH := Lib.hid h
    have HS := Lib.hid hsub
    have HA := Lib.hid ha
    have hk : (Fm.enc t).length = xs.length - (1 + (Fm.enc a).length) := by omega
    rw [hk] at HS
    have hlt : 1 + (Fm.enc a).length < xs.length := by omega
    clear h hf hsub ha ht hl hk hpos
    go_enter Tryz.func81, Tryz.ntmps81
    go_wp2_with fail
    refine (l02Part_at _ xs 1 a _ HH.out hn HA.out).mono ?_
    rintro e w1 ⟨rfl, hg1⟩
    go_wp2_with fail
    go_ret
    exact ⟨_, rfl, HS.out.grew hg1, hg1⟩

theorem enc_fls {t : Tree} (h : Fm.enc t = [(1, 0)]) : t = .fls := by
  cases t <;> simp_all [Fm.enc]
theorem enc_truth {x y : Tree} (h : Fm.enc (.imp x y) = Fm.truth) : x = .fls ∧ y = .fls := by
  have hx := Fm.enc_pos x
  have hy := Fm.enc_pos y
  have h1 : Fm.enc x ++ Fm.enc y = [(1, 0), (1, 0)] := by
    have : (4, 0) :: (Fm.enc x ++ Fm.enc y) = ((4, 0) : Nd) :: [(1, 0), (1, 0)] := h
    injection this
  have hl := congrArg List.length h1
  simp only [List.length_append, List.length_cons, List.length_nil] at hl
  have h2 : Fm.enc x = [(1, 0)] := by
    have := congrArg (List.take 1) h1
    rw [List.take_append_of_le_length hx, List.take_of_length_le (by omega)] at this
    exact this
  have h3 : Fm.enc y = [(1, 0)] := by
    rw [h2] at h1
    simpa using h1
  exact ⟨enc_fls h2, enc_fls h3⟩

end Go.Proofs.YtmcbjekianclpaaGreat

/- A text that reads to a tree whose text it is. -/
namespace Go.Proofs.YtmcbjekianclpaaGreat
open Go.RowKit
open Fm (Nd)

/-- The text is the text of a formula. -/
def IsGood (s : ByteArray) : Prop := ∃ t, Fm.pf s = (Fm.enc t, 0, 0) ∧ bs (Fm.txt t 0) = s
noncomputable def gd (s : ByteArray) : Bool := @decide (IsGood s) (Classical.propDecidable _)
theorem gd_true {s : ByteArray} (h : IsGood s) : gd s = true := by
  unfold gd
  exact @decide_eq_true _ (Classical.propDecidable _) h
theorem gd_false {s : ByteArray} (h : ¬ IsGood s) : gd s = false := by
  unfold gd
  exact @decide_eq_false _ (Classical.propDecidable _) h

theorem pf_cases (s : ByteArray) : (∃ t, Fm.pf s = (Fm.enc t, 0, 0)) ∨ ∃ p c, Fm.pf s = ([], p, c) ∧ (c == 0) = false := by
  unfold Fm.pf
  split
  · exact .inr ⟨_, _, rfl, by decide⟩
  · split
    · exact .inr ⟨_, _, rfl, by decide⟩
    · split
      · exact .inr ⟨_, _, rfl, by decide⟩
      · obtain ⟨t, ht⟩ := Fm.parse_enc s.data.toList Fm.fuel
        refine .inl ⟨t, ?_⟩
        rw [← ht]
        rfl
theorem gd_bad {s : ByteArray} {p : Nat} {c : Int} (h : Fm.pf s = ([], p, c)) (hc : (c == 0) = false) : gd s = false := by
  apply gd_false
  rintro ⟨t, ht, _⟩
  rw [h] at ht
  simp only [Prod.mk.injEq] at ht
  rw [ht.2.2] at hc
  cases hc
theorem gd_tree {s : ByteArray} {t : Fm.Tree} (h : Fm.pf s = (Fm.enc t, 0, 0)) : gd s = ((bs (Fm.txt t 0)).toList == s.toList) := by
  have e : ((bs (Fm.txt t 0)).toList == s.toList) = true ↔ bs (Fm.txt t 0) = s := by
    exact Lib.bytes_beq_iff _ _
  cases hb : ((bs (Fm.txt t 0)).toList == s.toList) with
  | true => exact gd_true ⟨t, h, e.1 hb⟩
  | false =>
    apply gd_false
    rintro ⟨u, hu, hs⟩
    rw [h] at hu
    simp only [Prod.mk.injEq, and_true] at hu
    have := enc_inj hu
    subst this
    rw [e.2 hs] at hb
    cases hb

/-- What the reference's test of a text gives. -/
def GivesG (w : World) (s : ByteArray) (e : Ending) (w' : World) : Prop := ∃ v, e = .returned (.tuple #[v, .bool (gd s)]) ∧ Own w' w.heap.size v (Fm.pf s).1 ∧ Grew w w'

end Go.Proofs.YtmcbjekianclpaaGreat

/- The parts of a formula, as the program's text needs them. -/
namespace Go.Proofs.YtmcbjekianclpaaGreat
open Go.RowKit
open Fm (Nd Tree)

end Go.Proofs.YtmcbjekianclpaaGreat

/- The text of a formula: the program's textAt. -/
namespace Go.Proofs.YtmcbjekianclpaaGreat
open Go.RowKit
open Fm (Nd Tree)

end Go.Proofs.YtmcbjekianclpaaGreat

/- The program's 'parsed'. -/
namespace Go.Proofs.YtmcbjekianclpaaGreat
open Go.RowKit
open Fm (Nd)

/-- A new list, nil where it is empty. -/
def GivesN (w : World) (xs : List Nd) (e : Ending) (w' : World) : Prop := ∃ v, e = .returned v ∧ Own w' w.heap.size v xs ∧ Grew w w' ∧ (xs = [] → v = .slice none 0 0)

end Go.Proofs.YtmcbjekianclpaaGreat

/- Slices of strings. -/
namespace Go.Proofs.YtmcbjekianclpaaGreat
open Go.RowKit

def st (L : List ByteArray) (i : Nat) : ByteArray := L.getD i ByteArray.empty
def scells (L : List ByteArray) : List Value := L.map Value.string
theorem scells_length (L : List ByteArray) : (scells L).length = L.length * 1 := by simp [scells]
theorem scells_one (L : List ByteArray) : ∀ u ∈ scells L, u.oneCell' = true := by
  intro u hu
  simp only [scells, List.mem_map] at hu
  obtain ⟨x, _, rfl⟩ := hu
  rfl
theorem scells_at {L : List ByteArray} {i : Nat} (h : i < L.length) : (scells L)[i]? = some (.string (st L i)) := by simp [scells, st, List.getD, h]
theorem scells_append (K L : List ByteArray) : scells (K ++ L) = scells K ++ scells L := by simp [scells]
theorem st_get {L : List ByteArray} {i : Nat} (h : i < L.length) : L[i] = st L i := by simp [st, List.getD, h]

/-- The value reads as the list of strings. -/
def Strs (w : World) (v : Value) (L : List ByteArray) : Prop := Rd w 1 v L.length (scells L)
/-- A row of the call's own that holds the strings. -/
def OwnS (w : World) (B : Nat) (v : Value) (L : List ByteArray) : Prop := w.ownsRow B 9 1 v L.length (scells L)
theorem Strs.grew {w w' : World} {v : Value} {L : List ByteArray} (h : Strs w v L) (hb : Grew w w') : Strs w' v L := Rd.grew h hb
theorem Strs.nil_ (w : World) : Strs w (.slice none 0 0) [] := Rd.nil_ w 1
theorem OwnS.strs {w : World} {B : Nat} {v : Value} {L : List ByteArray} (h : OwnS w B v L) : Strs w v L := Rd.of_own h
theorem OwnS.nil_ (w : World) (B : Nat) : OwnS w B (.slice none 0 0) [] := World.ownsRow_nil w B _ 1
theorem OwnS.grew {w w' : World} {B : Nat} {v : Value} {L : List ByteArray} (h : OwnS w B v L) (hb : Grew w w') : OwnS w' B v L := own_grew h hb
theorem OwnS.base {w : World} {B B' : Nat} {v : Value} {L : List ByteArray} (h : OwnS w B v L) (hb : B' ≤ B) : OwnS w B' v L := own_base h hb

theorem Strs.open_ {w : World} {v : Value} {L : List ByteArray} (h : Strs w v L) :
    (v = .slice none 0 0 ∧ L = []) ∨ ∃ b o c, v = .slice (some ⟨b, o, none⟩) L.length c ∧ L.length ≤ c ∧ c ≤ 9223372036854775807 ∧ b < w.heap.size ∧
      ∀ i, i < L.length → ∀ W, Grew w W → W.cell? ⟨b, o + i, none⟩ = some (.string (st L i)) := by
  obtain ⟨_, _, h3⟩ := h
  rcases h3 with ⟨h4, h5⟩ | ⟨b, o, c, h4, h5, h6, h7, h8⟩
  · exact .inl ⟨h4, List.eq_nil_of_length_eq_zero h5⟩
  · exact .inr ⟨b, o, c, h4, h5, h6, h7, fun i hi W hW => (hW.cell (p := ⟨b, o + i, none⟩) h7).trans (h8 _ _ (scells_at hi))⟩
theorem strs_slice {w : World} {v : Value} {L : List ByteArray} (h : Strs w v L) : ∃ A c, v = .slice A L.length c := by
  rcases h.open_ with ⟨rfl, rfl⟩ | ⟨b, o, c, rfl, _⟩
  · exact ⟨_, _, rfl⟩
  · exact ⟨_, _, rfl⟩
/-- A literal of strings in a new block. -/
theorem OwnS.lit (w : World) (B : Nat) (L : List ByteArray) (cs : Array Value) (hB : B ≤ w.heap.size) (hn : L.length ≤ 9223372036854775807) (hc : cs.toList = scells L) :
    OwnS (w.alloc (.cells cs 9)) B (.slice (some ⟨w.heap.size, 0, none⟩) L.length L.length) L := by
  have hl : cs.size = L.length * 1 := by rw [← Array.length_toList, hc, scells_length]
  have h := World.ownsRow_lit (e := 9) (size := 1) w cs L.length hB hn hl
  rw [hc] at h
  exact h
theorem OwnS.mk_ {w : World} {B : Nat} {L : List ByteArray} {g c : Nat} {cur : Array Value} (hB : B ≤ g) (hg : w.heap[g]? = some (.cells cur 9 (0, 0))) (hnc : L.length ≤ c) (hcm : c ≤ 9223372036854775807) (hcs : cur.size = c)
    (hc : ∀ i, i < L.length → cur[i]? = some (.string (st L i))) : OwnS w B (.slice (some ⟨g, 0, none⟩) L.length c) L := by
  refine ⟨scells_length L, .inr ⟨g, c, cur, rfl, hB, hg, hnc, hcm, by omega, ?_⟩⟩
  apply List.ext_getElem?
  intro j
  rw [List.getElem?_take]
  by_cases hj : j < L.length
  · rw [if_pos (by omega), scells_at hj]
    simpa using hc j hj
  · rw [if_neg (by omega), List.getElem?_eq_none (by rw [scells_length]; omega)]

theorem Tryz.infoStr : (Tryz.prog.info? 9).map (fun i => (i.zero, i.size, i.bytes)) = some (some (.string ByteArray.empty), 1, 16) := by kernel_rfl

/-- The call returns a new list of strings. -/
def GivesS (w : World) (L : List ByteArray) (e : Ending) (w' : World) : Prop := ∃ v, e = .returned v ∧ OwnS w' w.heap.size v L ∧ Grew w w'

end Go.Proofs.YtmcbjekianclpaaGreat

/- isText of the program. -/
namespace Go.Proofs.YtmcbjekianclpaaGreat
open Go.RowKit
open Fm (Nd)

end Go.Proofs.YtmcbjekianclpaaGreat

/- A predicate on nodes: IndexFunc, ContainsFunc. -/
namespace Go.Proofs.YtmcbjekianclpaaGreat
open Go.RowKit
open Fm (Nd)

/-- None of the first k nodes meets the predicate. -/
def NoneP (p : Int → Int → Bool) (xs : List Nd) (k : Nat) : Prop := ∀ i, i < k → p (kd xs i) (sy xs i) = false
theorem NoneP.zero (p : Int → Int → Bool) (xs : List Nd) : NoneP p xs 0 := fun i hi => absurd hi (by omega)
theorem NoneP.succ {p : Int → Int → Bool} {xs : List Nd} {k : Nat} (h : NoneP p xs k) (h1 : p (kd xs k) (sy xs k) = false) : NoneP p xs (k + 1) := by
  intro i hi
  rcases Nat.lt_or_ge i k with hk | hk
  · exact h i hk
  · obtain rfl : i = k := by omega
    exact h1
/-- Some node meets the predicate. -/
noncomputable def anyP (p : Int → Int → Bool) (xs : List Nd) : Bool := !@decide (NoneP p xs xs.length) (Classical.propDecidable _)
theorem anyP_no {p : Int → Int → Bool} {xs : List Nd} (h : NoneP p xs xs.length) : anyP p xs = false := by
  unfold anyP
  rw [@decide_eq_true _ (Classical.propDecidable _) h]
  rfl
theorem anyP_at {p : Int → Int → Bool} {xs : List Nd} {k : Nat} (hk : k < xs.length) (h : p (kd xs k) (sy xs k) = true) : anyP p xs = true := by
  unfold anyP
  rw [@decide_eq_false _ (Classical.propDecidable _) fun H => by rw [H k hk] at h; cases h]
  rfl

/-- What the function value gives at a node. -/
def PredOk (f : Nat) (p : Int → Int → Bool) : Prop := ∀ a b W, Calls Tryz.prog f #[.agg #[.int .i64 a, .int .i64 b]] W fun e w' => e = .returned (.bool (p a b)) ∧ Grew W w'

theorem indexFunc_c (v : Value) (xs : List Nd) (f : Nat) (p : Int → Int → Bool) (w : World) (h : Nodes w v xs) (hn : xs.length ≤ 1099511627776) (hf : PredOk f p) (eg : ∀ args w, (callFunc f args).run Tryz.prog w = .ok (.enter f args) w) :
    Calls Tryz.prog 60 #[v, .func (.func f) #[] #[]] w fun e w' => ∃ r : Int, e = .returned (.int .i64 r) ∧ Grew w w' ∧ decide (0 ≤ r) = anyP p xs := by
  rcases h.open_ with ⟨rfl, rfl⟩ | ⟨b, o, c, rfl, hc, hm, hb, hcell⟩
  · rw [anyP_no (NoneP.zero _ _)]
    clear h hf
    go_enter Tryz.func60, Tryz.ntmps60
    go_wp2_with fail
    refine wp_loop_rounds 1 ?_; rw [rounds_succ]
    go_wp2_with fail
    go_ret
    exact ⟨_, rfl, Grew.refl _, rfl⟩
  obtain ⟨R, hR⟩ : ∃ R, R = anyP p xs := ⟨_, rfl⟩
  rw [← hR]
  have HA := Lib.hid (fun k hk h => hR.trans (@anyP_at p xs k hk h))
  have HZ := Lib.hid (fun h => hR.trans (@anyP_no p xs h))
  have HC := Lib.hid hcell
  have HF := Lib.hid hf
  clear hcell h hf hR
  generalize hN : xs.length = n at *
  clear hN
  go_enter Tryz.func60, Tryz.ntmps60
  go_wp2_with fail
  go_loopw [5, 8] (fun _ i wr => ∃ j : Nat, j ≤ n ∧ i = .int .i64 j ∧ Grew w wr ∧ Hid (NoneP p xs j)) (fun _ i _ => n - (intOf i).toNat)
  case atStart => exact ⟨0, Nat.zero_le _, rfl, Grew.refl _, NoneP.zero _ _⟩
  case round =>
    obtain ⟨j, hj, rfl, hB, HJ⟩ := hrel
    by_cases hlt : j < n
    · have k1 := (HC.out j hlt _ hB).1
      have k2 := (HC.out j hlt _ hB).2
      have hA := Lib.hid (HA.out j hlt)
      have hS := Lib.hid (fun h => HJ.out.succ (k := j) h)
      generalize kd xs j = x at *
      generalize sy xs j = y at *
      go_wp2_with fail
      go_at_fn f
      refine (HF.out x y _).mono ?_
      rintro e w1 ⟨rfl, hg1⟩
      have hB1 := hB.trans hg1
      cases hp : p x y with
      | true =>
        have hv := hA.out hp
        go_wp2_with fail
        go_ret
        exact ⟨_, rfl, hB1, by rw [hv]; simp⟩
      | false =>
        have hs := Lib.hid (hS.out hp)
        go_wp2_with fail
        go_roundw
        case rel => exact ⟨j + 1, by omega, by go_num, hB1, hs⟩
        case measure => simp [intOf]; omega
    · obtain rfl : j = n := by omega
      have hv := Lib.hid (HZ.out HJ.out)
      go_wp2_with fail
      go_ret
      exact ⟨_, rfl, hB, by rw [hv.out]; rfl⟩

theorem containsFunc_c (v : Value) (xs : List Nd) (f : Nat) (p : Int → Int → Bool) (w : World) (h : Nodes w v xs) (hn : xs.length ≤ 1099511627776) (hf : PredOk f p) (eg : ∀ args w, (callFunc f args).run Tryz.prog w = .ok (.enter f args) w) :
    Calls Tryz.prog 39 #[v, .func (.func f) #[] #[]] w fun e w' => e = .returned (.bool (anyP p xs)) ∧ Grew w w' := by
  have HI := Lib.hid (indexFunc_c v xs f p w h hn hf eg)
  clear h hf eg
  generalize anyP p xs = R at *
  go_enter Tryz.func39, Tryz.ntmps39
  go_wp2_with fail
  refine HI.out.mono ?_
  rintro e w1 ⟨r, rfl, hg1, hr⟩
  go_wp2_with fail
  go_ret
  exact ⟨by rw [← hr]; rfl, hg1⟩

end Go.Proofs.YtmcbjekianclpaaGreat

/- isPlain of the program, l02Plain of the reference. -/
namespace Go.Proofs.YtmcbjekianclpaaGreat
open Go.RowKit
open Fm (Nd)

def isBD (a _b : Int) : Bool := a == 5 || a == 6
theorem isModal_c (a : Int) (w : World) : Calls Tryz.prog 44 #[.int .i64 a] w fun e w' => e = .returned (.bool (a == 5 || a == 6)) ∧ Grew w w' := by
  cases h : (a == 5) with
  | true =>
    go_enter Tryz.func44, Tryz.ntmps44
    go_wp2_with fail
    go_ret
    exact ⟨rfl, Grew.refl _⟩
  | false =>
    go_enter Tryz.func44, Tryz.ntmps44
    go_wp2_with fail
    go_ret
    exact ⟨by simp, Grew.refl _⟩
theorem isPlain1_ok : PredOk 43 isBD := by
  intro a b w
  go_enter Tryz.func43, Tryz.ntmps43
  go_wp2_with fail
  refine (isModal_c _ _).mono ?_
  rintro e w1 ⟨rfl, hg1⟩
  go_wp2_with fail
  go_ret
  exact ⟨rfl, Grew.of_alloc hg1⟩
theorem isPlain_c (v : Value) (xs : List Nd) (w : World) (h : Nodes w v xs) (hn : xs.length ≤ 1099511627776) :
    Calls Tryz.prog 20 #[v] w fun e w' => e = .returned (.bool (!anyP isBD xs)) ∧ Grew w w' := by
  have HI := Lib.hid (containsFunc_c v xs _ _ w h hn isPlain1_ok (enters_of Tryz.func43 (by kernel_rfl) rfl))
  clear h
  generalize anyP isBD xs = R at *
  go_enter Tryz.func20, Tryz.ntmps20
  go_wp2_with fail
  refine HI.out.mono ?_
  rintro e w1 ⟨rfl, hg1⟩
  go_wp2_with fail
  go_ret
  exact ⟨rfl, hg1⟩

theorem l02Plain_c (v : Value) (xs : List Nd) (w : World) (h : Nodes w v xs) (hn : xs.length ≤ 1099511627776) :
    Calls Tryz.prog 14 #[v] w fun e w' => e = .returned (.bool (!anyP isBD xs)) ∧ Grew w w' := by
  rcases h.open_ with ⟨rfl, rfl⟩ | ⟨b, o, c, rfl, hc, hm, hb, hcell⟩
  · rw [anyP_no (NoneP.zero _ _)]
    clear h
    go_enter Tryz.func14, Tryz.ntmps14
    go_wp2_with fail
    refine wp_loop_rounds 1 ?_; rw [rounds_succ]
    go_wp2_with fail
    go_ret
    exact ⟨rfl, Grew.refl _⟩
  obtain ⟨R, hR⟩ : ∃ R, R = anyP isBD xs := ⟨_, rfl⟩
  rw [← hR]
  have HA := Lib.hid (fun k hk h => hR.trans (@anyP_at isBD xs k hk h))
  have HZ := Lib.hid (fun h => hR.trans (@anyP_no isBD xs h))
  have HC := Lib.hid hcell
  clear hcell h hR
  generalize hN : xs.length = n at *
  clear hN
  go_enter Tryz.func14, Tryz.ntmps14
  go_wp2_with fail
  go_loopw [3] (fun i wr => ∃ j : Nat, j ≤ n ∧ i = .int .i64 j ∧ Grew w wr ∧ Hid (NoneP isBD xs j)) (fun i _ => n - (intOf i).toNat)
  case atStart => exact ⟨0, Nat.zero_le _, rfl, Grew.refl _, NoneP.zero _ _⟩
  case round =>
    obtain ⟨j, hj, rfl, hB, HJ⟩ := hrel
    by_cases hlt : j < n
    · have k1 := (HC.out j hlt _ hB).1
      have hA := Lib.hid (HA.out j hlt)
      have hS := Lib.hid (fun h => HJ.out.succ (k := j) h)
      generalize kd xs j = x at *
      generalize sy xs j = y at *
      cases h5 : (x == 5) with
      | true =>
        have hv := Lib.hid (hA.out (by simp [isBD, h5]))
        go_wp2_with fail
        go_ret
        rw [hv.out]
        exact ⟨rfl, hB⟩
      | false =>
        cases h6 : (x == 6) with
        | true =>
          have hv := Lib.hid (hA.out (by simp [isBD, h6]))
          go_wp2_with fail
          go_ret
          rw [hv.out]
          exact ⟨rfl, hB⟩
        | false =>
          have hs := Lib.hid (hS.out (by simp [isBD, h5, h6]))
          go_wp2_with fail
          go_roundw
          case rel => exact ⟨j + 1, by omega, by go_num, hB, hs⟩
          case measure => simp [intOf]; omega
    · obtain rfl : j = n := by omega
      have hv := Lib.hid (HZ.out HJ.out)
      go_wp2_with fail
      go_ret
      rw [hv.out]
      exact ⟨rfl, hB⟩
end Go.Proofs.YtmcbjekianclpaaGreat

/- Is a text that of a plain formula? -/
namespace Go.Proofs.YtmcbjekianclpaaGreat
open Go.RowKit
open Fm (Nd)

/-- The text is the text of a plain formula. -/
noncomputable def gp (s : ByteArray) : Bool := gd s && !anyP isBD (Fm.pf s).1

def GivesP (w : World) (s : ByteArray) (e : Ending) (w' : World) : Prop := ∃ v, e = .returned (.tuple #[v, .bool (gp s)]) ∧ Own w' w.heap.size v (Fm.pf s).1 ∧ Grew w w'

end Go.Proofs.YtmcbjekianclpaaGreat

/- The texts of formulas. No program is in sight. -/
namespace Go.Proofs.YtmcbjekianclpaaGreat
open Go.RowKit

/-- The text of a formula. -/
def tx (A : Fm.Tree) : ByteArray := bs (Fm.txt A 0)
theorem tx_pf {A : Fm.Tree} (h : (Fm.enc A).length ≤ 40) : Fm.pf (tx A) = (Fm.enc A, 0, 0) := Fm.pf_txt A (by have := Fm.txt_len A 0; omega) h
theorem tx_size {A : Fm.Tree} (h : (Fm.enc A).length ≤ 40) : (tx A).size ≤ 160 := by
  unfold tx
  rw [bs_size]
  have := Fm.txt_len A 0
  omega
theorem tx_inj {A B : Fm.Tree} (ha : (Fm.enc A).length ≤ 40) (hb : (Fm.enc B).length ≤ 40) (h : tx A = tx B) : A = B := by
  have h1 := tx_pf ha
  rw [h, tx_pf hb] at h1
  simp only [Prod.mk.injEq, and_true] at h1
  exact (enc_inj h1).symm
theorem tx_ne (A : Fm.Tree) : (tx A).toList.isEmpty = false := by
  have h1 := Fm.txt_pos A 0
  unfold tx
  cases he : Fm.txt A 0 with
  | nil => rw [he] at h1; simp at h1
  | cons x xs =>
    have := Lib.bytes_beq_iff (bs (x :: xs)) ByteArray.empty
    cases hq : (bs (x :: xs)).toList.isEmpty with
    | false => rfl
    | true =>
      exfalso
      have h2 : (bs (x :: xs)).toList = ByteArray.empty.toList := by
        rw [List.isEmpty_iff] at hq
        rw [hq]; exact (by unfold ByteArray.toList ByteArray.toList.loop; rfl : ([] : List UInt8) = ByteArray.empty.toList)
      have h3 := this.1 (by rw [h2]; simp)
      have h4 := congrArg ByteArray.size h3
      rw [bs_size] at h4
      simp at h4

end Go.Proofs.YtmcbjekianclpaaGreat

/- Plain formulas of the size of a text, and their texts. No program is in sight. -/
namespace Go.Proofs.YtmcbjekianclpaaGreat
open Go.RowKit

/-- A formula of the size of a text. -/
def FmOk (A : Fm.Tree) : Prop := (Fm.enc A).length ≤ 40 ∧ anyP isBD (Fm.enc A) = false
theorem gp_tx {A : Fm.Tree} (h : FmOk A) : gp (tx A) = true := by
  unfold gp
  rw [gd_true ⟨A, tx_pf h.1, rfl⟩, tx_pf h.1]
  simp [h.2]
theorem gp_tree {s : ByteArray} (h : gp s = true) : ∃ A, FmOk A ∧ tx A = s := by
  unfold gp at h
  simp only [Bool.and_eq_true, Bool.not_eq_true'] at h
  have hg : IsGood s := by
    by_cases hg : IsGood s
    · exact hg
    · rw [gd_false hg] at h; exact absurd h.1 (by simp)
  obtain ⟨A, h1, h2⟩ := hg
  have hl := Fm.pf_len s
  rw [h1] at hl h
  exact ⟨A, ⟨hl, h.2⟩, h2⟩
/-- The formula that a text is the text of. -/
noncomputable def fo (s : ByteArray) : Fm.Tree := @dite _ (gp s = true) (Classical.propDecidable _) (fun h => Classical.choose (gp_tree h)) (fun _ => .fls)
theorem fo_ok {s : ByteArray} (h : gp s = true) : FmOk (fo s) ∧ tx (fo s) = s := by
  unfold fo
  rw [dif_pos h]
  exact Classical.choose_spec (gp_tree h)

/-- The formula, if it has not too many nodes. -/
def smallF (A : Fm.Tree) : Option Fm.Tree := if (Fm.enc A).length ≤ 40 then some A else none
theorem anyP_mem {p : Int → Int → Bool} {xs : List Fm.Nd} : anyP p xs = false ↔ ∀ x ∈ xs, p x.1 x.2 = false := by
  constructor
  · intro h x hx
    obtain ⟨i, hi, rfl⟩ := List.getElem_of_mem hx
    cases hq : p xs[i].1 xs[i].2 with
    | false => rfl
    | true =>
      have := anyP_at (p := p) hi (by simpa [kd, sy, List.getD, hi] using hq)
      rw [this] at h; cases h
  · intro h
    apply anyP_no
    intro i hi
    have := h xs[i] (List.getElem_mem hi)
    simpa [kd, sy, List.getD, hi] using this
theorem FmOk.bin {k : Int} {A B : Fm.Tree} {C : Fm.Tree} (he : Fm.enc C = (k, 0) :: (Fm.enc A ++ Fm.enc B)) (h : FmOk C) : FmOk A ∧ FmOk B := by
  obtain ⟨h1, h2⟩ := h
  rw [he] at h1 h2
  rw [anyP_mem] at h2
  simp only [List.length_cons, List.length_append] at h1
  exact ⟨⟨by omega, anyP_mem.2 fun x hx => h2 x (by simp [hx])⟩, ⟨by omega, anyP_mem.2 fun x hx => h2 x (by simp [hx])⟩⟩
theorem FmOk.join {k : Int} {A B : Fm.Tree} {C : Fm.Tree} (he : Fm.enc C = (k, 0) :: (Fm.enc A ++ Fm.enc B)) (hk : k ≠ 5 ∧ k ≠ 6) (hA : FmOk A) (hB : FmOk B) (hl : (Fm.enc C).length ≤ 40) : FmOk C := by
  refine ⟨hl, anyP_mem.2 ?_⟩
  rw [he]
  intro x hx
  simp only [List.mem_cons, List.mem_append] at hx
  rcases hx with rfl | hx | hx
  · unfold isBD
    have h5 : (k == 5) = false := by simpa using hk.1
    have h6 : (k == 6) = false := by simpa using hk.2
    show (k == 5 || k == 6) = false
    rw [h5, h6]; rfl
  · exact anyP_mem.1 hA.2 x hx
  · exact anyP_mem.1 hB.2 x hx
theorem smallF_ok {A B : Fm.Tree} (h : smallF A = some B) : A = B ∧ (Fm.enc B).length ≤ 40 := by
  unfold smallF at h
  split at h
  · simp at h; subst h; exact ⟨rfl, ‹_›⟩
  · cases h
theorem fmOk_and {p q : Fm.Tree} (h : FmOk (.and p q)) : FmOk p ∧ FmOk q := FmOk.bin (k := 2) rfl h
theorem fmOk_or {p q : Fm.Tree} (h : FmOk (.or p q)) : FmOk p ∧ FmOk q := FmOk.bin (k := 3) rfl h
theorem fmOk_imp {p q : Fm.Tree} (h : FmOk (.imp p q)) : FmOk p ∧ FmOk q := FmOk.bin (k := 4) rfl h
theorem small_and {p q B : Fm.Tree} (hp : FmOk p) (hq : FmOk q) (h : smallF (.and p q) = some B) : FmOk B := by
  obtain ⟨rfl, hl⟩ := smallF_ok h
  exact FmOk.join (k := 2) rfl (by decide) hp hq hl
theorem small_or {p q B : Fm.Tree} (hp : FmOk p) (hq : FmOk q) (h : smallF (.or p q) = some B) : FmOk B := by
  obtain ⟨rfl, hl⟩ := smallF_ok h
  exact FmOk.join (k := 3) rfl (by decide) hp hq hl
theorem small_imp {p q B : Fm.Tree} (hp : FmOk p) (hq : FmOk q) (h : smallF (.imp p q) = some B) : FmOk B := by
  obtain ⟨rfl, hl⟩ := smallF_ok h
  exact FmOk.join (k := 4) rfl (by decide) hp hq hl
/-- A formula without modalities is of one of five kinds. -/
theorem fm_five {A : Fm.Tree} (h : FmOk A) : (∃ v, A = .var v) ∨ A = .fls ∨ (∃ x y, A = .and x y) ∨ (∃ x y, A = .or x y) ∨ ∃ x y, A = .imp x y := by
  cases A with
  | var v => exact .inl ⟨v, rfl⟩
  | fls => exact .inr (.inl rfl)
  | and x y => exact .inr (.inr (.inl ⟨x, y, rfl⟩))
  | or x y => exact .inr (.inr (.inr (.inl ⟨x, y, rfl⟩)))
  | imp x y => exact .inr (.inr (.inr (.inr ⟨x, y, rfl⟩)))
  | box x => exact absurd (anyP_mem.1 h.2 (5, 0) (by simp [Fm.enc])) (by simp [isBD])
  | dia x => exact absurd (anyP_mem.1 h.2 (6, 0) (by simp [Fm.enc])) (by simp [isBD])
end Go.Proofs.YtmcbjekianclpaaGreat

/- Forcing, plain: boxes, implications, the values of plain formulas; the values reckoned over a list of nodes from its end. No program is in sight. -/
namespace Go.Proofs.YtmcbjekianclpaaGreat
open Go.RowKit
open Fm (Nd Tree)

/-- One node more, ahead of the values: what it does to the stack (the top stands first). -/
def evs (A V : List Nat) (k s : Int) (st : List Nat) : List Nat :=
  if k = 0 then nt V s.toNat :: st
  else if k = 2 then (st.getD 0 0 &&& st.getD 1 0) :: st.drop 2
  else if k = 3 then (st.getD 0 0 ||| st.getD 1 0) :: st.drop 2
  else if k = 4 then ar A (st.getD 0 0) (st.getD 1 0) :: st.drop 2
  else 0 :: st
/-- The stack behind a list of nodes, reckoned from the end. -/
def ev (A V : List Nat) : List Nd → List Nat
  | [] => []
  | x :: xs => evs A V x.1 x.2 (ev A V xs)
theorem ev_enc (A V : List Nat) : ∀ (t : Tree) (r : List Nd), anyP isBD (Fm.enc t) = false → ev A V (Fm.enc t ++ r) = fv A V t :: ev A V r := by
  intro t
  have bin : ∀ {k : Int} {a b : Tree} {r : List Nd} {f : Nat → Nat → Nat}, (∀ r : List Nd, anyP isBD (Fm.enc a) = false → ev A V (Fm.enc a ++ r) = fv A V a :: ev A V r) → (∀ r : List Nd, anyP isBD (Fm.enc b) = false → ev A V (Fm.enc b ++ r) = fv A V b :: ev A V r) →
      anyP isBD ((k, 0) :: (Fm.enc a ++ Fm.enc b)) = false → (∀ x y st, evs A V k 0 (x :: y :: st) = f x y :: st) → ev A V ((k, 0) :: (Fm.enc a ++ Fm.enc b) ++ r) = f (fv A V a) (fv A V b) :: ev A V r := by
    intro k a b r f ha hb h hf
    rw [anyP_mem] at h
    show evs A V k 0 (ev A V (Fm.enc a ++ Fm.enc b ++ r)) = _
    rw [List.append_assoc, ha _ (anyP_mem.2 fun x hx => h x (by simp [hx])), hb _ (anyP_mem.2 fun x hx => h x (by simp [hx])), hf]
  induction t with
  | var v => intro r _; show evs A V 0 (v.val : Int) _ = _; unfold evs; rw [if_pos rfl]; rfl
  | fls => intro r _; rfl
  | and a b iha ihb => intro r h; exact bin (f := fun x y => x &&& y) iha ihb h (fun _ _ _ => rfl)
  | or a b iha ihb => intro r h; exact bin (f := fun x y => x ||| y) iha ihb h (fun _ _ _ => rfl)
  | imp a b iha ihb => intro r h; exact bin (f := ar A) iha ihb h (fun _ _ _ => rfl)
  | box a => intro r h; exact absurd (anyP_mem.1 h (5, 0) (by simp [Fm.enc])) (by simp [isBD])
  | dia a => intro r h; exact absurd (anyP_mem.1 h (6, 0) (by simp [Fm.enc])) (by simp [isBD])
/-- Each node finds its parts on the stack. -/
def Fed (A V : List Nat) (xs : List Nd) : Prop := ∀ i, i < xs.length → (kd xs i = 2 ∨ kd xs i = 3 ∨ kd xs i = 4) → 2 ≤ (ev A V (xs.drop (i + 1))).length
theorem Fed.nil_ (A V : List Nat) : Fed A V [] := fun i hi => absurd hi (by simp)
theorem Fed.cons {A V : List Nat} {x : Nd} {xs : List Nd} (h : Fed A V xs) (h1 : (x.1 = 2 ∨ x.1 = 3 ∨ x.1 = 4) → 2 ≤ (ev A V xs).length) : Fed A V (x :: xs) := by
  intro i hi hk
  cases i with
  | zero => exact h1 hk
  | succ i => exact h i (by simpa using hi) hk
theorem fed_enc (A V : List Nat) : ∀ (t : Tree) (r : List Nd), anyP isBD (Fm.enc t) = false → Fed A V r → Fed A V (Fm.enc t ++ r) := by
  intro t
  have bin : ∀ {k : Int} {a b : Tree} {r : List Nd}, (∀ r : List Nd, anyP isBD (Fm.enc a) = false → Fed A V r → Fed A V (Fm.enc a ++ r)) → (∀ r : List Nd, anyP isBD (Fm.enc b) = false → Fed A V r → Fed A V (Fm.enc b ++ r)) →
      anyP isBD ((k, 0) :: (Fm.enc a ++ Fm.enc b)) = false → Fed A V r → Fed A V ((k, 0) :: (Fm.enc a ++ Fm.enc b) ++ r) := by
    intro k a b r ha hb h hr
    rw [anyP_mem] at h
    have h1 : anyP isBD (Fm.enc a) = false := anyP_mem.2 fun x hx => h x (by simp [hx])
    have h2 : anyP isBD (Fm.enc b) = false := anyP_mem.2 fun x hx => h x (by simp [hx])
    rw [List.cons_append, List.append_assoc]
    refine (ha _ h1 (hb _ h2 hr)).cons fun _ => ?_
    rw [ev_enc A V a _ h1, ev_enc A V b _ h2]
    simp
  have zero : ∀ {x : Nd} {r : List Nd}, ¬ (x.1 = 2 ∨ x.1 = 3 ∨ x.1 = 4) → Fed A V r → Fed A V ([x] ++ r) := fun hx hr => hr.cons fun h => absurd h hx
  induction t with
  | var v => intro r _ hr; exact zero (by show ¬ ((0 : Int) = 2 ∨ (0 : Int) = 3 ∨ (0 : Int) = 4); decide) hr
  | fls => intro r _ hr; exact zero (by decide) hr
  | and a b iha ihb => intro r h hr; exact bin iha ihb h hr
  | or a b iha ihb => intro r h hr; exact bin iha ihb h hr
  | imp a b iha ihb => intro r h hr; exact bin iha ihb h hr
  | box a => intro r h; exact absurd (anyP_mem.1 h (5, 0) (by simp [Fm.enc])) (by simp [isBD])
  | dia a => intro r h; exact absurd (anyP_mem.1 h (6, 0) (by simp [Fm.enc])) (by simp [isBD])
theorem fed_of {A V : List Nat} {t : Tree} (h : anyP isBD (Fm.enc t) = false) : Fed A V (Fm.enc t) := by
  have := fed_enc A V t [] h (Fed.nil_ A V)
  rwa [List.append_nil] at this
theorem ev_of {A V : List Nat} {t : Tree} (h : anyP isBD (Fm.enc t) = false) : ev A V (Fm.enc t) = [fv A V t] := by
  have := ev_enc A V t [] h
  rwa [List.append_nil] at this
theorem ev_drop {A V : List Nat} {xs : List Nd} {i : Nat} (h : i < xs.length) : ev A V (xs.drop i) = evs A V (kd xs i) (sy xs i) (ev A V (xs.drop (i + 1))) := by
  rw [List.drop_eq_getElem_cons h]
  show evs A V (xs[i]).1 (xs[i]).2 _ = _
  simp [kd, sy, List.getD, h]
/-- All values on the stack are sets of elements. -/
theorem ev_sm {A V : List Nat} (hV : ∀ m ∈ V, m < 2 ^ A.length) : ∀ xs : List Nd, ∀ m ∈ ev A V xs, m < 2 ^ A.length
  | [] => fun m h => absurd h (by simp [ev])
  | x :: xs => by
    have ih := ev_sm hV xs
    have hp : 0 < 2 ^ A.length := Nat.pow_pos (by omega)
    have hg : ∀ i, (ev A V xs).getD i 0 < 2 ^ A.length := by
      intro i
      by_cases h : i < (ev A V xs).length
      · simp only [List.getD_eq_getElem?_getD, List.getElem?_eq_getElem h, Option.getD_some]; exact ih _ (List.getElem_mem h)
      · rw [List.getD_eq_getElem?_getD, List.getElem?_eq_none (by omega)]; exact hp
    intro m hm
    have hm : m ∈ evs A V x.1 x.2 (ev A V xs) := hm
    unfold evs at hm
    repeat' split at hm
    all_goals rcases List.mem_cons.1 hm with rfl | hm
    · unfold nt
      by_cases h : x.2.toNat < V.length
      · simp only [List.getD_eq_getElem?_getD, List.getElem?_eq_getElem h, Option.getD_some]; exact hV _ (List.getElem_mem h)
      · rw [List.getD_eq_getElem?_getD, List.getElem?_eq_none (by omega)]; exact hp
    · exact ih _ hm
    · exact Nat.and_lt_two_pow _ (hg 1)
    · exact ih _ (List.mem_of_mem_drop hm)
    · exact Nat.or_lt_two_pow (hg 0) (hg 1)
    · exact ih _ (List.mem_of_mem_drop hm)
    · exact bx_lt _ _
    · exact ih _ (List.mem_of_mem_drop hm)
    · exact hp
    · exact ih _ hm
theorem enc_nd : ∀ (t : Tree), ∀ x ∈ Fm.enc t, (x.1 = 0 ∧ ∃ v : Nat, x.2 = (v : Int) ∧ v < 6) ∨ x.1 = 1 ∨ x.1 = 2 ∨ x.1 = 3 ∨ x.1 = 4 ∨ x.1 = 5 ∨ x.1 = 6 := by
  intro t
  induction t with
  | var v => intro x hx; simp [Fm.enc] at hx; subst hx; exact .inl ⟨rfl, v.val, rfl, v.isLt⟩
  | fls => intro x hx; simp [Fm.enc] at hx; subst hx; exact .inr (.inl rfl)
  | and a b iha ihb =>
    intro x hx; simp [Fm.enc] at hx; rcases hx with rfl | hx | hx
    · exact .inr (.inr (.inl rfl))
    · exact iha x hx
    · exact ihb x hx
  | or a b iha ihb =>
    intro x hx; simp [Fm.enc] at hx; rcases hx with rfl | hx | hx
    · exact .inr (.inr (.inr (.inl rfl)))
    · exact iha x hx
    · exact ihb x hx
  | imp a b iha ihb =>
    intro x hx; simp [Fm.enc] at hx; rcases hx with rfl | hx | hx
    · exact .inr (.inr (.inr (.inr (.inl rfl))))
    · exact iha x hx
    · exact ihb x hx
  | box a iha =>
    intro x hx; simp [Fm.enc] at hx; rcases hx with rfl | hx
    · exact .inr (.inr (.inr (.inr (.inr (.inl rfl)))))
    · exact iha x hx
  | dia a iha =>
    intro x hx; simp [Fm.enc] at hx; rcases hx with rfl | hx
    · exact .inr (.inr (.inr (.inr (.inr (.inr rfl)))))
    · exact iha x hx
theorem enc_kinds {t : Tree} (h : anyP isBD (Fm.enc t) = false) {i : Nat} (hi : i < (Fm.enc t).length) :
    (kd (Fm.enc t) i = 0 ∧ ∃ v : Nat, sy (Fm.enc t) i = (v : Int) ∧ v < 6) ∨ kd (Fm.enc t) i = 1 ∨ kd (Fm.enc t) i = 2 ∨ kd (Fm.enc t) i = 3 ∨ kd (Fm.enc t) i = 4 := by
  have h1 : kd (Fm.enc t) i = ((Fm.enc t)[i]).1 := by simp [kd, List.getD, hi]
  have h2 : sy (Fm.enc t) i = ((Fm.enc t)[i]).2 := by simp [sy, List.getD, hi]
  rw [h1, h2]
  have hb := anyP_mem.1 h _ (List.getElem_mem hi)
  rcases enc_nd t _ (List.getElem_mem hi) with h3 | h3 | h3 | h3 | h3 | h3 | h3
  · exact .inl h3
  · exact .inr (.inl h3)
  · exact .inr (.inr (.inl h3))
  · exact .inr (.inr (.inr (.inl h3)))
  · exact .inr (.inr (.inr (.inr h3)))
  · rw [h3] at hb; simp [isBD] at hb
  · rw [h3] at hb; simp [isBD] at hb
end Go.Proofs.YtmcbjekianclpaaGreat

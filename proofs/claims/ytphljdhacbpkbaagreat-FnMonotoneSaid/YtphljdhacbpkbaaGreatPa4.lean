/- Texts in one file: KrI KrF TwoF TwoT KrS IsF IsS FmTree MnA MnB MnC CmpI ShelfI SrtI MnD MnP MnQ MnR MnE MnS From Dice Bit9 BigW Args0 ArgB LawMn. -/
import Derived.Deep.RegionHeld3
import Derived.MapKept
import Derived.Maps.OwnOps
import Derived.Maps.OwnSet
import Derived.Lib.OwnBridge
import Derived.Lib.RowBridge
import Derived.Sort.OwnSortedInts
import Derived.Ground.SlgnProg
import Derived.Shelf.SlicesG.CompactI
import Derived.Ground.SlgmProg
import Derived.Shelf.SortM.Plain
import Derived.Shelf.SortM.SortNone
import Derived.Test.YtphljdhacbpkbaaGreatProg
import Derived.Carry
import Derived.StillTailTactics
import Derived.BigRegion
import Derived.Deep.LoopGhost
import Derived.ChangeSlices
import Derived.Deep.Strs
import Derived.Lib.SmallJoins
import Derived.ProofKit
import Derived.Test.YtphljdhacbpkbaaGreatPa1
import Derived.Test.YtphljdhacbpkbaaGreatPa2
import Derived.Test.YtphljdhacbpkbaaGreatPa3
set_option linter.all false

/- Implications of sets: all, imply of the program, l17Arrow of the reference. -/
namespace Go.Proofs.YtphljdhacbpkbaaGreat
open Go.RowKit

theorem posAll_c (n : Nat) (v : Value) (w : World) (hv : ∃ A m c, v = .slice A m c) (hn : n ≤ 30) :
    Calls Tryz.prog 58 #[.agg #[.int .i64 (n : Int), v]] w fun e w' => e = .returned (.int .i64 ((full n : Nat) : Int)) ∧ Grew w w' := by
  have h1 := wrap_pow hn
  have h2 := pow30' hn
  have h3 : 0 < 2 ^ n := Nat.pow_pos (by omega)
  have hf := Lib.hid (full_cast n)
  have hg := (Grew.refl w).alloc (.cells #[.int .i64 (n : Int), v] 26)
  obtain ⟨A, m, c, rfl⟩ := hv
  generalize full n = F at *
  generalize (2 ^ n : Nat) = p at *
  go_enter Tryz.func58, Tryz.ntmps58
  go_wp2_with fail
  go_ret
  refine ⟨?_, hg⟩
  have hf := hf.out
  rw [hf]
  rfl
theorem posImply_c (v : Value) (A : List Nat) (a b : Nat) (w : World) (h : Ints w v (zs A)) (hA : Rl A) (ha : a < 1073741824) (hb : b < 1073741824) :
    Calls Tryz.prog 31 #[.agg #[.int .i64 (A.length : Int), v], .int .i64 (a : Int), .int .i64 (b : Int)] w fun e w' => e = .returned (.int .i64 ((ar A a b : Nat) : Int)) ∧ Grew w w' := by
  have hf := full_lt A.length
  have hf2 := pow30' hA.1
  have hd := dif_le (a := full A.length) (b := a)
  have h1 := andNot_i64 (full A.length) a (by omega) (by omega)
  have h2 := or_i64 (dif (full A.length) a) b (by omega) (by omega)
  have h3 := Nat.or_lt_two_pow (n := 30) (x := dif (full A.length) a) (y := b) (by omega) (by omega)
  have KA := Lib.hid (fun W hv => posAll_c A.length v W hv hA.1)
  have KB := Lib.hid (fun W hW => box_q v A (dif (full A.length) a ||| b) W (h.grew hW) hA.sm hA.1 (by omega))
  have hr : Hid (bx A (dif (full A.length) a ||| b) = ar A a b) := Lib.hid rfl
  have hal := (Grew.refl w).alloc (.cells #[.int .i64 (A.length : Int), v] 26)
  obtain ⟨A', c, rfl⟩ := ints_sliceN h
  have KA := Lib.hid (fun W => KA.out W ⟨_, _, _, rfl⟩)
  clear hf hf2 hd h hA ha hb h3
  generalize bx A (dif (full A.length) a ||| b) = R at *
  generalize dif (full A.length) a ||| b = D at *
  generalize dif (full A.length) a = C at *
  generalize full A.length = F at *
  generalize A.length = n at *
  obtain ⟨w1, hw1⟩ : ∃ w1, w1 = w.alloc (.cells #[.int .i64 (n : Int), .slice A' n c] 26) := ⟨_, rfl⟩
  rw [← hw1] at hal
  have HG := Lib.hid hal
  have hk0 : w1.heap[w.heap.size]? = some (.cells #[.int .i64 (n : Int), .slice A' n c] 26 (0, 0)) := by rw [hw1]; exact blk_new w _
  have k0 : ∀ W, Grew w1 W → W.cell? ⟨w.heap.size, 0, none⟩ = some (.int .i64 (n : Int)) := fun W hW => by rw [blk_cell ((hW.block (blk_lt hk0)).trans hk0)]; rfl
  have k1 : ∀ W, Grew w1 W → W.cell? ⟨w.heap.size, 1, none⟩ = some (.slice A' n c) := fun W hW => by rw [blk_cell ((hW.block (blk_lt hk0)).trans hk0)]; rfl
  have hr1 := Grew.refl w1
  have hd1 := hr1.drew
  clear hal hk0
  go_enter Tryz.func31, Tryz.ntmps31
  go_wp2_with fail
  simp only [← hw1]
  clear hw1
  go_region_held3 (fun w' => Grew w1 w') (with_reducible assumption)
    (first | (go_at_call 62; refine (KB.out _ (HG.out.trans hk2)).mono ?_; rintro e w3 ⟨rfl, rfl⟩) | (go_at_call 58; refine (KA.out _).mono ?_; rintro e w2 ⟨rfl, hg2⟩; have hk2 := hd1.trans hg2))
  go_wp2_with fail
  go_ret
  exact ⟨by rw [hr.out]; rfl, HG.out.trans hk2⟩
theorem l17Arrow_c (v : Value) (A : List Nat) (a b : Nat) (w : World) (h : Ints w v (zs A)) (hA : Rl A) (ha : a < 1073741824) (hb : b < 1073741824) :
    Calls Tryz.prog 52 #[.agg #[.int .i64 (A.length : Int), v], .int .i64 (a : Int), .int .i64 (b : Int)] w fun e w' => e = .returned (.int .i64 ((ar A a b : Nat) : Int)) ∧ Grew w w' := by
  have hf := full_lt A.length
  have hf2 := pow30' hA.1
  have hd := dif_le (a := full A.length) (b := a)
  have h1 := andNot_i64 (full A.length) a (by omega) (by omega)
  have h2 := or_i64 (dif (full A.length) a) b (by omega) (by omega)
  have h3 := Nat.or_lt_two_pow (n := 30) (x := dif (full A.length) a) (y := b) (by omega) (by omega)
  have KA := Lib.hid (fun W => (l01Full_q A.length hA.1 W).mono fun e w' (h : _ ∧ _) => (⟨h.1.trans (by rw [full_cast]), h.2⟩ : e = .returned (.int .i64 ((full A.length : Nat) : Int)) ∧ w' = W))
  have KB := Lib.hid (fun W hW => l01Box_q v A (dif (full A.length) a ||| b) W (h.grew hW) hA.sm hA.1 (by omega))
  have hr : Hid (bx A (dif (full A.length) a ||| b) = ar A a b) := Lib.hid rfl
  have hal := (Grew.refl w).alloc (.cells #[.int .i64 (A.length : Int), v] 26)
  obtain ⟨A', c, rfl⟩ := ints_sliceN h
  clear hf hf2 hd h hA ha hb h3
  generalize bx A (dif (full A.length) a ||| b) = R at *
  generalize dif (full A.length) a ||| b = D at *
  generalize dif (full A.length) a = C at *
  generalize full A.length = F at *
  generalize A.length = n at *
  obtain ⟨w1, hw1⟩ : ∃ w1, w1 = w.alloc (.cells #[.int .i64 (n : Int), .slice A' n c] 26) := ⟨_, rfl⟩
  rw [← hw1] at hal
  have HG := Lib.hid hal
  have hk0 : w1.heap[w.heap.size]? = some (.cells #[.int .i64 (n : Int), .slice A' n c] 26 (0, 0)) := by rw [hw1]; exact blk_new w _
  have k0 : ∀ W, Grew w1 W → W.cell? ⟨w.heap.size, 0, none⟩ = some (.int .i64 (n : Int)) := fun W hW => by rw [blk_cell ((hW.block (blk_lt hk0)).trans hk0)]; rfl
  have k1 : ∀ W, Grew w1 W → W.cell? ⟨w.heap.size, 1, none⟩ = some (.slice A' n c) := fun W hW => by rw [blk_cell ((hW.block (blk_lt hk0)).trans hk0)]; rfl
  have hr1 := Grew.refl w1
  have hd1 := hr1.drew
  clear hal hk0
  go_enter Tryz.func52, Tryz.ntmps52
  go_wp2_with fail
  simp only [← hw1]
  clear hw1
  go_region_held3 (fun w' => Grew w1 w') (first | with_reducible assumption | exact Grew.drewN (Grew.refl _) _)
    (first | (go_at_call 90; refine (KB.out _ (HG.out.trans hk2)).mono ?_; rintro e w3 ⟨rfl, d3, rfl⟩) | (go_at_call 42; refine (KA.out _).mono ?_; rintro e w2 ⟨rfl, rfl⟩; have hk2 := hd1))
  go_wp2_with fail
  go_ret
  exact ⟨by rw [hr.out]; rfl, HG.out.trans ((Grew.refl _).drewN _)⟩
end Go.Proofs.YtphljdhacbpkbaaGreat

/- forced of the program: a stack of values. -/
namespace Go.Proofs.YtphljdhacbpkbaaGreat
open Go.RowKit
open Fm (Nd Tree)

/-- The stack: the top stands last. -/
def sk (st : List Nat) : List Int := zs st.reverse
theorem sk_len (st : List Nat) : (sk st).length = st.length := by unfold sk; rw [zs_len, List.length_reverse]
theorem sk_cons (x : Nat) (st : List Nat) : sk (x :: st) = sk st ++ [(x : Int)] := by unfold sk; rw [List.reverse_cons, zs_append]; rfl
/-- A row of the call's own without its last number. -/
theorem OwnI.pop {w : World} {B : Nat} {A : Option Addr} {n c : Nat} {L : List Int} {x : Int} (h : OwnI w B (.slice A n c) (L ++ [x])) : n = L.length + 1 ∧ ∃ g, A = some ⟨g, 0, none⟩ ∧ n ≤ c ∧ c ≤ 9223372036854775807 ∧ B ≤ g ∧ g < w.heap.size ∧ w.cell? ⟨g, L.length, none⟩ = some (.int .i64 x) ∧ OwnI w B (.slice (some ⟨g, 0, none⟩) L.length c) L := by
  obtain ⟨h1, h2⟩ := h
  rcases h2 with ⟨h3, h4⟩ | ⟨g, cap, cur, h3, h4, h5, h6, h7, h8, h9⟩
  · rw [List.length_append] at h4; simp at h4
  · rw [List.length_append, List.length_singleton] at h3 h6 h9
    simp only [Value.slice.injEq] at h3
    obtain ⟨rfl, rfl, rfl⟩ := h3
    have hsz : cur.size = c := by omega
    have hcell : ∀ j, j < L.length + 1 → cur[j]? = (icells (L ++ [x]))[j]? := fun j hj => by
      have := congrArg (fun l => l[j]?) h9
      simp only [List.getElem?_take] at this
      rw [if_pos (by omega)] at this
      simpa using this
    refine ⟨rfl, g, rfl, h6, h7, h4, (Array.getElem?_eq_some_iff.1 h5).1, ?_, ?_⟩
    · rw [cell_of_row w g _ cur _ (0, 0) h5, hcell _ (by omega)]
      have := icells_at (L := L ++ [x]) (i := L.length) (by simp)
      rw [this]
      simp [it, List.getD]
    · refine OwnI.mk_ h4 h5 (by omega) h7 hsz fun i hi => ?_
      rw [hcell i (by omega), icells_at (by simp; omega)]
      congr 1
      simp [it, List.getD, List.getElem?_append_left hi]
/-- The stack of the call lies in block b. -/
def Stk (w : World) (b B : Nat) (st : List Nat) : Prop := ∃ A n c, w.heap[b]? = some (.cells #[.slice A n c] 24 (0, 0)) ∧ OwnI w B (.slice A n c) (sk st)
theorem pop_c (b : Nat) (x : Nat) (st : List Nat) (B : Nat) (w : World) (h : Stk w b B (x :: st)) (hb : b < B) :
    Calls Tryz.prog 46 #[.pointer (some ⟨b, 0, none⟩)] w fun e w' => e = .returned (.int .i64 (x : Int)) ∧ Stk w' b B st ∧ Only b w w' := by
  obtain ⟨A, n, c, h1, h2⟩ := h
  rw [sk_cons] at h2
  obtain ⟨rfl, g, rfl, h3, h4, h5, h6, h7, h8⟩ := h2.pop
  have HE := Lib.hid (show ∀ v, w.heap[b]? = some (.cells #[v] 24 (0, 0)) → (Only b w (w.setCell ⟨b, 0, none⟩ (.slice (some ⟨g, 0, none⟩) (sk st).length c)) ∧ Stk (w.setCell ⟨b, 0, none⟩ (.slice (some ⟨g, 0, none⟩) (sk st).length c)) b B st) from fun v hv =>
    ⟨(Only.refl b w).setCell _, _, _, _, blk_set hv 0 _, own_only h8 ((Only.refl b w).setCell _) (fun he => by have := own_of_ge h8 he; omega)⟩)
  have HE := HE.out _ h1
  have HE := Lib.hid HE
  have k0 : w.cell? ⟨b, 0, none⟩ = some (.slice (some ⟨g, 0, none⟩) ((sk st).length + 1) c) := by rw [blk_cell h1]; rfl
  have f0 := blk_frozen h1 0
  clear h1 h2 h8
  generalize (sk st).length = m at *
  go_enter Tryz.func46, Tryz.ntmps46
  go_wp2_with fail
  go_ret
  exact ⟨rfl, HE.out.2, HE.out.1⟩
/-- An append onto a row of the call's own above block B. -/
theorem wpList_appB {ops : Array Oper} {rest : List Oper} {o : Oper} {a : Act} {Q : Exit → Act → World → Prop} {w : World} (B : Nat) (s x : Operand) (hgd : o.guard = none)
    (ho : o.op = .call { callee := .builtin .append, args := #[s, x], argTypes := #[24, 24] })
    (v : Value) (L : List Int) (hs : a.eval s = v) (hown : OwnI w B v L) (hB : B ≤ w.heap.size) (vx : Value) (k : Int) (hx : a.eval x = vx) (hr : Rd w 1 vx 1 [.int .i64 k]) (hn : L.length ≤ 1048576)
    (h : ∀ v' w', OwnI w' B v' (L ++ [k]) → w.grownBy w' v.ownBlock → wpList Tryz.prog ops Q rest (a.put o.dst v') w') : wpList Tryz.prog ops Q (o :: rest) a w := by
  obtain ⟨i0, hi0, hz0, hz1, hz2⟩ := info_parts Tryz.infoI
  refine wpList_append_rd w hgd s x _ ho B 2 i0 _ 1 8 Tryz.underlying24 hi0 hz0 hz1 hz2 rfl (by omega) v L.length (icells L) hs hown vx 1 [.int .i64 k] hx hr (by simp [Value.oneCell']) (by unfold maxLen; omega) (by omega) hB ?_
  intro v' w' h1 h2 h3
  refine h v' w' ?_ h2
  unfold OwnI
  rw [List.length_append, icells_append]
  exact h1
theorem evs_var {A V : List Nat} {k s : Int} {v : Nat} {st : List Nat} (h : k = 0) (hs : s = (v : Int)) : evs A V k s st = nt V v :: st := by unfold evs; rw [if_pos h, hs]; rfl
theorem evs_fls {A V : List Nat} {k s : Int} {st : List Nat} (h : k = 1) : evs A V k s st = 0 :: st := by subst h; rfl
theorem evs_and {A V : List Nat} {k s : Int} {x y : Nat} {st : List Nat} (h : k = 2) : evs A V k s (x :: y :: st) = (x &&& y) :: st := by subst h; rfl
theorem evs_or {A V : List Nat} {k s : Int} {x y : Nat} {st : List Nat} (h : k = 3) : evs A V k s (x :: y :: st) = (x ||| y) :: st := by subst h; rfl
theorem evs_imp {A V : List Nat} {k s : Int} {x y : Nat} {st : List Nat} (h : k = 4) : evs A V k s (x :: y :: st) = ar A x y :: st := by subst h; rfl
theorem two_at {st : List Nat} (h : 2 ≤ st.length) : ∃ x y r, st = x :: y :: r := by
  match st, h with
  | x :: y :: r, _ => exact ⟨x, y, r, rfl⟩
theorem Stk.grew {w w' : World} {b B : Nat} {st : List Nat} (h : Stk w b B st) (hg : Grew w w') : Stk w' b B st := by
  obtain ⟨A, n, c, h1, h2⟩ := h
  exact ⟨A, n, c, (hg.block (blk_lt h1)).trans h1, h2.grew hg⟩

theorem enc_kinds_v {t : Tree} {n : Nat} (h : anyP isBD (Fm.enc t) = false) {i : Nat} (hi : i < (Fm.enc t).length) (hn : kd (Fm.enc t) i = 0 → sy (Fm.enc t) i < (n : Int)) :
    (kd (Fm.enc t) i = 0 ∧ ∃ v : Nat, sy (Fm.enc t) i = (v : Int) ∧ v < n) ∨ kd (Fm.enc t) i = 1 ∨ kd (Fm.enc t) i = 2 ∨ kd (Fm.enc t) i = 3 ∨ kd (Fm.enc t) i = 4 := by
  rcases enc_kinds h hi with ⟨h1, v, h2, _⟩ | h1
  · have := hn h1
    exact .inl ⟨h1, v, h2, by omega⟩
  · exact .inr h1
set_option maxHeartbeats 4000000 in
set_option maxRecDepth 4096 in
theorem forced_g (v u va : Value) (A V : List Nat) (t : Tree) (w : World) (h : Ints w v (zs A)) (hu : Ints w u (zs V)) (ha : Nodes w va (Fm.enc t)) (hA : Rl A) (hV : ∀ m ∈ V, m < 2 ^ A.length) (hl0 : 0 < V.length) (hl6 : V.length ≤ 6) (hsm6 : ∀ i, i < (Fm.enc t).length → kd (Fm.enc t) i = 0 → sy (Fm.enc t) i < (V.length : Int)) (ht : FmOk t) :
    Calls Tryz.prog 22 #[.agg #[.int .i64 (A.length : Int), v], u, va] w fun e w' => e = .returned (.int .i64 ((fv A V t : Nat) : Int)) ∧ Grew w w' := by
  have hbd := ht.2
  have hsm : ∀ m, m < 2 ^ A.length → m < 1073741824 := fun m hm => Nat.lt_of_lt_of_le hm (pow30' hA.1)
  have HSM := Lib.hid (fun i m (hm : m ∈ ev A V ((Fm.enc t).drop i)) => hsm m (ev_sm hV _ m hm))
  have HFED := Lib.hid (fed_of (A := A) (V := V) hbd)
  have HEND := Lib.hid (ev_of (A := A) (V := V) hbd)
  have HDR := Lib.hid (fun i (hi : i < (Fm.enc t).length) => ev_drop (A := A) (V := V) hi)
  have HK := Lib.hid (fun i (hi : i < (Fm.enc t).length) => enc_kinds_v hbd hi (hsm6 i hi))
  have HLEN := Lib.hid (fun i => show (ev A V ((Fm.enc t).drop i)).length ≤ 1048576 from by
    have h40 := ht.1
    have hle : ∀ xs : List Nd, (ev A V xs).length ≤ xs.length := by
      intro xs
      induction xs with
      | nil => simp [ev]
      | cons x xs ih =>
        show (evs A V x.1 x.2 (ev A V xs)).length ≤ _
        unfold evs
        repeat' split
        all_goals simp only [List.length_cons, List.length_drop]; omega
    have := hle ((Fm.enc t).drop i)
    rw [List.length_drop] at this
    omega)
  have hend0 : ev A V ((Fm.enc t).drop (Fm.enc t).length) = [] := by rw [List.drop_length]; rfl
  have KI := Lib.hid (fun a b W (hW : Grew w W) ha hb => posImply_c v A a b W (h.grew hW) hA ha hb)
  have HVR := Lib.hid hu
  have hpos := Fm.enc_pos t
  have h40 := ht.1
  obtain ⟨A', c, rfl⟩ := ints_sliceN h
  obtain ⟨AU, cu, rfl⟩ := ints_sliceN hu
  have HCU := Lib.hid (cellsN hu (by omega))
  clear h hu hA hV hbd ht hsm
  rcases ha.open_ with ⟨rfl, h0⟩ | ⟨ba, oa, ca, rfl, hca, hcm, hbl, hcell⟩
  · rw [h0] at hpos; simp at hpos
  have HNC := Lib.hid hcell
  clear hcell ha
  have HEND0 := Lib.hid hend0
  clear hend0
  clear hsm6
  generalize V.length = nv at *
  generalize fv A V t = R at *
  generalize Fm.enc t = xs at *
  generalize A.length = NA at *
  generalize hnx : xs.length = n at *
  replace hnx := Lib.hid hnx
  obtain ⟨bu, ou, rfl, hcu⟩ := HCU.out
  have HCU := Lib.hid hcu
  clear hcu
  obtain ⟨w1, hw1⟩ : ∃ w1, w1 = (w.alloc (.cells #[.int .i64 (NA : Int), .slice A' NA c] 26)).alloc (.cells #[.slice none 0 0] 24) := ⟨_, rfl⟩
  have hg1 : Grew w w1 := by rw [hw1]; exact ((Grew.refl w).alloc _).alloc _
  have hs1 : w1.heap.size = w.heap.size + 2 := by rw [hw1]; simp
  have hb0 : w1.heap[w.heap.size]? = some (.cells #[.int .i64 (NA : Int), .slice A' NA c] 26 (0, 0)) := by
    rw [hw1]
    exact (((Grew.refl _).alloc _).block (by simp)).trans (blk_new w _)
  have hb1 : w1.heap[w.heap.size + 1]? = some (.cells #[.slice none 0 0] 24 (0, 0)) := by
    rw [hw1]
    have h := blk_new (w.alloc (.cells #[.int .i64 (NA : Int), .slice A' NA c] 26)) (.cells #[.slice none 0 0] 24)
    have e : (w.alloc (.cells #[.int .i64 (NA : Int), .slice A' NA c] 26)).heap.size = w.heap.size + 1 := by simp
    rwa [e] at h
  have hstk : Stk w1 (w.heap.size + 1) (w.heap.size + 2) (ev A V (xs.drop n)) := by rw [HEND0.out]; exact ⟨_, _, _, hb1, OwnI.nil_ _ _⟩
  have HST := Lib.hid hstk
  have HB0 := Lib.hid hb0
  have HG1 := Lib.hid hg1
  have HS1 := Lib.hid hs1
  clear hb0 hb1 hg1 hstk hs1
  have npos : (1 : Int) ≤ n := by omega
  go_enter Tryz.func22, Tryz.ntmps22
  go_wp2_with fail
  simp only [← hw1]
  clear hw1
  go_loopw [9, 10, 11] (fun i _ _ wr => ∃ k : Nat, k ≤ n ∧ i = .int .i64 ((k : Int) - 1) ∧ Hid (wr.heap[w.heap.size]? = some (.cells #[.int .i64 (NA : Int), .slice A' NA c] 26 (0, 0))) ∧ Hid (Stk wr (w.heap.size + 1) (w.heap.size + 2) (ev A V (xs.drop k))) ∧ Hid (Grew w wr) ∧ Hid (w.heap.size + 2 ≤ wr.heap.size)) (fun i _ _ _ => ((intOf i) + 1).toNat)
  case atStart => exact ⟨n, Nat.le_refl _, rfl, HB0, HST, HG1, Lib.hid (by rw [HS1.out]; omega)⟩
  case round =>
    obtain ⟨k, hk, rfl, HP, HK0, HG, HZ⟩ := hrel
    cases k with
    | zero =>
      obtain ⟨AS, nS, cS, hb, hO⟩ := HK0.out
      have hO2 : OwnI wr (w.heap.size + 2) (.slice AS nS cS) ([] ++ [((R : Nat) : Int)]) := by
        have e : sk (ev A V (xs.drop 0)) = [] ++ [((R : Nat) : Int)] := by rw [List.drop_zero, HEND.out]; rfl
        rw [e] at hO; exact hO
      obtain ⟨rfl, g, rfl, q1, q2, q3, q4, q5, q6⟩ := hO2.pop
      have k0 : wr.cell? ⟨w.heap.size + 1, 0, none⟩ = some (.slice (some ⟨g, 0, none⟩) 1 cS) := by rw [blk_cell hb]; rfl
      have q5 : wr.cell? ⟨g, 0, none⟩ = some (.int .i64 ((R : Nat) : Int)) := q5
      clear hb hO hO2 q6 q3
      go_wp2_with fail
      go_ret
      exact ⟨rfl, HG.out⟩
    | succ k =>
      have ei : (((k + 1 : Nat) : Int) - 1) = (k : Int) := by omega
      rw [ei]
      have hkx : k < xs.length := by rw [hnx.out]; omega
      have hlt : (k : Int) < (n : Int) := by omega
      obtain ⟨c0, c1⟩ := HNC.out k (by omega) _ HG.out
      have hdr := HDR.out k (by omega)
      have hbS := HK0.out
      have hL1 := HLEN.out (k + 1)
      have hF := HFED.out k hkx
      have hSM := fun m hm => HSM.out (k + 1) m hm
      clear hkx
      generalize ev A V (xs.drop (k + 1)) = st at *
      have HDRK := Lib.hid hdr
      have HL1 := Lib.hid hL1
      have HF := Lib.hid hF
      have HSMK := Lib.hid hSM
      have HBS := Lib.hid hbS
      clear hdr hL1 hF hSM hbS
      rcases HK.out k (by omega) with ⟨hkd, s, hsy, hs6⟩ | hkd | hkd | hkd | hkd
      · have he : ev A V (xs.drop k) = nt V s :: st := HDRK.out.trans (evs_var hkd hsy)
        have hu1 := HCU.out s (by omega) _ HG.out
        rw [hkd] at c0
        rw [hsy] at c1
        clear hkd hsy
        have HEK := Lib.hid he
        clear he
        generalize nt V s = y at *
        obtain ⟨AS, nS, cS, hb, hO⟩ := HBS.out
        have k7 : wr.cell? ⟨w.heap.size + 1, 0, none⟩ = some (.slice AS nS cS) := by rw [blk_cell hb]; rfl
        have k7' : ∀ o, (wr.alloc o).cell? ⟨w.heap.size + 1, 0, none⟩ = some (.slice AS nS cS) := fun o => by rw [blk_cell ((((Grew.refl wr).alloc o).block (blk_lt hb)).trans hb)]; rfl
        have HBT := Lib.hid hb
        have HOT := Lib.hid hO
        have HZA := Lib.hid (fun o : Obj => (Nat.le_trans HZ.out (((Grew.refl wr).alloc o).size) : w.heap.size + 2 ≤ (wr.alloc o).heap.size))
        have HOA := Lib.hid (fun o : Obj => (hO.grew ((Grew.refl wr).alloc o) : OwnI (wr.alloc o) (w.heap.size + 2) (.slice AS nS cS) (sk st)))
        clear hb hO
        go_wp2_with (first
          | (at_builtin
             refine wpList_appB (w.heap.size + 2) _ _ rfl rfl (.slice AS nS cS) (sk st) rfl (HOA.out _) (HZA.out _) (.slice (some ⟨wr.heap.size, 0, none⟩) 1 1) ((y : Nat) : Int) rfl (rd_litI wr _ _) (by rw [sk_len]; exact HL1.out) ?_
             intro v8 w8 hown8 hg8
             obtain ⟨A8, c8, rfl⟩ := ints_slice hown8.ints
             rw [List.length_append, List.length_singleton] at hown8
             have hne8 : some (w.heap.size + 1) ≠ (Value.slice AS nS cS).ownBlock := fun he => by have := own_of_ge HOT.out he.symm; omega
             have hne9 : some w.heap.size ≠ (Value.slice AS nS cS).ownBlock := fun he => by have := own_of_ge HOT.out he.symm; omega
             have hb8 := (hg8.block _ (Nat.lt_of_lt_of_le (show w.heap.size + 1 < w.heap.size + 2 by omega) (HZA.out _)) hne8).trans ((((Grew.refl wr).alloc _).block (blk_lt HBT.out)).trans HBT.out)
             have hp8 := (hg8.block _ (Nat.lt_of_lt_of_le (show w.heap.size < w.heap.size + 2 by omega) (HZA.out _)) hne9).trans ((((Grew.refl wr).alloc _).block (blk_lt HP.out)).trans HP.out)
             have k8 : w8.cell? ⟨w.heap.size + 1, 0, none⟩ = some (.slice AS nS cS) := by rw [blk_cell hb8]; rfl
             have f8 := blk_frozen hb8 0
             have hG8 : Grew w w8 := (HG.out.alloc _).grown hg8 (fun g hg => by have := own_of_ge HOT.out hg; omega)
             have hz8 : w.heap.size + 2 ≤ w8.heap.size := Nat.le_trans (HZA.out _) hg8.size
             have HFIN := Lib.hid (show Hid ((w8.setCell ⟨w.heap.size + 1, 0, none⟩ (.slice A8 ((sk st).length + 1) c8)).heap[w.heap.size]? = some (.cells #[.int .i64 (NA : Int), .slice A' NA c] 26 (0, 0))) ∧ Hid (Stk (w8.setCell ⟨w.heap.size + 1, 0, none⟩ (.slice A8 ((sk st).length + 1) c8)) (w.heap.size + 1) (w.heap.size + 2) (ev A V (xs.drop k))) ∧ Hid (Grew w (w8.setCell ⟨w.heap.size + 1, 0, none⟩ (.slice A8 ((sk st).length + 1) c8))) ∧ Hid (w.heap.size + 2 ≤ (w8.setCell ⟨w.heap.size + 1, 0, none⟩ (.slice A8 ((sk st).length + 1) c8)).heap.size) from by
               have hon : Only (w.heap.size + 1) w8 (w8.setCell ⟨w.heap.size + 1, 0, none⟩ (.slice A8 ((sk st).length + 1) c8)) := (Only.refl _ _).setCell _
               refine ⟨Lib.hid ((hon.block (by omega) (by omega)).trans hp8), Lib.hid ⟨_, _, _, blk_set hb8 0 _, ?_⟩, Lib.hid (hG8.setCell (show w.heap.size ≤ w.heap.size + 1 by omega) _), Lib.hid (Nat.le_trans hz8 hon.size)⟩
               rw [HEK.out, sk_cons]
               exact own_only hown8 hon (fun he => by have := own_of_ge hown8 he; omega))
             clear hb8 hp8 hG8 hz8 hown8 hg8 hne8 hne9 k7 k7'))
        go_roundw
        case rel => exact ⟨k, by omega, rfl, HFIN.out⟩
        case measure => simp [intOf] <;> omega
      · have he : ev A V (xs.drop k) = 0 :: st := HDRK.out.trans (evs_fls hkd)
        rw [hkd] at c0
        clear hkd c1
        have HEK := Lib.hid he
        clear he
        obtain ⟨AS, nS, cS, hb, hO⟩ := HBS.out
        have k7 : wr.cell? ⟨w.heap.size + 1, 0, none⟩ = some (.slice AS nS cS) := by rw [blk_cell hb]; rfl
        have k7' : ∀ o, (wr.alloc o).cell? ⟨w.heap.size + 1, 0, none⟩ = some (.slice AS nS cS) := fun o => by rw [blk_cell ((((Grew.refl wr).alloc o).block (blk_lt hb)).trans hb)]; rfl
        have HBT := Lib.hid hb
        have HOT := Lib.hid hO
        have HZA := Lib.hid (fun o : Obj => (Nat.le_trans HZ.out (((Grew.refl wr).alloc o).size) : w.heap.size + 2 ≤ (wr.alloc o).heap.size))
        have HOA := Lib.hid (fun o : Obj => (hO.grew ((Grew.refl wr).alloc o) : OwnI (wr.alloc o) (w.heap.size + 2) (.slice AS nS cS) (sk st)))
        clear hb hO
        go_wp2_with (first
          | (at_builtin
             refine wpList_appB (w.heap.size + 2) _ _ rfl rfl (.slice AS nS cS) (sk st) rfl (HOA.out _) (HZA.out _) (.slice (some ⟨wr.heap.size, 0, none⟩) 1 1) ((0 : Nat) : Int) rfl (rd_litI wr _ _) (by rw [sk_len]; exact HL1.out) ?_
             intro v8 w8 hown8 hg8
             obtain ⟨A8, c8, rfl⟩ := ints_slice hown8.ints
             rw [List.length_append, List.length_singleton] at hown8
             have hne8 : some (w.heap.size + 1) ≠ (Value.slice AS nS cS).ownBlock := fun he => by have := own_of_ge HOT.out he.symm; omega
             have hne9 : some w.heap.size ≠ (Value.slice AS nS cS).ownBlock := fun he => by have := own_of_ge HOT.out he.symm; omega
             have hb8 := (hg8.block _ (Nat.lt_of_lt_of_le (show w.heap.size + 1 < w.heap.size + 2 by omega) (HZA.out _)) hne8).trans ((((Grew.refl wr).alloc _).block (blk_lt HBT.out)).trans HBT.out)
             have hp8 := (hg8.block _ (Nat.lt_of_lt_of_le (show w.heap.size < w.heap.size + 2 by omega) (HZA.out _)) hne9).trans ((((Grew.refl wr).alloc _).block (blk_lt HP.out)).trans HP.out)
             have k8 : w8.cell? ⟨w.heap.size + 1, 0, none⟩ = some (.slice AS nS cS) := by rw [blk_cell hb8]; rfl
             have f8 := blk_frozen hb8 0
             have hG8 : Grew w w8 := (HG.out.alloc _).grown hg8 (fun g hg => by have := own_of_ge HOT.out hg; omega)
             have hz8 : w.heap.size + 2 ≤ w8.heap.size := Nat.le_trans (HZA.out _) hg8.size
             have HFIN := Lib.hid (show Hid ((w8.setCell ⟨w.heap.size + 1, 0, none⟩ (.slice A8 ((sk st).length + 1) c8)).heap[w.heap.size]? = some (.cells #[.int .i64 (NA : Int), .slice A' NA c] 26 (0, 0))) ∧ Hid (Stk (w8.setCell ⟨w.heap.size + 1, 0, none⟩ (.slice A8 ((sk st).length + 1) c8)) (w.heap.size + 1) (w.heap.size + 2) (ev A V (xs.drop k))) ∧ Hid (Grew w (w8.setCell ⟨w.heap.size + 1, 0, none⟩ (.slice A8 ((sk st).length + 1) c8))) ∧ Hid (w.heap.size + 2 ≤ (w8.setCell ⟨w.heap.size + 1, 0, none⟩ (.slice A8 ((sk st).length + 1) c8)).heap.size) from by
               have hon : Only (w.heap.size + 1) w8 (w8.setCell ⟨w.heap.size + 1, 0, none⟩ (.slice A8 ((sk st).length + 1) c8)) := (Only.refl _ _).setCell _
               refine ⟨Lib.hid ((hon.block (by omega) (by omega)).trans hp8), Lib.hid ⟨_, _, _, blk_set hb8 0 _, ?_⟩, Lib.hid (hG8.setCell (show w.heap.size ≤ w.heap.size + 1 by omega) _), Lib.hid (Nat.le_trans hz8 hon.size)⟩
               rw [HEK.out, sk_cons]
               exact own_only hown8 hon (fun he => by have := own_of_ge hown8 he; omega))
             clear hb8 hp8 hG8 hz8 hown8 hg8 hne8 hne9 k7 k7'))
        go_roundw
        case rel => exact ⟨k, by omega, rfl, HFIN.out⟩
        case measure => simp [intOf] <;> omega
      · obtain ⟨x, y, r, rfl⟩ := two_at (HF.out (.inl hkd))
        have he : ev A V (xs.drop k) = (x &&& y) :: r := HDRK.out.trans (evs_and hkd)
        have hx := HSMK.out x (by simp)
        have hy := HSMK.out y (by simp)
        have hxy := and_i64 x y (by omega) (by omega)
        have hlr : r.length ≤ 1048576 := by have := HL1.out; simp only [List.length_cons] at this; omega
        rw [hkd] at c0
        clear hkd c1 hx hy
        have HEK := Lib.hid he
        clear he
        generalize (x &&& y : Nat) = z at *
        have HP1 := Lib.hid (pop_c (w.heap.size + 1) x (y :: r) (w.heap.size + 2) wr HBS.out (by omega))
        have HP2 := Lib.hid (fun W hW => pop_c (w.heap.size + 1) y r (w.heap.size + 2) W hW (by omega))
        go_wp2_with fail
        refine HP1.out.mono ?_
        rintro e w2 ⟨rfl, hS2, hO2⟩
        have hp2 := (hO2.block (blk_lt HP.out) (by omega)).trans HP.out
        have hG2 := hO2.grew_of HG.out (by omega)
        have hz2 := hO2.size
        clear hO2
        go_wp2_with fail
        refine (HP2.out _ hS2).mono ?_
        rintro e w3 ⟨rfl, hS3, hO3⟩
        have hp3 := (hO3.block (blk_lt hp2) (by omega)).trans hp2
        have hG3 := hO3.grew_of hG2 (by omega)
        have hz3 := hO3.size
        have HG3 := Lib.hid hG3
        have HP3 := Lib.hid hp3
        have HZ3 := Lib.hid (Nat.le_trans HZ.out (Nat.le_trans hz2 hz3))
        have HS3 := Lib.hid hS3
        clear hO3 hS2 hS3 hp2 hp3 hG2 hG3 hz2 hz3 HBS HP HG HZ
        obtain ⟨AS, nS, cS, hb, hO⟩ := HS3.out
        have k7 : w3.cell? ⟨w.heap.size + 1, 0, none⟩ = some (.slice AS nS cS) := by rw [blk_cell hb]; rfl
        have k7' : ∀ o, (w3.alloc o).cell? ⟨w.heap.size + 1, 0, none⟩ = some (.slice AS nS cS) := fun o => by rw [blk_cell ((((Grew.refl w3).alloc o).block (blk_lt hb)).trans hb)]; rfl
        have HBT := Lib.hid hb
        have HOT := Lib.hid hO
        have HZA := Lib.hid (fun o : Obj => (Nat.le_trans HZ3.out (((Grew.refl w3).alloc o).size) : w.heap.size + 2 ≤ (w3.alloc o).heap.size))
        have HOA := Lib.hid (fun o : Obj => (hO.grew ((Grew.refl w3).alloc o) : OwnI (w3.alloc o) (w.heap.size + 2) (.slice AS nS cS) (sk r)))
        clear hb hO
        go_wp2_with (first
          | (at_builtin
             refine wpList_appB (w.heap.size + 2) _ _ rfl rfl (.slice AS nS cS) (sk r) rfl (HOA.out _) (HZA.out _) (.slice (some ⟨w3.heap.size, 0, none⟩) 1 1) ((z : Nat) : Int) rfl (rd_litI w3 _ _) (by rw [sk_len]; exact hlr) ?_
             intro v8 w8 hown8 hg8
             obtain ⟨A8, c8, rfl⟩ := ints_slice hown8.ints
             rw [List.length_append, List.length_singleton] at hown8
             have hne8 : some (w.heap.size + 1) ≠ (Value.slice AS nS cS).ownBlock := fun he => by have := own_of_ge HOT.out he.symm; omega
             have hne9 : some w.heap.size ≠ (Value.slice AS nS cS).ownBlock := fun he => by have := own_of_ge HOT.out he.symm; omega
             have hb8 := (hg8.block _ (Nat.lt_of_lt_of_le (show w.heap.size + 1 < w.heap.size + 2 by omega) (HZA.out _)) hne8).trans ((((Grew.refl w3).alloc _).block (blk_lt HBT.out)).trans HBT.out)
             have hp8 := (hg8.block _ (Nat.lt_of_lt_of_le (show w.heap.size < w.heap.size + 2 by omega) (HZA.out _)) hne9).trans ((((Grew.refl w3).alloc _).block (blk_lt HP3.out)).trans HP3.out)
             have k8 : w8.cell? ⟨w.heap.size + 1, 0, none⟩ = some (.slice AS nS cS) := by rw [blk_cell hb8]; rfl
             have f8 := blk_frozen hb8 0
             have hG8 : Grew w w8 := (HG3.out.alloc _).grown hg8 (fun g hg => by have := own_of_ge HOT.out hg; omega)
             have hz8 : w.heap.size + 2 ≤ w8.heap.size := Nat.le_trans (HZA.out _) hg8.size
             have HFIN := Lib.hid (show Hid ((w8.setCell ⟨w.heap.size + 1, 0, none⟩ (.slice A8 ((sk r).length + 1) c8)).heap[w.heap.size]? = some (.cells #[.int .i64 (NA : Int), .slice A' NA c] 26 (0, 0))) ∧ Hid (Stk (w8.setCell ⟨w.heap.size + 1, 0, none⟩ (.slice A8 ((sk r).length + 1) c8)) (w.heap.size + 1) (w.heap.size + 2) (ev A V (xs.drop k))) ∧ Hid (Grew w (w8.setCell ⟨w.heap.size + 1, 0, none⟩ (.slice A8 ((sk r).length + 1) c8))) ∧ Hid (w.heap.size + 2 ≤ (w8.setCell ⟨w.heap.size + 1, 0, none⟩ (.slice A8 ((sk r).length + 1) c8)).heap.size) from by
               have hon : Only (w.heap.size + 1) w8 (w8.setCell ⟨w.heap.size + 1, 0, none⟩ (.slice A8 ((sk r).length + 1) c8)) := (Only.refl _ _).setCell _
               refine ⟨Lib.hid ((hon.block (by omega) (by omega)).trans hp8), Lib.hid ⟨_, _, _, blk_set hb8 0 _, ?_⟩, Lib.hid (hG8.setCell (show w.heap.size ≤ w.heap.size + 1 by omega) _), Lib.hid (Nat.le_trans hz8 hon.size)⟩
               rw [HEK.out, sk_cons]
               exact own_only hown8 hon (fun he => by have := own_of_ge hown8 he; omega))
             clear hb8 hp8 hG8 hz8 hown8 hg8 hne8 hne9 k7 k7'))
        go_roundw
        case rel => exact ⟨k, by omega, rfl, HFIN.out⟩
        case measure => simp [intOf] <;> omega
      · obtain ⟨x, y, r, rfl⟩ := two_at (HF.out (.inr (.inl hkd)))
        have he : ev A V (xs.drop k) = (x ||| y) :: r := HDRK.out.trans (evs_or hkd)
        have hx := HSMK.out x (by simp)
        have hy := HSMK.out y (by simp)
        have hxy := or_i64 x y (by omega) (by omega)
        have hlr : r.length ≤ 1048576 := by have := HL1.out; simp only [List.length_cons] at this; omega
        rw [hkd] at c0
        clear hkd c1 hx hy
        have HEK := Lib.hid he
        clear he
        generalize (x ||| y : Nat) = z at *
        have HP1 := Lib.hid (pop_c (w.heap.size + 1) x (y :: r) (w.heap.size + 2) wr HBS.out (by omega))
        have HP2 := Lib.hid (fun W hW => pop_c (w.heap.size + 1) y r (w.heap.size + 2) W hW (by omega))
        go_wp2_with fail
        refine HP1.out.mono ?_
        rintro e w2 ⟨rfl, hS2, hO2⟩
        have hp2 := (hO2.block (blk_lt HP.out) (by omega)).trans HP.out
        have hG2 := hO2.grew_of HG.out (by omega)
        have hz2 := hO2.size
        clear hO2
        go_wp2_with fail
        refine (HP2.out _ hS2).mono ?_
        rintro e w3 ⟨rfl, hS3, hO3⟩
        have hp3 := (hO3.block (blk_lt hp2) (by omega)).trans hp2
        have hG3 := hO3.grew_of hG2 (by omega)
        have hz3 := hO3.size
        have HG3 := Lib.hid hG3
        have HP3 := Lib.hid hp3
        have HZ3 := Lib.hid (Nat.le_trans HZ.out (Nat.le_trans hz2 hz3))
        have HS3 := Lib.hid hS3
        clear hO3 hS2 hS3 hp2 hp3 hG2 hG3 hz2 hz3 HBS HP HG HZ
        obtain ⟨AS, nS, cS, hb, hO⟩ := HS3.out
        have k7 : w3.cell? ⟨w.heap.size + 1, 0, none⟩ = some (.slice AS nS cS) := by rw [blk_cell hb]; rfl
        have k7' : ∀ o, (w3.alloc o).cell? ⟨w.heap.size + 1, 0, none⟩ = some (.slice AS nS cS) := fun o => by rw [blk_cell ((((Grew.refl w3).alloc o).block (blk_lt hb)).trans hb)]; rfl
        have HBT := Lib.hid hb
        have HOT := Lib.hid hO
        have HZA := Lib.hid (fun o : Obj => (Nat.le_trans HZ3.out (((Grew.refl w3).alloc o).size) : w.heap.size + 2 ≤ (w3.alloc o).heap.size))
        have HOA := Lib.hid (fun o : Obj => (hO.grew ((Grew.refl w3).alloc o) : OwnI (w3.alloc o) (w.heap.size + 2) (.slice AS nS cS) (sk r)))
        clear hb hO
        go_wp2_with (first
          | (at_builtin
             refine wpList_appB (w.heap.size + 2) _ _ rfl rfl (.slice AS nS cS) (sk r) rfl (HOA.out _) (HZA.out _) (.slice (some ⟨w3.heap.size, 0, none⟩) 1 1) ((z : Nat) : Int) rfl (rd_litI w3 _ _) (by rw [sk_len]; exact hlr) ?_
             intro v8 w8 hown8 hg8
             obtain ⟨A8, c8, rfl⟩ := ints_slice hown8.ints
             rw [List.length_append, List.length_singleton] at hown8
             have hne8 : some (w.heap.size + 1) ≠ (Value.slice AS nS cS).ownBlock := fun he => by have := own_of_ge HOT.out he.symm; omega
             have hne9 : some w.heap.size ≠ (Value.slice AS nS cS).ownBlock := fun he => by have := own_of_ge HOT.out he.symm; omega
             have hb8 := (hg8.block _ (Nat.lt_of_lt_of_le (show w.heap.size + 1 < w.heap.size + 2 by omega) (HZA.out _)) hne8).trans ((((Grew.refl w3).alloc _).block (blk_lt HBT.out)).trans HBT.out)
             have hp8 := (hg8.block _ (Nat.lt_of_lt_of_le (show w.heap.size < w.heap.size + 2 by omega) (HZA.out _)) hne9).trans ((((Grew.refl w3).alloc _).block (blk_lt HP3.out)).trans HP3.out)
             have k8 : w8.cell? ⟨w.heap.size + 1, 0, none⟩ = some (.slice AS nS cS) := by rw [blk_cell hb8]; rfl
             have f8 := blk_frozen hb8 0
             have hG8 : Grew w w8 := (HG3.out.alloc _).grown hg8 (fun g hg => by have := own_of_ge HOT.out hg; omega)
             have hz8 : w.heap.size + 2 ≤ w8.heap.size := Nat.le_trans (HZA.out _) hg8.size
             have HFIN := Lib.hid (show Hid ((w8.setCell ⟨w.heap.size + 1, 0, none⟩ (.slice A8 ((sk r).length + 1) c8)).heap[w.heap.size]? = some (.cells #[.int .i64 (NA : Int), .slice A' NA c] 26 (0, 0))) ∧ Hid (Stk (w8.setCell ⟨w.heap.size + 1, 0, none⟩ (.slice A8 ((sk r).length + 1) c8)) (w.heap.size + 1) (w.heap.size + 2) (ev A V (xs.drop k))) ∧ Hid (Grew w (w8.setCell ⟨w.heap.size + 1, 0, none⟩ (.slice A8 ((sk r).length + 1) c8))) ∧ Hid (w.heap.size + 2 ≤ (w8.setCell ⟨w.heap.size + 1, 0, none⟩ (.slice A8 ((sk r).length + 1) c8)).heap.size) from by
               have hon : Only (w.heap.size + 1) w8 (w8.setCell ⟨w.heap.size + 1, 0, none⟩ (.slice A8 ((sk r).length + 1) c8)) := (Only.refl _ _).setCell _
               refine ⟨Lib.hid ((hon.block (by omega) (by omega)).trans hp8), Lib.hid ⟨_, _, _, blk_set hb8 0 _, ?_⟩, Lib.hid (hG8.setCell (show w.heap.size ≤ w.heap.size + 1 by omega) _), Lib.hid (Nat.le_trans hz8 hon.size)⟩
               rw [HEK.out, sk_cons]
               exact own_only hown8 hon (fun he => by have := own_of_ge hown8 he; omega))
             clear hb8 hp8 hG8 hz8 hown8 hg8 hne8 hne9 k7 k7'))
        go_roundw
        case rel => exact ⟨k, by omega, rfl, HFIN.out⟩
        case measure => simp [intOf] <;> omega
      · obtain ⟨x, y, r, rfl⟩ := two_at (HF.out (.inr (.inr hkd)))
        have he : ev A V (xs.drop k) = ar A x y :: r := HDRK.out.trans (evs_imp hkd)
        have hx := HSMK.out x (by simp)
        have hy := HSMK.out y (by simp)
        have KIm := Lib.hid (fun W hW => KI.out x y W hW hx hy)
        have hlr : r.length ≤ 1048576 := by have := HL1.out; simp only [List.length_cons] at this; omega
        rw [hkd] at c0
        clear hkd c1 hx hy
        have HEK := Lib.hid he
        clear he
        generalize ar A x y = z at *
        have HP1 := Lib.hid (pop_c (w.heap.size + 1) x (y :: r) (w.heap.size + 2) wr HBS.out (by omega))
        have HP2 := Lib.hid (fun W hW => pop_c (w.heap.size + 1) y r (w.heap.size + 2) W hW (by omega))
        go_wp2_with fail
        refine HP1.out.mono ?_
        rintro e w2 ⟨rfl, hS2, hO2⟩
        have hp2 := (hO2.block (blk_lt HP.out) (by omega)).trans HP.out
        have hG2 := hO2.grew_of HG.out (by omega)
        have hz2 := Nat.le_trans HZ.out hO2.size
        have HP2w := Lib.hid hp2
        have HG2 := Lib.hid hG2
        have HZ2 := Lib.hid hz2
        have HS2 := Lib.hid hS2
        have d0 : ∀ W, Only (w.heap.size + 1) w2 W → W.cell? ⟨w.heap.size, 0, none⟩ = some (.int .i64 (NA : Int)) := fun W hW => by rw [blk_cell ((hW.block (blk_lt HP2w.out) (by omega)).trans HP2w.out)]; rfl
        have d1 : ∀ W, Only (w.heap.size + 1) w2 W → W.cell? ⟨w.heap.size, 1, none⟩ = some (.slice A' NA c) := fun W hW => by rw [blk_cell ((hW.block (blk_lt HP2w.out) (by omega)).trans HP2w.out)]; rfl
        have ho2 : Only (w.heap.size + 1) w2 w2 := Only.refl _ _
        have ho2d : Only (w.heap.size + 1) w2 w2.drew := ho2.drew
        have HSD : Hid (Stk w2.drew (w.heap.size + 1) (w.heap.size + 2) (y :: r)) := Lib.hid (hS2.grew (Grew.refl _).drew)
        clear hO2 hp2 hG2 hz2 hS2
        go_wp2_with fail
        refine wp_region_held_drew (S := fun w' => Only (w.heap.size + 1) w2 w') (by kernel_rfl) ho2d (fun hHeld => ?_)
        refine wpAnyH_take (i := 0) (oi := ?on1) (v := ?vn1) ?hin1 ?an1 ?bn1 ?cn1 ?qn1 (Or.inl ⟨?dn1, ?hyn1⟩) hHeld ?restn1
        case hin1 => (simp only [List.getElem?_toArray, List.getElem?_cons_zero]; exact rfl)
        case an1 => kernel_rfl
        case bn1 => kernel_rfl
        case cn1 => kernel_rfl
        case qn1 => exact fun _ _ _ h => h
        case dn1 => rfl
        case hyn1 => (intro z hSw; (try dsimp only at hSw); go_simp; (try with_reducible rfl))
        try simp only [Act.put, List.setIfInBounds_toArray, List.set_cons_zero, List.set_cons_succ]
        refine wpAnyH_take (i := 1) (oi := ?on2) (v := ?vn2) ?hin2 ?an2 ?bn2 ?cn2 ?qn2 (Or.inl ⟨?dn2, ?hyn2⟩) hHeld ?restn2
        case hin2 => (simp only [List.getElem?_toArray, List.getElem?_cons_succ, List.getElem?_cons_zero]; exact rfl)
        case an2 => kernel_rfl
        case bn2 => kernel_rfl
        case cn2 => kernel_rfl
        case qn2 => exact fun _ _ _ h => h
        case dn2 => rfl
        case hyn2 => (intro z hSw; (try dsimp only at hSw); go_simp; (try with_reducible rfl))
        try simp only [Act.put, List.setIfInBounds_toArray, List.set_cons_zero, List.set_cons_succ]
        refine wpAnyH_take (i := 2) (oi := ?on3) (v := ?vn3) ?hin3 ?an3 ?bn3 ?cn3 ?qn3 (Or.inl ⟨?dn3, ?hyn3⟩) hHeld ?restn3
        case hin3 => (simp only [List.getElem?_toArray, List.getElem?_cons_succ, List.getElem?_cons_zero]; exact rfl)
        case an3 => kernel_rfl
        case bn3 => kernel_rfl
        case cn3 => kernel_rfl
        case qn3 => exact fun _ _ _ h => h
        case dn3 => rfl
        case hyn3 => (intro z hSw; (try dsimp only at hSw); go_simp; (try with_reducible rfl))
        try simp only [Act.put, List.setIfInBounds_toArray, List.set_cons_zero, List.set_cons_succ]
        refine wpAnyH_ready (rs := [3]) (by kernel_rfl) (by simp) ?_
        refine AllReadyH.cons (o := ?on4) ?hin4 ?restn4 AllReadyH.nil
        case hin4 => (simp only [List.getElem?_toArray, List.getElem?_cons_succ, List.getElem?_cons_zero]; exact rfl)
        intro K hK
        go_simp
        go_at_call 46
        refine (HP2.out _ HSD.out).mono ?_
        rintro e w3 ⟨rfl, hS3, hO3⟩
        have ho3 : Only (w.heap.size + 1) w2 w3 := ho2d.trans hO3
        refine hK.out _ _ ?_ (fun hHeld => ?_)
        · (try dsimp only); first | with_reducible assumption | exact Grew.alloc ‹_› _
        clear hK K
        try simp only [Act.put, List.setIfInBounds_toArray, List.set_cons_zero, List.set_cons_succ]
        refine wpAnyH_ready (rs := [4]) (by kernel_rfl) (by simp) ?_
        refine AllReadyH.cons (o := ?on5) ?hin5 ?restn5 AllReadyH.nil
        case hin5 => (simp only [List.getElem?_toArray, List.getElem?_cons_succ, List.getElem?_cons_zero]; exact rfl)
        intro K hK
        go_simp
        go_at_call 31
        refine (KIm.out _ (ho3.grew_of HG2.out (by omega))).mono ?_
        rintro e w4 ⟨rfl, hg4⟩
        have ho4 : Only (w.heap.size + 1) w2 w4 := ho3.grew hg4
        refine hK.out _ _ ?_ (fun hHeld => ?_)
        · (try dsimp only); first | with_reducible assumption | exact Grew.alloc ‹_› _
        clear hK K
        try simp only [Act.put, List.setIfInBounds_toArray, List.set_cons_zero, List.set_cons_succ]
        refine wpAnyH_take (i := 5) (oi := ?on6) (v := ?vn6) ?hin6 ?an6 ?bn6 ?cn6 ?qn6 (Or.inl ⟨?dn6, ?hyn6⟩) hHeld ?restn6
        case hin6 => (simp only [List.getElem?_toArray, List.getElem?_cons_succ, List.getElem?_cons_zero]; exact rfl)
        case an6 => kernel_rfl
        case bn6 => kernel_rfl
        case cn6 => kernel_rfl
        case qn6 => exact fun _ _ _ h => h
        case dn6 => rfl
        case hyn6 => (intro z hSw; (try dsimp only at hSw); go_simp; (try with_reducible rfl))
        try simp only [Act.put, List.setIfInBounds_toArray, List.set_cons_zero, List.set_cons_succ]
        refine wpAnyH_done (by kernel_rfl) ?_ _
        have hp3 := (ho4.block (blk_lt HP2w.out) (by omega)).trans HP2w.out
        have HG3 := Lib.hid (ho4.grew_of HG2.out (by omega))
        have HP3 := Lib.hid hp3
        have HZ3 := Lib.hid (Nat.le_trans HZ2.out ho4.size)
        have HS3 := Lib.hid (hS3.grew hg4)
        clear hO3 hS3 hp3 HBS HP HG HZ HS2 HG2 HZ2 HSD ho4 ho3 ho2 ho2d d0 d1 HP2w hg4
        obtain ⟨AS, nS, cS, hb, hO⟩ := HS3.out
        have k7 : w4.cell? ⟨w.heap.size + 1, 0, none⟩ = some (.slice AS nS cS) := by rw [blk_cell hb]; rfl
        have k7' : ∀ o, (w4.alloc o).cell? ⟨w.heap.size + 1, 0, none⟩ = some (.slice AS nS cS) := fun o => by rw [blk_cell ((((Grew.refl w4).alloc o).block (blk_lt hb)).trans hb)]; rfl
        have HBT := Lib.hid hb
        have HOT := Lib.hid hO
        have HZA := Lib.hid (fun o : Obj => (Nat.le_trans HZ3.out (((Grew.refl w4).alloc o).size) : w.heap.size + 2 ≤ (w4.alloc o).heap.size))
        have HOA := Lib.hid (fun o : Obj => (hO.grew ((Grew.refl w4).alloc o) : OwnI (w4.alloc o) (w.heap.size + 2) (.slice AS nS cS) (sk r)))
        clear hb hO
        go_wp2_with (first
          | (at_builtin
             refine wpList_appB (w.heap.size + 2) _ _ rfl rfl (.slice AS nS cS) (sk r) rfl (HOA.out _) (HZA.out _) (.slice (some ⟨w4.heap.size, 0, none⟩) 1 1) ((z : Nat) : Int) rfl (rd_litI w4 _ _) (by rw [sk_len]; exact hlr) ?_
             intro v8 w8 hown8 hg8
             obtain ⟨A8, c8, rfl⟩ := ints_slice hown8.ints
             rw [List.length_append, List.length_singleton] at hown8
             have hne8 : some (w.heap.size + 1) ≠ (Value.slice AS nS cS).ownBlock := fun he => by have := own_of_ge HOT.out he.symm; omega
             have hne9 : some w.heap.size ≠ (Value.slice AS nS cS).ownBlock := fun he => by have := own_of_ge HOT.out he.symm; omega
             have hb8 := (hg8.block _ (Nat.lt_of_lt_of_le (show w.heap.size + 1 < w.heap.size + 2 by omega) (HZA.out _)) hne8).trans ((((Grew.refl w4).alloc _).block (blk_lt HBT.out)).trans HBT.out)
             have hp8 := (hg8.block _ (Nat.lt_of_lt_of_le (show w.heap.size < w.heap.size + 2 by omega) (HZA.out _)) hne9).trans ((((Grew.refl w4).alloc _).block (blk_lt HP3.out)).trans HP3.out)
             have k8 : w8.cell? ⟨w.heap.size + 1, 0, none⟩ = some (.slice AS nS cS) := by rw [blk_cell hb8]; rfl
             have f8 := blk_frozen hb8 0
             have hG8 : Grew w w8 := (HG3.out.alloc _).grown hg8 (fun g hg => by have := own_of_ge HOT.out hg; omega)
             have hz8 : w.heap.size + 2 ≤ w8.heap.size := Nat.le_trans (HZA.out _) hg8.size
             have HFIN := Lib.hid (show Hid ((w8.setCell ⟨w.heap.size + 1, 0, none⟩ (.slice A8 ((sk r).length + 1) c8)).heap[w.heap.size]? = some (.cells #[.int .i64 (NA : Int), .slice A' NA c] 26 (0, 0))) ∧ Hid (Stk (w8.setCell ⟨w.heap.size + 1, 0, none⟩ (.slice A8 ((sk r).length + 1) c8)) (w.heap.size + 1) (w.heap.size + 2) (ev A V (xs.drop k))) ∧ Hid (Grew w (w8.setCell ⟨w.heap.size + 1, 0, none⟩ (.slice A8 ((sk r).length + 1) c8))) ∧ Hid (w.heap.size + 2 ≤ (w8.setCell ⟨w.heap.size + 1, 0, none⟩ (.slice A8 ((sk r).length + 1) c8)).heap.size) from by
               have hon : Only (w.heap.size + 1) w8 (w8.setCell ⟨w.heap.size + 1, 0, none⟩ (.slice A8 ((sk r).length + 1) c8)) := (Only.refl _ _).setCell _
               refine ⟨Lib.hid ((hon.block (by omega) (by omega)).trans hp8), Lib.hid ⟨_, _, _, blk_set hb8 0 _, ?_⟩, Lib.hid (hG8.setCell (show w.heap.size ≤ w.heap.size + 1 by omega) _), Lib.hid (Nat.le_trans hz8 hon.size)⟩
               rw [HEK.out, sk_cons]
               exact own_only hown8 hon (fun he => by have := own_of_ge hown8 he; omega))
             clear hb8 hp8 hG8 hz8 hown8 hg8 hne8 hne9 k7 k7'))
        go_roundw
        case rel => exact ⟨k, by omega, rfl, HFIN.out⟩
        case measure => simp [intOf] <;> omega
theorem forced_c (v u va : Value) (A V : List Nat) (t : Tree) (w : World) (h : Ints w v (zs A)) (hu : Ints w u (zs V)) (ha : Nodes w va (Fm.enc t)) (hA : Rl A) (hV : ∀ m ∈ V, m < 2 ^ A.length) (hl : V.length = 6) (ht : FmOk t) :
    Calls Tryz.prog 22 #[.agg #[.int .i64 (A.length : Int), v], u, va] w fun e w' => e = .returned (.int .i64 ((fv A V t : Nat) : Int)) ∧ Grew w w' :=
  forced_g v u va A V t w h hu ha hA hV (by omega) (by omega) (fun i hi hk => by
    rcases enc_kinds ht.2 hi with ⟨_, s, h2, h3⟩ | h2
    · rw [h2, hl]; omega
    · omega) ht
end Go.Proofs.YtphljdhacbpkbaaGreat

/- Formulas of two parts. -/
namespace Go.Proofs.YtphljdhacbpkbaaGreat
open Go.RowKit

/-- The formula has two parts. -/
def TwoF (A p q : Fm.Tree) : Prop := Fm.enc A = (kindOf A, 0) :: (Fm.enc p ++ Fm.enc q)
theorem TwoF.len {A p q : Fm.Tree} (h : TwoF A p q) : (Fm.enc A).length = 1 + (Fm.enc p).length + (Fm.enc q).length := by rw [h]; simp; omega
end Go.Proofs.YtphljdhacbpkbaaGreat

/- The parts of a formula in the reference. -/
namespace Go.Proofs.YtphljdhacbpkbaaGreat
open Go.RowKit
open Fm (Nd Tree)

theorem left_t {A x y : Tree} (h2 : TwoF A x y) (hA : FmOk A) (v : Value) (w : World) (h : Nodes w v (Fm.enc A)) : Calls Tryz.prog 50 #[v] w (Cuts w (Fm.enc x)) :=
  l02Left_c v (Fm.enc A) x w h (by have := hA.1; omega) (at_first h2)
theorem right_t {A x y : Tree} (h2 : TwoF A x y) (hA : FmOk A) (v : Value) (w : World) (h : Nodes w v (Fm.enc A)) : Calls Tryz.prog 51 #[v] w (Cuts w (Fm.enc y)) :=
  l02Right_c v (Fm.enc A) x y w h (by have := hA.1; omega) (at_first h2) (at_second h2) h2.len
theorem two_and (x y : Tree) : TwoF (.and x y) x y := rfl
theorem two_or (x y : Tree) : TwoF (.or x y) x y := rfl
theorem two_imp (x y : Tree) : TwoF (.imp x y) x y := rfl
/-- A head's cell. -/
theorem head_t {w : World} {v : Value} {t : Tree} (h : Nodes w v (Fm.enc t)) : ∃ b o n c, v = .slice (some ⟨b, o, none⟩) n c ∧ 0 < n ∧ n = (Fm.enc t).length ∧ ∀ W, Grew w W → W.cell? ⟨b, o, none⟩ = some (.int .i64 (kindOf t)) := by
  obtain ⟨b, o, c, h1, _, _, h4⟩ := nodes_head h
  exact ⟨b, o, _, c, h1, Fm.enc_pos t, rfl, h4⟩

end Go.Proofs.YtphljdhacbpkbaaGreat

/- l17Force of the reference. -/
namespace Go.Proofs.YtphljdhacbpkbaaGreat
open Go.RowKit
open Fm (Nd Tree)

theorem fv_sm {A V : List Nat} (hA : Rl A) (hV : ∀ m ∈ V, m < 2 ^ A.length) (t : Tree) : fv A V t < 1073741824 := Nat.lt_of_lt_of_le (fv_lt hV t) (pow30' hA.1)
/-- What the walk needs of one call. -/
def ForceOk (A V : List Nat) (t : Tree) : Prop := ∀ (v u va : Value) (w : World), Ints w v (zs A) → Ints w u (zs V) → Nodes w va (Fm.enc t) → FmOk t →
    Calls Tryz.prog 24 #[.agg #[.int .i64 (A.length : Int), v], u, va] w fun e w' => e = .returned (.int .i64 ((fv A V t : Nat) : Int)) ∧ Grew w w'
set_option maxHeartbeats 4000000 in
theorem force_ok (A V : List Nat) (hA : Rl A) (hV : ∀ m ∈ V, m < 2 ^ A.length) (hl : V.length = 6) : ∀ t : Tree, ForceOk A V t := by
  intro t
  induction t with
  | box x _ => intro v u va w _ _ _ ht; exact absurd (anyP_mem.1 ht.2 (5, 0) (by simp [Fm.enc])) (by simp [isBD])
  | dia x _ => intro v u va w _ _ _ ht; exact absurd (anyP_mem.1 ht.2 (6, 0) (by simp [Fm.enc])) (by simp [isBD])
  | fls =>
    intro v u va w h hu ha ht
    obtain ⟨b, o, n, c, rfl, hn0, hne, hk⟩ := head_t ha
    have k0 := hk _ ((Grew.refl w).alloc (.cells #[.int .i64 (A.length : Int), v] 26))
    simp only [kindOf] at k0
    have hnn : (0 : Int) < (n : Int) := by omega
    obtain ⟨A', cA, rfl⟩ := ints_sliceN h
    obtain ⟨AU, cu, rfl⟩ := ints_sliceN hu
    have hg := (Grew.refl w).alloc (.cells #[.int .i64 (A.length : Int), .slice A' A.length cA] 26)
    clear h hu ha hk ht hA hne
    show Calls _ _ _ _ fun e w' => e = .returned (.int .i64 0) ∧ Grew w w'
    generalize A.length = NA at *
    go_enter Tryz.func24, Tryz.ntmps24
    go_wp2_with fail
    go_ret
    exact ⟨rfl, hg⟩
  | var s =>
    intro v u va w h hu ha ht
    obtain ⟨b, o, c, rfl, hc0, hc1, hbl, hcell⟩ : ∃ b o c, va = .slice (some ⟨b, o, none⟩) 1 c ∧ 1 ≤ c ∧ c ≤ 9223372036854775807 ∧ b < w.heap.size ∧ ∀ W, Grew w W → W.cell? ⟨b, o, none⟩ = some (.int .i64 0) ∧ W.cell? ⟨b, o + 1, none⟩ = some (.int .i64 (s.val : Int)) := by
      rcases ha.open_ with ⟨_, h0⟩ | ⟨b, o, c, rfl, q1, q2, q3, q4⟩
      · exact absurd h0 (by simp [Fm.enc])
      · exact ⟨b, o, c, rfl, q1, q2, q3, fun W hW => by simpa [kd, sy, Fm.enc, List.getD] using q4 0 (by simp [Fm.enc]) W hW⟩
    have hgr := (Grew.refl w).alloc (.cells #[.int .i64 (A.length : Int), v] 26)
    obtain ⟨k0, k1⟩ := hcell _ hgr
    obtain ⟨A', cA, rfl⟩ := ints_sliceN h
    obtain ⟨AU, cu, rfl⟩ := ints_sliceN hu
    have hcu := cellsN hu (by omega)
    obtain ⟨bu, ou, rfl, hcu⟩ := hcu
    have hs : s.val < 6 := s.isLt
    have k2 := hcu s.val (by omega) _ hgr
    show Calls _ _ _ _ fun e w' => e = .returned (.int .i64 ((nt V s.val : Nat) : Int)) ∧ Grew w w'
    generalize nt V s.val = y at *
    generalize s.val = sv at *
    rw [hl]
    clear h hu ha ht hA hcell hcu hV hl
    generalize A.length = NA at *
    have hsi : (sv : Int) < 6 := by omega
    go_enter Tryz.func24, Tryz.ntmps24
    go_wp2_with fail
    go_ret
    exact ⟨rfl, hgr⟩
  | and x y ihx ihy =>
    intro v u va w h hu ha ht
    obtain ⟨hx, hy⟩ := fmOk_and ht
    have KL := Lib.hid (fun W (hW : Grew w W) => left_t (two_and x y) ht va W (ha.grew hW))
    have KR := Lib.hid (fun W (hW : Grew w W) => right_t (two_and x y) ht va W (ha.grew hW))
    have KX := Lib.hid (fun va W (hW : Grew w W) (hn : Nodes W va (Fm.enc x)) => ihx v u va W (h.grew hW) (hu.grew hW) hn hx)
    have KY := Lib.hid (fun va W (hW : Grew w W) (hn : Nodes W va (Fm.enc y)) => ihy v u va W (h.grew hW) (hu.grew hW) hn hy)
    have hop := and_i64 (fv A V x) (fv A V y) (by have := fv_sm hA hV x; omega) (by have := fv_sm hA hV y; omega)
    obtain ⟨b, o, n, c, rfl, hn0, hne, hk⟩ := head_t ha
    simp only [kindOf] at hk
    have hnn : (0 : Int) < (n : Int) := by omega
    obtain ⟨A', cA, rfl⟩ := ints_sliceN h
    obtain ⟨AU, cu, rfl⟩ := ints_sliceN hu
    show Calls _ _ _ _ fun e w' => e = .returned (.int .i64 ((fv A V x &&& fv A V y : Nat) : Int)) ∧ Grew w w'
    generalize fv A V x = X at *
    generalize fv A V y = Y at *
    generalize X &&& Y = Z at *
    clear h hu ha ht hA hne hx hy hV hl ihx ihy
    generalize V.length = NV at *
    generalize A.length = NA at *
    obtain ⟨w1, hw1⟩ : ∃ w1, w1 = w.alloc (.cells #[.int .i64 (NA : Int), .slice A' NA cA] 26) := ⟨_, rfl⟩
    have hal : Grew w w1 := by rw [hw1]; exact (Grew.refl w).alloc _
    have hb0 : w1.heap[w.heap.size]? = some (.cells #[.int .i64 (NA : Int), .slice A' NA cA] 26 (0, 0)) := by rw [hw1]; exact blk_new w _
    have p0 : ∀ W, Grew w1 W → W.cell? ⟨w.heap.size, 0, none⟩ = some (.int .i64 (NA : Int)) := fun W hW => by rw [blk_cell ((hW.block (blk_lt hb0)).trans hb0)]; rfl
    have p1 : ∀ W, Grew w1 W → W.cell? ⟨w.heap.size, 1, none⟩ = some (.slice A' NA cA) := fun W hW => by rw [blk_cell ((hW.block (blk_lt hb0)).trans hb0)]; rfl
    have k0 := fun W (hW : Grew w1 W) => hk W (hal.trans hW)
    have HAL := Lib.hid hal
    have k00 := hk _ ((Grew.refl w).alloc (.cells #[.int .i64 (NA : Int), .slice A' NA cA] 26))
    have hr1 := Grew.refl w1
    have hd1 := hr1.drew
    clear hk hb0 hal
    go_enter Tryz.func24, Tryz.ntmps24
    go_wp2_with fail
    simp only [← hw1]
    clear hw1 k00
    refine wp_region_held_drew (S := fun w' => Grew w1 w') (by kernel_rfl) hd1 (fun hHeld => ?_)
    refine wpAnyH_take (i := 0) (oi := ?on1) (v := ?vn1) ?hin1 ?an1 ?bn1 ?cn1 ?qn1 (Or.inl ⟨?dn1, ?hyn1⟩) hHeld ?restn1
    case hin1 => (simp only [List.getElem?_toArray, List.getElem?_cons_zero]; exact rfl)
    case an1 => kernel_rfl
    case bn1 => kernel_rfl
    case cn1 => kernel_rfl
    case qn1 => exact fun _ _ _ h => h
    case dn1 => rfl
    case hyn1 => (intro z hSw; (try dsimp only at hSw); go_simp; (try with_reducible rfl))
    try simp only [Act.put, List.setIfInBounds_toArray, List.set_cons_zero, List.set_cons_succ]
    refine wpAnyH_take (i := 1) (oi := ?on2) (v := ?vn2) ?hin2 ?an2 ?bn2 ?cn2 ?qn2 (Or.inl ⟨?dn2, ?hyn2⟩) hHeld ?restn2
    case hin2 => (simp only [List.getElem?_toArray, List.getElem?_cons_succ, List.getElem?_cons_zero]; exact rfl)
    case an2 => kernel_rfl
    case bn2 => kernel_rfl
    case cn2 => kernel_rfl
    case qn2 => exact fun _ _ _ h => h
    case dn2 => rfl
    case hyn2 => (intro z hSw; (try dsimp only at hSw); go_simp; (try with_reducible rfl))
    try simp only [Act.put, List.setIfInBounds_toArray, List.set_cons_zero, List.set_cons_succ]
    refine wpAnyH_take (i := 2) (oi := ?on3) (v := ?vn3) ?hin3 ?an3 ?bn3 ?cn3 ?qn3 (Or.inl ⟨?dn3, ?hyn3⟩) hHeld ?restn3
    case hin3 => (simp only [List.getElem?_toArray, List.getElem?_cons_succ, List.getElem?_cons_zero]; exact rfl)
    case an3 => kernel_rfl
    case bn3 => kernel_rfl
    case cn3 => kernel_rfl
    case qn3 => exact fun _ _ _ h => h
    case dn3 => rfl
    case hyn3 => (intro z hSw; (try dsimp only at hSw); go_simp; (try with_reducible rfl))
    try simp only [Act.put, List.setIfInBounds_toArray, List.set_cons_zero, List.set_cons_succ]
    refine wpAnyH_take (i := 5) (oi := ?on4) (v := ?vn4) ?hin4 ?an4 ?bn4 ?cn4 ?qn4 (Or.inl ⟨?dn4, ?hyn4⟩) hHeld ?restn4
    case hin4 => (simp only [List.getElem?_toArray, List.getElem?_cons_succ, List.getElem?_cons_zero]; exact rfl)
    case an4 => kernel_rfl
    case bn4 => kernel_rfl
    case cn4 => kernel_rfl
    case qn4 => exact fun _ _ _ h => h
    case dn4 => rfl
    case hyn4 => (intro z hSw; (try dsimp only at hSw); go_simp; (try with_reducible rfl))
    try simp only [Act.put, List.setIfInBounds_toArray, List.set_cons_zero, List.set_cons_succ]
    refine wpAnyH_take (i := 6) (oi := ?on5) (v := ?vn5) ?hin5 ?an5 ?bn5 ?cn5 ?qn5 (Or.inl ⟨?dn5, ?hyn5⟩) hHeld ?restn5
    case hin5 => (simp only [List.getElem?_toArray, List.getElem?_cons_succ, List.getElem?_cons_zero]; exact rfl)
    case an5 => kernel_rfl
    case bn5 => kernel_rfl
    case cn5 => kernel_rfl
    case qn5 => exact fun _ _ _ h => h
    case dn5 => rfl
    case hyn5 => (intro z hSw; (try dsimp only at hSw); go_simp; (try with_reducible rfl))
    try simp only [Act.put, List.setIfInBounds_toArray, List.set_cons_zero, List.set_cons_succ]
    refine wpAnyH_take (i := 7) (oi := ?on6) (v := ?vn6) ?hin6 ?an6 ?bn6 ?cn6 ?qn6 (Or.inl ⟨?dn6, ?hyn6⟩) hHeld ?restn6
    case hin6 => (simp only [List.getElem?_toArray, List.getElem?_cons_succ, List.getElem?_cons_zero]; exact rfl)
    case an6 => kernel_rfl
    case bn6 => kernel_rfl
    case cn6 => kernel_rfl
    case qn6 => exact fun _ _ _ h => h
    case dn6 => rfl
    case hyn6 => (intro z hSw; (try dsimp only at hSw); go_simp; (try with_reducible rfl))
    try simp only [Act.put, List.setIfInBounds_toArray, List.set_cons_zero, List.set_cons_succ]
    refine wpAnyH_ready (rs := [3]) (by kernel_rfl) (by simp) ?_
    refine AllReadyH.cons (o := ?on7) ?hin7 ?restn7 AllReadyH.nil
    case hin7 => (simp only [List.getElem?_toArray, List.getElem?_cons_succ, List.getElem?_cons_zero]; exact rfl)
    intro K hK
    go_simp
    go_at_call 50
    refine (KL.out _ (HAL.out.trans hd1)).mono ?_
    rintro e w2 ⟨va2, rfl, hn2, hgw2⟩
    have h2 : Grew w1 w2 := hd1.trans hgw2
    obtain ⟨B2, e2, rfl⟩ := nodes_slice hn2
    refine hK.out _ _ ?_ (fun hHeld => ?_)
    · (try dsimp only); first | with_reducible assumption | exact Grew.alloc ‹_› _
    clear hK K
    try simp only [Act.put, List.setIfInBounds_toArray, List.set_cons_zero, List.set_cons_succ]
    refine wpAnyH_ready (rs := [4]) (by kernel_rfl) (by simp) ?_
    refine AllReadyH.cons (o := ?on8) ?hin8 ?restn8 AllReadyH.nil
    case hin8 => (simp only [List.getElem?_toArray, List.getElem?_cons_succ, List.getElem?_cons_zero]; exact rfl)
    intro K hK
    go_simp
    go_at_call 24
    refine (KX.out _ _ (HAL.out.trans h2) hn2).mono ?_
    rintro e w3 ⟨rfl, hgw3⟩
    have h3 : Grew w1 w3 := h2.trans hgw3
    refine hK.out _ _ ?_ (fun hHeld => ?_)
    · (try dsimp only); first | with_reducible assumption | exact Grew.alloc ‹_› _
    clear hK K
    try simp only [Act.put, List.setIfInBounds_toArray, List.set_cons_zero, List.set_cons_succ]
    refine wpAnyH_ready (rs := [8]) (by kernel_rfl) (by simp) ?_
    refine AllReadyH.cons (o := ?on9) ?hin9 ?restn9 AllReadyH.nil
    case hin9 => (simp only [List.getElem?_toArray, List.getElem?_cons_succ, List.getElem?_cons_zero]; exact rfl)
    intro K hK
    go_simp
    go_at_call 51
    refine (KR.out _ (HAL.out.trans h3)).mono ?_
    rintro e w4 ⟨va4, rfl, hn4, hgw4⟩
    have h4 : Grew w1 w4 := h3.trans hgw4
    obtain ⟨B4, e4, rfl⟩ := nodes_slice hn4
    refine hK.out _ _ ?_ (fun hHeld => ?_)
    · (try dsimp only); first | with_reducible assumption | exact Grew.alloc ‹_› _
    clear hK K
    try simp only [Act.put, List.setIfInBounds_toArray, List.set_cons_zero, List.set_cons_succ]
    refine wpAnyH_ready (rs := [9]) (by kernel_rfl) (by simp) ?_
    refine AllReadyH.cons (o := ?on10) ?hin10 ?restn10 AllReadyH.nil
    case hin10 => (simp only [List.getElem?_toArray, List.getElem?_cons_succ, List.getElem?_cons_zero]; exact rfl)
    intro K hK
    go_simp
    go_at_call 24
    refine (KY.out _ _ (HAL.out.trans h4) hn4).mono ?_
    rintro e w5 ⟨rfl, hgw5⟩
    have h5 : Grew w1 w5 := h4.trans hgw5
    refine hK.out _ _ ?_ (fun hHeld => ?_)
    · (try dsimp only); first | with_reducible assumption | exact Grew.alloc ‹_› _
    clear hK K
    try simp only [Act.put, List.setIfInBounds_toArray, List.set_cons_zero, List.set_cons_succ]
    refine wpAnyH_take (i := 10) (oi := ?on11) (v := ?vn11) ?hin11 ?an11 ?bn11 ?cn11 ?qn11 (Or.inl ⟨?dn11, ?hyn11⟩) hHeld ?restn11
    case hin11 => (simp only [List.getElem?_toArray, List.getElem?_cons_succ, List.getElem?_cons_zero]; exact rfl)
    case an11 => kernel_rfl
    case bn11 => kernel_rfl
    case cn11 => kernel_rfl
    case qn11 => exact fun _ _ _ h => h
    case dn11 => rfl
    case hyn11 => (intro z hSw; (try dsimp only at hSw); go_simp; (try with_reducible rfl))
    try simp only [Act.put, List.setIfInBounds_toArray, List.set_cons_zero, List.set_cons_succ]
    refine wpAnyH_take (i := 11) (oi := ?on12) (v := ?vn12) ?hin12 ?an12 ?bn12 ?cn12 ?qn12 (Or.inl ⟨?dn12, ?hyn12⟩) hHeld ?restn12
    case hin12 => (simp only [List.getElem?_toArray, List.getElem?_cons_succ, List.getElem?_cons_zero]; exact rfl)
    case an12 => kernel_rfl
    case bn12 => kernel_rfl
    case cn12 => kernel_rfl
    case qn12 => exact fun _ _ _ h => h
    case dn12 => rfl
    case hyn12 => (intro z hSw; (try dsimp only at hSw); go_simp; (try with_reducible rfl))
    try simp only [Act.put, List.setIfInBounds_toArray, List.set_cons_zero, List.set_cons_succ]
    refine wpAnyH_done (by kernel_rfl) ?_ _
    go_wp2_with fail
    go_ret
    exact ⟨rfl, HAL.out.trans h5⟩
  | or x y ihx ihy =>
    intro v u va w h hu ha ht
    obtain ⟨hx, hy⟩ := fmOk_or ht
    have KL := Lib.hid (fun W (hW : Grew w W) => left_t (two_or x y) ht va W (ha.grew hW))
    have KR := Lib.hid (fun W (hW : Grew w W) => right_t (two_or x y) ht va W (ha.grew hW))
    have KX := Lib.hid (fun va W (hW : Grew w W) (hn : Nodes W va (Fm.enc x)) => ihx v u va W (h.grew hW) (hu.grew hW) hn hx)
    have KY := Lib.hid (fun va W (hW : Grew w W) (hn : Nodes W va (Fm.enc y)) => ihy v u va W (h.grew hW) (hu.grew hW) hn hy)
    have hop := or_i64 (fv A V x) (fv A V y) (by have := fv_sm hA hV x; omega) (by have := fv_sm hA hV y; omega)
    obtain ⟨b, o, n, c, rfl, hn0, hne, hk⟩ := head_t ha
    simp only [kindOf] at hk
    have hnn : (0 : Int) < (n : Int) := by omega
    obtain ⟨A', cA, rfl⟩ := ints_sliceN h
    obtain ⟨AU, cu, rfl⟩ := ints_sliceN hu
    show Calls _ _ _ _ fun e w' => e = .returned (.int .i64 ((fv A V x ||| fv A V y : Nat) : Int)) ∧ Grew w w'
    generalize fv A V x = X at *
    generalize fv A V y = Y at *
    generalize X ||| Y = Z at *
    clear h hu ha ht hA hne hx hy hV hl ihx ihy
    generalize V.length = NV at *
    generalize A.length = NA at *
    obtain ⟨w1, hw1⟩ : ∃ w1, w1 = w.alloc (.cells #[.int .i64 (NA : Int), .slice A' NA cA] 26) := ⟨_, rfl⟩
    have hal : Grew w w1 := by rw [hw1]; exact (Grew.refl w).alloc _
    have hb0 : w1.heap[w.heap.size]? = some (.cells #[.int .i64 (NA : Int), .slice A' NA cA] 26 (0, 0)) := by rw [hw1]; exact blk_new w _
    have p0 : ∀ W, Grew w1 W → W.cell? ⟨w.heap.size, 0, none⟩ = some (.int .i64 (NA : Int)) := fun W hW => by rw [blk_cell ((hW.block (blk_lt hb0)).trans hb0)]; rfl
    have p1 : ∀ W, Grew w1 W → W.cell? ⟨w.heap.size, 1, none⟩ = some (.slice A' NA cA) := fun W hW => by rw [blk_cell ((hW.block (blk_lt hb0)).trans hb0)]; rfl
    have k0 := fun W (hW : Grew w1 W) => hk W (hal.trans hW)
    have HAL := Lib.hid hal
    have k00 := hk _ ((Grew.refl w).alloc (.cells #[.int .i64 (NA : Int), .slice A' NA cA] 26))
    have hr1 := Grew.refl w1
    have hd1 := hr1.drew
    clear hk hb0 hal
    go_enter Tryz.func24, Tryz.ntmps24
    go_wp2_with fail
    simp only [← hw1]
    clear hw1 k00
    refine wp_region_held_drew (S := fun w' => Grew w1 w') (by kernel_rfl) hd1 (fun hHeld => ?_)
    refine wpAnyH_take (i := 0) (oi := ?on13) (v := ?vn13) ?hin13 ?an13 ?bn13 ?cn13 ?qn13 (Or.inl ⟨?dn13, ?hyn13⟩) hHeld ?restn13
    case hin13 => (simp only [List.getElem?_toArray, List.getElem?_cons_zero]; exact rfl)
    case an13 => kernel_rfl
    case bn13 => kernel_rfl
    case cn13 => kernel_rfl
    case qn13 => exact fun _ _ _ h => h
    case dn13 => rfl
    case hyn13 => (intro z hSw; (try dsimp only at hSw); go_simp; (try with_reducible rfl))
    try simp only [Act.put, List.setIfInBounds_toArray, List.set_cons_zero, List.set_cons_succ]
    refine wpAnyH_take (i := 1) (oi := ?on14) (v := ?vn14) ?hin14 ?an14 ?bn14 ?cn14 ?qn14 (Or.inl ⟨?dn14, ?hyn14⟩) hHeld ?restn14
    case hin14 => (simp only [List.getElem?_toArray, List.getElem?_cons_succ, List.getElem?_cons_zero]; exact rfl)
    case an14 => kernel_rfl
    case bn14 => kernel_rfl
    case cn14 => kernel_rfl
    case qn14 => exact fun _ _ _ h => h
    case dn14 => rfl
    case hyn14 => (intro z hSw; (try dsimp only at hSw); go_simp; (try with_reducible rfl))
    try simp only [Act.put, List.setIfInBounds_toArray, List.set_cons_zero, List.set_cons_succ]
    refine wpAnyH_take (i := 2) (oi := ?on15) (v := ?vn15) ?hin15 ?an15 ?bn15 ?cn15 ?qn15 (Or.inl ⟨?dn15, ?hyn15⟩) hHeld ?restn15
    case hin15 => (simp only [List.getElem?_toArray, List.getElem?_cons_succ, List.getElem?_cons_zero]; exact rfl)
    case an15 => kernel_rfl
    case bn15 => kernel_rfl
    case cn15 => kernel_rfl
    case qn15 => exact fun _ _ _ h => h
    case dn15 => rfl
    case hyn15 => (intro z hSw; (try dsimp only at hSw); go_simp; (try with_reducible rfl))
    try simp only [Act.put, List.setIfInBounds_toArray, List.set_cons_zero, List.set_cons_succ]
    refine wpAnyH_take (i := 5) (oi := ?on16) (v := ?vn16) ?hin16 ?an16 ?bn16 ?cn16 ?qn16 (Or.inl ⟨?dn16, ?hyn16⟩) hHeld ?restn16
    case hin16 => (simp only [List.getElem?_toArray, List.getElem?_cons_succ, List.getElem?_cons_zero]; exact rfl)
    case an16 => kernel_rfl
    case bn16 => kernel_rfl
    case cn16 => kernel_rfl
    case qn16 => exact fun _ _ _ h => h
    case dn16 => rfl
    case hyn16 => (intro z hSw; (try dsimp only at hSw); go_simp; (try with_reducible rfl))
    try simp only [Act.put, List.setIfInBounds_toArray, List.set_cons_zero, List.set_cons_succ]
    refine wpAnyH_take (i := 6) (oi := ?on17) (v := ?vn17) ?hin17 ?an17 ?bn17 ?cn17 ?qn17 (Or.inl ⟨?dn17, ?hyn17⟩) hHeld ?restn17
    case hin17 => (simp only [List.getElem?_toArray, List.getElem?_cons_succ, List.getElem?_cons_zero]; exact rfl)
    case an17 => kernel_rfl
    case bn17 => kernel_rfl
    case cn17 => kernel_rfl
    case qn17 => exact fun _ _ _ h => h
    case dn17 => rfl
    case hyn17 => (intro z hSw; (try dsimp only at hSw); go_simp; (try with_reducible rfl))
    try simp only [Act.put, List.setIfInBounds_toArray, List.set_cons_zero, List.set_cons_succ]
    refine wpAnyH_take (i := 7) (oi := ?on18) (v := ?vn18) ?hin18 ?an18 ?bn18 ?cn18 ?qn18 (Or.inl ⟨?dn18, ?hyn18⟩) hHeld ?restn18
    case hin18 => (simp only [List.getElem?_toArray, List.getElem?_cons_succ, List.getElem?_cons_zero]; exact rfl)
    case an18 => kernel_rfl
    case bn18 => kernel_rfl
    case cn18 => kernel_rfl
    case qn18 => exact fun _ _ _ h => h
    case dn18 => rfl
    case hyn18 => (intro z hSw; (try dsimp only at hSw); go_simp; (try with_reducible rfl))
    try simp only [Act.put, List.setIfInBounds_toArray, List.set_cons_zero, List.set_cons_succ]
    refine wpAnyH_ready (rs := [3]) (by kernel_rfl) (by simp) ?_
    refine AllReadyH.cons (o := ?on19) ?hin19 ?restn19 AllReadyH.nil
    case hin19 => (simp only [List.getElem?_toArray, List.getElem?_cons_succ, List.getElem?_cons_zero]; exact rfl)
    intro K hK
    go_simp
    go_at_call 50
    refine (KL.out _ (HAL.out.trans hd1)).mono ?_
    rintro e w2 ⟨va2, rfl, hn2, hgw2⟩
    have h2 : Grew w1 w2 := hd1.trans hgw2
    obtain ⟨B2, e2, rfl⟩ := nodes_slice hn2
    refine hK.out _ _ ?_ (fun hHeld => ?_)
    · (try dsimp only); first | with_reducible assumption | exact Grew.alloc ‹_› _
    clear hK K
    try simp only [Act.put, List.setIfInBounds_toArray, List.set_cons_zero, List.set_cons_succ]
    refine wpAnyH_ready (rs := [4]) (by kernel_rfl) (by simp) ?_
    refine AllReadyH.cons (o := ?on20) ?hin20 ?restn20 AllReadyH.nil
    case hin20 => (simp only [List.getElem?_toArray, List.getElem?_cons_succ, List.getElem?_cons_zero]; exact rfl)
    intro K hK
    go_simp
    go_at_call 24
    refine (KX.out _ _ (HAL.out.trans h2) hn2).mono ?_
    rintro e w3 ⟨rfl, hgw3⟩
    have h3 : Grew w1 w3 := h2.trans hgw3
    refine hK.out _ _ ?_ (fun hHeld => ?_)
    · (try dsimp only); first | with_reducible assumption | exact Grew.alloc ‹_› _
    clear hK K
    try simp only [Act.put, List.setIfInBounds_toArray, List.set_cons_zero, List.set_cons_succ]
    refine wpAnyH_ready (rs := [8]) (by kernel_rfl) (by simp) ?_
    refine AllReadyH.cons (o := ?on21) ?hin21 ?restn21 AllReadyH.nil
    case hin21 => (simp only [List.getElem?_toArray, List.getElem?_cons_succ, List.getElem?_cons_zero]; exact rfl)
    intro K hK
    go_simp
    go_at_call 51
    refine (KR.out _ (HAL.out.trans h3)).mono ?_
    rintro e w4 ⟨va4, rfl, hn4, hgw4⟩
    have h4 : Grew w1 w4 := h3.trans hgw4
    obtain ⟨B4, e4, rfl⟩ := nodes_slice hn4
    refine hK.out _ _ ?_ (fun hHeld => ?_)
    · (try dsimp only); first | with_reducible assumption | exact Grew.alloc ‹_› _
    clear hK K
    try simp only [Act.put, List.setIfInBounds_toArray, List.set_cons_zero, List.set_cons_succ]
    refine wpAnyH_ready (rs := [9]) (by kernel_rfl) (by simp) ?_
    refine AllReadyH.cons (o := ?on22) ?hin22 ?restn22 AllReadyH.nil
    case hin22 => (simp only [List.getElem?_toArray, List.getElem?_cons_succ, List.getElem?_cons_zero]; exact rfl)
    intro K hK
    go_simp
    go_at_call 24
    refine (KY.out _ _ (HAL.out.trans h4) hn4).mono ?_
    rintro e w5 ⟨rfl, hgw5⟩
    have h5 : Grew w1 w5 := h4.trans hgw5
    refine hK.out _ _ ?_ (fun hHeld => ?_)
    · (try dsimp only); first | with_reducible assumption | exact Grew.alloc ‹_› _
    clear hK K
    try simp only [Act.put, List.setIfInBounds_toArray, List.set_cons_zero, List.set_cons_succ]
    refine wpAnyH_take (i := 10) (oi := ?on23) (v := ?vn23) ?hin23 ?an23 ?bn23 ?cn23 ?qn23 (Or.inl ⟨?dn23, ?hyn23⟩) hHeld ?restn23
    case hin23 => (simp only [List.getElem?_toArray, List.getElem?_cons_succ, List.getElem?_cons_zero]; exact rfl)
    case an23 => kernel_rfl
    case bn23 => kernel_rfl
    case cn23 => kernel_rfl
    case qn23 => exact fun _ _ _ h => h
    case dn23 => rfl
    case hyn23 => (intro z hSw; (try dsimp only at hSw); go_simp; (try with_reducible rfl))
    try simp only [Act.put, List.setIfInBounds_toArray, List.set_cons_zero, List.set_cons_succ]
    refine wpAnyH_take (i := 11) (oi := ?on24) (v := ?vn24) ?hin24 ?an24 ?bn24 ?cn24 ?qn24 (Or.inl ⟨?dn24, ?hyn24⟩) hHeld ?restn24
    case hin24 => (simp only [List.getElem?_toArray, List.getElem?_cons_succ, List.getElem?_cons_zero]; exact rfl)
    case an24 => kernel_rfl
    case bn24 => kernel_rfl
    case cn24 => kernel_rfl
    case qn24 => exact fun _ _ _ h => h
    case dn24 => rfl
    case hyn24 => (intro z hSw; (try dsimp only at hSw); go_simp; (try with_reducible rfl))
    try simp only [Act.put, List.setIfInBounds_toArray, List.set_cons_zero, List.set_cons_succ]
    refine wpAnyH_done (by kernel_rfl) ?_ _
    go_wp2_with fail
    go_ret
    exact ⟨rfl, HAL.out.trans h5⟩
  | imp x y ihx ihy =>
    intro v u va w h hu ha ht
    obtain ⟨hx, hy⟩ := fmOk_imp ht
    have KL := Lib.hid (fun W (hW : Grew w W) => left_t (two_imp x y) ht va W (ha.grew hW))
    have KR := Lib.hid (fun W (hW : Grew w W) => right_t (two_imp x y) ht va W (ha.grew hW))
    have KX := Lib.hid (fun va W (hW : Grew w W) (hn : Nodes W va (Fm.enc x)) => ihx v u va W (h.grew hW) (hu.grew hW) hn hx)
    have KY := Lib.hid (fun va W (hW : Grew w W) (hn : Nodes W va (Fm.enc y)) => ihy v u va W (h.grew hW) (hu.grew hW) hn hy)
    have KA := Lib.hid (fun W (hW : Grew w W) => l17Arrow_c v A (fv A V x) (fv A V y) W (h.grew hW) hA (fv_sm hA hV x) (fv_sm hA hV y))
    obtain ⟨b, o, n, c, rfl, hn0, hne, hk⟩ := head_t ha
    simp only [kindOf] at hk
    have hnn : (0 : Int) < (n : Int) := by omega
    obtain ⟨A', cA, rfl⟩ := ints_sliceN h
    obtain ⟨AU, cu, rfl⟩ := ints_sliceN hu
    show Calls _ _ _ _ fun e w' => e = .returned (.int .i64 ((ar A (fv A V x) (fv A V y) : Nat) : Int)) ∧ Grew w w'
    generalize fv A V x = X at *
    generalize fv A V y = Y at *
    generalize ar A (X) (Y) = Z at *
    clear h hu ha ht hA hne hx hy hV hl ihx ihy
    generalize V.length = NV at *
    generalize A.length = NA at *
    obtain ⟨w1, hw1⟩ : ∃ w1, w1 = w.alloc (.cells #[.int .i64 (NA : Int), .slice A' NA cA] 26) := ⟨_, rfl⟩
    have hal : Grew w w1 := by rw [hw1]; exact (Grew.refl w).alloc _
    have hb0 : w1.heap[w.heap.size]? = some (.cells #[.int .i64 (NA : Int), .slice A' NA cA] 26 (0, 0)) := by rw [hw1]; exact blk_new w _
    have p0 : ∀ W, Grew w1 W → W.cell? ⟨w.heap.size, 0, none⟩ = some (.int .i64 (NA : Int)) := fun W hW => by rw [blk_cell ((hW.block (blk_lt hb0)).trans hb0)]; rfl
    have p1 : ∀ W, Grew w1 W → W.cell? ⟨w.heap.size, 1, none⟩ = some (.slice A' NA cA) := fun W hW => by rw [blk_cell ((hW.block (blk_lt hb0)).trans hb0)]; rfl
    have k0 := fun W (hW : Grew w1 W) => hk W (hal.trans hW)
    have HAL := Lib.hid hal
    have k00 := hk _ ((Grew.refl w).alloc (.cells #[.int .i64 (NA : Int), .slice A' NA cA] 26))
    have hr1 := Grew.refl w1
    have hd1 := hr1.drew
    clear hk hb0 hal
    go_enter Tryz.func24, Tryz.ntmps24
    go_wp2_with fail
    simp only [← hw1]
    clear hw1 k00
    refine wp_region_held_drew (S := fun w' => Grew w1 w') (by kernel_rfl) hd1 (fun hHeld => ?_)
    refine wpAnyH_take (i := 0) (oi := ?on25) (v := ?vn25) ?hin25 ?an25 ?bn25 ?cn25 ?qn25 (Or.inl ⟨?dn25, ?hyn25⟩) hHeld ?restn25
    case hin25 => (simp only [List.getElem?_toArray, List.getElem?_cons_zero]; exact rfl)
    case an25 => kernel_rfl
    case bn25 => kernel_rfl
    case cn25 => kernel_rfl
    case qn25 => exact fun _ _ _ h => h
    case dn25 => rfl
    case hyn25 => (intro z hSw; (try dsimp only at hSw); go_simp; (try with_reducible rfl))
    try simp only [Act.put, List.setIfInBounds_toArray, List.set_cons_zero, List.set_cons_succ]
    refine wpAnyH_take (i := 1) (oi := ?on26) (v := ?vn26) ?hin26 ?an26 ?bn26 ?cn26 ?qn26 (Or.inl ⟨?dn26, ?hyn26⟩) hHeld ?restn26
    case hin26 => (simp only [List.getElem?_toArray, List.getElem?_cons_succ, List.getElem?_cons_zero]; exact rfl)
    case an26 => kernel_rfl
    case bn26 => kernel_rfl
    case cn26 => kernel_rfl
    case qn26 => exact fun _ _ _ h => h
    case dn26 => rfl
    case hyn26 => (intro z hSw; (try dsimp only at hSw); go_simp; (try with_reducible rfl))
    try simp only [Act.put, List.setIfInBounds_toArray, List.set_cons_zero, List.set_cons_succ]
    refine wpAnyH_take (i := 2) (oi := ?on27) (v := ?vn27) ?hin27 ?an27 ?bn27 ?cn27 ?qn27 (Or.inl ⟨?dn27, ?hyn27⟩) hHeld ?restn27
    case hin27 => (simp only [List.getElem?_toArray, List.getElem?_cons_succ, List.getElem?_cons_zero]; exact rfl)
    case an27 => kernel_rfl
    case bn27 => kernel_rfl
    case cn27 => kernel_rfl
    case qn27 => exact fun _ _ _ h => h
    case dn27 => rfl
    case hyn27 => (intro z hSw; (try dsimp only at hSw); go_simp; (try with_reducible rfl))
    try simp only [Act.put, List.setIfInBounds_toArray, List.set_cons_zero, List.set_cons_succ]
    refine wpAnyH_take (i := 3) (oi := ?on28) (v := ?vn28) ?hin28 ?an28 ?bn28 ?cn28 ?qn28 (Or.inl ⟨?dn28, ?hyn28⟩) hHeld ?restn28
    case hin28 => (simp only [List.getElem?_toArray, List.getElem?_cons_succ, List.getElem?_cons_zero]; exact rfl)
    case an28 => kernel_rfl
    case bn28 => kernel_rfl
    case cn28 => kernel_rfl
    case qn28 => exact fun _ _ _ h => h
    case dn28 => rfl
    case hyn28 => (intro z hSw; (try dsimp only at hSw); go_simp; (try with_reducible rfl))
    try simp only [Act.put, List.setIfInBounds_toArray, List.set_cons_zero, List.set_cons_succ]
    refine wpAnyH_take (i := 6) (oi := ?on29) (v := ?vn29) ?hin29 ?an29 ?bn29 ?cn29 ?qn29 (Or.inl ⟨?dn29, ?hyn29⟩) hHeld ?restn29
    case hin29 => (simp only [List.getElem?_toArray, List.getElem?_cons_succ, List.getElem?_cons_zero]; exact rfl)
    case an29 => kernel_rfl
    case bn29 => kernel_rfl
    case cn29 => kernel_rfl
    case qn29 => exact fun _ _ _ h => h
    case dn29 => rfl
    case hyn29 => (intro z hSw; (try dsimp only at hSw); go_simp; (try with_reducible rfl))
    try simp only [Act.put, List.setIfInBounds_toArray, List.set_cons_zero, List.set_cons_succ]
    refine wpAnyH_take (i := 7) (oi := ?on30) (v := ?vn30) ?hin30 ?an30 ?bn30 ?cn30 ?qn30 (Or.inl ⟨?dn30, ?hyn30⟩) hHeld ?restn30
    case hin30 => (simp only [List.getElem?_toArray, List.getElem?_cons_succ, List.getElem?_cons_zero]; exact rfl)
    case an30 => kernel_rfl
    case bn30 => kernel_rfl
    case cn30 => kernel_rfl
    case qn30 => exact fun _ _ _ h => h
    case dn30 => rfl
    case hyn30 => (intro z hSw; (try dsimp only at hSw); go_simp; (try with_reducible rfl))
    try simp only [Act.put, List.setIfInBounds_toArray, List.set_cons_zero, List.set_cons_succ]
    refine wpAnyH_take (i := 8) (oi := ?on31) (v := ?vn31) ?hin31 ?an31 ?bn31 ?cn31 ?qn31 (Or.inl ⟨?dn31, ?hyn31⟩) hHeld ?restn31
    case hin31 => (simp only [List.getElem?_toArray, List.getElem?_cons_succ, List.getElem?_cons_zero]; exact rfl)
    case an31 => kernel_rfl
    case bn31 => kernel_rfl
    case cn31 => kernel_rfl
    case qn31 => exact fun _ _ _ h => h
    case dn31 => rfl
    case hyn31 => (intro z hSw; (try dsimp only at hSw); go_simp; (try with_reducible rfl))
    try simp only [Act.put, List.setIfInBounds_toArray, List.set_cons_zero, List.set_cons_succ]
    refine wpAnyH_ready (rs := [4]) (by kernel_rfl) (by simp) ?_
    refine AllReadyH.cons (o := ?on32) ?hin32 ?restn32 AllReadyH.nil
    case hin32 => (simp only [List.getElem?_toArray, List.getElem?_cons_succ, List.getElem?_cons_zero]; exact rfl)
    intro K hK
    go_simp
    go_at_call 50
    refine (KL.out _ (HAL.out.trans hd1)).mono ?_
    rintro e w2 ⟨va2, rfl, hn2, hgw2⟩
    have h2 : Grew w1 w2 := hd1.trans hgw2
    obtain ⟨B2, e2, rfl⟩ := nodes_slice hn2
    refine hK.out _ _ ?_ (fun hHeld => ?_)
    · (try dsimp only); first | with_reducible assumption | exact Grew.alloc ‹_› _
    clear hK K
    try simp only [Act.put, List.setIfInBounds_toArray, List.set_cons_zero, List.set_cons_succ]
    refine wpAnyH_ready (rs := [5]) (by kernel_rfl) (by simp) ?_
    refine AllReadyH.cons (o := ?on33) ?hin33 ?restn33 AllReadyH.nil
    case hin33 => (simp only [List.getElem?_toArray, List.getElem?_cons_succ, List.getElem?_cons_zero]; exact rfl)
    intro K hK
    go_simp
    go_at_call 24
    refine (KX.out _ _ (HAL.out.trans h2) hn2).mono ?_
    rintro e w3 ⟨rfl, hgw3⟩
    have h3 : Grew w1 w3 := h2.trans hgw3
    refine hK.out _ _ ?_ (fun hHeld => ?_)
    · (try dsimp only); first | with_reducible assumption | exact Grew.alloc ‹_› _
    clear hK K
    try simp only [Act.put, List.setIfInBounds_toArray, List.set_cons_zero, List.set_cons_succ]
    refine wpAnyH_ready (rs := [9]) (by kernel_rfl) (by simp) ?_
    refine AllReadyH.cons (o := ?on34) ?hin34 ?restn34 AllReadyH.nil
    case hin34 => (simp only [List.getElem?_toArray, List.getElem?_cons_succ, List.getElem?_cons_zero]; exact rfl)
    intro K hK
    go_simp
    go_at_call 51
    refine (KR.out _ (HAL.out.trans h3)).mono ?_
    rintro e w4 ⟨va4, rfl, hn4, hgw4⟩
    have h4 : Grew w1 w4 := h3.trans hgw4
    obtain ⟨B4, e4, rfl⟩ := nodes_slice hn4
    refine hK.out _ _ ?_ (fun hHeld => ?_)
    · (try dsimp only); first | with_reducible assumption | exact Grew.alloc ‹_› _
    clear hK K
    try simp only [Act.put, List.setIfInBounds_toArray, List.set_cons_zero, List.set_cons_succ]
    refine wpAnyH_ready (rs := [10]) (by kernel_rfl) (by simp) ?_
    refine AllReadyH.cons (o := ?on35) ?hin35 ?restn35 AllReadyH.nil
    case hin35 => (simp only [List.getElem?_toArray, List.getElem?_cons_succ, List.getElem?_cons_zero]; exact rfl)
    intro K hK
    go_simp
    go_at_call 24
    refine (KY.out _ _ (HAL.out.trans h4) hn4).mono ?_
    rintro e w5 ⟨rfl, hgw5⟩
    have h5 : Grew w1 w5 := h4.trans hgw5
    refine hK.out _ _ ?_ (fun hHeld => ?_)
    · (try dsimp only); first | with_reducible assumption | exact Grew.alloc ‹_› _
    clear hK K
    try simp only [Act.put, List.setIfInBounds_toArray, List.set_cons_zero, List.set_cons_succ]
    refine wpAnyH_ready (rs := [11]) (by kernel_rfl) (by simp) ?_
    refine AllReadyH.cons (o := ?on36) ?hin36 ?restn36 AllReadyH.nil
    case hin36 => (simp only [List.getElem?_toArray, List.getElem?_cons_succ, List.getElem?_cons_zero]; exact rfl)
    intro K hK
    go_simp
    go_at_call 52
    refine (KA.out _ (HAL.out.trans h5)).mono ?_
    rintro e w6 ⟨rfl, hgw6⟩
    have h6 : Grew w1 w6 := h5.trans hgw6
    refine hK.out _ _ ?_ (fun hHeld => ?_)
    · (try dsimp only); first | with_reducible assumption | exact Grew.alloc ‹_› _
    clear hK K
    try simp only [Act.put, List.setIfInBounds_toArray, List.set_cons_zero, List.set_cons_succ]
    refine wpAnyH_take (i := 12) (oi := ?on37) (v := ?vn37) ?hin37 ?an37 ?bn37 ?cn37 ?qn37 (Or.inl ⟨?dn37, ?hyn37⟩) hHeld ?restn37
    case hin37 => (simp only [List.getElem?_toArray, List.getElem?_cons_succ, List.getElem?_cons_zero]; exact rfl)
    case an37 => kernel_rfl
    case bn37 => kernel_rfl
    case cn37 => kernel_rfl
    case qn37 => exact fun _ _ _ h => h
    case dn37 => rfl
    case hyn37 => (intro z hSw; (try dsimp only at hSw); go_simp; (try with_reducible rfl))
    try simp only [Act.put, List.setIfInBounds_toArray, List.set_cons_zero, List.set_cons_succ]
    refine wpAnyH_done (by kernel_rfl) ?_ _
    go_wp2_with fail
    go_ret
    exact ⟨rfl, HAL.out.trans h6⟩
end Go.Proofs.YtphljdhacbpkbaaGreat

/- isFormula of the program, at any list. -/
namespace Go.Proofs.YtphljdhacbpkbaaGreat
open Go.RowKit
open Fm (Nd Tree)

theorem isVariable_c (k : Int) (w : World) : Calls Tryz.prog 138 #[.int .i64 k] w fun e w' => e = .returned (.bool (decide (0 ≤ k ∧ k ≤ 5))) ∧ Grew w w' := by
  have HR := Lib.hid (inRange_c k 0 5 w)
  generalize decide (0 ≤ k ∧ k ≤ 5) = R at *
  go_enter Tryz.func138, Tryz.ntmps138
  go_wp2_with fail
  refine HR.out.mono ?_
  rintro e w1 ⟨rfl, hg1⟩
  go_wp2_with fail
  go_ret
  exact ⟨rfl, hg1⟩

/-- Is it a node? -/
def nodeB (a b : Int) : Bool := if a == 0 then decide (0 ≤ b ∧ b ≤ 5) else decide (1 ≤ a ∧ a ≤ 6) && b == 0

theorem isNode_c (a b : Int) (w : World) : Calls Tryz.prog 83 #[.agg #[.int .i64 a, .int .i64 b]] w fun e w' => e = .returned (.bool (nodeB a b)) ∧ Grew w w' := by
  unfold nodeB
  cases h0 : (a == 0) with
  | true =>
    rw [if_pos rfl]
    go_enter Tryz.func83, Tryz.ntmps83
    go_wp2_with fail
    refine (isVariable_c _ _).mono ?_
    rintro e w1 ⟨rfl, hg1⟩
    go_wp2_with fail
    go_ret
    exact ⟨by simp, Grew.of_alloc hg1⟩
  | false =>
    rw [if_neg (by simp)]
    have HR := fun w => inRange_c a 1 6 w
    generalize decide (1 ≤ a ∧ a ≤ 6) = R at *
    cases R with
    | true =>
      replace HR := Lib.hid HR
      go_enter Tryz.func83, Tryz.ntmps83
      go_wp2_with fail
      refine (HR.out _).mono ?_
      rintro e w1 ⟨rfl, hg1⟩
      have k1 : w1.cell? ⟨w.heap.size, 1, none⟩ = some (.int .i64 b) := (hg1.cell (by simp)).trans (by simp)
      go_wp2_with fail
      go_ret
      exact ⟨by simp, Grew.of_alloc hg1⟩
    | false =>
      replace HR := Lib.hid HR
      go_enter Tryz.func83, Tryz.ntmps83
      go_wp2_with fail
      refine (HR.out _).mono ?_
      rintro e w1 ⟨rfl, hg1⟩
      go_wp2_with fail
      go_ret
      exact ⟨by simp, Grew.of_alloc hg1⟩

def noNode (a b : Int) : Bool := !nodeB a b
theorem isFormula1_ok : PredOk 82 noNode := by
  intro a b w
  unfold noNode
  have HR := Lib.hid (fun w => isNode_c a b w)
  generalize nodeB a b = R at *
  go_enter Tryz.func82, Tryz.ntmps82
  go_wp2_with fail
  refine (HR.out _).mono ?_
  rintro e w1 ⟨rfl, hg1⟩
  go_wp2_with fail
  go_ret
  exact ⟨rfl, Grew.of_alloc hg1⟩

theorem enc_nodes (t : Tree) : ∀ n ∈ Fm.enc t, nodeB n.1 n.2 = true := by
  induction t with
  | var v =>
    intro n hn
    simp only [Fm.enc, List.mem_singleton] at hn
    subst hn
    have := v.isLt
    simp [nodeB]
    omega
  | fls =>
    intro n hn
    simp only [Fm.enc, List.mem_singleton] at hn
    subst hn
    rfl
  | and x y hx hy =>
    intro n hn
    simp only [Fm.enc, List.mem_cons, List.mem_append] at hn
    rcases hn with rfl | hn | hn
    · rfl
    · exact hx n hn
    · exact hy n hn
  | or x y hx hy =>
    intro n hn
    simp only [Fm.enc, List.mem_cons, List.mem_append] at hn
    rcases hn with rfl | hn | hn
    · rfl
    · exact hx n hn
    · exact hy n hn
  | imp x y hx hy =>
    intro n hn
    simp only [Fm.enc, List.mem_cons, List.mem_append] at hn
    rcases hn with rfl | hn | hn
    · rfl
    · exact hx n hn
    · exact hy n hn
  | box x hx =>
    intro n hn
    simp only [Fm.enc, List.mem_cons] at hn
    rcases hn with rfl | hn
    · rfl
    · exact hx n hn
  | dia x hx =>
    intro n hn
    simp only [Fm.enc, List.mem_cons] at hn
    rcases hn with rfl | hn
    · rfl
    · exact hx n hn
theorem enc_noNode (t : Tree) : anyP noNode (Fm.enc t) = false := by
  apply anyP_no
  intro i hi
  have h := enc_nodes t (Fm.enc t)[i] (List.getElem_mem hi)
  have h1 : kd (Fm.enc t) i = (Fm.enc t)[i].1 := by simp [kd, List.getD, hi]
  have h2 : sy (Fm.enc t) i = (Fm.enc t)[i].2 := by simp [sy, List.getD, hi]
  rw [noNode, h1, h2, h]
  rfl
theorem at_all (t : Tree) : At (Fm.enc t) 0 t := ⟨[], by simp⟩


/-- Is the list a formula's? -/
noncomputable def fmB (xs : List Nd) : Bool := decide (1 ≤ xs.length ∧ xs.length ≤ 40) && !anyP noNode xs && (pend xs 0 == (xs.length : Int))

theorem isFormula_g (v : Value) (xs : List Nd) (w : World) (h : Nodes w v xs) (hn : xs.length ≤ 1099511627776) :
    Calls Tryz.prog 44 #[v] w fun e w' => e = .returned (.bool (fmB xs)) ∧ Grew w w' := by
  have HC := Lib.hid (fun w h => containsFunc_c v xs _ _ w h hn isFormula1_ok (enters_of Tryz.func82 (by kernel_rfl) rfl))
  have HP := Lib.hid (fun w h => partEnd_c v xs 0 w h hn (by omega))
  obtain ⟨A, c, rfl⟩ := nodes_slice h
  have HN := Lib.hid h
  clear h
  unfold fmB
  generalize pend xs 0 = p at *
  generalize anyP noNode xs = q at *
  generalize hL : xs.length = n at *
  clear hL
  by_cases h1 : 1 ≤ n
  · by_cases h2 : n ≤ 40
    · rw [decide_eq_true (⟨h1, h2⟩ : 1 ≤ n ∧ n ≤ 40), Bool.true_and]
      cases q with
      | true =>
        go_enter Tryz.func44, Tryz.ntmps44
        go_wp2_with fail
        refine (HC.out _ HN.out).mono ?_
        rintro e w1 ⟨rfl, hg1⟩
        go_wp2_with fail
        go_ret
        exact ⟨by simp, hg1⟩
      | false =>
        go_enter Tryz.func44, Tryz.ntmps44
        go_wp2_with fail
        refine (HC.out _ HN.out).mono ?_
        rintro e w1 ⟨rfl, hg1⟩
        go_wp2_with fail
        refine (HP.out _ (HN.out.grew hg1)).mono ?_
        rintro e w2 ⟨rfl, hg2⟩
        go_wp2_with fail
        go_ret
        exact ⟨by simp, hg1.trans hg2⟩
    · rw [decide_eq_false (fun h : 1 ≤ n ∧ n ≤ 40 => h2 h.2), Bool.false_and, Bool.false_and]
      go_enter Tryz.func44, Tryz.ntmps44
      go_wp2_with fail
      go_ret
      exact ⟨rfl, Grew.refl _⟩
  · rw [decide_eq_false (fun h : 1 ≤ n ∧ n ≤ 40 => h1 h.1), Bool.false_and, Bool.false_and]
    go_enter Tryz.func44, Tryz.ntmps44
    go_wp2_with fail
    go_ret
    exact ⟨rfl, Grew.refl _⟩
end Go.Proofs.YtphljdhacbpkbaaGreat

/- l02Is of the reference, at any list. -/
namespace Go.Proofs.YtphljdhacbpkbaaGreat
open Go.RowKit
open Fm (Nd Tree)

theorem nodeB_bad1 {a b : Int} (h : decide (0 ≤ a ∧ a ≤ 6) = false) : nodeB a b = false := by
  unfold nodeB
  have h' := of_decide_eq_false h
  rw [if_neg (by simp; omega), decide_eq_false (by omega)]
  rfl
theorem nodeB_bad2 {a b : Int} (h : decide (0 ≤ b ∧ b ≤ 5) = false) : nodeB a b = false := by
  unfold nodeB
  have h' := of_decide_eq_false h
  split
  · exact h
  · have : (b == 0) = false := by simp; omega
    rw [this, Bool.and_false]
theorem nodeB_bad3 {a b : Int} (h0 : (a != 0) = true) (h1 : (b != 0) = true) : nodeB a b = false := by
  unfold nodeB
  simp at h0 h1
  rw [if_neg (by simpa using h0)]
  simp [h1]
theorem nodeB_ok {a b : Int} (h1 : decide (0 ≤ a ∧ a ≤ 6) = true) (h2 : decide (0 ≤ b ∧ b ≤ 5) = true) (h : (a != 0) = false ∨ (b != 0) = false) : nodeB a b = true := by
  unfold nodeB
  have h1' := of_decide_eq_true h1
  split
  · exact h2
  · rename_i hne
    rcases h with h | h
    · simp at h; simp [h] at hne
    · simp at h
      subst h
      have : a ≠ 0 := by simpa using hne
      simp; omega

theorem l02Tree_c (v : Value) (xs : List Nd) (w : World) (h : Nodes w v xs) (hn : xs.length ≤ 1099511627776) :
    Calls Tryz.prog 88 #[v] w fun e w' => e = .returned (.bool (decide (1 ≤ xs.length) && !anyP noNode xs && (pend xs 0 == (xs.length : Int)))) ∧ Grew w w' := by
  rcases h.open_ with ⟨rfl, rfl⟩ | ⟨b, o, c, rfl, hc, hm, hb, hcell⟩
  · clear h
    go_enter Tryz.func88, Tryz.ntmps88
    go_wp2_with fail
    refine wp_loop_rounds 1 ?_; rw [rounds_succ]
    go_wp2_with fail
    go_ret
    exact ⟨rfl, Grew.refl _⟩
  obtain ⟨R, hR⟩ : ∃ R, R = anyP noNode xs := ⟨_, rfl⟩
  rw [← hR]
  have HA := Lib.hid (fun k hk h => hR.trans (@anyP_at noNode xs k hk h))
  have HZ := Lib.hid (fun h => hR.trans (@anyP_no noNode xs h))
  have HP := Lib.hid (fun W (hW : Grew w W) => l02Part_c _ xs 0 W (h.grew hW) hn (by omega))
  have HC := Lib.hid hcell
  clear hcell h hR
  generalize pend xs 0 = p at *
  generalize hN : xs.length = n at *
  clear hN
  go_enter Tryz.func88, Tryz.ntmps88
  go_wp2_with fail
  go_loopw [3] (fun i wr => ∃ j : Nat, j ≤ n ∧ i = .int .i64 j ∧ Grew w wr ∧ Hid (NoneP noNode xs j)) (fun i _ => n - (intOf i).toNat)
  case atStart => exact ⟨0, Nat.zero_le _, rfl, Grew.refl _, NoneP.zero _ _⟩
  case round =>
    obtain ⟨j, hj, rfl, hB, HJ⟩ := hrel
    by_cases hlt : j < n
    · have k1 : ∀ W, Grew w W → W.cell? ⟨b, o + j * 2, none⟩ = some (.int .i64 (kd xs j)) := fun W hW => (HC.out j hlt W hW).1
      have k2 : ∀ W, Grew w W → W.cell? ⟨b, o + j * 2 + 1, none⟩ = some (.int .i64 (sy xs j)) := fun W hW => (HC.out j hlt W hW).2
      have hA : Hid (nodeB (kd xs j) (sy xs j) = false → R = true) := Lib.hid (fun h => HA.out j hlt (by rw [noNode, h]; rfl))
      have hS : Hid (nodeB (kd xs j) (sy xs j) = true → NoneP noNode xs (j + 1)) := Lib.hid (fun h => HJ.out.succ (k := j) (by rw [noNode, h]; rfl))
      generalize kd xs j = x at *
      generalize sy xs j = y at *
      have I1 := fun w => l01In_c x 0 6 w
      have I2 := fun w => l01In_c y 0 5 w
      have hd : ∀ W, Grew w W → Grew w W.drew := fun W h => h.drew
      cases d1 : decide (0 ≤ x ∧ x ≤ 6) with
      | false =>
        have hv := Lib.hid (hA.out (nodeB_bad1 d1))
        rw [d1] at I1
        replace I1 := Lib.hid I1
        replace I2 := Lib.hid I2
        clear d1
        go_wp2_with fail
        refine (I1.out _).mono ?_
        rintro e w1 ⟨rfl, hg1⟩
        have hB1 := hB.trans hg1
        go_wp2_with fail
        go_ret
        rw [hv.out]
        exact ⟨by simp, hB1⟩
      | true =>
        rw [d1] at I1
        replace I1 := Lib.hid I1
        cases d2 : decide (0 ≤ y ∧ y ≤ 5) with
        | false =>
          have hv := Lib.hid (hA.out (nodeB_bad2 d2))
          rw [d2] at I2
          replace I2 := Lib.hid I2
          clear d1 d2
          go_wp2_with fail
          refine (I1.out _).mono ?_
          rintro e w1 ⟨rfl, hg1⟩
          have hB1 := hB.trans hg1
          go_wp2_with fail
          refine (I2.out _).mono ?_
          rintro e w2 ⟨rfl, hg2⟩
          have hB2 := hB1.trans hg2
          go_wp2_with fail
          go_ret
          rw [hv.out]
          exact ⟨by simp, hB2⟩
        | true =>
          rw [d2] at I2
          replace I2 := Lib.hid I2
          cases d3 : (x != 0) with
          | false =>
            have hs := Lib.hid (hS.out (nodeB_ok d1 d2 (.inl d3)))
            clear d1 d2
            go_wp2_with fail
            refine (I1.out _).mono ?_
            rintro e w1 ⟨rfl, hg1⟩
            have hB1 := hB.trans hg1
            go_wp2_with fail
            refine (I2.out _).mono ?_
            rintro e w2 ⟨rfl, hg2⟩
            have hB2 := hB1.trans hg2
            go_wp2_with fail
            go_roundw
            case rel => exact ⟨j + 1, by omega, by go_num, hB2, hs⟩
            case measure => simp [intOf]; omega
          | true =>
            cases d4 : (y != 0) with
            | true =>
              have hv := Lib.hid (hA.out (nodeB_bad3 d3 d4))
              clear d1 d2
              go_wp2_with fail
              refine (I1.out _).mono ?_
              rintro e w1 ⟨rfl, hg1⟩
              have hB1 := hB.trans hg1
              go_wp2_with fail
              refine (I2.out _).mono ?_
              rintro e w2 ⟨rfl, hg2⟩
              have hB2 := hB1.trans hg2
              go_wp2_with fail
              go_ret
              rw [hv.out]
              exact ⟨by simp, hB2⟩
            | false =>
              have hs := Lib.hid (hS.out (nodeB_ok d1 d2 (.inr d4)))
              clear d1 d2
              go_wp2_with fail
              refine (I1.out _).mono ?_
              rintro e w1 ⟨rfl, hg1⟩
              have hB1 := hB.trans hg1
              go_wp2_with fail
              refine (I2.out _).mono ?_
              rintro e w2 ⟨rfl, hg2⟩
              have hB2 := hB1.trans hg2
              go_wp2_with fail
              go_roundw
              case rel => exact ⟨j + 1, by omega, by go_num, hB2, hs⟩
              case measure => simp [intOf]; omega
    · obtain rfl : j = n := by omega
      have hv := Lib.hid (HZ.out HJ.out)
      by_cases hz : 0 < j
      · have hz1 : decide (1 ≤ j) = true := by simp; omega
        go_wp2_with fail
        refine (HP.out _ hB).mono ?_
        rintro e w1 ⟨rfl, hg1⟩
        go_wp2_with fail
        go_ret
        rw [hv.out]
        exact ⟨by rw [hz1]; simp, hB.trans hg1⟩
      · have hz1 : decide (1 ≤ j) = false := by simp; omega
        go_wp2_with fail
        go_ret
        rw [hv.out, hz1]
        exact ⟨by simp, hB⟩

theorem l02Is_c (v : Value) (xs : List Nd) (w : World) (h : Nodes w v xs) (hn : xs.length ≤ 1099511627776) :
    Calls Tryz.prog 48 #[v] w fun e w' => e = .returned (.bool (fmB xs)) ∧ Grew w w' := by
  have HT := fun W (hW : Grew w W) => l02Tree_c v xs W (h.grew hW) hn
  obtain ⟨A, c, rfl⟩ := nodes_slice h
  clear h
  unfold fmB
  generalize pend xs 0 = p at *
  generalize anyP noNode xs = q at *
  generalize hL : xs.length = n at *
  clear hL
  by_cases h2 : n ≤ 40
  · rw [show decide (1 ≤ n ∧ n ≤ 40) = decide (1 ≤ n) from by simp [h2]]
    generalize (decide (1 ≤ n) && !q && (p == (n : Int))) = r at *
    replace HT := Lib.hid HT
    go_enter Tryz.func48, Tryz.ntmps48
    go_wp2_with fail
    refine (HT.out _ (Grew.refl _)).mono ?_
    rintro e w1 ⟨rfl, hg1⟩
    go_wp2_with fail
    go_ret
    exact ⟨rfl, hg1⟩
  · rw [show decide (1 ≤ n ∧ n ≤ 40) = false from by simp [h2], Bool.false_and, Bool.false_and]
    replace HT := Lib.hid HT
    go_enter Tryz.func48, Tryz.ntmps48
    go_wp2_with fail
    go_ret
    exact ⟨rfl, Grew.refl _⟩
end Go.Proofs.YtphljdhacbpkbaaGreat

/- A list of good nodes that a scan reads whole is the list of a formula's tree. No program is in sight. -/
namespace Go.Proofs.YtphljdhacbpkbaaGreat
open Go.RowKit
open Fm (Nd Tree)

theorem nodeB_cases {x : Nd} (h : nodeB x.1 x.2 = true) : (∃ v : Fin 6, x = (0, (v.val : Int))) ∨ x = (1, 0) ∨ x = (2, 0) ∨ x = (3, 0) ∨ x = (4, 0) ∨ x = (5, 0) ∨ x = (6, 0) := by
  obtain ⟨a, b⟩ := x
  unfold nodeB at h
  simp only at h
  split at h
  · rename_i h0
    have ha : a = 0 := by simpa using h0
    have hb := of_decide_eq_true h
    left
    refine ⟨⟨b.toNat, by omega⟩, ?_⟩
    rw [ha]
    congr 1
    simp; omega
  · simp only [Bool.and_eq_true, decide_eq_true_eq, beq_iff_eq] at h
    obtain ⟨⟨h1, h2⟩, rfl⟩ := h
    right
    obtain rfl | rfl | rfl | rfl | rfl | rfl : a = 1 ∨ a = 2 ∨ a = 3 ∨ a = 4 ∨ a = 5 ∨ a = 6 := by omega
    all_goals simp

theorem fm_trees : ∀ (xs : List Nd) (o n : Nat), Fm.scan xs o = some n → (∀ x ∈ xs, nodeB x.1 x.2 = true) → ∃ (ts : List Tree) (rest : List Nd), ts.length = o ∧ xs = ts.flatMap Fm.enc ++ rest ∧ n = (ts.flatMap Fm.enc).length := by
  intro xs
  induction xs with
  | nil =>
    intro o n h _
    cases o with
    | zero => simp [Fm.scan_zero] at h; exact ⟨[], [], rfl, rfl, by simp [h]⟩
    | succ o => simp [Fm.scan_nil] at h
  | cons x xs ih =>
    intro o n h hp
    cases o with
    | zero => simp [Fm.scan_zero] at h; exact ⟨[], x :: xs, rfl, by simp, by simp [h]⟩
    | succ o =>
      rw [Fm.scan_cons] at h
      cases hs : Fm.scan xs (o + Fm.arity x.1) with
      | none => rw [hs] at h; simp at h
      | some m =>
        rw [hs] at h
        simp only [Option.map_some, Option.some.injEq] at h
        obtain ⟨ts, rest, h1, h2, h3⟩ := ih _ _ hs (fun y hy => hp y (by simp [hy]))
        have two : ∀ (f : Tree → Tree → Tree), (∀ a b, Fm.enc (f a b) = x :: (Fm.enc a ++ Fm.enc b)) → Fm.arity x.1 = 2 → ∃ (ts : List Tree) (rest : List Nd), ts.length = o + 1 ∧ x :: xs = ts.flatMap Fm.enc ++ rest ∧ n = (ts.flatMap Fm.enc).length := by
          intro f hf ha
          rw [ha] at h1
          match ts, h1, h2, h3 with
          | a :: b :: ts, h1, h2, h3 =>
            refine ⟨f a b :: ts, rest, by simp at h1; simp [h1], by simp [hf, h2], ?_⟩
            rw [← h, h3]
            simp only [List.flatMap_cons, hf, List.length_append, List.length_cons]
            omega
          | [_], h1, _, _ => simp at h1
        have one : ∀ (f : Tree → Tree), (∀ a, Fm.enc (f a) = x :: Fm.enc a) → Fm.arity x.1 = 1 → ∃ (ts : List Tree) (rest : List Nd), ts.length = o + 1 ∧ x :: xs = ts.flatMap Fm.enc ++ rest ∧ n = (ts.flatMap Fm.enc).length := by
          intro f hf ha
          rw [ha] at h1
          match ts, h1, h2, h3 with
          | a :: ts, h1, h2, h3 =>
            refine ⟨f a :: ts, rest, by simp at h1; simp [h1], by simp [hf, h2], ?_⟩
            rw [← h, h3]
            simp only [List.flatMap_cons, hf, List.length_append, List.length_cons]
            omega
        have zero : ∀ (f : Tree), Fm.enc f = [x] → Fm.arity x.1 = 0 → ∃ (ts : List Tree) (rest : List Nd), ts.length = o + 1 ∧ x :: xs = ts.flatMap Fm.enc ++ rest ∧ n = (ts.flatMap Fm.enc).length := by
          intro f hf ha
          rw [ha] at h1
          refine ⟨f :: ts, rest, by simp [h1], by simp [hf, h2], ?_⟩
          rw [← h, h3]
          simp only [List.flatMap_cons, hf, List.length_append, List.length_cons, List.length_nil]
          omega
        rcases nodeB_cases (hp x (by simp)) with ⟨v, rfl⟩ | rfl | rfl | rfl | rfl | rfl | rfl
        · exact zero (.var v) rfl rfl
        · exact zero .fls rfl rfl
        · exact two .and (fun _ _ => rfl) rfl
        · exact two .or (fun _ _ => rfl) rfl
        · exact two .imp (fun _ _ => rfl) rfl
        · exact one .box (fun _ => rfl) rfl
        · exact one .dia (fun _ => rfl) rfl

/-- A list that is a formula's is the list of a tree. -/
theorem fmB_tree {xs : List Nd} (h : fmB xs = true) : ∃ t, xs = Fm.enc t ∧ xs.length ≤ 40 := by
  unfold fmB at h
  simp only [Bool.and_eq_true, decide_eq_true_eq, Bool.not_eq_true', beq_iff_eq] at h
  obtain ⟨⟨⟨h1, h2⟩, h3⟩, h4⟩ := h
  have hall : ∀ x ∈ xs, nodeB x.1 x.2 = true := by
    intro x hx
    obtain ⟨i, hi, rfl⟩ := List.getElem_of_mem hx
    cases hb : nodeB (xs[i]).1 (xs[i]).2 with
    | true => rfl
    | false =>
      rw [kd_lt hi] at hb
      have := anyP_at (p := noNode) hi (by rw [noNode, hb]; rfl)
      rw [this] at h3
      cases h3
  have hs : Fm.scan xs 1 = some xs.length := by
    unfold pend at h4
    rw [List.drop_zero] at h4
    cases hz : Fm.scan xs 1 with
    | none => rw [hz] at h4; simp only [pval] at h4; omega
    | some n => rw [hz] at h4; simp only [pval] at h4; congr 1; omega
  obtain ⟨ts, rest, e1, e2, e3⟩ := fm_trees xs 1 _ hs hall
  match ts, e1 with
  | [t], _ =>
    refine ⟨t, ?_, h2⟩
    have hl := congrArg List.length e2
    rw [List.length_append] at hl
    have : rest = [] := List.eq_nil_of_length_eq_zero (by omega)
    rw [this] at e2
    simpa using e2
end Go.Proofs.YtphljdhacbpkbaaGreat

/- FnMonotone: ForcedSet of both sides, UpsetOf, UpsetsOf, MembersOf, PartOfValuation (printed by gen/mna.py). -/
namespace Go.Proofs.YtphljdhacbpkbaaGreat
open Go.RowKit
open Fm (Nd Tree)

/-- The error of a poset, a valuation and a formula. -/
noncomputable def fcF (sz : Int) (L V : List Int) (xs : List Nd) : Int := if valB sz L V && fmB xs then (if anyP isBD xs then 5 else 0) else 1
/-- The value of a formula, or 0. -/
noncomputable def fsF (sz : Int) (L V : List Int) (xs : List Nd) : Int :=
  @dite _ (fcF sz L V xs = 0 ∧ ∃ t, xs = Fm.enc t) (Classical.propDecidable _) (fun h => ((fv (nats L) (nats V) (Classical.choose h.2) : Nat) : Int)) (fun _ => 0)
theorem fc_zero {sz : Int} {L V : List Int} {xs : List Nd} (h : fcF sz L V xs = 0) : valB sz L V = true ∧ ∃ t, xs = Fm.enc t ∧ FmOk t := by
  unfold fcF at h
  split at h
  · rename_i hq
    simp only [Bool.and_eq_true] at hq
    split at h
    · cases h
    · rename_i hp
      obtain ⟨t, h1, h2⟩ := fmB_tree hq.2
      exact ⟨hq.1, t, h1, by rw [← h1]; exact h2, by rw [← h1]; simpa using hp⟩
  · cases h
theorem fmB_enc0 {t : Tree} (h : FmOk t) : fmB (Fm.enc t) = true := by
  have hp := Fm.enc_pos t
  unfold fmB
  rw [enc_noNode, decide_eq_true ⟨hp, h.1⟩]
  have e : pend (Fm.enc t) 0 = ((Fm.enc t).length : Int) := by
    unfold pend
    rw [List.drop_zero]
    have := Fm.scan_one t []
    rw [List.append_nil] at this
    rw [this]
    simp [pval]
  rw [e]
  simp
theorem fs_ok {sz : Int} {L V : List Int} {t : Tree} (hv : valB sz L V = true) (ht : FmOk t) : fsF sz L V (Fm.enc t) = ((fv (nats L) (nats V) t : Nat) : Int) := by
  have h0 : fcF sz L V (Fm.enc t) = 0 := by
    unfold fcF
    rw [hv, fmB_enc0 ht, ht.2]
    rfl
  unfold fsF
  rw [dif_pos ⟨h0, t, rfl⟩]
  have h : ∃ s, Fm.enc t = Fm.enc s := ⟨t, rfl⟩
  have e : Classical.choose h = t := enc_inj (Classical.choose_spec h).symm
  show ((fv (nats L) (nats V) (Classical.choose h) : Nat) : Int) = _
  rw [e]
theorem fs_bad {sz : Int} {L V : List Int} {xs : List Nd} (h : ¬ fcF sz L V xs = 0) : fsF sz L V xs = 0 := by
  unfold fsF
  rw [dif_neg (fun k => h k.1)]
theorem mn_val {sz : Int} {L V : List Int} (h : valB sz L V = true) : sz = (L.length : Int) ∧ zs (nats L) = L ∧ Rl (nats L) ∧ zs (nats V) = V ∧ (nats V).length = 6 ∧ ∀ m ∈ nats V, m < 2 ^ (nats L).length := by
  obtain ⟨h1, h2, h3⟩ := val_ok h
  obtain ⟨rfl, h5, h6, h7, h8, _⟩ := posB_ok h1
  have hm := all_mks h3
  have hV := nats_ok hm
  exact ⟨rfl, h7, h6, hV.1, by rw [nats_len]; exact h2, hV.2⟩
theorem forcingCode_c (sz : Int) (v u va : Value) (L V : List Int) (xs : List Nd) (w : World) (h : Ints w v L) (hu : Ints w u V) (ha : Nodes w va xs) (hn : xs.length ≤ 1048576) :
    Calls Tryz.prog 21 #[.agg #[.int .i64 sz, v], u, va] w fun e w' => e = .returned (.int .i64 (fcF sz L V xs)) ∧ Grew w w' := by
  have hal := (Grew.refl w).alloc (.cells #[.int .i64 sz, v] 26)
  have y0 : ∀ W, Grew (w.alloc (.cells #[.int .i64 sz, v] 26)) W → W.cell? ⟨w.heap.size, 0, none⟩ = some (.int .i64 sz) := fun W hW => (hW.cell (p := ⟨w.heap.size, 0, none⟩) (by simp)).trans (by simp)
  have y1 : ∀ W, Grew (w.alloc (.cells #[.int .i64 sz, v] 26)) W → W.cell? ⟨w.heap.size, 1, none⟩ = some v := fun W hW => (hW.cell (p := ⟨w.heap.size, 1, none⟩) (by simp)).trans (by simp)
  have r1 := Grew.refl (w.alloc (.cells #[.int .i64 sz, v] 26))
  have HG := Lib.hid hal
  have KV := fun W (hW : Grew w W) => isValuation_c sz v u L V W (h.grew hW) (hu.grew hW)
  have KF := fun W (hW : Grew w W) => isFormula_g va xs W (ha.grew hW) (by omega)
  have KP := fun W (hW : Grew w W) => isPlain_c va xs W (ha.grew hW) (by omega)
  unfold fcF
  obtain ⟨A, c, rfl⟩ := ints_slice h
  obtain ⟨A2, c2, rfl⟩ := ints_slice hu
  obtain ⟨A3, c3, rfl⟩ := nodes_slice ha
  clear h hu ha hal hn
  generalize L.length = n1 at *
  generalize V.length = n2 at *
  generalize xs.length = n3 at *
  generalize valB sz L V = q1 at *
  generalize fmB xs = q2 at *
  generalize anyP isBD xs = q3 at *
  cases q1 with
  | false =>
    replace KV := Lib.hid KV
    clear KF KP
    go_enter Tryz.func21, Tryz.ntmps21
    go_wp2_with fail
    refine (KV.out _ (HG.out)).mono ?_
    rintro e w0 ⟨rfl, hg0⟩
    go_wp2_with fail
    go_ret
    exact ⟨rfl, (HG.out).trans hg0⟩
  | true =>
    replace KV := Lib.hid KV
    cases q2 with
    | false =>
      replace KF := Lib.hid KF
      clear KP
      go_enter Tryz.func21, Tryz.ntmps21
      go_wp2_with fail
      refine (KV.out _ (HG.out)).mono ?_
      rintro e w0 ⟨rfl, hg0⟩
      go_wp2_with fail
      refine (KF.out _ ((HG.out).trans hg0)).mono ?_
      rintro e w1 ⟨rfl, hg1⟩
      have hy1 := (hg0).trans hg1
      go_wp2_with fail
      go_ret
      exact ⟨rfl, ((HG.out).trans hg0).trans hg1⟩
    | true =>
      replace KF := Lib.hid KF
      cases q3 with
      | false =>
        replace KP := Lib.hid KP
        go_enter Tryz.func21, Tryz.ntmps21
        go_wp2_with fail
        refine (KV.out _ (HG.out)).mono ?_
        rintro e w0 ⟨rfl, hg0⟩
        go_wp2_with fail
        refine (KF.out _ ((HG.out).trans hg0)).mono ?_
        rintro e w1 ⟨rfl, hg1⟩
        have hy1 := (hg0).trans hg1
        go_wp2_with fail
        refine (KP.out _ (((HG.out).trans hg0).trans hg1)).mono ?_
        rintro e w2 ⟨rfl, hg2⟩
        have hy2 := (hy1).trans hg2
        go_wp2_with fail
        go_ret
        exact ⟨rfl, (((HG.out).trans hg0).trans hg1).trans hg2⟩
      | true =>
        replace KP := Lib.hid KP
        go_enter Tryz.func21, Tryz.ntmps21
        go_wp2_with fail
        refine (KV.out _ (HG.out)).mono ?_
        rintro e w0 ⟨rfl, hg0⟩
        go_wp2_with fail
        refine (KF.out _ ((HG.out).trans hg0)).mono ?_
        rintro e w1 ⟨rfl, hg1⟩
        have hy1 := (hg0).trans hg1
        go_wp2_with fail
        refine (KP.out _ (((HG.out).trans hg0).trans hg1)).mono ?_
        rintro e w2 ⟨rfl, hg2⟩
        have hy2 := (hy1).trans hg2
        go_wp2_with fail
        go_ret
        exact ⟨rfl, (((HG.out).trans hg0).trans hg1).trans hg2⟩
theorem l17Code_c (sz : Int) (v u va : Value) (L V : List Int) (xs : List Nd) (w : World) (h : Ints w v L) (hu : Ints w u V) (ha : Nodes w va xs) (hn : xs.length ≤ 1048576) :
    Calls Tryz.prog 23 #[.agg #[.int .i64 sz, v], u, va] w fun e w' => e = .returned (.int .i64 (fcF sz L V xs)) ∧ Grew w w' := by
  have hal := (Grew.refl w).alloc (.cells #[.int .i64 sz, v] 26)
  have y0 : ∀ W, Grew (w.alloc (.cells #[.int .i64 sz, v] 26)) W → W.cell? ⟨w.heap.size, 0, none⟩ = some (.int .i64 sz) := fun W hW => (hW.cell (p := ⟨w.heap.size, 0, none⟩) (by simp)).trans (by simp)
  have y1 : ∀ W, Grew (w.alloc (.cells #[.int .i64 sz, v] 26)) W → W.cell? ⟨w.heap.size, 1, none⟩ = some v := fun W hW => (hW.cell (p := ⟨w.heap.size, 1, none⟩) (by simp)).trans (by simp)
  have r1 := Grew.refl (w.alloc (.cells #[.int .i64 sz, v] 26))
  have HG := Lib.hid hal
  have KV := fun W (hW : Grew w W) => isVal_c sz v u L V W (h.grew hW) (hu.grew hW)
  have KF := fun W (hW : Grew w W) => l02Is_c va xs W (ha.grew hW) (by omega)
  have KP := fun W (hW : Grew w W) => l02Plain_c va xs W (ha.grew hW) (by omega)
  unfold fcF
  obtain ⟨A, c, rfl⟩ := ints_slice h
  obtain ⟨A2, c2, rfl⟩ := ints_slice hu
  obtain ⟨A3, c3, rfl⟩ := nodes_slice ha
  clear h hu ha hal hn
  generalize L.length = n1 at *
  generalize V.length = n2 at *
  generalize xs.length = n3 at *
  generalize valB sz L V = q1 at *
  generalize fmB xs = q2 at *
  generalize anyP isBD xs = q3 at *
  cases q1 with
  | false =>
    replace KV := Lib.hid KV
    clear KF KP
    go_enter Tryz.func23, Tryz.ntmps23
    go_wp2_with fail
    refine (KV.out _ (HG.out)).mono ?_
    rintro e w0 ⟨rfl, hg0⟩
    go_wp2_with fail
    go_ret
    exact ⟨rfl, (HG.out).trans hg0⟩
  | true =>
    replace KV := Lib.hid KV
    cases q2 with
    | false =>
      replace KF := Lib.hid KF
      clear KP
      go_enter Tryz.func23, Tryz.ntmps23
      go_wp2_with fail
      refine (KV.out _ (HG.out)).mono ?_
      rintro e w0 ⟨rfl, hg0⟩
      go_wp2_with fail
      refine (KF.out _ ((HG.out).trans hg0)).mono ?_
      rintro e w1 ⟨rfl, hg1⟩
      have hy1 := (hg0).trans hg1
      go_wp2_with fail
      go_ret
      exact ⟨rfl, ((HG.out).trans hg0).trans hg1⟩
    | true =>
      replace KF := Lib.hid KF
      cases q3 with
      | false =>
        replace KP := Lib.hid KP
        go_enter Tryz.func23, Tryz.ntmps23
        go_wp2_with fail
        refine (KV.out _ (HG.out)).mono ?_
        rintro e w0 ⟨rfl, hg0⟩
        go_wp2_with fail
        refine (KF.out _ ((HG.out).trans hg0)).mono ?_
        rintro e w1 ⟨rfl, hg1⟩
        have hy1 := (hg0).trans hg1
        go_wp2_with fail
        refine (KP.out _ (((HG.out).trans hg0).trans hg1)).mono ?_
        rintro e w2 ⟨rfl, hg2⟩
        have hy2 := (hy1).trans hg2
        go_wp2_with fail
        go_ret
        exact ⟨rfl, (((HG.out).trans hg0).trans hg1).trans hg2⟩
      | true =>
        replace KP := Lib.hid KP
        go_enter Tryz.func23, Tryz.ntmps23
        go_wp2_with fail
        refine (KV.out _ (HG.out)).mono ?_
        rintro e w0 ⟨rfl, hg0⟩
        go_wp2_with fail
        refine (KF.out _ ((HG.out).trans hg0)).mono ?_
        rintro e w1 ⟨rfl, hg1⟩
        have hy1 := (hg0).trans hg1
        go_wp2_with fail
        refine (KP.out _ (((HG.out).trans hg0).trans hg1)).mono ?_
        rintro e w2 ⟨rfl, hg2⟩
        have hy2 := (hy1).trans hg2
        go_wp2_with fail
        go_ret
        exact ⟨rfl, (((HG.out).trans hg0).trans hg1).trans hg2⟩
theorem implFs_c (sz : Int) (v u va : Value) (L V : List Int) (xs : List Nd) (w : World) (h : Ints w v L) (hu : Ints w u V) (ha : Nodes w va xs) (hn : xs.length ≤ 1048576) :
    Calls Tryz.prog 6 #[.agg #[.int .i64 sz, v], u, va] w fun e w' => e = .returned (.tuple #[.int .i64 (fsF sz L V xs), .int .i64 (fcF sz L V xs)]) ∧ Grew w w' := by
  have hal := (Grew.refl w).alloc (.cells #[.int .i64 sz, v] 26)
  have y0 : ∀ W, Grew (w.alloc (.cells #[.int .i64 sz, v] 26)) W → W.cell? ⟨w.heap.size, 0, none⟩ = some (.int .i64 sz) := fun W hW => (hW.cell (p := ⟨w.heap.size, 0, none⟩) (by simp)).trans (by simp)
  have y1 : ∀ W, Grew (w.alloc (.cells #[.int .i64 sz, v] 26)) W → W.cell? ⟨w.heap.size, 1, none⟩ = some v := fun W hW => (hW.cell (p := ⟨w.heap.size, 1, none⟩) (by simp)).trans (by simp)
  have r1 := Grew.refl (w.alloc (.cells #[.int .i64 sz, v] 26))
  have HG := Lib.hid hal
  have KC := Lib.hid (fun W (hW : Grew w W) => forcingCode_c sz v u va L V xs W (h.grew hW) (hu.grew hW) (ha.grew hW) hn)
  by_cases hc : fcF sz L V xs = 0
  · obtain ⟨hv, t, rfl, ht⟩ := fc_zero hc
    rw [fs_ok hv ht, hc]
    rw [hc] at KC
    obtain ⟨h1, h2, h3, h4, h5, h6⟩ := mn_val hv
    have KF := Lib.hid (fun W (hW : Grew w W) => forced_c v u va (nats L) (nats V) t W (by rw [h2]; exact h.grew hW) (by rw [h4]; exact hu.grew hW) (ha.grew hW) h3 h6 h5 ht)
    rw [nats_len, ← h1] at KF
    obtain ⟨A, c, rfl⟩ := ints_slice h
    obtain ⟨A2, c2, rfl⟩ := ints_slice hu
    obtain ⟨A3, c3, rfl⟩ := nodes_slice ha
    clear h hu ha hal hn hv ht h1 h2 h3 h4 h5 h6 hc
    generalize fv (nats L) (nats V) t = r at *
    generalize L.length = n1 at *
    generalize V.length = n2 at *
    go_enter Tryz.func6, Tryz.ntmps6
    go_wp2_with fail
    refine (KC.out _ HG.out).mono ?_
    rintro e w1 ⟨rfl, hg1⟩
    go_wp2_with fail
    refine (KF.out _ (HG.out.trans hg1)).mono ?_
    rintro e w2 ⟨rfl, hg2⟩
    go_wp2_with fail
    go_ret2
    exact ⟨rfl, (HG.out.trans hg1).trans hg2⟩
  · rw [fs_bad hc]
    obtain ⟨A, c, rfl⟩ := ints_slice h
    obtain ⟨A2, c2, rfl⟩ := ints_slice hu
    obtain ⟨A3, c3, rfl⟩ := nodes_slice ha
    generalize fcF sz L V xs = k at *
    clear h hu ha hal hn
    generalize L.length = n1 at *
    generalize V.length = n2 at *
    generalize xs.length = n3 at *
    go_enter Tryz.func6, Tryz.ntmps6
    go_wp2_with fail
    refine (KC.out _ HG.out).mono ?_
    rintro e w1 ⟨rfl, hg1⟩
    go_wp2_with fail
    go_ret2
    exact ⟨rfl, HG.out.trans hg1⟩
theorem specFs_c (sz : Int) (v u va : Value) (L V : List Int) (xs : List Nd) (w : World) (h : Ints w v L) (hu : Ints w u V) (ha : Nodes w va xs) (hn : xs.length ≤ 1048576) :
    Calls Tryz.prog 7 #[.agg #[.int .i64 sz, v], u, va] w fun e w' => e = .returned (.tuple #[.int .i64 (fsF sz L V xs), .int .i64 (fcF sz L V xs)]) ∧ Grew w w' := by
  have hal := (Grew.refl w).alloc (.cells #[.int .i64 sz, v] 26)
  have y0 : ∀ W, Grew (w.alloc (.cells #[.int .i64 sz, v] 26)) W → W.cell? ⟨w.heap.size, 0, none⟩ = some (.int .i64 sz) := fun W hW => (hW.cell (p := ⟨w.heap.size, 0, none⟩) (by simp)).trans (by simp)
  have y1 : ∀ W, Grew (w.alloc (.cells #[.int .i64 sz, v] 26)) W → W.cell? ⟨w.heap.size, 1, none⟩ = some v := fun W hW => (hW.cell (p := ⟨w.heap.size, 1, none⟩) (by simp)).trans (by simp)
  have r1 := Grew.refl (w.alloc (.cells #[.int .i64 sz, v] 26))
  have HG := Lib.hid hal
  have KC := Lib.hid (fun W (hW : Grew w W) => l17Code_c sz v u va L V xs W (h.grew hW) (hu.grew hW) (ha.grew hW) hn)
  by_cases hc : fcF sz L V xs = 0
  · obtain ⟨hv, t, rfl, ht⟩ := fc_zero hc
    rw [fs_ok hv ht, hc]
    rw [hc] at KC
    obtain ⟨h1, h2, h3, h4, h5, h6⟩ := mn_val hv
    have KF := Lib.hid (fun W (hW : Grew w W) => force_ok (nats L) (nats V) h3 h6 h5 t v u va W (by rw [h2]; exact h.grew hW) (by rw [h4]; exact hu.grew hW) (ha.grew hW) ht)
    rw [nats_len, ← h1] at KF
    obtain ⟨A, c, rfl⟩ := ints_slice h
    obtain ⟨A2, c2, rfl⟩ := ints_slice hu
    obtain ⟨A3, c3, rfl⟩ := nodes_slice ha
    clear h hu ha hal hn hv ht h1 h2 h3 h4 h5 h6 hc
    generalize fv (nats L) (nats V) t = r at *
    generalize L.length = n1 at *
    generalize V.length = n2 at *
    go_enter Tryz.func7, Tryz.ntmps7
    go_wp2_with fail
    refine (KC.out _ HG.out).mono ?_
    rintro e w1 ⟨rfl, hg1⟩
    go_wp2_with fail
    refine (KF.out _ (HG.out.trans hg1)).mono ?_
    rintro e w2 ⟨rfl, hg2⟩
    go_wp2_with fail
    go_ret2
    exact ⟨rfl, (HG.out.trans hg1).trans hg2⟩
  · rw [fs_bad hc]
    obtain ⟨A, c, rfl⟩ := ints_slice h
    obtain ⟨A2, c2, rfl⟩ := ints_slice hu
    obtain ⟨A3, c3, rfl⟩ := nodes_slice ha
    generalize fcF sz L V xs = k at *
    clear h hu ha hal hn
    generalize L.length = n1 at *
    generalize V.length = n2 at *
    generalize xs.length = n3 at *
    go_enter Tryz.func7, Tryz.ntmps7
    go_wp2_with fail
    refine (KC.out _ HG.out).mono ?_
    rintro e w1 ⟨rfl, hg1⟩
    go_wp2_with fail
    go_ret2
    exact ⟨rfl, HG.out.trans hg1⟩
end Go.Proofs.YtphljdhacbpkbaaGreat

/- FnMonotone: the upsets of a poset (upsets, UpsetsOf, UpsetOf, posetCode, maskCode, MembersOf, hasInt). -/
namespace Go.Proofs.YtphljdhacbpkbaaGreat
open Go.RowKit
open Fm (Nd Tree)

/-- The upsets below k. -/
def upK (A : List Nat) (k : Nat) : List Nat := (List.range k).filter fun m => upB A (m : Int)
theorem upK_yes {A : List Nat} {k : Nat} (h : upB A (k : Int) = true) : upK A (k + 1) = upK A k ++ [k] := by
  unfold upK; rw [List.range_succ, List.filter_append]; simp [h]
theorem upK_no {A : List Nat} {k : Nat} (h : upB A (k : Int) = false) : upK A (k + 1) = upK A k := by
  unfold upK; rw [List.range_succ, List.filter_append]; simp [h]
theorem upK_len (A : List Nat) (k : Nat) : (upK A k).length ≤ k := by
  have := List.length_filter_le (fun m => upB A ((m : Nat) : Int)) (List.range k)
  rw [List.length_range] at this
  exact this
theorem upK_mem {A : List Nat} {k m : Nat} (h : m ∈ upK A k) : m < k ∧ upB A (m : Int) = true := by
  unfold upK at h
  rw [List.mem_filter, List.mem_range] at h
  exact h
theorem mk_yes {n m : Nat} (h : m < 2 ^ n) : mk n (m : Int) = true := by
  unfold mk
  rw [decide_eq_true_eq]
  omega
theorem zs_snoc (L : List Nat) (k : Nat) : zs (L ++ [k]) = zs L ++ [(k : Int)] := by simp [zs]

theorem upsets_c (v : Value) (A : List Nat) (w : World) (h : Ints w v (zs A)) (hA : Rl A) (h8 : A.length ≤ 8) :
    Calls Tryz.prog 28 #[.agg #[.int .i64 (A.length : Int), v]] w (GivesI w (zs (upK A (2 ^ A.length)))) := by
  have hal := (Grew.refl w).alloc (.cells #[.int .i64 (A.length : Int), v] 26)
  have y0 : ∀ W, Grew (w.alloc (.cells #[.int .i64 (A.length : Int), v] 26)) W → W.cell? ⟨w.heap.size, 0, none⟩ = some (.int .i64 (A.length : Int)) := fun W hW => (hW.cell (p := ⟨w.heap.size, 0, none⟩) (by simp)).trans (by simp)
  have y1 : ∀ W, Grew (w.alloc (.cells #[.int .i64 (A.length : Int), v] 26)) W → W.cell? ⟨w.heap.size, 1, none⟩ = some v := fun W hW => (hW.cell (p := ⟨w.heap.size, 1, none⟩) (by simp)).trans (by simp)
  have HG := Lib.hid hal
  have KA := Lib.hid (fun W => posAll_c A.length v W (by obtain ⟨A', c, h⟩ := ints_sliceN h; exact ⟨_, _, _, h⟩) hA.1)
  have KU := Lib.hid (fun k W (hW : Grew w W) => isUpset_c v A (k : Int) W (h.grew hW) hA)
  have hp : 0 < 2 ^ A.length := Nat.pow_pos (by omega)
  have hp2 : 2 ^ A.length ≤ 256 := Nat.le_trans (Nat.pow_le_pow_right (by omega) h8) (by decide)
  have hfull : full A.length = 2 ^ A.length - 1 := rfl
  have HY := Lib.hid (fun (k : Nat) (hk : upB A (k : Int) = true) => (congrArg zs (upK_yes (A := A) (k := k) hk)).trans (zs_snoc _ _))
  have HN := Lib.hid (fun (k : Nat) (hk : upB A (k : Int) = false) => congrArg zs (upK_no (A := A) (k := k) hk))
  have HL := Lib.hid (fun k => Nat.le_trans (Nat.le_of_eq (zs_len (upK A k))) (upK_len A k))
  obtain ⟨A', c, rfl⟩ := ints_sliceN h
  have r1 := Grew.refl (w.alloc (.cells #[.int .i64 (A.length : Int), .slice A' A.length c] 26))
  rw [hfull] at KA
  clear h hA hal hfull
  generalize A.length = n at *
  have hpz : ((2 ^ n - 1 : Nat) : Int) + 1 = ((2 ^ n : Nat) : Int) := by omega
  generalize hP : 2 ^ n = P at *
  generalize hQ : P - 1 = Q at *
  have hq1 : Q ≤ 255 := by omega
  clear hP
  go_enter Tryz.func28, Tryz.ntmps28
  go_wp2_with fail
  refine (KA.out _).mono ?_
  rintro e w1 ⟨rfl, hg1⟩
  go_wp2_with fail
  go_loopw [3, 8] (fun s i wr => ∃ j : Nat, j ≤ P ∧ i = .int .i64 j ∧ Grew (w.alloc (.cells #[.int .i64 (n : Int), .slice A' n c] 26)) wr ∧ OwnI wr (w.alloc (.cells #[.int .i64 (n : Int), .slice A' n c] 26)).heap.size s (zs (upK A j))) (fun _ i _ => P - (intOf i).toNat)
  case atStart => exact ⟨0, by omega, rfl, hg1, OwnI.nil_ _ _⟩
  case round =>
    obtain ⟨j, hj, rfl, hB, hO⟩ := hrel
    have hBw := HG.out.trans hB
    by_cases hlt : j < P
    · have hl := HL.out j
      have hC := Lib.hid (KU.out j)
      have hY := Lib.hid (HY.out j)
      have hN := Lib.hid (HN.out j)
      generalize upB A (j : Int) = b at *
      go_wp2_with fail
      refine (hC.out _ hBw).mono ?_
      rintro e w2 ⟨rfl, hg2⟩
      have hB2 := hB.trans hg2
      have hO2 := hO.grew hg2
      have hBw2 := hBw.trans hg2
      cases b with
      | true =>
        have hy := hY.out rfl
        go_wp2_with (first | (at_builtin; refine wpList_appI (w0 := (w.alloc (.cells #[.int .i64 (n : Int), .slice A' n c] 26))) _ _ rfl rfl _ (zs (upK A j)) rfl (hO2.grew (Grew.alloc (Grew.refl _) _)) (hB2.alloc _) _ (j : Int) rfl (rd_litI _ _ _) (by omega) ?_; intro v3 w3 hO3 hg3 _))
        go_roundw
        case rel => exact ⟨j + 1, by omega, by go_num, hg3, by rw [hy]; exact hO3⟩
        case measure => simp [intOf]; omega
      | false =>
        have hn := hN.out rfl
        go_wp2_with fail
        go_roundw
        case rel => exact ⟨j + 1, by omega, by go_num, hB2, by rw [hn]; exact hO2⟩
        case measure => simp [intOf]; omega
    · obtain rfl : j = P := by omega
      go_wp2_with fail
      go_ret
      exact ⟨_, rfl, hO.base HG.out.size, hBw⟩

theorem upsetsOf_c (v : Value) (L : List Int) (w : World) (h : Ints w v L) (hp : posB (L.length : Int) L = true) :
    Calls Tryz.prog 9 #[.agg #[.int .i64 (L.length : Int), v]] w fun e w' => ∃ u, e = .returned (.tuple #[u, .int .i64 0]) ∧ OwnI w' w.heap.size u (zs (upK (nats L) (2 ^ L.length))) ∧ Grew w w' := by
  have hal := (Grew.refl w).alloc (.cells #[.int .i64 (L.length : Int), v] 26)
  have y0 : ∀ W, Grew (w.alloc (.cells #[.int .i64 (L.length : Int), v] 26)) W → W.cell? ⟨w.heap.size, 0, none⟩ = some (.int .i64 (L.length : Int)) := fun W hW => (hW.cell (p := ⟨w.heap.size, 0, none⟩) (by simp)).trans (by simp)
  have y1 : ∀ W, Grew (w.alloc (.cells #[.int .i64 (L.length : Int), v] 26)) W → W.cell? ⟨w.heap.size, 1, none⟩ = some v := fun W hW => (hW.cell (p := ⟨w.heap.size, 1, none⟩) (by simp)).trans (by simp)
  have r1 := Grew.refl (w.alloc (.cells #[.int .i64 (L.length : Int), v] 26))
  have HG := Lib.hid hal
  have KP := Lib.hid (fun W (hW : Grew w W) => isPoset_c (L.length : Int) v L W (h.grew hW))
  rw [hp] at KP
  obtain ⟨_, h8, hA, hz, _⟩ := posB_ok hp
  have KU := Lib.hid (fun W (hW : Grew w W) => upsets_c v (nats L) W (by rw [hz]; exact h.grew hW) hA (by rw [nats_len]; omega))
  rw [nats_len] at KU
  obtain ⟨A', c, rfl⟩ := ints_slice h
  clear h hal hp hA hz
  generalize zs (upK (nats L) (2 ^ L.length)) = R at *
  generalize L.length = n at *
  go_enter Tryz.func9, Tryz.ntmps9
  go_wp2_with fail
  refine (KP.out _ HG.out).mono ?_
  rintro e w1 ⟨rfl, hg1⟩
  go_wp2_with fail
  refine (KU.out _ (HG.out.trans hg1)).mono ?_
  rintro e w2 ⟨u, rfl, hO, hg2⟩
  obtain ⟨A2, c2, rfl⟩ := ints_slice hO.ints
  go_wp2_with fail
  go_ret2
  exact ⟨_, rfl, hO.base (HG.out.trans hg1).size, (HG.out.trans hg1).trans hg2⟩

theorem posetCode_yes (v : Value) (L : List Int) (m : Nat) (w : World) (h : Ints w v L) (hp : posB (L.length : Int) L = true) (hm : m < 2 ^ L.length) :
    Calls Tryz.prog 25 #[.agg #[.int .i64 (L.length : Int), v], .int .i64 (m : Int)] w fun e w' => e = .returned (.int .i64 0) ∧ Grew w w' := by
  have hal := (Grew.refl w).alloc (.cells #[.int .i64 (L.length : Int), v] 26)
  have y0 : ∀ W, Grew (w.alloc (.cells #[.int .i64 (L.length : Int), v] 26)) W → W.cell? ⟨w.heap.size, 0, none⟩ = some (.int .i64 (L.length : Int)) := fun W hW => (hW.cell (p := ⟨w.heap.size, 0, none⟩) (by simp)).trans (by simp)
  have y1 : ∀ W, Grew (w.alloc (.cells #[.int .i64 (L.length : Int), v] 26)) W → W.cell? ⟨w.heap.size, 1, none⟩ = some v := fun W hW => (hW.cell (p := ⟨w.heap.size, 1, none⟩) (by simp)).trans (by simp)
  have r1 := Grew.refl (w.alloc (.cells #[.int .i64 (L.length : Int), v] 26))
  have HG := Lib.hid hal
  have KP := Lib.hid (fun W (hW : Grew w W) => isPoset_c (L.length : Int) v L W (h.grew hW))
  rw [hp] at KP
  obtain ⟨_, h8, _⟩ := posB_ok hp
  have KM := Lib.hid (fun W => isMask_c L.length (m : Int) (by omega) W)
  rw [mk_yes hm] at KM
  obtain ⟨A', c, rfl⟩ := ints_slice h
  clear h hal hp hm
  generalize L.length = n at *
  go_enter Tryz.func25, Tryz.ntmps25
  go_wp2_with fail
  refine (KP.out _ HG.out).mono ?_
  rintro e w1 ⟨rfl, hg1⟩
  go_wp2_with fail
  refine (KM.out _).mono ?_
  rintro e w2 ⟨rfl, hg2⟩
  go_wp2_with fail
  go_ret
  exact ⟨rfl, (HG.out.trans hg1).trans hg2⟩

theorem upsetOf_c (v : Value) (L : List Int) (m : Nat) (w : World) (h : Ints w v L) (hp : posB (L.length : Int) L = true) (hm : m < 2 ^ L.length) :
    Calls Tryz.prog 8 #[.agg #[.int .i64 (L.length : Int), v], .int .i64 (m : Int)] w fun e w' => e = .returned (.tuple #[.int .i64 ((img (nats L) m : Nat) : Int), .int .i64 0]) ∧ Grew w w' := by
  have hal := (Grew.refl w).alloc (.cells #[.int .i64 (L.length : Int), v] 26)
  have y0 : ∀ W, Grew (w.alloc (.cells #[.int .i64 (L.length : Int), v] 26)) W → W.cell? ⟨w.heap.size, 0, none⟩ = some (.int .i64 (L.length : Int)) := fun W hW => (hW.cell (p := ⟨w.heap.size, 0, none⟩) (by simp)).trans (by simp)
  have y1 : ∀ W, Grew (w.alloc (.cells #[.int .i64 (L.length : Int), v] 26)) W → W.cell? ⟨w.heap.size, 1, none⟩ = some v := fun W hW => (hW.cell (p := ⟨w.heap.size, 1, none⟩) (by simp)).trans (by simp)
  have r1 := Grew.refl (w.alloc (.cells #[.int .i64 (L.length : Int), v] 26))
  have HG := Lib.hid hal
  have KP := Lib.hid (fun W (hW : Grew w W) => posetCode_yes v L m W (h.grew hW) hp hm)
  obtain ⟨_, h8, hA, hz, _⟩ := posB_ok hp
  have KI := Lib.hid (fun W (hW : Grew w W) => image_c v (nats L) m W (by rw [hz]; exact h.grew hW) hA.sm hA.1 (by rw [nats_len]; exact hm))
  obtain ⟨A', c, rfl⟩ := ints_slice h
  clear h hal hp hA hz hm
  generalize img (nats L) m = r at *
  generalize L.length = n at *
  go_enter Tryz.func8, Tryz.ntmps8
  go_wp2_with fail
  refine (KP.out _ HG.out).mono ?_
  rintro e w1 ⟨rfl, hg1⟩
  go_wp2_with fail
  refine (KI.out _ (HG.out.trans hg1)).mono ?_
  rintro e w2 ⟨rfl, hg2⟩
  go_wp2_with fail
  go_ret2
  exact ⟨rfl, (HG.out.trans hg1).trans hg2⟩

theorem maskCode_yes (n m : Nat) (hn : n ≤ 30) (hm : m < 2 ^ n) (w : World) :
    Calls Tryz.prog 36 #[.int .i64 (n : Int), .int .i64 (m : Int)] w fun e w' => e = .returned (.int .i64 0) ∧ Grew w w' := by
  have KR := Lib.hid (fun W => inRange_c (n : Int) 0 30 W)
  rw [decide_eq_true (show (0 : Int) ≤ (n : Int) ∧ (n : Int) ≤ 30 by omega)] at KR
  have KM := Lib.hid (fun W => isMask_c n (m : Int) hn W)
  rw [mk_yes hm] at KM
  clear hm
  go_enter Tryz.func36, Tryz.ntmps36
  go_wp2_with fail
  refine (KR.out _).mono ?_
  rintro e w1 ⟨rfl, hg1⟩
  go_wp2_with fail
  refine (KM.out _).mono ?_
  rintro e w2 ⟨rfl, hg2⟩
  go_wp2_with fail
  go_ret
  exact ⟨rfl, hg1.trans hg2⟩

theorem membersOfN_c (n m : Nat) (hn : n ≤ 30) (hm : m < 2 ^ n) (w : World) :
    Calls Tryz.prog 15 #[.int .i64 (n : Int), .int .i64 (m : Int)] w fun e w' => ∃ u, e = .returned (.tuple #[u, .int .i64 0]) ∧ OwnI w' w.heap.size u (zs (mbs m)) ∧ Grew w w' := by
  have KC := Lib.hid (maskCode_yes n m hn hm)
  have KM := Lib.hid (membersOf_c m (Nat.lt_of_lt_of_le hm (pow30' hn)))
  clear hm
  generalize zs (mbs m) = R at *
  go_enter Tryz.func15, Tryz.ntmps15
  go_wp2_with fail
  refine (KC.out _).mono ?_
  rintro e w1 ⟨rfl, hg1⟩
  go_wp2_with fail
  refine (KM.out _).mono ?_
  rintro e w2 ⟨u, rfl, hO, hg2⟩
  obtain ⟨A2, c2, rfl⟩ := ints_slice hO.ints
  go_wp2_with fail
  go_ret2
  exact ⟨_, rfl, hO.base hg1.size, hg1.trans hg2⟩

theorem hasInt_yes (v : Value) (L : List Int) (x : Int) (w : World) (h : Ints w v L) (hx : x ∈ L) :
    Calls Tryz.prog 11 #[v, .int .i64 x] w fun e w' => e = .returned (.bool true) ∧ Grew w w' := by
  rcases h.open_ with ⟨rfl, rfl⟩ | ⟨b, o, c, rfl, hc, hm, hb, hcell⟩
  · simp at hx
  obtain ⟨i, hi, hix⟩ := List.getElem_of_mem hx
  rw [it_get hi] at hix
  have HC := Lib.hid hcell
  clear h hcell hx
  generalize hN : L.length = n at *
  clear hN
  go_enter Tryz.func11, Tryz.ntmps11
  go_wp2_with fail
  go_loopw [5] (fun k wr => ∃ j : Nat, j ≤ i ∧ k = .int .i64 j ∧ Grew w wr) (fun k _ => n - (intOf k).toNat)
  case atStart => exact ⟨0, Nat.zero_le _, rfl, Grew.refl _⟩
  case round =>
    obtain ⟨j, hj, rfl, hB⟩ := hrel
    have hlt : j < n := by omega
    have k1 := HC.out j hlt _ hB
    by_cases he : it L j = x
    · rw [he] at k1
      have hq : (x == x) = true := by simp
      go_wp2_with fail
      go_ret
      exact ⟨rfl, hB⟩
    · have hji : j ≠ i := fun h => he (by rw [h]; exact hix)
      have hq : (it L j == x) = false := by simpa using he
      generalize it L j = y at *
      go_wp2_with fail
      go_roundw
      case rel => exact ⟨j + 1, by omega, by go_num, hB⟩
      case measure => simp [intOf]; omega
end Go.Proofs.YtphljdhacbpkbaaGreat

/- FnMonotone: DefinableUpsets' closure 'add': a list without repetition and the map of its members. -/
namespace Go.Proofs.YtphljdhacbpkbaaGreat
open Go.RowKit
open Go.MapKept

/-- Block M is the map of the members of the list. -/
def Kmap (w : World) (M : Nat) (L : List Nat) : Prop := ∃ es clock, w.heap[M]? = some (.map es clock) ∧ (∀ x ∈ es.toList, ∃ k : Nat, x.key = .int .i64 (k : Int) ∧ x.val = .bool true ∧ k ∈ L) ∧ ∀ k ∈ L, ∃ x ∈ es.toList, x.key = .int .i64 (k : Int)
theorem Kmap.lt {w : World} {M : Nat} {L : List Nat} (h : Kmap w M L) : M < w.heap.size := let ⟨_, _, h1, _⟩ := h; (Array.getElem?_eq_some_iff.1 h1).1
theorem Kmap.only {w w' : World} {M g : Nat} {L : List Nat} (h : Kmap w M L) (ho : Only g w w') (hne : M ≠ g) : Kmap w' M L := by
  have hl := h.lt
  obtain ⟨es, clock, h1, h2⟩ := h
  exact ⟨es, clock, (ho.block hl hne).trans h1, h2⟩
theorem Kmap.grew {w w' : World} {M : Nat} {L : List Nat} (h : Kmap w M L) (hg : Grew w w') : Kmap w' M L := by
  have hl := h.lt
  obtain ⟨es, clock, h1, h2⟩ := h
  exact ⟨es, clock, (hg.block hl).trans h1, h2⟩
theorem Kmap.new (w : World) : Kmap (w.alloc (.map #[] 0)) w.heap.size [] := ⟨#[], 0, blk_new w _, fun x hx => by simp at hx, fun k hk => by simp at hk⟩
theorem kmap_keys {es : Array MapEntry} {L : List Nat} (h : ∀ x ∈ es.toList, ∃ k : Nat, x.key = .int .i64 (k : Int) ∧ x.val = .bool true ∧ k ∈ L) : ∀ x ∈ es.toList, IsKey (.int .i64) x.key := fun x hx => by
  obtain ⟨k, h1, _⟩ := h x hx
  rw [h1]
  rfl
theorem run_kmap_look {P : Program} {w : World} {M : Nat} {L : List Nat} (h : Kmap w M L) (t kt et : TypeId) (ht : P.underlying t = some (.map kt et)) (hk : P.underlying kt = some (.int .i64)) (hz : (zeroValue et).run P w = .ok (.bool false) w) (k : Nat) :
    (Instr.lookup t (.map (some M)) (.int .i64 (k : Int)) false).run P w = .ok (.bool (decide (k ∈ L))) w := by
  obtain ⟨es, clock, h1, h2, h3⟩ := h
  have hkey : IsKey (.int .i64) (.int .i64 (k : Int)) := rfl
  rcases findNow_spec hkey es.toList 0 (kmap_keys h2) with ⟨h4, h5⟩ | ⟨j, e, h4, h5, h6⟩
  · have hn : k ∉ L := fun hm => by
      obtain ⟨x, hx, hxk⟩ := h3 k hm
      exact h5 x hx hxk
    rw [decide_eq_false hn]
    simp [Instr.lookup, run_underlying ht, MapKept.run_getObj_map h1, MapKept.run_checkKey hk hkey, MapKept.run_findKey hk h4, hz, Result.andThen]
  · obtain ⟨k', h7, h8, h9⟩ := h2 e (List.mem_of_getElem? h5)
    have hkk : k' = k := by
      rw [h7] at h6
      simp only [Value.int.injEq, true_and] at h6
      omega
    rw [decide_eq_true (hkk ▸ h9)]
    simp [Instr.lookup, run_underlying ht, MapKept.run_getObj_map h1, MapKept.run_checkKey hk hkey, MapKept.run_findKey hk h4, h8, Result.andThen]
theorem run_kmap_put {P : Program} {w : World} {M : Nat} {L : List Nat} (h : Kmap w M L) (t kt et : TypeId) (ht : P.underlying t = some (.map kt et)) (hk : P.underlying kt = some (.int .i64)) (k : Nat) (hn : k ∉ L) :
    ∃ w', (Instr.mapUpdate t (.map (some M)) (.int .i64 (k : Int)) (.bool true)).run P w = .ok () w' ∧ Only M w w' ∧ Kmap w' M (L ++ [k]) := by
  obtain ⟨es, clock, h1, h2, h3⟩ := h
  have hkey : IsKey (.int .i64) (.int .i64 (k : Int)) := rfl
  have hOnly : ∀ o, Only M w { w with heap := w.heap.setIfInBounds M o } := fun o => ⟨rfl, rfl, rfl, by simp, fun i _ hne => (heap_set h1).2 i (fun e => hne (by rw [e]))⟩
  rcases findNow_spec hkey es.toList 0 (kmap_keys h2) with ⟨h4, _⟩ | ⟨j, e, h4, h5, h6⟩
  · refine ⟨_, ?_, hOnly (.map (es.push { key := .int .i64 (k : Int), val := .bool true, born := clock }) (clock + 1)), ⟨_, _, (heap_set h1).1, fun x hx => ?_, fun q hq => ?_⟩⟩
    · simp [Instr.mapUpdate, run_underlying ht, MapKept.run_getObj_map h1, MapKept.run_checkKey hk hkey, MapKept.run_findKey hk h4, MapKept.run_setObj_map _ h1, Result.andThen]
    · simp only [Array.toList_push, List.mem_append, List.mem_singleton] at hx
      rcases hx with hx | rfl
      · obtain ⟨q, q1, q2, q3⟩ := h2 x hx
        exact ⟨q, q1, q2, by simp [q3]⟩
      · exact ⟨k, rfl, rfl, by simp⟩
    · simp only [List.mem_append, List.mem_singleton] at hq
      rcases hq with hq | rfl
      · obtain ⟨x, hx, hxk⟩ := h3 q hq
        exact ⟨x, by simp [hx], hxk⟩
      · exact ⟨{ key := .int .i64 (q : Int), val := .bool true, born := clock }, by simp, rfl⟩
  · exfalso
    obtain ⟨k', h7, h8, h9⟩ := h2 e (List.mem_of_getElem? h5)
    have hkk : k' = k := by
      rw [h7] at h6
      simp only [Value.int.injEq, true_and] at h6
      omega
    exact hn (hkk ▸ h9)
theorem wpList_kput {ops : Array Oper} {rest : List Oper} {o : Oper} {a : Act} {Q : Exit → Act → World → Prop} (w : World) (hg : o.guard = none) (m x v : Operand) (t : TypeId) (hop : o.op = Op.mapUpdate t m x v) (kt et : TypeId)
    (ht : Tryz.prog.underlying t = some (.map kt et)) (hk : Tryz.prog.underlying kt = some (.int .i64)) (M : Nat) (k : Nat) (L : List Nat) (hm : a.eval m = .map (some M)) (hx : a.eval x = .int .i64 (k : Int)) (hv : a.eval v = .bool true) (hM : Kmap w M L) (hn : k ∉ L)
    (hK : ∀ w', Only M w w' → Kmap w' M (L ++ [k]) → wpList Tryz.prog ops Q rest (a.put o.dst undef) w') : wpList Tryz.prog ops Q (o :: rest) a w := by
  refine wpList_plain hg fun K' hK' => ?_
  obtain ⟨w', hrun, r1, r2⟩ := run_kmap_put (P := Tryz.prog) hM t kt et ht hk k hn
  unfold Oper.wp
  simp [execOp, hop, hm, hx, hv, hrun, Result.andThen]
  exact hK' _ _ (hK w' r1 r2)

/-- The list and its map, as the closure holds them. -/
structure Kn (w : World) (bm bo M B : Nat) (L : List Nat) : Prop where
  cm : w.heap[bm]? = some (.cells #[.map (some M)] 57 (0, 0))
  mp : Kmap w M L
  out : ∃ A n c, w.heap[bo]? = some (.cells #[.slice A n c] 24 (0, 0)) ∧ OwnI w B (.slice A n c) (zs L)
  d1 : bm ≠ bo
  d2 : bm ≠ M
  d3 : bo ≠ M
  l1 : bm < B
  l2 : bo < B
  l3 : M < B
theorem Kn.grew {w w' : World} {bm bo M B : Nat} {L : List Nat} (h : Kn w bm bo M B L) (hg : Grew w w') : Kn w' bm bo M B L := by
  obtain ⟨A, n, c, h1, h2⟩ := h.out
  exact ⟨(hg.block (blk_lt h.cm)).trans h.cm, h.mp.grew hg, ⟨A, n, c, (hg.block (blk_lt h1)).trans h1, h2.grew hg⟩, h.d1, h.d2, h.d3, h.l1, h.l2, h.l3⟩

theorem own_shape {w : World} {B : Nat} {v : Value} {L : List Int} (h : OwnI w B v L) : ∃ A n c, v = .slice A n c := by
  obtain ⟨A, c, h⟩ := ints_slice h.ints
  exact ⟨_, _, _, h⟩
theorem ownI_of_ge {w : World} {B : Nat} {v : Value} {L : List Int} (h : OwnI w B v L) {g : Nat} (he : v.ownBlock = some g) : B ≤ g := (h.lt g he).1
set_option maxHeartbeats 2000000 in
set_option maxRecDepth 20000 in
theorem add_c (m bm bo M B : Nat) (L : List Nat) (w0 w : World) (h : Kn w bm bo M B L) (hg0 : Grew w0 w) (hb1 : w0.heap.size ≤ bm) (hb2 : w0.heap.size ≤ bo) (hb3 : w0.heap.size ≤ M) (hB : B ≤ w.heap.size) (hl : L.length ≤ 1000) :
    Calls Tryz.prog 30 #[.int .i64 (m : Int), .pointer (some ⟨bm, 0, none⟩), .pointer (some ⟨bo, 0, none⟩)] w fun e w' => e = .returned (.tuple #[]) ∧ Kn w' bm bo M B (if m ∈ L then L else L ++ [m]) ∧ Grew w0 w' ∧ w.heap.size ≤ w'.heap.size := by
  obtain ⟨A, n, c, hO1, hO2⟩ := h.out
  have c0 : w.cell? ⟨bm, 0, none⟩ = some (.map (some M)) := by rw [blk_cell h.cm]; rfl
  have hlk := run_kmap_look (P := Tryz.prog) h.mp 57 2 4 Tryz.underlying57 Tryz.underlying2 (Tryz.zeroValue4 w) m
  by_cases hm : m ∈ L
  · rw [if_pos hm]
    rw [decide_eq_true hm] at hlk
    have HK := Lib.hid h
    have HNE := Lib.hid (fun w1 (ho1 : Only M w w1) => show some bo ≠ (Value.slice A n c).ownBlock from fun he => by have := ownI_of_ge hO2 he.symm; have := h.l2; omega)
    clear h hO1 hO2
    go_enter Tryz.func30, Tryz.ntmps30
    go_wp2_with fail
    first | go_end0 | refine bodyPost_ret (results_none rfl _ _ _) rfl ?_
    exact ⟨rfl, HK.out, hg0, Nat.le_refl _⟩
  · rw [if_neg hm]
    rw [decide_eq_false hm] at hlk
    have HK := Lib.hid h
    have HM := Lib.hid h.mp
    have HX := Lib.hid (fun w1 (ho1 : Only M w w1) => (ho1.block (blk_lt hO1) h.d3).trans hO1)
    have HC := Lib.hid (fun w1 (ho1 : Only M w w1) => (ho1.block (blk_lt h.cm) h.d2).trans h.cm)
    have HO := Lib.hid (fun w1 (ho1 : Only M w w1) => show OwnI w1 B (.slice A n c) (zs L) from own_only hO2 ho1 (fun he => by have := ownI_of_ge hO2 he; have := h.l3; omega))
    have HNE := Lib.hid (fun w1 (ho1 : Only M w w1) => show some bo ≠ (Value.slice A n c).ownBlock from fun he => by have := ownI_of_ge hO2 he.symm; have := h.l2; omega)
    clear h hO1 hO2
    go_enter Tryz.func30, Tryz.ntmps30
    go_wp2_with (first
      | (at_mapUpdate; refine wpList_kput _ rfl _ _ _ _ rfl _ _ Tryz.underlying57 Tryz.underlying2 M m L rfl rfl rfl HM.out hm ?_; intro w1 ho1 hk1; have c1 : w1.cell? ⟨bo, 0, none⟩ = some (.slice A n c) := by (rw [blk_cell (HX.out w1 ho1)]; rfl))
      | (at_builtin; refine wpList_appB B _ _ rfl rfl _ (zs L) rfl ((HO.out w1 ho1).grew (Grew.alloc (Grew.refl _) _)) (Nat.le_trans (Nat.le_trans hB ho1.size) (by simp)) _ (m : Int) rfl (rd_litI _ _ _) (by rw [zs_len]; omega) ?_; intro v2 w2 hO2 hg2; obtain ⟨A3, n3, c3, rfl⟩ := own_shape hO2; (have hb3' : w2.heap[bo]? = some (.cells #[.slice A n c] 24 (0, 0)) := (World.grownBy.block hg2 bo (by have := blk_lt (HX.out w1 ho1); simp; omega) (HNE.out w1 ho1)).trans ((((Grew.refl w1).alloc _).block (blk_lt (HX.out w1 ho1))).trans (HX.out w1 ho1))); (have c2 : w2.cell? ⟨bo, 0, none⟩ = some (.slice A n c) := by (rw [blk_cell hb3']; rfl)); (have f2 := blk_frozen hb3' 0)))
    first | go_end0 | refine bodyPost_ret (results_none rfl _ _ _) rfl ?_
    have hal1 := Grew.alloc (Grew.refl w1) (.cells #[.int .i64 (m : Int)] 2)
    have hw2 : ∀ k, k < w1.heap.size → some k ≠ (Value.slice A n c).ownBlock → w2.heap[k]? = w1.heap[k]? := fun k hk hne => (World.grownBy.block hg2 k (by simp; omega) hne).trans (hal1.block hk)
    have hge : ∀ g, (Value.slice A n c).ownBlock = some g → B ≤ g := fun g he => ownI_of_ge (HO.out w1 ho1) he
    have nb : ∀ k, k < B → some k ≠ (Value.slice A n c).ownBlock := fun k hk he => by have := hge k he.symm; omega
    have kM : Kmap w2 M (L ++ [m]) := by
      have hl1 := hk1.lt
      obtain ⟨es, clock, h1, h2⟩ := hk1
      exact ⟨es, clock, (hw2 M hl1 (nb M HK.out.l3)).trans h1, h2⟩
    have kC : w2.heap[bm]? = some (.cells #[.map (some M)] 57 (0, 0)) := (hw2 bm (blk_lt (HC.out w1 ho1)) (nb bm HK.out.l1)).trans (HC.out w1 ho1)
    have hlast := (Only.refl bo w2).setCell (o := 0) (.slice A3 n3 c3)
    have g1 := (ho1.grew_of hg0 hb3).alloc (.cells #[.int .i64 (m : Int)] 2)
    have g2 : Grew w0 w2 := g1.grown hg2 (fun k hk => by have := hge k hk; have := HK.out.l2; omega)
    refine ⟨rfl, ⟨(hlast.block (blk_lt kC) HK.out.d1).trans kC, kM.only hlast (fun e => HK.out.d3 e.symm), ⟨A3, n3, c3, blk_set hb3' 0 _, ?_⟩, HK.out.d1, HK.out.d2, HK.out.d3, HK.out.l1, HK.out.l2, HK.out.l3⟩, g2.setCell hb2 _, ?_⟩
    · rw [zs_snoc]
      exact own_only hO2 hlast (fun he => by have := ownI_of_ge hO2 he; have := HK.out.l2; omega)
    · have h1 := ho1.size
      have h2 := hal1.size
      have h3 := hg2.size
      have h4 := hlast.size
      omega
end Go.Proofs.YtphljdhacbpkbaaGreat

/- Sorting numbers and dropping repeats: the ascending list of them. No program is in sight. -/
namespace Go.Proofs.YtphljdhacbpkbaaGreat
open Go.RowKit Go.Sort

theorem upTo_lt (d : Array Int) (hs : ∀ i j, i ≤ j → j < d.size → d[i]! ≤ d[j]!) : ∀ m, m ≤ d.size → (Lib.compactUpTo d m).Pairwise (· < ·) ∧ (∀ x ∈ Lib.compactUpTo d m, ∃ i, i < m ∧ x = d[i]!) ∧ (∀ i, i < m → d[i]! ∈ Lib.compactUpTo d m)
  | 0, _ => ⟨by simp [Lib.compactUpTo], fun x hx => by simp [Lib.compactUpTo] at hx, fun i hi => by omega⟩
  | m + 1, hm => by
    obtain ⟨h1, h2, h3⟩ := upTo_lt d hs m (by omega)
    rw [Lib.compactUpTo_succ]
    by_cases hk : Lib.keeps d m = true
    · rw [if_pos hk]
      have hlt : ∀ i, i < m → d[i]! < d[m]! := fun i hi => by
        have h4 := hs i (m - 1) (by omega) (by omega)
        have h5 := hs (m - 1) m (by omega) (by omega)
        have h6 : ¬ d[m]! = d[m - 1]! := fun e => by
          rw [Lib.keeps_neg (by omega) e] at hk
          cases hk
        omega
      refine ⟨?_, fun x hx => ?_, fun i hi => ?_⟩
      · rw [List.pairwise_append]
        refine ⟨h1, List.pairwise_singleton _ _, fun x hx y hy => ?_⟩
        obtain ⟨i, hi, rfl⟩ := h2 x hx
        obtain rfl : y = d[m]! := by simpa using hy
        exact hlt i hi
      · rcases List.mem_append.1 hx with hx | hx
        · obtain ⟨i, hi, rfl⟩ := h2 x hx
          exact ⟨i, by omega, rfl⟩
        · exact ⟨m, by omega, by simpa using hx⟩
      · by_cases hi2 : i < m
        · exact List.mem_append_left _ (h3 i hi2)
        · obtain rfl : i = m := by omega
          simp
    · rw [if_neg hk, List.append_nil]
      refine ⟨h1, fun x hx => ?_, fun i hi => ?_⟩
      · obtain ⟨i, hi, rfl⟩ := h2 x hx
        exact ⟨i, by omega, rfl⟩
      · by_cases hi2 : i < m
        · exact h3 i hi2
        · obtain rfl : i = m := by omega
          by_cases h0 : i = 0
          · subst h0
            exact absurd (Lib.keeps_lt_one d 0 (by omega)) hk
          · have : d[i]! = d[i - 1]! := by
              by_cases e : d[i]! = d[i - 1]!
              · exact e
              · exact absurd (Lib.keeps_pos e) hk
            rw [this]
            exact h3 (i - 1) (by omega)

theorem arr_get {L : List Int} {i : Nat} (h : i < L.length) : L.toArray[i]! = L[i] := by
  rw [getElem!_pos L.toArray i (by simpa using h)]
  simp
/-- Numbers in ascending order, each once. -/
def srt (L : List Int) : List Int := Lib.compact (L.mergeSort fun x y => decide (x ≤ y))
theorem sorted_at {L : List Int} (h : L.Pairwise (· ≤ ·)) {i j : Nat} (hij : i ≤ j) (hj : j < L.toArray.size) : L.toArray[i]! ≤ L.toArray[j]! := by
  have hj2 : j < L.length := by simpa using hj
  by_cases e : i = j
  · subst e; omega
  · have := List.pairwise_iff_getElem.1 h i j (by omega) hj2 (by omega)
    have h1 : L.toArray[i]! = L[i]'(by omega) := arr_get (by omega)
    have h2 : L.toArray[j]! = L[j]'(by omega) := arr_get hj2
    rw [h1, h2]
    exact this
theorem merge_sorted (L : List Int) : (L.mergeSort fun x y => decide (x ≤ y)).Pairwise (· ≤ ·) := by
  have h := List.pairwise_mergeSort (le := fun x y : Int => decide (x ≤ y)) (fun a b c h1 h2 => by simp at h1 h2 ⊢; omega) (fun a b => by simp; omega) L
  exact h.imp (fun h => by simpa using h)
theorem srt_lt (L : List Int) : (srt L).Pairwise (· < ·) :=
  (upTo_lt _ (fun _ _ h1 h2 => sorted_at (merge_sorted L) h1 h2) _ (by simp)).1
theorem srt_mem (L : List Int) (x : Int) : x ∈ srt L ↔ x ∈ L := by
  obtain ⟨_, h2, h3⟩ := upTo_lt (L.mergeSort fun x y => decide (x ≤ y)).toArray (fun _ _ h1 h2 => sorted_at (merge_sorted L) h1 h2) (L.mergeSort fun x y => decide (x ≤ y)).length (by simp)
  have hp := (List.mergeSort_perm L fun x y => decide (x ≤ y)).mem_iff (a := x)
  rw [← hp]
  constructor
  · intro h
    obtain ⟨i, hi, rfl⟩ := h2 x h
    have : (L.mergeSort fun x y => decide (x ≤ y)).toArray[i]! = (L.mergeSort fun x y => decide (x ≤ y))[i] := arr_get hi
    rw [this]
    exact List.getElem_mem _
  · intro h
    obtain ⟨i, hi, he⟩ := List.getElem_of_mem h
    have := h3 i hi
    have e : (L.mergeSort fun x y => decide (x ≤ y)).toArray[i]! = (L.mergeSort fun x y => decide (x ≤ y))[i] := arr_get hi
    rw [e, he] at this
    exact this
theorem srt_nil : srt [] = [] := by simp [srt, Lib.compact, Lib.compactUpTo]
theorem srt_len (L : List Int) : (srt L).length ≤ L.length := by
  unfold srt
  have := Lib.compact_length_le (L.mergeSort fun x y => decide (x ≤ y))
  rwa [List.length_mergeSort] at this
/-- Ascending lists with the same members are the same. -/
theorem asc_ext : ∀ {L M : List Int}, L.Pairwise (· < ·) → M.Pairwise (· < ·) → (∀ x, x ∈ L ↔ x ∈ M) → L = M
  | [], [], _, _, _ => rfl
  | [], b :: M, _, _, h => absurd ((h b).2 (by simp)) (by simp)
  | a :: L, [], _, _, h => absurd ((h a).1 (by simp)) (by simp)
  | a :: L, b :: M, h1, h2, h => by
    obtain ⟨h3, h4⟩ := List.pairwise_cons.1 h1
    obtain ⟨h5, h6⟩ := List.pairwise_cons.1 h2
    have hab : a = b := by
      have ha := (h a).1 (by simp)
      have hb := (h b).2 (by simp)
      rcases List.mem_cons.1 ha with e | ha
      · exact e
      rcases List.mem_cons.1 hb with e | hb
      · exact e.symm
      have := h5 a ha
      have := h3 b hb
      omega
    subst hab
    congr 1
    refine asc_ext h4 h6 fun x => ⟨fun hx => ?_, fun hx => ?_⟩
    · rcases List.mem_cons.1 ((h x).1 (List.mem_cons_of_mem _ hx)) with e | hx2
      · have := h3 x hx; omega
      · exact hx2
    · rcases List.mem_cons.1 ((h x).2 (List.mem_cons_of_mem _ hx)) with e | hx2
      · have := h5 x hx; omega
      · exact hx2
/-- The numbers below n of a kind. -/
def below (n : Nat) (p : Nat → Bool) : List Int := ((List.range n).filter p).map fun i : Nat => (i : Int)
theorem below_zero (p : Nat → Bool) : below 0 p = [] := rfl
theorem below_yes {n : Nat} {p : Nat → Bool} (h : p n = true) : below (n + 1) p = below n p ++ [(n : Int)] := by
  unfold below
  rw [List.range_succ, List.filter_append, List.map_append, List.filter_cons, h]
  rfl
theorem below_no {n : Nat} {p : Nat → Bool} (h : p n = false) : below (n + 1) p = below n p := by
  unfold below
  rw [List.range_succ, List.filter_append, List.map_append, List.filter_cons, h]
  simp
theorem below_len (n : Nat) (p : Nat → Bool) : (below n p).length ≤ n := by
  unfold below
  rw [List.length_map]
  have := List.length_filter_le p (List.range n)
  rwa [List.length_range] at this
theorem below_lt (n : Nat) (p : Nat → Bool) : (below n p).Pairwise (· < ·) := by
  unfold below
  rw [List.pairwise_map]
  exact ((List.pairwise_lt_range (n := n)).filter p).imp (fun h => by omega)
theorem below_mem (n : Nat) (p : Nat → Bool) (x : Int) : x ∈ below n p ↔ ∃ i : Nat, i < n ∧ p i = true ∧ x = (i : Int) := by
  unfold below
  simp only [List.mem_map, List.mem_filter, List.mem_range]
  constructor
  · rintro ⟨i, ⟨h1, h2⟩, rfl⟩; exact ⟨i, h1, h2, rfl⟩
  · rintro ⟨i, h1, h2, rfl⟩; exact ⟨i, ⟨h1, h2⟩, rfl⟩
theorem srt_below {L : List Int} {n : Nat} {p : Nat → Bool} (h1 : ∀ x ∈ L, 0 ≤ x ∧ x < (n : Int)) (h2 : ∀ i, i < n → (p i = true ↔ (i : Int) ∈ L)) : srt L = below n p := by
  refine asc_ext (srt_lt L) (below_lt n p) fun x => ?_
  rw [srt_mem, below_mem]
  constructor
  · intro hx
    have := h1 x hx
    have e : ((x.toNat : Nat) : Int) = x := by omega
    exact ⟨x.toNat, by omega, (h2 _ (by omega)).2 (by rw [e]; exact hx), e.symm⟩
  · rintro ⟨i, hi, hp, rfl⟩
    exact (h2 i hi).1 hp

end Go.Proofs.YtphljdhacbpkbaaGreat

/- Contracts of the library (sorting, compacting strings), laid at this program. -/
namespace Go.Proofs
open Go.Shelf
open Go.RowKit Go.Lib Go.Sort in
open Go.RowKit Go.Lib Go.Sort in
open Go.RowKit Go.Lib Go.Sort in
def Tryz.laysSortI_ren : Go.Shelf.Ren := ⟨fun | 5 => 32 | 8 => 64 | 7 => 63 | 19 => 120 | 20 => 121 | 10 => 111 | 11 => 112 | 12 => 113 | 13 => 114 | 14 => 115 | 15 => 116 | 16 => 117 | 17 => 118 | 18 => 119 | 30 => 143 | 31 => 144 | 32 => 145 | 33 => 146 | 34 => 147 | 35 => 148 | 40 => 150 | n => n, fun | 23 => 24 | 25 => 2 | 3 => 3 | 32 => 63 | 22 => 24 | 0 => 0 | 44 => 114 | 46 => 39 | 4 => 4 | 36 => 107 | 35 => 106 | 41 => 111 | 5 => 5 | 9 => 9 | 53 => 124 | 57 => 128 | 63 => 130 | 64 => 131 | n => n, fun | n => n⟩
theorem Tryz.laysSortI : Go.Proofs.SlLaysM.n5 Tryz.prog Tryz.laysSortI_ren := {
  mixed := by kernel_rfl
  f5 := ⟨Tryz.f32.name, by decide, Tryz.func32.trans (congrArg some (by kernel_rfl))⟩
  f7 := ⟨Tryz.f63.name, by decide, Tryz.func63.trans (congrArg some (by kernel_rfl))⟩
  f8 := Tryz.func64.trans (congrArg some (by kernel_rfl))
  f10 := ⟨Tryz.f111.name, by decide, Tryz.func111.trans (congrArg some (by kernel_rfl))⟩
  f11 := ⟨Tryz.f112.name, by decide, Tryz.func112.trans (congrArg some (by kernel_rfl))⟩
  f12 := ⟨Tryz.f113.name, by decide, Tryz.func113.trans (congrArg some (by kernel_rfl))⟩
  f13 := ⟨Tryz.f114.name, by decide, Tryz.func114.trans (congrArg some (by kernel_rfl))⟩
  f14 := ⟨Tryz.f115.name, by decide, Tryz.func115.trans (congrArg some (by kernel_rfl))⟩
  f15 := ⟨Tryz.f116.name, by decide, Tryz.func116.trans (congrArg some (by kernel_rfl))⟩
  f16 := ⟨Tryz.f117.name, by decide, Tryz.func117.trans (congrArg some (by kernel_rfl))⟩
  f17 := ⟨Tryz.f118.name, by decide, Tryz.func118.trans (congrArg some (by kernel_rfl))⟩
  f18 := ⟨Tryz.f119.name, by decide, Tryz.func119.trans (congrArg some (by kernel_rfl))⟩
  f19 := Tryz.func120.trans (congrArg some (by kernel_rfl))
  f20 := Tryz.func121.trans (congrArg some (by kernel_rfl))
  f30 := ⟨Tryz.f143.name, by decide, Tryz.func143.trans (congrArg some (by kernel_rfl))⟩
  f31 := Tryz.func144.trans (congrArg some (by kernel_rfl))
  f32 := Tryz.func145.trans (congrArg some (by kernel_rfl))
  f33 := ⟨Tryz.f146.name, by decide, Tryz.func146.trans (congrArg some (by kernel_rfl))⟩
  f34 := ⟨Tryz.f147.name, by decide, Tryz.func147.trans (congrArg some (by kernel_rfl))⟩
  f35 := ⟨Tryz.f148.name, by decide, Tryz.func148.trans (congrArg some (by kernel_rfl))⟩
  f40 := ⟨Tryz.f150.name, by decide, Tryz.func150.trans (congrArg some (by kernel_rfl))⟩
  t0 := Tryz.underlying0
  a0 := Tryz.isAgg0
  z0 := Tryz.sizeOf0
  v0 := Tryz.zeroValue0
  t3 := Tryz.underlying3
  a3 := Tryz.isAgg3
  z3 := Tryz.sizeOf3
  v3 := Tryz.zeroValue3
  t4 := Tryz.underlying4
  a4 := Tryz.isAgg4
  z4 := Tryz.sizeOf4
  v4 := Tryz.zeroValue4
  t5 := Tryz.underlying5
  a5 := Tryz.isAgg5
  z5 := Tryz.sizeOf5
  v5 := Tryz.zeroValue5
  t9 := Tryz.underlying9
  a9 := Tryz.isAgg9
  z9 := Tryz.sizeOf9
  v9 := Tryz.zeroValue9
  t22 := Tryz.underlying24
  a22 := Tryz.isAgg24
  z22 := Tryz.sizeOf24
  v22 := Tryz.zeroValue24
  t23 := Tryz.underlying24
  a23 := Tryz.isAgg24
  z23 := Tryz.sizeOf24
  v23 := Tryz.zeroValue24
  t25 := Tryz.underlying2
  a25 := Tryz.isAgg2
  z25 := Tryz.sizeOf2
  v25 := Tryz.zeroValue2
  t32 := Tryz.underlying63
  a32 := Tryz.isAgg63
  z32 := Tryz.sizeOf63
  v32 := Tryz.zeroValue63
  t35 := Tryz.underlying106
  a35 := Tryz.isAgg106
  z35 := Tryz.sizeOf106
  v35 := Tryz.zeroValue106
  t36 := Tryz.underlying107
  a36 := Tryz.isAgg107
  z36 := Tryz.sizeOf107
  v36 := Tryz.zeroValue107
  t41 := Tryz.underlying111
  a41 := Tryz.isAgg111
  z41 := Tryz.sizeOf111
  v41 := Tryz.zeroValue111
  t44 := Tryz.underlying114
  a44 := Tryz.isAgg114
  z44 := Tryz.sizeOf114
  v44 := Tryz.zeroValue114
  t46 := Tryz.underlying39
  a46 := Tryz.isAgg39
  z46 := Tryz.sizeOf39
  v46 := Tryz.zeroValue39
  t53 := Tryz.underlying124
  a53 := Tryz.isAgg124
  z53 := Tryz.sizeOf124
  v53 := Tryz.zeroValue124
  t57 := Tryz.underlying128
  a57 := Tryz.isAgg128
  z57 := Tryz.sizeOf128
  v57 := Tryz.zeroValue128
  t63 := Tryz.underlying130
  a63 := Tryz.isAgg130
  z63 := Tryz.sizeOf130
  v63 := Tryz.zeroValue130
  t64 := Tryz.underlying131
  a64 := Tryz.isAgg131
  z64 := Tryz.sizeOf131
  v64 := Tryz.zeroValue131 }
open Go.Sort Go.RowKit in
theorem Tryz.slices_Sort_int (blk off cap : Nat) (zs : List Int) (w : World) (hH : Holds (Value.int .i64) w blk off zs.toArray) (hblk : blk < w.heap.size) (hsz : zs.length < 4611686018427387904) :
    Calls Tryz.prog 32 #[.slice (some ⟨blk, off, none⟩) zs.length cap] w fun e w' =>
      e = .returned (.tuple #[]) ∧ ∃ n os, w' = grow (putRow (Value.int .i64) (Sort.ahead w n) blk off (zs.mergeSort fun x y => decide (x ≤ y)).toArray) os := AnyM.slices_Sort_int Tryz.laysSortI blk off cap zs w hH hblk hsz
open Go.RowKit Go.Sort in
theorem Tryz.slices_Sort_int_none (p : Option Addr) (cap : Nat) (w : World) :
    Calls Tryz.prog 32 #[.slice p 0 cap] w fun e w' => e = .returned (.tuple #[]) ∧ w' = w := AnyM.slices_Sort_int_none Tryz.laysSortI p cap w
end Go.Proofs

/- slices.Sort and slices.Compact of numbers, on a row of the call's own. -/
namespace Go.Proofs.YtphljdhacbpkbaaGreat
open Go.RowKit Go.Sort

theorem sortI_c (w0 W : World) (v : Value) (L : List Int) (hg : Grew w0 W) (h : OwnI W w0.heap.size v L) (hn : L.length ≤ 1099511627776) :
    Calls Tryz.prog 32 #[v] W fun e W1 => e = .returned (.tuple #[]) ∧ OwnI W1 w0.heap.size v (L.mergeSort fun x y => decide (x ≤ y)) ∧ Grew w0 W1 := by
  rcases h.2 with ⟨rfl, h0⟩ | ⟨g, cap, cur, rfl, hbase, hb, h1, h2, h3, h4⟩
  · obtain rfl := List.eq_nil_of_length_eq_zero h0
    refine (Tryz.slices_Sort_int_none none 0 W).mono fun e W1 hh => ?_
    obtain ⟨h5, h6⟩ := hh
    subst h6
    refine ⟨h5, ?_, hg⟩
    simpa using h
  · have hH := holds_of_blockI hb (by simpa [icells] using h4)
    refine (Tryz.slices_Sort_int g 0 cap L W hH (blk_lt hb) (by omega)).mono fun e W1 hh => ?_
    obtain ⟨h5, n, os, h6⟩ := hh
    subst h6
    have hl2 : (L.mergeSort fun x y => decide (x ≤ y)).length = L.length := List.length_mergeSort L
    refine ⟨h5, ?_, Below.grown hg (grownBy_sortedI _) hg.size (fun j hj => by cases hj; exact hbase)⟩
    have hs := ownsRow_sortedI (n := n) (os := os) (ts := L.mergeSort fun x y => decide (x ≤ y)) hl2 hbase hb h1 h2 h3
    unfold OwnI icells
    rw [hl2]
    exact hs
end Go.Proofs.YtphljdhacbpkbaaGreat

/- FnMonotone: DefinableUpsets. -/
namespace Go.Proofs.YtphljdhacbpkbaaGreat
open Go.RowKit
open Fm (Nd Tree)

theorem sortB_c (B : Nat) (W : World) (v : Value) (L : List Int) (h : OwnI W B v L) (hn : L.length ≤ 1099511627776) :
    Calls Tryz.prog 32 #[v] W fun e W1 => e = .returned (.tuple #[]) ∧ OwnI W1 B v (L.mergeSort fun x y => decide (x ≤ y)) ∧ W.grownBy W1 v.ownBlock := by
  rcases h.2 with ⟨rfl, h0⟩ | ⟨g, cap, cur, rfl, hbase, hb, h1, h2, h3, h4⟩
  · obtain rfl := List.eq_nil_of_length_eq_zero h0
    refine (Tryz.slices_Sort_int_none none 0 W).mono fun e W1 hh => ?_
    obtain ⟨h5, h6⟩ := hh
    subst h6
    refine ⟨h5, ?_, World.grownBy.refl _ _⟩
    simpa using h
  · have hH := holds_of_blockI hb (by simpa [icells] using h4)
    refine (Tryz.slices_Sort_int g 0 cap L W hH (blk_lt hb) (by omega)).mono fun e W1 hh => ?_
    obtain ⟨h5, n, os, h6⟩ := hh
    subst h6
    have hl2 : (L.mergeSort fun x y => decide (x ≤ y)).length = L.length := List.length_mergeSort L
    refine ⟨h5, ?_, grownBy_sortedI _⟩
    have hs := ownsRow_sortedI (n := n) (os := os) (ts := L.mergeSort fun x y => decide (x ≤ y)) hl2 hbase hb h1 h2 h3
    unfold OwnI icells
    rw [hl2]
    exact hs
theorem Kn.new (w1 : World) : Kn (((w1.alloc (.map #[] 0)).alloc (.cells #[.map (some w1.heap.size)] 57)).alloc (.cells #[.slice none 0 0] 24)) (w1.heap.size + 1) (w1.heap.size + 1 + 1) w1.heap.size (w1.heap.size + 3) [] := by
  have e1 : (w1.alloc (.map #[] 0)).heap.size = w1.heap.size + 1 := by simp
  have e2 : ((w1.alloc (.map #[] 0)).alloc (.cells #[.map (some w1.heap.size)] 57)).heap.size = w1.heap.size + 1 + 1 := by simp
  have b1 := blk_new (w1.alloc (.map #[] 0)) (.cells #[.map (some w1.heap.size)] 57)
  have b2 := blk_new ((w1.alloc (.map #[] 0)).alloc (.cells #[.map (some w1.heap.size)] 57)) (.cells #[.slice none 0 0] 24)
  have g2 := Grew.alloc (Grew.refl ((w1.alloc (.map #[] 0)).alloc (.cells #[.map (some w1.heap.size)] 57))) (.cells #[.slice none 0 0] 24)
  have g1 := Grew.alloc (Grew.refl (w1.alloc (.map #[] 0))) (.cells #[.map (some w1.heap.size)] 57)
  rw [e1] at b1
  rw [e2] at b2
  exact ⟨(g2.block (by rw [e2]; omega)).trans b1, ((Kmap.new w1).grew g1).grew g2, ⟨_, _, _, b2, OwnI.nil_ _ _⟩, by omega, by omega, by omega, by omega, by omega, by omega⟩

def Ext (L K : List Nat) : Prop := ∃ r, K = L ++ r
theorem Ext.refl (L : List Nat) : Ext L L := ⟨[], by simp⟩
theorem Ext.trans {a b c : List Nat} (h : Ext a b) (k : Ext b c) : Ext a c := by
  obtain ⟨r, rfl⟩ := h
  obtain ⟨q, rfl⟩ := k
  exact ⟨r ++ q, by simp⟩
theorem Ext.mem {a b : List Nat} (h : Ext a b) {x : Nat} (hx : x ∈ a) : x ∈ b := by obtain ⟨r, rfl⟩ := h; simp [hx]
theorem Ext.nt {a b : List Nat} (h : Ext a b) {i : Nat} (hi : i < a.length) : nt b i = nt a i := by obtain ⟨r, rfl⟩ := h; simp [Go.Proofs.YtphljdhacbpkbaaGreat.nt, List.getD, List.getElem?_append_left hi]
theorem Ext.len {a b : List Nat} (h : Ext a b) : a.length ≤ b.length := by obtain ⟨r, rfl⟩ := h; simp

theorem nodup_lt_len : ∀ (P : Nat) (L : List Nat), L.Nodup → (∀ x ∈ L, x < P) → L.length ≤ P := by
  intro P
  induction P with
  | zero =>
    intro L _ h
    cases L with
    | nil => exact Nat.le_refl _
    | cons x r => exact absurd (h x (by simp)) (by omega)
  | succ P ih =>
    intro L hn h
    have h1 := ih (L.erase P) (hn.erase P) (fun x hx => by
      have a := h x (List.mem_of_mem_erase hx)
      have b : x ≠ P := fun e => by rw [e] at hx; exact absurd hx (by rw [hn.mem_erase_iff]; simp)
      omega)
    have h2 : L.length ≤ (L.erase P).length + 1 := by
      rw [List.length_erase]
      split <;> omega
    omega

/-- What holds while the list grows. -/
structure DS (P M : Nat) (wp wr : World) (L : List Nat) : Prop where
  kn : Kn wr (M + 1) (M + 1 + 1) M (M + 3) L
  nd : L.Nodup
  lt : ∀ x ∈ L, x < P
  gr : Grew wp wr
  sz : M + 3 ≤ wr.heap.size
theorem DS.len {P M : Nat} {wp wr : World} {L : List Nat} (h : DS P M wp wr L) : L.length ≤ P := nodup_lt_len P L h.nd h.lt
theorem DS.grew {P M : Nat} {wp wr w' : World} {L : List Nat} (h : DS P M wp wr L) (hg : Grew wr w') : DS P M wp w' L :=
  ⟨h.kn.grew hg, h.nd, h.lt, h.gr.trans hg, Nat.le_trans h.sz hg.size⟩
theorem DS.cell {P M : Nat} {wp wr : World} {L : List Nat} (h : DS P M wp wr L) : ∃ A c, (∀ W, Grew wr W → W.cell? ⟨M + 1 + 1, 0, none⟩ = some (.slice A L.length c)) ∧ OwnI wr (M + 3) (.slice A L.length c) (zs L) := by
  obtain ⟨A, n, c, h1, h2⟩ := h.kn.out
  obtain ⟨A', c', he⟩ := ints_slice h2.ints
  simp only [Value.slice.injEq] at he
  obtain ⟨rfl, rfl, rfl⟩ := he
  rw [zs_len] at h1 h2
  exact ⟨A, c, fun W hW => by rw [blk_cell ((hW.block (blk_lt h1)).trans h1)]; rfl, h2⟩
theorem add_ds (m P M : Nat) (wp w : World) (L : List Nat) (h : DS P M wp w L) (hm : m < P) (hP : P ≤ 256) (hM : wp.heap.size ≤ M) :
    Calls Tryz.prog 30 #[.int .i64 (m : Int), .pointer (some ⟨M + 1, 0, none⟩), .pointer (some ⟨M + 1 + 1, 0, none⟩)] w fun e w' => e = .returned (.tuple #[]) ∧ ∃ K, DS P M wp w' K ∧ Ext L K ∧ m ∈ K := by
  refine (add_c m (M + 1) (M + 1 + 1) M (M + 3) L wp w h.kn h.gr (by omega) (by omega) hM h.sz (by have := h.len; omega)).mono ?_
  rintro e w' ⟨rfl, hk, hg, hs⟩
  refine ⟨rfl, _, ⟨hk, ?_, ?_, hg, Nat.le_trans h.sz hs⟩, ?_, ?_⟩
  · split
    · exact h.nd
    · rename_i hn
      rw [List.nodup_append]
      exact ⟨h.nd, by simp, fun a ha b hb => by simp at hb; rw [hb]; intro e; exact hn (e ▸ ha)⟩
  · intro x hx
    split at hx
    · exact h.lt x hx
    · simp at hx
      rcases hx with hx | rfl
      · exact h.lt x hx
      · exact hm
  · split
    · exact Ext.refl _
    · exact ⟨[m], rfl⟩
  · split
    · assumption
    · simp

/-- Two members' meets and joins are members. -/
def ClAt (A L : List Nat) (x y : Nat) : Prop := x &&& y ∈ L ∧ x ||| y ∈ L ∧ ar A x y ∈ L ∧ ar A y x ∈ L
theorem ClAt.ext {A L K : List Nat} {x y : Nat} (h : ClAt A L x y) (k : Ext L K) : ClAt A K x y := ⟨k.mem h.1, k.mem h.2.1, k.mem h.2.2.1, k.mem h.2.2.2⟩

/-- The values of the plain formulas: a list that holds them. -/
def Closed (A V L : List Nat) : Prop := 0 ∈ L ∧ (∀ v ∈ V, v ∈ L) ∧ ∀ x ∈ L, ∀ y ∈ L, ClAt A L x y

set_option maxHeartbeats 2000000 in
set_option maxRecDepth 20000 in
theorem defUp_c (sz : Int) (v u : Value) (L V : List Int) (w : World) (h : Ints w v L) (hu : Ints w u V) (hv : valB sz L V = true) :
    Calls Tryz.prog 10 #[.agg #[.int .i64 sz, v], u] w fun e w' => ∃ r K, e = .returned (.tuple #[r, .int .i64 0]) ∧ Ints w' r K ∧ (∃ S, Closed (nats L) (nats V) S ∧ ∀ x ∈ S, (x : Int) ∈ K) ∧ Grew w w' := by
  have hal := (Grew.refl w).alloc (.cells #[.int .i64 sz, v] 26)
  have y0 : ∀ W, Grew (w.alloc (.cells #[.int .i64 sz, v] 26)) W → W.cell? ⟨w.heap.size, 0, none⟩ = some (.int .i64 sz) := fun W hW => (hW.cell (p := ⟨w.heap.size, 0, none⟩) (by simp)).trans (by simp)
  have y1 : ∀ W, Grew (w.alloc (.cells #[.int .i64 sz, v] 26)) W → W.cell? ⟨w.heap.size, 1, none⟩ = some v := fun W hW => (hW.cell (p := ⟨w.heap.size, 1, none⟩) (by simp)).trans (by simp)
  have r1 := Grew.refl (w.alloc (.cells #[.int .i64 sz, v] 26))
  have HG := Lib.hid hal
  have KV := Lib.hid (fun W (hW : Grew w W) => isValuation_c sz v u L V W (h.grew hW) (hu.grew hW))
  rw [hv] at KV
  obtain ⟨h1, h2, h3, h4, h5, h6⟩ := mn_val hv
  have hVl : V.length = 6 := by rw [← nats_len]; exact h5
  have h8 : (nats L).length ≤ 8 := by rw [nats_len]; exact (posB_ok (val_ok hv).1).2.1
  have hP : 2 ^ (nats L).length ≤ 256 := Nat.le_trans (Nat.pow_le_pow_right (by omega) h8) (by decide)
  have hP0 : 0 < 2 ^ (nats L).length := Nat.pow_pos (by omega)
  have hsm : ∀ m, m < 2 ^ (nats L).length → m < 1073741824 := fun m hm => Nat.lt_of_lt_of_le hm (pow30' h3.1)
  have KI := Lib.hid (fun (a b : Nat) W (hW : Grew w W) (ha : a < 2 ^ (nats L).length) (hb : b < 2 ^ (nats L).length) => show Calls Tryz.prog 31 #[.agg #[.int .i64 sz, v], .int .i64 (a : Int), .int .i64 (b : Int)] W fun e w' => e = .returned (.int .i64 ((ar (nats L) a b : Nat) : Int)) ∧ Grew W w' from by
    have hq := posImply_c v (nats L) a b W (by rw [h2]; exact h.grew hW) h3 (hsm a ha) (hsm b hb)
    rwa [nats_len, ← h1] at hq)
  have hand := Lib.hid (fun a b (ha : a < 2 ^ (nats L).length) => show a &&& b < 2 ^ (nats L).length from Nat.lt_of_le_of_lt Nat.and_le_left ha)
  have hor := Lib.hid (fun a b (ha : a < 2 ^ (nats L).length) (hb : b < 2 ^ (nats L).length) => show a ||| b < 2 ^ (nats L).length from Nat.or_lt_two_pow ha hb)
  have har := Lib.hid (fun a b => show ar (nats L) a b < 2 ^ (nats L).length from bx_lt (nats L) _)
  have hval := Lib.hid (fun k (hk : k < (nats V).length) => h6 _ (nt_mem (L := nats V) (i := k) hk))
  have HU := Lib.hid (show Ints w u (zs (nats V)) by rw [h4]; exact hu)
  have h5' := h5
  rcases HU.out.open_ with ⟨_, hnil⟩ | ⟨bu, ou, cu, rfl, hcu, hmu, hbu, hfu⟩
  · rw [← List.length_eq_zero_iff, zs_len, h5] at hnil; cases hnil
  rw [zs_len, h5] at hcu hfu ⊢
  have HF := Lib.hid (fun k (hk : k < 6) W (hW : Grew w W) => show W.cell? ⟨bu, ou + k, none⟩ = some (.int .i64 ((nt (nats V) k : Nat) : Int)) from by rw [hfu k hk W hW, zs_it (by rw [h5]; exact hk)])
  rw [zs_len, h5] at KV
  rw [h5] at hval
  have hszp : (w.alloc (.cells #[.int .i64 sz, v] 26)).heap.size = w.heap.size + 1 := by simp
  obtain ⟨A', c, rfl⟩ := ints_slice h
  clear h hu hv h1 h2 h3 h4 h6 hVl hal HU hfu h8 hsm
  have hv6 : (nats V).length = 6 := h5
  clear h5 h5'
  generalize nats L = A at *
  generalize nats V = B at *
  generalize 2 ^ A.length = P at *
  generalize L.length = n at *
  go_enter Tryz.func10, Tryz.ntmps10
  go_wp2_with fail
  refine (KV.out _ HG.out).mono ?_
  rintro e w1 ⟨rfl, hg1⟩
  have hmm := @run_makeMap Tryz.prog
  have hM : (w.alloc (.cells #[.int .i64 sz, .slice A' n c] 26)).heap.size ≤ w1.heap.size := hg1.size
  go_wp2_with fail
  have d0 : DS P w1.heap.size (w.alloc (.cells #[.int .i64 sz, .slice A' n c] 26)) (((w1.alloc (.map #[] 0)).alloc (.cells #[.map (some w1.heap.size)] 57)).alloc (.cells #[.slice none 0 0] 24)) [] :=
    ⟨Kn.new w1, by simp, fun x hx => by simp at hx, ((hg1.alloc _).alloc _).alloc _, by simp⟩
  have AD := Lib.hid (fun m W K (hK : DS P w1.heap.size (w.alloc (.cells #[.int .i64 sz, .slice A' n c] 26)) W K) (hm : m < P) => add_ds m P w1.heap.size _ W K hK hm hP hM)
  refine (AD.out 0 _ _ d0 hP0).mono ?_
  rintro e w2 ⟨rfl, K1, hd1, -, hz1⟩
  clear hmm d0 KV hg1
  generalize w1.heap.size = M at *
  obtain ⟨wp, hwp⟩ : ∃ wp, wp = w.alloc (.cells #[.int .i64 sz, .slice A' n c] 26) := ⟨_, rfl⟩
  rw [← hwp] at hd1 AD hM y0 y1 r1 HG
  clear hwp
  go_wp2_with fail
  go_loopw [25] (fun i wr => ∃ (j : Nat) (K : List Nat), j ≤ 6 ∧ i = .int .i64 j ∧ DS P M wp wr K ∧ 0 ∈ K ∧ ∀ k, k < j → nt B k ∈ K) (fun i _ => 6 - (intOf i).toNat)
  case atStart => exact ⟨0, K1, by omega, rfl, hd1, hz1, fun k hk => absurd hk (by omega)⟩
  case round =>
    obtain ⟨j, K, hj, rfl, hD, hz, hvs⟩ := hrel
    have hgw := HG.out.trans hD.gr
    by_cases hlt : j < 6
    · have k1 := HF.out j hlt _ hgw
      have hvj := hval.out j hlt
      have HD := Lib.hid hD
      generalize hx : nt B j = x at *
      clear hD
      go_wp2_with fail
      refine (AD.out x _ K HD.out hvj).mono ?_
      rintro e w3 ⟨rfl, K3, hd3, he3, hm3⟩
      go_wp2_with fail
      go_roundw
      case rel => exact ⟨j + 1, K3, by omega, by go_num, hd3, he3.mem hz, fun k hk => by
        rcases Nat.lt_or_ge k j with h | h
        · exact he3.mem (hvs k h)
        · obtain rfl : k = j := by omega
          rw [hx]; exact hm3⟩
      case measure => simp [intOf]; omega
    · have hvall : ∀ y ∈ B, y ∈ K := fun y hy => by
        obtain ⟨k, hk, rfl⟩ := List.getElem_of_mem hy
        have := hvs k (by omega)
        rwa [show nt B k = B[k] by simp [nt, List.getD, hk]] at this
      obtain ⟨A3, c3, hcell, -⟩ := hD.cell
      have HD := Lib.hid hD
      have HV := Lib.hid (And.intro hz hvall)
      clear hD hz hvall hvs
      have kc := hcell _ (Grew.refl _)
      go_wp2_with fail
      go_loopw [11] (fun i wr => ∃ (a : Nat) (K : List Nat), a ≤ K.length ∧ i = .int .i64 a ∧ DS P M wp wr K ∧ (0 ∈ K ∧ ∀ y ∈ B, y ∈ K) ∧ ∀ x y, y ≤ x → x < a → ClAt A K (nt K x) (nt K y)) (fun i _ => 300 - (intOf i).toNat)
      case atStart => exact ⟨0, K, by omega, rfl, HD.out, HV.out, fun x y _ hx => absurd hx (by omega)⟩
      case round =>
        obtain ⟨a, K2, ha, rfl, hD2, hV2, hC2⟩ := hrel
        obtain ⟨A4, c4, hcell2, hown2⟩ := hD2.cell
        have k2 := hcell2 _ (Grew.refl _)
        have hlen2 := hD2.len
        by_cases hlt2 : a < K2.length
        · have HD2 := Lib.hid hD2
          have HV2 := Lib.hid hV2
          have HC2 := Lib.hid hC2
          clear hD2 hV2 hC2 hcell2 hown2 HD HV
          go_wp2_with fail
          go_loopw [41] (fun i wr2 => ∃ (b : Nat) (K : List Nat), b ≤ a + 1 ∧ i = .int .i64 b ∧ DS P M wp wr2 K ∧ (0 ∈ K ∧ ∀ y ∈ B, y ∈ K) ∧ a < K.length ∧ (∀ x y, y ≤ x → x < a → ClAt A K (nt K x) (nt K y)) ∧ ∀ y, y < b → ClAt A K (nt K a) (nt K y)) (fun i _ => 300 - (intOf i).toNat)
          case atStart => exact ⟨0, K2, by omega, rfl, HD2.out, HV2.out, hlt2, HC2.out, fun y hy => absurd hy (by omega)⟩
          case round =>
            obtain ⟨b, K3, hb, rfl, hD3, hV3, ha3, hC3, hB3⟩ := hrel
            have hgw3 := HG.out.trans hD3.gr
            have hlen3 := hD3.len
            clear HD2 HV2 HC2 k2
            by_cases hlt3 : b < a + 1
            · obtain ⟨A5, c5, hcell3, hown3⟩ := hD3.cell
              have hix := hown3.ints
              rcases hix.open_ with ⟨_, hnil⟩ | ⟨b5, o5, q5, hv5, hc5, hm5, hb5, hf5⟩
              · rw [← List.length_eq_zero_iff, zs_len] at hnil; omega
              rw [zs_len] at hv5 hc5 hf5
              simp only [Value.slice.injEq] at hv5
              obtain ⟨rfl, -, rfl⟩ := hv5
              have kA : ∀ W, Grew wr W → W.cell? ⟨b5, o5 + a, none⟩ = some (.int .i64 ((nt K3 a : Nat) : Int)) := fun W hW => by rw [hf5 a ha3 W hW, zs_it ha3]
              have kB : ∀ W, Grew wr W → W.cell? ⟨b5, o5 + b, none⟩ = some (.int .i64 ((nt K3 b : Nat) : Int)) := fun W hW => by rw [hf5 b (by omega) W hW, zs_it (by omega)]
              have hxP := hD3.lt _ (nt_mem (L := K3) (i := a) ha3)
              have hyP := hD3.lt _ (nt_mem (L := K3) (i := b) (by omega))
              have HD3 := Lib.hid hD3
              have HFX := Lib.hid (And.intro hV3 (And.intro hC3 hB3))
              obtain ⟨x, hx⟩ : ∃ x, nt K3 a = x := ⟨_, rfl⟩
              obtain ⟨y, hy⟩ : ∃ y, nt K3 b = y := ⟨_, rfl⟩
              rw [hx] at kA hxP
              rw [hy] at kB hyP
              have hxy := and_i64 x y (by omega) (by omega)
              have hxo := or_i64 x y (by omega) (by omega)
              have r5 := Grew.refl wr
              clear hD3 hV3 hC3 hB3 hix hf5 hown3
              go_wp2_with fail
              go_quiet (fail)
              have e0 := fun k => HD3.out.grew ((Grew.refl wr).drewN k)
              have hb3 : b < K3.length := by omega
              clear kA kB hcell3
              go_wp2_with fail
              refine (AD.out (x &&& y) _ K3 (e0 _) (hand.out x y hxP)).mono ?_
              rintro e w3 ⟨rfl, K4, hd4, he4, hm4⟩
              clear e0
              go_wp2_with fail
              refine (AD.out (x ||| y) _ K4 hd4 (hor.out x y hxP hyP)).mono ?_
              rintro e w4 ⟨rfl, K5, hd5, he5, hm5'⟩
              have g5 := hd5.gr
              have HD5 := Lib.hid hd5
              clear hd4 hd5
              go_wp2_with fail
              refine (KI.out x y _ (HG.out.trans g5) hxP hyP).mono ?_
              rintro e w5 ⟨rfl, hgi⟩
              have d6 := HD5.out.grew hgi
              clear HD5
              go_wp2_with fail
              refine (AD.out (ar A x y) _ K5 d6 (har.out x y)).mono ?_
              rintro e w6 ⟨rfl, K6, hd6, he6, hm6⟩
              have g6 := hd6.gr
              have HD6 := Lib.hid hd6
              clear hd6 d6 g5 hgi
              go_wp2_with fail
              refine (KI.out y x _ (HG.out.trans g6) hyP hxP).mono ?_
              rintro e w7 ⟨rfl, hgi⟩
              have d7 := HD6.out.grew hgi
              clear HD6
              go_wp2_with fail
              refine (AD.out (ar A y x) _ K6 d7 (har.out y x)).mono ?_
              rintro e w8 ⟨rfl, K8, hd8, he8, hm8⟩
              have HD8 := Lib.hid hd8
              clear hd8 d7 g6 hgi
              go_wp2_with fail
              go_roundw
              case rel =>
                have hE : Ext K3 K8 := ((he4.trans he5).trans he6).trans he8
                obtain ⟨⟨hv1, hv2⟩, hc3, hb3'⟩ := HFX.out
                refine ⟨b + 1, K8, by omega, by go_num, HD8.out, ⟨hE.mem hv1, fun q hq => hE.mem (hv2 q hq)⟩, Nat.lt_of_lt_of_le ha3 hE.len, fun p q hqp hpa => ?_, fun q hq => ?_⟩
                · rw [hE.nt (show p < K3.length by omega), hE.nt (show q < K3.length by omega)]
                  exact (hc3 p q hqp hpa).ext hE
                · rw [hE.nt ha3, hE.nt (show q < K3.length by omega)]
                  rcases Nat.lt_or_ge q b with h | h
                  · exact (hb3' q h).ext hE
                  · obtain rfl : q = b := by omega
                    rw [hx, hy]
                    exact ⟨((he5.trans he6).trans he8).mem hm4, (he6.trans he8).mem hm5', he8.mem hm6, hm8⟩
              case measure => simp [intOf]; omega
            · obtain rfl : b = a + 1 := by omega
              have HD3 := Lib.hid hD3
              have HFX := Lib.hid (And.intro hV3 (And.intro hC3 hB3))
              clear hD3 hV3 hC3 hB3
              go_wp2_with fail
              go_roundw
              case rel =>
                obtain ⟨hv3, hc3, hb3'⟩ := HFX.out
                refine ⟨a + 1, K3, by omega, by go_num, HD3.out, hv3, fun p q hqp hpa => ?_⟩
                rcases Nat.lt_or_ge p a with h | h
                · exact hc3 p q hqp h
                · obtain rfl : p = a := by omega
                  exact hb3' q (by omega)
              case measure => simp [intOf]; omega
        · obtain rfl : a = K2.length := by omega
          have HD2 := Lib.hid hD2
          have HV2 := Lib.hid hV2
          have HC2 := Lib.hid hC2
          have hgw2 := HG.out.trans hD2.gr
          have HOWN := Lib.hid hown2
          have HCELL := Lib.hid hcell2
          clear hD2 hV2 hC2 hown2 HD HV
          go_wp2_with fail
          refine (sortB_c (M + 3) _ _ (zs K2) HOWN.out (by rw [zs_len]; omega)).mono ?_
          rintro e w9 ⟨rfl, ho9, hg9⟩
          obtain ⟨A6, n6, c6, hc6, ho6⟩ := HD2.out.kn.out
          have hb9 : w9.heap[M + 1 + 1]? = some (.cells #[.slice A4 K2.length c4] 24 (0, 0)) := by
            have h1 := HCELL.out _ (Grew.refl _)
            rw [blk_cell hc6] at h1
            have h2 : Value.slice A6 n6 c6 = .slice A4 K2.length c4 := by simpa using h1
            rw [h2] at hc6
            exact (World.grownBy.block hg9 _ (blk_lt hc6) (fun he => by have := ownI_of_ge HOWN.out he.symm; omega)).trans hc6
          have c9 : w9.cell? ⟨M + 1 + 1, 0, none⟩ = some (.slice A4 K2.length c4) := by rw [blk_cell hb9]; rfl
          have g9 : Grew wp w9 := HD2.out.gr.grown hg9 (fun k hk => by have := ownI_of_ge HOWN.out hk; omega)
          have HO9 := Lib.hid ho9
          clear ho9 hg9 hb9 hc6 ho6
          go_wp2_with fail
          go_ret2
          refine ⟨_, _, rfl, HO9.out.ints, ⟨K2, ⟨HV2.out.1, HV2.out.2, ?_⟩, ?_⟩, HG.out.trans g9⟩
          · intro x hx y hy
            obtain ⟨p, hp, rfl⟩ := List.getElem_of_mem hx
            obtain ⟨q, hq, rfl⟩ := List.getElem_of_mem hy
            have e1 : K2[p] = nt K2 p := by simp [nt, List.getD, hp]
            have e2 : K2[q] = nt K2 q := by simp [nt, List.getD, hq]
            rw [e1, e2]
            rcases Nat.le_total q p with h | h
            · exact HC2.out p q h hp
            · obtain ⟨c1, c2, c3, c4⟩ := HC2.out q p h hq
              exact ⟨by rw [Nat.and_comm]; exact c1, by rw [Nat.or_comm]; exact c2, c4, c3⟩
          · intro x hx
            rw [List.mem_mergeSort]
            exact List.mem_map.2 ⟨x, hx, rfl⟩
end Go.Proofs.YtphljdhacbpkbaaGreat

/- FnMonotone, plain: values of formulas are in every closed list; they are upsets; on an upset's part they are what they were. No program is in sight. -/
namespace Go.Proofs.YtphljdhacbpkbaaGreat
open Go.RowKit
open Fm (Nd Tree)

theorem plain_two {A x y : Tree} (h : TwoF A x y) (hA : FmOk A) : FmOk x ∧ FmOk y := FmOk.bin h hA
theorem closed_fv {A V S : List Nat} (h : Closed A V S) (hV : V.length = 6) : ∀ t : Tree, FmOk t → fv A V t ∈ S
  | .var v, _ => by
    have hv := v.2
    exact h.2.1 _ (nt_mem (L := V) (i := v.val) (by omega))
  | .fls, _ => h.1
  | .and a b, ht => by
    obtain ⟨h1, h2⟩ := plain_two (two_and a b) ht
    exact (h.2.2 _ (closed_fv h hV a h1) _ (closed_fv h hV b h2)).1
  | .or a b, ht => by
    obtain ⟨h1, h2⟩ := plain_two (two_or a b) ht
    exact (h.2.2 _ (closed_fv h hV a h1) _ (closed_fv h hV b h2)).2.1
  | .imp a b, ht => by
    obtain ⟨h1, h2⟩ := plain_two (two_imp a b) ht
    exact (h.2.2 _ (closed_fv h hV a h1) _ (closed_fv h hV b h2)).2.2.1
  | .box a, ht => absurd (anyP_mem.1 ht.2 (5, 0) (by simp [Fm.enc])) (by simp [isBD])
  | .dia a, ht => absurd (anyP_mem.1 ht.2 (6, 0) (by simp [Fm.enc])) (by simp [isBD])
/-- What sees nothing outside. -/
def Up (A : List Nat) (m : Nat) : Prop := ∀ x z, x < A.length → m.testBit x = true → (nt A x).testBit z = true → m.testBit z = true
theorem up_fv {A V : List Nat} (hA : Rl A) (ht : ∀ x y z, x < A.length → (nt A x).testBit y = true → (nt A y).testBit z = true → (nt A x).testBit z = true) (hV : ∀ v ∈ V, Up A v) : ∀ t : Tree, Up A (fv A V t)
  | .var v => by
    intro x z hx h1 h2
    by_cases hl : v.val < V.length
    · exact hV _ (nt_mem (L := V) hl) x z hx h1 h2
    · have h0 : nt V v.val = 0 := by unfold nt; rw [List.getD_eq_getElem?_getD, List.getElem?_eq_none (by omega)]; rfl
      have h1 : (nt V v.val).testBit x = true := h1
      rw [h0, Nat.zero_testBit] at h1
      cases h1
  | .fls => by intro x z _ h1; rw [show fv A V .fls = 0 from rfl, Nat.zero_testBit] at h1; cases h1
  | .and a b => by
    intro x z hx h1 h2
    rw [show fv A V (.and a b) = fv A V a &&& fv A V b from rfl, Nat.testBit_and, Bool.and_eq_true] at h1 ⊢
    exact ⟨up_fv hA ht hV a x z hx h1.1 h2, up_fv hA ht hV b x z hx h1.2 h2⟩
  | .or a b => by
    intro x z hx h1 h2
    rw [show fv A V (.or a b) = fv A V a ||| fv A V b from rfl, Nat.testBit_or, Bool.or_eq_true] at h1 ⊢
    exact h1.imp (fun h => up_fv hA ht hV a x z hx h h2) (fun h => up_fv hA ht hV b x z hx h h2)
  | .imp a b => by
    intro x z hx h1 h2
    have h1' : (ar A (fv A V a) (fv A V b)).testBit x = true := h1
    show (ar A (fv A V a) (fv A V b)).testBit z = true
    rw [ar_bit hA] at h1' ⊢
    exact ⟨hA.bit hx h2, fun y hy => h1'.2 y (ht x z y hx h2 hy)⟩
  | .box a => by intro x z _ h1; rw [show fv A V (.box a) = 0 from rfl, Nat.zero_testBit] at h1; cases h1
  | .dia a => by intro x z _ h1; rw [show fv A V (.dia a) = 0 from rfl, Nat.zero_testBit] at h1; cases h1
end Go.Proofs.YtphljdhacbpkbaaGreat

/- FnMonotone, plain: an upset's part. No program is in sight. -/
namespace Go.Proofs.YtphljdhacbpkbaaGreat
open Go.RowKit
open Fm (Nd Tree)

theorem sqK_bit (m : Nat) (is : List Nat) (j : Nat) : ∀ k, (sqK m is k).testBit j = true ↔ j < k ∧ m.testBit (nt is j) = true
  | 0 => by
    show (0 : Nat).testBit j = true ↔ _
    rw [Nat.zero_testBit]
    constructor
    · intro h; cases h
    · rintro ⟨h, _⟩; omega
  | k + 1 => by
    have ih := sqK_bit m is j k
    cases hb : m.testBit (nt is k) with
    | true =>
      rw [sqK_yes hb, Nat.testBit_or, Bool.or_eq_true, ih, Nat.testBit_two_pow, decide_eq_true_eq]
      constructor
      · rintro (⟨h1, h2⟩ | h)
        · exact ⟨by omega, h2⟩
        · exact ⟨by omega, h ▸ hb⟩
      · rintro ⟨h1, h2⟩
        rcases Nat.lt_or_ge j k with h | h
        · exact .inl ⟨h, h2⟩
        · exact .inr (by omega)
    | false =>
      rw [sqK_no hb, ih]
      constructor
      · rintro ⟨h1, h2⟩; exact ⟨by omega, h2⟩
      · rintro ⟨h1, h2⟩
        rcases Nat.lt_or_ge j k with h | h
        · exact ⟨h, h2⟩
        · obtain rfl : j = k := by omega
          rw [hb] at h2; cases h2
theorem sqz_bit {x m j : Nat} : (sqz x m).testBit j = true ↔ j < (mbs m).length ∧ x.testBit (nt (mbs m) j) = true := sqK_bit _ _ _ _
theorem prt_nt {A : List Nat} {m k : Nat} (h : k < (mbs m).length) : nt (prt A m) k = sqz (nt A (nt (mbs m) k)) m := by
  unfold prt nt
  simp [List.getD, h]
theorem prt_length (A : List Nat) (m : Nat) : (prt A m).length = (mbs m).length := by simp [prt]
theorem sqz_lt (x m : Nat) : sqz x m < 2 ^ (mbs m).length := sqK_lt _ _ _
theorem prt_rl (A : List Nat) (m : Nat) : Rl (prt A m) := by
  refine ⟨prt_len A m, fun x hx => ?_⟩
  rw [prt_length]
  unfold prt at hx
  obtain ⟨y, _, rfl⟩ := List.mem_map.1 hx
  exact sqz_lt _ _
theorem sqa_nt {V : List Nat} {m v : Nat} (h : v < V.length) : nt (sqa V m) v = sqz (nt V v) m := by
  unfold sqa nt
  simp [List.getD, h]
/-- What a formula is worth on an upset's part. -/
theorem part_fv {A V : List Nat} {m : Nat} (hA : Rl A) (hm : m < 2 ^ A.length) (hup : Up A m) (hV : V.length = 6) : ∀ (t : Tree) (k : Nat), k < (mbs m).length →
    ((fv (prt A m) (sqa V m) t).testBit k = true ↔ (fv A V t).testBit (nt (mbs m) k) = true) := by
  have hm30 : m < 1073741824 := Nat.lt_of_lt_of_le hm (pow30' hA.1)
  intro t
  induction t with
  | var v =>
    intro k hk
    show (nt (sqa V m) v.val).testBit k = true ↔ (nt V v.val).testBit _ = true
    rw [sqa_nt (by omega), sqz_bit]
    exact ⟨fun h => h.2, fun h => ⟨hk, h⟩⟩
  | fls => intro k _; show (0 : Nat).testBit k = true ↔ (0 : Nat).testBit _ = true; simp
  | and a b ha hb =>
    intro k hk
    show (fv (prt A m) (sqa V m) a &&& fv (prt A m) (sqa V m) b).testBit k = true ↔ (fv A V a &&& fv A V b).testBit _ = true
    rw [Nat.testBit_and, Nat.testBit_and, Bool.and_eq_true, Bool.and_eq_true, ha k hk, hb k hk]
  | or a b ha hb =>
    intro k hk
    show (fv (prt A m) (sqa V m) a ||| fv (prt A m) (sqa V m) b).testBit k = true ↔ (fv A V a ||| fv A V b).testBit _ = true
    rw [Nat.testBit_or, Nat.testBit_or, Bool.or_eq_true, Bool.or_eq_true, ha k hk, hb k hk]
  | imp a b ha hb =>
    intro k hk
    show (ar (prt A m) (fv (prt A m) (sqa V m) a) (fv (prt A m) (sqa V m) b)).testBit k = true ↔ (ar A (fv A V a) (fv A V b)).testBit _ = true
    have hmem := nt_mem (L := mbs m) (i := k) hk
    have hlt := mbs_lt hm hmem
    have hmb := (mbs_mem hm30).1 hmem
    rw [ar_bit (prt_rl A m), ar_bit hA]
    constructor
    · rintro ⟨_, h⟩
      refine ⟨hlt, fun z hz haz => ?_⟩
      have hmz := hup _ z hlt hmb hz
      obtain ⟨j, hj, hjz⟩ := List.getElem_of_mem ((mbs_mem hm30).2 hmz)
      have hjn : nt (mbs m) j = z := by rw [← hjz]; simp [nt, List.getD, hj]
      have := h j (by rw [prt_nt hk, sqz_bit, hjn]; exact ⟨hj, hz⟩) ((ha j hj).2 (by rw [hjn]; exact haz))
      rw [← hjn]
      exact (hb j hj).1 this
    · rintro ⟨_, h⟩
      refine ⟨by rw [prt_length]; exact hk, fun z hz haz => ?_⟩
      rw [prt_nt hk, sqz_bit] at hz
      exact (hb z hz.1).2 (h _ hz.2 ((ha z hz.1).1 haz))
  | box a _ => intro k _; show (0 : Nat).testBit k = true ↔ (0 : Nat).testBit _ = true; simp
  | dia a _ => intro k _; show (0 : Nat).testBit k = true ↔ (0 : Nat).testBit _ = true; simp
end Go.Proofs.YtphljdhacbpkbaaGreat

/- FnMonotone, plain: an upset's part is a poset, its values are a valuation. No program is in sight. -/
namespace Go.Proofs.YtphljdhacbpkbaaGreat
open Go.RowKit
open Fm (Nd Tree)

theorem nats_zs (X : List Nat) : nats (zs X) = X := by
  unfold nats zs
  rw [List.map_map]
  have : (Int.toNat ∘ fun i : Nat => (i : Int)) = id := by funext i; simp
  rw [this, List.map_id]
theorem refl_iff {A : List Nat} : reflB A = true ↔ ∀ x, x < A.length → (nt A x).testBit x = true := by
  unfold reflB
  rw [allB_iff]
theorem anti_iff {A : List Nat} : antiB A = true ↔ ∀ x y, x < A.length → y < A.length → (nt A x).testBit y = true → (nt A y).testBit x = true → x = y := by
  unfold antiB
  rw [allB_iff]
  constructor
  · intro h x y hx hy h1 h2
    have h3 := allB_iff.1 (h x hx) y hy
    unfold antiX at h3
    rw [h1, h2] at h3
    simpa using h3
  · intro h x hx
    refine allB_iff.2 fun y hy => ?_
    unfold antiX
    cases h1 : (nt A x).testBit y with
    | false => rfl
    | true =>
      cases h2 : (nt A y).testBit x with
      | false => simp
      | true =>
        have := h x y hx hy h1 h2
        simp [this]
/-- Different members of a mask lie at different places. -/
theorem mbs_inj {m i j : Nat} (hi : i < (mbs m).length) (hj : j < (mbs m).length) (h : nt (mbs m) i = nt (mbs m) j) : i = j := by
  have hn : (mbs m).Nodup := List.Nodup.sublist List.filter_sublist List.nodup_range
  have e1 : nt (mbs m) i = (mbs m)[i] := by simp [nt, List.getD, hi]
  have e2 : nt (mbs m) j = (mbs m)[j] := by simp [nt, List.getD, hj]
  rw [e1, e2] at h
  have hp := List.pairwise_iff_getElem.1 hn
  rcases Nat.lt_trichotomy i j with hlt | he | hgt
  · exact absurd h (hp i j hi hj hlt)
  · exact he
  · exact absurd h.symm (hp j i hj hi hgt)
theorem mbs_length {m n : Nat} (hm : m < 2 ^ n) : (mbs m).length ≤ n := by
  refine nodup_lt_len n (mbs m) (List.Nodup.sublist List.filter_sublist List.nodup_range) fun x hx => mbs_lt hm hx
theorem mks_of {n : Nat} {X : List Nat} (h : ∀ x ∈ X, x < 2 ^ n) : mks n (zs X) = true := by
  unfold mks
  rw [List.all_eq_true]
  intro z hz
  unfold zs at hz
  obtain ⟨x, hx, rfl⟩ := List.mem_map.1 hz
  exact mk_yes (h x hx)
theorem part_pos {A : List Nat} {m : Nat} (hm : m < 2 ^ A.length) (h8 : A.length ≤ 8) (hA : Rl A) (hr : reflB A = true) (ht : Trn A) (ha : antiB A = true) : posB ((prt A m).length : Int) (zs (prt A m)) = true := by
  have hm30 : m < 1073741824 := Nat.lt_of_lt_of_le hm (pow30' hA.1)
  have hl := mbs_length hm
  have hR := prt_rl A m
  have hpl := prt_length A m
  have hin : ∀ k, k < (mbs m).length → nt (mbs m) k < A.length := fun k hk => mbs_lt hm (nt_mem hk)
  unfold posB
  rw [zs_len, nats_zs, mks_of hR.2, decide_eq_true (show (0 : Int) ≤ ((prt A m).length : Int) ∧ ((prt A m).length : Int) ≤ 8 by omega), decide_eq_true rfl]
  simp only [Bool.true_and, Bool.and_eq_true]
  refine ⟨refl_iff.2 fun x hx => ?_, (transB_iff hR).2 ?_, anti_iff.2 fun x y hx hy h1 h2 => ?_⟩
  · rw [hpl] at hx
    rw [prt_nt hx, sqz_bit]
    exact ⟨hx, refl_iff.1 hr _ (hin x hx)⟩
  · intro x y z hx h1 h2
    rw [hpl] at hx
    rw [prt_nt hx, sqz_bit] at h1 ⊢
    rw [prt_nt h1.1, sqz_bit] at h2
    exact ⟨h2.1, ht _ _ _ (hin x hx) h1.2 h2.2⟩
  · rw [hpl] at hx hy
    rw [prt_nt hx, sqz_bit] at h1
    rw [prt_nt hy, sqz_bit] at h2
    exact mbs_inj hx hy (anti_iff.1 ha _ _ (hin x hx) (hin y hy) h1.2 h2.2)
/-- An upset by its image. -/
theorem upB_iff {A : List Nat} (hA : Rl A) (hr : reflB A = true) {m : Nat} : upB A (m : Int) = true ↔ m < 2 ^ A.length ∧ Up A m := by
  unfold upB
  rw [Bool.and_eq_true, decide_eq_true_eq, Int.toNat_natCast]
  constructor
  · rintro ⟨h1, h2⟩
    have hm : m < 2 ^ A.length := (mk_nat h1).2
    refine ⟨hm, fun x z hx hxm hz => ?_⟩
    rw [← h2, img_bit (Nat.lt_of_lt_of_le hm (pow30' hA.1))]
    exact ⟨x, hxm, hz⟩
  · rintro ⟨hm, hup⟩
    refine ⟨mk_yes hm, Nat.eq_of_testBit_eq fun x => ?_⟩
    rw [Bool.eq_iff_iff, img_bit (Nat.lt_of_lt_of_le hm (pow30' hA.1))]
    constructor
    · rintro ⟨j, hj, hz⟩
      exact hup j x (bit_lt hm hj) hj hz
    · intro hx
      exact ⟨x, hx, refl_iff.1 hr x (bit_lt hm hx)⟩
theorem part_val {sz : Int} {L V : List Int} (hv : valB sz L V = true) {m : Nat} (hm : m < 2 ^ (nats L).length) : valB ((prt (nats L) m).length : Int) (zs (prt (nats L) m)) (zs (sqa (nats V) m)) = true := by
  obtain ⟨hp, h6, hall⟩ := val_ok hv
  obtain ⟨_, h8, hA, _, _, hr, ht, ha⟩ := posB_ok hp
  have ht' := (transB_iff hA).1 ht
  have h8' : (nats L).length ≤ 8 := by rw [nats_len]; exact h8
  obtain ⟨_, _, _, hzV, hV6, hVlt⟩ := mn_val hv
  have hpp := part_pos hm h8' hA hr ht' ha
  obtain ⟨_, _, hA', _, _, hr', _⟩ := posB_ok hpp
  rw [nats_zs] at hA' hr'
  unfold valB
  rw [hpp, nats_zs, zs_len]
  simp only [Bool.true_and, Bool.and_eq_true, decide_eq_true_eq]
  refine ⟨by simp [sqa, hV6], ?_⟩
  rw [List.all_eq_true]
  intro z hz
  unfold zs at hz
  obtain ⟨x, hx, rfl⟩ := List.mem_map.1 hz
  unfold sqa at hx
  obtain ⟨y, hy, rfl⟩ := List.mem_map.1 hx
  have hyu : upB (nats L) (y : Int) = true := by
    rw [List.all_eq_true] at hall
    refine hall _ ?_
    rw [← hzV]
    exact List.mem_map.2 ⟨y, hy, rfl⟩
  obtain ⟨_, hyup⟩ := (upB_iff hA hr).1 hyu
  refine (upB_iff hA' hr').2 ⟨by rw [prt_length]; exact sqz_lt _ _, fun a b ha1 h1 h2 => ?_⟩
  rw [prt_length] at ha1
  rw [sqz_bit] at h1 ⊢
  rw [prt_nt ha1, sqz_bit] at h2
  exact ⟨h2.1, hyup _ _ (mbs_lt hm (nt_mem ha1)) h1.2 h2.2⟩
end Go.Proofs.YtphljdhacbpkbaaGreat

/- FnMonotone: PartOfValuation of the program at a good poset, valuation and mask. -/
namespace Go.Proofs.YtphljdhacbpkbaaGreat
open Go.RowKit

set_option maxHeartbeats 2000000 in
set_option maxRecDepth 20000 in
theorem partVal_c (sz : Int) (v u : Value) (L V : List Int) (m : Nat) (w : World) (h : Ints w v L) (hu : Ints w u V) (hv : valB sz L V = true) (hm : m < 2 ^ L.length) :
    Calls Tryz.prog 14 #[.agg #[.int .i64 sz, v], u, .int .i64 (m : Int)] w (GivesCD w (zs (prt (nats L) m), zs (sqa (nats V) m), 0)) := by
  have hinfo := info2P
  have HV := Lib.hid (fun W hW => isValuation_c sz v u L V W (h.grew hW) (hu.grew hW))
  rw [hv] at HV
  obtain ⟨hsl, hzL, hA, hzV, hV6, hVlt⟩ := mn_val hv
  have hl8 : L.length ≤ 8 := (posB_ok (val_ok hv).1).2.1
  have hm30 : m < 1073741824 := Nat.lt_of_lt_of_le hm (pow30' (by omega))
  have HM := Lib.hid (fun W => isMask_c L.length (m : Int) (by omega) W)
  rw [mk_yes hm] at HM
  have hSm : Sm (nats V) := fun x hx => Nat.lt_of_lt_of_le (hVlt x hx) (pow30' hA.1)
  have HSq := Lib.hid (fun W (hW : Grew w W) => squeezeAll_c u (nats V) m W (by rw [hzV]; exact hu.grew hW) hSm hm30 (by omega))
  have HOn := Lib.hid (fun W (hW : Grew w W) => on_c sz v (nats L) m W (by rw [hzL]; exact h.grew hW) hA (by rw [nats_len]; exact hm))
  have HB0 := Lib.hid ((((Grew.refl w).alloc (.cells #[.int .i64 sz, v] 26)).alloc (.cells #[.int .i64 0, .slice none 0 0] 26)))
  have y0 : ∀ W, Grew ((w.alloc (.cells #[.int .i64 sz, v] 26)).alloc (.cells #[.int .i64 0, .slice none 0 0] 26)) W → W.heap[w.heap.size]? = some (.cells #[.int .i64 sz, v] 26 (0, 0)) :=
    fun W hW => ((((Grew.refl (w.alloc (.cells #[.int .i64 sz, v] 26))).alloc (.cells #[.int .i64 0, .slice none 0 0] 26)).trans hW).block (by simp)).trans (blk_new w _)
  have y1 : ∀ W, Grew ((w.alloc (.cells #[.int .i64 sz, v] 26)).alloc (.cells #[.int .i64 0, .slice none 0 0] 26)) W → W.heap[w.heap.size + 1]? = some (.cells #[.int .i64 0, .slice none 0 0] 26 (0, 0)) :=
    fun W hW => (hW.block (by simp)).trans (by
      have h := blk_new (w.alloc (.cells #[.int .i64 sz, v] 26)) (.cells #[.int .i64 0, .slice none 0 0] 26)
      have e : (w.alloc (.cells #[.int .i64 sz, v] 26)).heap.size = w.heap.size + 1 := by simp
      rwa [e] at h)
  have hs : ((w.alloc (.cells #[.int .i64 sz, v] 26)).alloc (.cells #[.int .i64 0, .slice none 0 0] 26)).heap.size = w.heap.size + 2 := by simp
  obtain ⟨w1, hw1⟩ : ∃ w1, w1 = (w.alloc (.cells #[.int .i64 sz, v] 26)).alloc (.cells #[.int .i64 0, .slice none 0 0] 26) := ⟨_, rfl⟩
  rw [← hw1] at y0 y1 HB0 hs
  have Y0 := Lib.hid y0
  have Y1 := Lib.hid y1
  have HSZ := Lib.hid hs
  clear y0 y1 hs
  obtain ⟨A, c, rfl⟩ := ints_slice h
  obtain ⟨A2, c2, rfl⟩ := ints_slice hu
  subst hsl
  clear h hu hv hm hzL hA hzV hV6 hVlt hSm hm30
  generalize zs (prt (nats L) m) = R1 at *
  generalize zs (sqa (nats V) m) = R2 at *
  generalize L.length = n at *
  generalize V.length = n2 at *
  go_enter Tryz.func14, Tryz.ntmps14
  go_wp2_with fail
  simp only [← hw1]
  refine (HV.out _ HB0.out).mono ?_
  rintro e w2 ⟨rfl, hg2⟩
  have q2 := Y0.out _ hg2
  have d0 : w2.cell? ⟨w.heap.size, 0, none⟩ = some (.int .i64 (n : Int)) := by rw [blk_cell q2]; rfl
  have d1 : w2.cell? ⟨w.heap.size, 1, none⟩ = some (.slice A n c) := by rw [blk_cell q2]; rfl
  clear q2
  go_wp2_with fail
  refine (HM.out _).mono ?_
  rintro e w3 ⟨rfl, hg3⟩
  have g3 := hg2.trans hg3
  have q3 := Y0.out _ g3
  have e0 : w3.cell? ⟨w.heap.size, 0, none⟩ = some (.int .i64 (n : Int)) := by rw [blk_cell q3]; rfl
  have e1 : w3.cell? ⟨w.heap.size, 1, none⟩ = some (.slice A n c) := by rw [blk_cell q3]; rfl
  clear q3 d0 d1 hg3
  go_wp2_with fail
  refine (HOn.out _ (HB0.out.trans g3)).mono ?_
  rintro e w4 ⟨v4, rfl, hO4, hg4⟩
  obtain ⟨A4, c4, rfl⟩ := ints_slice hO4.ints
  have HO4 := Lib.hid hO4
  have g4 := g3.trans hg4
  have hsz3 := g3.size
  have h2sz := HSZ.out
  clear e0 e1 hO4
  go_wp2_with fail
  refine (HSq.out _ (HB0.out.trans g4)).mono ?_
  rintro e w5 ⟨u5, rfl, hO5, hg5⟩
  obtain ⟨A5, c5, rfl⟩ := ints_slice hO5.ints
  have HO5 := Lib.hid hO5
  have g5 := g4.trans hg5
  have hsz4 := hg4.size
  have q5 := Y1.out _ g5
  have f0 := blk_frozen q5 0
  have f1 := blk_frozen q5 1
  have k0 : w5.cell? ⟨w.heap.size + 1, 0, none⟩ = some (.int .i64 0) := by rw [blk_cell q5]; rfl
  have k1 : w5.cell? ⟨w.heap.size + 1, 1, none⟩ = some (.slice none 0 0) := by rw [blk_cell q5]; rfl
  have HB := Lib.hid q5
  clear q5 hO5
  go_wp2_with fail
  (try simp only [Exit.inBlock, Exit.then])
  refine bodyPost_ret (results_cell_tmp2_row rfl _ _ (w.heap.size + 1) _ _ _ _ rfl (blk_set (blk_set HB.out 0 _) 1 _) Tryz.underlying26 rfl hinfo) rfl ?_
  have hk : Only (w.heap.size + 1) w5 ((w5.setCell ⟨w.heap.size + 1, 0, none⟩ (.int .i64 (R1.length : Int))).setCell ⟨w.heap.size + 1, 1, none⟩ (.slice A4 R1.length c4)) := ((Only.refl _ _).setCell _).setCell _
  refine ⟨_, _, rfl, ?_, ?_, ?_, ((HB0.out.trans g5).setCell (Nat.le_succ _) _).setCell (Nat.le_succ _) _⟩
  · exact OwnI.base (own_only (HO4.out.grew hg5) hk (fun hh => by have := (World.ownsRow.lt HO4.out _ hh).1; omega)) (by omega)
  · exact OwnI.base (own_only HO5.out hk (fun hh => by have := (World.ownsRow.lt HO5.out _ hh).1; omega)) (by omega)
  · intro g hg hg'
    have h1 := (World.ownsRow.lt HO5.out g hg').1
    have h2 := (World.ownsRow.lt HO4.out g hg).2
    omega
end Go.Proofs.YtphljdhacbpkbaaGreat

/- FnMonotone: contracts on the part of a poset on an upset, turned for the law's walk. -/
namespace Go.Proofs.YtphljdhacbpkbaaGreat
open Go.RowKit
open Fm (Nd Tree)

theorem isVal2_c (sz : Int) (v u : Value) (L V : List Int) (w : World) (h : Ints w v L) (hu : Ints w u V) :
    Calls Tryz.prog 16 #[.agg #[.int .i64 sz, v], u] w fun e w' => e = .returned (.bool (valB sz L V)) ∧ Grew w w' := by
  have hal := (Grew.refl w).alloc (.cells #[.int .i64 sz, v] 26)
  have y0 : ∀ W, Grew (w.alloc (.cells #[.int .i64 sz, v] 26)) W → W.cell? ⟨w.heap.size, 0, none⟩ = some (.int .i64 sz) := fun W hW => (hW.cell (p := ⟨w.heap.size, 0, none⟩) (by simp)).trans (by simp)
  have y1 : ∀ W, Grew (w.alloc (.cells #[.int .i64 sz, v] 26)) W → W.cell? ⟨w.heap.size, 1, none⟩ = some v := fun W hW => (hW.cell (p := ⟨w.heap.size, 1, none⟩) (by simp)).trans (by simp)
  have r1 := Grew.refl (w.alloc (.cells #[.int .i64 sz, v] 26))
  have HG := Lib.hid hal
  have KV := Lib.hid (fun W (hW : Grew w W) => isValuation_c sz v u L V W (h.grew hW) (hu.grew hW))
  obtain ⟨A, c, rfl⟩ := ints_slice h
  obtain ⟨A2, c2, rfl⟩ := ints_slice hu
  clear h hu hal
  generalize valB sz L V = q at *
  generalize L.length = n1 at *
  generalize V.length = n2 at *
  go_enter Tryz.func16, Tryz.ntmps16
  go_wp2_with fail
  refine (KV.out _ HG.out).mono ?_
  rintro e w1 ⟨rfl, hg1⟩
  go_wp2_with fail
  go_ret
  exact ⟨rfl, HG.out.trans hg1⟩

theorem partVal2_c (v u : Value) (L V : List Int) (m : Nat) (w : World) (h : Ints w v L) (hu : Ints w u V) (hv : valB (L.length : Int) L V = true) (hm : m < 2 ^ L.length) :
    Calls Tryz.prog 14 #[.agg #[.int .i64 (L.length : Int), v], u, .int .i64 (m : Int)] w fun e w' => ∃ vq vp, e = .returned (.tuple #[.agg #[.int .i64 ((prt (nats L) m).length : Int), vq], vp, .int .i64 0]) ∧ Ints w' vq (zs (prt (nats L) m)) ∧ Ints w' vp (zs (sqa (nats V) m)) ∧ Grew w w' := by
  refine (partVal_c _ v u L V m w h hu hv hm).mono ?_
  rintro e w' ⟨a, b, he, q1, q2, _, q3⟩
  refine ⟨a, b, ?_, q1.ints, q2.ints, q3⟩
  rw [he]
  show Ending.returned (.tuple #[.agg #[.int .i64 ((zs (prt (nats L) m)).length : Int), a], b, .int .i64 0]) = _
  rw [zs_len]

theorem fsPart_c {L V : List Int} {t : Tree} (hv : valB (L.length : Int) L V = true) (ht : FmOk t) (va : Value) (w : World) (hx : Nodes w va (Fm.enc t)) (nx : (Fm.enc t).length ≤ 1048576) (m : Nat) (hm : m < 2 ^ L.length) (vq vp : Value) (W : World) (hW : Grew w W) (hq : Ints W vq (zs (prt (nats L) m))) (hpv : Ints W vp (zs (sqa (nats V) m))) :
    Calls Tryz.prog 6 #[.agg #[.int .i64 ((prt (nats L) m).length : Int), vq], vp, va] W fun e w' => e = .returned (.tuple #[.int .i64 ((fv (prt (nats L) m) (sqa (nats V) m) t : Nat) : Int), .int .i64 0]) ∧ Grew W w' := by
  have hpv2 := part_val hv (m := m) (by rw [nats_len]; exact hm)
  have hq0 := implFs_c ((prt (nats L) m).length : Int) vq vp va (zs (prt (nats L) m)) (zs (sqa (nats V) m)) (Fm.enc t) W hq hpv (hx.grew hW) nx
  have e0 : fcF ((prt (nats L) m).length : Int) (zs (prt (nats L) m)) (zs (sqa (nats V) m)) (Fm.enc t) = 0 := by
    unfold fcF
    rw [hpv2, fmB_enc0 ht, ht.2]
    rfl
  rw [e0, fs_ok hpv2 ht, nats_zs, nats_zs] at hq0
  exact hq0

theorem isValPart_c {L V : List Int} (hv : valB (L.length : Int) L V = true) (m : Nat) (hm : m < 2 ^ L.length) (vq vp : Value) (W : World) (hq : Ints W vq (zs (prt (nats L) m))) (hpv : Ints W vp (zs (sqa (nats V) m))) :
    Calls Tryz.prog 16 #[.agg #[.int .i64 ((prt (nats L) m).length : Int), vq], vp] W fun e w' => e = .returned (.bool true) ∧ Grew W w' := by
  have hq0 := isVal2_c ((prt (nats L) m).length : Int) vq vp (zs (prt (nats L) m)) (zs (sqa (nats V) m)) W hq hpv
  rwa [part_val hv (m := m) (by rw [nats_len]; exact hm)] at hq0

theorem fvPart_lt (A V : List Nat) (t : Tree) (m : Nat) : fv (prt A m) (sqa V m) t < 1073741824 :=
  fv_sm (prt_rl A m) (V := sqa V m) (fun x hx => by
    unfold sqa at hx
    obtain ⟨y, _, rfl⟩ := List.mem_map.1 hx
    rw [prt_length]
    exact sqz_lt _ _) t
theorem upK_at {A : List Nat} (hA : Rl A) (hr : reflB A = true) {P : Nat} (k : Nat) (hk : k < (upK A P).length) : nt (upK A P) k < P ∧ Up A (nt (upK A P) k) := by
  obtain ⟨a, b⟩ := upK_mem (nt_mem hk)
  exact ⟨a, ((upB_iff hA hr).1 b).2⟩
theorem upK_pos {A : List Nat} (hA : Rl A) (hr : reflB A = true) : 0 < (upK A (2 ^ A.length)).length := by
  refine List.length_pos_of_mem (a := 0) ?_
  unfold upK
  rw [List.mem_filter, List.mem_range]
  exact ⟨Nat.pow_pos (by omega), (upB_iff hA hr).2 ⟨Nat.pow_pos (by omega), fun x z _ h => by rw [Nat.zero_testBit] at h; cases h⟩⟩
end Go.Proofs.YtphljdhacbpkbaaGreat

/- The source made: l01From; the damage: l01Damage. -/
namespace Go.Proofs.YtphljdhacbpkbaaGreat
open Go.RowKit

/-- The bytes that came in. -/
def ArgB (w : World) (v : Value) (N : Nat) : Prop :=
  (∃ A c, v = .slice A N c) ∧ N ≤ 9223372036854775807 ∧ (0 < N → ∃ b o c, v = .slice (some ⟨b, o, none⟩) N c ∧ b < w.heap.size ∧ N ≤ c ∧ c ≤ 9223372036854775807 ∧ ∀ j, j < N → ∃ x : Int, 0 ≤ x ∧ x ≤ 255 ∧ w.cell? ⟨b, o + j, none⟩ = some (.int .u8 x))
theorem ArgB.code {w w' : World} {v : Value} {N g : Nat} (h : ArgB w v N) (hN : N ≤ 4096) (hg : Grew w w') (hl : w.heap.size ≤ g) : Code w' g v N := by
  obtain ⟨h1, _, h2⟩ := h
  refine ⟨hN, h1, fun hp => ?_⟩
  obtain ⟨b, o, c, e, hb, hc, hm, hx⟩ := h2 hp
  refine ⟨b, o, c, e, by omega, hc, hm, fun j hj => ?_⟩
  obtain ⟨x, x0, x1, hcell⟩ := hx j hj
  exact ⟨x, x0, x1, (hg.cell (p := ⟨b, o + j, none⟩) hb).trans hcell⟩

theorem l01From_c (v : Value) (N : Nat) (w : World) (h : ArgB w v N) (hN : N ≤ 4096) :
    Calls Tryz.prog 18 #[v] w fun e w' => ∃ g, e = .returned (.pointer (some ⟨g, 0, none⟩)) ∧ w.heap.size ≤ g ∧ Src w' g v N ∧ Grew w w' := by
  have HC := Lib.hid (fun w' (hg : Grew w w') => h.code hN hg (Nat.le_refl w.heap.size))
  obtain ⟨⟨A, c, rfl⟩, hmax, h2⟩ := h
  have H2 := Lib.hid h2
  clear h2
  go_enter Tryz.func18, Tryz.ntmps18
  go_wp2_with fail
  have hnew := fun o => blk_new w o
  go_loopw [4] (fun i wr => ∃ (j : Nat) (x : Int), j ≤ N ∧ i = .int .i64 j ∧ 0 ≤ x ∧ x ≤ 18446744073709551615 ∧ wr.heap[w.heap.size]? = some (.cells #[.slice A N c, .int .i64 0, .int .u64 x] 68 (0, 0)) ∧ Grew w wr) (fun i _ => N - (intOf i).toNat)
  case atStart => exact ⟨0, _, Nat.zero_le _, rfl, by omega, by omega, hnew _, (Grew.refl w).alloc _⟩
  case round =>
    obtain ⟨j, x, hj, rfl, hx0, hx1, hb, hB⟩ := hrel
    by_cases hlt : j < N
    · obtain ⟨b, o, c', e, hbg, hc, hm, hx⟩ := H2.out (by omega)
      obtain ⟨y, hy0, hy1, k1⟩ := hx j hlt
      obtain ⟨rfl, rfl⟩ : A = some ⟨b, o, none⟩ ∧ c = c' := by simpa using e
      have k2 := (hB.cell (p := ⟨b, o + j, none⟩) hbg).trans k1
      have c2 : wr.cell? ⟨w.heap.size, 2, none⟩ = some (.int .u64 x) := by rw [blk_cell hb]; rfl
      have f2 := blk_frozen hb 2
      have HB := Lib.hid hb
      have h4 : (j : Int) < 4096 := by omega
      clear hb e hx k1
      go_wp2_with fail
      have hw0 : ∀ z : Int, 0 ≤ IntKind.u64.wrap z := fun z => by rw [IntKind.wrap_u64]; omega
      have hw1 : ∀ z : Int, IntKind.u64.wrap z ≤ 18446744073709551615 := fun z => by rw [IntKind.wrap_u64]; omega
      have HW0 := Lib.hid hw0
      have HW1 := Lib.hid hw1
      clear hw0 hw1
      go_region
      go_wp2_with fail
      go_roundw
      case rel => exact ⟨j + 1, _, by omega, by go_num, HW0.out _, HW1.out _, blk_set (w := wr.drewN _) HB.out 2 _, (hB.drewN _).setCell (Nat.le_refl _) _⟩
      case measure => simp [intOf]; omega
    · go_wp2_with fail
      go_ret
      exact ⟨_, rfl, Nat.le_refl _, ⟨HC.out _ hB, 0, x, Nat.zero_le _, hx0, hx1, hb⟩, hB⟩
end Go.Proofs.YtphljdhacbpkbaaGreat

/- FnMonotone: the laws' dice (as the source of the drawn inputs). -/
namespace Go.Proofs.YtphljdhacbpkbaaGreat
open Go.RowKit

def Dice (w : World) (g : Nat) (v : Value) (N : Nat) : Prop :=
  Code w g v N ∧ ∃ (i : Nat) (h : Int), i ≤ N ∧ 0 ≤ h ∧ h ≤ 18446744073709551615 ∧ w.heap[g]? = some (.cells #[v, .int .i64 i, .int .u64 h] 62 (0, 0))
theorem Dice.lt {w : World} {g : Nat} {v : Value} {N : Nat} (h : Dice w g v N) : g < w.heap.size := by
  obtain ⟨_, _, _, _, _, _, h⟩ := h
  exact blk_lt h
theorem Dice.grew {w w' : World} {g : Nat} {v : Value} {N : Nat} (h : Dice w g v N) (hg : Grew w w') : Dice w' g v N := by
  have hl := h.lt
  obtain ⟨h1, i, x, h2, h3, h4, h5⟩ := h
  exact ⟨h1.only hl hg.only, i, x, h2, h3, h4, (hg.block hl).trans h5⟩

theorem below_c (g : Nat) (v : Value) (N : Nat) (n : Int) (w : World) (h : Dice w g v N) (hn : n ≤ 9223372036854775807) :
    Calls Tryz.prog 13 #[.pointer (some ⟨g, 0, none⟩), .int .i64 n] w fun e w' => ∃ r : Int, e = .returned (.int .i64 r) ∧ 0 ≤ r ∧ (1 ≤ n → r < n) ∧ (n < 1 → r = 0) ∧ Dice w' g v N ∧ Only g w w' := by
  by_cases h1 : n < 1
  · have HS := Lib.hid h
    clear h
    go_enter Tryz.func13, Tryz.ntmps13
    go_wp2_with fail
    go_ret
    exact ⟨_, rfl, by omega, fun h => absurd h (by omega), fun _ => rfl, HS.out, Only.refl _ _⟩
  obtain ⟨hC, i, hh, hi, hh0, hh1, hb⟩ := h
  have c0 : w.cell? ⟨g, 0, none⟩ = some v := by rw [blk_cell hb]; rfl
  have c1 : w.cell? ⟨g, 1, none⟩ = some (.int .i64 i) := by rw [blk_cell hb]; rfl
  have c2 : w.cell? ⟨g, 2, none⟩ = some (.int .u64 hh) := by rw [blk_cell hb]; rfl
  have f1 := blk_frozen hb 1
  have f2 := blk_frozen hb 2
  obtain ⟨A, c, rfl⟩ := hC.2.1
  have hN := hC.1
  have HB := Lib.hid hb
  have HC := Lib.hid hC
  clear hb hC
  go_enter Tryz.func13, Tryz.ntmps13
  go_wp2_with fail
  have hX0 : 0 ≤ IntKind.u64.wrap (IntKind.u64.wrap (hh * 6364136223846793005) + 1442695040888963407) := by rw [IntKind.wrap_u64]; omega
  have hX1 : IntKind.u64.wrap (IntKind.u64.wrap (hh * 6364136223846793005) + 1442695040888963407) ≤ 18446744073709551615 := by rw [IntKind.wrap_u64]; omega
  generalize IntKind.u64.wrap (IntKind.u64.wrap (hh * 6364136223846793005) + 1442695040888963407) = X at *
  obtain ⟨hY0, hY1⟩ := small_hash X hX0 hX1
  generalize wrap64 (bits .and .u64 (X / 8589934592) 16777215) = Y at *
  have hb1 := blk_set HB.out 2 (.int .u64 X)
  have ho1 := (Only.refl g w).setCell (o := 2) (.int .u64 X)
  have hC1 := HC.out.only (blk_lt HB.out) ho1
  clear c0 c1 c2 f1 f2 HB HC
  generalize w.setCell ⟨g, 2, none⟩ (.int .u64 X) = w1 at *
  have c0 : w1.cell? ⟨g, 0, none⟩ = some (.slice A N c) := by rw [blk_cell hb1]; rfl
  have c1 : w1.cell? ⟨g, 1, none⟩ = some (.int .i64 i) := by rw [blk_cell hb1]; rfl
  have f1 := blk_frozen hb1 1
  have HB := Lib.hid hb1
  clear hb1
  by_cases hlt : i < N
  · obtain ⟨b, o, c', e, hbg, hc, hm, hx⟩ := hC1.2.2 (by omega)
    obtain ⟨x, hx0, hx1, k1⟩ := hx i hlt
    obtain ⟨rfl, rfl⟩ : A = some ⟨b, o, none⟩ ∧ c = c' := by simpa using e
    have HC := Lib.hid hC1
    clear hC1 e hx
    go_quiet (fail)
    go_wp2_with fail
    go_quiet (fail)
    go_wp2_with fail
    go_ret
    exact ⟨_, rfl, Int.emod_nonneg _ (by omega), fun _ => Int.emod_lt_of_pos _ (by omega), fun h => absurd h (by omega), ⟨HC.out.only (blk_lt HB.out) (Only.setCell ((Only.refl g w1).drewN _) _), i + 1, X, by omega, hX0, hX1, blk_set (w := w1.drewN _) HB.out 1 _⟩, ho1.trans (Only.setCell ((Only.refl g w1).drewN _) _)⟩
  · have HC := Lib.hid hC1
    clear hC1
    go_quiet (fail)
    go_wp2_with fail
    go_ret
    exact ⟨_, rfl, Int.emod_nonneg _ (by omega), fun _ => Int.emod_lt_of_pos _ (by omega), fun h => absurd h (by omega), ⟨HC.out.only (blk_lt HB.out) ((Only.refl g w1).drewN _), i, X, by omega, hX0, hX1, HB.out⟩, ho1.drewN _⟩
theorem roll_c (seed : Int) (v : Value) (N : Nat) (w : World) (h : ArgB w v N) (hN : N ≤ 4096) :
    Calls Tryz.prog 12 #[v, .int .u64 seed] w fun e w' => ∃ g, e = .returned (.pointer (some ⟨g, 0, none⟩)) ∧ w.heap.size ≤ g ∧ Dice w' g v N ∧ Grew w w' := by
  have HC := Lib.hid (fun w' (hg : Grew w w') => h.code hN hg (Nat.le_refl w.heap.size))
  obtain ⟨⟨A, c, rfl⟩, hmax, h2⟩ := h
  have H2 := Lib.hid h2
  clear h2
  go_enter Tryz.func12, Tryz.ntmps12
  go_wp2_with fail
  have hnew := fun o => blk_new w o
  go_loopw [6] (fun i wr => ∃ (j : Nat) (x : Int), j ≤ N ∧ i = .int .i64 j ∧ 0 ≤ x ∧ x ≤ 18446744073709551615 ∧ wr.heap[w.heap.size]? = some (.cells #[.slice A N c, .int .i64 0, .int .u64 x] 62 (0, 0)) ∧ Grew w wr) (fun i _ => N - (intOf i).toNat)
  case atStart => exact ⟨0, _, Nat.zero_le _, rfl, by rw [IntKind.wrap_u64]; omega, by rw [IntKind.wrap_u64]; omega, hnew _, (Grew.refl w).alloc _⟩
  case round =>
    obtain ⟨j, x, hj, rfl, hx0, hx1, hb, hB⟩ := hrel
    by_cases hlt : j < N
    · obtain ⟨b, o, c', e, hbg, hc, hm, hx⟩ := H2.out (by omega)
      obtain ⟨y, hy0, hy1, k1⟩ := hx j hlt
      obtain ⟨rfl, rfl⟩ : A = some ⟨b, o, none⟩ ∧ c = c' := by simpa using e
      have k2 := (hB.cell (p := ⟨b, o + j, none⟩) hbg).trans k1
      have c2 : wr.cell? ⟨w.heap.size, 2, none⟩ = some (.int .u64 x) := by rw [blk_cell hb]; rfl
      have f2 := blk_frozen hb 2
      have HB := Lib.hid hb
      have h4 : (j : Int) < 4096 := by omega
      clear hb e hx k1
      go_wp2_with fail
      have hw0 : ∀ z : Int, 0 ≤ IntKind.u64.wrap z := fun z => by rw [IntKind.wrap_u64]; omega
      have hw1 : ∀ z : Int, IntKind.u64.wrap z ≤ 18446744073709551615 := fun z => by rw [IntKind.wrap_u64]; omega
      have HW0 := Lib.hid hw0
      have HW1 := Lib.hid hw1
      clear hw0 hw1
      go_region
      go_wp2_with fail
      go_roundw
      case rel => exact ⟨j + 1, _, by omega, by go_num, HW0.out _, HW1.out _, blk_set (w := wr.drewN _) HB.out 2 _, (hB.drewN _).setCell (Nat.le_refl _) _⟩
      case measure => simp [intOf]; omega
    · go_wp2_with fail
      go_ret
      exact ⟨_, rfl, Nat.le_refl _, ⟨HC.out _ hB, 0, x, Nat.zero_le _, hx0, hx1, hb⟩, hB⟩
end Go.Proofs.YtphljdhacbpkbaaGreat

/- The laws' bit9 and full9. -/
namespace Go.Proofs.YtphljdhacbpkbaaGreat
open Go.RowKit

theorem bit9_q (m i : Nat) (hm : m < 9223372036854775808) (hi : i < 62) (w : World) :
    Calls Tryz.prog 17 #[.int .i64 (m : Int), .int .i64 (i : Int)] w fun e w' => e = .returned (.bool (m.testBit i)) ∧ w' = w := by
  have hb := bit_e m i hm
  have h0 : (0 : Int) ≤ (i : Int) := by omega
  have h1 : (i : Int) < 62 := by omega
  go_enter Tryz.func17, Tryz.ntmps17
  go_wp2_with fail
  go_ret
  exact ⟨rfl, rfl⟩
theorem wrap_pow60 {k : Nat} (h : k ≤ 60) : wrap64 (2 ^ k) = ((2 ^ k : Nat) : Int) := by
  have h1 : (2 : Nat) ^ k ≤ 2 ^ 60 := Nat.pow_le_pow_right (by omega) h
  have h2 : ((2 ^ k : Nat) : Int) = 2 ^ k := by rw [Int.natCast_pow]; rfl
  rw [← h2]
  generalize (2 ^ k : Nat) = p at *
  rw [wrap64]
  omega
end Go.Proofs.YtphljdhacbpkbaaGreat

/- The bytes that came in: as before in a later world; are they many? -/
namespace Go.Proofs.YtphljdhacbpkbaaGreat
open Go.RowKit

theorem ArgB.grew {w W : World} {v : Value} {N : Nat} (h : ArgB w v N) (hW : Grew w W) : ArgB W v N := by
  obtain ⟨h1, h2, h3⟩ := h
  refine ⟨h1, h2, fun hp => ?_⟩
  obtain ⟨b, o, c, e, hb, hc, hm, hx⟩ := h3 hp
  refine ⟨b, o, c, e, Nat.lt_of_lt_of_le hb hW.size, hc, hm, fun j hj => ?_⟩
  obtain ⟨x, x0, x1, hcell⟩ := hx j hj
  exact ⟨x, x0, x1, (hW.cell (p := ⟨b, o + j, none⟩) hb).trans hcell⟩
theorem big_c (v : Value) (N : Nat) (w : World) (h : ∃ A c, v = .slice A N c) :
    Calls Tryz.prog 4 #[v] w fun e w' => e = .returned (.bool (decide (4096 < N))) ∧ Grew w w' := by
  obtain ⟨A, c, rfl⟩ := h
  by_cases hb : 4096 < N
  · rw [decide_eq_true hb]
    go_enter Tryz.func4, Tryz.ntmps4
    go_wp2_with fail
    go_ret
    exact ⟨by simp; omega, Grew.refl _⟩
  · rw [decide_eq_false hb]
    go_enter Tryz.func4, Tryz.ntmps4
    go_wp2_with fail
    go_ret
    exact ⟨by simp; omega, Grew.refl _⟩
end Go.Proofs.YtphljdhacbpkbaaGreat

/- A cell that is read lies in a block that is there. -/
namespace Go.Proofs.YtphljdhacbpkbaaGreat
open Go.RowKit

theorem cell_lt {w : World} {a : Addr} {u : Value} (h : w.cell? a = some u) : a.block < w.heap.size := by
  unfold World.cell? at h
  split at h
  · rename_i hh
    exact (Array.getElem?_eq_some_iff.1 hh).1
  · cases h

end Go.Proofs.YtphljdhacbpkbaaGreat

/- An argument that is a list of bytes. -/
namespace Go.Proofs.YtphljdhacbpkbaaGreat
open Go.RowKit

theorem argB_of_trod {H : Type} {enc : TypeId × Value → H} {P : Program} {W : World} {sp : Nat → Bool} {held : Bool} {n : Nat} {t e : TypeId} {v : Value} {y : DataW H × List MemPlace}
    (ht : P.underlying t = some (.slice e)) (he : P.underlying e = some (.int .u8)) (hc : P.cellsOf e = 1) (h : DataW.trod enc P W 0 sp held n t [v] = some y) : ∃ N, ArgB W v N := by
  rcases Go.ChangeShapes.open_ints ht he hc h with ⟨hv, _⟩ | ⟨a, len, cap, zs, hv, _, hl, hm, hz, _, hcell, hwf⟩
  · obtain rfl : v = .slice none 0 0 := by simpa using hv
    exact ⟨0, ⟨none, 0, rfl⟩, by omega, fun h => absurd h (by omega)⟩
  · obtain rfl : v = .slice (some a) len cap := by simpa using hv
    have hlm : len ≤ zs.length := by rw [hz]; split <;> omega
    have hmax : maxLen = 9223372036854775807 := by decide
    rw [hmax] at hm
    refine ⟨len, ⟨some a, cap, rfl⟩, by omega, fun hp => ?_⟩
    obtain ⟨b, off, spot⟩ := a
    have h0 := hcell 0 (by omega)
    have hspot : spot = none := by simpa [Addr.add] using World.cell?_spot h0
    subst hspot
    have hb := cell_lt h0
    have hadd : ∀ i, (⟨b, off, none⟩ : Addr).add i = ⟨b, off + i, none⟩ := fun i => by
      unfold Addr.add
      split
      · subst_vars; rfl
      · rfl
    rw [hadd] at hb
    refine ⟨b, off, cap, rfl, hb, hl, hm, fun j hj => ⟨zs.getD j 0, ?_, ?_, ?_⟩⟩
    · have hw := hwf (zs.getD j 0) (by simp [List.getD, show j < zs.length by omega])
      simp [Lit.wf, IntKind.min, IntKind.max, IntKind.signed, IntKind.bits] at hw
      have := hw.1
      simpa [List.getD] using this
    · have hw := hwf (zs.getD j 0) (by simp [List.getD, show j < zs.length by omega])
      simp [Lit.wf, IntKind.min, IntKind.max, IntKind.signed, IntKind.bits] at hw
      have := hw.2
      simp [List.getD] at this ⊢
      omega
    · rw [← hadd]
      exact hcell j (by omega)
end Go.Proofs.YtphljdhacbpkbaaGreat

/- The law FnMonotone, walked, given what its draw gives. -/
namespace Go.Proofs.YtphljdhacbpkbaaGreat
open Go.RowKit
open Fm (Nd Tree)

/-- What the draw gives. -/
def MnDrawn (w : World) (e : Ending) (w' : World) : Prop := ∃ sz vA L vV V va xs, e = .returned (.tuple #[.agg #[.int .i64 sz, vA], vV, va]) ∧ Ints w' vA L ∧ Ints w' vV V ∧ Nodes w' va xs ∧ L.length ≤ 1000 ∧ V.length ≤ 1000 ∧ xs.length ≤ 1000 ∧ Grew w w'

set_option maxHeartbeats 4000000 in
set_option maxRecDepth 20000 in
theorem lawMn_of (v : Value) (N : Nat) (w : World) (h : ArgB w v N) (hdraw : N ≤ 4096 → ∀ W, Grew w W → Calls Tryz.prog 5 #[v] W (MnDrawn W)) :
    Calls Tryz.prog 3 #[v] w fun e w' => e = .returned (.bool true) ∧ Grew w w' := by
  have HB := big_c v N w h.1
  by_cases hbig : 4096 < N
  · rw [decide_eq_true hbig] at HB
    replace HB := Lib.hid HB
    obtain ⟨⟨A, c, rfl⟩, _⟩ := h
    go_enter Tryz.func3, Tryz.ntmps3
    go_wp2_with fail
    refine HB.out.mono ?_
    rintro e w1 ⟨rfl, hg1⟩
    go_wp2_with fail
    go_ret
    exact ⟨rfl, hg1⟩
  rw [decide_eq_false hbig] at HB
  replace HB := Lib.hid HB
  have HD := Lib.hid (hdraw (by omega))
  have HROLL := Lib.hid (fun W (hW : Grew w W) => roll_c 5 v N W (h.grew hW) (by omega))
  obtain ⟨⟨A, c, rfl⟩, _⟩ := h
  go_enter Tryz.func3, Tryz.ntmps3
  go_wp2_with fail
  refine HB.out.mono ?_
  rintro e w1 ⟨rfl, hg1⟩
  go_wp2_with fail
  refine (HD.out _ hg1).mono ?_
  rintro e w2 ⟨sz, vA, L, vV, V, va, xs, rfl, hA, hV, hx, nL, nV, nx, hg2⟩
  have g2 := hg1.trans hg2
  have KFi := Lib.hid (fun W (hW : Grew w2 W) => implFs_c sz vA vV va L V xs W (hA.grew hW) (hV.grew hW) (hx.grew hW) (by omega))
  have KFs := Lib.hid (fun W (hW : Grew w2 W) => specFs_c sz vA vV va L V xs W (hA.grew hW) (hV.grew hW) (hx.grew hW) (by omega))
  obtain ⟨A1, c1, rfl⟩ := ints_slice hA
  obtain ⟨A2, c2, rfl⟩ := ints_slice hV
  obtain ⟨A3, c3, rfl⟩ := nodes_slice hx
  clear HB HD hbig
  have hal := (Grew.refl w2).alloc (.cells #[.int .i64 sz, .slice A1 L.length c1] 26)
  have y0 : ∀ W, Grew (w2.alloc (.cells #[.int .i64 sz, .slice A1 L.length c1] 26)) W → W.cell? ⟨w2.heap.size, 0, none⟩ = some (.int .i64 sz) := fun W hW => (hW.cell (p := ⟨w2.heap.size, 0, none⟩) (by simp)).trans (by simp)
  have y1 : ∀ W, Grew (w2.alloc (.cells #[.int .i64 sz, .slice A1 L.length c1] 26)) W → W.cell? ⟨w2.heap.size, 1, none⟩ = some (.slice A1 L.length c1) := fun W hW => (hW.cell (p := ⟨w2.heap.size, 1, none⟩) (by simp)).trans (by simp)
  have r2 := Grew.refl (w2.alloc (.cells #[.int .i64 sz, .slice A1 L.length c1] 26))
  have HG := Lib.hid hal
  clear hal
  go_wp2_with fail
  refine (KFi.out _ HG.out).mono ?_
  rintro e w3 ⟨rfl, hg3⟩
  go_wp2_with fail
  refine (KFs.out _ (HG.out.trans hg3)).mono ?_
  rintro e w4 ⟨rfl, hg4⟩
  have g4 := hg3.trans hg4
  clear KFs hg3 hg4
  by_cases hc : fcF sz L V xs = 0
  case neg =>
    rw [fs_bad hc]
    generalize fcF sz L V xs = k at *
    go_wp2_with fail
    go_ret
    exact ⟨by simp, g2.trans (HG.out.trans g4)⟩
  obtain ⟨hv, t, rfl, ht⟩ := fc_zero hc
  rw [hc, fs_ok hv ht]
  obtain ⟨hsl, hzL, hRl, hzV, hV6, hVlt⟩ := mn_val hv
  obtain ⟨hp, -, hall⟩ := val_ok hv
  obtain ⟨-, h8, -, -, -, hr, htr, -⟩ := posB_ok hp
  have hT := (transB_iff hRl).1 htr
  have hVup : ∀ y ∈ nats V, Up (nats L) y := fun y hy => by
    rw [List.all_eq_true] at hall
    exact ((upB_iff hRl hr).1 (hall _ (by rw [← hzV]; exact List.mem_map.2 ⟨y, hy, rfl⟩))).2
  have hFlt : fv (nats L) (nats V) t < 2 ^ (nats L).length := fv_lt hVlt t
  have hFup := up_fv hRl hT hVup t
  have hFimg : img (nats L) (fv (nats L) (nats V) t) = fv (nats L) (nats V) t := by
    have := (upB_iff hRl hr).2 ⟨hFlt, hFup⟩
    unfold upB at this
    rw [Bool.and_eq_true, decide_eq_true_eq, Int.toNat_natCast] at this
    exact this.2
  subst hsl
  have K2 := Lib.hid (fun W (hW : Grew w2 W) => upsetOf_c _ L (fv (nats L) (nats V) t) W (hA.grew hW) hp (by rw [nats_len] at hFlt; exact hFlt))
  rw [hFimg] at K2
  have K3 := Lib.hid (fun W (hW : Grew w2 W) => upsetsOf_c _ L W (hA.grew hW) hp)
  have K4 := Lib.hid (fun W (hW : Grew w2 W) => defUp_c _ _ _ L V W (hA.grew hW) (hV.grew hW) hv)
  have K5 := Lib.hid (fun m (hm : m < 2 ^ L.length) W (hW : Grew w2 W) => partVal2_c _ _ L V m W (hA.grew hW) (hV.grew hW) hv hm)
  have K6 := Lib.hid (fsPart_c hv ht _ w2 hx (by omega))
  have K7 := Lib.hid (fun m (hm : m < 2 ^ L.length) W => membersOfN_c L.length m (by omega) hm W)
  have K8 := Lib.hid (isValPart_c hv)
  have HUP := Lib.hid (upK_at hRl hr (P := 2 ^ L.length))
  have hne := upK_pos hRl hr
  rw [nats_len] at hne
  have HPF := Lib.hid (fun m (hm : m < 2 ^ L.length) (hu : Up (nats L) m) k (hk : k < (mbs m).length) => part_fv hRl (by rw [nats_len]; exact hm) hu hV6 t k hk)
  have HCL := Lib.hid (fun S (hS : Closed (nats L) (nats V) S) => closed_fv hS hV6 t ht)
  have HIN := Lib.hid (fvPart_lt (nats L) (nats V) t)
  have hlenU := upK_len (nats L) (2 ^ L.length)
  have hP256 : 2 ^ L.length ≤ 256 := Nat.le_trans (Nat.pow_le_pow_right (by omega) h8) (by decide)
  have hF30 : fv (nats L) (nats V) t < 1073741824 := fv_sm hRl hVlt t
  clear hA hV hx hv ht hzL hRl hzV hV6 hVlt hp hall hr htr hT hVup hFlt hFup hFimg hc KFi
  generalize nats L = A at *
  generalize nats V = B at *
  go_wp2_with fail
  refine (K2.out _ (HG.out.trans g4)).mono ?_
  rintro e w5 ⟨rfl, hg5⟩
  have g5 := g4.trans hg5
  clear hg5 g4
  go_wp2_with fail
  refine (K3.out _ (HG.out.trans g5)).mono ?_
  rintro e w6 ⟨u6, rfl, ho6, hg6⟩
  have g6 := g5.trans hg6
  obtain ⟨b6, o6, q6, rfl, hc6, hm6, hb6, hf6⟩ : ∃ b6 o6 q6, u6 = .slice (some ⟨b6, o6, none⟩) (upK A (2 ^ L.length)).length q6 ∧ (upK A (2 ^ L.length)).length ≤ q6 ∧ q6 ≤ 9223372036854775807 ∧ b6 < w6.heap.size ∧ ∀ i, i < (upK A (2 ^ L.length)).length → ∀ W, Grew w6 W → W.cell? ⟨b6, o6 + i, none⟩ = some (.int .i64 ((nt (upK A (2 ^ L.length)) i : Nat) : Int)) := by
    rcases ho6.ints.open_ with ⟨_, hnil⟩ | ⟨b, o, q, h1, h2, h3, h4, h5⟩
    · rw [← List.length_eq_zero_iff, zs_len] at hnil; omega
    · rw [zs_len] at h1 h2 h5
      exact ⟨b, o, q, h1, h2, h3, h4, fun i hi W hW => by rw [h5 i hi W hW, zs_it hi]⟩
  have HF6 := Lib.hid hf6
  clear hf6 ho6 hg6 g5
  go_wp2_with fail
  refine (K4.out _ (HG.out.trans g6)).mono ?_
  rintro e w7 ⟨u7, K, rfl, hi7, ⟨S, hS, hSK⟩, hg7⟩
  have g7 := g6.trans hg7
  have hFK := hSK _ (HCL.out S hS)
  have HI7 := Lib.hid hi7
  obtain ⟨A7, c7, rfl⟩ := ints_slice hi7
  clear hi7 hSK hS
  go_wp2_with fail
  refine (hasInt_yes _ K _ _ HI7.out hFK).mono ?_
  rintro e w8 ⟨rfl, hg8⟩
  have g8 := g7.trans hg8
  have r68 := hg7.trans hg8
  clear HI7 hFK hg7 hg8 g6 g7
  generalize hUL : (upK A (2 ^ L.length)).length = ul at *
  go_wp2_with fail
  refine (HROLL.out _ (g2.trans (HG.out.trans g8))).mono ?_
  rintro e w9 ⟨gd, rfl, hgd, hDice, hg9⟩
  have g9 := g8.trans hg9
  have HDi := Lib.hid hDice
  clear hDice
  go_wp2_with fail
  refine (below_c gd _ N (ul : Int) _ HDi.out (by omega)).mono ?_
  rintro e wa ⟨rr, rfl, hr0, hr1, _, hDa, hoa⟩
  have hr2 := hr1 (by omega)
  obtain ⟨rr, rfl⟩ : ∃ k : Nat, rr = (k : Int) := ⟨rr.toNat, by omega⟩
  have h8a := hoa.grew_of hg9 hgd
  have ga := g8.trans h8a
  have k6 := HF6.out rr (by omega) _ (r68.trans h8a)
  obtain ⟨hmlt, hmup⟩ := HUP.out rr (by omega)
  clear HDi hDa hoa hr1 HF6 HUP g8 g9 hgd hg9 h8a r68 HROLL
  generalize nt (upK A (2 ^ L.length)) rr = m at *
  go_wp2_with fail
  refine (K5.out m hmlt _ (HG.out.trans ga)).mono ?_
  rintro e wb ⟨vq, vp, rfl, hq, hpv, hgb⟩
  have gb := ga.trans hgb
  have HQ := Lib.hid hq
  have HPV := Lib.hid hpv
  obtain ⟨Aq, cq, rfl⟩ := ints_sliceN hq
  obtain ⟨Ap, cp, rfl⟩ := ints_sliceN hpv
  clear hq hpv hgb ga k6
  have hal2 := (Grew.refl wb).alloc (.cells #[.int .i64 ((prt A m).length : Int), .slice Aq (prt A m).length cq] 26)
  have z0 : ∀ W, Grew (wb.alloc (.cells #[.int .i64 ((prt A m).length : Int), .slice Aq (prt A m).length cq] 26)) W → W.cell? ⟨wb.heap.size, 0, none⟩ = some (.int .i64 ((prt A m).length : Int)) := fun W hW => (hW.cell (p := ⟨wb.heap.size, 0, none⟩) (by simp)).trans (by simp)
  have z1 : ∀ W, Grew (wb.alloc (.cells #[.int .i64 ((prt A m).length : Int), .slice Aq (prt A m).length cq] 26)) W → W.cell? ⟨wb.heap.size, 1, none⟩ = some (.slice Aq (prt A m).length cq) := fun W hW => (hW.cell (p := ⟨wb.heap.size, 1, none⟩) (by simp)).trans (by simp)
  have rz := Grew.refl (wb.alloc (.cells #[.int .i64 ((prt A m).length : Int), .slice Aq (prt A m).length cq] 26))
  have gc := gb.trans hal2
  have HA2 := Lib.hid hal2
  clear gb hal2
  go_wp2_with fail
  refine (K6.out m hmlt _ _ _ (HG.out.trans gc) (HQ.out.grew HA2.out) (HPV.out.grew HA2.out)).mono ?_
  rintro e wd ⟨rfl, hzd⟩
  have gd2 := gc.trans hzd
  clear gc
  go_wp2_with fail
  refine (K7.out m hmlt _).mono ?_
  rintro e we ⟨um, rfl, hom, hge⟩
  have hze := hzd.trans hge
  have ge := gd2.trans hge
  have HM := Lib.hid hom.ints
  obtain ⟨Am, cm, rfl⟩ := ints_sliceN hom.ints
  clear hom gd2 hge hzd
  go_wp2_with fail
  refine (K8.out m hmlt _ _ _ (HQ.out.grew (HA2.out.trans hze)) (HPV.out.grew (HA2.out.trans hze))).mono ?_
  rintro e wf ⟨rfl, hgf⟩
  have gf := ge.trans hgf
  have HMf := Lib.hid (HM.out.grew hgf)
  clear ge hze hgf HQ HPV HM K2 K3 K4 K5 K6 K7 K8 HA2 z0 z1 rz y0 y1 r2
  go_wp2_with fail
  rcases HMf.out.open_ with ⟨hv0, hnil⟩ | ⟨bm, om, qm, hvm, hcm, hmm, hbm, hfm⟩
  · simp only [Value.slice.injEq] at hv0
    obtain ⟨-, h0, -⟩ := hv0
    rw [h0]
    refine wp_loop_rounds 1 ?_; rw [rounds_succ]
    go_wp2_with fail
    go_ret
    exact ⟨rfl, g2.trans (HG.out.trans gf)⟩
  rw [zs_len] at hvm hcm hfm
  simp only [Value.slice.injEq] at hvm
  obtain ⟨rfl, -, rfl⟩ := hvm
  have HMM := Lib.hid hfm
  have hm30 := mbs_len m
  have HLT := Lib.hid (And.intro hmlt hmup)
  clear hfm hmlt hmup HMf
  go_loopw [25] (fun i wr => ∃ j : Nat, j ≤ (mbs m).length ∧ i = .int .i64 j ∧ Grew wf wr) (fun i _ => (mbs m).length - (intOf i).toNat)
  case atStart => exact ⟨0, Nat.zero_le _, rfl, Grew.refl _⟩
  case round =>
    obtain ⟨j, hj, rfl, hB⟩ := hrel
    by_cases hlt : j < (mbs m).length
    · have hml := HPF.out m HLT.out.1 HLT.out.2 j hlt
      have k1 : ∀ W, Grew wr W → W.cell? ⟨bm, om + j, none⟩ = some (.int .i64 ((nt (mbs m) j : Nat) : Int)) := fun W hW => by rw [HMM.out j hlt W (hB.trans hW), zs_it hlt]
      have h30 := mbs_at hlt
      have hin := HIN.out m
      have hq1 := Bool.eq_iff_iff.2 hml
      have hX : fv (prt A m) (sqa B m) t < 9223372036854775808 := by omega
      have hY : fv A B t < 9223372036854775808 := by omega
      have hj62 : j < 62 := by omega
      have hy62 : nt (mbs m) j < 62 := by omega
      have hq2 : Hid ((fv A B t).testBit (nt (mbs m) j) = (fv A B t).testBit (nt (mbs m) j)) := Lib.hid rfl
      replace hq1 := Lib.hid hq1
      generalize hqq : (fv A B t).testBit (nt (mbs m) j) = q at hq1 hq2
      have hq3 := Lib.hid hqq
      clear hqq hq2
      generalize fv (prt A m) (sqa B m) t = X at *
      generalize fv A B t = Y at *
      generalize nt (mbs m) j = y at *
      have KB : ∀ (x k : Nat) (_ : x < 9223372036854775808) (_ : k < 62) (_ : Hid (x.testBit k = q)) W, Calls Tryz.prog 17 #[.int .i64 (x : Int), .int .i64 (k : Int)] W fun e w' => e = .returned (.bool q) ∧ w' = W := fun x k hx hk hq W => by
        rw [← hq.out]
        exact bit9_q x k hx hk W
      replace KB := Lib.hid KB
      have rr := Grew.refl wr
      clear hml hin
      go_wp2_with fail
      go_quiet ((go_at_call 17; exact Calls.quiet_of_same (KB.out _ _ (by assumption) (by assumption) (by assumption) _)))
      go_wp2_with fail
      go_roundw
      case rel => exact ⟨j + 1, by omega, by go_num, hB.drewN _⟩
      case measure => simp [intOf]; omega
    · go_wp2_with fail
      go_ret
      exact ⟨rfl, g2.trans (HG.out.trans (gf.trans hB))⟩
end Go.Proofs.YtphljdhacbpkbaaGreat

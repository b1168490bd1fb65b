/- Texts in one file: FvI FcN FvO Args0 ArgB LawFa. -/
import Derived.Deep.RegionHeld3
import Derived.ChangeSlices
import Derived.Deep.Strs
import Derived.Lib.SmallJoins
import Derived.Carry
import Derived.ProofKit
import Derived.Test.YtpfncncohnhanaaGreatDoorPa1
import Derived.Test.YtpfncncohnhanaaGreatDoorPa2
import Derived.Test.YtpfncncohnhanaaGreatDoorPa3
import Derived.Test.YtpfncncohnhanaaGreatDoorPa4
import Derived.Test.YtpfncncohnhanaaGreatDoorPa5
set_option linter.all false

/- The program's isValid on frames: valuations, isValid. -/
namespace Go.Proofs.YtpfncncohnhanaaGreatDoor
open Go.RowKit
open Fm (Nd Tree)
attribute [local go_sem] Oper.semAt_some

theorem fvaluations_c (n : Int) (v vV : Value) (w : World) (hv : ∃ X m c, v = .slice X m c) (hV : ∃ X m c, vV = .slice X m c) :
    Calls Tryz.prog 81 #[.agg #[.int .i64 n, v], vV] w fun e w' => ∃ bV bF, e = .returned (.func (.func 124) #[] #[.pointer (some ⟨bV, 0, none⟩), .pointer (some ⟨bF, 0, none⟩)]) ∧ Grew w w' ∧ bV < w'.heap.size ∧ bF < w'.heap.size ∧ w'.cell? ⟨bV, 0, none⟩ = some vV ∧ w'.cell? ⟨bF, 0, none⟩ = some (.int .i64 n) ∧ w'.cell? ⟨bF, 1, none⟩ = some v := by
  obtain ⟨A1, m1, c1, rfl⟩ := hv
  obtain ⟨X, m, c, rfl⟩ := hV
  have g1 := (Grew.refl w).alloc (.cells #[.int .i64 n, .slice A1 m1 c1] 26)
  have g2 := (Grew.refl (w.alloc (.cells #[.int .i64 n, .slice A1 m1 c1] 26))).alloc (.cells #[.slice X m c] 24)
  have hs : (w.alloc (.cells #[.int .i64 n, .slice A1 m1 c1] 26)).heap.size = w.heap.size + 1 := by simp
  have b0 := (g2.block (by simp)).trans (blk_new w (.cells #[.int .i64 n, .slice A1 m1 c1] 26))
  have b1 := blk_new (w.alloc (.cells #[.int .i64 n, .slice A1 m1 c1] 26)) (.cells #[.slice X m c] 24)
  rw [hs] at b1
  have HG := Lib.hid (And.intro (g1.trans g2) (And.intro b0 b1))
  clear g1 g2 b0 b1 hs
  go_enter Tryz.func81, Tryz.ntmps81
  go_wp2_with fail
  go_ret
  obtain ⟨h1, h2, h3⟩ := HG.out
  refine ⟨_, _, rfl, h1, blk_lt h3, blk_lt h2, ?_, ?_, ?_⟩
  · rw [blk_cell h3]; rfl
  · rw [blk_cell h2]; rfl
  · rw [blk_cell h2]; rfl

theorem alloc3F (w wa : World) (o1 o2 o3 : Obj) (h : wa = ((w.alloc o1).alloc o2).alloc o3) : Grew w wa ∧ wa.heap.size = w.heap.size + 3 ∧ wa.heap[w.heap.size]? = some o1 ∧ wa.heap[w.heap.size + 1]? = some o2 ∧ wa.heap[w.heap.size + 1 + 1]? = some o3 := by
  subst h
  have s1 : (w.alloc o1).heap.size = w.heap.size + 1 := by simp
  have s2 : ((w.alloc o1).alloc o2).heap.size = w.heap.size + 1 + 1 := by simp
  have b1 := blk_new w o1
  have b2 := blk_new (w.alloc o1) o2
  have b3 := blk_new ((w.alloc o1).alloc o2) o3
  rw [s1] at b2
  rw [s2] at b3
  have g2 := (Grew.refl (w.alloc o1)).alloc o2
  have g3 := (Grew.refl ((w.alloc o1).alloc o2)).alloc o3
  refine ⟨((Grew.refl w).alloc o1).trans (g2.trans g3), by simp, ((g2.trans g3).block (by omega)).trans b1, (g3.block (by omega)).trans b2, b3⟩
theorem results_cell1 {P : Program} {fn : Func} {p : Tmp} {t1 : TypeId} (h : fn.results = #[.cell p t1]) (tmps : Array Value) (w : World) (a : Addr) (v1 : Value)
    (hp : tmps.getD p undef = .pointer (some a)) (l1 : (loadVar t1 a).run P w = .ok v1 w) : (results fn tmps).run P w = .ok v1 w := by
  have hp' : tmps[p]?.getD undef = .pointer (some a) := by simpa using hp
  simp [results, h, hp', asAddr, l1]

set_option maxHeartbeats 2000000 in
theorem frameValid_c (v va : Value) (A : List Nat) (t : Tree) (w : World) (h : Ints w v (zs A)) (ha : Nodes w va (Fm.enc t)) (hA : Rl A) (h8 : A.length ≤ 8) (hvs : Vs (Fm.enc t)) (hn : (Fm.enc t).length ≤ 1048576) (hfit : A.length * (mbs (vm (Fm.enc t))).length ≤ 16) :
    Calls Tryz.prog 38 #[.agg #[.int .i64 (A.length : Int), v], va] w fun e w' => e = .returned (.bool (vldB A (mbs (vm (Fm.enc t))) t)) ∧ Grew w w' := by
  have hvm : vm (Fm.enc t) < 2 ^ 6 := by have := vmK_lt hvs (Fm.enc t).length (Nat.le_refl _); unfold vm; exact this
  have hv6 : ∀ x ∈ mbs (vm (Fm.enc t)), x < 6 := fun x hx => mbs_lt (n := 6) hvm hx
  have hvl := mbs_length6 (n := 6) hvm (by omega)
  have hnd : (mbs (vm (Fm.enc t))).Nodup := List.Nodup.sublist List.filter_sublist List.nodup_range
  obtain ⟨A1, c1, rfl⟩ := ints_sliceN h
  obtain ⟨A2, c2, rfl⟩ := nodes_slice ha
  obtain ⟨w0, hw0⟩ : ∃ w0, w0 = (((w.alloc (.cells #[.int .i64 (A.length : Int), .slice A1 A.length c1] 26)).alloc (.cells #[.slice A2 (Fm.enc t).length c2] 29)).alloc (.cells #[.bool false] 4)) := ⟨_, rfl⟩
  obtain ⟨hg0, hs0, b1, b2, b3⟩ := alloc3F _ _ _ _ _ hw0
  have HVI := Lib.hid (fun b W (hW : Grew w0 W) (hc : W.cell? ⟨b, 0, none⟩ = some (.slice A2 (Fm.enc t).length c2)) (hb : b < W.heap.size) => variablesIn_one_c b _ (Fm.enc t) W hc hb (ha.grew (hg0.trans hW)) hvs hn)
  have HVA := Lib.hid (fun vV W (hv : ∃ X m c, vV = .slice X m c) => fvaluations_c (A.length : Int) (.slice A1 A.length c1) vV W ⟨_, _, _, rfl⟩ hv)
  have y0 : ∀ W, Grew w0 W → W.cell? ⟨w.heap.size, 0, none⟩ = some (.int .i64 (A.length : Int)) := fun W hW => by rw [blk_cell ((hW.block (by omega)).trans b1)]; rfl
  have y1 : ∀ W, Grew w0 W → W.cell? ⟨w.heap.size, 1, none⟩ = some (.slice A1 A.length c1) := fun W hW => by rw [blk_cell ((hW.block (by omega)).trans b1)]; rfl
  have y2 : ∀ W, Grew w0 W → W.cell? ⟨w.heap.size + 1, 0, none⟩ = some (.slice A2 (Fm.enc t).length c2) := fun W hW => by rw [blk_cell ((hW.block (by omega)).trans b2)]; rfl
  have HB := Lib.hid b3
  have HG0 := Lib.hid (And.intro hg0 hs0)
  have HA := Lib.hid hA
  have r0 := Grew.refl w0
  have r1 := (Grew.refl w0).drew
  clear hg0 hs0 b1 b2 b3 hvm
  refine (callsIn_wide (n := 9)).1 ?_
  refine callsIn_of_wp_marks Tryz.func38 rfl trivial ?_
  simp only [Tryz.ntmps38, List.size_toArray, List.length_cons, List.length_nil, Nat.reduceAdd, Nat.reduceSub, Array.replicate_succ, Array.replicate_zero, List.push_toArray, List.append_toArray, List.nil_append, List.cons_append]
  refine wpIn_wide.2 ?_
  go_wp2_with fail
  rw [← hw0]
  clear hw0
  first | (go_region_held3 (fun w' => Grew w0 w') (first | assumption | exact Grew.drew ‹_› | exact Grew.trans ‹_› ‹_› | exact Grew.alloc (by assumption) _) (first
    | (go_at_call 35; refine Calls.mono (HVI.out _ _ (by first | assumption | exact Grew.alloc (by assumption) _) (by simp) (by simp)) ?_; rintro e w5 ⟨v5, rfl, hO5, hg5⟩; have hg55 : Grew w0 w5 := Grew.trans (by first | assumption | exact Grew.alloc (by assumption) _) hg5; obtain ⟨A5, c5, rfl⟩ := ints_sliceN hO5.ints)
    | (go_at_call 81; refine Calls.mono (HVA.out _ _ ⟨_, _, _, rfl⟩) ?_; rintro e w6 ⟨bV, bF, rfl, hg6, hbV, hbF, hcV, hc0, hc1⟩; have hg66 : Grew w0 w6 := Grew.trans (by assumption) hg6))) | fail
  have hIV := hO5.ints.grew hg6
  have hg6w : Grew w0 w6 := hg55.trans hg6
  have HVL := Lib.hid (And.intro hIV (And.intro hcV (And.intro hc0 (And.intro hc1 (And.intro hbV hbF)))))
  clear hO5 hg5 hg55 hIV hcV hc0 hc1 hbV hbF hg6 HVI HVA
  generalize hvars : mbs (vm (Fm.enc t)) = vars at *
  go_wp2_with fail
  refine (wpIn_wide (n := 9)).1 ?_
  refine wpIn_rangeV (P := Tryz.prog) (gf := 124) (lb := #[.pointer (some ⟨bV, 0, none⟩), .pointer (some ⟨bF, 0, none⟩)]) rfl (enters_of Tryz.func124 (by kernel_rfl) rfl)
    (Rv := fun W v x => Ints W v (zs x) ∧ (x.length = 6 ∧ ∀ m ∈ x, m < 2 ^ A.length)) (fun W v x l o o' h1 h2 h3 => ⟨rd_putObj o' h1.1 h2 h3, h1.2⟩)
    (fvalSeq_c A.length vars bV bF w6 _ _ HVL.out.2.1 HVL.out.2.2.1 HVL.out.2.2.2.1 HVL.out.2.2.2.2.1 HVL.out.2.2.2.2.2 ⟨_, _, _, rfl⟩ HVL.out.1 hv6 hnd hvl h8 hfit) (Grew.refl w6) rfl
    (fun pre W => (∀ x ∈ pre, mv A x t = full A.length) ∧ Grew w6 W)
    (fun pre W => (∃ x ∈ pre, mv A x t ≠ full A.length) ∧ Below w.heap.size w6 W ∧ W.heap[w.heap.size + 1 + 1]? = some (.cells #[.bool false] 4))
    (fun s X Y hs hb => ⟨hs.1, (show Below w6.heap.size w6 Y from Below.trans hs.2 hb)⟩) ?hIx ⟨by simp, Grew.refl w6⟩ (fun x => { tmps := #[.agg #[.int .i64 (A.length : Int), .slice A1 A.length c1], .slice A2 (Fm.enc t).length c2, .pointer (some ⟨w.heap.size, 0, none⟩), .pointer (some ⟨w.heap.size + 1, 0, none⟩), .pointer (some ⟨w.heap.size + 1 + 1, 0, none⟩), x, .agg #[.int .i64 (A.length : Int), .slice A1 A.length c1], .slice A2 (Fm.enc t).length c2, .slice (some ⟨w0.heap.size, 0, none⟩) 1 1, .slice A5 vars.length c5, .func (.func 124) #[] #[.pointer (some ⟨bV, 0, none⟩), .pointer (some ⟨bF, 0, none⟩)], x, undef, undef, undef, undef, undef, undef, undef], defers := [] }) ?assign ?body ?done ?stop
  case assign =>
    intro l m x W K hK
    gi_wp2
    exact hK
  case body =>
    rintro l m pre x v W ⟨hall, hg⟩ ⟨hv, hx6, hxm⟩ hsz
    have hW0 : Grew w0 W := hg6w.trans hg
    obtain ⟨Av, cv, rfl⟩ := ints_sliceN hv
    rw [hx6] at hv ⊢
    have HFO := Lib.hid (fun X (hX : Grew W X) => truthSet_c (.slice A1 A.length c1) (.slice Av 6 cv) (.slice A2 (Fm.enc t).length c2) A x t X (h.grew ((HG0.out.1.trans hW0).trans hX)) (hv.grew hX) (ha.grew ((HG0.out.1.trans hW0).trans hX)) HA.out hxm hx6 hn)
    have HAL := Lib.hid (fun X => frameAll_c A.length (.slice A1 A.length c1) X ⟨_, _, _, rfl⟩ (by omega))
    have HX := Lib.hid (And.intro hall hg)
    have hWr := Grew.refl W
    have hWd : Grew w0 W.drew := hW0.drew
    clear hall hv hxm hg
    gi_wp2
    gi_region_with (first
      | (refine ⟨trivial, fun h => by simp [Fence.wide] at h, ?_⟩; gi_at_call 82; refine (CallsIn.inRound l (callsIn_wide.2 (HFO.out _ hWr.drew))).mono ?_; rintro e w1 ⟨rfl, hg1⟩; have hW1 : Grew w0 w1 := hWd.trans hg1; have hWg1 : Grew W w1 := hWr.drew.trans hg1)
      | (refine ⟨trivial, fun h => by simp [Fence.wide] at h, ?_⟩; gi_at_call 83; refine (CallsIn.inRound l (callsIn_wide.2 (HAL.out _))).mono ?_; rintro e w2 ⟨rfl, hg2⟩; have hWg2 : Grew W w2 := hWg1.trans hg2))
    all_goals
      have hW2 : Grew w0 w2 := hW0.trans hWg2
      by_cases he : mv A x t = full A.length
      · have hb : (((mv A x t : Nat) : Int) != ((full A.length : Nat) : Int)) = false := by simp [he]
        have HE := Lib.hid he
        clear he
        gi_wp2
        refine ⟨hWg2, fun y hy => ?_, HX.out.2.trans hWg2⟩
        rw [List.mem_append, List.mem_singleton] at hy
        rcases hy with hy | rfl
        · exact HX.out.1 y hy
        · exact HE.out
      · have hb : (((mv A x t : Nat) : Int) != ((full A.length : Nat) : Int)) = true := by simp; omega
        have HE := Lib.hid he
        have B3 := Lib.hid ((hW2.block (by have := HG0.out.2; omega)).trans HB.out)
        have d3 : w2.cell? ⟨w.heap.size + 1 + 1, 0, none⟩ = some (.bool false) := by rw [blk_cell B3.out]; rfl
        have f3 := blk_frozen B3.out 0
        clear he
        gi_wp2
        have hk0 : KeepsOthers W w2 := ⟨hWg2.size, fun i o hi _ => (hWg2.block (blk_ltO hi)).trans hi⟩
        refine ⟨hk0.trans (KeepsOthers.setCell _ _ _), ⟨x, by simp, HE.out⟩, ?_, ?_⟩
        · exact (Below.trans (Below.mono (HX.out.2.trans hWg2) (by have := HG0.out.2; have := hg6w.size; omega)) (Below.refl _ _)).setCell (p := ⟨w.heap.size + 1 + 1, 0, none⟩) (by show w.heap.size ≤ w.heap.size + 1 + 1; omega) _
        · exact blk_set B3.out 0 _
  case hIx =>
    rintro s X Y ⟨h1, h2, h3⟩ hb
    have hs := HG0.out.2
    have hs6 := hg6w.size
    exact ⟨h1, h2.trans (hb.mono (by omega)), (hb.block _ (by omega)).trans h3⟩
  case done =>
    rintro D xs W hD rfl ⟨hall, hg⟩ hK
    have hW3 : Grew w0 W := hg6w.trans hg
    have B3 := Lib.hid ((hW3.block (by have := HG0.out.2; omega)).trans HB.out)
    have d3 : W.cell? ⟨w.heap.size + 1 + 1, 0, none⟩ = some (.bool false) := by rw [blk_cell B3.out]; rfl
    have f3 := blk_frozen B3.out 0
    go_wp2_with fail
    have hkk : KeepsOthers W (W.setCell ⟨w.heap.size + 1 + 1, 0, none⟩ (.bool true)) := KeepsOthers.setCell _ _ _
    have hK2 := hkk.same _ _ hK rfl
    have b3 : (W.setCell ⟨w.heap.size + 1 + 1, 0, none⟩ (.bool true)).heap[w.heap.size + 1 + 1]? = some (.cells #[.bool true] 4 (0, 0)) := blk_set B3.out 0 _
    have hbl : Below w.heap.size w (W.setCell ⟨w.heap.size + 1 + 1, 0, none⟩ (.bool true)) :=
      (HG0.out.1.trans hW3).below.setCell (p := ⟨w.heap.size + 1 + 1, 0, none⟩) (by show w.heap.size ≤ w.heap.size + 1 + 1; omega) _
    generalize W.setCell ⟨w.heap.size + 1 + 1, 0, none⟩ (.bool true) = wz at *
    rw [hvars, vldB_yes hall]
    have hD2 : ∀ k, k < w.heap.size + 3 → k ≠ D := fun k hk => by have := HG0.out.2; have := hg6w.size; omega
    refine ⟨by simp, .inl ⟨_, _, rfl, run_takeDeferred hK2, ?_⟩⟩
    refine ⟨_, results_cell1 rfl _ _ ⟨w.heap.size + 1 + 1, 0, none⟩ _ rfl
      (loadVar_one _ _ _ _ _ _ ((World.putObj_heap_other (hD2 _ (by omega))).trans b3) Tryz.underlying4 rfl), rfl, ?_⟩
    exact Below.trans hbl (below_putObj _ (by have := HG0.out.2; have := hg6w.size; omega) hK2)
  case stop =>
    rintro D pre W hD hpre ⟨⟨x, hx, hne⟩, hb, b3⟩ hK
    refine wpIn_wide.2 ?_
    go_wp2_with fail
    rw [hvars, vldB_no (hpre.subset hx) hne]
    have hD2 : ∀ k, k < w.heap.size + 3 → k ≠ D := fun k hk => by have := HG0.out.2; have := hg6w.size; omega
    refine ⟨by simp, .inl ⟨_, _, rfl, run_takeDeferred hK, ?_⟩⟩
    refine ⟨_, results_cell1 rfl _ _ ⟨w.heap.size + 1 + 1, 0, none⟩ _ rfl
      (loadVar_one _ _ _ _ _ _ ((World.putObj_heap_other (hD2 _ (by omega))).trans b3) Tryz.underlying4 rfl), rfl, ?_⟩
    have h06 : Below w.heap.size w w6 := (HG0.out.1.trans hg6w)
    exact Below.trans (Below.trans h06 hb) (below_putObj _ (by have := HG0.out.2; have := hg6w.size; omega) hK)
end Go.Proofs.YtpfncncohnhanaaGreatDoor

/- Lists of lists of nodes: slices.ContainsFunc over them; areFormulas. -/
namespace Go.Proofs.YtpfncncohnhanaaGreatDoor
open Go.RowKit
open Fm (Nd Tree)

/-- A list of lists of nodes. -/
def nl (Ls : List (List Nd)) (i : Nat) : List Nd := Ls.getD i []
/-- The value reads as the list of lists. -/
def NL (w : World) (v : Value) (Ls : List (List Nd)) : Prop :=
  ∃ b o c, v = .slice (some ⟨b, o, none⟩) Ls.length c ∧ Ls.length ≤ c ∧ c ≤ 9223372036854775807 ∧
    ∀ i, i < Ls.length → ∃ u, (∀ W, Grew w W → W.cell? ⟨b, o + i, none⟩ = some u) ∧ Nodes w u (nl Ls i)
theorem NL.grew {w w' : World} {v : Value} {Ls : List (List Nd)} (h : NL w v Ls) (hg : Grew w w') : NL w' v Ls := by
  obtain ⟨b, o, c, h1, h2, h3, h4⟩ := h
  refine ⟨b, o, c, h1, h2, h3, fun i hi => ?_⟩
  obtain ⟨u, k1, k2⟩ := h4 i hi
  exact ⟨u, fun W hW => k1 W (hg.trans hW), k2.grew hg⟩
theorem NL.one {w : World} {T : TypeId} {u : Value} {xs : List Nd} (h : Nodes w u xs) : NL (w.alloc (.cells #[u] T)) (.slice (some ⟨w.heap.size, 0, none⟩) 1 1) [xs] := by
  refine ⟨w.heap.size, 0, 1, rfl, Nat.le_refl _, by omega, fun i hi => ?_⟩
  obtain rfl : i = 0 := by simpa using hi
  exact ⟨u, fun W hW => (hW.cell (p := ⟨w.heap.size, 0 + 0, none⟩) (by simp)).trans (by simp), h.grew ((Grew.refl w).alloc _)⟩
theorem NL.two {w : World} {T : TypeId} {u u2 : Value} {xs ys : List Nd} (h : Nodes w u xs) (h2 : Nodes w u2 ys) : NL (w.alloc (.cells #[u, u2] T)) (.slice (some ⟨w.heap.size, 0, none⟩) 2 2) [xs, ys] := by
  refine ⟨w.heap.size, 0, 2, rfl, Nat.le_refl _, by omega, fun i hi => ?_⟩
  have hi2 : i < 2 := by simpa using hi
  match i, hi2 with
  | 0, _ => exact ⟨u, fun W hW => (hW.cell (p := ⟨w.heap.size, 0 + 0, none⟩) (by simp)).trans (by simp), h.grew ((Grew.refl w).alloc _)⟩
  | 1, _ => exact ⟨u2, fun W hW => (hW.cell (p := ⟨w.heap.size, 0 + 1, none⟩) (by simp)).trans (by simp), h2.grew ((Grew.refl w).alloc _)⟩

/-- None of the first k lists meets the predicate. -/
def NoneN (p : List Nd → Bool) (Ls : List (List Nd)) (k : Nat) : Prop := ∀ i, i < k → p (nl Ls i) = false
theorem NoneN.zero (p : List Nd → Bool) (Ls : List (List Nd)) : NoneN p Ls 0 := fun i hi => absurd hi (by omega)
theorem NoneN.succ {p : List Nd → Bool} {Ls : List (List Nd)} {k : Nat} (h : NoneN p Ls k) (h1 : p (nl Ls k) = false) : NoneN p Ls (k + 1) := by
  intro i hi
  rcases Nat.lt_or_ge i k with hk | hk
  · exact h i hk
  · obtain rfl : i = k := by omega
    exact h1
theorem nl_get {Ls : List (List Nd)} {i : Nat} (h : i < Ls.length) : Ls[i] = nl Ls i := by simp [nl, List.getD, h]
theorem noneN_any {p : List Nd → Bool} {Ls : List (List Nd)} (h : NoneN p Ls Ls.length) : Ls.any p = false := by
  rw [List.any_eq_false]
  intro x hx
  obtain ⟨i, hi, rfl⟩ := List.getElem_of_mem hx
  rw [nl_get hi, h i hi]
  simp
theorem anyN_at {p : List Nd → Bool} {Ls : List (List Nd)} {k : Nat} (hk : k < Ls.length) (h : p (nl Ls k) = true) : Ls.any p = true := by
  rw [List.any_eq_true]
  exact ⟨Ls[k], List.getElem_mem hk, by rw [nl_get hk]; exact h⟩
theorem noneN_of {p : List Nd → Bool} {Ls : List (List Nd)} (h : Ls.any p = false) {i : Nat} (hi : i < Ls.length) : p (nl Ls i) = false := by
  rw [List.any_eq_false] at h
  have := h _ (List.getElem_mem hi)
  rw [nl_get hi] at this
  simpa using this

theorem indexFuncN_c (v : Value) (Ls : List (List Nd)) (f : Nat) (p : List Nd → Bool) (w : World) (h : NL w v Ls)
    (hf : ∀ i, i < Ls.length → ∀ u W, Nodes W u (nl Ls i) → Calls Tryz.prog f #[u] W fun e W' => e = .returned (.bool (p (nl Ls i))) ∧ Grew W W') (eg : ∀ args w, (callFunc f args).run Tryz.prog w = .ok (.enter f args) w) :
    Calls Tryz.prog 172 #[v, .func (.func f) #[] #[]] w fun e w' => ∃ r : Int, e = .returned (.int .i64 r) ∧ Grew w w' ∧ decide (0 ≤ r) = Ls.any p := by
  obtain ⟨b, o, c, rfl, hc, hm, hcell⟩ := h
  obtain ⟨R, hR⟩ : ∃ R, R = Ls.any p := ⟨_, rfl⟩
  rw [← hR]
  have HA := Lib.hid (fun k hk h => hR.trans (@anyN_at p Ls k hk h))
  have HZ := Lib.hid (fun h => hR.trans (@noneN_any p Ls h))
  have HC := Lib.hid hcell
  have HF := Lib.hid hf
  clear hcell hf hR
  generalize hN : Ls.length = n at *
  clear hN
  go_enter Tryz.func172, Tryz.ntmps172
  go_wp2_with fail
  go_loopw [5, 8] (fun _ i wr => ∃ j : Nat, j ≤ n ∧ i = .int .i64 j ∧ Grew w wr ∧ Hid (NoneN p Ls j)) (fun _ i _ => n - (intOf i).toNat)
  case atStart => exact ⟨0, Nat.zero_le _, rfl, Grew.refl _, NoneN.zero _ _⟩
  case round =>
    obtain ⟨j, hj, rfl, hB, HJ⟩ := hrel
    by_cases hlt : j < n
    · obtain ⟨u, k0, hd⟩ := HC.out j hlt
      have k1 := k0 _ hB
      have hz := Lib.hid (fun W (hW : Grew w W) => HF.out j hlt u W (hd.grew hW))
      have hA := Lib.hid (HA.out j hlt)
      have hS := Lib.hid (fun h => HJ.out.succ (k := j) h)
      obtain ⟨A, c', rfl⟩ := nodes_slice hd
      clear k0 hd
      generalize nl Ls j = x at *
      go_wp2_with fail
      go_at_fn f
      refine (hz.out _ hB).mono ?_
      rintro e w1 ⟨rfl, hg1⟩
      have hB1 := hB.trans hg1
      cases hp : p x with
      | true =>
        have hv := hA.out hp
        go_wp2_with fail
        go_ret
        exact ⟨_, rfl, hB1, by rw [hv]; simp⟩
      | false =>
        have hs := Lib.hid (hS.out hp)
        go_wp2_with fail
        go_roundw
        case rel => exact ⟨j + 1, by omega, by go_num, hB1, hs⟩
        case measure => simp [intOf]; omega
    · obtain rfl : j = n := by omega
      have hv := Lib.hid (HZ.out HJ.out)
      go_wp2_with fail
      go_ret
      exact ⟨_, rfl, hB, by rw [hv.out]; rfl⟩

theorem containsFuncN_c (v : Value) (Ls : List (List Nd)) (f : Nat) (p : List Nd → Bool) (w : World) (h : NL w v Ls)
    (hf : ∀ i, i < Ls.length → ∀ u W, Nodes W u (nl Ls i) → Calls Tryz.prog f #[u] W fun e W' => e = .returned (.bool (p (nl Ls i))) ∧ Grew W W') (eg : ∀ args w, (callFunc f args).run Tryz.prog w = .ok (.enter f args) w) :
    Calls Tryz.prog 144 #[v, .func (.func f) #[] #[]] w fun e w' => e = .returned (.bool (Ls.any p)) ∧ Grew w w' := by
  have HI := Lib.hid (indexFuncN_c v Ls f p w h hf eg)
  clear h hf eg
  generalize Ls.any p = R at *
  go_enter Tryz.func144, Tryz.ntmps144
  go_wp2_with fail
  refine HI.out.mono ?_
  rintro e w1 ⟨r, rfl, hg1, hr⟩
  go_wp2_with fail
  go_ret
  exact ⟨by rw [← hr]; rfl, hg1⟩


noncomputable def badF (xs : List Nd) : Bool := !fmB xs
theorem badF_le {xs : List Nd} (h : badF xs = false) : 1 ≤ xs.length ∧ xs.length ≤ 40 := by
  unfold badF fmB at h
  simp only [Bool.not_eq_false', Bool.and_eq_true, decide_eq_true_eq] at h
  exact h.1.1
theorem areF1_c (u : Value) (xs : List Nd) (W : World) (h : Nodes W u xs) (hn : xs.length ≤ 1099511627776) : Calls Tryz.prog 145 #[u] W fun e W' => e = .returned (.bool (badF xs)) ∧ Grew W W' := by
  have K := Lib.hid (isFormula_g u xs W h hn)
  obtain ⟨A, c, rfl⟩ := nodes_slice h
  unfold badF
  clear h
  generalize fmB xs = d at *
  go_enter Tryz.func145, Tryz.ntmps145
  go_wp2_with fail
  refine (K.out).mono ?_
  rintro e w1 ⟨rfl, hg1⟩
  go_wp2_with fail
  go_ret
  exact ⟨rfl, hg1⟩
theorem areFormulas_c (v : Value) (Ls : List (List Nd)) (w : World) (h : NL w v Ls) (hf : ∀ i, i < Ls.length → (nl Ls i).length ≤ 1099511627776) :
    Calls Tryz.prog 96 #[v] w fun e w' => e = .returned (.bool (!Ls.any badF)) ∧ Grew w w' := by
  have e1 : ∀ args w, (callFunc 145 args).run Tryz.prog w = .ok (.enter 145 args) w := enters_of Tryz.func145 (by kernel_rfl) rfl
  have K1 := Lib.hid (containsFuncN_c v Ls 145 badF w h (fun i hi u W hu => areF1_c u _ W hu (hf i hi)) e1)
  clear h hf e1
  generalize Ls.any badF = R at *
  go_enter Tryz.func96, Tryz.ntmps96
  go_wp2_with fail
  refine (K1.out).mono ?_
  rintro e w1 ⟨rfl, hg1⟩
  go_wp2_with fail
  go_ret
  exact ⟨rfl, hg1⟩
end Go.Proofs.YtpfncncohnhanaaGreatDoor

/- searchCode and IsValidOn of the program, at a frame and a formula that fit. -/
namespace Go.Proofs.YtpfncncohnhanaaGreatDoor
open Go.RowKit
open Fm (Nd Tree)

set_option maxHeartbeats 2000000 in
set_option maxRecDepth 100000 in
theorem searchCode0_c (n : Int) (b : Nat) (v va : Value) (L : List Int) (xs : List Nd) (w : World) (h : Ints w v L) (ha : Nodes w va xs) (hc : w.cell? ⟨b, 0, none⟩ = some va) (hb : b < w.heap.size) (hfr : frB n L = true) (hvs : Vs xs) (hg : badF xs = false) (hfit : L.length * (mbs (vm xs)).length ≤ 16) :
    Calls Tryz.prog 53 #[.agg #[.int .i64 n, v], .slice (some ⟨b, 0, none⟩) 1 1] w fun e w' => e = .returned (.int .i64 0) ∧ Grew w w' := by
  obtain ⟨rfl, h8, _, _⟩ := frB_ok hfr
  have hn40 := (badF_le hg).2
  have hNL : NL w (.slice (some ⟨b, 0, none⟩) 1 1) [xs] := ⟨b, 0, 1, rfl, Nat.le_refl _, by omega, fun i hi => by
    obtain rfl : i = 0 := by simpa using hi
    exact ⟨va, fun W hW => (hW.cell (p := ⟨b, 0 + 0, none⟩) hb).trans hc, ha⟩⟩
  have HF := Lib.hid (fun W (hW : Grew w W) => areFormulas_c _ [xs] W (hNL.grew hW) (fun i hi => by
    obtain rfl : i = 0 := by simpa using hi
    show xs.length ≤ _
    omega))
  rw [show (!([xs] : List (List Nd)).any badF) = true from by simp [hg]] at HF
  have HI := Lib.hid (fun W (hW : Grew w W) => isFrame_c (L.length : Int) v L W (h.grew hW))
  rw [hfr] at HI
  have HV := Lib.hid (fun W (hW : Grew w W) => variablesIn_one_c b va xs W ((hW.cell (p := ⟨b, 0, none⟩) hb).trans hc) (Nat.lt_of_lt_of_le hb hW.size) (ha.grew hW) hvs (by omega))
  unfold GivesI at HV
  have hal := (Grew.refl w).alloc (.cells #[.int .i64 (L.length : Int), v] 26)
  have y0 : ∀ W, Grew (w.alloc (.cells #[.int .i64 (L.length : Int), v] 26)) W → W.cell? ⟨w.heap.size, 0, none⟩ = some (.int .i64 (L.length : Int)) := fun W hW => (hW.cell (p := ⟨w.heap.size, 0, none⟩) (by simp)).trans (by simp)
  have y1 : ∀ W, Grew (w.alloc (.cells #[.int .i64 (L.length : Int), v] 26)) W → W.cell? ⟨w.heap.size, 1, none⟩ = some v := fun W hW => (hW.cell (p := ⟨w.heap.size, 1, none⟩) (by simp)).trans (by simp)
  have HG := Lib.hid hal
  have r1 := Grew.refl (w.alloc (.cells #[.int .i64 (L.length : Int), v] 26))
  have hzl : (zs (mbs (vm xs))).length = (mbs (vm xs)).length := zs_len _
  rw [← hzl] at hfit
  obtain ⟨M, hM⟩ : ∃ M, M = zs (mbs (vm xs)) := ⟨_, rfl⟩
  rw [← hM] at hfit HV
  have hmul : wrap64 ((L.length : Int) * (M.length : Int)) = ((L.length * M.length : Nat) : Int) := by rw [← Int.natCast_mul, wrap64]; omega
  have hgt : decide ((16 : Int) < IntKind.i64.wrap ((L.length : Int) * (M.length : Int))) = false := by rw [IntKind.wrap_i64, decide_eq_false_iff_not, ← Int.natCast_mul]; omega
  clear hmul
  obtain ⟨A, c, rfl⟩ := ints_slice h
  clear h ha hc hfr hvs hg hal hNL hzl hM hn40 hfit
  generalize L.length = m at *
  go_enter Tryz.func53, Tryz.ntmps53
  go_wp2_with fail
  refine (HI.out _ HG.out).mono ?_
  rintro e w1 ⟨rfl, hg1⟩
  go_wp2_with fail
  refine (HF.out _ (HG.out.trans hg1)).mono ?_
  rintro e w2 ⟨rfl, hg2⟩
  have hg12 := hg1.trans hg2
  have h2 := HG.out.trans hg12
  have z0 := fun W (hW : Grew w2 W) => y0 W (hg12.trans hW)
  have z1 := fun W (hW : Grew w2 W) => y1 W (hg12.trans hW)
  have r2 := Grew.refl w2
  have r2d := r2.drew
  clear y0 y1 r1
  go_wp2_with fail
  refine wp_region_held_drew (S := fun w' => Grew w2 w') (by kernel_rfl) r2d (fun hHeld => ?_)
  refine wpAnyH_take (i := 0) (oi := ?on1) (v := ?vn1) ?hin1 ?an1 ?bn1 ?cn1 ?qn1 (Or.inl ⟨?dn1, ?hyn1⟩) hHeld ?restn1
  case hin1 => (simp only [List.getElem?_toArray, List.getElem?_cons_zero]; exact rfl)
  case an1 => kernel_rfl
  case bn1 => kernel_rfl
  case cn1 => kernel_rfl
  case qn1 => exact fun _ _ _ h => h
  case dn1 => rfl
  case hyn1 => (intro z hSw; (try dsimp only at hSw); go_simp; (try with_reducible rfl))
  try simp only [Act.put, List.setIfInBounds_toArray, List.set_cons_zero, List.set_cons_succ]
  refine wpAnyH_take (i := 1) (oi := ?on2) (v := ?vn2) ?hin2 ?an2 ?bn2 ?cn2 ?qn2 (Or.inl ⟨?dn2, ?hyn2⟩) hHeld ?restn2
  case hin2 => (simp only [List.getElem?_toArray, List.getElem?_cons_succ, List.getElem?_cons_zero]; exact rfl)
  case an2 => kernel_rfl
  case bn2 => kernel_rfl
  case cn2 => kernel_rfl
  case qn2 => exact fun _ _ _ h => h
  case dn2 => rfl
  case hyn2 => (intro z hSw; (try dsimp only at hSw); go_simp; (try with_reducible rfl))
  try simp only [Act.put, List.setIfInBounds_toArray, List.set_cons_zero, List.set_cons_succ]
  refine wpAnyH_take (i := 2) (oi := ?on3) (v := ?vn3) ?hin3 ?an3 ?bn3 ?cn3 ?qn3 (Or.inl ⟨?dn3, ?hyn3⟩) hHeld ?restn3
  case hin3 => (simp only [List.getElem?_toArray, List.getElem?_cons_succ, List.getElem?_cons_zero]; exact rfl)
  case an3 => kernel_rfl
  case bn3 => kernel_rfl
  case cn3 => kernel_rfl
  case qn3 => exact fun _ _ _ h => h
  case dn3 => rfl
  case hyn3 => (intro z hSw; (try dsimp only at hSw); go_simp; (try with_reducible rfl))
  try simp only [Act.put, List.setIfInBounds_toArray, List.set_cons_zero, List.set_cons_succ]
  refine wpAnyH_ready (rs := [3]) (by kernel_rfl) (by simp) ?_
  refine AllReadyH.cons (o := ?on4) ?hin4 ?restn4 AllReadyH.nil
  case hin4 => (simp only [List.getElem?_toArray, List.getElem?_cons_succ, List.getElem?_cons_zero]; exact rfl)
  intro K hK
  go_simp
  go_at_call 35
  refine (HV.out _ (h2.drewN _)).mono ?_
  rintro e w3 ⟨vv, rfl, ho3, hg3⟩
  have h3 : Grew w2 w3 := Grew.trans (by repeat (first | with_reducible assumption | with_reducible refine Grew.alloc ?_ _ | with_reducible refine Grew.drew ?_ | with_reducible refine Grew.drewN ?_ _)) hg3
  obtain ⟨A3, c3, rfl⟩ := ints_slice ho3.ints
  have HS3 := Lib.hid (fun W hW => size_q _ _ W (ho3.ints.grew hW))
  refine hK.out _ _ ?_ (fun hHeld => ?_)
  · (try dsimp only); first | with_reducible assumption | exact Grew.alloc ‹_› _
  clear hK K
  try simp only [Act.put, List.setIfInBounds_toArray, List.set_cons_zero, List.set_cons_succ]
  refine wpAnyH_ready (rs := [4]) (by kernel_rfl) (by simp) ?_
  refine AllReadyH.cons (o := ?on5) ?hin5 ?restn5 AllReadyH.nil
  case hin5 => (simp only [List.getElem?_toArray, List.getElem?_cons_succ, List.getElem?_cons_zero]; exact rfl)
  intro K hK
  go_simp
  go_at_call 89
  refine (HS3.out _ (by first | exact Grew.refl _ | exact (Grew.refl _).drew | exact (Grew.refl _).drewN _)).mono ?_
  rintro e w4 ⟨rfl, hw4⟩
  have h4 : Grew w2 w4 := by subst hw4; first | exact h3 | exact h3.drew | exact h3.drewN _
  refine hK.out _ _ ?_ (fun hHeld => ?_)
  · (try dsimp only); first | with_reducible assumption | exact Grew.alloc ‹_› _
  clear hK K
  try simp only [Act.put, List.setIfInBounds_toArray, List.set_cons_zero, List.set_cons_succ]
  refine wpAnyH_take (i := 5) (oi := ?on6) (v := ?vn6) ?hin6 ?an6 ?bn6 ?cn6 ?qn6 (Or.inl ⟨?dn6, ?hyn6⟩) hHeld ?restn6
  case hin6 => (simp only [List.getElem?_toArray, List.getElem?_cons_succ, List.getElem?_cons_zero]; exact rfl)
  case an6 => kernel_rfl
  case bn6 => kernel_rfl
  case cn6 => kernel_rfl
  case qn6 => exact fun _ _ _ h => h
  case dn6 => rfl
  case hyn6 => (intro z hSw; (try dsimp only at hSw); go_simp; (try with_reducible rfl))
  try simp only [Act.put, List.setIfInBounds_toArray, List.set_cons_zero, List.set_cons_succ]
  refine wpAnyH_take (i := 6) (oi := ?on7) (v := ?vn7) ?hin7 ?an7 ?bn7 ?cn7 ?qn7 (Or.inl ⟨?dn7, ?hyn7⟩) hHeld ?restn7
  case hin7 => (simp only [List.getElem?_toArray, List.getElem?_cons_succ, List.getElem?_cons_zero]; exact rfl)
  case an7 => kernel_rfl
  case bn7 => kernel_rfl
  case cn7 => kernel_rfl
  case qn7 => exact fun _ _ _ h => h
  case dn7 => rfl
  case hyn7 => (intro z hSw; (try dsimp only at hSw); go_simp; (try with_reducible rfl))
  try simp only [Act.put, List.setIfInBounds_toArray, List.set_cons_zero, List.set_cons_succ]
  refine wpAnyH_take (i := 7) (oi := ?on8) (v := ?vn8) ?hin8 ?an8 ?bn8 ?cn8 ?qn8 (Or.inl ⟨?dn8, ?hyn8⟩) hHeld ?restn8
  case hin8 => (simp only [List.getElem?_toArray, List.getElem?_cons_succ, List.getElem?_cons_zero]; exact rfl)
  case an8 => kernel_rfl
  case bn8 => kernel_rfl
  case cn8 => kernel_rfl
  case qn8 => exact fun _ _ _ h => h
  case dn8 => rfl
  case hyn8 => (intro z hSw; (try dsimp only at hSw); go_simp; (try with_reducible rfl))
  try simp only [Act.put, List.setIfInBounds_toArray, List.set_cons_zero, List.set_cons_succ]
  refine wpAnyH_done (by kernel_rfl) ?_ _
  go_wp2_with fail
  go_ret
  exact ⟨rfl, h2.trans h4⟩
theorem validOn_c (n : Int) (v va : Value) (L : List Int) (t : Tree) (w : World) (h : Ints w v L) (ha : Nodes w va (Fm.enc t)) (hfr : frB n L = true) (hvs : Vs (Fm.enc t)) (hg : badF (Fm.enc t) = false) (hfit : L.length * (mbs (vm (Fm.enc t))).length ≤ 16) :
    Calls Tryz.prog 20 #[.agg #[.int .i64 n, v], va] w (GivesBC w (vldB (nats L) (mbs (vm (Fm.enc t))) t, 0)) := by
  unfold GivesBC
  have hn40 := (badF_le hg).2
  obtain ⟨rfl, h8, hz, hA⟩ := frB_ok hfr
  have HS := Lib.hid (fun b W (hW : Grew w W) hc hb => searchCode0_c (L.length : Int) b v va L (Fm.enc t) W (h.grew hW) (ha.grew hW) hc hb hfr hvs hg hfit)
  have HV := Lib.hid (fun W (hW : Grew w W) => frameValid_c v va (nats L) t W (by rw [hz]; exact h.grew hW) (ha.grew hW) hA (by rw [nats_len]; exact h8) hvs (by omega) (by rw [nats_len]; exact hfit))
  rw [nats_len] at HV
  have hal := (Grew.refl w).alloc (.cells #[.int .i64 (L.length : Int), v] 26)
  have y0 : ∀ W, Grew (w.alloc (.cells #[.int .i64 (L.length : Int), v] 26)) W → W.cell? ⟨w.heap.size, 0, none⟩ = some (.int .i64 (L.length : Int)) := fun W hW => (hW.cell (p := ⟨w.heap.size, 0, none⟩) (by simp)).trans (by simp)
  have y1 : ∀ W, Grew (w.alloc (.cells #[.int .i64 (L.length : Int), v] 26)) W → W.cell? ⟨w.heap.size, 1, none⟩ = some v := fun W hW => (hW.cell (p := ⟨w.heap.size, 1, none⟩) (by simp)).trans (by simp)
  have HG := Lib.hid hal
  have r1 := Grew.refl (w.alloc (.cells #[.int .i64 (L.length : Int), v] 26))
  obtain ⟨A, c, rfl⟩ := ints_slice h
  obtain ⟨A2, c2, rfl⟩ := nodes_slice ha
  clear h ha hfr hvs hg hal hz hA hfit hn40 h8
  generalize vldB (nats L) (mbs (vm (Fm.enc t))) t = R at *
  generalize (Fm.enc t).length = m2 at *
  generalize L.length = m at *
  go_enter Tryz.func20, Tryz.ntmps20
  go_wp2_with fail
  refine (HS.out _ _ (HG.out.alloc _) (by simp) (by simp)).mono ?_
  rintro e w1 ⟨rfl, hg1⟩
  have hg1' := Grew.of_alloc hg1
  go_wp2_with fail
  refine (HV.out _ (HG.out.trans hg1')).mono ?_
  rintro e w2 ⟨rfl, hg2⟩
  go_wp2_with fail
  go_ret2
  exact ⟨rfl, HG.out.trans (hg1'.trans hg2)⟩
end Go.Proofs.YtpfncncohnhanaaGreatDoor

/- A cell that is read lies in a block that is there. -/
namespace Go.Proofs.YtpfncncohnhanaaGreatDoor
open Go.RowKit

theorem cell_lt {w : World} {a : Addr} {u : Value} (h : w.cell? a = some u) : a.block < w.heap.size := by
  unfold World.cell? at h
  split at h
  · rename_i hh
    exact (Array.getElem?_eq_some_iff.1 hh).1
  · cases h

end Go.Proofs.YtpfncncohnhanaaGreatDoor

/- An argument that is a list of bytes. -/
namespace Go.Proofs.YtpfncncohnhanaaGreatDoor
open Go.RowKit

theorem argB_of_trod {H : Type} {enc : TypeId × Value → H} {P : Program} {W : World} {sp : Nat → Bool} {held : Bool} {n : Nat} {t e : TypeId} {v : Value} {y : DataW H × List MemPlace}
    (ht : P.underlying t = some (.slice e)) (he : P.underlying e = some (.int .u8)) (hc : P.cellsOf e = 1) (h : DataW.trod enc P W 0 sp held n t [v] = some y) : ∃ N, ArgB W v N := by
  rcases Go.ChangeShapes.open_ints ht he hc h with ⟨hv, _⟩ | ⟨a, len, cap, zs, hv, _, hl, hm, hz, _, hcell, hwf⟩
  · obtain rfl : v = .slice none 0 0 := by simpa using hv
    exact ⟨0, ⟨none, 0, rfl⟩, by omega, fun h => absurd h (by omega)⟩
  · obtain rfl : v = .slice (some a) len cap := by simpa using hv
    have hlm : len ≤ zs.length := by rw [hz]; split <;> omega
    have hmax : maxLen = 9223372036854775807 := by decide
    rw [hmax] at hm
    refine ⟨len, ⟨some a, cap, rfl⟩, by omega, fun hp => ?_⟩
    obtain ⟨b, off, spot⟩ := a
    have h0 := hcell 0 (by omega)
    have hspot : spot = none := by simpa [Addr.add] using World.cell?_spot h0
    subst hspot
    have hb := cell_lt h0
    have hadd : ∀ i, (⟨b, off, none⟩ : Addr).add i = ⟨b, off + i, none⟩ := fun i => by
      unfold Addr.add
      split
      · subst_vars; rfl
      · rfl
    rw [hadd] at hb
    refine ⟨b, off, cap, rfl, hb, hl, hm, fun j hj => ⟨zs.getD j 0, ?_, ?_, ?_⟩⟩
    · have hw := hwf (zs.getD j 0) (by simp [List.getD, show j < zs.length by omega])
      simp [Lit.wf, IntKind.min, IntKind.max, IntKind.signed, IntKind.bits] at hw
      have := hw.1
      simpa [List.getD] using this
    · have hw := hwf (zs.getD j 0) (by simp [List.getD, show j < zs.length by omega])
      simp [Lit.wf, IntKind.min, IntKind.max, IntKind.signed, IntKind.bits] at hw
      have := hw.2
      simp [List.getD] at this ⊢
      omega
    · rw [← hadd]
      exact hcell j (by omega)
end Go.Proofs.YtpfncncohnhanaaGreatDoor

/- The law FnAxioms, walked. -/
namespace Go.Proofs.YtpfncncohnhanaaGreatDoor
open Go.RowKit
open Fm (Nd Tree)

theorem fmB_encA {t : Tree} (h : (Fm.enc t).length ≤ 40) : fmB (Fm.enc t) = true := by
  have hp := Fm.enc_pos t
  unfold fmB
  rw [enc_noNode, decide_eq_true ⟨hp, h⟩]
  have e : pend (Fm.enc t) 0 = ((Fm.enc t).length : Int) := by
    unfold pend
    rw [List.drop_zero]
    have := Fm.scan_one t []
    rw [List.append_nil] at this
    rw [this]
    simp [pval]
  rw [e]
  simp

set_option maxHeartbeats 1000000 in
set_option maxRecDepth 100000 in
theorem lawFa_c (v : Value) (N : Nat) (w : World) (h : ArgB w v N) (hNm : TabAt w 1 axNames) (hTx : TabAt w 0 axTexts) :
    Calls Tryz.prog 4 #[v] w fun e w' => e = .returned (.bool true) ∧ Grew w w' := by
  have HB := big_c v N w h.1
  by_cases hbig : 4096 < N
  · rw [decide_eq_true hbig] at HB
    replace HB := Lib.hid HB
    obtain ⟨⟨A, c, rfl⟩, _⟩ := h
    clear hNm hTx
    go_enter Tryz.func4, Tryz.ntmps4
    go_wp2_with fail
    refine HB.out.mono ?_
    rintro e w1 ⟨rfl, hg1⟩
    go_wp2_with fail
    go_ret
    exact ⟨rfl, hg1⟩
  rw [decide_eq_false hbig] at HB
  replace HB := Lib.hid HB
  have HD := Lib.hid (fun W (hW : Grew w W) => drawAxiom_c v N W (h.grew hW) (by omega))
  have HNm := Lib.hid (fun W (hW : Grew w W) => hNm.grew hW)
  have HTx := Lib.hid (fun W (hW : Grew w W) => hTx.grew hW)
  obtain ⟨⟨A, c, rfl⟩, _⟩ := h
  clear hNm hTx
  go_enter Tryz.func4, Tryz.ntmps4
  go_wp2_with fail
  refine HB.out.mono ?_
  rintro e w1 ⟨rfl, hg1⟩
  go_wp2_with fail
  refine (HD.out _ hg1).mono ?_
  rintro e w2 ⟨vA, n, L, s, rfl, hA, hg2⟩
  have g2 := hg1.trans hg2
  have KFi := Lib.hid (fun W (hW : Grew w2 W) => axiomHoldsP_c n vA L s W (hA.grew hW) (HNm.out W (g2.trans hW)))
  have KFs := Lib.hid (fun W (hW : Grew w2 W) => axiomHoldsS_c n vA L s W (hA.grew hW))
  have KAx := Lib.hid (fun W (hW : Grew w2 W) => implAxiom_c s W (HNm.out W (g2.trans hW)) (HTx.out W (g2.trans hW)))
  unfold GivesBC at KFi KFs
  unfold GivesC at KAx
  have HA := Lib.hid hA
  obtain ⟨A1, c1, rfl⟩ := ints_slice hA
  clear HB HD hbig hA HNm HTx
  have hal := (Grew.refl w2).alloc (.cells #[.int .i64 n, .slice A1 L.length c1] 26)
  have y0 : ∀ W, Grew (w2.alloc (.cells #[.int .i64 n, .slice A1 L.length c1] 26)) W → W.cell? ⟨w2.heap.size, 0, none⟩ = some (.int .i64 n) := fun W hW => (hW.cell (p := ⟨w2.heap.size, 0, none⟩) (by simp)).trans (by simp)
  have y1 : ∀ W, Grew (w2.alloc (.cells #[.int .i64 n, .slice A1 L.length c1] 26)) W → W.cell? ⟨w2.heap.size, 1, none⟩ = some (.slice A1 L.length c1) := fun W hW => (hW.cell (p := ⟨w2.heap.size, 1, none⟩) (by simp)).trans (by simp)
  have r2 := Grew.refl (w2.alloc (.cells #[.int .i64 n, .slice A1 L.length c1] 26))
  have HG := Lib.hid hal
  clear hal
  have hcase : (∃ cd : Int, cd ≠ 0 ∧ ahF n L s = (false, cd)) ∨ ∃ k : Nat, k < 13 ∧ frB n L = true ∧ findS axNames s = (k : Int) ∧ ahF n L s = (axB (nats L) k, 0) := by
    cases hb : frB n L with
    | false => exact .inl ⟨1, by omega, ahF_no hb⟩
    | true =>
      rcases findS_range axNames s with hf | ⟨k, hk, hf⟩
      · exact .inl ⟨4, by omega, ahF_none hb hf⟩
      · exact .inr ⟨k, hk, rfl, hf, ahF_some hb hf⟩
  rcases hcase with ⟨cd, hcd, hah⟩ | ⟨k, hk, hb, hf, hah⟩
  · rw [hah] at KFi KFs
    have hq : (cd != 0) = true := by simpa using hcd
    have hq2 : (cd != cd) = false := by simp
    clear hah KAx HA
    generalize L.length = m at *
    go_wp2_with fail
    refine (KFi.out _ HG.out).mono ?_
    rintro e w3 ⟨rfl, hg3⟩
    go_wp2_with fail
    refine (KFs.out _ (HG.out.trans hg3)).mono ?_
    rintro e w4 ⟨rfl, hg4⟩
    have hg34 := hg3.trans hg4
    go_wp2_with fail
    go_ret
    exact ⟨rfl, (g2.trans HG.out).trans hg34⟩
  · rw [hah] at KFi KFs
    rw [axF_some hf] at KAx
    have h8 := (frB_ok hb).2.1
    have hRl := (frB_ok hb).2.2.2
    have hvl := ax_valid hRl hk
    have hfit : L.length * (mbs (vm (Fm.enc (axTree k)))).length ≤ 16 := by
      rw [axTree_mbs hk]
      have : (axV k).length ≤ 2 := by unfold axV; split <;> decide
      exact Nat.le_trans (Nat.mul_le_mul h8 this) (by decide)
    have hgd : badF (Fm.enc (axTree k)) = false := by unfold badF; rw [fmB_encA (axTree_len hk).1]; rfl
    have hvs := axTree_vs hk
    have KV := Lib.hid (fun W (hW : Grew w2 W) va (ha : Nodes W va (Fm.enc (axTree k))) => validOn_c n (.slice A1 L.length c1) va L (axTree k) W (HA.out.grew hW) ha hb hvs hgd hfit)
    rw [hvl] at KV
    unfold GivesBC at KV
    clear hah hb hf hRl hvl hfit hgd hvs HA h8
    generalize axB (nats L) k = R at *
    generalize L.length = m at *
    go_wp2_with fail
    refine (KFi.out _ HG.out).mono ?_
    rintro e w3 ⟨rfl, hg3⟩
    go_wp2_with fail
    refine (KFs.out _ (HG.out.trans hg3)).mono ?_
    rintro e w4 ⟨rfl, hg4⟩
    have hg34 := hg3.trans hg4
    go_wp2_with fail
    refine (KAx.out _ (HG.out.trans hg34)).mono ?_
    rintro e w5 ⟨v5, rfl, ho5, hg5⟩
    have hg35 := hg34.trans hg5
    have HO5 := Lib.hid ho5.nodes
    obtain ⟨A5, c5, rfl⟩ := nodes_slice ho5.nodes
    clear ho5
    go_wp2_with fail
    refine (KV.out _ (HG.out.trans hg35) _ HO5.out).mono ?_
    rintro e w6 ⟨rfl, hg6⟩
    have hqR : (R == R) = true := by simp
    go_wp2_with fail
    go_ret
    exact ⟨by simp, (g2.trans HG.out).trans (hg35.trans hg6)⟩
end Go.Proofs.YtpfncncohnhanaaGreatDoor

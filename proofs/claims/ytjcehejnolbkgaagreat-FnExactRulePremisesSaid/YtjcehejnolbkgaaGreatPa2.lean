/- Texts in one file: PutL Put2 PutA IdxC Idx Shelf Drop Above PartP Text Parsed IsText Side RpP TwoF OwnV AppStr Pt RowLem Span S12 RpA RpW RpC Args0 RpM RpQ. -/
import Derived.Lib.SlicesS
import Derived.Lib.SliceRun
import Derived.Deep.LoopGhost
import Derived.Outline
import Derived.Shelf.SlicesE.DeleteFunc
import Derived.Deep.RegionHeld3
import Derived.Deep.QuietTactic
import Derived.BigQuiet
import Derived.WalkSpells
import Derived.WalkLawsBesides
import Derived.Test.YtjcehejnolbkgaaGreatPa1
set_option linter.all false

/- A row of texts behind sorting and compacting. -/
namespace Go.Proofs.YtjcehejnolbkgaaGreat
open Go.RowKit Go.Sort

theorem left_put {w w1 : World} {g cap n nn q : Nat} {os : Array Obj} {ss : List (List UInt8)} (hown : w1.ownsRow w.heap.size 9 1 (.slice (some ⟨g, 0, none⟩) n cap) n (ss.map encStr)) (hbel : Grew w w1) (hbg : w.heap.size ≤ g) (hlen : ss.length = n) :
    (putRow encStr (Sort.ahead (grow (putRow encStr (Sort.ahead w1 nn) g 0 (ss.mergeSort fun x y => decide (x ≤ y)).toArray) os) q) g 0 (Lib.compact (ss.mergeSort fun x y => decide (x ≤ y)) ++ List.replicate (n - (Lib.compact (ss.mergeSort fun x y => decide (x ≤ y))).length) []).toArray).ownsRow w.heap.size 9 1 (.slice (some ⟨g, 0, none⟩) (Lib.compact (ss.mergeSort fun x y => decide (x ≤ y))).length cap) (Lib.compact (ss.mergeSort fun x y => decide (x ≤ y))).length ((Lib.compact (ss.mergeSort fun x y => decide (x ≤ y))).map encStr) ∧
    Grew w (putRow encStr (Sort.ahead (grow (putRow encStr (Sort.ahead w1 nn) g 0 (ss.mergeSort fun x y => decide (x ≤ y)).toArray) os) q) g 0 (Lib.compact (ss.mergeSort fun x y => decide (x ≤ y)) ++ List.replicate (n - (Lib.compact (ss.mergeSort fun x y => decide (x ≤ y))).length) []).toArray) := by
  have hl2 : (ss.mergeSort fun x y => decide (x ≤ y)).length = ss.length := List.length_mergeSort ss
  have hle := Lib.compact_length_le (ss.mergeSort fun x y => decide (x ≤ y))
  subst hlen
  rcases hown.2 with ⟨h0, _⟩ | ⟨g', cap', cur, hv, hbase, hb, h1, h2, h3, h4⟩
  · cases h0
  cases hv
  have hs := ownsRow_sorted (n := nn) (os := os) (ts := ss.mergeSort fun x y => decide (x ≤ y)) hl2 hbase hb h1 h2 h3
  have hc := Lib.ownsRow_putRow (q := q) (k := (Lib.compact (ss.mergeSort fun x y => decide (x ≤ y))).length) (ys := Lib.compact (ss.mergeSort fun x y => decide (x ≤ y)) ++ List.replicate (ss.length - (Lib.compact (ss.mergeSort fun x y => decide (x ≤ y))).length) []) hs (by simp; omega) (by omega)
  rw [List.take_left] at hc
  exact ⟨hc, Lib.below_putRow (Below.grown hbel (grownBy_sorted _) hbel.size (fun j hj => by cases hj; exact hbase)) hbg⟩

theorem putS_nil : putS [] = [] := by simp [putS, putB, bl, Lib.compact, Lib.compactUpTo]

end Go.Proofs.YtjcehejnolbkgaaGreat

/- put of the program. -/
namespace Go.Proofs.YtjcehejnolbkgaaGreat
open Go.RowKit Go.Sort

set_option maxHeartbeats 2000000 in
theorem put_c (v vt : Value) (L K : List ByteArray) (w : World) (h : Strs w v L) (hk : Strs w vt K) (hn : L.length + K.length ≤ 1099511627776) :
    Calls Tryz.prog 38 #[v, vt] w fun e w' => ∃ u, e = .returned u ∧ OwnS w' w.heap.size u (putS (L ++ K)) ∧ Grew w w' := by
  obtain ⟨A1, c1, rfl⟩ := strs_slice h
  obtain ⟨A2, c2, rfl⟩ := strs_slice hk
  have HAL := Lib.hid ((Grew.refl w).alloc (.cells #[.slice A1 L.length c1, .slice A2 K.length c2] 22))
  have KC := Lib.hid (concat2_c w.heap.size A1 A2 c1 c2 L K (w.alloc (.cells #[.slice A1 L.length c1, .slice A2 K.length c2] 22)) (h.grew HAL.out) (hk.grew HAL.out)
    (fun W hW => (hW.cell (p := ⟨w.heap.size, 0, none⟩) (by simp)).trans (by simp)) (fun W hW => (hW.cell (p := ⟨w.heap.size, 1, none⟩) (by simp)).trans (by simp)) hn)
  have hll : (L ++ K).length ≤ 1099511627776 := by rw [List.length_append]; exact hn
  clear h hk
  generalize L ++ K = M at *
  by_cases hM : M = []
  · subst hM
    rw [putS_nil]
    have KS := Lib.hid (fun p cap w => Tryz.slices_Sort_string_none p cap w)
    have KT := Lib.hid (fun p cap w => Tryz.slices_Compact_string_empty p cap w)
    go_enter Tryz.func38, Tryz.ntmps38
    go_wp2_with fail
    refine (KC.out).mono ?_
    rintro e w1 ⟨v1, rfl, ho1, hg1⟩
    obtain ⟨A, c, rfl⟩ := strs_slice ho1.strs
    simp only [List.length_nil]
    go_wp2_with fail
    refine (KS.out _ _ _).mono ?_
    rintro e w2 ⟨rfl, rfl⟩
    go_wp2_with fail
    refine (KT.out _ _ _).mono ?_
    rintro e w3 ⟨rfl, rfl⟩
    go_wp2_with fail
    go_ret
    exact ⟨_, rfl, ho1.base HAL.out.size, HAL.out.trans hg1⟩
  · have hpos : 0 < M.length := List.length_pos_iff.2 hM
    have hbl : (bl M).length = M.length := by simp [bl]
    have hP : putS M = (Lib.compact ((bl M).mergeSort fun x y => decide (x ≤ y))).map fun b => (⟨b.toArray⟩ : ByteArray) := rfl
    have hPL : (putS M).length = (Lib.compact ((bl M).mergeSort fun x y => decide (x ≤ y))).length := by rw [hP]; simp
    have HEND := Lib.hid (fun (w' : World) g cap (hown : w'.ownsRow w.heap.size 9 1 (.slice (some ⟨g, 0, none⟩) (Lib.compact ((bl M).mergeSort fun x y => decide (x ≤ y))).length cap) (Lib.compact ((bl M).mergeSort fun x y => decide (x ≤ y))).length ((Lib.compact ((bl M).mergeSort fun x y => decide (x ≤ y))).map encStr)) =>
      (show OwnS w' w.heap.size (.slice (some ⟨g, 0, none⟩) (Lib.compact ((bl M).mergeSort fun x y => decide (x ≤ y))).length cap) (putS M) from by
        have hr := hown
        unfold OwnS
        rw [hPL]
        have e := ofB (Lib.compact ((bl M).mergeSort fun x y => decide (x ≤ y)))
        rw [← hP] at e
        rw [e]
        exact hr))
    have HSC := scells_bl M
    clear hM hP hPL
    go_enter Tryz.func38, Tryz.ntmps38
    go_wp2_with fail
    refine (KC.out).mono ?_
    rintro e w1 ⟨v1, rfl, ho1, hg1⟩
    have g1 := HAL.out.trans hg1
    have ho2 : w1.ownsRow w.heap.size 9 1 v1 M.length ((bl M).map encStr) := by
      have := ho1.base HAL.out.size
      unfold OwnS at this
      rw [HSC] at this
      exact this
    obtain ⟨g, cap, rfl, hbg, hgl, hncap, hcm, hlen, hH⟩ := Lib.holds_of_ownsRow ho2 (by
      intro h0
      rw [h0] at ho2
      rcases ho2.2 with ⟨_, h3⟩ | ⟨_, _, _, h3, _⟩
      · omega
      · cases h3)
    have hcm2 : cap ≤ 9223372036854775807 := hcm
    have KS := Tryz.slices_Sort_string g 0 cap (bl M) w1 hH hgl (by omega)
    rw [hlen] at KS
    replace KS := Lib.hid KS
    have X := Lib.hid (show _ ∧ _ from ⟨ho2, hH⟩)
    have KT := Lib.hid (fun (nn : Nat) (os : Array Obj) => (by
      have hl2 : ((bl M).mergeSort fun x y => decide (x ≤ y)).length = M.length := by rw [List.length_mergeSort]; exact hlen
      have hH2 : Holds encStr (grow (putRow encStr (Sort.ahead w1 nn) g 0 ((bl M).mergeSort fun x y => decide (x ≤ y)).toArray) os) g 0 ((bl M).mergeSort fun x y => decide (x ≤ y)).toArray :=
        holds_grow encStr _ os g 0 _ (by simpa [putRow, mapBlock, Sort.ahead] using hgl) (holds_putRow encStr _ g 0 _ _ (holds_ahead encStr w1 nn g 0 _ hH) (by simp))
      have hc := Tryz.slices_Compact_string g 0 cap ((bl M).mergeSort fun x y => decide (x ≤ y)) _ hH2 (by omega) (by omega)
      rw [hl2] at hc
      exact hc))
    clear ho1 ho2 hH HSC hbl
    go_wp2_with fail
    refine (KS.out).mono ?_
    rintro e w2 ⟨rfl, nn, os, rfl⟩
    go_wp2_with fail
    refine (KT.out nn os).mono ?_
    rintro e w3 ⟨rfl, q, rfl⟩
    go_wp2_with fail
    go_ret
    obtain ⟨z1, z2⟩ := left_put (nn := nn) (q := q) (os := os) X.out.1 g1 hbg hlen
    exact ⟨_, rfl, HEND.out _ _ _ z1, z2⟩
end Go.Proofs.YtjcehejnolbkgaaGreat

/- Texts in ascending order: what inserting makes. No program is in sight. -/
namespace Go.Proofs.YtjcehejnolbkgaaGreat
open Go.RowKit Go.Sort

/-- A text put into an ascending list. -/
noncomputable def insA : List ByteArray → ByteArray → List ByteArray
  | [], s => [s]
  | x :: L, s => if Op.bytesLess x.toList s.toList = true then x :: insA L s else @ite _ (x = s) (Classical.propDecidable _) (x :: L) (s :: x :: L)
theorem insA_mem (L : List ByteArray) (s y : ByteArray) : y ∈ insA L s ↔ y ∈ L ∨ y = s := by
  induction L with
  | nil => simp [insA]
  | cons x L ih =>
    unfold insA
    split
    · rw [List.mem_cons, ih, List.mem_cons, or_assoc]
    · split
      · rename_i h
        subst h
        rw [List.mem_cons]
        exact ⟨.inl, fun h => h.elim id .inl⟩
      · simp only [List.mem_cons]
        constructor
        · rintro (h | h | h)
          · exact .inr h
          · exact .inl (.inl h)
          · exact .inl (.inr h)
        · rintro ((h | h) | h)
          · exact .inr (.inl h)
          · exact .inr (.inr h)
          · exact .inl h
theorem blt_iff (a b : ByteArray) : Op.bytesLess a.toList b.toList = true ↔ a.data.toList < b.data.toList := by
  rw [bytesLess_eq, Lib.toList_data, Lib.toList_data, decide_eq_true_eq]
theorem insA_up {L : List ByteArray} {s : ByteArray} (h : Up L) : Up (insA L s) := by
  induction L with
  | nil => exact List.pairwise_singleton _ _
  | cons x L ih =>
    obtain ⟨h3, h4⟩ := List.pairwise_cons.1 h
    unfold insA
    split
    · rename_i hb
      refine List.pairwise_cons.2 ⟨fun y hy => ?_, ih h4⟩
      rcases (insA_mem L s y).1 hy with hy | rfl
      · exact h3 y hy
      · exact (blt_iff _ _).1 hb
    · rename_i hb
      split
      · exact h
      · rename_i hne
        have hlt : s.data.toList < x.data.toList := by
          have h1 : ¬ x.data.toList < s.data.toList := fun h => hb ((blt_iff _ _).2 h)
          exact blt_le (List.not_lt.1 h1) fun e => hne (bdata_inj e.symm)
        refine List.pairwise_cons.2 ⟨fun y hy => ?_, h⟩
        rcases List.mem_cons.1 hy with rfl | hy
        · exact hlt
        · exact List.lt_trans hlt (h3 y hy)
theorem insA_put {L : List ByteArray} (h : Up L) (s : ByteArray) : insA L s = putS (L ++ [s]) :=
  up_ext (insA_up h) (putS_up _) fun x => by rw [insA_mem, putS_mem, List.mem_append, List.mem_singleton]
theorem insA_put2 {L : List ByteArray} (h : Up L) (s z : ByteArray) : insA (insA L s) z = putS (L ++ [s, z]) :=
  up_ext (insA_up (insA_up h)) (putS_up _) fun x => by
    rw [insA_mem, insA_mem, putS_mem, List.mem_append]
    simp only [List.mem_cons, List.not_mem_nil, or_false, or_assoc]
/-- The first j are ahead of the text. -/
def Ahd (L : List ByteArray) (s : ByteArray) (j : Nat) : Prop := ∀ i, i < j → Op.bytesLess (st L i).toList s.toList = true
theorem Ahd.zero (L : List ByteArray) (s : ByteArray) : Ahd L s 0 := fun i hi => absurd hi (by omega)
theorem Ahd.succ {L : List ByteArray} {s : ByteArray} {j : Nat} (h : Ahd L s j) (h1 : Op.bytesLess (st L j).toList s.toList = true) : Ahd L s (j + 1) := by
  intro i hi
  rcases Nat.lt_or_ge i j with hk | hk
  · exact h i hk
  · obtain rfl : i = j := by omega
    exact h1
theorem insA_ahd {L : List ByteArray} {s : ByteArray} : ∀ {j : Nat}, j ≤ L.length → Ahd L s j → insA L s = L.take j ++ insA (L.drop j) s := by
  induction L with
  | nil => intro j hj _; obtain rfl : j = 0 := by simpa using hj
           rfl
  | cons x L ih =>
    intro j hj h
    match j with
    | 0 => rfl
    | j + 1 =>
      have h0 := h 0 (by omega)
      have e : insA (x :: L) s = x :: insA L s := by
        rw [insA, if_pos (by simpa [st] using h0)]
      rw [e, ih (j := j) (by simpa using hj) (fun i hi => by simpa [st] using h (i + 1) (by omega))]
      rfl
theorem insA_end {L : List ByteArray} {s : ByteArray} (h : Ahd L s L.length) : L.take L.length ++ [s] ++ L.drop L.length = insA L s := by
  rw [insA_ahd (Nat.le_refl _) h]
  simp [insA]
theorem insA_mid {L : List ByteArray} {s : ByteArray} {j : Nat} (hj : j < L.length) (h : Ahd L s j) (h1 : Op.bytesLess (st L j).toList s.toList = false) (h2 : st L j ≠ s) : L.take j ++ [s] ++ L.drop j = insA L s := by
  rw [insA_ahd (by omega) h, List.drop_eq_getElem_cons hj]
  rw [← st_get hj] at h1 h2
  rw [insA, if_neg (by rw [h1]; decide), if_neg h2]
  simp
theorem insA_same {L : List ByteArray} {s : ByteArray} {j : Nat} (hj : j < L.length) (h : Ahd L s j) (h1 : Op.bytesLess (st L j).toList s.toList = false) (h2 : st L j = s) : insA L s = L := by
  rw [insA_ahd (by omega) h, List.drop_eq_getElem_cons hj]
  rw [← st_get hj] at h1 h2
  rw [insA, if_neg (by rw [h1]; decide), if_pos h2, ← List.drop_eq_getElem_cons hj, List.take_append_drop]
theorem insA_len (L : List ByteArray) (s : ByteArray) : (insA L s).length ≤ L.length + 1 := by
  induction L with
  | nil => simp [insA]
  | cons x L ih =>
    unfold insA
    split
    · simpa using ih
    · split <;> simp
end Go.Proofs.YtjcehejnolbkgaaGreat

/- slices.Index, slices.Contains at texts. -/
namespace Go.Proofs.YtjcehejnolbkgaaGreat
open Go.RowKit

theorem bytes_ne' {a b : ByteArray} (h : a ≠ b) : (a.toList == b.toList) = false := by
  rw [beq_eq_false_iff_ne]
  intro he
  exact h (by rw [Lib.toList_data, Lib.toList_data] at he; cases a; cases b; simpa using he)
theorem bytes_eq' (a : ByteArray) : (a.toList == a.toList) = true := by simp
/-- The first k texts are others. -/
def NotS (L : List ByteArray) (s : ByteArray) (k : Nat) : Prop := ∀ i, i < k → st L i ≠ s
theorem NotS.zero (L : List ByteArray) (s : ByteArray) : NotS L s 0 := fun i hi => absurd hi (by omega)
theorem NotS.succ {L : List ByteArray} {s : ByteArray} {k : Nat} (h : NotS L s k) (h1 : st L k ≠ s) : NotS L s (k + 1) := by
  intro i hi
  rcases Nat.lt_or_ge i k with hk | hk
  · exact h i hk
  · obtain rfl : i = k := by omega
    exact h1
theorem notS_all {L : List ByteArray} {s : ByteArray} (h : NotS L s L.length) : ¬ s ∈ L := by
  intro hm
  obtain ⟨i, hi, he⟩ := List.getElem_of_mem hm
  exact h i hi (by rw [← st_get hi, he])
theorem st_mem {L : List ByteArray} {k : Nat} (hk : k < L.length) : st L k ∈ L := by rw [← st_get hk]; exact List.getElem_mem hk

theorem indexS_c (v : Value) (L : List ByteArray) (s : ByteArray) (w : World) (h : Strs w v L) (hn : L.length ≤ 1099511627776) :
    Calls Tryz.prog 54 #[v, .string s] w fun e w' => ∃ r : Int, e = .returned (.int .i64 r) ∧ Grew w w' ∧ decide (0 ≤ r) = dc (s ∈ L) := by
  obtain ⟨R, hR⟩ : ∃ R, R = dc (s ∈ L) := ⟨_, rfl⟩
  rw [← hR]
  rcases h.open_ with ⟨rfl, rfl⟩ | ⟨b, o, c, rfl, hc, hm, hb, hcell⟩
  · have hv := Lib.hid (hR.trans (dc_false (by simp)))
    clear h hR
    go_enter Tryz.func54, Tryz.ntmps54
    go_wp2_with fail
    refine wp_loop_rounds 1 ?_; rw [rounds_succ]
    go_wp2_with fail
    go_ret
    exact ⟨_, rfl, Grew.refl _, by rw [hv.out]; rfl⟩
  have HA := Lib.hid (fun k (hk : k < L.length) (he : st L k = s) => hR.trans (dc_true (by rw [← he]; exact st_mem hk)))
  have HZ := Lib.hid (fun h => hR.trans (dc_false (@notS_all L s h)))
  have HC := Lib.hid hcell
  clear h hcell hR
  generalize hN : L.length = n at *
  clear hN
  go_enter Tryz.func54, Tryz.ntmps54
  go_wp2_with fail
  go_loopw [8] (fun i wr => ∃ j : Nat, j ≤ n ∧ i = .int .i64 j ∧ Grew w wr ∧ Hid (NotS L s j)) (fun i _ => n - (intOf i).toNat)
  case atStart => exact ⟨0, Nat.zero_le _, rfl, Grew.refl _, NotS.zero _ _⟩
  case round =>
    obtain ⟨j, hj, rfl, hB, HJ⟩ := hrel
    by_cases hlt : j < n
    · have k1 := HC.out j hlt _ hB
      have hA := Lib.hid (HA.out j hlt)
      have hS := Lib.hid (fun h => HJ.out.succ (k := j) h)
      generalize st L j = x at *
      by_cases hx : x = s
      · have hv := Lib.hid (hA.out hx)
        subst hx
        have q1 := bytes_eq' x
        clear hA hS
        go_wp2_with fail
        go_ret
        exact ⟨_, rfl, hB, by rw [hv.out]; simp⟩
      · have hs := Lib.hid (hS.out hx)
        have q1 := bytes_ne' (fun e : s = x => hx e.symm)
        have q2 := bytes_ne' hx
        clear hA hS hx
        go_wp2_with fail
        go_roundw
        case rel => exact ⟨j + 1, by omega, by go_num, hB, hs⟩
        case measure => simp [intOf]; omega
    · obtain rfl : j = n := by omega
      have hv := Lib.hid (HZ.out HJ.out)
      go_wp2_with fail
      go_ret
      exact ⟨_, rfl, hB, by rw [hv.out]; rfl⟩
theorem containsS_c (v : Value) (L : List ByteArray) (s : ByteArray) (w : World) (h : Strs w v L) (hn : L.length ≤ 1099511627776) :
    Calls Tryz.prog 35 #[v, .string s] w fun e w' => e = .returned (.bool (dc (s ∈ L))) ∧ Grew w w' := by
  have HI := Lib.hid (indexS_c v L s w h hn)
  obtain ⟨A, c, rfl⟩ := strs_slice h
  clear h
  generalize dc (s ∈ L) = R at *
  go_enter Tryz.func35, Tryz.ntmps35
  go_wp2_with fail
  refine HI.out.mono ?_
  rintro e w1 ⟨r, rfl, hg1, hr⟩
  go_wp2_with fail
  go_ret
  exact ⟨by rw [← hr]; rfl, hg1⟩

theorem own_emptyS' (w : World) : OwnS (w.alloc (.cells #[] 9)) w.heap.size (.slice (some ⟨w.heap.size, 0, none⟩) 0 0) [] :=
  World.ownsRow_lit (e := 9) (size := 1) w #[] 0 (Nat.le_refl _) (by omega) rfl
end Go.Proofs.YtjcehejnolbkgaaGreat

/- slices.Clone at texts. -/
namespace Go.Proofs.YtjcehejnolbkgaaGreat
open Go.RowKit

theorem cloneS_c (v : Value) (L : List ByteArray) (w : World) (h : Strs w v L) (hn : L.length ≤ 1099511627776) :
    Calls Tryz.prog 65 #[v] w (GivesS w L) := by
  have q : ∀ (w : World) (a : Option Addr) (n c n' c' : Nat), (binOp .eql 22 (.slice a n c) (.slice none n' c')).run Tryz.prog w = .ok (.bool a.isNone) w := fun w a n c n' c' => Lib.run_eql_slice_nil w _ _ a n c n' c' Tryz.underlying22
  have he := own_emptyS' w
  rcases h.open_ with ⟨rfl, rfl⟩ | ⟨b, o, c, rfl, hc, hm, hb, hf⟩
  · clear he h
    go_enter Tryz.func65, Tryz.ntmps65
    go_wp2_with fail
    go_ret
    exact ⟨_, rfl, OwnS.nil_ _ _, Grew.refl _⟩
  · clear hf
    go_enter Tryz.func65, Tryz.ntmps65
    go_wp2_with (first
      | (at_builtin; refine wpList_appSs (w0 := w) _ _ rfl rfl _ [] rfl he ((Grew.refl w).alloc _) _ L rfl (h.grew ((Grew.refl w).alloc _)) (by simp; omega) ?_; intro v1 w1 hown1 hg1 _))
    go_ret
    exact ⟨_, rfl, by simpa using hown1, hg1⟩
end Go.Proofs.YtjcehejnolbkgaaGreat

/- Contracts of the library (deleting texts), laid at this program. -/
namespace Go.Proofs
open Go.Shelf
def Tryz.laysSlH10_f170_ren : Go.Shelf.Ren := ⟨fun | 10 => 78 | 6 => 101 | n => n, fun | 22 => 22 | 23 => 9 | 25 => 37 | 3 => 3 | 4 => 4 | 0 => 0 | n => n, fun | n => n⟩
theorem Tryz.laysSlH10_f170 : Go.Proofs.SlLaysH.n10 Tryz.prog Tryz.laysSlH10_f170_ren := {
  mixed := by kernel_rfl
  f6 := ⟨Tryz.f101.name, by decide, Tryz.func101.trans (congrArg some (by kernel_rfl))⟩
  f10 := ⟨Tryz.f78.name, by decide, Tryz.func78.trans (congrArg some (by kernel_rfl))⟩
  t0 := Tryz.underlying0
  a0 := Tryz.isAgg0
  z0 := Tryz.sizeOf0
  v0 := Tryz.zeroValue0
  t3 := Tryz.underlying3
  a3 := Tryz.isAgg3
  z3 := Tryz.sizeOf3
  v3 := Tryz.zeroValue3
  t4 := Tryz.underlying4
  a4 := Tryz.isAgg4
  z4 := Tryz.sizeOf4
  v4 := Tryz.zeroValue4
  t22 := Tryz.underlying22
  a22 := Tryz.isAgg22
  z22 := Tryz.sizeOf22
  v22 := Tryz.zeroValue22
  a23 := Tryz.isAgg9
  z23 := Tryz.sizeOf9
  t25 := Tryz.underlying37
  a25 := Tryz.isAgg37
  z25 := Tryz.sizeOf37
  v25 := Tryz.zeroValue37 }
open Go.RowKit Go.Lib Go.Sort in
theorem Tryz.slices_DeleteFunc {α : Type} [Inhabited α] (enc : α → Value) (hO : OneCell enc) (p : α → Bool) (g : Nat) (lb : Array Value) (eg : ∀ args w, (callFunc g args).run Tryz.prog w = .ok (.enter g args) w) (zr : α) (v23 : ∀ w, (zeroValue 9).run Tryz.prog w = .ok (enc zr) w) (blk off cap : Nat) (d : Array α) (w : World) (hp : PredAt Tryz.prog g lb enc p w) (hpo : PredOver Tryz.prog g lb enc p blk off d.size w) (hH : Holds enc w blk off d) (hsz : d.size ≤ 9223372036854775807) (hcap : d.size ≤ cap) :
    Calls Tryz.prog 78 #[.slice (some ⟨blk, off, none⟩) d.size cap, .func (.func g) #[] lb] w fun e w' => e = .returned (.slice (some ⟨blk, off, none⟩) (d.toList.filter fun x => !p x).length cap) ∧ ∃ q, w' = putRow enc (Sort.ahead w q) blk off ((d.toList.filter fun x => !p x) ++ List.replicate (d.size - (d.toList.filter fun x => !p x).length) zr).toArray := AnyE.slices_DeleteFunc Tryz.laysSlH10_f170 enc hO p g lb eg zr v23 blk off cap d w hp hpo hH hsz hcap
end Go.Proofs

/- drop of the program: a list without a text. -/
namespace Go.Proofs.YtjcehejnolbkgaaGreat
open Go.RowKit Go.Sort

/-- A list without a text. -/
noncomputable def dropS (L : List ByteArray) (t : ByteArray) : List ByteArray := L.filter fun x => !dc (x = t)
theorem dropS_nil (t : ByteArray) : dropS [] t = [] := rfl

theorem drop1_c (s t : ByteArray) (bt : Nat) (W : World) (k : W.cell? ⟨bt, 0, none⟩ = some (.string t)) :
    Calls Tryz.prog 79 #[.string s, .pointer (some ⟨bt, 0, none⟩)] W fun e W' => e = .returned (.bool (dc (s = t))) ∧ W' = W := by
  by_cases h : s = t
  · rw [dc_true h]
    subst h
    have q1 := bytes_eq' s
    go_enter Tryz.func79, Tryz.ntmps79
    go_wp2_with fail
    go_ret
    exact ⟨rfl, rfl⟩
  · rw [dc_false h]
    have q1 := bytes_ne' h
    go_enter Tryz.func79, Tryz.ntmps79
    go_wp2_with fail
    go_ret
    exact ⟨rfl, rfl⟩

theorem indexFunc0_c (A : Option Addr) (c : Nat) (fv : Value) (w : World) : Calls Tryz.prog 101 #[.slice A 0 c, fv] w fun e w' => e = .returned (.int .i64 (-1)) ∧ w' = w := by
  go_enter Tryz.func101, Tryz.ntmps101
  go_wp2_with fail
  refine wp_loop_rounds 1 ?_; rw [rounds_succ]
  go_wp2_with fail
  go_ret
  exact ⟨rfl, rfl⟩
theorem deleteFunc0_c (A : Option Addr) (c : Nat) (fv : Value) (w : World) : Calls Tryz.prog 78 #[.slice A 0 c, fv] w fun e w' => e = .returned (.slice A 0 c) ∧ w' = w := by
  have K := Lib.hid (indexFunc0_c A c fv w)
  go_enter Tryz.func78, Tryz.ntmps78
  go_wp2_with fail
  refine (K.out).mono ?_
  rintro e w1 ⟨rfl, rfl⟩
  go_wp2_with fail
  go_ret
  exact ⟨rfl, rfl⟩
theorem oneS : OneCell Value.string := fun _ => rfl

/-- The world behind DeleteFunc. -/
theorem left_drop {w0 w : World} {L : List ByteArray} {t : ByteArray} {g cap q : Nat} (hown : w.ownsRow w0.heap.size 9 1 (.slice (some ⟨g, 0, none⟩) L.length cap) L.length (L.map Value.string)) (hg : w0.heap.size ≤ g) (hb : Grew w0 w) :
    OwnS (putRow Value.string (Sort.ahead w q) g 0 ((L.toArray.toList.filter fun x => !dc (x = t)) ++ List.replicate (L.toArray.size - (L.toArray.toList.filter fun x => !dc (x = t)).length) ByteArray.empty).toArray) w0.heap.size (.slice (some ⟨g, 0, none⟩) (L.toArray.toList.filter fun x => !dc (x = t)).length cap) (dropS L t) ∧
    Grew w0 (putRow Value.string (Sort.ahead w q) g 0 ((L.toArray.toList.filter fun x => !dc (x = t)) ++ List.replicate (L.toArray.size - (L.toArray.toList.filter fun x => !dc (x = t)).length) ByteArray.empty).toArray) := by
  have hle : (L.filter fun x => !dc (x = t)).length ≤ L.length := List.length_filter_le _ _
  have hc := Lib.ownsRow_putRow (q := q) (k := (L.filter fun x => !dc (x = t)).length) (ys := (L.filter fun x => !dc (x = t)) ++ List.replicate (L.length - (L.filter fun x => !dc (x = t)).length) ByteArray.empty) hown (by simp; omega) hle
  rw [List.take_left] at hc
  exact ⟨hc, Lib.below_putRow hb hg⟩

set_option maxHeartbeats 2000000 in
theorem dropO_c (v : Value) (L : List ByteArray) (t : ByteArray) (w : World) (h : Strs w v L) (hn : L.length ≤ 1099511627776) :
    Calls Tryz.prog 61 #[v, .string t] w (GivesS w (dropS L t)) := by
  have hal := Lib.hid ((Grew.refl w).alloc (.cells #[.string t] 9))
  have KC := Lib.hid (cloneS_c v L _ (h.grew hal.out) hn)
  obtain ⟨A, c, rfl⟩ := strs_slice h
  clear h
  by_cases hL : L = []
  · subst hL
    rw [dropS_nil]
    have KD := Lib.hid (fun A c fv w => deleteFunc0_c A c fv w)
    go_enter Tryz.func61, Tryz.ntmps61
    go_wp2_with fail
    refine (KC.out).mono ?_
    rintro e w1 ⟨v1, rfl, ho1, hg1⟩
    obtain ⟨A1, c1, rfl⟩ := strs_slice ho1.strs
    simp only [List.length_nil]
    go_wp2_with fail
    refine (KD.out _ _ _ _).mono ?_
    rintro e w2 ⟨rfl, rfl⟩
    go_wp2_with fail
    go_ret
    exact ⟨_, rfl, ho1.base hal.out.size, hal.out.trans hg1⟩
  · have hpos : 0 < L.length := List.length_pos_iff.2 hL
    have eg : ∀ args w, (callFunc 79 args).run Tryz.prog w = .ok (.enter 79 args) w := enters_of Tryz.func79 (by kernel_rfl) rfl
    have zr : ∀ w, (zeroValue 9).run Tryz.prog w = .ok (.string ByteArray.empty) w := Tryz.zeroValue9
    clear hL
    go_enter Tryz.func61, Tryz.ntmps61
    go_wp2_with fail
    refine (KC.out).mono ?_
    rintro e w1 ⟨v1, rfl, ho1, hg1⟩
    have g1 := hal.out.trans hg1
    have hbt : w1.cell? ⟨w.heap.size, 0, none⟩ = some (.string t) := (hg1.cell (p := ⟨w.heap.size, 0, none⟩) (by simp)).trans (by simp)
    have hbl : w.heap.size < w1.heap.size := by have := hg1.size; simp at this; omega
    have ho2 : w1.ownsRow (w.alloc (.cells #[.string t] 9)).heap.size 9 1 v1 L.length (L.map Value.string) := ho1
    obtain ⟨g, cap, rfl, hbg, hgl, hncap, hcm, hlen, hH⟩ := Lib.holds_of_ownsRow ho2 (by
      intro h0
      rw [h0] at ho2
      rcases ho2.2 with ⟨_, h3⟩ | ⟨_, _, _, h3, _⟩
      · omega
      · cases h3)
    have hcm2 : cap ≤ 9223372036854775807 := hcm
    have hgw : w.heap.size < g := by simp at hbg; omega
    have KD := Tryz.slices_DeleteFunc Value.string oneS (fun x => dc (x = t)) 79 #[.pointer (some ⟨w.heap.size, 0, none⟩)] eg ByteArray.empty zr g 0 cap L.toArray w1
      (fun W x hb => (drop1_c x t w.heap.size W ((hb.cell (p := ⟨w.heap.size, 0, none⟩) hbl).trans hbt)).mono fun e W' ⟨h1, h2⟩ => ⟨h1, 0, by rw [h2]; rfl⟩)
      (fun n os dk x hs => (drop1_c x t w.heap.size _ (by
        unfold sortWorld
        rw [cell?_grow _ _ _ (by simpa [putRow, mapBlock, Sort.ahead] using hbl), cell?_putRow_other _ _ _ _ _ _ (.inl (by show w.heap.size ≠ g; omega))]
        exact hbt)).mono fun e W' ⟨h1, h2⟩ => ⟨h1, 0, by rw [h2]; rfl⟩)
      hH (by simp; omega) (by simp; omega)
    have KE : L.toArray.size = L.length := by simp
    rw [show (Value.slice (some ⟨g, 0, none⟩) L.toArray.size cap) = .slice (some ⟨g, 0, none⟩) L.length cap by rw [KE]] at KD
    replace KD := Lib.hid KD
    have HEND := Lib.hid (fun q => @left_drop w w1 L t g cap q (own_base ho2 (by simp)) (by omega) g1)
    clear ho1 ho2 hH eg zr KE
    go_wp2_with fail
    refine (KD.out).mono ?_
    rintro e w2 ⟨rfl, q, rfl⟩
    go_wp2_with fail
    go_ret
    obtain ⟨z1, z2⟩ := HEND.out q
    exact ⟨_, rfl, z1, z2⟩
theorem drop_c (v : Value) (L : List ByteArray) (t : ByteArray) (w : World) (h : Strs w v L) (hn : L.length ≤ 1099511627776) :
    Calls Tryz.prog 61 #[v, .string t] w fun e w' => ∃ u, e = .returned u ∧ Strs w' u (dropS L t) ∧ Grew w w' :=
  (dropO_c v L t w h hn).mono fun _ _ ⟨u, h1, h2, h3⟩ => ⟨u, h1, h2.strs, h3⟩
end Go.Proofs.YtjcehejnolbkgaaGreat

/- The order of texts. -/
namespace Go.Proofs.YtjcehejnolbkgaaGreat
open Go.RowKit

theorem above_iff : ∀ (x y : List UInt8), (Op.bytesLess x y || x == y) = !Op.bytesLess y x
  | [], [] => by simp [Op.bytesLess]
  | _ :: _, [] => by simp [Op.bytesLess]
  | [], _ :: _ => by simp [Op.bytesLess]
  | a :: x, b :: y => by
    have ih := above_iff x y
    rw [Op.bytesLess, Op.bytesLess]
    by_cases h1 : a < b
    · have h2 : ¬ b < a := by simp only [UInt8.lt_iff_toNat_lt] at *; omega
      have h3 : ¬ b = a := by rintro rfl; exact h2 h1
      simp [h1, h2, h3]
    · by_cases h2 : a = b
      · subst h2
        have h3 : ¬ a < a := h1
        simp only [h3, decide_false, Bool.false_or, beq_self_eq_true, Bool.true_and]
        rw [← ih]
        simp
      · have h3 : b < a := by
          simp only [UInt8.lt_iff_toNat_lt, ← UInt8.toNat_inj] at *
          omega
        have h4 : ¬ b = a := fun h => h2 h.symm
        simp [h1, h2, h3, h4]
end Go.Proofs.YtjcehejnolbkgaaGreat

/- The parts of a formula, as the program's text needs them. -/
namespace Go.Proofs.YtjcehejnolbkgaaGreat
open Go.RowKit
open Fm (Nd Tree)

theorem first_c (v : Value) (xs : List Nd) (t : Tree) (w : World) (h : Nodes w v xs) (hn : xs.length ≤ 1099511627776) (ht : At xs 1 t) :
    Calls Tryz.prog 57 #[v] w (Cuts w (Fm.enc t)) := by
  have HT := Lib.hid ht
  clear ht
  go_enter Tryz.func57, Tryz.ntmps57
  go_wp2_with fail
  refine (part_c _ xs 1 t _ h hn HT.out).mono ?_
  rintro e w1 ⟨v1, rfl, hN1, hg1⟩
  go_wp2_with fail
  go_ret
  exact ⟨_, rfl, hN1, hg1⟩

theorem second_c (v : Value) (xs : List Nd) (a t : Tree) (w : World) (h : Nodes w v xs) (hn : xs.length ≤ 1099511627776) (ha : At xs 1 a) (ht : At xs (1 + (Fm.enc a).length) t) :
    Calls Tryz.prog 86 #[v] w (Cuts w (Fm.enc t)) := by
  have HA := Lib.hid ha
  have HT := Lib.hid ht
  clear ha ht
  go_enter Tryz.func86, Tryz.ntmps86
  go_wp2_with fail
  refine (partEnd_at _ xs 1 a _ h hn HA.out).mono ?_
  rintro e w1 ⟨rfl, hg1⟩
  go_wp2_with fail
  refine (part_c _ xs (1 + (Fm.enc a).length) t _ (h.grew hg1) hn HT.out).mono ?_
  rintro e w2 ⟨v2, rfl, hN2, hg2⟩
  go_wp2_with fail
  go_ret
  exact ⟨_, rfl, hN2, hg1.trans hg2⟩

theorem isFalsum_c (v : Value) (t : Tree) (w : World) (h : Nodes w v (Fm.enc t)) :
    Calls Tryz.prog 88 #[v] w fun e w' => e = .returned (.bool (Fm.isF t)) ∧ Grew w w' := by
  have hpos := Fm.enc_pos t
  rcases h.open_ with ⟨rfl, h0⟩ | ⟨b, o, c, rfl, hc, hm, hb, hf⟩
  · rw [h0] at hpos; simp at hpos
  · have k1 := (hf 0 (by omega) w (Grew.refl _)).1
    rw [kd_enc] at k1
    rw [isF_kind]
    simp only [Nat.zero_mul, Nat.add_zero] at k1
    clear hf h
    go_enter Tryz.func88, Tryz.ntmps88
    go_wp2_with fail
    go_ret
    exact ⟨rfl, Grew.refl _⟩

theorem isNegation_c (v : Value) (t : Tree) (w : World) (h : Nodes w v (Fm.enc t)) (hn : (Fm.enc t).length ≤ 1099511627776) :
    Calls Tryz.prog 87 #[v] w fun e w' => e = .returned (.bool (isNeg t)) ∧ Grew w w' := by
  have hpos := Fm.enc_pos t
  rcases h.open_ with ⟨rfl, h0⟩ | ⟨b, o, c, rfl, hc, hm, hb, hf⟩
  · rw [h0] at hpos; simp at hpos
  · have k1 := (hf 0 (by omega) w (Grew.refl _)).1
    rw [kd_enc] at k1
    simp only [Nat.zero_mul, Nat.add_zero] at k1
    clear hf
    by_cases hk : kindOf t = 4
    · obtain ⟨x, y, rfl⟩ : ∃ x y, t = .imp x y := by cases t <;> simp_all [kindOf]
      have ha := at_first (xs := Fm.enc (.imp x y)) (k := (4, 0)) (a := x) (rest := Fm.enc y) rfl
      have hb2 := at_second (xs := Fm.enc (.imp x y)) (k := (4, 0)) (a := x) (b := y) rfl
      have HA := Lib.hid ha
      have HB := Lib.hid hb2
      have HH := Lib.hid h
      have hE : isNeg (.imp x y) = Fm.isF y := rfl
      rw [hE]
      rw [hk] at k1
      clear ha hb2 h hE hk
      generalize Fm.enc (.imp x y) = T at *
      go_enter Tryz.func87, Tryz.ntmps87
      go_wp2_with fail
      refine (second_c _ T x y _ HH.out hn HA.out HB.out).mono ?_
      rintro e w1 ⟨v1, rfl, hN1, hg1⟩
      go_wp2_with fail
      refine (isFalsum_c _ y _ hN1).mono ?_
      rintro e w2 ⟨rfl, hg2⟩
      go_wp2_with fail
      go_ret
      exact ⟨by simp, hg1.trans hg2⟩
    · have hE : isNeg t = false := by cases t <;> simp_all [isNeg, kindOf]
      rw [hE]
      have hk' : (kindOf t == 4) = false := by simpa using hk
      clear hE hk h
      generalize kindOf t = K at *
      go_enter Tryz.func87, Tryz.ntmps87
      go_wp2_with fail
      go_ret
      exact ⟨rfl, Grew.refl _⟩

theorem levelOf_c (v : Value) (t : Tree) (w : World) (h : Nodes w v (Fm.enc t)) (hn : (Fm.enc t).length ≤ 1099511627776) :
    Calls Tryz.prog 85 #[v] w fun e w' => e = .returned (.int .i64 (Fm.own t)) ∧ Grew w w' := by
  have hpos := Fm.enc_pos t
  rcases h.open_ with ⟨rfl, h0⟩ | ⟨b, o, c, rfl, hc, hm, hb, hf⟩
  · rw [h0] at hpos; simp at hpos
  · have k1 := fun W hW => (hf 0 (by omega) W hW).1
    rw [kd_enc] at k1
    simp only [Nat.zero_mul, Nat.add_zero] at k1
    have HN := Lib.hid (fun w h => isNegation_c (.slice (some ⟨b, o, none⟩) (Fm.enc t).length c) t w h hn)
    have HH := Lib.hid h
    have hg0 := Grew.refl w
    clear hf h
    by_cases hk : kindOf t = 4
    · rw [hk] at k1
      cases hng : isNeg t with
      | true =>
        have hE : Fm.own t = 3 := by cases t <;> simp_all [isNeg, kindOf, Fm.own]
        rw [hE]
        rw [hng] at HN
        clear hE hk hng
        go_enter Tryz.func85, Tryz.ntmps85
        go_wp2_with fail
        refine (HN.out _ HH.out).mono ?_
        rintro e w1 ⟨rfl, hg1⟩
        go_wp2_with fail
        go_ret
        exact ⟨rfl, hg1⟩
      | false =>
        have hE : Fm.own t = 0 := by cases t <;> simp_all [isNeg, kindOf, Fm.own]
        rw [hE]
        rw [hng] at HN
        clear hE hk hng
        go_enter Tryz.func85, Tryz.ntmps85
        go_wp2_with fail
        refine (HN.out _ HH.out).mono ?_
        rintro e w1 ⟨rfl, hg1⟩
        go_wp2_with fail
        go_ret
        exact ⟨rfl, hg1⟩
    · have hk4 : (kindOf t == 4) = false := by simpa using hk
      by_cases hk3 : kindOf t = 3
      · have hE : Fm.own t = 1 := by cases t <;> simp_all [kindOf, Fm.own]
        rw [hE]
        rw [hk3] at k1
        clear hE hk hk4 hk3
        go_enter Tryz.func85, Tryz.ntmps85
        go_wp2_with fail
        go_ret
        exact ⟨rfl, Grew.refl _⟩
      by_cases hk2 : kindOf t = 2
      · have hE : Fm.own t = 2 := by cases t <;> simp_all [kindOf, Fm.own]
        rw [hE]
        rw [hk2] at k1
        clear hE hk hk4 hk3 hk2
        go_enter Tryz.func85, Tryz.ntmps85
        go_wp2_with fail
        go_ret
        exact ⟨rfl, Grew.refl _⟩
      · have hE : Fm.own t = 3 := by cases t <;> simp_all [kindOf, Fm.own]
        rw [hE]
        have hk3' : (kindOf t == 3) = false := by simpa using hk3
        have hk2' : (kindOf t == 2) = false := by simpa using hk2
        clear hE hk hk3 hk2 HN HH
        generalize kindOf t = K at *
        go_enter Tryz.func85, Tryz.ntmps85
        go_wp2_with fail
        go_ret
        exact ⟨rfl, Grew.refl _⟩
end Go.Proofs.YtjcehejnolbkgaaGreat

/- The text of a formula: the program's textAt. -/
namespace Go.Proofs.YtjcehejnolbkgaaGreat
open Go.RowKit
open Fm (Nd Tree)

def TextOk (t : Tree) : Prop := ∀ (l : Nat) (v : Value) (w : World), l ≤ 3 → Nodes w v (Fm.enc t) → (Fm.enc t).length ≤ 1048576 →
  Calls Tryz.prog 73 #[v, .int .i64 l] w (Says w (Fm.txt t l))
/-- The same where no brackets are needed. -/
def BodyOk (t : Tree) : Prop := ∀ (l : Nat) (v : Value) (w : World), l ≤ Fm.own t → Nodes w v (Fm.enc t) → (Fm.enc t).length ≤ 1048576 →
  Calls Tryz.prog 73 #[v, .int .i64 l] w (Says w (Fm.txt t l))

theorem body_and (x y : Tree) (hx : TextOk x) (hy : TextOk y) : BodyOk (.and x y) := by
  intro l v w hl h hn
  have hown : Fm.own (.and x y) = 2 := by rfl
  have hE : Fm.txt (.and x y) l = Fm.txt x 2 ++ [38] ++ Fm.txt y 3 := by
    rw [Fm.txt, Fm.wrap, if_neg (by omega)]
  rw [hE]
  rw [hown] at hl
  obtain ⟨b, o, c, rfl, hc, hm, k1⟩ := nodes_head h
  have hpos := Fm.enc_pos (.and x y)
  have HL := Lib.hid (levelOf_c _ _ w h (by omega))
  have HH := Lib.hid h
  have hg0 := Grew.refl w
  rw [hown] at HL
  rw [show kindOf (.and x y) = 2 from rfl] at k1
  have HA := Lib.hid (at_first (xs := Fm.enc (.and x y)) (k := (2, 0)) (a := x) (rest := Fm.enc y) rfl)
  have HB := Lib.hid (at_second (xs := Fm.enc (.and x y)) (k := (2, 0)) (a := x) (b := y) rfl)
  have hlen : (Fm.enc (.and x y)).length = 1 + ((Fm.enc x).length + (Fm.enc y).length) := by simp [Fm.enc]; omega
  have h1 := Fm.txt_len x 2
  have h2 := Fm.txt_len y 3
  have HX := Lib.hid hx
  have HY := Lib.hid hy
  have hn1 : (Fm.enc x).length ≤ 1048576 := by omega
  have hn2 : (Fm.enc y).length ≤ 1048576 := by omega
  clear hE h hx hy hlen hown
  generalize Fm.enc (.and x y) = T at *
  have s1 := bs_size (Fm.txt x 2)
  have s2 := bs_size (Fm.txt y 3)
  have z1 : (bs (Fm.txt x 2)).size ≤ 4194304 := by omega
  have z2 : (bs (Fm.txt y 3)).size ≤ 4194304 := by omega
  have HE : Hid (bs (Fm.txt x 2) ++ bs [38] ++ bs (Fm.txt y 3) = bs (Fm.txt x 2 ++ [38] ++ Fm.txt y 3)) := by unfold Hid; rw [bs_append, bs_append]
  clear s1 s2 h1 h2
  generalize Fm.txt x 2 ++ [38] ++ Fm.txt y 3 = Z at *
  go_enter Tryz.func73, Tryz.ntmps73
  go_wp2_with fail
  refine HL.out.mono ?_
  rintro e w1 ⟨rfl, hg1⟩
  go_wp2_with fail
  refine (first_c _ T x _ (HH.out.grew hg1) (by omega) HA.out).mono ?_
  rintro e w2 ⟨v2, rfl, hN2, hg2⟩
  go_wp2_with fail
  refine (HX.out 2 _ _ (by omega) hN2 hn1).mono ?_
  rintro e w3 ⟨rfl, hg3⟩
  go_wp2_with fail
  refine (second_c _ T x y _ (HH.out.grew ((hg1.trans hg2).trans hg3)) (by omega) HA.out HB.out).mono ?_
  rintro e w4 ⟨v4, rfl, hN4, hg4⟩
  go_wp2_with fail
  refine (HY.out 3 _ _ (by omega) hN4 hn2).mono ?_
  rintro e w5 ⟨rfl, hg5⟩
  go_wp2_with fail
  go_ret
  exact ⟨congrArg (fun z => Ending.returned (.string z)) HE.out, (((hg1.trans hg2).trans hg3).trans hg4).trans hg5⟩

theorem body_or (x y : Tree) (hx : TextOk x) (hy : TextOk y) : BodyOk (.or x y) := by
  intro l v w hl h hn
  have hown : Fm.own (.or x y) = 1 := by rfl
  have hE : Fm.txt (.or x y) l = Fm.txt x 1 ++ [124] ++ Fm.txt y 2 := by
    rw [Fm.txt, Fm.wrap, if_neg (by omega)]
  rw [hE]
  rw [hown] at hl
  obtain ⟨b, o, c, rfl, hc, hm, k1⟩ := nodes_head h
  have hpos := Fm.enc_pos (.or x y)
  have HL := Lib.hid (levelOf_c _ _ w h (by omega))
  have HH := Lib.hid h
  have hg0 := Grew.refl w
  rw [hown] at HL
  rw [show kindOf (.or x y) = 3 from rfl] at k1
  have HA := Lib.hid (at_first (xs := Fm.enc (.or x y)) (k := (3, 0)) (a := x) (rest := Fm.enc y) rfl)
  have HB := Lib.hid (at_second (xs := Fm.enc (.or x y)) (k := (3, 0)) (a := x) (b := y) rfl)
  have hlen : (Fm.enc (.or x y)).length = 1 + ((Fm.enc x).length + (Fm.enc y).length) := by simp [Fm.enc]; omega
  have h1 := Fm.txt_len x 1
  have h2 := Fm.txt_len y 2
  have HX := Lib.hid hx
  have HY := Lib.hid hy
  have hn1 : (Fm.enc x).length ≤ 1048576 := by omega
  have hn2 : (Fm.enc y).length ≤ 1048576 := by omega
  clear hE h hx hy hlen hown
  generalize Fm.enc (.or x y) = T at *
  have s1 := bs_size (Fm.txt x 1)
  have s2 := bs_size (Fm.txt y 2)
  have z1 : (bs (Fm.txt x 1)).size ≤ 4194304 := by omega
  have z2 : (bs (Fm.txt y 2)).size ≤ 4194304 := by omega
  have HE : Hid (bs (Fm.txt x 1) ++ bs [124] ++ bs (Fm.txt y 2) = bs (Fm.txt x 1 ++ [124] ++ Fm.txt y 2)) := by unfold Hid; rw [bs_append, bs_append]
  clear s1 s2 h1 h2
  generalize Fm.txt x 1 ++ [124] ++ Fm.txt y 2 = Z at *
  go_enter Tryz.func73, Tryz.ntmps73
  go_wp2_with fail
  refine HL.out.mono ?_
  rintro e w1 ⟨rfl, hg1⟩
  go_wp2_with fail
  refine (first_c _ T x _ (HH.out.grew hg1) (by omega) HA.out).mono ?_
  rintro e w2 ⟨v2, rfl, hN2, hg2⟩
  go_wp2_with fail
  refine (HX.out 1 _ _ (by omega) hN2 hn1).mono ?_
  rintro e w3 ⟨rfl, hg3⟩
  go_wp2_with fail
  refine (second_c _ T x y _ (HH.out.grew ((hg1.trans hg2).trans hg3)) (by omega) HA.out HB.out).mono ?_
  rintro e w4 ⟨v4, rfl, hN4, hg4⟩
  go_wp2_with fail
  refine (HY.out 2 _ _ (by omega) hN4 hn2).mono ?_
  rintro e w5 ⟨rfl, hg5⟩
  go_wp2_with fail
  go_ret
  exact ⟨congrArg (fun z => Ending.returned (.string z)) HE.out, (((hg1.trans hg2).trans hg3).trans hg4).trans hg5⟩

theorem body_imp (x y : Tree) (hf : Fm.isF y = false) (hx : TextOk x) (hy : TextOk y) : BodyOk (.imp x y) := by
  intro l v w hl h hn
  have hown : Fm.own (.imp x y) = 0 := by simp [Fm.own, hf]
  have hE : Fm.txt (.imp x y) l = Fm.txt x 1 ++ [62] ++ Fm.txt y 0 := by
    rw [Fm.txt, if_neg (by simp [hf]), Fm.wrap, if_neg (by omega)]
  rw [hE]
  rw [hown] at hl
  obtain ⟨b, o, c, rfl, hc, hm, k1⟩ := nodes_head h
  have hpos := Fm.enc_pos (.imp x y)
  have HL := Lib.hid (levelOf_c _ _ w h (by omega))
  have HH := Lib.hid h
  have hg0 := Grew.refl w
  have hng : isNeg (.imp x y) = false := hf
  have HG := Lib.hid (fun w h => isNegation_c (.slice (some ⟨b, o, none⟩) (Fm.enc (.imp x y)).length c) (.imp x y) w h (by omega))
  rw [hng] at HG
  rw [hown] at HL
  rw [show kindOf (.imp x y) = 4 from rfl] at k1
  have HA := Lib.hid (at_first (xs := Fm.enc (.imp x y)) (k := (4, 0)) (a := x) (rest := Fm.enc y) rfl)
  have HB := Lib.hid (at_second (xs := Fm.enc (.imp x y)) (k := (4, 0)) (a := x) (b := y) rfl)
  have hlen : (Fm.enc (.imp x y)).length = 1 + ((Fm.enc x).length + (Fm.enc y).length) := by simp [Fm.enc]; omega
  have h1 := Fm.txt_len x 1
  have h2 := Fm.txt_len y 0
  have HX := Lib.hid hx
  have HY := Lib.hid hy
  have hn1 : (Fm.enc x).length ≤ 1048576 := by omega
  have hn2 : (Fm.enc y).length ≤ 1048576 := by omega
  clear hE h hx hy hlen hown hng hf
  generalize Fm.enc (.imp x y) = T at *
  have s1 := bs_size (Fm.txt x 1)
  have s2 := bs_size (Fm.txt y 0)
  have z1 : (bs (Fm.txt x 1)).size ≤ 4194304 := by omega
  have z2 : (bs (Fm.txt y 0)).size ≤ 4194304 := by omega
  have HE : Hid (bs (Fm.txt x 1) ++ bs [62] ++ bs (Fm.txt y 0) = bs (Fm.txt x 1 ++ [62] ++ Fm.txt y 0)) := by unfold Hid; rw [bs_append, bs_append]
  clear s1 s2 h1 h2
  generalize Fm.txt x 1 ++ [62] ++ Fm.txt y 0 = Z at *
  go_enter Tryz.func73, Tryz.ntmps73
  go_wp2_with fail
  refine HL.out.mono ?_
  rintro e w1 ⟨rfl, hg1⟩
  go_wp2_with fail
  refine (HG.out _ (HH.out.grew hg1)).mono ?_
  rintro e w11 ⟨rfl, hg11⟩
  have hg1 := hg1.trans hg11
  go_wp2_with fail
  refine (first_c _ T x _ (HH.out.grew hg1) (by omega) HA.out).mono ?_
  rintro e w2 ⟨v2, rfl, hN2, hg2⟩
  go_wp2_with fail
  refine (HX.out 1 _ _ (by omega) hN2 hn1).mono ?_
  rintro e w3 ⟨rfl, hg3⟩
  go_wp2_with fail
  refine (second_c _ T x y _ (HH.out.grew ((hg1.trans hg2).trans hg3)) (by omega) HA.out HB.out).mono ?_
  rintro e w4 ⟨v4, rfl, hN4, hg4⟩
  go_wp2_with fail
  refine (HY.out 0 _ _ (by omega) hN4 hn2).mono ?_
  rintro e w5 ⟨rfl, hg5⟩
  go_wp2_with fail
  go_ret
  exact ⟨congrArg (fun z => Ending.returned (.string z)) HE.out, (((hg1.trans hg2).trans hg3).trans hg4).trans hg5⟩

theorem body_box (x : Tree) (hx : TextOk x) : BodyOk (.box x) := by
  intro l v w hl h hn
  have hown : Fm.own (.box x) = 3 := rfl
  have hE : Fm.txt (.box x) l = [91, 93] ++ Fm.txt x 3 := rfl
  rw [hE]
  rw [hown] at hl
  obtain ⟨b, o, c, rfl, hc, hm, k1⟩ := nodes_head h
  have hpos := Fm.enc_pos (.box x)
  have HL := Lib.hid (levelOf_c _ _ w h (by omega))
  have HH := Lib.hid h
  have hg0 := Grew.refl w
  rw [hown] at HL
  rw [show kindOf (.box x) = 5 from rfl] at k1
  have HA := Lib.hid (at_first (xs := Fm.enc (.box x)) (k := (5, 0)) (a := x) (rest := []) (by simp [Fm.enc]))
  have hlen : (Fm.enc (.box x)).length = 1 + (Fm.enc x).length := by simp [Fm.enc]; omega
  have h1 := Fm.txt_len x 3
  have HX := Lib.hid hx
  have hn1 : (Fm.enc x).length ≤ 1048576 := by omega
  clear hE h hx hlen hown
  generalize Fm.enc (.box x) = T at *
  have s1 := bs_size (Fm.txt x 3)
  have z1 : (bs (Fm.txt x 3)).size ≤ 4194304 := by omega
  have HE : Hid (bs [91, 93] ++ bs (Fm.txt x 3) = bs ([91, 93] ++ Fm.txt x 3)) := by unfold Hid; rw [bs_append]
  clear s1 h1
  generalize [91, 93] ++ Fm.txt x 3 = Z at *
  go_enter Tryz.func73, Tryz.ntmps73
  go_wp2_with fail
  refine HL.out.mono ?_
  rintro e w1 ⟨rfl, hg1⟩
  go_wp2_with fail
  refine (first_c _ T x _ (HH.out.grew hg1) (by omega) HA.out).mono ?_
  rintro e w2 ⟨v2, rfl, hN2, hg2⟩
  go_wp2_with fail
  refine (HX.out 3 _ _ (by omega) hN2 hn1).mono ?_
  rintro e w3 ⟨rfl, hg3⟩
  go_wp2_with fail
  go_ret
  exact ⟨congrArg (fun z => Ending.returned (.string z)) HE.out, (hg1.trans hg2).trans hg3⟩

theorem body_dia (x : Tree) (hx : TextOk x) : BodyOk (.dia x) := by
  intro l v w hl h hn
  have hown : Fm.own (.dia x) = 3 := rfl
  have hE : Fm.txt (.dia x) l = [60, 62] ++ Fm.txt x 3 := rfl
  rw [hE]
  rw [hown] at hl
  obtain ⟨b, o, c, rfl, hc, hm, k1⟩ := nodes_head h
  have hpos := Fm.enc_pos (.dia x)
  have HL := Lib.hid (levelOf_c _ _ w h (by omega))
  have HH := Lib.hid h
  have hg0 := Grew.refl w
  rw [hown] at HL
  rw [show kindOf (.dia x) = 6 from rfl] at k1
  have HA := Lib.hid (at_first (xs := Fm.enc (.dia x)) (k := (6, 0)) (a := x) (rest := []) (by simp [Fm.enc]))
  have hlen : (Fm.enc (.dia x)).length = 1 + (Fm.enc x).length := by simp [Fm.enc]; omega
  have h1 := Fm.txt_len x 3
  have HX := Lib.hid hx
  have hn1 : (Fm.enc x).length ≤ 1048576 := by omega
  clear hE h hx hlen hown
  generalize Fm.enc (.dia x) = T at *
  have s1 := bs_size (Fm.txt x 3)
  have z1 : (bs (Fm.txt x 3)).size ≤ 4194304 := by omega
  have HE : Hid (bs [60, 62] ++ bs (Fm.txt x 3) = bs ([60, 62] ++ Fm.txt x 3)) := by unfold Hid; rw [bs_append]
  clear s1 h1
  generalize [60, 62] ++ Fm.txt x 3 = Z at *
  go_enter Tryz.func73, Tryz.ntmps73
  go_wp2_with fail
  refine HL.out.mono ?_
  rintro e w1 ⟨rfl, hg1⟩
  go_wp2_with fail
  refine (first_c _ T x _ (HH.out.grew hg1) (by omega) HA.out).mono ?_
  rintro e w2 ⟨v2, rfl, hN2, hg2⟩
  go_wp2_with fail
  refine (HX.out 3 _ _ (by omega) hN2 hn1).mono ?_
  rintro e w3 ⟨rfl, hg3⟩
  go_wp2_with fail
  go_ret
  exact ⟨congrArg (fun z => Ending.returned (.string z)) HE.out, (hg1.trans hg2).trans hg3⟩

theorem body_tru (x : Tree) (hf : Fm.isF x = true) : BodyOk (.imp x .fls) := by
  intro l v w hl h hn
  have hown : Fm.own (.imp x .fls) = 3 := rfl
  have hE : Fm.txt (.imp x .fls) l = [84] := by
    rw [Fm.txt, if_pos (show Fm.isF .fls = true from rfl), if_pos hf]
  rw [hE]
  rw [hown] at hl
  obtain ⟨b, o, c, rfl, hc, hm, k1⟩ := nodes_head h
  have hpos := Fm.enc_pos (.imp x .fls)
  have HL := Lib.hid (levelOf_c _ _ w h (by omega))
  have HH := Lib.hid h
  have hg0 := Grew.refl w
  have HG := Lib.hid (fun w h => isNegation_c (.slice (some ⟨b, o, none⟩) (Fm.enc (.imp x .fls)).length c) (.imp x .fls) w h (by omega))
  rw [show isNeg (.imp x .fls) = true from rfl] at HG
  rw [hown] at HL
  rw [show kindOf (.imp x .fls) = 4 from rfl] at k1
  have HA := Lib.hid (at_first (xs := Fm.enc (.imp x .fls)) (k := (4, 0)) (a := x) (rest := Fm.enc .fls) rfl)
  have hlen : (Fm.enc (.imp x .fls)).length = 2 + (Fm.enc x).length := by simp [Fm.enc]; omega
  have hn1 : (Fm.enc x).length ≤ 1048576 := by omega
  have HI := Lib.hid (fun v w h => isFalsum_c v x w h)
  rw [hf] at HI
  clear hE h hlen hown hf
  generalize Fm.enc (.imp x .fls) = T at *
  go_enter Tryz.func73, Tryz.ntmps73
  go_wp2_with fail
  refine HL.out.mono ?_
  rintro e w1 ⟨rfl, hg1⟩
  go_wp2_with fail
  refine (HG.out _ (HH.out.grew hg1)).mono ?_
  rintro e w11 ⟨rfl, hg11⟩
  have hg1 := hg1.trans hg11
  go_wp2_with fail
  refine (first_c _ T x _ (HH.out.grew hg1) (by omega) HA.out).mono ?_
  rintro e w2 ⟨v2, rfl, hN2, hg2⟩
  go_wp2_with fail
  refine (HI.out _ _ hN2).mono ?_
  rintro e w3 ⟨rfl, hg3⟩
  go_wp2_with fail
  go_ret
  exact ⟨rfl, (hg1.trans hg2).trans hg3⟩

theorem body_not (x : Tree) (hf : Fm.isF x = false) (hx : TextOk x) : BodyOk (.imp x .fls) := by
  intro l v w hl h hn
  have hown : Fm.own (.imp x .fls) = 3 := rfl
  have hE : Fm.txt (.imp x .fls) l = [126] ++ Fm.txt x 3 := by
    rw [Fm.txt, if_pos (show Fm.isF .fls = true from rfl), if_neg (by simp [hf])]
  rw [hE]
  rw [hown] at hl
  obtain ⟨b, o, c, rfl, hc, hm, k1⟩ := nodes_head h
  have hpos := Fm.enc_pos (.imp x .fls)
  have HL := Lib.hid (levelOf_c _ _ w h (by omega))
  have HH := Lib.hid h
  have hg0 := Grew.refl w
  have HG := Lib.hid (fun w h => isNegation_c (.slice (some ⟨b, o, none⟩) (Fm.enc (.imp x .fls)).length c) (.imp x .fls) w h (by omega))
  rw [show isNeg (.imp x .fls) = true from rfl] at HG
  rw [hown] at HL
  rw [show kindOf (.imp x .fls) = 4 from rfl] at k1
  have HA := Lib.hid (at_first (xs := Fm.enc (.imp x .fls)) (k := (4, 0)) (a := x) (rest := Fm.enc .fls) rfl)
  have hlen : (Fm.enc (.imp x .fls)).length = 2 + (Fm.enc x).length := by simp [Fm.enc]; omega
  have hn1 : (Fm.enc x).length ≤ 1048576 := by omega
  have HI := Lib.hid (fun v w h => isFalsum_c v x w h)
  rw [hf] at HI
  have h1 := Fm.txt_len x 3
  have HX := Lib.hid hx
  have s1 := bs_size (Fm.txt x 3)
  have z1 : (bs (Fm.txt x 3)).size ≤ 4194304 := by omega
  have HE : Hid (bs [126] ++ bs (Fm.txt x 3) = bs ([126] ++ Fm.txt x 3)) := by unfold Hid; rw [bs_append]
  clear s1 h1 hx
  generalize [126] ++ Fm.txt x 3 = Z at *
  clear hE h hlen hown hf
  generalize Fm.enc (.imp x .fls) = T at *
  go_enter Tryz.func73, Tryz.ntmps73
  go_wp2_with fail
  refine HL.out.mono ?_
  rintro e w1 ⟨rfl, hg1⟩
  go_wp2_with fail
  refine (HG.out _ (HH.out.grew hg1)).mono ?_
  rintro e w11 ⟨rfl, hg11⟩
  have hg1 := hg1.trans hg11
  go_wp2_with fail
  refine (first_c _ T x _ (HH.out.grew hg1) (by omega) HA.out).mono ?_
  rintro e w2 ⟨v2, rfl, hN2, hg2⟩
  go_wp2_with fail
  refine (HI.out _ _ hN2).mono ?_
  rintro e w3 ⟨rfl, hg3⟩
  go_wp2_with fail
  refine (first_c _ T x _ (HH.out.grew ((hg1.trans hg2).trans hg3)) (by omega) HA.out).mono ?_
  rintro e w4 ⟨v4, rfl, hN4, hg4⟩
  go_wp2_with fail
  refine (HX.out 3 _ _ (by omega) hN4 hn1).mono ?_
  rintro e w5 ⟨rfl, hg5⟩
  go_wp2_with fail
  go_ret
  exact ⟨congrArg (fun z => Ending.returned (.string z)) HE.out, (((hg1.trans hg2).trans hg3).trans hg4).trans hg5⟩

theorem body_fls : BodyOk .fls := by
  intro l v w hl h hn
  have hE : Fm.txt .fls l = [70] := rfl
  rw [hE]
  rw [show Fm.own .fls = 3 from rfl] at hl
  obtain ⟨b, o, c, rfl, hc, hm, k1⟩ := nodes_head h
  have hpos := Fm.enc_pos (.fls)
  have HL := Lib.hid (levelOf_c _ _ w h (by omega))
  have HH := Lib.hid h
  have hg0 := Grew.refl w
  rw [show Fm.own .fls = 3 from rfl] at HL
  rw [show kindOf .fls = 1 from rfl] at k1
  clear hE h
  generalize Fm.enc .fls = T at *
  go_enter Tryz.func73, Tryz.ntmps73
  go_wp2_with fail
  refine HL.out.mono ?_
  rintro e w1 ⟨rfl, hg1⟩
  go_wp2_with fail
  go_ret
  exact ⟨rfl, hg1⟩

theorem body_var (n : Fin 6) : BodyOk (.var n) := by
  intro l v w hl h hn
  have hE : Fm.txt (.var n) l = [UInt8.ofNat (112 + n.val)] := rfl
  rw [hE]
  rw [show Fm.own (.var n) = 3 from rfl] at hl
  have k2 : ∃ b o c, v = .slice (some ⟨b, o, none⟩) (Fm.enc (.var n)).length c ∧ ∀ W, Grew w W → W.cell? ⟨b, o + 1, none⟩ = some (.int .i64 (n.val : Int)) := by
    rcases h.open_ with ⟨_, h0⟩ | ⟨b, o, c, hv, _, _, _, hf⟩
    · simp [Fm.enc] at h0
    · refine ⟨b, o, c, hv, fun W hW => ?_⟩
      have := (hf 0 (by simp [Fm.enc]) W hW).2
      rw [show sy (Fm.enc (.var n)) 0 = (n.val : Int) from rfl] at this
      simpa using this
  obtain ⟨b, o, c, rfl, hc, hm, k1⟩ := nodes_head h
  have hpos := Fm.enc_pos (.var n)
  have HL := Lib.hid (levelOf_c _ _ w h (by omega))
  have HH := Lib.hid h
  have hg0 := Grew.refl w
  obtain ⟨b', o', c', hv', k2⟩ := k2
  simp only [Value.slice.injEq, Option.some.injEq, Addr.mk.injEq, and_true, true_and] at hv'
  obtain ⟨⟨rfl, rfl⟩, rfl⟩ := hv'
  rw [show Fm.own (.var n) = 3 from rfl] at HL
  rw [show kindOf (.var n) = 0 from rfl] at k1
  have hn6 := n.isLt
  clear hE h
  generalize Fm.enc (.var n) = T at *
  generalize n.val = q at *
  go_enter Tryz.func73, Tryz.ntmps73
  go_wp2_with fail
  refine HL.out.mono ?_
  rintro e w1 ⟨rfl, hg1⟩
  go_wp2_with fail
  go_quiet (fail)
  go_wp2_with fail
  go_ret
  exact ⟨congrArg (fun z => Ending.returned (.string z)) (letter_cut hn6), hg1.drewN _⟩

theorem textOk_of (t : Tree) (hb : BodyOk t) : TextOk t := by
  intro l v w hl h hn
  by_cases hw : Fm.own t < l
  · have hE : Fm.txt t l = [40] ++ Fm.txt t 0 ++ [41] := by
      cases t with
      | var n => simp [Fm.own] at hw; omega
      | fls => simp [Fm.own] at hw; omega
      | and x y => simp only [Fm.own] at hw; simp [Fm.txt, Fm.wrap, hw]
      | or x y => simp only [Fm.own] at hw; simp [Fm.txt, Fm.wrap, hw]
      | imp x y =>
        cases hf : Fm.isF y with
        | true => simp [Fm.own, hf] at hw; omega
        | false => simp [Fm.own, hf] at hw; simp [Fm.txt, Fm.wrap, hf, hw]
      | box x => simp [Fm.own] at hw; omega
      | dia x => simp [Fm.own] at hw; omega
    rw [hE]
    have h1 := Fm.txt_len t 0
    have s1 := bs_size (Fm.txt t 0)
    have z1 : (bs (Fm.txt t 0)).size ≤ 4194304 := by omega
    have HL := Lib.hid (levelOf_c _ _ w h (by omega))
    have HB := Lib.hid (fun w h => hb 0 v w (Nat.zero_le _) h hn)
    have HH := Lib.hid h
    have HE : Hid (bs [40] ++ bs (Fm.txt t 0) ++ bs [41] = bs ([40] ++ Fm.txt t 0 ++ [41])) := by unfold Hid; rw [bs_append, bs_append]
    clear hE h1 s1 hb h
    generalize Fm.own t = q at *
    generalize [40] ++ Fm.txt t 0 ++ [41] = Z at *
    go_enter Tryz.func73, Tryz.ntmps73
    go_wp2_with fail
    refine HL.out.mono ?_
    rintro e w1 ⟨rfl, hg1⟩
    go_wp2_with fail
    refine (HB.out _ (HH.out.grew hg1)).mono ?_
    rintro e w2 ⟨rfl, hg2⟩
    go_wp2_with fail
    go_ret
    exact ⟨congrArg (fun z => Ending.returned (.string z)) HE.out, hg1.trans hg2⟩
  · exact hb l v w (by omega) h hn

theorem text_ok (t : Tree) : TextOk t := by
  induction t with
  | var n => exact textOk_of _ (body_var n)
  | fls => exact textOk_of _ body_fls
  | and x y hx hy => exact textOk_of _ (body_and x y hx hy)
  | or x y hx hy => exact textOk_of _ (body_or x y hx hy)
  | imp x y hx hy =>
    cases hf : Fm.isF y with
    | true =>
      obtain rfl := Fm.isF_eq hf
      cases hg : Fm.isF x with
      | true => exact textOk_of _ (body_tru x hg)
      | false => exact textOk_of _ (body_not x hg hx)
    | false => exact textOk_of _ (body_imp x y hf hx hy)
  | box x hx => exact textOk_of _ (body_box x hx)
  | dia x hx => exact textOk_of _ (body_dia x hx)

theorem text_c (t : Tree) (v : Value) (w : World) (h : Nodes w v (Fm.enc t)) (hn : (Fm.enc t).length ≤ 1048576) :
    Calls Tryz.prog 56 #[v] w (Says w (Fm.txt t 0)) := by
  have HT := Lib.hid (text_ok t 0 v w (by omega) h hn)
  go_enter Tryz.func56, Tryz.ntmps56
  go_wp2_with fail
  refine HT.out.mono ?_
  rintro e w1 ⟨rfl, hg1⟩
  go_wp2_with fail
  go_ret
  exact ⟨rfl, hg1⟩
end Go.Proofs.YtjcehejnolbkgaaGreat

/- The program's 'parsed'. -/
namespace Go.Proofs.YtjcehejnolbkgaaGreat
open Go.RowKit
open Fm (Nd)

/-- A new list, nil where it is empty. -/
def GivesN (w : World) (xs : List Nd) (e : Ending) (w' : World) : Prop := ∃ v, e = .returned v ∧ Own w' w.heap.size v xs ∧ Grew w w' ∧ (xs = [] → v = .slice none 0 0)

theorem parsed_c (s : ByteArray) (w : World) (hs : s.size ≤ 140737488355328) :
    Calls Tryz.prog 41 #[.string s] w (GivesN w (Fm.pf s).1) := by
  have HP := Lib.hid (fun w => parse_c s w hs)
  generalize Fm.pf s = r at *
  go_enter Tryz.func41, Tryz.ntmps41
  go_wp2_with fail
  refine (HP.out _).mono ?_
  rintro e w1 ⟨v1, rfl, ho1, hg1, hz1⟩
  have HZ := Lib.hid hz1
  clear hz1
  go_wp2_with fail
  go_ret
  exact ⟨_, rfl, ho1, hg1, HZ.out⟩
end Go.Proofs.YtjcehejnolbkgaaGreat

/- isText of the program. -/
namespace Go.Proofs.YtjcehejnolbkgaaGreat
open Go.RowKit
open Fm (Nd)

theorem text0_c (t : Fm.Tree) (v : Value) (w : World) (h : Nodes w v (Fm.enc t)) (hn : (Fm.enc t).length ≤ 1048576) :
    Calls Tryz.prog 56 #[v] w (Says w (Fm.txt t 0)) := text_c t v w h hn

theorem isText_c (s : ByteArray) (w : World) (hs : s.size ≤ 140737488355328) :
    Calls Tryz.prog 39 #[.string s] w fun e w' => e = .returned (.bool (gd s)) ∧ Grew w w' := by
  have HP := fun w => parsed_c s w hs
  rcases pf_cases s with ⟨t, ht⟩ | ⟨p, c, hp, hc⟩
  · have hn := Fm.pf_len s
    have hpos := Fm.enc_pos t
    rw [gd_tree ht]
    rw [ht] at HP hn
    simp only at HP hn
    replace HP := Lib.hid HP
    have HT := Lib.hid (fun v w h => text0_c t v w h (by omega))
    have HO := Lib.hid (fun w (v : Value) (h : Own w w.heap.size v (Fm.enc t)) => h)
    clear ht HO
    have hne := fun w (b : Option Addr) n c => run_neq_slice_nil_any (P := Tryz.prog) w 55 63 b n c 0 0 Tryz.underlying55
    generalize Fm.enc t = xs at *
    go_enter Tryz.func39, Tryz.ntmps39
    go_wp2_with fail
    refine (HP.out _).mono ?_
    rintro e w1 ⟨v1, rfl, ho1, hg1, _⟩
    rcases ho1.open_ with ⟨rfl, h0⟩ | ⟨g, c, cur, rfl, _⟩
    · rw [h0] at hpos; cases hpos
    go_wp2_with fail
    refine (HT.out _ _ ho1.nodes).mono ?_
    rintro e w2 ⟨rfl, hg2⟩
    go_wp2_with fail
    go_ret
    exact ⟨rfl, hg1.trans hg2⟩
  · rw [gd_bad hp hc]
    rw [hp] at HP
    replace HP := Lib.hid HP
    clear hp
    go_enter Tryz.func39, Tryz.ntmps39
    go_wp2_with fail
    refine (HP.out _).mono ?_
    rintro e w1 ⟨v1, rfl, ho1, hg1, hz1⟩
    obtain rfl := hz1 rfl
    go_wp2_with fail
    go_ret
    exact ⟨rfl, hg1⟩
end Go.Proofs.YtjcehejnolbkgaaGreat

/- A side of a sequent of texts: every text is good and stands above the one before. -/
namespace Go.Proofs.YtjcehejnolbkgaaGreat
open Go.RowKit
open Fm (Nd)

/-- The first k are good texts, each above the one before. -/
def Asc (L : List ByteArray) (k : Nat) : Prop := ∀ i, i < k → gd (st L i) = true ∧ (0 < i → Op.bytesLess (st L (i - 1)).toList (st L i).toList = true)
noncomputable def asc (L : List ByteArray) : Bool := @decide (Asc L L.length) (Classical.propDecidable _)
theorem Asc.zero (L : List ByteArray) : Asc L 0 := fun i hi => absurd hi (by omega)
theorem Asc.succ {L : List ByteArray} {k : Nat} (h : Asc L k) (h1 : gd (st L k) = true) (h2 : 0 < k → Op.bytesLess (st L (k - 1)).toList (st L k).toList = true) : Asc L (k + 1) := by
  intro i hi
  rcases Nat.lt_or_ge i k with hk | hk
  · exact h i hk
  · obtain rfl : i = k := by omega
    exact ⟨h1, h2⟩
theorem asc_true {L : List ByteArray} (h : Asc L L.length) : asc L = true := by
  unfold asc
  exact @decide_eq_true _ (Classical.propDecidable _) h
theorem asc_bad {L : List ByteArray} {k : Nat} (hk : k < L.length) (h : gd (st L k) = false) : asc L = false := by
  unfold asc
  refine @decide_eq_false _ (Classical.propDecidable _) fun H => ?_
  rw [(H k hk).1] at h
  cases h
theorem asc_low {L : List ByteArray} {k : Nat} (hk : k + 1 < L.length) (h : Op.bytesLess (st L k).toList (st L (k + 1)).toList = false) : asc L = false := by
  unfold asc
  refine @decide_eq_false _ (Classical.propDecidable _) fun H => ?_
  have := (H (k + 1) hk).2 (by omega)
  rw [Nat.add_sub_cancel, h] at this
  cases this

theorem l11Side_c (v : Value) (L : List ByteArray) (w : World) (h : Strs w v L) (hs : Fits L) (hn : L.length ≤ 1048576) :
    Calls Tryz.prog 29 #[v] w fun e w' => e = .returned (.bool (decide (L.length ≤ 16) && asc L)) ∧ Grew w w' := by
  by_cases h16 : 16 < L.length
  · have hd : (decide (L.length ≤ 16) && asc L) = false := by simp; omega
    rw [hd]
    obtain ⟨A, c, rfl⟩ := strs_slice h
    clear h hs hd
    go_enter Tryz.func29, Tryz.ntmps29
    go_wp2_with fail
    go_ret
    exact ⟨rfl, Grew.refl _⟩
  have hd : (decide (L.length ≤ 16) && asc L) = asc L := by rw [decide_eq_true (by omega)]; rfl
  rw [hd]
  clear hd
  rcases h.open_ with ⟨rfl, rfl⟩ | ⟨b, o, c, rfl, hc, hm, hb, hcell⟩
  · rw [asc_true (Asc.zero _)]
    clear h hs
    go_enter Tryz.func29, Tryz.ntmps29
    go_wp2_with fail
    refine wp_loop_rounds 1 ?_; rw [rounds_succ]
    go_wp2_with fail
    go_ret
    exact ⟨rfl, Grew.refl _⟩
  obtain ⟨R, hR⟩ : ∃ R, R = asc L := ⟨_, rfl⟩
  rw [← hR]
  have HT := Lib.hid (fun h => hR.trans (@asc_true L h))
  have HB := Lib.hid (fun k hk h => hR.trans (@asc_bad L k hk h))
  have HL := Lib.hid (fun k hk h => hR.trans (@asc_low L k hk h))
  have HC := Lib.hid hcell
  have HS := Lib.hid hs
  clear hcell h hs hR
  unfold Fits at HS
  generalize hN : L.length = n at *
  clear hN
  go_enter Tryz.func29, Tryz.ntmps29
  go_wp2_with fail
  go_loopw [3] (fun i wr => ∃ j : Nat, j ≤ n ∧ i = .int .i64 j ∧ Grew w wr ∧ Hid (Asc L j)) (fun i _ => n - (intOf i).toNat)
  case atStart => exact ⟨0, Nat.zero_le _, rfl, Grew.refl _, Asc.zero _⟩
  case round =>
    obtain ⟨j, hj, rfl, hB, HJ⟩ := hrel
    by_cases hlt : j < n
    · have k1 : ∀ W, Grew w W → W.cell? ⟨b, o + j, none⟩ = some (.string (st L j)) := fun W hW => HC.out j hlt W hW
      have hsz := HS.out j hlt
      have hG := Lib.hid (fun w => l02Good_c (st L j) w (by omega))
      have k2 := k1 _ hB
      go_wp2_with fail
      refine (hG.out _).mono ?_
      rintro e w1 ⟨v1, rfl, _, hg1⟩
      have hB1 := hB.trans hg1
      cases hgd : gd (st L j) with
      | false =>
        have hv := Lib.hid (HB.out j hlt hgd)
        generalize st L j = x at *
        go_wp2_with fail
        go_quiet (fail)
        go_wp2_with fail
        go_ret
        rw [hv.out]
        exact ⟨rfl, by first | assumption | exact hB1.drewN _⟩
      | true =>
        cases j with
        | zero =>
          have HS1 := Lib.hid (HJ.out.succ hgd (fun h => absurd h (by omega)))
          generalize st L 0 = x at *
          go_wp2_with fail
          go_quiet (fail)
          go_wp2_with fail
          go_roundw
          case rel => exact ⟨1, by omega, by go_num, by first | assumption | exact hB1.drewN _, HS1⟩
          case measure => simp [intOf]; omega
        | succ m =>
          have k3 := HC.out m (by omega) _ hB1
          have k4 := k1 _ hB1
          cases hlo : Op.bytesLess (st L m).toList (st L (m + 1)).toList with
          | false =>
            have hv := Lib.hid (HL.out m hlt hlo)
            have hab : (Op.bytesLess (st L (m + 1)).toList (st L m).toList || (st L (m + 1)).toList == (st L m).toList) = true := by rw [above_iff, hlo]; rfl
            generalize st L m = y at *
            generalize st L (m + 1) = x at *
            go_wp2_with fail
            go_quiet (fail)
            go_wp2_with fail
            go_ret
            rw [hv.out]
            exact ⟨rfl, by first | assumption | exact hB1.drewN _⟩
          | true =>
            have HS1 := Lib.hid (HJ.out.succ hgd (fun _ => hlo))
            have hab : (Op.bytesLess (st L (m + 1)).toList (st L m).toList || (st L (m + 1)).toList == (st L m).toList) = false := by rw [above_iff, hlo]; rfl
            generalize st L m = y at *
            generalize st L (m + 1) = x at *
            go_wp2_with fail
            go_quiet (fail)
            go_wp2_with fail
            go_roundw
            case rel => exact ⟨m + 1 + 1, by omega, by go_num, by first | assumption | exact hB1.drewN _, HS1⟩
            case measure => simp [intOf]; omega
    · obtain rfl : j = n := by omega
      have hv := Lib.hid (HT.out HJ.out)
      go_wp2_with fail
      go_ret
      rw [hv.out]
      exact ⟨rfl, hB⟩
end Go.Proofs.YtjcehejnolbkgaaGreat

/- The rules of modal sequents, plain. No program is in sight. -/
namespace Go.Proofs.YtjcehejnolbkgaaGreat
open Go.RowKit
open Fm (Nd Tree)

/-- The formula that a text is the text of. -/
noncomputable def fg (s : ByteArray) : Tree := @dite _ (IsGood s) (Classical.propDecidable _) (fun h => Classical.choose h) (fun _ => .fls)
theorem fg_ok {s : ByteArray} (h : gd s = true) : Fm.pf s = (Fm.enc (fg s), 0, 0) ∧ tx (fg s) = s ∧ (Fm.enc (fg s)).length ≤ 40 := by
  have hg : IsGood s := by
    by_cases hg : IsGood s
    · exact hg
    · rw [gd_false hg] at h; cases h
  have he : fg s = Classical.choose hg := by unfold fg; rw [dif_pos hg]
  have h1 := Classical.choose_spec hg
  rw [← he] at h1
  have hl := Fm.pf_len s
  rw [h1.1] at hl
  exact ⟨h1.1, h1.2, hl⟩
/-- The parts of a formula. -/
def pl1 : Tree → Tree
  | .and a _ => a
  | .or a _ => a
  | .imp a _ => a
  | .box a => a
  | .dia a => a
  | t => t
def pl2 : Tree → Tree
  | .and _ b => b
  | .or _ b => b
  | .imp _ b => b
  | t => t
noncomputable def kS (s : ByteArray) : Int := kindOf (fg s)
noncomputable def p1S (s : ByteArray) : ByteArray := tx (pl1 (fg s))
noncomputable def p2S (s : ByteArray) : ByteArray := tx (pl2 (fg s))
/-- The texts of a kind, and their parts. -/
noncomputable def whK (k : Int) (L : List ByteArray) : List ByteArray := L.filter fun s => kS s == k
noncomputable def inK (k : Int) (L : List ByteArray) : List ByteArray := (whK k L).map p1S
def isLg (lg : ByteArray) (x : List UInt8) : Bool := lg.toList == x
/-- What a modal rule carries over. -/
noncomputable def crF (lg : ByteArray) (L : List ByteArray) (k : Int) (m : ByteArray) : List ByteArray :=
  if isLg lg [75, 52] || isLg lg [71, 76] then putS (whK k L ++ inK k L)
  else if isLg lg [83, 52] then putS (whK k L)
  else if isLg lg [83, 53] then dropS (putS (whK k L ++ whK (11 - k) L)) m
  else putS (inK k L)
abbrev Ms := List ByteArray × List ByteArray
/-- The premise of the modal rule. -/
noncomputable def mpF (lg : ByteArray) (L R : List ByteArray) (m : ByteArray) : Ms :=
  if m.toList.isEmpty then (crF lg L 5 m, crF lg R 6 m)
  else if kS m = 5 then (if isLg lg [71, 76] then putS (crF lg L 5 m ++ [m]) else crF lg L 5 m, putS (crF lg R 6 m ++ [p1S m]))
  else (putS (crF lg L 5 m ++ [p1S m]), if isLg lg [71, 76] then putS (crF lg R 6 m ++ [m]) else crF lg R 6 m)
def rfx (lg : ByteArray) : Bool := isLg lg [84] || (isLg lg [83, 52] || isLg lg [83, 53])
/-- The premises of a rule whose main formula is on the left. -/
noncomputable def lfF (lg : ByteArray) (r : Int) (L R : List ByteArray) (m : ByteArray) : List Ms × Bool :=
  if r = 3 ∧ kS m = 2 then ([(putS (dropS L m ++ [p1S m, p2S m]), R)], true)
  else if r = 5 ∧ kS m = 3 then ([(putS (dropS L m ++ [p1S m]), R), (putS (dropS L m ++ [p2S m]), R)], true)
  else if r = 7 ∧ kS m = 4 then ([(dropS L m, putS (R ++ [p1S m])), (putS (dropS L m ++ [p2S m]), R)], true)
  else if r = 9 ∧ kS m = 5 ∧ rfx lg = true then ([(putS (L ++ [p1S m]), R)], true)
  else if r = 11 ∧ kS m = 6 then ([mpF lg L R m], true)
  else ([], false)
noncomputable def rgF (lg : ByteArray) (r : Int) (L R : List ByteArray) (m : ByteArray) : List Ms × Bool :=
  if r = 4 ∧ kS m = 2 then ([(L, putS (dropS R m ++ [p1S m])), (L, putS (dropS R m ++ [p2S m]))], true)
  else if r = 6 ∧ kS m = 3 then ([(L, putS (dropS R m ++ [p1S m, p2S m]))], true)
  else if r = 8 ∧ kS m = 4 then ([(putS (L ++ [p1S m]), putS (dropS R m ++ [p2S m]))], true)
  else if r = 10 ∧ kS m = 6 ∧ rfx lg = true then ([(L, putS (R ++ [p1S m]))], true)
  else if r = 11 ∧ kS m = 5 then ([mpF lg L R m], true)
  else ([], false)
/-- The premises of a rule, of any size. -/
noncomputable def pmF (lg : ByteArray) (r : Int) (L R : List ByteArray) (m : ByteArray) : List Ms × Bool :=
  if r = 1 then ([], dc (m ∈ L) && dc (m ∈ R))
  else if r = 2 then ([], m.toList.isEmpty && dc ((⟨#[70]⟩ : ByteArray) ∈ L))
  else if r = 12 then ([mpF lg L R ⟨#[]⟩], m.toList.isEmpty && isLg lg [68])
  else if r = 14 then ([(L, putS (R ++ [m])), (putS (L ++ [m]), R)], gd m)
  else if dc (m ∈ L) && (lfF lg r L R m).2 then lfF lg r L R m
  else if dc (m ∈ R) then rgF lg r L R m
  else ([], false)
def sqLg (lg : ByteArray) : Bool := [[75], [68], [84], [75, 52], [83, 52], [71, 76], [83, 53]].any fun x => isLg lg x
def bigM (x : Ms) : Bool := !(decide (x.1.length ≤ 16) && decide (x.2.length ≤ 16))
noncomputable def sdB (L : List ByteArray) : Bool := decide (L.length ≤ 16) && asc L
/-- RulePremises: the premises and the code. -/
noncomputable def rpF (lg : ByteArray) (r : Int) (L R : List ByteArray) (m : ByteArray) : List Ms × Int :=
  if !sqLg lg then ([], 2) else if !(sdB L && sdB R) then ([], 1)
  else if !(pmF lg r L R m).2 then ([], 4) else if (pmF lg r L R m).1.any bigM then ([], 3) else ((pmF lg r L R m).1, 0)
end Go.Proofs.YtjcehejnolbkgaaGreat

/- Formulas of two parts. -/
namespace Go.Proofs.YtjcehejnolbkgaaGreat
open Go.RowKit

/-- The formula has two parts. -/
def TwoF (A p q : Fm.Tree) : Prop := Fm.enc A = (kindOf A, 0) :: (Fm.enc p ++ Fm.enc q)
theorem TwoF.len {A p q : Fm.Tree} (h : TwoF A p q) : (Fm.enc A).length = 1 + (Fm.enc p).length + (Fm.enc q).length := by rw [h]; simp; omega
end Go.Proofs.YtjcehejnolbkgaaGreat

/- Rows of slices of nodes of the call's own: an append of one slice. -/
namespace Go.Proofs.YtjcehejnolbkgaaGreat
open Go.RowKit
open Fm (Nd)

/-- A row of slices of the call's own. -/
def OwnV (w : World) (B : Nat) (v : Value) (us : List Value) : Prop := w.ownsRow B 55 1 v us.length us

theorem own_app {w w' : World} {B B' : Nat} {u v : Value} {xs : List Nd} {us : List Value} (h : Own w B u xs) (hv : OwnV w B' v us) (hg : w.grownBy w' v.ownBlock) : Own w' B u xs := by
  rcases hv.2 with ⟨rfl, _⟩ | ⟨g, cap, cur, rfl, _, hh, _⟩
  · exact own_grew h (by
      have hg' : w.grownBy w' none := hg
      exact ⟨hg'.os, hg'.tape, hg'.output, hg'.size, fun i hi => hg'.block i hi (by simp)⟩)
  · exact own_only h (show Only g w w' from hg) (own_ne h hh (by decide))

theorem infoSl : (Tryz.prog.info? 55).map (fun i => (i.zero, i.size, i.bytes)) = some (some (.slice none 0 0), 1, 24) := by kernel_rfl

theorem wpList_appV {ops : Array Oper} {rest : List Oper} {o : Oper} {a : Act} {Q : Exit → Act → World → Prop} {w w0 : World} (s x : Operand) (hgd : o.guard = none)
    (ho : o.op = .call { callee := .builtin .append, args := #[s, x], argTypes := #[88, 88] })
    (v : Value) (us : List Value) (hs : a.eval s = v) (hown : OwnV w w0.heap.size v us) (hg : Grew w0 w) (vx u : Value) (hx : a.eval x = vx) (hr : Rd w 1 vx 1 [u]) (h1 : u.oneCell' = true) (hn : us.length ≤ 1048576)
    (h : ∀ v' w', OwnV w' w0.heap.size v' (us ++ [u]) → Grew w0 w' → w.grownBy w' v.ownBlock → wpList Tryz.prog ops Q rest (a.put o.dst v') w') : wpList Tryz.prog ops Q (o :: rest) a w := by
  obtain ⟨i0, hi0, hz0, hz1, hz2⟩ := info_parts infoSl
  refine wpList_append_rd w hgd s x _ ho w0.heap.size 55 i0 _ 1 24 Tryz.underlying88 hi0 hz0 hz1 hz2 rfl (by omega) v us.length us hs hown vx 1 [u] hx hr (by simpa using h1) (by unfold maxLen; omega) (by omega) hg.size ?_
  intro v' w' h1 h2 h3
  refine h v' w' ?_ (hg.grown h2 fun k hk => (hown.lt k hk).1) h2
  unfold OwnV
  rw [List.length_append]
  exact h1

theorem own_one {w : World} {B : Nat} {u : Value} {xs : List Nd} (h : Own w B u xs) : u.oneCell' = true := by
  obtain ⟨A, c, rfl⟩ := nodes_slice h.nodes
  rfl
theorem rd_lit (w : World) (u : Value) (t : TypeId) : Rd (w.alloc (.cells #[u] t)) 1 (.slice (some ⟨w.heap.size, 0, none⟩) 1 1) 1 [u] := by
  refine ⟨rfl, by omega, .inr ⟨w.heap.size, 0, 1, rfl, by omega, by omega, by simp, fun j x hx => ?_⟩⟩
  have hj : j = 0 := by
    have := (List.getElem?_eq_some_iff.1 hx).1
    simp at this
    omega
  subst hj
  simp at hx
  subst hx
  simp

theorem own_empty (w : World) : OwnV (w.alloc (.cells #[] 55)) w.heap.size (.slice (some ⟨w.heap.size, 0, none⟩) 0 0) [] :=
  World.ownsRow_lit (e := 55) (size := 1) w #[] 0 (Nat.le_refl _) (by omega) rfl
end Go.Proofs.YtjcehejnolbkgaaGreat

/- A text appended to a row of strings of the call's own. -/
namespace Go.Proofs.YtjcehejnolbkgaaGreat
open Go.RowKit

/-- 'out = append(out, s)', out a row of strings of the call's own. -/
theorem wpList_appStr {ops : Array Oper} {rest : List Oper} {o : Oper} {a : Act} {Q : Exit → Act → World → Prop} {w w0 : World} (s x : Operand) (hgd : o.guard = none)
    (ho : o.op = .call { callee := .builtin .append, args := #[s, x], argTypes := #[22, 22] })
    (v : Value) (L : List ByteArray) (hs : a.eval s = v) (hown : OwnS w w0.heap.size v L) (hg : Grew w0 w) (vx : Value) (k : ByteArray) (hx : a.eval x = vx) (hr : Rd w 1 vx 1 [.string k]) (hn : L.length ≤ 1048576)
    (h : ∀ v' w', OwnS w' w0.heap.size v' (L ++ [k]) → Grew w0 w' → w.grownBy w' v.ownBlock → wpList Tryz.prog ops Q rest (a.put o.dst v') w') : wpList Tryz.prog ops Q (o :: rest) a w := by
  obtain ⟨i0, hi0, hz0, hz1, hz2⟩ := info_parts Tryz.infoStr
  refine wpList_append_rd w hgd s x _ ho w0.heap.size 9 i0 _ 1 16 Tryz.underlying22 hi0 hz0 hz1 hz2 rfl (by omega) v L.length (scells L) hs hown vx 1 [.string k] hx hr (by simp [Value.oneCell']) (by unfold maxLen; omega) (by omega) hg.size ?_
  intro v' w' h1 h2 h3
  refine h v' w' ?_ (hg.grown h2 fun k hk => (hown.lt k hk).1) h2
  unfold OwnS
  rw [List.length_append, scells_append]
  exact h1

end Go.Proofs.YtjcehejnolbkgaaGreat

/- The parts of a formula: parts, partTexts of the program. -/
namespace Go.Proofs.YtjcehejnolbkgaaGreat
open Go.RowKit

/-- A slice of two slices that read as the two parts. -/
def Two (w : World) (v : Value) (p q : Fm.Tree) : Prop := ∃ g u1 u2, v = .slice (some ⟨g, 0, none⟩) 2 2 ∧ (∀ W, Grew w W → W.cell? ⟨g, 0, none⟩ = some u1) ∧ (∀ W, Grew w W → W.cell? ⟨g, 1, none⟩ = some u2) ∧ Nodes w u1 (Fm.enc p) ∧ Nodes w u2 (Fm.enc q)

theorem parts_two (v : Value) (A p q : Fm.Tree) (w : World) (h : Nodes w v (Fm.enc A)) (hl : (Fm.enc A).length ≤ 40) (h2 : TwoF A p q) (hk : kindOf A = 2 ∨ kindOf A = 3 ∨ kindOf A = 4) :
    Calls Tryz.prog 80 #[v] w fun e w' => ∃ u, e = .returned u ∧ Two w' u p q ∧ Grew w w' := by
  have HH := Lib.hid h
  obtain ⟨b, o, c, rfl, hc, hm, k0⟩ := nodes_head h
  have K1 := Lib.hid (fun W (hW : Grew w W) => first_c _ (Fm.enc A) p W (h.grew hW) (by omega) (at_first h2))
  have K2 := Lib.hid (fun W (hW : Grew w W) => second_c _ (Fm.enc A) p q W (h.grew hW) (by omega) (at_first h2) (at_second h2))
  have KO := Lib.hid (fun w => partsOf_c (kindOf A) w)
  have ha : (Fm.arity (kindOf A) : Int) = 2 := by unfold Fm.arity; rw [if_pos hk]; rfl
  rw [ha] at KO
  have r0 := Grew.refl w
  have hpos := Fm.enc_pos A
  clear h h2 hk ha HH
  generalize kindOf A = kk at *
  generalize (Fm.enc A).length = n at *
  go_enter Tryz.func80, Tryz.ntmps80
  go_wp2_with fail
  refine (KO.out _).mono ?_
  rintro e w1 ⟨rfl, hg1⟩
  go_wp2_with fail
  refine (K1.out _ hg1).mono ?_
  rintro e w2 ⟨u1, rfl, hn1, hg2⟩
  have H1 := Lib.hid hn1
  obtain ⟨A1, c1, rfl⟩ := nodes_slice hn1
  clear hn1
  have g2 := hg1.trans hg2
  go_wp2_with fail
  refine (K2.out _ g2).mono ?_
  rintro e w3 ⟨u2, rfl, hn2, hg3⟩
  have H2 := Lib.hid hn2
  obtain ⟨A2, c2, rfl⟩ := nodes_slice hn2
  clear hn2
  go_wp2_with fail
  go_ret
  have hal := (Grew.refl w3).alloc (.cells #[.slice A1 (Fm.enc p).length c1, .slice A2 (Fm.enc q).length c2] 55)
  exact ⟨_, rfl, ⟨w3.heap.size, _, _, rfl, fun W hW => (hW.cell (by simp)).trans (by simp), fun W hW => (hW.cell (by simp)).trans (by simp), (H1.out.grew hg3).grew hal, H2.out.grew hal⟩, (g2.trans hg3).trans hal⟩

theorem parts_none (v : Value) (A : Fm.Tree) (w : World) (h : Nodes w v (Fm.enc A)) (hk : kindOf A = 0 ∨ kindOf A = 1) :
    Calls Tryz.prog 80 #[v] w fun e w' => e = .returned (.slice none 0 0) ∧ Grew w w' := by
  obtain ⟨b, o, c, rfl, hc, hm, k0⟩ := nodes_head h
  have KO := Lib.hid (fun w => partsOf_c (kindOf A) w)
  have ha : (Fm.arity (kindOf A) : Int) = 0 := by unfold Fm.arity; rw [if_neg (by omega), if_neg (by omega)]; rfl
  rw [ha] at KO
  have r0 := Grew.refl w
  have hpos := Fm.enc_pos A
  clear h hk ha
  generalize kindOf A = kk at *
  generalize (Fm.enc A).length = n at *
  go_enter Tryz.func80, Tryz.ntmps80
  go_wp2_with fail
  refine (KO.out _).mono ?_
  rintro e w1 ⟨rfl, hg1⟩
  go_wp2_with fail
  go_ret
  exact ⟨rfl, hg1⟩

theorem partTexts_none (v : Value) (A : Fm.Tree) (w : World) (h : Nodes w v (Fm.enc A)) (hk : kindOf A = 0 ∨ kindOf A = 1) :
    Calls Tryz.prog 62 #[v] w fun e w' => e = .returned (.slice none 0 0) ∧ Grew w w' := by
  have KP := Lib.hid (parts_none v A w h hk)
  obtain ⟨b, o, c, rfl, hc, hm, k0⟩ := nodes_head h
  clear h hk k0
  generalize (Fm.enc A).length = n at *
  go_enter Tryz.func62, Tryz.ntmps62
  go_wp2_with fail
  refine KP.out.mono ?_
  rintro e w1 ⟨rfl, hg1⟩
  go_wp2_with fail
  refine wp_loop_rounds 1 ?_; rw [rounds_succ]
  go_wp2_with fail
  go_ret
  exact ⟨rfl, hg1⟩

theorem partTexts_two (v : Value) (A p q : Fm.Tree) (w : World) (h : Nodes w v (Fm.enc A)) (hl : (Fm.enc A).length ≤ 40) (h2 : TwoF A p q) (hk : kindOf A = 2 ∨ kindOf A = 3 ∨ kindOf A = 4) :
    Calls Tryz.prog 62 #[v] w (GivesS w [tx p, tx q]) := by
  have KP := Lib.hid (parts_two v A p q w h hl h2 hk)
  have hlen := h2.len
  have K1 := Lib.hid (fun v w h => text0_c p v w h (by omega))
  have K2 := Lib.hid (fun v w h => text0_c q v w h (by omega))
  have e1 : bs (Fm.txt p 0) = tx p := rfl
  have e2 : bs (Fm.txt q 0) = tx q := rfl
  unfold Says at K1 K2
  rw [e1] at K1
  rw [e2] at K2
  obtain ⟨b, o, c, rfl, hc, hm, k0⟩ := nodes_head h
  clear h h2 hk k0 e1 e2 hlen
  generalize (Fm.enc A).length = n at *
  generalize tx p = sp at *
  generalize tx q = sq at *
  go_enter Tryz.func62, Tryz.ntmps62
  go_wp2_with fail
  refine KP.out.mono ?_
  rintro e w1 ⟨u, rfl, ⟨g, u1, u2, rfl, c1, c2, hn1, hn2⟩, hg1⟩
  have H1 := Lib.hid hn1
  have H2 := Lib.hid hn2
  obtain ⟨A1, d1, rfl⟩ := nodes_slice hn1
  obtain ⟨A2, d2, rfl⟩ := nodes_slice hn2
  clear hn1 hn2
  have r1 := Grew.refl w1
  have HO1 := OwnS.nil_ w1 w.heap.size
  go_wp2_with fail
  refine wp_loop_rounds 3 ?_; rw [rounds_succ]
  go_wp2_with fail
  refine (K1.out _ _ H1.out).mono ?_
  rintro e w2 ⟨rfl, hg2⟩
  have hB2 := hg1.trans hg2
  have hO2 := HO1.grew (hg2.trans ((Grew.refl w2).alloc (.cells #[.string sp] 9)))
  go_wp2_with (first | (at_builtin; refine wpList_appStr (w0 := w) _ _ rfl rfl _ [] rfl hO2 (hB2.alloc _) _ sp rfl (rd_lit _ _ _) (by simp) ?_; intro v3 w3 hown3 hg3 hgr3))
  have g13 : Grew w1 w3 := (hg2.trans ((Grew.refl w2).alloc (.cells #[.string sp] 9))).trans (by
    have hg' : (w2.alloc (.cells #[.string sp] 9)).grownBy w3 none := hgr3
    exact ⟨hg'.os, hg'.tape, hg'.output, hg'.size, fun i hi => hg'.block i hi (by simp)⟩)
  clear HO1 hO2 hgr3 hB2
  rw [rounds_succ]
  go_wp2_with fail
  refine (K2.out _ _ (H2.out.grew g13)).mono ?_
  rintro e w4 ⟨rfl, hg4⟩
  have hB4 := hg3.trans hg4
  have hO4 := hown3.grew (hg4.trans ((Grew.refl w4).alloc (.cells #[.string sq] 9)))
  go_wp2_with (first | (at_builtin; refine wpList_appStr (w0 := w) _ _ rfl rfl _ [sp] rfl hO4 (hB4.alloc _) _ sq rfl (rd_lit _ _ _) (by simp) ?_; intro v5 w5 hown5 hg5 hgr5))
  rw [rounds_succ]
  go_wp2_with fail
  go_ret
  exact ⟨_, rfl, hown5, hg5⟩
end Go.Proofs.YtjcehejnolbkgaaGreat

/- A row that is written: other rows stay, older worlds have not changed. -/
namespace Go.Proofs.YtjcehejnolbkgaaGreat
open Go.RowKit

theorem own_row {w w' : World} {B : Nat} {e : TypeId} {k n : Nat} {v : Value} {xs : List Value} {row : Option Nat} (h : w.ownsRow B e k v n xs) (hg : w.grownBy w' row) (hne : ∀ g, row = some g → v.ownBlock ≠ some g) : w'.ownsRow B e k v n xs := by
  cases row with
  | none => exact own_grew h ⟨hg.os, hg.tape, hg.output, hg.size, fun i hi => hg.block i hi (by simp)⟩
  | some g => exact own_only h (show Only g w w' from hg) (hne g rfl)
theorem grew_row {W w w' : World} {row : Option Nat} (h : Grew W w) (hg : w.grownBy w' row) (hne : ∀ g, row = some g → W.heap.size ≤ g) : Grew W w' := h.grown hg hne
theorem row_of {w w' : World} {v : Value} (h1 : ∀ g, v.ownBlock = some g → Only g w w') (h2 : v.ownBlock = none → Grew w w') : w.grownBy w' v.ownBlock := by
  cases hv : v.ownBlock with
  | none => exact (h2 hv).by_ _
  | some g => exact h1 g hv
end Go.Proofs.YtjcehejnolbkgaaGreat

/- Two rows that share no block; a frame in which some blocks may have changed. -/
namespace Go.Proofs.YtjcehejnolbkgaaGreat
open Go.RowKit

/-- Two rows that share no block. -/
def Apart (a b : Value) : Prop := ∀ g, a.ownBlock = some g → b.ownBlock ≠ some g
theorem Apart.symm {a b : Value} (h : Apart a b) : Apart b a := fun g hg hb => h g hb hg

/-- Of what was there the blocks from lo to hi alone may have changed. -/
structure Span (lo hi : Nat) (a b : World) : Prop where
  os : b.os = a.os
  tape : b.tape = a.tape
  output : b.output = a.output
  size : a.heap.size ≤ b.heap.size
  block : ∀ k, k < a.heap.size → (k < lo ∨ hi ≤ k) → b.heap[k]? = a.heap[k]?
theorem Span.refl (lo hi : Nat) (w : World) : Span lo hi w w := ⟨rfl, rfl, rfl, Nat.le_refl _, fun _ _ _ => rfl⟩
theorem Span.trans {lo hi : Nat} {a b c : World} (h : Span lo hi a b) (k : Span lo hi b c) : Span lo hi a c :=
  ⟨k.os.trans h.os, k.tape.trans h.tape, k.output.trans h.output, Nat.le_trans h.size k.size, fun i hi' ho => (k.block i (Nat.lt_of_lt_of_le hi' h.size) ho).trans (h.block i hi' ho)⟩
theorem Span.of_grew {lo hi : Nat} {a b : World} (h : Grew a b) : Span lo hi a b := ⟨h.os, h.tape, h.output, h.size, fun k hk _ => h.block hk⟩
theorem Span.grew {lo hi : Nat} {a b c : World} (h : Span lo hi a b) (k : Grew b c) : Span lo hi a c := h.trans (Span.of_grew k)
theorem Span.of_row {lo hi : Nat} {a b : World} {row : Option Nat} (h : a.grownBy b row) (hr : ∀ g, row = some g → lo ≤ g ∧ g < hi) : Span lo hi a b :=
  ⟨h.os, h.tape, h.output, h.size, fun k hk ho => h.block k hk (fun e => by have := hr k e.symm; omega)⟩
theorem Span.of_only {lo hi g : Nat} {a b : World} (h : Only g a b) (h1 : lo ≤ g) (h2 : g < hi) : Span lo hi a b :=
  ⟨h.os, h.tape, h.output, h.size, fun k hk ho => h.block hk (by omega)⟩
/-- Nothing older than lo has changed. -/
theorem Span.old {lo hi : Nat} {w a b : World} (h : Span lo hi a b) (h0 : Grew w a) (hl : w.heap.size ≤ lo) : Grew w b :=
  ⟨h.os.trans h0.os, h.tape.trans h0.tape, h.output.trans h0.output, Nat.le_trans h0.size h.size, fun k hk => (h.block k (Nat.lt_of_lt_of_le hk h0.size) (.inl (Nat.lt_of_lt_of_le hk hl))).trans (h0.block hk)⟩
/-- A row outside stays. -/
theorem Span.own {lo hi B : Nat} {a b : World} {e : TypeId} {k n : Nat} {v : Value} {xs : List Value} (h : Span lo hi a b) (ho : a.ownsRow B e k v n xs) (hv : ∀ g, v.ownBlock = some g → g < lo ∨ hi ≤ g) : b.ownsRow B e k v n xs := by
  obtain ⟨h1, h2⟩ := ho
  refine ⟨h1, ?_⟩
  rcases h2 with h2 | ⟨g, cap, cur, rfl, h4, h5, h6⟩
  · exact .inl h2
  · exact .inr ⟨g, cap, cur, rfl, h4, (h.block g (blk_lt h5) (hv g rfl)).trans h5, h6⟩
theorem own_types {w : World} {B B' : Nat} {e e' : TypeId} {k n k' n' : Nat} {v v' : Value} {xs xs' : List Value} (h : w.ownsRow B e k v n xs) (h' : w.ownsRow B' e' k' v' n' xs') (hne : e ≠ e') : Apart v v' := by
  intro g hg hg'
  rcases h'.2 with ⟨rfl, _⟩ | ⟨g', cap, cur, rfl, _, hh, _⟩
  · simp [Value.ownBlock] at hg'
  · have : g' = g := by simpa [Value.ownBlock] using hg'
    subst this
    exact own_ne h hh hne hg
/-- A row keeps its place while an apart one is written. -/
theorem own_apart {w w' : World} {B : Nat} {e : TypeId} {k n : Nat} {v r : Value} {xs : List Value} (h : w.ownsRow B e k v n xs) (hg : w.grownBy w' r.ownBlock) (ha : Apart r v) : w'.ownsRow B e k v n xs := own_row h hg ha
end Go.Proofs.YtjcehejnolbkgaaGreat

/- Lists of one and of two strings. -/
namespace Go.Proofs.YtjcehejnolbkgaaGreat
open Go.RowKit

theorem strs_one {w : World} {v : Value} {a : ByteArray} (h : Strs w v [a]) : ∃ b o c, v = .slice (some ⟨b, o, none⟩) 1 c ∧ 1 ≤ c ∧ c ≤ 9223372036854775807 ∧ b < w.heap.size ∧ ∀ W, Grew w W → W.cell? ⟨b, o, none⟩ = some (.string a) := by
  rcases h.open_ with ⟨_, h0⟩ | ⟨b, o, c, rfl, hc, hm, hb, hf⟩
  · cases h0
  · exact ⟨b, o, c, rfl, hc, hm, hb, fun W hW => by simpa [st] using hf 0 (by simp) W hW⟩
theorem strs_two {w : World} {v : Value} {a a2 : ByteArray} (h : Strs w v [a, a2]) : ∃ b o c, v = .slice (some ⟨b, o, none⟩) 2 c ∧ 2 ≤ c ∧ c ≤ 9223372036854775807 ∧ b < w.heap.size ∧ ∀ W, Grew w W → W.cell? ⟨b, o, none⟩ = some (.string a) ∧ W.cell? ⟨b, o + 1, none⟩ = some (.string a2) := by
  rcases h.open_ with ⟨_, h0⟩ | ⟨b, o, c, rfl, hc, hm, hb, hf⟩
  · cases h0
  · exact ⟨b, o, c, rfl, hc, hm, hb, fun W hW => ⟨by simpa [st] using hf 0 (by simp) W hW, by simpa [st] using hf 1 (by simp) W hW⟩⟩

end Go.Proofs.YtjcehejnolbkgaaGreat

/- The texts of the parts of any formula; rows of texts in the program's withKind, carried. -/
namespace Go.Proofs.YtjcehejnolbkgaaGreat
open Go.RowKit
open Fm (Nd Tree)

/-- The texts of the parts right below the first node. -/
def ptL (A : Tree) : List ByteArray := if kindOf A = 2 ∨ kindOf A = 3 ∨ kindOf A = 4 then [tx (pl1 A), tx (pl2 A)] else if kindOf A = 5 ∨ kindOf A = 6 then [tx (pl1 A)] else []
theorem two_of_kind {A : Tree} (h : kindOf A = 2 ∨ kindOf A = 3 ∨ kindOf A = 4) : TwoF A (pl1 A) (pl2 A) := by
  cases A <;> first | rfl | (exfalso; revert h; simp [kindOf])
theorem one_of_kind {A : Tree} (h : kindOf A = 5 ∨ kindOf A = 6) : Fm.enc A = (kindOf A, 0) :: (Fm.enc (pl1 A) ++ []) := by
  cases A <;> first | (simp [Fm.enc, pl1, kindOf]; done) | (exfalso; revert h; simp [kindOf])
theorem none_of_kind {A : Tree} (h2 : ¬ (kindOf A = 2 ∨ kindOf A = 3 ∨ kindOf A = 4)) (h1 : ¬ (kindOf A = 5 ∨ kindOf A = 6)) : kindOf A = 0 ∨ kindOf A = 1 := by
  cases A <;> simp [kindOf] at * 

theorem parts_one (v : Value) (A p : Fm.Tree) (w : World) (h : Nodes w v (Fm.enc A)) (hl : (Fm.enc A).length ≤ 40) (h2 : Fm.enc A = (kindOf A, 0) :: (Fm.enc p ++ [])) (hk : kindOf A = 5 ∨ kindOf A = 6) :
    Calls Tryz.prog 80 #[v] w fun e w' => ∃ g A1 n1 c1, e = .returned (.slice (some ⟨g, 0, none⟩) 1 1) ∧ (∀ W, Grew w' W → W.cell? ⟨g, 0, none⟩ = some (.slice A1 n1 c1)) ∧ Nodes w' (.slice A1 n1 c1) (Fm.enc p) ∧ Grew w w' := by
  obtain ⟨b, o, c, rfl, hc, hm, k0⟩ := nodes_head h
  have K1 := Lib.hid (fun W (hW : Grew w W) => first_c _ (Fm.enc A) p W (h.grew hW) (by omega) (at_first h2))
  have KO := Lib.hid (fun w => partsOf_c (kindOf A) w)
  have ha : (Fm.arity (kindOf A) : Int) = 1 := by unfold Fm.arity; rw [if_neg (by omega), if_pos hk]; rfl
  rw [ha] at KO
  have r0 := Grew.refl w
  have hpos := Fm.enc_pos A
  clear h h2 hk ha
  generalize kindOf A = kk at *
  generalize (Fm.enc A).length = n at *
  go_enter Tryz.func80, Tryz.ntmps80
  go_wp2_with fail
  refine (KO.out _).mono ?_
  rintro e w1 ⟨rfl, hg1⟩
  go_wp2_with fail
  refine (K1.out _ hg1).mono ?_
  rintro e w2 ⟨u1, rfl, hn1, hg2⟩
  have H1 := Lib.hid hn1
  obtain ⟨A1, c1, rfl⟩ := nodes_slice hn1
  clear hn1
  have g2 := hg1.trans hg2
  go_wp2_with fail
  go_ret
  have hal := (Grew.refl w2).alloc (.cells #[.slice A1 (Fm.enc p).length c1] 55)
  exact ⟨w2.heap.size, _, _, _, rfl, fun W hW => (hW.cell (by simp)).trans (by simp), H1.out.grew hal, g2.trans hal⟩
theorem partTexts_one (v : Value) (A p : Fm.Tree) (w : World) (h : Nodes w v (Fm.enc A)) (hl : (Fm.enc A).length ≤ 40) (h2 : Fm.enc A = (kindOf A, 0) :: (Fm.enc p ++ [])) (hk : kindOf A = 5 ∨ kindOf A = 6) :
    Calls Tryz.prog 62 #[v] w (GivesS w [tx p]) := by
  have KP := Lib.hid (parts_one v A p w h hl h2 hk)
  have hlen : (Fm.enc p).length ≤ 40 := by rw [h2] at hl; simp at hl; omega
  have K1 := Lib.hid (fun v w h => text0_c p v w h (by omega))
  have e1 : bs (Fm.txt p 0) = tx p := rfl
  unfold Says at K1
  rw [e1] at K1
  obtain ⟨b, o, c, rfl, hc, hm, k0⟩ := nodes_head h
  clear h h2 hk k0 e1 hlen
  generalize (Fm.enc A).length = n at *
  generalize tx p = sp at *
  go_enter Tryz.func62, Tryz.ntmps62
  go_wp2_with fail
  refine KP.out.mono ?_
  rintro e w1 ⟨g, A1, n1, d1, rfl, hc1, hn1, hg1⟩
  have H1 := Lib.hid hn1
  have c1 := hc1 _ (Grew.refl _)
  clear hn1 hc1
  have HO1 := OwnS.nil_ w1 w.heap.size
  go_wp2_with fail
  refine wp_loop_rounds 2 ?_; rw [rounds_succ]
  go_wp2_with fail
  refine (K1.out _ _ H1.out).mono ?_
  rintro e w2 ⟨rfl, hg2⟩
  have hB2 := hg1.trans hg2
  have hO2 := HO1.grew (hg2.trans ((Grew.refl w2).alloc (.cells #[.string sp] 9)))
  clear c1
  go_wp2_with (first | (at_builtin; refine wpList_appStr (w0 := w) _ _ rfl rfl _ [] rfl hO2 (hB2.alloc _) _ sp rfl (rd_lit _ _ _) (by simp) ?_; intro v3 w3 hown3 hg3 hgr3))
  clear HO1 hO2 hgr3 hB2
  rw [rounds_succ]
  go_wp2_with fail
  go_ret
  exact ⟨_, rfl, by simpa using hown3, hg3⟩
theorem partTexts_g (v : Value) (A : Fm.Tree) (w : World) (h : Nodes w v (Fm.enc A)) (hl : (Fm.enc A).length ≤ 40) :
    Calls Tryz.prog 62 #[v] w fun e w' => ∃ u, e = .returned u ∧ Strs w' u (ptL A) ∧ Grew w w' := by
  unfold ptL
  by_cases h2 : kindOf A = 2 ∨ kindOf A = 3 ∨ kindOf A = 4
  · rw [if_pos h2]
    exact (partTexts_two v A _ _ w h hl (two_of_kind h2) h2).mono fun _ _ ⟨u, a, b, c⟩ => ⟨u, a, b.strs, c⟩
  · rw [if_neg h2]
    by_cases h1 : kindOf A = 5 ∨ kindOf A = 6
    · rw [if_pos h1]
      exact (partTexts_one v A _ w h hl (one_of_kind h1) h1).mono fun _ _ ⟨u, a, b, c⟩ => ⟨u, a, b.strs, c⟩
    · rw [if_neg h1]
      exact (partTexts_none v A w h (none_of_kind h2 h1)).mono fun _ _ ⟨a, c⟩ => ⟨_, a, Strs.nil_ _, c⟩

/-- A text appended to a row above block B. -/
theorem wpList_appSB {ops : Array Oper} {rest : List Oper} {o : Oper} {a : Act} {Q : Exit → Act → World → Prop} {w : World} (B : Nat) (s x : Operand) (hgd : o.guard = none)
    (ho : o.op = .call { callee := .builtin .append, args := #[s, x], argTypes := #[22, 22] })
    (v : Value) (L : List ByteArray) (hs : a.eval s = v) (hown : OwnS w B v L) (hB : B ≤ w.heap.size) (vx : Value) (k : ByteArray) (hx : a.eval x = vx) (hr : Rd w 1 vx 1 [.string k]) (hn : L.length ≤ 1048576)
    (h : ∀ v' w', OwnS w' B v' (L ++ [k]) → w.grownBy w' v.ownBlock → (v'.ownBlock = v.ownBlock ∨ v'.ownBlock = some w.heap.size) → wpList Tryz.prog ops Q rest (a.put o.dst v') w') : wpList Tryz.prog ops Q (o :: rest) a w := by
  obtain ⟨i0, hi0, hz0, hz1, hz2⟩ := info_parts Tryz.infoStr
  refine wpList_append_rd w hgd s x _ ho B 9 i0 _ 1 16 Tryz.underlying22 hi0 hz0 hz1 hz2 rfl (by omega) v L.length (scells L) hs hown vx 1 [.string k] hx hr (by simp [Value.oneCell']) (by unfold maxLen; omega) (by omega) hB ?_
  intro v' w' h1 h2 h3
  refine h v' w' ?_ h2 h3
  unfold OwnS
  rw [List.length_append, scells_append]
  exact h1
end Go.Proofs.YtjcehejnolbkgaaGreat

/- withKind of the program: the texts of a kind, and their parts. -/
namespace Go.Proofs.YtjcehejnolbkgaaGreat
open Go.RowKit
open Fm (Nd Tree)

theorem takeS_succ {L : List ByteArray} {j : Nat} (h : j < L.length) : L.take (j + 1) = L.take j ++ [st L j] := by
  rw [List.take_add_one, List.getElem?_eq_getElem h, st_get h]; rfl
theorem whK_yes {k : Int} {L : List ByteArray} {j : Nat} (h : j < L.length) (hk : kS (st L j) = k) : whK k (L.take (j + 1)) = whK k (L.take j) ++ [st L j] := by
  rw [takeS_succ h]; unfold whK; rw [List.filter_append]; simp [hk]
theorem whK_no {k : Int} {L : List ByteArray} {j : Nat} (h : j < L.length) (hk : kS (st L j) ≠ k) : whK k (L.take (j + 1)) = whK k (L.take j) := by
  rw [takeS_succ h]; unfold whK; rw [List.filter_append]; simp [hk]
theorem inK_yes {k : Int} {L : List ByteArray} {j : Nat} (h : j < L.length) (hk : kS (st L j) = k) : inK k (L.take (j + 1)) = inK k (L.take j) ++ [p1S (st L j)] := by
  unfold inK; rw [whK_yes h hk, List.map_append]; rfl
theorem inK_no {k : Int} {L : List ByteArray} {j : Nat} (h : j < L.length) (hk : kS (st L j) ≠ k) : inK k (L.take (j + 1)) = inK k (L.take j) := by
  unfold inK; rw [whK_no h hk]
theorem whK_len (k : Int) (L : List ByteArray) : (whK k L).length ≤ L.length := List.length_filter_le _ _
theorem inK_len (k : Int) (L : List ByteArray) : (inK k L).length ≤ L.length := by unfold inK; rw [List.length_map]; exact whK_len k L
theorem whK_tl {k : Int} {L : List ByteArray} (j : Nat) : (whK k (L.take j)).length ≤ L.length := Nat.le_trans (whK_len _ _) (by rw [List.length_take]; omega)
theorem inK_tl {k : Int} {L : List ByteArray} (j : Nat) : (inK k (L.take j)).length ≤ L.length := Nat.le_trans (inK_len _ _) (by rw [List.length_take]; omega)

set_option maxHeartbeats 2000000 in
theorem withKind_c (v : Value) (L : List ByteArray) (k : Int) (w : World) (h : Strs w v L) (hg : ∀ i, i < L.length → gd (st L i) = true) (hF : Fits L) (hn : L.length ≤ 1048576) (hk56 : k = 5 ∨ k = 6) :
    Calls Tryz.prog 72 #[v, .int .i64 k] w fun e w' => ∃ v1 v2, e = .returned (.tuple #[v1, v2]) ∧ Strs w' v1 (whK k L) ∧ Strs w' v2 (inK k L) ∧ Grew w w' := by
  have HG := Lib.hid (fun i (hi : i < L.length) => fg_ok (hg i hi))
  have HF := Lib.hid hF
  have HW1 := Lib.hid (fun j (hj : j < L.length) hk => @whK_yes k L j hj hk)
  have HW2 := Lib.hid (fun j (hj : j < L.length) hk => @whK_no k L j hj hk)
  have HI1 := Lib.hid (fun j (hj : j < L.length) hk => @inK_yes k L j hj hk)
  have HI2 := Lib.hid (fun j (hj : j < L.length) hk => @inK_no k L j hj hk)
  have HE : Hid (L.take L.length = L) := Lib.hid List.take_length
  have HL1 := Lib.hid (fun j => @whK_tl k L j)
  have HL2 := Lib.hid (fun j => @inK_tl k L j)
  have HK := Lib.hid hk56
  have HC : Hid (0 < L.length → ∃ b o c, v = .slice (some ⟨b, o, none⟩) L.length c ∧ ∀ i, i < L.length → ∀ W, Grew w W → W.cell? ⟨b, o + i, none⟩ = some (.string (st L i))) := Lib.hid (fun h0 => by
    rcases h.open_ with ⟨_, h1⟩ | ⟨b, o, c, rfl, _, _, _, hf⟩
    · rw [h1] at h0; cases h0
    · exact ⟨b, o, c, rfl, hf⟩)
  obtain ⟨A, cA, rfl⟩ := strs_slice h
  unfold Fits at HF
  clear h hg hF hk56
  generalize L.length = n at *
  go_enter Tryz.func72, Tryz.ntmps72
  go_wp2_with fail
  go_loopw [4, 5, 7, 8, 11] (fun v1 v2 _ _ i wr => ∃ j : Nat, j ≤ n ∧ i = .int .i64 j ∧ Hid (OwnS wr w.heap.size v1 (whK k (L.take j))) ∧ Hid (OwnS wr w.heap.size v2 (inK k (L.take j))) ∧ Hid (Apart v1 v2) ∧ Grew w wr) (fun _ _ _ _ i _ => n - (intOf i).toNat)
  case atStart => exact ⟨0, Nat.zero_le _, rfl, Lib.hid (OwnS.nil_ _ _), Lib.hid (OwnS.nil_ _ _), Lib.hid (fun g hg => by simp [Value.ownBlock] at hg), Grew.refl _⟩
  case round =>
    obtain ⟨j, hj, rfl, H1, H2, HA, hB⟩ := hrel
    by_cases hlt : j < n
    · obtain ⟨b, o, c, hv, hcell⟩ := HC.out (by omega)
      obtain ⟨rfl, rfl⟩ : A = some ⟨b, o, none⟩ ∧ cA = c := by simpa using hv
      have k1 := hcell j hlt _ hB
      have hsz := HF.out j hlt
      obtain ⟨e1, e2, e3⟩ := HG.out j hlt
      have hP := Lib.hid (fun w => parsed_c (st L j) w (by omega))
      rw [e1] at hP
      have hw1 := Lib.hid (HW1.out j hlt)
      have hw2 := Lib.hid (HW2.out j hlt)
      have hi1 := Lib.hid (HI1.out j hlt)
      have hi2 := Lib.hid (HI2.out j hlt)
      have hl1 := HL1.out j
      have hl2 := HL2.out j
      clear hv hcell e1 e2
      have hks : kS (st L j) = kindOf (fg (st L j)) := rfl
      have hp1 : p1S (st L j) = tx (pl1 (fg (st L j))) := rfl
      rw [hks] at hw1 hw2 hi1 hi2
      rw [hp1] at hi1
      clear hks hp1
      obtain ⟨A1, c1, rfl⟩ := strs_slice H1.out.strs
      obtain ⟨A2, c2, rfl⟩ := strs_slice H2.out.strs
      generalize fg (st L j) = T at *
      generalize st L j = s at *
      go_wp2_with fail
      refine (hP.out _).mono ?_
      rintro e w1 ⟨va, rfl, hn1, hg1, hz1⟩
      clear hz1
      obtain ⟨ba, oa, ca, rfl, hca, hcm, hk0⟩ := nodes_head hn1.nodes
      have k2 := hk0 _ (Grew.refl _)
      have hB1 := hB.trans hg1
      have hpos := Fm.enc_pos T
      have hpi : (0 : Int) < ((Fm.enc T).length : Int) := by omega
      clear hk0
      have hbm : ∀ g, (Value.slice A1 (whK k (L.take j)).length c1).ownBlock = some g → w.heap.size ≤ g ∧ g < wr.heap.size := fun g hg => H1.out.lt g hg
      have hbi : ∀ g, (Value.slice A2 (inK k (L.take j)).length c2).ownBlock = some g → w.heap.size ≤ g ∧ g < wr.heap.size := fun g hg => H2.out.lt g hg
      have HBM := Lib.hid hbm
      have HBI := Lib.hid hbi
      have HN1 := Lib.hid hn1
      have HZ1 := Lib.hid hg1.size
      have HZB := Lib.hid hB.size
      clear hbm hbi hn1
      by_cases hk : kindOf T = k
      · have q1 := Lib.hid (hw1.out hk)
        have q2 := Lib.hid (hi1.out hk)
        have hat : Fm.enc T = (kindOf T, 0) :: (Fm.enc (pl1 T) ++ []) := one_of_kind (by rw [hk]; exact HK.out)
        have HAT := Lib.hid hat
        have hpl : (Fm.enc (pl1 T)).length ≤ 40 := by rw [hat] at e3; simp at e3; omega
        rw [hk] at k2
        clear hw1 hw2 hi1 hi2 hk hat
        generalize whK k (L.take j) = M1 at *
        generalize inK k (L.take j) = M2 at *
        go_wp2_with (first
          | (at_builtin
             refine wpList_appSB w.heap.size _ _ rfl rfl (.slice A1 M1.length c1) M1 rfl (H1.out.grew (hg1.trans ((Grew.refl w1).alloc _))) (Nat.le_trans hB1.size ((Grew.refl w1).alloc _).size) _ s rfl (rd_lit _ _ _) (by omega) ?_
             intro v2 w2 hown2 hgr2 hob2
             obtain ⟨A3, c3, rfl⟩ := strs_slice hown2.strs))
        have hal : (w1.alloc (.cells #[.string s] 9)).heap.size = w1.heap.size + 1 := by simp
        have hN2 : Own w2 wr.heap.size (.slice (some ⟨ba, oa, none⟩) (Fm.enc T).length ca) (Fm.enc T) := own_row (HN1.out.grew ((Grew.refl w1).alloc _)) hgr2 (fun g hg hg2 => by have h1 := HBM.out g hg; have h2 := own_of_ge HN1.out hg2; omega)
        have hI2 : OwnS w2 w.heap.size (.slice A2 M2.length c2) M2 := own_row (H2.out.grew (hg1.trans ((Grew.refl w1).alloc _))) hgr2 (fun g hg hg2 => HA.out g hg hg2)
        have hG2 : Grew w w2 := (hB1.alloc _).grown hgr2 (fun g hg => (HBM.out g hg).1)
        have hap2 : Apart (.slice A3 (M1 ++ [s]).length c3) (.slice A2 M2.length c2) := fun g hg hg2 => by
          rcases hob2 with hob2 | hob2
          · rw [hob2] at hg; exact HA.out g hg hg2
          · rw [hob2] at hg
            have h1 := Option.some.inj hg
            have h2 := HBI.out g hg2
            have h3 := HZ1.out
            omega
        have K1 := Lib.hid (first_c _ (Fm.enc T) (pl1 T) w2 hN2.nodes (by omega) (at_first HAT.out))
        have HO2 := Lib.hid hown2
        have HI2 := Lib.hid hI2
        have HG2 := Lib.hid hG2
        have HAP2 := Lib.hid hap2
        have HR2 := Lib.hid hgr2.size
        clear hown2 hI2 hG2 hap2 hgr2 hob2 hN2 HAT
        refine K1.out.mono ?_
        rintro e w3 ⟨u3, rfl, hn3, hg3⟩
        have K2 := Lib.hid (text0_c (pl1 T) _ w3 hn3 (by omega))
        have e1 : bs (Fm.txt (pl1 T) 0) = tx (pl1 T) := rfl
        unfold Says at K2
        rw [e1] at K2
        clear e1 hn3
        generalize tx (pl1 T) = p at *
        go_wp2_with fail
        refine K2.out.mono ?_
        rintro e w4 ⟨rfl, hg4⟩
        have hg24 := hg3.trans hg4
        have hG4 := HG2.out.trans hg24
        go_wp2_with (first
          | (at_builtin
             refine wpList_appSB w.heap.size _ _ rfl rfl (.slice A2 M2.length c2) M2 rfl (HI2.out.grew (hg24.trans ((Grew.refl w4).alloc _))) (Nat.le_trans hG4.size ((Grew.refl w4).alloc _).size) _ p rfl (rd_lit _ _ _) (by omega) ?_
             intro v5 w5 hown5 hgr5 hob5
             obtain ⟨A5, c5, rfl⟩ := strs_slice hown5.strs
             have HFIN := Lib.hid (show Hid (OwnS w5 w.heap.size (.slice A3 (M1 ++ [s]).length c3) (M1 ++ [s])) ∧ Hid (OwnS w5 w.heap.size (.slice A5 (M2 ++ [p]).length c5) (M2 ++ [p])) ∧ Hid (Apart (.slice A3 (M1 ++ [s]).length c3) (.slice A5 (M2 ++ [p]).length c5)) ∧ Grew w w5 from by
               have hb3 := fun g (hg : (Value.slice A3 (M1 ++ [s]).length c3).ownBlock = some g) => (HO2.out.lt g hg).2
               have hz4 := hg24.size
               refine ⟨Lib.hid (own_row (HO2.out.grew (hg24.trans ((Grew.refl w4).alloc _))) hgr5 (fun g hg hg2 => HAP2.out g hg2 hg)), Lib.hid hown5, Lib.hid (fun g hg hg2 => ?_), (hG4.alloc _).grown hgr5 (fun g hg => (HI2.out.lt g hg).1)⟩
               rcases hob5 with hob5 | hob5
               · rw [hob5] at hg2; exact HAP2.out g hg hg2
               · rw [hob5] at hg2
                 have h1 := Option.some.inj hg2
                 have h2 := hb3 g hg
                 have h3 : (w4.alloc (.cells #[.string p] 9)).heap.size = w4.heap.size + 1 := by simp
                 omega)
             clear hown5 hgr5 hob5))
        go_roundw
        case rel =>
          have HX := HFIN.out
          simp only [List.length_append, List.length_singleton] at HX
          exact ⟨j + 1, by omega, by go_num, by rw [q1.out]; exact HX.1, by rw [q2.out]; exact HX.2.1, HX.2.2.1, HX.2.2.2⟩
        case measure => simp [intOf]; omega
      · have q1 := Lib.hid (hw2.out hk)
        have q2 := Lib.hid (hi2.out hk)
        have hne : (kindOf T == k) = false := by simpa using hk
        have HFIN := Lib.hid (And.intro (H1.out.grew hg1) (H2.out.grew hg1))
        clear hw1 hw2 hi1 hi2 hk
        generalize kindOf T = kk at *
        go_wp2_with fail
        go_roundw
        case rel => exact ⟨j + 1, by omega, by go_num, Lib.hid (by rw [q1.out]; exact HFIN.out.1), Lib.hid (by rw [q2.out]; exact HFIN.out.2), HA, hB1⟩
        case measure => simp [intOf]; omega
    · obtain rfl : j = n := by omega
      have a1 : whK k (L.take j) = whK k L := by rw [HE.out]
      have a2 : inK k (L.take j) = inK k L := by rw [HE.out]
      have S1 := Lib.hid H1.out.strs
      have S2 := Lib.hid H2.out.strs
      rw [a1] at S1
      rw [a2] at S2
      obtain ⟨A1, c1, rfl⟩ := strs_slice S1.out
      obtain ⟨A2, c2, rfl⟩ := strs_slice S2.out
      clear a1 a2 H1 H2 HA
      go_wp2_with fail
      go_ret2
      exact ⟨_, _, rfl, S1.out, S2.out, hB⟩
end Go.Proofs.YtjcehejnolbkgaaGreat

/- carried of the program: what a modal rule carries over. -/
namespace Go.Proofs.YtjcehejnolbkgaaGreat
open Go.RowKit
open Fm (Nd Tree)

theorem cr_1 {lg m : ByteArray} {L : List ByteArray} {k : Int} (h : (lg.toList == [75, 52]) = true) : crF lg L k m = putS (whK k L ++ inK k L) := by
  unfold crF isLg; rw [h]; rfl
theorem cr_2 {lg m : ByteArray} {L : List ByteArray} {k : Int} (h1 : (lg.toList == [75, 52]) = false) (h : (lg.toList == [71, 76]) = true) : crF lg L k m = putS (whK k L ++ inK k L) := by
  unfold crF isLg; rw [h1, h]; rfl
theorem cr_3 {lg m : ByteArray} {L : List ByteArray} {k : Int} (h1 : (lg.toList == [75, 52]) = false) (h2 : (lg.toList == [71, 76]) = false) (h : (lg.toList == [83, 52]) = true) : crF lg L k m = putS (whK k L ++ []) := by
  unfold crF isLg; rw [h1, h2, h, List.append_nil]; rfl
theorem cr_4 {lg m : ByteArray} {L : List ByteArray} {k : Int} (h1 : (lg.toList == [75, 52]) = false) (h2 : (lg.toList == [71, 76]) = false) (h3 : (lg.toList == [83, 52]) = false) (h : (lg.toList == [83, 53]) = true) : crF lg L k m = dropS (putS (whK k L ++ whK (11 - k) L)) m := by
  unfold crF isLg; rw [h1, h2, h3, h]; rfl
theorem cr_5 {lg m : ByteArray} {L : List ByteArray} {k : Int} (h1 : (lg.toList == [75, 52]) = false) (h2 : (lg.toList == [71, 76]) = false) (h3 : (lg.toList == [83, 52]) = false) (h4 : (lg.toList == [83, 53]) = false) : crF lg L k m = putS (inK k L ++ []) := by
  unfold crF isLg; rw [h1, h2, h3, h4, List.append_nil]; rfl
theorem putS_len (L : List ByteArray) : (putS L).length ≤ L.length := by
  obtain ⟨M, h1, h2⟩ := putB_perm L
  have h3 := h1.length_le
  have h4 := h2.length_eq
  unfold putS
  rw [List.length_map]
  have h5 : (bl L).length = L.length := by unfold bl; rw [List.length_map]
  omega

set_option maxHeartbeats 2000000 in
theorem carried_c (lg m : ByteArray) (v : Value) (L : List ByteArray) (k : Int) (w : World) (h : Strs w v L) (hg : ∀ i, i < L.length → gd (st L i) = true) (hF : Fits L) (hn : L.length ≤ 1048576) (hk56 : k = 5 ∨ k = 6) :
    Calls Tryz.prog 55 #[.string lg, v, .int .i64 k, .string m] w fun e w' => ∃ u, e = .returned u ∧ Strs w' u (crF lg L k m) ∧ Grew w w' := by
  have KW := Lib.hid (withKind_c v L k w h hg hF hn hk56)
  have KO := Lib.hid (fun W (hW : Grew w W) => withKind_c v L (11 - k) W (h.grew hW) hg hF hn (by omega))
  have l1 := whK_len k L
  have l2 := inK_len k L
  have l3 := whK_len (11 - k) L
  have h11 : wrap64 (11 - k) = 11 - k := by unfold wrap64; omega
  obtain ⟨AV, cV, rfl⟩ := strs_slice h
  have r0 := Grew.refl w
  clear h hg hF hk56
  cases h1 : (lg.toList == [75, 52]) with
  | true =>
    rw [cr_1 h1]
    clear KO l3 h11
    generalize whK k L = M1 at *
    generalize inK k L = M2 at *
    generalize L.length = n at *
    go_enter Tryz.func55, Tryz.ntmps55
    go_wp2_with fail
    refine KW.out.mono ?_
    rintro e w1 ⟨v1, v2, rfl, hs1, hs2, hg1⟩
    obtain ⟨A1, c1, rfl⟩ := strs_slice hs1
    obtain ⟨A2, c2, rfl⟩ := strs_slice hs2
    have S1 := Lib.hid hs1
    have S2 := Lib.hid hs2
    clear hs1 hs2
    go_wp2_with fail
    refine (put_c _ _ M1 M2 _ S1.out S2.out (by omega)).mono ?_
    rintro e w2 ⟨u, rfl, ho, hg2⟩
    go_wp2_with fail
    go_ret
    exact ⟨_, rfl, ho.strs, hg1.trans hg2⟩
  | false =>
  cases h2 : (lg.toList == [71, 76]) with
  | true =>
    rw [cr_2 h1 h2]
    clear KO l3 h11
    generalize whK k L = M1 at *
    generalize inK k L = M2 at *
    generalize L.length = n at *
    go_enter Tryz.func55, Tryz.ntmps55
    go_wp2_with fail
    refine KW.out.mono ?_
    rintro e w1 ⟨v1, v2, rfl, hs1, hs2, hg1⟩
    obtain ⟨A1, c1, rfl⟩ := strs_slice hs1
    obtain ⟨A2, c2, rfl⟩ := strs_slice hs2
    have S1 := Lib.hid hs1
    have S2 := Lib.hid hs2
    clear hs1 hs2
    go_wp2_with fail
    refine (put_c _ _ M1 M2 _ S1.out S2.out (by omega)).mono ?_
    rintro e w2 ⟨u, rfl, ho, hg2⟩
    go_wp2_with fail
    go_ret
    exact ⟨_, rfl, ho.strs, hg1.trans hg2⟩
  | false =>
  cases h3 : (lg.toList == [83, 52]) with
  | true =>
    rw [cr_3 h1 h2 h3]
    clear KO l3 h11
    generalize whK k L = M1 at *
    generalize inK k L = M2 at *
    generalize L.length = n at *
    go_enter Tryz.func55, Tryz.ntmps55
    go_wp2_with fail
    refine KW.out.mono ?_
    rintro e w1 ⟨v1, v2, rfl, hs1, hs2, hg1⟩
    obtain ⟨A1, c1, rfl⟩ := strs_slice hs1
    obtain ⟨A2, c2, rfl⟩ := strs_slice hs2
    have S1 := Lib.hid hs1
    have S2 := Lib.hid hs2
    clear hs1 hs2
    go_wp2_with fail
    refine (put_c _ _ M1 [] _ S1.out (Strs.nil_ _) (by simp; omega)).mono ?_
    rintro e w2 ⟨u, rfl, ho, hg2⟩
    go_wp2_with fail
    go_ret
    exact ⟨_, rfl, ho.strs, hg1.trans hg2⟩
  | false =>
  cases h4 : (lg.toList == [83, 53]) with
  | true =>
    rw [cr_4 h1 h2 h3 h4]
    generalize hM3 : whK (11 - k) L = M3 at *
    clear hM3
    generalize whK k L = M1 at *
    generalize inK k L = M2 at *
    generalize L.length = n at *
    go_enter Tryz.func55, Tryz.ntmps55
    go_wp2_with fail
    refine KW.out.mono ?_
    rintro e w1 ⟨v1, v2, rfl, hs1, hs2, hg1⟩
    obtain ⟨A1, c1, rfl⟩ := strs_slice hs1
    obtain ⟨A2, c2, rfl⟩ := strs_slice hs2
    have S1 := Lib.hid hs1
    have S2 := Lib.hid hs2
    clear hs1 hs2
    go_wp2_with fail
    refine (KO.out _ hg1).mono ?_
    rintro e w2 ⟨v3, v4, rfl, hs3, hs4, hg2⟩
    obtain ⟨A3, c3, rfl⟩ := strs_slice hs3
    obtain ⟨A4, c4, rfl⟩ := strs_slice hs4
    have S3 := Lib.hid hs3
    clear hs3 hs4
    go_wp2_with fail
    refine (put_c _ _ M1 M3 _ (S1.out.grew hg2) S3.out (by omega)).mono ?_
    rintro e w3 ⟨u, rfl, ho, hg3⟩
    have hpl := putS_len (M1 ++ M3)
    rw [List.length_append] at hpl
    obtain ⟨A5, c5, rfl⟩ := strs_slice ho.strs
    have HO := Lib.hid ho
    clear ho
    go_wp2_with fail
    refine (drop_c _ (putS (M1 ++ M3)) m _ HO.out.strs (by omega)).mono ?_
    rintro e w4 ⟨u5, rfl, hs5, hg4⟩
    go_wp2_with fail
    go_ret
    exact ⟨_, rfl, hs5, hg1.trans (hg2.trans (hg3.trans hg4))⟩
  | false =>
    rw [cr_5 h1 h2 h3 h4]
    clear KO l3 h11
    generalize whK k L = M1 at *
    generalize inK k L = M2 at *
    generalize L.length = n at *
    go_enter Tryz.func55, Tryz.ntmps55
    go_wp2_with fail
    refine KW.out.mono ?_
    rintro e w1 ⟨v1, v2, rfl, hs1, hs2, hg1⟩
    obtain ⟨A1, c1, rfl⟩ := strs_slice hs1
    obtain ⟨A2, c2, rfl⟩ := strs_slice hs2
    have S1 := Lib.hid hs1
    have S2 := Lib.hid hs2
    clear hs1 hs2
    go_wp2_with fail
    refine (put_c _ _ M2 [] _ S2.out (Strs.nil_ _) (by simp; omega)).mono ?_
    rintro e w2 ⟨u, rfl, ho, hg2⟩
    go_wp2_with fail
    go_ret
    exact ⟨_, rfl, ho.strs, hg1.trans hg2⟩
end Go.Proofs.YtjcehejnolbkgaaGreat

/- A cell that is read lies in a block that is there. -/
namespace Go.Proofs.YtjcehejnolbkgaaGreat
open Go.RowKit

theorem cell_lt {w : World} {a : Addr} {u : Value} (h : w.cell? a = some u) : a.block < w.heap.size := by
  unfold World.cell? at h
  split at h
  · rename_i hh
    exact (Array.getElem?_eq_some_iff.1 hh).1
  · cases h

end Go.Proofs.YtjcehejnolbkgaaGreat

/- modalPremise of the program. -/
namespace Go.Proofs.YtjcehejnolbkgaaGreat
open Go.RowKit
open Fm (Nd Tree)

theorem info2M : (Tryz.prog.info? 29).map (·.size) = some 2 := by kernel_rfl
theorem cr_len (lg m : ByteArray) (L : List ByteArray) (k : Int) : (crF lg L k m).length ≤ 2 * L.length := by
  have l1 := whK_len k L
  have l2 := inK_len k L
  have l3 := whK_len (11 - k) L
  unfold crF
  split
  · have := putS_len (whK k L ++ inK k L); rw [List.length_append] at this; omega
  · split
    · have := putS_len (whK k L); omega
    · split
      · have h1 := putS_len (whK k L ++ whK (11 - k) L)
        rw [List.length_append] at h1
        have h2 : (dropS (putS (whK k L ++ whK (11 - k) L)) m).length ≤ (putS (whK k L ++ whK (11 - k) L)).length := List.length_filter_le _ _
        omega
      · have := putS_len (inK k L); omega
/-- A reading of texts stays while a block that holds no texts is written. -/
theorem strs_only {w W : World} {g : Nat} {t : TypeId} {cs : Array Value} {v : Value} {L : List ByteArray} (h : Strs w v L) (hb : w.heap[g]? = some (.cells cs t (0, 0))) (hcs : ∀ (i : Nat) (s : ByteArray), cs[i]? ≠ some (Value.string s)) (ho : Only g w W) : Strs W v L := by
  obtain ⟨h1, h2, h3⟩ := h
  refine ⟨h1, h2, ?_⟩
  rcases h3 with h3 | ⟨b, o, c, h4, h5, h6, h7, h8⟩
  · exact .inl h3
  · refine .inr ⟨b, o, c, h4, h5, h6, Nat.lt_of_lt_of_le h7 ho.size, fun j u hu => ?_⟩
    have h9 := h8 j u hu
    by_cases hg : b = g
    · subst hg
      exfalso
      obtain ⟨s, _, rfl⟩ : ∃ s, s ∈ L ∧ u = Value.string s := by
        have := List.mem_of_getElem? hu
        unfold scells at this
        rw [List.mem_map] at this
        obtain ⟨s, hs, he⟩ := this
        exact ⟨s, hs, he.symm⟩
      rw [blk_cell hb] at h9
      exact hcs _ s h9
    · exact (ho.cell (p := ⟨b, o + j, none⟩) h7 hg).trans h9
theorem no_str (v1 v2 : Value) (h1 : ∃ A n c, v1 = .slice A n c) (h2 : ∃ A n c, v2 = .slice A n c) : ∀ (i : Nat) (s : ByteArray), (#[v1, v2] : Array Value)[i]? ≠ some (.string s) := by
  obtain ⟨A1, n1, c1, rfl⟩ := h1
  obtain ⟨A2, n2, c2, rfl⟩ := h2
  intro i s
  match i with
  | 0 => intro h; cases h
  | 1 => intro h; cases h
  | i + 2 => intro h; simp at h
/-- A sequent given by value, its sides read. -/
def GivesMs (w : World) (x : Ms) (e : Ending) (w' : World) : Prop := ∃ A1 n1 c1 A2 n2 c2, e = .returned (.agg #[.slice A1 n1 c1, .slice A2 n2 c2]) ∧ Strs w' (.slice A1 n1 c1) x.1 ∧ Strs w' (.slice A2 n2 c2) x.2 ∧ Grew w w'
/-- A block of two slices. -/
def Pr (w : World) (g : Nat) (x y : List ByteArray) : Prop := ∃ A1 n1 c1 A2 n2 c2, w.heap[g]? = some (.cells #[.slice A1 n1 c1, .slice A2 n2 c2] 29 (0, 0)) ∧ Strs w (.slice A1 n1 c1) x ∧ Strs w (.slice A2 n2 c2) y
theorem Pr.grew {w w' : World} {g : Nat} {x y : List ByteArray} (h : Pr w g x y) (hg : Grew w w') : Pr w' g x y := by
  obtain ⟨A1, n1, c1, A2, n2, c2, h1, h2, h3⟩ := h
  exact ⟨A1, n1, c1, A2, n2, c2, (hg.block (blk_lt h1)).trans h1, h2.grew hg, h3.grew hg⟩
/-- What holds between the stores: the sequent in block g, the result's block, nothing old has changed. -/
def Sit (w W : World) (g : Nat) (x y : List ByteArray) : Prop := Pr W g x y ∧ W.heap[w.heap.size + 1]? = some (.cells #[.slice none 0 0, .slice none 0 0] 29 (0, 0)) ∧ Grew w W ∧ w.heap.size + 2 ≤ g
theorem Sit.grew {w W W' : World} {g : Nat} {x y : List ByteArray} (h : Sit w W g x y) (hg : Grew W W') : Sit w W' g x y :=
  ⟨h.1.grew hg, (hg.block (blk_lt h.2.1)).trans h.2.1, h.2.2.1.trans hg, h.2.2.2⟩
theorem no_str2 {A1 A2 : Option Addr} {n1 c1 n2 c2 : Nat} : ∀ (i : Nat) (s : ByteArray), (#[.slice A1 n1 c1, .slice A2 n2 c2] : Array Value)[i]? ≠ some (Value.string s) := no_str _ _ ⟨_, _, _, rfl⟩ ⟨_, _, _, rfl⟩
theorem Sit.set0 {w W : World} {g : Nat} {x y z : List ByteArray} {A : Option Addr} {n c : Nat} (h : Sit w W g x y) (hz : Strs W (.slice A n c) z) : Sit w (W.setCell ⟨g, 0, none⟩ (.slice A n c)) g z y := by
  obtain ⟨⟨A1, n1, c1, A2, n2, c2, h1, h2, h3⟩, h4, h5, h6⟩ := h
  have ho : Only g W (W.setCell ⟨g, 0, none⟩ (.slice A n c)) := (Only.refl g W).setCell _
  exact ⟨⟨A, n, c, A2, n2, c2, blk_set h1 0 _, strs_only hz h1 no_str2 ho, strs_only h3 h1 no_str2 ho⟩, (ho.block (blk_lt h4) (by omega)).trans h4, h5.setCell (show w.heap.size ≤ g by omega) _, h6⟩
theorem Sit.set1 {w W : World} {g : Nat} {x y z : List ByteArray} {A : Option Addr} {n c : Nat} (h : Sit w W g x y) (hz : Strs W (.slice A n c) z) : Sit w (W.setCell ⟨g, 1, none⟩ (.slice A n c)) g x z := by
  obtain ⟨⟨A1, n1, c1, A2, n2, c2, h1, h2, h3⟩, h4, h5, h6⟩ := h
  have ho : Only g W (W.setCell ⟨g, 1, none⟩ (.slice A n c)) := (Only.refl g W).setCell _
  exact ⟨⟨A1, n1, c1, A, n, c, blk_set h1 1 _, strs_only h2 h1 no_str2 ho, strs_only hz h1 no_str2 ho⟩, (ho.block (blk_lt h4) (by omega)).trans h4, h5.setCell (show w.heap.size ≤ g by omega) _, h6⟩
/-- The end: both sides are stored into the result's block. -/
theorem Sit.fin {w W : World} {g : Nat} {x y : List ByteArray} {A1 A2 : Option Addr} {n1 c1 n2 c2 : Nat} (h : Sit w W g x y) (h1 : Strs W (.slice A1 n1 c1) x) (h2 : Strs W (.slice A2 n2 c2) y) :
    GivesMs w (x, y) (.returned (.agg #[.slice A1 n1 c1, .slice A2 n2 c2])) ((W.setCell ⟨w.heap.size + 1, 0, none⟩ (.slice A1 n1 c1)).setCell ⟨w.heap.size + 1, 1, none⟩ (.slice A2 n2 c2)) := by
  obtain ⟨_, h4, h5, _⟩ := h
  have ho : Only (w.heap.size + 1) W ((W.setCell ⟨w.heap.size + 1, 0, none⟩ (.slice A1 n1 c1)).setCell ⟨w.heap.size + 1, 1, none⟩ (.slice A2 n2 c2)) := ((Only.refl _ _).setCell _).setCell _
  exact ⟨A1, n1, c1, A2, n2, c2, rfl, strs_only h1 h4 no_str2 ho, strs_only h2 h4 no_str2 ho, (h5.setCell (Nat.le_succ _) _).setCell (Nat.le_succ _) _⟩
theorem mp_0 {lg m : ByteArray} {L R : List ByteArray} (h : m.toList.isEmpty = true) : mpF lg L R m = (crF lg L 5 m, crF lg R 6 m) := by unfold mpF; rw [if_pos h]
theorem mp_5g {lg m : ByteArray} {L R : List ByteArray} (h : m.toList.isEmpty = false) (hk : kS m = 5) (hl : (lg.toList == [71, 76]) = true) : mpF lg L R m = (putS (crF lg L 5 m ++ [m]), putS (crF lg R 6 m ++ [p1S m])) := by unfold mpF isLg; rw [if_neg (by rw [h]; simp), if_pos hk, if_pos hl]
theorem mp_5n {lg m : ByteArray} {L R : List ByteArray} (h : m.toList.isEmpty = false) (hk : kS m = 5) (hl : (lg.toList == [71, 76]) = false) : mpF lg L R m = (crF lg L 5 m, putS (crF lg R 6 m ++ [p1S m])) := by unfold mpF isLg; rw [if_neg (by rw [h]; simp), if_pos hk, if_neg (by rw [hl]; simp)]
theorem mp_6g {lg m : ByteArray} {L R : List ByteArray} (h : m.toList.isEmpty = false) (hk : kS m = 6) (hl : (lg.toList == [71, 76]) = true) : mpF lg L R m = (putS (crF lg L 5 m ++ [p1S m]), putS (crF lg R 6 m ++ [m])) := by unfold mpF isLg; rw [if_neg (by rw [h]; simp), if_neg (by rw [hk]; decide), if_pos hl]
theorem mp_6n {lg m : ByteArray} {L R : List ByteArray} (h : m.toList.isEmpty = false) (hk : kS m = 6) (hl : (lg.toList == [71, 76]) = false) : mpF lg L R m = (putS (crF lg L 5 m ++ [p1S m]), crF lg R 6 m) := by unfold mpF isLg; rw [if_neg (by rw [h]; simp), if_neg (by rw [hk]; decide), if_neg (by rw [hl]; simp)]

set_option maxHeartbeats 4000000 in
set_option maxRecDepth 8192 in
theorem modalPremise_c (lg m : ByteArray) (va vb : Value) (L R : List ByteArray) (w : World) (ha : Strs w va L) (hb : Strs w vb R) (hgL : ∀ i, i < L.length → gd (st L i) = true) (hgR : ∀ i, i < R.length → gd (st R i) = true) (hFL : Fits L) (hFR : Fits R) (hnL : L.length ≤ 1000000) (hnR : R.length ≤ 1000000)
    (hm : m.toList.isEmpty = true ∨ (gd m = true ∧ (kS m = 5 ∨ kS m = 6) ∧ m.size ≤ 1048576)) :
    Calls Tryz.prog 37 #[.string lg, .agg #[va, vb], .string m] w (GivesMs w (mpF lg L R m)) := by
  have K5 := Lib.hid (fun W (hW : Grew w W) => carried_c lg m va L 5 W (ha.grew hW) hgL hFL (by omega) (.inl rfl))
  have K6 := Lib.hid (fun W (hW : Grew w W) => carried_c lg m vb R 6 W (hb.grew hW) hgR hFR (by omega) (.inr rfl))
  obtain ⟨A1, c1, rfl⟩ := strs_slice ha
  obtain ⟨A2, c2, rfl⟩ := strs_slice hb
  have HM := Lib.hid hm
  have hl5 : (crF lg L 5 m).length ≤ 4000000 := by have := cr_len lg m L 5; omega
  have hl6 : (crF lg R 6 m).length ≤ 4000000 := by have := cr_len lg m R 6; omega
  clear ha hb hgL hgR hFL hFR hnL hnR hm
  obtain ⟨w1, hw1⟩ : ∃ w1, w1 = (w.alloc (.cells #[.slice A1 L.length c1, .slice A2 R.length c2] 29)).alloc (.cells #[.slice none 0 0, .slice none 0 0] 29) := ⟨_, rfl⟩
  have hg1 : Grew w w1 := by rw [hw1]; exact ((Grew.refl w).alloc _).alloc _
  have hs1 : w1.heap.size = w.heap.size + 2 := by rw [hw1]; simp
  have hb0 : w1.heap[w.heap.size]? = some (.cells #[.slice A1 L.length c1, .slice A2 R.length c2] 29 (0, 0)) := by
    rw [hw1]; exact (((Grew.refl _).alloc _).block (by simp)).trans (blk_new w _)
  have hb1 : w1.heap[w.heap.size + 1]? = some (.cells #[.slice none 0 0, .slice none 0 0] 29 (0, 0)) := by
    rw [hw1]
    have h := blk_new (w.alloc (.cells #[.slice A1 L.length c1, .slice A2 R.length c2] 29)) (.cells #[.slice none 0 0, .slice none 0 0] 29)
    have e : (w.alloc (.cells #[.slice A1 L.length c1, .slice A2 R.length c2] 29)).heap.size = w.heap.size + 1 := by simp
    rwa [e] at h
  have p0 : ∀ W, Grew w1 W → W.cell? ⟨w.heap.size, 0, none⟩ = some (.slice A1 L.length c1) := fun W hW => by rw [blk_cell ((hW.block (blk_lt hb0)).trans hb0)]; rfl
  have p1 : ∀ W, Grew w1 W → W.cell? ⟨w.heap.size, 1, none⟩ = some (.slice A2 R.length c2) := fun W hW => by rw [blk_cell ((hW.block (blk_lt hb0)).trans hb0)]; rfl
  have HG1 := Lib.hid hg1
  have HS1 := Lib.hid hs1
  have HB1 := Lib.hid hb1
  have hr1 := Grew.refl w1
  have hd1 := hr1.drew
  clear hg1 hs1 hb0 hb1
  generalize hX : mpF lg L R m = X at *
  have HX := Lib.hid hX
  clear hX
  generalize hC5 : crF lg L 5 m = C5 at *
  generalize hC6 : crF lg R 6 m = C6 at *
  have HC5 := Lib.hid hC5
  have HC6 := Lib.hid hC6
  clear hC5 hC6
  generalize L.length = n at *
  generalize R.length = n2 at *
  go_enter Tryz.func37, Tryz.ntmps37
  go_upto_region 1 with fail
  simp only [← hw1]
  clear hw1
  go_cut [7] from 8 (fun a7 wx => ∃ g, a7 = .pointer (some ⟨g, 0, none⟩) ∧ w1.heap.size ≤ g ∧ Pr wx g C5 C6 ∧ Grew w1 wx)
  case first =>
    refine wp_region_held_drew (S := fun w' => Grew w1 w') (by kernel_rfl) hd1 (fun hHeld => ?_)
    refine wpAnyH_take (i := 0) (oi := ?on1) (v := ?vn1) ?hin1 ?an1 ?bn1 ?cn1 ?qn1 (Or.inl ⟨?dn1, ?hyn1⟩) hHeld ?restn1
    case hin1 => (simp only [List.getElem?_toArray, List.getElem?_cons_zero]; exact rfl)
    case an1 => kernel_rfl
    case bn1 => kernel_rfl
    case cn1 => kernel_rfl
    case qn1 => exact fun _ _ _ h => h
    case dn1 => rfl
    case hyn1 => (intro z hSw; (try dsimp only at hSw); go_simp; (try with_reducible rfl))
    try simp only [Act.put, List.setIfInBounds_toArray, List.set_cons_zero, List.set_cons_succ]
    refine wpAnyH_take (i := 1) (oi := ?on2) (v := ?vn2) ?hin2 ?an2 ?bn2 ?cn2 ?qn2 (Or.inl ⟨?dn2, ?hyn2⟩) hHeld ?restn2
    case hin2 => (simp only [List.getElem?_toArray, List.getElem?_cons_succ, List.getElem?_cons_zero]; exact rfl)
    case an2 => kernel_rfl
    case bn2 => kernel_rfl
    case cn2 => kernel_rfl
    case qn2 => exact fun _ _ _ h => h
    case dn2 => rfl
    case hyn2 => (intro z hSw; (try dsimp only at hSw); go_simp; (try with_reducible rfl))
    try simp only [Act.put, List.setIfInBounds_toArray, List.set_cons_zero, List.set_cons_succ]
    refine wpAnyH_take (i := 2) (oi := ?on3) (v := ?vn3) ?hin3 ?an3 ?bn3 ?cn3 ?qn3 (Or.inl ⟨?dn3, ?hyn3⟩) hHeld ?restn3
    case hin3 => (simp only [List.getElem?_toArray, List.getElem?_cons_succ, List.getElem?_cons_zero]; exact rfl)
    case an3 => kernel_rfl
    case bn3 => kernel_rfl
    case cn3 => kernel_rfl
    case qn3 => exact fun _ _ _ h => h
    case dn3 => rfl
    case hyn3 => (intro z hSw; (try dsimp only at hSw); go_simp; (try with_reducible rfl))
    try simp only [Act.put, List.setIfInBounds_toArray, List.set_cons_zero, List.set_cons_succ]
    refine wpAnyH_take (i := 3) (oi := ?on4) (v := ?vn4) ?hin4 ?an4 ?bn4 ?cn4 ?qn4 (Or.inl ⟨?dn4, ?hyn4⟩) hHeld ?restn4
    case hin4 => (simp only [List.getElem?_toArray, List.getElem?_cons_succ, List.getElem?_cons_zero]; exact rfl)
    case an4 => kernel_rfl
    case bn4 => kernel_rfl
    case cn4 => kernel_rfl
    case qn4 => exact fun _ _ _ h => h
    case dn4 => rfl
    case hyn4 => (intro z hSw; (try dsimp only at hSw); go_simp; (try with_reducible rfl))
    try simp only [Act.put, List.setIfInBounds_toArray, List.set_cons_zero, List.set_cons_succ]
    refine wpAnyH_take (i := 5) (oi := ?on5) (v := ?vn5) ?hin5 ?an5 ?bn5 ?cn5 ?qn5 (Or.inl ⟨?dn5, ?hyn5⟩) hHeld ?restn5
    case hin5 => (simp only [List.getElem?_toArray, List.getElem?_cons_succ, List.getElem?_cons_zero]; exact rfl)
    case an5 => kernel_rfl
    case bn5 => kernel_rfl
    case cn5 => kernel_rfl
    case qn5 => exact fun _ _ _ h => h
    case dn5 => rfl
    case hyn5 => (intro z hSw; (try dsimp only at hSw); go_simp; (try with_reducible rfl))
    try simp only [Act.put, List.setIfInBounds_toArray, List.set_cons_zero, List.set_cons_succ]
    refine wpAnyH_take (i := 6) (oi := ?on6) (v := ?vn6) ?hin6 ?an6 ?bn6 ?cn6 ?qn6 (Or.inl ⟨?dn6, ?hyn6⟩) hHeld ?restn6
    case hin6 => (simp only [List.getElem?_toArray, List.getElem?_cons_succ, List.getElem?_cons_zero]; exact rfl)
    case an6 => kernel_rfl
    case bn6 => kernel_rfl
    case cn6 => kernel_rfl
    case qn6 => exact fun _ _ _ h => h
    case dn6 => rfl
    case hyn6 => (intro z hSw; (try dsimp only at hSw); go_simp; (try with_reducible rfl))
    try simp only [Act.put, List.setIfInBounds_toArray, List.set_cons_zero, List.set_cons_succ]
    refine wpAnyH_take (i := 7) (oi := ?on7) (v := ?vn7) ?hin7 ?an7 ?bn7 ?cn7 ?qn7 (Or.inl ⟨?dn7, ?hyn7⟩) hHeld ?restn7
    case hin7 => (simp only [List.getElem?_toArray, List.getElem?_cons_succ, List.getElem?_cons_zero]; exact rfl)
    case an7 => kernel_rfl
    case bn7 => kernel_rfl
    case cn7 => kernel_rfl
    case qn7 => exact fun _ _ _ h => h
    case dn7 => rfl
    case hyn7 => (intro z hSw; (try dsimp only at hSw); go_simp; (try with_reducible rfl))
    try simp only [Act.put, List.setIfInBounds_toArray, List.set_cons_zero, List.set_cons_succ]
    refine wpAnyH_take (i := 8) (oi := ?on8) (v := ?vn8) ?hin8 ?an8 ?bn8 ?cn8 ?qn8 (Or.inl ⟨?dn8, ?hyn8⟩) hHeld ?restn8
    case hin8 => (simp only [List.getElem?_toArray, List.getElem?_cons_succ, List.getElem?_cons_zero]; exact rfl)
    case an8 => kernel_rfl
    case bn8 => kernel_rfl
    case cn8 => kernel_rfl
    case qn8 => exact fun _ _ _ h => h
    case dn8 => rfl
    case hyn8 => (intro z hSw; (try dsimp only at hSw); go_simp; (try with_reducible rfl))
    try simp only [Act.put, List.setIfInBounds_toArray, List.set_cons_zero, List.set_cons_succ]
    refine wpAnyH_ready (rs := [4, 11]) (by kernel_rfl) (by simp) ?_
    refine AllReadyH.cons (o := ?on9) ?hin9 ?restn9 (AllReadyH.cons (o := ?on10) ?hin10 ?restn10 AllReadyH.nil)
    case hin9 => (simp only [List.getElem?_toArray, List.getElem?_cons_succ, List.getElem?_cons_zero]; exact rfl)
    case hin10 => (simp only [List.getElem?_toArray, List.getElem?_cons_succ, List.getElem?_cons_zero]; exact rfl)
    case restn9 =>
      intro K hK
      go_simp
      go_at_call 55
      refine (K5.out _ (HG1.out.trans hd1)).mono ?_
      rintro e y1 ⟨u5, rfl, hu5, hgy1⟩
      have hy1 : Grew w1 y1 := hd1.trans hgy1
      obtain ⟨A5, d5, rfl⟩ := strs_slice hu5
      refine hK.out _ _ ?_ (fun hHeld => ?_)
      · (try dsimp only); first | with_reducible assumption | exact hy1
      clear hK K
      try simp only [Act.put, List.setIfInBounds_toArray, List.set_cons_zero, List.set_cons_succ]
      refine wpAnyH_ready (rs := [9, 11]) (by kernel_rfl) (by simp) ?_
      refine AllReadyH.cons (o := ?on11) ?hin11 ?restn11 (AllReadyH.cons (o := ?on12) ?hin12 ?restn12 AllReadyH.nil)
      case hin11 => (simp only [List.getElem?_toArray, List.getElem?_cons_succ, List.getElem?_cons_zero]; exact rfl)
      case hin12 => (simp only [List.getElem?_toArray, List.getElem?_cons_succ, List.getElem?_cons_zero]; exact rfl)
      case restn11 =>
        intro K hK
        go_simp
        go_at_call 55
        refine (K6.out _ (HG1.out.trans hy1)).mono ?_
        rintro e y2 ⟨u6, rfl, hu6, hgy2⟩
        have hy2 : Grew w1 y2 := hy1.trans hgy2
        obtain ⟨A6, d6, rfl⟩ := strs_slice hu6
        replace hu5 := hu5.grew hgy2
        refine hK.out _ _ ?_ (fun hHeld => ?_)
        · (try dsimp only); first | with_reducible assumption | exact hy2
        clear hK K
        try simp only [Act.put, List.setIfInBounds_toArray, List.set_cons_zero, List.set_cons_succ]
        refine wpAnyH_take (i := 10) (oi := ?on13) (v := ?vn13) ?hin13 ?an13 ?bn13 ?cn13 ?qn13 (Or.inl ⟨?dn13, ?hyn13⟩) hHeld ?restn13
        case hin13 => (simp only [List.getElem?_toArray, List.getElem?_cons_succ, List.getElem?_cons_zero]; exact rfl)
        case an13 => kernel_rfl
        case bn13 => kernel_rfl
        case cn13 => kernel_rfl
        case qn13 => exact fun _ _ _ h => h
        case dn13 => rfl
        case hyn13 => (intro z hSw; (try dsimp only at hSw); go_simp; (try with_reducible rfl))
        try simp only [Act.put, List.setIfInBounds_toArray, List.set_cons_zero, List.set_cons_succ]
        refine wpAnyH_ready (rs := [11]) (by kernel_rfl) (by simp) ?_
        refine AllReadyH.cons (o := ?on14) ?hin14 ?restn14 AllReadyH.nil
        case hin14 => (simp only [List.getElem?_toArray, List.getElem?_cons_succ, List.getElem?_cons_zero]; exact rfl)
        intro K hK
        go_simp
        obtain ⟨y3, hwy3⟩ : ∃ W, W = y2.alloc (.cells #[.slice none 0 0, .slice none 0 0] 29) := ⟨_, rfl⟩
        have hgy3 : Grew y2 y3 := by rw [hwy3]; exact (Grew.refl _).alloc _
        have hy3 : Grew w1 y3 := hy2.trans hgy3
        have hblk : y3.heap[y2.heap.size]? = some (.cells #[.slice none 0 0, .slice none 0 0] 29 (0, 0)) := by rw [hwy3]; exact blk_new _ _
        have hge : w1.heap.size ≤ y2.heap.size := hy2.size
        try simp only [← hwy3]
        clear hwy3
        replace hu5 := hu5.grew hgy3
        replace hu6 := hu6.grew hgy3
        have hc0 : y3.cell? ⟨y2.heap.size, 0, none⟩ = some (.slice none 0 0) := by rw [blk_cell hblk]; rfl
        have hc1 : y3.cell? ⟨y2.heap.size, 1, none⟩ = some (.slice none 0 0) := by rw [blk_cell hblk]; rfl
        have hf0 := blk_frozen hblk 0
        have hf1 := blk_frozen hblk 1
        refine hK.out _ _ ?_ (fun hHeld => ?_)
        · (try dsimp only); first | with_reducible assumption | exact hy3
        clear hK K
        try simp only [Act.put, List.setIfInBounds_toArray, List.set_cons_zero, List.set_cons_succ]
        refine wpAnyH_ready (rs := [12]) (by kernel_rfl) (by simp) ?_
        refine AllReadyH.cons (o := ?on15) ?hin15 ?restn15 AllReadyH.nil
        case hin15 => (simp only [List.getElem?_toArray, List.getElem?_cons_succ, List.getElem?_cons_zero]; exact rfl)
        intro K hK
        go_simp
        refine hK.out _ _ ?_ (fun hHeld => ?_)
        · (try dsimp only); first | with_reducible assumption | exact Grew.setCell (Grew.setCell hy3 hge _) hge _
        clear hK K
        try simp only [Act.put, List.setIfInBounds_toArray, List.set_cons_zero, List.set_cons_succ]
        refine wpAnyH_done (by kernel_rfl) ?_ _
        go_wp2_with fail
        go_meet
        exact ⟨y2.heap.size, rfl, hge, ⟨_, _, _, _, _, _, blk_set (blk_set hblk 0 _) 1 _, strs_only hu5 hblk (no_str _ _ ⟨_, _, _, rfl⟩ ⟨_, _, _, rfl⟩) (((Only.refl _ _).setCell _).setCell _), strs_only hu6 hblk (no_str _ _ ⟨_, _, _, rfl⟩ ⟨_, _, _, rfl⟩) (((Only.refl _ _).setCell _).setCell _)⟩, Grew.setCell (Grew.setCell hy3 hge _) hge _⟩
      case restn12 =>
        intro K hK
        go_simp
        obtain ⟨y2, hwy2⟩ : ∃ W, W = y1.alloc (.cells #[.slice none 0 0, .slice none 0 0] 29) := ⟨_, rfl⟩
        have hgy2 : Grew y1 y2 := by rw [hwy2]; exact (Grew.refl _).alloc _
        have hy2 : Grew w1 y2 := hy1.trans hgy2
        have hblk : y2.heap[y1.heap.size]? = some (.cells #[.slice none 0 0, .slice none 0 0] 29 (0, 0)) := by rw [hwy2]; exact blk_new _ _
        have hge : w1.heap.size ≤ y1.heap.size := hy1.size
        try simp only [← hwy2]
        clear hwy2
        replace hu5 := hu5.grew hgy2
        have hc0 : y2.cell? ⟨y1.heap.size, 0, none⟩ = some (.slice none 0 0) := by rw [blk_cell hblk]; rfl
        have hc1 : y2.cell? ⟨y1.heap.size, 1, none⟩ = some (.slice none 0 0) := by rw [blk_cell hblk]; rfl
        have hf0 := blk_frozen hblk 0
        have hf1 := blk_frozen hblk 1
        refine hK.out _ _ ?_ (fun hHeld => ?_)
        · (try dsimp only); first | with_reducible assumption | exact hy2
        clear hK K
        try simp only [Act.put, List.setIfInBounds_toArray, List.set_cons_zero, List.set_cons_succ]
        refine wpAnyH_ready (rs := [9]) (by kernel_rfl) (by simp) ?_
        refine AllReadyH.cons (o := ?on16) ?hin16 ?restn16 AllReadyH.nil
        case hin16 => (simp only [List.getElem?_toArray, List.getElem?_cons_succ, List.getElem?_cons_zero]; exact rfl)
        intro K hK
        go_simp
        go_at_call 55
        refine (K6.out _ (HG1.out.trans hy2)).mono ?_
        rintro e y3 ⟨u6, rfl, hu6, hgy3⟩
        have hy3 : Grew w1 y3 := hy2.trans hgy3
        obtain ⟨A6, d6, rfl⟩ := strs_slice hu6
        replace hu5 := hu5.grew hgy3
        replace hblk := (hgy3.block (blk_lt hblk)).trans hblk
        clear hc0 hc1 hf0 hf1
        have hc0 : y3.cell? ⟨y1.heap.size, 0, none⟩ = some (.slice none 0 0) := by rw [blk_cell hblk]; rfl
        have hc1 : y3.cell? ⟨y1.heap.size, 1, none⟩ = some (.slice none 0 0) := by rw [blk_cell hblk]; rfl
        have hf0 := blk_frozen hblk 0
        have hf1 := blk_frozen hblk 1
        refine hK.out _ _ ?_ (fun hHeld => ?_)
        · (try dsimp only); first | with_reducible assumption | exact hy3
        clear hK K
        try simp only [Act.put, List.setIfInBounds_toArray, List.set_cons_zero, List.set_cons_succ]
        refine wpAnyH_take (i := 10) (oi := ?on17) (v := ?vn17) ?hin17 ?an17 ?bn17 ?cn17 ?qn17 (Or.inl ⟨?dn17, ?hyn17⟩) hHeld ?restn17
        case hin17 => (simp only [List.getElem?_toArray, List.getElem?_cons_succ, List.getElem?_cons_zero]; exact rfl)
        case an17 => kernel_rfl
        case bn17 => kernel_rfl
        case cn17 => kernel_rfl
        case qn17 => exact fun _ _ _ h => h
        case dn17 => rfl
        case hyn17 => (intro z hSw; (try dsimp only at hSw); go_simp; (try with_reducible rfl))
        try simp only [Act.put, List.setIfInBounds_toArray, List.set_cons_zero, List.set_cons_succ]
        refine wpAnyH_ready (rs := [12]) (by kernel_rfl) (by simp) ?_
        refine AllReadyH.cons (o := ?on18) ?hin18 ?restn18 AllReadyH.nil
        case hin18 => (simp only [List.getElem?_toArray, List.getElem?_cons_succ, List.getElem?_cons_zero]; exact rfl)
        intro K hK
        go_simp
        refine hK.out _ _ ?_ (fun hHeld => ?_)
        · (try dsimp only); first | with_reducible assumption | exact Grew.setCell (Grew.setCell hy3 hge _) hge _
        clear hK K
        try simp only [Act.put, List.setIfInBounds_toArray, List.set_cons_zero, List.set_cons_succ]
        refine wpAnyH_done (by kernel_rfl) ?_ _
        go_wp2_with fail
        go_meet
        exact ⟨y1.heap.size, rfl, hge, ⟨_, _, _, _, _, _, blk_set (blk_set hblk 0 _) 1 _, strs_only hu5 hblk (no_str _ _ ⟨_, _, _, rfl⟩ ⟨_, _, _, rfl⟩) (((Only.refl _ _).setCell _).setCell _), strs_only hu6 hblk (no_str _ _ ⟨_, _, _, rfl⟩ ⟨_, _, _, rfl⟩) (((Only.refl _ _).setCell _).setCell _)⟩, Grew.setCell (Grew.setCell hy3 hge _) hge _⟩
    case restn10 =>
      intro K hK
      go_simp
      obtain ⟨y1, hwy1⟩ : ∃ W, W = (w1.alloc (.cells #[.slice none 0 0, .slice none 0 0] 29)).drew := ⟨_, rfl⟩
      have hgy1 : Grew w1 y1 := by rw [hwy1]; exact ((Grew.refl _).alloc _).drew
      have hy1 : Grew w1 y1 := hgy1
      have hblk : y1.heap[w1.heap.size]? = some (.cells #[.slice none 0 0, .slice none 0 0] 29 (0, 0)) := by rw [hwy1]; exact blk_new _ _
      have hge : w1.heap.size ≤ w1.heap.size := Nat.le_refl _
      try simp only [← hwy1]
      clear hwy1
      have hc0 : y1.cell? ⟨w1.heap.size, 0, none⟩ = some (.slice none 0 0) := by rw [blk_cell hblk]; rfl
      have hc1 : y1.cell? ⟨w1.heap.size, 1, none⟩ = some (.slice none 0 0) := by rw [blk_cell hblk]; rfl
      have hf0 := blk_frozen hblk 0
      have hf1 := blk_frozen hblk 1
      refine hK.out _ _ ?_ (fun hHeld => ?_)
      · (try dsimp only); first | with_reducible assumption | exact hy1
      clear hK K
      try simp only [Act.put, List.setIfInBounds_toArray, List.set_cons_zero, List.set_cons_succ]
      refine wpAnyH_ready (rs := [4]) (by kernel_rfl) (by simp) ?_
      refine AllReadyH.cons (o := ?on19) ?hin19 ?restn19 AllReadyH.nil
      case hin19 => (simp only [List.getElem?_toArray, List.getElem?_cons_succ, List.getElem?_cons_zero]; exact rfl)
      intro K hK
      go_simp
      go_at_call 55
      refine (K5.out _ (HG1.out.trans hy1)).mono ?_
      rintro e y2 ⟨u5, rfl, hu5, hgy2⟩
      have hy2 : Grew w1 y2 := hy1.trans hgy2
      obtain ⟨A5, d5, rfl⟩ := strs_slice hu5
      replace hblk := (hgy2.block (blk_lt hblk)).trans hblk
      clear hc0 hc1 hf0 hf1
      have hc0 : y2.cell? ⟨w1.heap.size, 0, none⟩ = some (.slice none 0 0) := by rw [blk_cell hblk]; rfl
      have hc1 : y2.cell? ⟨w1.heap.size, 1, none⟩ = some (.slice none 0 0) := by rw [blk_cell hblk]; rfl
      have hf0 := blk_frozen hblk 0
      have hf1 := blk_frozen hblk 1
      refine hK.out _ _ ?_ (fun hHeld => ?_)
      · (try dsimp only); first | with_reducible assumption | exact hy2
      clear hK K
      try simp only [Act.put, List.setIfInBounds_toArray, List.set_cons_zero, List.set_cons_succ]
      refine wpAnyH_ready (rs := [9]) (by kernel_rfl) (by simp) ?_
      refine AllReadyH.cons (o := ?on20) ?hin20 ?restn20 AllReadyH.nil
      case hin20 => (simp only [List.getElem?_toArray, List.getElem?_cons_succ, List.getElem?_cons_zero]; exact rfl)
      intro K hK
      go_simp
      go_at_call 55
      refine (K6.out _ (HG1.out.trans hy2)).mono ?_
      rintro e y3 ⟨u6, rfl, hu6, hgy3⟩
      have hy3 : Grew w1 y3 := hy2.trans hgy3
      obtain ⟨A6, d6, rfl⟩ := strs_slice hu6
      replace hu5 := hu5.grew hgy3
      replace hblk := (hgy3.block (blk_lt hblk)).trans hblk
      clear hc0 hc1 hf0 hf1
      have hc0 : y3.cell? ⟨w1.heap.size, 0, none⟩ = some (.slice none 0 0) := by rw [blk_cell hblk]; rfl
      have hc1 : y3.cell? ⟨w1.heap.size, 1, none⟩ = some (.slice none 0 0) := by rw [blk_cell hblk]; rfl
      have hf0 := blk_frozen hblk 0
      have hf1 := blk_frozen hblk 1
      refine hK.out _ _ ?_ (fun hHeld => ?_)
      · (try dsimp only); first | with_reducible assumption | exact hy3
      clear hK K
      try simp only [Act.put, List.setIfInBounds_toArray, List.set_cons_zero, List.set_cons_succ]
      refine wpAnyH_take (i := 10) (oi := ?on21) (v := ?vn21) ?hin21 ?an21 ?bn21 ?cn21 ?qn21 (Or.inl ⟨?dn21, ?hyn21⟩) hHeld ?restn21
      case hin21 => (simp only [List.getElem?_toArray, List.getElem?_cons_succ, List.getElem?_cons_zero]; exact rfl)
      case an21 => kernel_rfl
      case bn21 => kernel_rfl
      case cn21 => kernel_rfl
      case qn21 => exact fun _ _ _ h => h
      case dn21 => rfl
      case hyn21 => (intro z hSw; (try dsimp only at hSw); go_simp; (try with_reducible rfl))
      try simp only [Act.put, List.setIfInBounds_toArray, List.set_cons_zero, List.set_cons_succ]
      refine wpAnyH_ready (rs := [12]) (by kernel_rfl) (by simp) ?_
      refine AllReadyH.cons (o := ?on22) ?hin22 ?restn22 AllReadyH.nil
      case hin22 => (simp only [List.getElem?_toArray, List.getElem?_cons_succ, List.getElem?_cons_zero]; exact rfl)
      intro K hK
      go_simp
      refine hK.out _ _ ?_ (fun hHeld => ?_)
      · (try dsimp only); first | with_reducible assumption | exact Grew.setCell (Grew.setCell hy3 hge _) hge _
      clear hK K
      try simp only [Act.put, List.setIfInBounds_toArray, List.set_cons_zero, List.set_cons_succ]
      refine wpAnyH_done (by kernel_rfl) ?_ _
      go_wp2_with fail
      go_meet
      exact ⟨w1.heap.size, rfl, hge, ⟨_, _, _, _, _, _, blk_set (blk_set hblk 0 _) 1 _, strs_only hu5 hblk (no_str _ _ ⟨_, _, _, rfl⟩ ⟨_, _, _, rfl⟩) (((Only.refl _ _).setCell _).setCell _), strs_only hu6 hblk (no_str _ _ ⟨_, _, _, rfl⟩ ⟨_, _, _, rfl⟩) (((Only.refl _ _).setCell _).setCell _)⟩, Grew.setCell (Grew.setCell hy3 hge _) hge _⟩
  case rest =>
    obtain ⟨g, rfl, hge, hpr, hgc⟩ := hcut
    have HSit : Hid (Sit w wc g C5 C6) := Lib.hid ⟨hpr, (hgc.block (blk_lt HB1.out)).trans HB1.out, HG1.out.trans hgc, by have := HS1.out; omega⟩
    have HLE : Hid (w.heap.size + 2 ≤ wc.heap.size) := Lib.hid (by have := HS1.out; have := hgc.size; omega)
    clear hpr hgc hge K5 K6 p0 p1 HG1 HB1 hr1 hd1
    cases hme : m.toList.isEmpty with
    | true =>
      obtain ⟨Ba, ma, da, Ea, ka, ea, hgba, hsla, hsra⟩ := HSit.out.1
      have hrba := HSit.out.2.1
      have f0a : wc.cell? ⟨g, 0, none⟩ = some (.slice Ba ma da) := by rw [blk_cell hgba]; rfl
      have f1a : wc.cell? ⟨g, 1, none⟩ = some (.slice Ea ka ea) := by rw [blk_cell hgba]; rfl
      have HLa := Lib.hid hsla
      have HRa := Lib.hid hsra
      clear hsla hsra
      have r0a : wc.cell? ⟨w.heap.size + 1, 0, none⟩ = some (.slice none 0 0) := by rw [blk_cell hrba]; rfl
      have r1a : wc.cell? ⟨w.heap.size + 1, 1, none⟩ = some (.slice none 0 0) := by rw [blk_cell hrba]; rfl
      have z0a := blk_frozen hrba 0
      have z1a := blk_frozen hrba 1
      have HRBa := Lib.hid hrba
      clear hrba hgba
      go_wp2_with fail
      (try simp only [Exit.inBlock, Exit.then])
      refine bodyPost_ret (results_cell_row rfl _ _ (w.heap.size + 1) _ _ _ _ rfl (blk_set (blk_set HRBa.out 0 _) 1 _) Tryz.underlying29 rfl info2M) rfl ?_
      have hX := HX.out
      rw [mp_0 hme, HC5.out, HC6.out] at hX
      rw [← hX]
      exact HSit.out.fin HLa.out HRa.out
    | false =>
    obtain ⟨hgm, hk56, hmz⟩ := HM.out.resolve_left (by rw [hme]; simp)
    obtain ⟨e1, e2, e3⟩ := fg_ok hgm
    have KP := Lib.hid (fun W => parsed_c m W (by omega))
    rw [e1] at KP
    have hat : Fm.enc (fg m) = (kindOf (fg m), 0) :: (Fm.enc (pl1 (fg m)) ++ []) := one_of_kind hk56
    have hpl : (Fm.enc (pl1 (fg m))).length ≤ 40 := by rw [hat] at e3; simp at e3; omega
    have HAT := Lib.hid hat
    have hp1 : p1S m = tx (pl1 (fg m)) := rfl
    have HP1 := Lib.hid hp1
    clear hat hp1 HM hgm e1 e2 hmz
    go_wp2_with fail
    refine (KP.out _).mono ?_
    rintro e v1 ⟨va, rfl, hn1, hgv1, hz1⟩
    clear hz1
    have HN1 := Lib.hid hn1.nodes
    obtain ⟨ba, oa, ca, rfl, hca, hcm, hk0⟩ := nodes_head hn1.nodes
    have H1 := Lib.hid (HSit.out.grew hgv1)
    have HBA := Lib.hid (show g < ba from by have h1 : wc.heap.size ≤ ba := own_of_ge hn1 rfl; obtain ⟨_, _, _, _, _, _, hb, _, _⟩ := HSit.out.1; have h2 := blk_lt hb; omega)
    have K1 := Lib.hid (first_c _ (Fm.enc (fg m)) (pl1 (fg m)) v1 HN1.out (by omega) (at_first HAT.out))
    clear hn1
    have hpos := Fm.enc_pos (fg m)
    have hpi : (0 : Int) < ((Fm.enc (fg m)).length : Int) := by omega
    go_wp2_with fail
    refine K1.out.mono ?_
    rintro e v2 ⟨u2, rfl, hn2, hgv2⟩
    have K2 := Lib.hid (text0_c (pl1 (fg m)) _ v2 hn2 (by omega))
    have e1 : bs (Fm.txt (pl1 (fg m)) 0) = tx (pl1 (fg m)) := rfl
    unfold Says at K2
    rw [e1, ← HP1.out] at K2
    clear e1 hn2
    go_wp2_with fail
    refine K2.out.mono ?_
    rintro e v3 ⟨rfl, hgv3⟩
    have H3 := Lib.hid (H1.out.grew (hgv2.trans hgv3))
    have kk0 := fun W (hW : Grew v3 W) => hk0 W ((hgv2.trans hgv3).trans hW)
    have HGE : Hid (w.heap.size + 2 ≤ g) := Lib.hid HSit.out.2.2.2
    clear hk0 HSit H1 hgv1 hgv2 hgv3 K1 K2 KP HP1 HAT HN1
    have HKS : Hid (kS m = kindOf (fg m)) := Lib.hid rfl
    generalize kindOf (fg m) = kk at *
    generalize hpp : p1S m = pp at *
    have HP1 := Lib.hid hpp
    clear hpp
    have hkk : kk = 5 ∨ kk = 6 := by rw [← HKS.out]; exact hk56
    clear hk56
    rcases hkk with rfl | rfl
    · cases hgl : (lg.toList == [71, 76]) with
      | false =>
        have kk1 := kk0 _ (Grew.refl v3)
        obtain ⟨Bb, mb, db, Eb, kb, eb, hgbb, hslb, hsrb⟩ := H3.out.1
        have hrbb := H3.out.2.1
        have f0b : v3.cell? ⟨g, 0, none⟩ = some (.slice Bb mb db) := by rw [blk_cell hgbb]; rfl
        have f1b : v3.cell? ⟨g, 1, none⟩ = some (.slice Eb kb eb) := by rw [blk_cell hgbb]; rfl
        have HLb := Lib.hid hslb
        have HRb := Lib.hid hsrb
        clear hslb hsrb
        clear hgbb hrbb
        go_wp2_with fail
        refine (put_c _ _ C6 [pp] _ (HRb.out.grew ((Grew.refl _).alloc _)) (rd_lit v3 (.string pp) _) (by simp; omega)).mono ?_
        rintro e v4 ⟨ub, rfl, hob, hgvv4⟩
        clear f0b f1b
        obtain ⟨Pb, tb, rfl⟩ := strs_slice hob.strs
        have hGv4 := ((Grew.refl v3).alloc (.cells #[.string pp] 9)).trans hgvv4
        have HTv4 := Lib.hid (H3.out.grew hGv4)
        have HGWb := Lib.hid hGv4
        generalize hZb : putS (C6 ++ [pp]) = Z at *
        have HZb := Lib.hid hZb
        clear hZb
        have H4 := Lib.hid (HTv4.out.set1 hob.strs)
        obtain ⟨_, _, _, _, _, _, hgqb, _, _⟩ := HTv4.out.1
        have q0b : v4.cell? ⟨g, 1, none⟩ = some _ := (blk_cell hgqb 1).trans rfl
        have q1b := blk_frozen hgqb 1
        clear hob hgvv4 hGv4 hgqb
        clear kk1
        have hkcb : (v4.setCell ⟨g, 1, none⟩ (.slice Pb Z.length tb)).cell? ⟨ba, oa, none⟩ = some (.int .i64 5) := (((Only.refl g v4).setCell _).cell (p := ⟨ba, oa, none⟩) (cell_lt (kk0 v4 HGWb.out)) (by have := HBA.out; show ba ≠ g; omega)).trans (kk0 v4 HGWb.out)
        obtain ⟨Bc, mc, dc, Ec, kc, ec, hgbc, hslc, hsrc⟩ := H4.out.1
        have hrbc := H4.out.2.1
        have f0c : (v4.setCell ⟨g, 1, none⟩ (.slice Pb Z.length tb)).cell? ⟨g, 0, none⟩ = some (.slice Bc mc dc) := by rw [blk_cell hgbc]; rfl
        have f1c : (v4.setCell ⟨g, 1, none⟩ (.slice Pb Z.length tb)).cell? ⟨g, 1, none⟩ = some (.slice Ec kc ec) := by rw [blk_cell hgbc]; rfl
        have HLc := Lib.hid hslc
        have HRc := Lib.hid hsrc
        clear hslc hsrc
        have r0c : (v4.setCell ⟨g, 1, none⟩ (.slice Pb Z.length tb)).cell? ⟨w.heap.size + 1, 0, none⟩ = some (.slice none 0 0) := by rw [blk_cell hrbc]; rfl
        have r1c : (v4.setCell ⟨g, 1, none⟩ (.slice Pb Z.length tb)).cell? ⟨w.heap.size + 1, 1, none⟩ = some (.slice none 0 0) := by rw [blk_cell hrbc]; rfl
        have z0c := blk_frozen hrbc 0
        have z1c := blk_frozen hrbc 1
        have HRBc := Lib.hid hrbc
        clear hrbc hgbc
        go_wp2_with fail
        (try simp only [Exit.inBlock, Exit.then])
        refine bodyPost_ret (results_cell_row rfl _ _ (w.heap.size + 1) _ _ _ _ rfl (blk_set (blk_set HRBc.out 0 _) 1 _) Tryz.underlying29 rfl info2M) rfl ?_
        have hX := HX.out
        rw [mp_5n hme HKS.out hgl, HC5.out, HC6.out, HP1.out, HZb.out] at hX
        rw [← hX]
        exact H4.out.fin HLc.out HRc.out
      | true =>
        have kk1 := kk0 _ (Grew.refl v3)
        obtain ⟨Bb, mb, db, Eb, kb, eb, hgbb, hslb, hsrb⟩ := H3.out.1
        have hrbb := H3.out.2.1
        have f0b : v3.cell? ⟨g, 0, none⟩ = some (.slice Bb mb db) := by rw [blk_cell hgbb]; rfl
        have f1b : v3.cell? ⟨g, 1, none⟩ = some (.slice Eb kb eb) := by rw [blk_cell hgbb]; rfl
        have HLb := Lib.hid hslb
        have HRb := Lib.hid hsrb
        clear hslb hsrb
        clear hgbb hrbb
        go_wp2_with fail
        refine (put_c _ _ C6 [pp] _ (HRb.out.grew ((Grew.refl _).alloc _)) (rd_lit v3 (.string pp) _) (by simp; omega)).mono ?_
        rintro e v4 ⟨ub, rfl, hob, hgvv4⟩
        clear f0b f1b
        obtain ⟨Pb, tb, rfl⟩ := strs_slice hob.strs
        have hGv4 := ((Grew.refl v3).alloc (.cells #[.string pp] 9)).trans hgvv4
        have HTv4 := Lib.hid (H3.out.grew hGv4)
        have HGWb := Lib.hid hGv4
        generalize hZb : putS (C6 ++ [pp]) = Z at *
        have HZb := Lib.hid hZb
        clear hZb
        have H4 := Lib.hid (HTv4.out.set1 hob.strs)
        obtain ⟨_, _, _, _, _, _, hgqb, _, _⟩ := HTv4.out.1
        have q0b : v4.cell? ⟨g, 1, none⟩ = some _ := (blk_cell hgqb 1).trans rfl
        have q1b := blk_frozen hgqb 1
        clear hob hgvv4 hGv4 hgqb
        clear kk1
        have hkcb : (v4.setCell ⟨g, 1, none⟩ (.slice Pb Z.length tb)).cell? ⟨ba, oa, none⟩ = some (.int .i64 5) := (((Only.refl g v4).setCell _).cell (p := ⟨ba, oa, none⟩) (cell_lt (kk0 v4 HGWb.out)) (by have := HBA.out; show ba ≠ g; omega)).trans (kk0 v4 HGWb.out)
        obtain ⟨Bc, mc, dc, Ec, kc, ec, hgbc, hslc, hsrc⟩ := H4.out.1
        have hrbc := H4.out.2.1
        have f0c : (v4.setCell ⟨g, 1, none⟩ (.slice Pb Z.length tb)).cell? ⟨g, 0, none⟩ = some (.slice Bc mc dc) := by rw [blk_cell hgbc]; rfl
        have f1c : (v4.setCell ⟨g, 1, none⟩ (.slice Pb Z.length tb)).cell? ⟨g, 1, none⟩ = some (.slice Ec kc ec) := by rw [blk_cell hgbc]; rfl
        have HLc := Lib.hid hslc
        have HRc := Lib.hid hsrc
        clear hslc hsrc
        clear hgbc hrbc
        have hlitc : Strs ((v4.setCell ⟨g, 1, none⟩ (.slice Pb Z.length tb)).alloc (.cells #[.string m] 9)) (.slice (some ⟨v4.heap.size, 0, none⟩) 1 1) [m] := by have h := rd_lit (v4.setCell ⟨g, 1, none⟩ (.slice Pb Z.length tb)) (.string m) 9; rwa [World.size_setCell] at h
        have HLitc := Lib.hid hlitc
        clear hlitc
        go_wp2_with fail
        refine (put_c _ _ C5 [m] _ (HLc.out.grew ((Grew.refl _).alloc _)) HLitc.out (by simp; omega)).mono ?_
        rintro e v5 ⟨uc, rfl, hoc, hgvv5⟩
        clear f0c f1c
        obtain ⟨Pc, tc, rfl⟩ := strs_slice hoc.strs
        have hGv5 := ((Grew.refl (v4.setCell ⟨g, 1, none⟩ (.slice Pb Z.length tb))).alloc (.cells #[.string m] 9)).trans hgvv5
        have HTv5 := Lib.hid (H4.out.grew hGv5)
        have HGWc := Lib.hid hGv5
        generalize hZc : putS (C5 ++ [m]) = Y at *
        have HZc := Lib.hid hZc
        clear hZc
        have H5 := Lib.hid (HTv5.out.set0 hoc.strs)
        obtain ⟨_, _, _, _, _, _, hgqc, _, _⟩ := HTv5.out.1
        have q0c : v5.cell? ⟨g, 0, none⟩ = some _ := (blk_cell hgqc 0).trans rfl
        have q1c := blk_frozen hgqc 0
        clear hoc hgvv5 hGv5 hgqc
        clear q0b q1b hkcb
        obtain ⟨Bd, md, dd, Ed, kd, ed, hgbd, hsld, hsrd⟩ := H5.out.1
        have hrbd := H5.out.2.1
        have f0d : (v5.setCell ⟨g, 0, none⟩ (.slice Pc Y.length tc)).cell? ⟨g, 0, none⟩ = some (.slice Bd md dd) := by rw [blk_cell hgbd]; rfl
        have f1d : (v5.setCell ⟨g, 0, none⟩ (.slice Pc Y.length tc)).cell? ⟨g, 1, none⟩ = some (.slice Ed kd ed) := by rw [blk_cell hgbd]; rfl
        have HLd := Lib.hid hsld
        have HRd := Lib.hid hsrd
        clear hsld hsrd
        have r0d : (v5.setCell ⟨g, 0, none⟩ (.slice Pc Y.length tc)).cell? ⟨w.heap.size + 1, 0, none⟩ = some (.slice none 0 0) := by rw [blk_cell hrbd]; rfl
        have r1d : (v5.setCell ⟨g, 0, none⟩ (.slice Pc Y.length tc)).cell? ⟨w.heap.size + 1, 1, none⟩ = some (.slice none 0 0) := by rw [blk_cell hrbd]; rfl
        have z0d := blk_frozen hrbd 0
        have z1d := blk_frozen hrbd 1
        have HRBd := Lib.hid hrbd
        clear hrbd hgbd
        go_wp2_with fail
        (try simp only [Exit.inBlock, Exit.then])
        refine bodyPost_ret (results_cell_row rfl _ _ (w.heap.size + 1) _ _ _ _ rfl (blk_set (blk_set HRBd.out 0 _) 1 _) Tryz.underlying29 rfl info2M) rfl ?_
        have hX := HX.out
        rw [mp_5g hme HKS.out hgl, HC5.out, HC6.out, HP1.out, HZc.out, HZb.out] at hX
        rw [← hX]
        exact H5.out.fin HLd.out HRd.out
    · cases hgl : (lg.toList == [71, 76]) with
      | false =>
        have kk1 := kk0 _ (Grew.refl v3)
        obtain ⟨Bb, mb, db, Eb, kb, eb, hgbb, hslb, hsrb⟩ := H3.out.1
        have hrbb := H3.out.2.1
        have f0b : v3.cell? ⟨g, 0, none⟩ = some (.slice Bb mb db) := by rw [blk_cell hgbb]; rfl
        have f1b : v3.cell? ⟨g, 1, none⟩ = some (.slice Eb kb eb) := by rw [blk_cell hgbb]; rfl
        have HLb := Lib.hid hslb
        have HRb := Lib.hid hsrb
        clear hslb hsrb
        clear hgbb hrbb
        go_wp2_with fail
        refine (put_c _ _ C5 [pp] _ (HLb.out.grew ((Grew.refl _).alloc _)) (rd_lit v3 (.string pp) _) (by simp; omega)).mono ?_
        rintro e v4 ⟨ub, rfl, hob, hgvv4⟩
        clear f0b f1b
        obtain ⟨Pb, tb, rfl⟩ := strs_slice hob.strs
        have hGv4 := ((Grew.refl v3).alloc (.cells #[.string pp] 9)).trans hgvv4
        have HTv4 := Lib.hid (H3.out.grew hGv4)
        have HGWb := Lib.hid hGv4
        generalize hZb : putS (C5 ++ [pp]) = Z at *
        have HZb := Lib.hid hZb
        clear hZb
        have H4 := Lib.hid (HTv4.out.set0 hob.strs)
        obtain ⟨_, _, _, _, _, _, hgqb, _, _⟩ := HTv4.out.1
        have q0b : v4.cell? ⟨g, 0, none⟩ = some _ := (blk_cell hgqb 0).trans rfl
        have q1b := blk_frozen hgqb 0
        clear hob hgvv4 hGv4 hgqb
        clear kk1
        have hkcb : (v4.setCell ⟨g, 0, none⟩ (.slice Pb Z.length tb)).cell? ⟨ba, oa, none⟩ = some (.int .i64 6) := (((Only.refl g v4).setCell _).cell (p := ⟨ba, oa, none⟩) (cell_lt (kk0 v4 HGWb.out)) (by have := HBA.out; show ba ≠ g; omega)).trans (kk0 v4 HGWb.out)
        obtain ⟨Bc, mc, dc, Ec, kc, ec, hgbc, hslc, hsrc⟩ := H4.out.1
        have hrbc := H4.out.2.1
        have f0c : (v4.setCell ⟨g, 0, none⟩ (.slice Pb Z.length tb)).cell? ⟨g, 0, none⟩ = some (.slice Bc mc dc) := by rw [blk_cell hgbc]; rfl
        have f1c : (v4.setCell ⟨g, 0, none⟩ (.slice Pb Z.length tb)).cell? ⟨g, 1, none⟩ = some (.slice Ec kc ec) := by rw [blk_cell hgbc]; rfl
        have HLc := Lib.hid hslc
        have HRc := Lib.hid hsrc
        clear hslc hsrc
        have r0c : (v4.setCell ⟨g, 0, none⟩ (.slice Pb Z.length tb)).cell? ⟨w.heap.size + 1, 0, none⟩ = some (.slice none 0 0) := by rw [blk_cell hrbc]; rfl
        have r1c : (v4.setCell ⟨g, 0, none⟩ (.slice Pb Z.length tb)).cell? ⟨w.heap.size + 1, 1, none⟩ = some (.slice none 0 0) := by rw [blk_cell hrbc]; rfl
        have z0c := blk_frozen hrbc 0
        have z1c := blk_frozen hrbc 1
        have HRBc := Lib.hid hrbc
        clear hrbc hgbc
        go_wp2_with fail
        (try simp only [Exit.inBlock, Exit.then])
        refine bodyPost_ret (results_cell_row rfl _ _ (w.heap.size + 1) _ _ _ _ rfl (blk_set (blk_set HRBc.out 0 _) 1 _) Tryz.underlying29 rfl info2M) rfl ?_
        have hX := HX.out
        rw [mp_6n hme HKS.out hgl, HC5.out, HC6.out, HP1.out, HZb.out] at hX
        rw [← hX]
        exact H4.out.fin HLc.out HRc.out
      | true =>
        have kk1 := kk0 _ (Grew.refl v3)
        obtain ⟨Bb, mb, db, Eb, kb, eb, hgbb, hslb, hsrb⟩ := H3.out.1
        have hrbb := H3.out.2.1
        have f0b : v3.cell? ⟨g, 0, none⟩ = some (.slice Bb mb db) := by rw [blk_cell hgbb]; rfl
        have f1b : v3.cell? ⟨g, 1, none⟩ = some (.slice Eb kb eb) := by rw [blk_cell hgbb]; rfl
        have HLb := Lib.hid hslb
        have HRb := Lib.hid hsrb
        clear hslb hsrb
        clear hgbb hrbb
        go_wp2_with fail
        refine (put_c _ _ C5 [pp] _ (HLb.out.grew ((Grew.refl _).alloc _)) (rd_lit v3 (.string pp) _) (by simp; omega)).mono ?_
        rintro e v4 ⟨ub, rfl, hob, hgvv4⟩
        clear f0b f1b
        obtain ⟨Pb, tb, rfl⟩ := strs_slice hob.strs
        have hGv4 := ((Grew.refl v3).alloc (.cells #[.string pp] 9)).trans hgvv4
        have HTv4 := Lib.hid (H3.out.grew hGv4)
        have HGWb := Lib.hid hGv4
        generalize hZb : putS (C5 ++ [pp]) = Z at *
        have HZb := Lib.hid hZb
        clear hZb
        have H4 := Lib.hid (HTv4.out.set0 hob.strs)
        obtain ⟨_, _, _, _, _, _, hgqb, _, _⟩ := HTv4.out.1
        have q0b : v4.cell? ⟨g, 0, none⟩ = some _ := (blk_cell hgqb 0).trans rfl
        have q1b := blk_frozen hgqb 0
        clear hob hgvv4 hGv4 hgqb
        clear kk1
        have hkcb : (v4.setCell ⟨g, 0, none⟩ (.slice Pb Z.length tb)).cell? ⟨ba, oa, none⟩ = some (.int .i64 6) := (((Only.refl g v4).setCell _).cell (p := ⟨ba, oa, none⟩) (cell_lt (kk0 v4 HGWb.out)) (by have := HBA.out; show ba ≠ g; omega)).trans (kk0 v4 HGWb.out)
        obtain ⟨Bc, mc, dc, Ec, kc, ec, hgbc, hslc, hsrc⟩ := H4.out.1
        have hrbc := H4.out.2.1
        have f0c : (v4.setCell ⟨g, 0, none⟩ (.slice Pb Z.length tb)).cell? ⟨g, 0, none⟩ = some (.slice Bc mc dc) := by rw [blk_cell hgbc]; rfl
        have f1c : (v4.setCell ⟨g, 0, none⟩ (.slice Pb Z.length tb)).cell? ⟨g, 1, none⟩ = some (.slice Ec kc ec) := by rw [blk_cell hgbc]; rfl
        have HLc := Lib.hid hslc
        have HRc := Lib.hid hsrc
        clear hslc hsrc
        clear hgbc hrbc
        have hlitc : Strs ((v4.setCell ⟨g, 0, none⟩ (.slice Pb Z.length tb)).alloc (.cells #[.string m] 9)) (.slice (some ⟨v4.heap.size, 0, none⟩) 1 1) [m] := by have h := rd_lit (v4.setCell ⟨g, 0, none⟩ (.slice Pb Z.length tb)) (.string m) 9; rwa [World.size_setCell] at h
        have HLitc := Lib.hid hlitc
        clear hlitc
        go_wp2_with fail
        refine (put_c _ _ C6 [m] _ (HRc.out.grew ((Grew.refl _).alloc _)) HLitc.out (by simp; omega)).mono ?_
        rintro e v5 ⟨uc, rfl, hoc, hgvv5⟩
        clear f0c f1c
        obtain ⟨Pc, tc, rfl⟩ := strs_slice hoc.strs
        have hGv5 := ((Grew.refl (v4.setCell ⟨g, 0, none⟩ (.slice Pb Z.length tb))).alloc (.cells #[.string m] 9)).trans hgvv5
        have HTv5 := Lib.hid (H4.out.grew hGv5)
        have HGWc := Lib.hid hGv5
        generalize hZc : putS (C6 ++ [m]) = Y at *
        have HZc := Lib.hid hZc
        clear hZc
        have H5 := Lib.hid (HTv5.out.set1 hoc.strs)
        obtain ⟨_, _, _, _, _, _, hgqc, _, _⟩ := HTv5.out.1
        have q0c : v5.cell? ⟨g, 1, none⟩ = some _ := (blk_cell hgqc 1).trans rfl
        have q1c := blk_frozen hgqc 1
        clear hoc hgvv5 hGv5 hgqc
        clear q0b q1b hkcb
        obtain ⟨Bd, md, dd, Ed, kd, ed, hgbd, hsld, hsrd⟩ := H5.out.1
        have hrbd := H5.out.2.1
        have f0d : (v5.setCell ⟨g, 1, none⟩ (.slice Pc Y.length tc)).cell? ⟨g, 0, none⟩ = some (.slice Bd md dd) := by rw [blk_cell hgbd]; rfl
        have f1d : (v5.setCell ⟨g, 1, none⟩ (.slice Pc Y.length tc)).cell? ⟨g, 1, none⟩ = some (.slice Ed kd ed) := by rw [blk_cell hgbd]; rfl
        have HLd := Lib.hid hsld
        have HRd := Lib.hid hsrd
        clear hsld hsrd
        have r0d : (v5.setCell ⟨g, 1, none⟩ (.slice Pc Y.length tc)).cell? ⟨w.heap.size + 1, 0, none⟩ = some (.slice none 0 0) := by rw [blk_cell hrbd]; rfl
        have r1d : (v5.setCell ⟨g, 1, none⟩ (.slice Pc Y.length tc)).cell? ⟨w.heap.size + 1, 1, none⟩ = some (.slice none 0 0) := by rw [blk_cell hrbd]; rfl
        have z0d := blk_frozen hrbd 0
        have z1d := blk_frozen hrbd 1
        have HRBd := Lib.hid hrbd
        clear hrbd hgbd
        go_wp2_with fail
        (try simp only [Exit.inBlock, Exit.then])
        refine bodyPost_ret (results_cell_row rfl _ _ (w.heap.size + 1) _ _ _ _ rfl (blk_set (blk_set HRBd.out 0 _) 1 _) Tryz.underlying29 rfl info2M) rfl ?_
        have hX := HX.out
        rw [mp_6g hme HKS.out hgl, HC5.out, HC6.out, HP1.out, HZb.out, HZc.out] at hX
        rw [← hX]
        exact H5.out.fin HLd.out HRd.out
end Go.Proofs.YtjcehejnolbkgaaGreat

/- Lists of sequents in memory; isReflexive. -/
namespace Go.Proofs.YtjcehejnolbkgaaGreat
open Go.RowKit
open Fm (Nd Tree)

/-- The value reads as the list of sequents. -/
def RdM (w : World) (v : Value) (xs : List Ms) : Prop := (v = .slice none 0 0 ∧ xs = []) ∨ ∃ b o c, v = .slice (some ⟨b, o, none⟩) xs.length c ∧ xs.length ≤ c ∧ c ≤ 9223372036854775807 ∧ b < w.heap.size ∧
  ∀ i x, xs[i]? = some x → ∃ A1 n1 c1 A2 n2 c2, (w.cell? ⟨b, o + i * 2, none⟩ = some (.slice A1 n1 c1) ∧ w.cell? ⟨b, o + i * 2 + 1, none⟩ = some (.slice A2 n2 c2)) ∧ Strs w (.slice A1 n1 c1) x.1 ∧ Strs w (.slice A2 n2 c2) x.2
theorem RdM.grew {w w' : World} {v : Value} {xs : List Ms} (h : RdM w v xs) (hg : Grew w w') : RdM w' v xs := by
  rcases h with h | ⟨b, o, c, h1, h2, h3, h4, h5⟩
  · exact .inl h
  · refine .inr ⟨b, o, c, h1, h2, h3, Nat.lt_of_lt_of_le h4 hg.size, fun i x hx => ?_⟩
    obtain ⟨A1, n1, c1, A2, n2, c2, ⟨k1, k2⟩, k3, k4⟩ := h5 i x hx
    exact ⟨A1, n1, c1, A2, n2, c2, ⟨(hg.cell (p := ⟨b, o + i * 2, none⟩) h4).trans k1, (hg.cell (p := ⟨b, o + i * 2 + 1, none⟩) h4).trans k2⟩, k3.grew hg, k4.grew hg⟩
theorem rdM_nil (w : World) : RdM w (.slice none 0 0) [] := .inl ⟨rfl, rfl⟩
theorem rdM_one {w : World} {g : Nat} {t : TypeId} {A1 A2 : Option Addr} {n1 c1 n2 c2 : Nat} {x : Ms} (h : w.heap[g]? = some (.cells #[.slice A1 n1 c1, .slice A2 n2 c2] t (0, 0))) (h1 : Strs w (.slice A1 n1 c1) x.1) (h2 : Strs w (.slice A2 n2 c2) x.2) :
    RdM w (.slice (some ⟨g, 0, none⟩) 1 1) [x] := by
  refine .inr ⟨g, 0, 1, rfl, by simp, by omega, blk_lt h, fun i y hy => ?_⟩
  have hi : i = 0 := by have := (List.getElem?_eq_some_iff.1 hy).1; simp at this; omega
  subst hi
  obtain rfl : x = y := by simpa using hy
  exact ⟨A1, n1, c1, A2, n2, c2, ⟨by rw [blk_cell h]; rfl, by rw [blk_cell h]; rfl⟩, h1, h2⟩
theorem rdM_two {w : World} {g : Nat} {t : TypeId} {A1 A2 B1 B2 : Option Addr} {n1 c1 n2 c2 m1 d1 m2 d2 : Nat} {x y : Ms} (h : w.heap[g]? = some (.cells #[.slice A1 n1 c1, .slice A2 n2 c2, .slice B1 m1 d1, .slice B2 m2 d2] t (0, 0))) (h1 : Strs w (.slice A1 n1 c1) x.1) (h2 : Strs w (.slice A2 n2 c2) x.2) (h3 : Strs w (.slice B1 m1 d1) y.1) (h4 : Strs w (.slice B2 m2 d2) y.2) :
    RdM w (.slice (some ⟨g, 0, none⟩) 2 2) [x, y] := by
  refine .inr ⟨g, 0, 2, rfl, by simp, by omega, blk_lt h, fun i z hz => ?_⟩
  have hi : i < 2 := by have := (List.getElem?_eq_some_iff.1 hz).1; simpa using this
  match i, hi with
  | 0, _ =>
    obtain rfl : x = z := by simpa using hz
    exact ⟨A1, n1, c1, A2, n2, c2, ⟨by rw [blk_cell h]; rfl, by rw [blk_cell h]; rfl⟩, h1, h2⟩
  | 1, _ =>
    obtain rfl : y = z := by simpa using hz
    exact ⟨B1, m1, d1, B2, m2, d2, ⟨by rw [blk_cell h]; rfl, by rw [blk_cell h]; rfl⟩, h3, h4⟩
/-- Premises, and whether the rule fits. -/
def GivesPm (w : World) (x : List Ms × Bool) (e : Ending) (w' : World) : Prop := ∃ A n c, e = .returned (.tuple #[.slice A n c, .bool x.2]) ∧ (x.2 = true → RdM w' (.slice A n c) x.1) ∧ Grew w w'
theorem isReflexive_c (lg : ByteArray) (w : World) : Calls Tryz.prog 63 #[.string lg] w fun e w' => e = .returned (.bool (rfx lg)) ∧ Grew w w' := by
  unfold rfx isLg
  have r0 := Grew.refl w
  cases h1 : (lg.toList == [84]) with
  | true =>
    go_enter Tryz.func63, Tryz.ntmps63
    go_wp2_with fail
    go_ret
    exact ⟨rfl, r0⟩
  | false =>
  cases h2 : (lg.toList == [83, 52]) with
  | true =>
    go_enter Tryz.func63, Tryz.ntmps63
    go_wp2_with fail
    go_ret
    exact ⟨rfl, r0⟩
  | false =>
  cases h3 : (lg.toList == [83, 53]) with
  | true =>
    go_enter Tryz.func63, Tryz.ntmps63
    go_wp2_with fail
    go_ret
    exact ⟨rfl, r0⟩
  | false =>
    go_enter Tryz.func63, Tryz.ntmps63
    go_wp2_with fail
    go_ret
    exact ⟨rfl, r0⟩
/-- A literal of one text. -/
theorem lit_str {w W : World} {g : Nat} {s : ByteArray} {t : TypeId} (h : w.heap[g]? = some (.cells #[.string s] t (0, 0))) (hg : Grew w W) : Strs W (.slice (some ⟨g, 0, none⟩) 1 1) [s] := by
  refine Strs.grew (w := w) ⟨rfl, by simp, .inr ⟨g, 0, 1, rfl, by simp, by omega, blk_lt h, fun j u hu => ?_⟩⟩ hg
  have hj : j = 0 := by have := (List.getElem?_eq_some_iff.1 hu).1; simpa [scells] using this
  subst hj
  rw [blk_cell h]
  simpa [scells] using hu
end Go.Proofs.YtjcehejnolbkgaaGreat

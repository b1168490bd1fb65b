/- Texts in one file: Tab Axiom FaP EqN Eq LawAxiom FaQ FlI. -/
import Derived.ProofKit
import Derived.LaidMore
import Derived.OpenShut
import Derived.Lib.LaidTab
import Derived.Laws.EntriesVeiled
import Derived.Deep.RegionHeld3
import Derived.Deep.RegionLaw
import Derived.Test.YtpfncncohnhanaaGreatDoorPb1
import Derived.Test.YtpfncncohnhanaaGreatDoorPb2
set_option linter.all false

/- A table of strings that is a package-level variable: what the row's condition gives. -/
namespace Go.Proofs.YtpfncncohnhanaaGreatDoor
open Go.RowKit

def tabS {H : Type} (L : List ByteArray) : DataW H := .agg (L.map fun s => .lit (.string s.data.toList))

theorem cells_of_strs {H : Type} {enc : TypeId × Value → H} {P : Program} {w : World} {base : Nat} {sp : Nat → Bool} {held : Bool} {fuel : Nat} {t e : TypeId} {n : Nat} {cs : List Value} {L : List ByteArray} {p : List MemPlace}
    (ht : P.underlying t = some (.array n e)) (he : P.underlying e = some .string) (hce : P.cellsOf e = 1) (hct : P.cellsOf t = n)
    (h : DataW.trod enc P w base sp held fuel t cs = some (tabS L, p)) : cs = scells L := by
  obtain ⟨xs, m, _, hx, hl, hxl, hi⟩ := DataW.trod_array ht h
  rw [hct] at hl
  simp only [tabS, Prod.mk.injEq, DataW.agg.injEq] at hx
  have hLn : L.length = n := by
    have := congrArg List.length hx.1
    simp only [List.length_map] at this
    omega
  apply List.ext_getElem?
  intro i
  by_cases h1 : i < n
  · have hk := hi i h1
    rw [hce, Nat.mul_one] at hk
    have hxi : xs[i]? = some xs[i] := List.getElem?_eq_getElem (by omega)
    rw [hxi] at hk
    obtain ⟨s, hc, hs, _⟩ := DataW.trod_string he hk
    have h2 : cs[i]? = some (.string s) := by
      have := congrArg (·[0]?) hc
      simpa [List.getElem?_take, List.getElem?_drop] using this
    have h3 := congrArg (·[i]?) hx.1
    simp only [List.getElem?_map, hxi, Option.map_some, hs] at h3
    have h4 : L[i]? = some L[i] := List.getElem?_eq_getElem (by omega)
    rw [h4] at h3
    simp only [Option.map_some, Option.some.injEq, DataW.lit.injEq, Lit.string.injEq] at h3
    have h5 : L[i] = s := by
      apply ByteArray.ext
      apply Array.ext'
      exact h3
    rw [h2, scells, List.getElem?_map, h4, Option.map_some, h5]
  · rw [List.getElem?_eq_none (by omega), List.getElem?_eq_none (by rw [scells_length]; omega)]

def TabAt (w : World) (g : Nat) (L : List ByteArray) : Prop := ∃ t, w.heap[g]? = some (.cells (scells L).toArray t (0, 0))
theorem TabAt.grew {w w' : World} {g : Nat} {L : List ByteArray} (h : TabAt w g L) (hg : Grew w w') : TabAt w' g L := by
  obtain ⟨t, h⟩ := h
  exact ⟨t, (hg.block (blk_lt h)).trans h⟩
theorem TabAt.lt {w : World} {g : Nat} {L : List ByteArray} (h : TabAt w g L) : g < w.heap.size := by
  obtain ⟨t, h⟩ := h
  exact blk_lt h
theorem TabAt.cell {w : World} {g : Nat} {L : List ByteArray} (h : TabAt w g L) {i : Nat} (hi : i < L.length) : w.cell? ⟨g, i, none⟩ = some (.string (st L i)) := by
  obtain ⟨t, h⟩ := h
  rw [blk_cell h]
  have := scells_at hi
  simpa using this
theorem laid_tab {P : Program} {W : World} {name : String} {L : List ByteArray} {rest : List (String × DataW Unit)} {g : Nat} {t e : TypeId} {n : Nat} {ps : List MemPlace}
    (hg : P.globalNamed name = some g) (hty : (P.globals[g]?).map (·.type) = some t) (ht : P.underlying t = some (.array n e)) (he : P.underlying e = some .string) (hce : P.cellsOf e = 1) (hct : P.cellsOf t = n) (hn : 0 < L.length)
    (h : DataW.LaidVars P W ((name, tabS L) :: rest) ps) (hcell : ∀ b off, MemPlace.cell b off ∈ ps → (∃ c t, W.heap[b]? = some (.cells c t (0, 0))) ∧ ∀ u v, W.cell? ⟨b, off, none⟩ = some (.iface u v) → Value.okWide P W .any 0 u v) :
    W.var? P name = some (scells L).toArray ∧ TabAt W g L ∧ ∃ q, DataW.LaidVars P W rest q ∧ ∀ x ∈ q, x ∈ ps := by
  obtain ⟨g', t', cs, f, p, q, hg', ht', hv, hd, hr, hps⟩ := h
  obtain rfl := Option.some.inj (hg.symm.trans hg')
  obtain rfl := Option.some.inj (hty.symm.trans ht')
  have hc := cells_of_strs ht he hce hct hd
  have hcs : cs = (scells L).toArray := by apply Array.ext'; simpa using hc
  subst hcs
  refine ⟨hv, ?_, q, hr, fun x hx => by rw [hps]; simp [hx]⟩
  have hm : MemPlace.cell g 0 ∈ ps := by
    rw [hps]
    apply List.mem_append_left
    apply List.mem_append_left
    rw [MemPlace.mem_row]
    exact ⟨0, by simp [scells, hn], rfl⟩
  obtain ⟨⟨c, t2, hb⟩, _⟩ := hcell g 0 hm
  simp only [World.var?, hg, Option.bind_some, hb, Option.some.injEq] at hv
  exact ⟨t2, by rw [hb, hv]⟩
end Go.Proofs.YtpfncncohnhanaaGreatDoor


/- AxiomFormula, of the program and of the reference. -/
namespace Go.Proofs.YtpfncncohnhanaaGreatDoor
open Go.RowKit

def axNames : List ByteArray := [⟨#[52]⟩, ⟨#[53]⟩, ⟨#[66]⟩, ⟨#[67]⟩, ⟨#[68]⟩, ⟨#[70]⟩, ⟨#[71]⟩, ⟨#[72]⟩, ⟨#[76]⟩, ⟨#[84]⟩, ⟨#[86]⟩, ⟨#[88]⟩, ⟨#[90]⟩]
theorem axNames_len : axNames.length = 13 := rfl
set_option maxRecDepth 100000 in
theorem index_names (i : Nat) (hi : i < 13) (w : World) : (Instr.index 76 (.agg (scells axNames).toArray) (.int .i64 i)).run Tryz.prog w = .ok (.string (st axNames i)) w := by
  have h : ∀ j : Fin 13, (Instr.index 76 (.agg (scells axNames).toArray) (.int .i64 j.val)).run Tryz.prog w = .ok (.string (st axNames j.val)) w := by
    intro j
    match j with
    | 0 => rfl
    | 1 => rfl
    | 2 => rfl
    | 3 => rfl
    | 4 => rfl
    | 5 => rfl
    | 6 => rfl
    | 7 => rfl
    | 8 => rfl
    | 9 => rfl
    | 10 => rfl
    | 11 => rfl
    | 12 => rfl
  exact h ⟨i, hi⟩

end Go.Proofs.YtpfncncohnhanaaGreatDoor


/- The conditions of the axioms in the program: flagCondition and its closures. -/
namespace Go.Proofs.YtpfncncohnhanaaGreatDoor
open Go.RowKit

theorem indexHead_c (v : Value) (x : Int) (L : List Int) (f : Nat) (caps : Array Value) (w : World) (h : Ints w v (x :: L)) (hf : ∀ W, Grew w W → Calls Tryz.prog f (#[.int .i64 x] ++ caps) W fun e W' => e = .returned (.bool true) ∧ Grew W W') (eg : ∀ args w, (callFunc f args).run Tryz.prog w = .ok (.enter f args) w) :
    Calls Tryz.prog 165 #[v, .func (.func f) #[] caps] w fun e w' => e = .returned (.int .i64 0) ∧ Grew w w' := by
  obtain ⟨A, c, rfl⟩ := ints_slice h
  have HC := Lib.hid (fun h0 => cellsI h h0)
  have HF := Lib.hid (hf w (Grew.refl w))
  obtain ⟨b, o, rfl, hcell⟩ := HC.out (by simp)
  have k1 := hcell 0 (by simp) w (Grew.refl w)
  have k1 : w.cell? ⟨b, o, none⟩ = some (.int .i64 x) := k1
  have hl : 0 < (x :: L).length := by simp
  clear h hf HC hcell
  generalize (x :: L).length = n at *
  have hn : (0 : Int) < (n : Int) := by omega
  go_enter Tryz.func165, Tryz.ntmps165
  go_wp2_with fail
  refine wp_loop_rounds 1 ?_; rw [rounds_succ]
  go_wp2_with fail
  refine (HF.out).mono ?_
  rintro e w1 ⟨rfl, hg1⟩
  go_wp2_with fail
  go_ret
  exact ⟨rfl, hg1⟩
theorem containsHead_c (v : Value) (x : Int) (L : List Int) (f : Nat) (caps : Array Value) (w : World) (h : Ints w v (x :: L)) (hf : ∀ W, Grew w W → Calls Tryz.prog f (#[.int .i64 x] ++ caps) W fun e W' => e = .returned (.bool true) ∧ Grew W W') (eg : ∀ args w, (callFunc f args).run Tryz.prog w = .ok (.enter f args) w) :
    Calls Tryz.prog 129 #[v, .func (.func f) #[] caps] w fun e w' => e = .returned (.bool true) ∧ Grew w w' := by
  have HI := Lib.hid (indexHead_c v x L f caps w h hf eg)
  obtain ⟨A, c, rfl⟩ := ints_slice h
  clear h hf eg
  generalize (x :: L).length = n at *
  go_enter Tryz.func129, Tryz.ntmps129
  go_wp2_with fail
  refine HI.out.mono ?_
  rintro e w1 ⟨rfl, hg1⟩
  go_wp2_with fail
  go_ret
  exact ⟨rfl, hg1⟩
theorem flagCondition_c (v : Value) (w : World) (hv : ∃ A m c, v = .slice A m c) :
    Calls Tryz.prog 132 #[v] w fun e w' => ∃ bl, e = .returned (.func (.func 166) #[] #[.pointer (some ⟨bl, 0, none⟩)]) ∧ w'.cell? ⟨bl, 0, none⟩ = some v ∧ w.heap.size ≤ bl ∧ bl < w'.heap.size ∧ Grew w w' := by
  obtain ⟨A, m, c, rfl⟩ := hv
  have hb := blk_new w (.cells #[.slice A m c] 24)
  have hg := (Grew.refl w).alloc (.cells #[.slice A m c] 24)
  have H := Lib.hid (And.intro hb hg)
  clear hb hg
  go_enter Tryz.func132, Tryz.ntmps132
  go_wp2_with fail
  go_ret
  exact ⟨_, rfl, by rw [blk_cell H.out.1]; rfl, Nat.le_refl _, blk_lt H.out.1, H.out.2⟩
theorem flag11_k (v : Value) (n : Int) (b : Bool) (x : Int) (bf : Nat) (w : World) (hv : ∃ A m c, v = .slice A m c) (k0 : w.cell? ⟨bf, 0, none⟩ = some (.int .i64 n)) (k1 : w.cell? ⟨bf, 1, none⟩ = some v)
    (hf : Calls Tryz.prog 168 #[.agg #[.int .i64 n, v], .int .i64 x] w fun e w' => e = .returned (.bool b) ∧ Grew w w') :
    Calls Tryz.prog 167 #[.int .i64 x, .pointer (some ⟨bf, 0, none⟩)] w fun e w' => e = .returned (.bool (!b)) ∧ Grew w w' := by
  obtain ⟨A, m, c, rfl⟩ := hv
  have HF := Lib.hid hf
  clear hf
  go_enter Tryz.func167, Tryz.ntmps167
  go_wp2_with fail
  refine HF.out.mono ?_
  rintro e w1 ⟨rfl, hg1⟩
  go_wp2_with fail
  go_ret
  exact ⟨rfl, hg1⟩
theorem any_not {L : List Int} {p : Int → Bool} : (!L.any fun x => !p x) = L.all p := not_any p L
theorem flag1_all (v u : Value) (n : Int) (L : List Int) (p : Int → Bool) (bl : Nat) (w : World) (hv : ∃ A m c, v = .slice A m c) (hl : w.cell? ⟨bl, 0, none⟩ = some u) (hbl : bl < w.heap.size) (hu : Ints w u L)
    (hp : ∀ x ∈ L, ∀ W, Grew w W → Calls Tryz.prog 168 #[.agg #[.int .i64 n, v], .int .i64 x] W fun e W' => e = .returned (.bool (p x)) ∧ Grew W W') :
    Calls Tryz.prog 166 #[.agg #[.int .i64 n, v], .pointer (some ⟨bl, 0, none⟩)] w fun e w' => e = .returned (.bool (L.all p)) ∧ Grew w w' := by
  have hvs := hv
  obtain ⟨A, m, c, rfl⟩ := hv
  obtain ⟨w1, hw1⟩ : ∃ w1, w1 = w.alloc (.cells #[.int .i64 n, .slice A m c] 26) := ⟨_, rfl⟩
  have hal : Grew w w1 := by rw [hw1]; exact (Grew.refl w).alloc _
  have hb0 : w1.heap[w.heap.size]? = some (.cells #[.int .i64 n, .slice A m c] 26 (0, 0)) := by rw [hw1]; exact blk_new w _
  have eg := enters_of Tryz.func167 (by kernel_rfl) rfl
  have HC := Lib.hid (containsFuncI_c u L 167 #[.pointer (some ⟨w.heap.size, 0, none⟩)] (fun x => !p x) w1 (hu.grew hal) (fun x W hx hW => flag11_k _ n (p x) x w.heap.size W hvs (by rw [blk_cell ((hW.block (blk_lt hb0)).trans hb0)]; rfl) (by rw [blk_cell ((hW.block (blk_lt hb0)).trans hb0)]; rfl) (hp x hx W (hal.trans hW))) eg)
  have k1 := (hal.cell (p := ⟨bl, 0, none⟩) hbl).trans hl
  have HN := Lib.hid (@any_not L p)
  have HAL := Lib.hid hal
  obtain ⟨X, cx, rfl⟩ := ints_slice hu
  clear hu hp hb0 hvs hl hal eg
  generalize L.any (fun x => !p x) = R at *
  generalize L.length = l at *
  rw [hw1] at k1
  go_enter Tryz.func166, Tryz.ntmps166
  go_wp2_with fail
  simp only [← hw1]
  clear hw1 k1
  refine HC.out.mono ?_
  rintro e w2 ⟨rfl, hg2⟩
  go_wp2_with fail
  go_ret
  exact ⟨by rw [← HN.out]; rfl, HAL.out.trans hg2⟩
theorem flag1_head (v u : Value) (n : Int) (x : Int) (L : List Int) (bl : Nat) (w : World) (hv : ∃ A m c, v = .slice A m c) (hl : w.cell? ⟨bl, 0, none⟩ = some u) (hbl : bl < w.heap.size) (hu : Ints w u (x :: L))
    (hp : ∀ W, Grew w W → Calls Tryz.prog 168 #[.agg #[.int .i64 n, v], .int .i64 x] W fun e W' => e = .returned (.bool false) ∧ Grew W W') :
    Calls Tryz.prog 166 #[.agg #[.int .i64 n, v], .pointer (some ⟨bl, 0, none⟩)] w fun e w' => e = .returned (.bool false) ∧ Grew w w' := by
  have hvs := hv
  obtain ⟨A, m, c, rfl⟩ := hv
  obtain ⟨w1, hw1⟩ : ∃ w1, w1 = w.alloc (.cells #[.int .i64 n, .slice A m c] 26) := ⟨_, rfl⟩
  have hal : Grew w w1 := by rw [hw1]; exact (Grew.refl w).alloc _
  have hb0 : w1.heap[w.heap.size]? = some (.cells #[.int .i64 n, .slice A m c] 26 (0, 0)) := by rw [hw1]; exact blk_new w _
  have eg := enters_of Tryz.func167 (by kernel_rfl) rfl
  have HC := Lib.hid (containsHead_c u x L 167 #[.pointer (some ⟨w.heap.size, 0, none⟩)] w1 (hu.grew hal) (fun W hW => flag11_k _ n false x w.heap.size W hvs (by rw [blk_cell ((hW.block (blk_lt hb0)).trans hb0)]; rfl) (by rw [blk_cell ((hW.block (blk_lt hb0)).trans hb0)]; rfl) (hp W (hal.trans hW))) eg)
  have k1 := (hal.cell (p := ⟨bl, 0, none⟩) hbl).trans hl
  have HAL := Lib.hid hal
  obtain ⟨X, cx, rfl⟩ := ints_slice hu
  clear hu hp hb0 hvs hl hal eg
  generalize (x :: L).length = l at *
  rw [hw1] at k1
  go_enter Tryz.func166, Tryz.ntmps166
  go_wp2_with fail
  simp only [← hw1]
  clear hw1 k1
  refine HC.out.mono ?_
  rintro e w2 ⟨rfl, hg2⟩
  go_wp2_with fail
  go_ret
  exact ⟨rfl, HAL.out.trans hg2⟩
theorem ints_lit1 (B : Nat) (w : World) (a : Int) (hB : B ≤ w.heap.size) : OwnI (w.alloc (.cells #[.int .i64 a] 2)) B (.slice (some ⟨w.heap.size, 0, none⟩) 1 1) [a] :=
  (OwnI.mk_ hB (blk_new w _) (by simp) (by simp) (by simp) (fun i hi => by
    have : i = 0 := by simp at hi; omega
    subst this; rfl))
theorem ints_lit2 (B : Nat) (w : World) (a b : Int) (hB : B ≤ w.heap.size) : OwnI (w.alloc (.cells #[.int .i64 a, .int .i64 b] 2)) B (.slice (some ⟨w.heap.size, 0, none⟩) 2 2) [a, b] :=
  (OwnI.mk_ hB (blk_new w _) (by simp) (by simp) (by simp) (fun i hi => by
    have : i = 0 ∨ i = 1 := by simp at hi; omega
    rcases this with rfl | rfl <;> rfl))
theorem ints_lit3 (B : Nat) (w : World) (a b c : Int) (hB : B ≤ w.heap.size) : OwnI (w.alloc (.cells #[.int .i64 a, .int .i64 b, .int .i64 c] 2)) B (.slice (some ⟨w.heap.size, 0, none⟩) 3 3) [a, b, c] :=
  (OwnI.mk_ hB (blk_new w _) (by simp) (by simp) (by simp) (fun i hi => by
    have : i = 0 ∨ i = 1 ∨ i = 2 := by simp at hi; omega
    rcases this with rfl | rfl | rfl <;> rfl))
def FlagsAt (w : World) (B bl : Nat) (L : List Int) : Prop := ∃ u, w.cell? ⟨bl, 0, none⟩ = some u ∧ B ≤ bl ∧ bl < w.heap.size ∧ OwnI w B u L
theorem FlagsAt.grew {w w' : World} {B bl : Nat} {L : List Int} (h : FlagsAt w B bl L) (hg : Grew w w') : FlagsAt w' B bl L := by
  obtain ⟨u, h1, hB, h2, h3⟩ := h
  exact ⟨u, (hg.cell (p := ⟨bl, 0, none⟩) h2).trans h1, hB, Nat.lt_of_lt_of_le h2 hg.size, h3.grew hg⟩
theorem FlagsAt.only {w w' : World} {B bl g : Nat} {L : List Int} (h : FlagsAt w B bl L) (hg : Only g w w') (hB : g < B) : FlagsAt w' B bl L := by
  obtain ⟨u, h1, hB2, h2, h3⟩ := h
  exact ⟨u, (hg.cell (p := ⟨bl, 0, none⟩) h2 (by show bl ≠ g; omega)).trans h1, hB2, Nat.lt_of_lt_of_le h2 hg.size, own_only h3 hg (fun he => by have := own_of_ge h3 he; omega)⟩
theorem FlagsAt.base {w : World} {B bl : Nat} {L : List Int} (h : FlagsAt w (B + 1) bl L) : FlagsAt w B bl L := by
  obtain ⟨u, h1, hB2, h2, h3⟩ := h
  exact ⟨u, h1, by omega, h2, OwnI.base h3 (by omega)⟩
set_option maxHeartbeats 1000000 in
set_option maxRecDepth 10000 in
theorem conditions_c (w : World) : Calls Tryz.prog 91 #[] w fun e w' => ∃ b0 b1 b2 b3 b4 b5 b6 b7 b8 b9 b10, e = .returned (.agg #[.func (.func 166) #[] #[.pointer (some ⟨b0, 0, none⟩)], .func (.func 166) #[] #[.pointer (some ⟨b1, 0, none⟩)], .func (.func 166) #[] #[.pointer (some ⟨b2, 0, none⟩)], .func (.func 166) #[] #[.pointer (some ⟨b3, 0, none⟩)], .func (.func 166) #[] #[.pointer (some ⟨b4, 0, none⟩)], .func (.func 166) #[] #[.pointer (some ⟨b5, 0, none⟩)], .func (.func 166) #[] #[.pointer (some ⟨b6, 0, none⟩)], .func (.func 166) #[] #[.pointer (some ⟨b7, 0, none⟩)], .func (.func 166) #[] #[.pointer (some ⟨b8, 0, none⟩)], .func (.func 166) #[] #[.pointer (some ⟨b9, 0, none⟩)], .func (.func 133) #[] #[], .func (.func 136) #[] #[], .func (.func 166) #[] #[.pointer (some ⟨b10, 0, none⟩)]]) ∧ FlagsAt w' w.heap.size b0 [2] ∧ FlagsAt w' w.heap.size b1 [4] ∧ FlagsAt w' w.heap.size b2 [3] ∧ FlagsAt w' w.heap.size b3 [9] ∧ FlagsAt w' w.heap.size b4 [1] ∧ FlagsAt w' w.heap.size b5 [10] ∧ FlagsAt w' w.heap.size b6 [5] ∧ FlagsAt w' w.heap.size b7 [6] ∧ FlagsAt w' w.heap.size b8 [2, 7] ∧ FlagsAt w' w.heap.size b9 [0] ∧ FlagsAt w' w.heap.size b10 [0, 2, 8] ∧ Grew w w' := by
  obtain ⟨w0, hw0⟩ : ∃ w0, w0 = w.alloc (.cells #[.nilFunc, .nilFunc, .nilFunc, .nilFunc, .nilFunc, .nilFunc, .nilFunc, .nilFunc, .nilFunc, .nilFunc, .nilFunc, .nilFunc, .nilFunc] 109) := ⟨_, rfl⟩
  have g0 : Grew w0 w0 := Grew.refl w0
  have hgw : Grew w w0 := by rw [hw0]; exact (Grew.refl w).alloc _
  have hs0 : w0.heap.size = w.heap.size + 1 := by rw [hw0]; simp
  have HB := Lib.hid (show w0.heap[w.heap.size]? = some (.cells #[.nilFunc, .nilFunc, .nilFunc, .nilFunc, .nilFunc, .nilFunc, .nilFunc, .nilFunc, .nilFunc, .nilFunc, .nilFunc, .nilFunc, .nilFunc] 109 (0, 0)) by rw [hw0]; exact blk_new w _)
  have HL0 := Lib.hid (ints_lit1 (w.heap.size + 1) w0 2 (by omega))
  rw [hs0] at HL0
  go_enter Tryz.func91, Tryz.ntmps91
  go_wp2_with fail
  simp only [← hw0]
  clear hw0
  refine (flagCondition_c _ _ ⟨_, _, _, rfl⟩).mono ?_
  rintro e w1 ⟨b0, rfl, hc, hbl, hl, hg⟩
  simp only [World.size_alloc] at hbl
  have f0 := Lib.hid (show FlagsAt w1 (w.heap.size + 1) b0 [2] from ⟨_, hc, by omega, hl, (HL0.out).grew hg⟩)
  have g1 : Grew w0 w1 := g0.trans (((Grew.refl _).alloc _).trans hg)
  clear hc hbl hl hg g0
  go_wp2_with fail
  refine (flagCondition_c _ _ ⟨_, _, _, rfl⟩).mono ?_
  rintro e w2 ⟨b1, rfl, hc, hbl, hl, hg⟩
  simp only [World.size_alloc] at hbl
  have f1 := Lib.hid (show FlagsAt w2 (w.heap.size + 1) b1 [4] from ⟨_, hc, by have := g1.size; omega, hl, (ints_lit1 (w.heap.size + 1) w1 4 (by have := g1.size; omega)).grew hg⟩)
  replace f0 := Lib.hid (f0.out.grew (((Grew.refl w1).alloc _).trans hg))
  have g2 : Grew w0 w2 := g1.trans (((Grew.refl _).alloc _).trans hg)
  clear hc hbl hl hg g1
  go_wp2_with fail
  refine (flagCondition_c _ _ ⟨_, _, _, rfl⟩).mono ?_
  rintro e w3 ⟨b2, rfl, hc, hbl, hl, hg⟩
  simp only [World.size_alloc] at hbl
  have f2 := Lib.hid (show FlagsAt w3 (w.heap.size + 1) b2 [3] from ⟨_, hc, by have := g2.size; omega, hl, (ints_lit1 (w.heap.size + 1) w2 3 (by have := g2.size; omega)).grew hg⟩)
  replace f0 := Lib.hid (f0.out.grew (((Grew.refl w2).alloc _).trans hg))
  replace f1 := Lib.hid (f1.out.grew (((Grew.refl w2).alloc _).trans hg))
  have g3 : Grew w0 w3 := g2.trans (((Grew.refl _).alloc _).trans hg)
  clear hc hbl hl hg g2
  go_wp2_with fail
  refine (flagCondition_c _ _ ⟨_, _, _, rfl⟩).mono ?_
  rintro e w4 ⟨b3, rfl, hc, hbl, hl, hg⟩
  simp only [World.size_alloc] at hbl
  have f3 := Lib.hid (show FlagsAt w4 (w.heap.size + 1) b3 [9] from ⟨_, hc, by have := g3.size; omega, hl, (ints_lit1 (w.heap.size + 1) w3 9 (by have := g3.size; omega)).grew hg⟩)
  replace f0 := Lib.hid (f0.out.grew (((Grew.refl w3).alloc _).trans hg))
  replace f1 := Lib.hid (f1.out.grew (((Grew.refl w3).alloc _).trans hg))
  replace f2 := Lib.hid (f2.out.grew (((Grew.refl w3).alloc _).trans hg))
  have g4 : Grew w0 w4 := g3.trans (((Grew.refl _).alloc _).trans hg)
  clear hc hbl hl hg g3
  go_wp2_with fail
  refine (flagCondition_c _ _ ⟨_, _, _, rfl⟩).mono ?_
  rintro e w5 ⟨b4, rfl, hc, hbl, hl, hg⟩
  simp only [World.size_alloc] at hbl
  have f4 := Lib.hid (show FlagsAt w5 (w.heap.size + 1) b4 [1] from ⟨_, hc, by have := g4.size; omega, hl, (ints_lit1 (w.heap.size + 1) w4 1 (by have := g4.size; omega)).grew hg⟩)
  replace f0 := Lib.hid (f0.out.grew (((Grew.refl w4).alloc _).trans hg))
  replace f1 := Lib.hid (f1.out.grew (((Grew.refl w4).alloc _).trans hg))
  replace f2 := Lib.hid (f2.out.grew (((Grew.refl w4).alloc _).trans hg))
  replace f3 := Lib.hid (f3.out.grew (((Grew.refl w4).alloc _).trans hg))
  have g5 : Grew w0 w5 := g4.trans (((Grew.refl _).alloc _).trans hg)
  clear hc hbl hl hg g4
  go_wp2_with fail
  refine (flagCondition_c _ _ ⟨_, _, _, rfl⟩).mono ?_
  rintro e w6 ⟨b5, rfl, hc, hbl, hl, hg⟩
  simp only [World.size_alloc] at hbl
  have f5 := Lib.hid (show FlagsAt w6 (w.heap.size + 1) b5 [10] from ⟨_, hc, by have := g5.size; omega, hl, (ints_lit1 (w.heap.size + 1) w5 10 (by have := g5.size; omega)).grew hg⟩)
  replace f0 := Lib.hid (f0.out.grew (((Grew.refl w5).alloc _).trans hg))
  replace f1 := Lib.hid (f1.out.grew (((Grew.refl w5).alloc _).trans hg))
  replace f2 := Lib.hid (f2.out.grew (((Grew.refl w5).alloc _).trans hg))
  replace f3 := Lib.hid (f3.out.grew (((Grew.refl w5).alloc _).trans hg))
  replace f4 := Lib.hid (f4.out.grew (((Grew.refl w5).alloc _).trans hg))
  have g6 : Grew w0 w6 := g5.trans (((Grew.refl _).alloc _).trans hg)
  clear hc hbl hl hg g5
  go_wp2_with fail
  refine (flagCondition_c _ _ ⟨_, _, _, rfl⟩).mono ?_
  rintro e w7 ⟨b6, rfl, hc, hbl, hl, hg⟩
  simp only [World.size_alloc] at hbl
  have f6 := Lib.hid (show FlagsAt w7 (w.heap.size + 1) b6 [5] from ⟨_, hc, by have := g6.size; omega, hl, (ints_lit1 (w.heap.size + 1) w6 5 (by have := g6.size; omega)).grew hg⟩)
  replace f0 := Lib.hid (f0.out.grew (((Grew.refl w6).alloc _).trans hg))
  replace f1 := Lib.hid (f1.out.grew (((Grew.refl w6).alloc _).trans hg))
  replace f2 := Lib.hid (f2.out.grew (((Grew.refl w6).alloc _).trans hg))
  replace f3 := Lib.hid (f3.out.grew (((Grew.refl w6).alloc _).trans hg))
  replace f4 := Lib.hid (f4.out.grew (((Grew.refl w6).alloc _).trans hg))
  replace f5 := Lib.hid (f5.out.grew (((Grew.refl w6).alloc _).trans hg))
  have g7 : Grew w0 w7 := g6.trans (((Grew.refl _).alloc _).trans hg)
  clear hc hbl hl hg g6
  go_wp2_with fail
  refine (flagCondition_c _ _ ⟨_, _, _, rfl⟩).mono ?_
  rintro e w8 ⟨b7, rfl, hc, hbl, hl, hg⟩
  simp only [World.size_alloc] at hbl
  have f7 := Lib.hid (show FlagsAt w8 (w.heap.size + 1) b7 [6] from ⟨_, hc, by have := g7.size; omega, hl, (ints_lit1 (w.heap.size + 1) w7 6 (by have := g7.size; omega)).grew hg⟩)
  replace f0 := Lib.hid (f0.out.grew (((Grew.refl w7).alloc _).trans hg))
  replace f1 := Lib.hid (f1.out.grew (((Grew.refl w7).alloc _).trans hg))
  replace f2 := Lib.hid (f2.out.grew (((Grew.refl w7).alloc _).trans hg))
  replace f3 := Lib.hid (f3.out.grew (((Grew.refl w7).alloc _).trans hg))
  replace f4 := Lib.hid (f4.out.grew (((Grew.refl w7).alloc _).trans hg))
  replace f5 := Lib.hid (f5.out.grew (((Grew.refl w7).alloc _).trans hg))
  replace f6 := Lib.hid (f6.out.grew (((Grew.refl w7).alloc _).trans hg))
  have g8 : Grew w0 w8 := g7.trans (((Grew.refl _).alloc _).trans hg)
  clear hc hbl hl hg g7
  go_wp2_with fail
  refine (flagCondition_c _ _ ⟨_, _, _, rfl⟩).mono ?_
  rintro e w9 ⟨b8, rfl, hc, hbl, hl, hg⟩
  simp only [World.size_alloc] at hbl
  have f8 := Lib.hid (show FlagsAt w9 (w.heap.size + 1) b8 [2, 7] from ⟨_, hc, by have := g8.size; omega, hl, (ints_lit2 (w.heap.size + 1) w8 2 7 (by have := g8.size; omega)).grew hg⟩)
  replace f0 := Lib.hid (f0.out.grew (((Grew.refl w8).alloc _).trans hg))
  replace f1 := Lib.hid (f1.out.grew (((Grew.refl w8).alloc _).trans hg))
  replace f2 := Lib.hid (f2.out.grew (((Grew.refl w8).alloc _).trans hg))
  replace f3 := Lib.hid (f3.out.grew (((Grew.refl w8).alloc _).trans hg))
  replace f4 := Lib.hid (f4.out.grew (((Grew.refl w8).alloc _).trans hg))
  replace f5 := Lib.hid (f5.out.grew (((Grew.refl w8).alloc _).trans hg))
  replace f6 := Lib.hid (f6.out.grew (((Grew.refl w8).alloc _).trans hg))
  replace f7 := Lib.hid (f7.out.grew (((Grew.refl w8).alloc _).trans hg))
  have g9 : Grew w0 w9 := g8.trans (((Grew.refl _).alloc _).trans hg)
  clear hc hbl hl hg g8
  go_wp2_with fail
  refine (flagCondition_c _ _ ⟨_, _, _, rfl⟩).mono ?_
  rintro e w10 ⟨b9, rfl, hc, hbl, hl, hg⟩
  simp only [World.size_alloc] at hbl
  have f9 := Lib.hid (show FlagsAt w10 (w.heap.size + 1) b9 [0] from ⟨_, hc, by have := g9.size; omega, hl, (ints_lit1 (w.heap.size + 1) w9 0 (by have := g9.size; omega)).grew hg⟩)
  replace f0 := Lib.hid (f0.out.grew (((Grew.refl w9).alloc _).trans hg))
  replace f1 := Lib.hid (f1.out.grew (((Grew.refl w9).alloc _).trans hg))
  replace f2 := Lib.hid (f2.out.grew (((Grew.refl w9).alloc _).trans hg))
  replace f3 := Lib.hid (f3.out.grew (((Grew.refl w9).alloc _).trans hg))
  replace f4 := Lib.hid (f4.out.grew (((Grew.refl w9).alloc _).trans hg))
  replace f5 := Lib.hid (f5.out.grew (((Grew.refl w9).alloc _).trans hg))
  replace f6 := Lib.hid (f6.out.grew (((Grew.refl w9).alloc _).trans hg))
  replace f7 := Lib.hid (f7.out.grew (((Grew.refl w9).alloc _).trans hg))
  replace f8 := Lib.hid (f8.out.grew (((Grew.refl w9).alloc _).trans hg))
  have g10 : Grew w0 w10 := g9.trans (((Grew.refl _).alloc _).trans hg)
  clear hc hbl hl hg g9
  go_wp2_with fail
  refine (flagCondition_c _ _ ⟨_, _, _, rfl⟩).mono ?_
  rintro e w11 ⟨b10, rfl, hc, hbl, hl, hg⟩
  simp only [World.size_alloc] at hbl
  have f10 := Lib.hid (show FlagsAt w11 (w.heap.size + 1) b10 [0, 2, 8] from ⟨_, hc, by have := g10.size; omega, hl, (ints_lit3 (w.heap.size + 1) w10 0 2 8 (by have := g10.size; omega)).grew hg⟩)
  replace f0 := Lib.hid (f0.out.grew (((Grew.refl w10).alloc _).trans hg))
  replace f1 := Lib.hid (f1.out.grew (((Grew.refl w10).alloc _).trans hg))
  replace f2 := Lib.hid (f2.out.grew (((Grew.refl w10).alloc _).trans hg))
  replace f3 := Lib.hid (f3.out.grew (((Grew.refl w10).alloc _).trans hg))
  replace f4 := Lib.hid (f4.out.grew (((Grew.refl w10).alloc _).trans hg))
  replace f5 := Lib.hid (f5.out.grew (((Grew.refl w10).alloc _).trans hg))
  replace f6 := Lib.hid (f6.out.grew (((Grew.refl w10).alloc _).trans hg))
  replace f7 := Lib.hid (f7.out.grew (((Grew.refl w10).alloc _).trans hg))
  replace f8 := Lib.hid (f8.out.grew (((Grew.refl w10).alloc _).trans hg))
  replace f9 := Lib.hid (f9.out.grew (((Grew.refl w10).alloc _).trans hg))
  have g11 : Grew w0 w11 := g10.trans (((Grew.refl _).alloc _).trans hg)
  clear hc hbl hl hg g10
  have hb := (g11.block (by omega)).trans HB.out
  have hinfo : (Tryz.prog.info? 109).map (·.size) = some 13 := by kernel_rfl
  have hO0 : Only w.heap.size w11 w11 := Only.refl _ _
  have hb0 := hb
  have k0 : w11.cell? ⟨w.heap.size, 0, none⟩ = some .nilFunc := by rw [blk_cell hb]; rfl
  have r0 := blk_frozen hb 0
  have k1 : w11.cell? ⟨w.heap.size, 1, none⟩ = some .nilFunc := by rw [blk_cell hb]; rfl
  have r1 := blk_frozen hb 1
  have k2 : w11.cell? ⟨w.heap.size, 2, none⟩ = some .nilFunc := by rw [blk_cell hb]; rfl
  have r2 := blk_frozen hb 2
  have k3 : w11.cell? ⟨w.heap.size, 3, none⟩ = some .nilFunc := by rw [blk_cell hb]; rfl
  have r3 := blk_frozen hb 3
  have k4 : w11.cell? ⟨w.heap.size, 4, none⟩ = some .nilFunc := by rw [blk_cell hb]; rfl
  have r4 := blk_frozen hb 4
  have k5 : w11.cell? ⟨w.heap.size, 5, none⟩ = some .nilFunc := by rw [blk_cell hb]; rfl
  have r5 := blk_frozen hb 5
  have k6 : w11.cell? ⟨w.heap.size, 6, none⟩ = some .nilFunc := by rw [blk_cell hb]; rfl
  have r6 := blk_frozen hb 6
  have k7 : w11.cell? ⟨w.heap.size, 7, none⟩ = some .nilFunc := by rw [blk_cell hb]; rfl
  have r7 := blk_frozen hb 7
  have k8 : w11.cell? ⟨w.heap.size, 8, none⟩ = some .nilFunc := by rw [blk_cell hb]; rfl
  have r8 := blk_frozen hb 8
  have k9 : w11.cell? ⟨w.heap.size, 9, none⟩ = some .nilFunc := by rw [blk_cell hb]; rfl
  have r9 := blk_frozen hb 9
  have k10 : w11.cell? ⟨w.heap.size, 10, none⟩ = some .nilFunc := by rw [blk_cell hb]; rfl
  have r10 := blk_frozen hb 10
  have k11 : w11.cell? ⟨w.heap.size, 11, none⟩ = some .nilFunc := by rw [blk_cell hb]; rfl
  have r11 := blk_frozen hb 11
  have k12 : w11.cell? ⟨w.heap.size, 12, none⟩ = some .nilFunc := by rw [blk_cell hb]; rfl
  have r12 := blk_frozen hb 12
  obtain ⟨X1, hX1⟩ : ∃ X, X = w11.setCell ⟨w.heap.size, 0, none⟩ (.func (.func 166) #[] #[.pointer (some ⟨b0, 0, none⟩)]) := ⟨_, rfl⟩
  have hb1 : X1.heap[w.heap.size]? = some (.cells #[.func (.func 166) #[] #[.pointer (some ⟨b0, 0, none⟩)], .nilFunc, .nilFunc, .nilFunc, .nilFunc, .nilFunc, .nilFunc, .nilFunc, .nilFunc, .nilFunc, .nilFunc, .nilFunc, .nilFunc] 109 (0, 0)) := by rw [hX1]; exact blk_set hb0 0 _
  have hO1 : Only w.heap.size w11 X1 := by rw [hX1]; exact hO0.setCell _
  clear hb0 hO0
  obtain ⟨X2, hX2⟩ : ∃ X, X = X1.setCell ⟨w.heap.size, 1, none⟩ (.func (.func 166) #[] #[.pointer (some ⟨b1, 0, none⟩)]) := ⟨_, rfl⟩
  have hb2 : X2.heap[w.heap.size]? = some (.cells #[.func (.func 166) #[] #[.pointer (some ⟨b0, 0, none⟩)], .func (.func 166) #[] #[.pointer (some ⟨b1, 0, none⟩)], .nilFunc, .nilFunc, .nilFunc, .nilFunc, .nilFunc, .nilFunc, .nilFunc, .nilFunc, .nilFunc, .nilFunc, .nilFunc] 109 (0, 0)) := by rw [hX2]; exact blk_set hb1 1 _
  have hO2 : Only w.heap.size w11 X2 := by rw [hX2]; exact hO1.setCell _
  clear hb1 hO1
  obtain ⟨X3, hX3⟩ : ∃ X, X = X2.setCell ⟨w.heap.size, 2, none⟩ (.func (.func 166) #[] #[.pointer (some ⟨b2, 0, none⟩)]) := ⟨_, rfl⟩
  have hb3 : X3.heap[w.heap.size]? = some (.cells #[.func (.func 166) #[] #[.pointer (some ⟨b0, 0, none⟩)], .func (.func 166) #[] #[.pointer (some ⟨b1, 0, none⟩)], .func (.func 166) #[] #[.pointer (some ⟨b2, 0, none⟩)], .nilFunc, .nilFunc, .nilFunc, .nilFunc, .nilFunc, .nilFunc, .nilFunc, .nilFunc, .nilFunc, .nilFunc] 109 (0, 0)) := by rw [hX3]; exact blk_set hb2 2 _
  have hO3 : Only w.heap.size w11 X3 := by rw [hX3]; exact hO2.setCell _
  clear hb2 hO2
  obtain ⟨X4, hX4⟩ : ∃ X, X = X3.setCell ⟨w.heap.size, 3, none⟩ (.func (.func 166) #[] #[.pointer (some ⟨b3, 0, none⟩)]) := ⟨_, rfl⟩
  have hb4 : X4.heap[w.heap.size]? = some (.cells #[.func (.func 166) #[] #[.pointer (some ⟨b0, 0, none⟩)], .func (.func 166) #[] #[.pointer (some ⟨b1, 0, none⟩)], .func (.func 166) #[] #[.pointer (some ⟨b2, 0, none⟩)], .func (.func 166) #[] #[.pointer (some ⟨b3, 0, none⟩)], .nilFunc, .nilFunc, .nilFunc, .nilFunc, .nilFunc, .nilFunc, .nilFunc, .nilFunc, .nilFunc] 109 (0, 0)) := by rw [hX4]; exact blk_set hb3 3 _
  have hO4 : Only w.heap.size w11 X4 := by rw [hX4]; exact hO3.setCell _
  clear hb3 hO3
  obtain ⟨X5, hX5⟩ : ∃ X, X = X4.setCell ⟨w.heap.size, 4, none⟩ (.func (.func 166) #[] #[.pointer (some ⟨b4, 0, none⟩)]) := ⟨_, rfl⟩
  have hb5 : X5.heap[w.heap.size]? = some (.cells #[.func (.func 166) #[] #[.pointer (some ⟨b0, 0, none⟩)], .func (.func 166) #[] #[.pointer (some ⟨b1, 0, none⟩)], .func (.func 166) #[] #[.pointer (some ⟨b2, 0, none⟩)], .func (.func 166) #[] #[.pointer (some ⟨b3, 0, none⟩)], .func (.func 166) #[] #[.pointer (some ⟨b4, 0, none⟩)], .nilFunc, .nilFunc, .nilFunc, .nilFunc, .nilFunc, .nilFunc, .nilFunc, .nilFunc] 109 (0, 0)) := by rw [hX5]; exact blk_set hb4 4 _
  have hO5 : Only w.heap.size w11 X5 := by rw [hX5]; exact hO4.setCell _
  clear hb4 hO4
  obtain ⟨X6, hX6⟩ : ∃ X, X = X5.setCell ⟨w.heap.size, 5, none⟩ (.func (.func 166) #[] #[.pointer (some ⟨b5, 0, none⟩)]) := ⟨_, rfl⟩
  have hb6 : X6.heap[w.heap.size]? = some (.cells #[.func (.func 166) #[] #[.pointer (some ⟨b0, 0, none⟩)], .func (.func 166) #[] #[.pointer (some ⟨b1, 0, none⟩)], .func (.func 166) #[] #[.pointer (some ⟨b2, 0, none⟩)], .func (.func 166) #[] #[.pointer (some ⟨b3, 0, none⟩)], .func (.func 166) #[] #[.pointer (some ⟨b4, 0, none⟩)], .func (.func 166) #[] #[.pointer (some ⟨b5, 0, none⟩)], .nilFunc, .nilFunc, .nilFunc, .nilFunc, .nilFunc, .nilFunc, .nilFunc] 109 (0, 0)) := by rw [hX6]; exact blk_set hb5 5 _
  have hO6 : Only w.heap.size w11 X6 := by rw [hX6]; exact hO5.setCell _
  clear hb5 hO5
  obtain ⟨X7, hX7⟩ : ∃ X, X = X6.setCell ⟨w.heap.size, 6, none⟩ (.func (.func 166) #[] #[.pointer (some ⟨b6, 0, none⟩)]) := ⟨_, rfl⟩
  have hb7 : X7.heap[w.heap.size]? = some (.cells #[.func (.func 166) #[] #[.pointer (some ⟨b0, 0, none⟩)], .func (.func 166) #[] #[.pointer (some ⟨b1, 0, none⟩)], .func (.func 166) #[] #[.pointer (some ⟨b2, 0, none⟩)], .func (.func 166) #[] #[.pointer (some ⟨b3, 0, none⟩)], .func (.func 166) #[] #[.pointer (some ⟨b4, 0, none⟩)], .func (.func 166) #[] #[.pointer (some ⟨b5, 0, none⟩)], .func (.func 166) #[] #[.pointer (some ⟨b6, 0, none⟩)], .nilFunc, .nilFunc, .nilFunc, .nilFunc, .nilFunc, .nilFunc] 109 (0, 0)) := by rw [hX7]; exact blk_set hb6 6 _
  have hO7 : Only w.heap.size w11 X7 := by rw [hX7]; exact hO6.setCell _
  clear hb6 hO6
  obtain ⟨X8, hX8⟩ : ∃ X, X = X7.setCell ⟨w.heap.size, 7, none⟩ (.func (.func 166) #[] #[.pointer (some ⟨b7, 0, none⟩)]) := ⟨_, rfl⟩
  have hb8 : X8.heap[w.heap.size]? = some (.cells #[.func (.func 166) #[] #[.pointer (some ⟨b0, 0, none⟩)], .func (.func 166) #[] #[.pointer (some ⟨b1, 0, none⟩)], .func (.func 166) #[] #[.pointer (some ⟨b2, 0, none⟩)], .func (.func 166) #[] #[.pointer (some ⟨b3, 0, none⟩)], .func (.func 166) #[] #[.pointer (some ⟨b4, 0, none⟩)], .func (.func 166) #[] #[.pointer (some ⟨b5, 0, none⟩)], .func (.func 166) #[] #[.pointer (some ⟨b6, 0, none⟩)], .func (.func 166) #[] #[.pointer (some ⟨b7, 0, none⟩)], .nilFunc, .nilFunc, .nilFunc, .nilFunc, .nilFunc] 109 (0, 0)) := by rw [hX8]; exact blk_set hb7 7 _
  have hO8 : Only w.heap.size w11 X8 := by rw [hX8]; exact hO7.setCell _
  clear hb7 hO7
  obtain ⟨X9, hX9⟩ : ∃ X, X = X8.setCell ⟨w.heap.size, 8, none⟩ (.func (.func 166) #[] #[.pointer (some ⟨b8, 0, none⟩)]) := ⟨_, rfl⟩
  have hb9 : X9.heap[w.heap.size]? = some (.cells #[.func (.func 166) #[] #[.pointer (some ⟨b0, 0, none⟩)], .func (.func 166) #[] #[.pointer (some ⟨b1, 0, none⟩)], .func (.func 166) #[] #[.pointer (some ⟨b2, 0, none⟩)], .func (.func 166) #[] #[.pointer (some ⟨b3, 0, none⟩)], .func (.func 166) #[] #[.pointer (some ⟨b4, 0, none⟩)], .func (.func 166) #[] #[.pointer (some ⟨b5, 0, none⟩)], .func (.func 166) #[] #[.pointer (some ⟨b6, 0, none⟩)], .func (.func 166) #[] #[.pointer (some ⟨b7, 0, none⟩)], .func (.func 166) #[] #[.pointer (some ⟨b8, 0, none⟩)], .nilFunc, .nilFunc, .nilFunc, .nilFunc] 109 (0, 0)) := by rw [hX9]; exact blk_set hb8 8 _
  have hO9 : Only w.heap.size w11 X9 := by rw [hX9]; exact hO8.setCell _
  clear hb8 hO8
  obtain ⟨X10, hX10⟩ : ∃ X, X = X9.setCell ⟨w.heap.size, 9, none⟩ (.func (.func 166) #[] #[.pointer (some ⟨b9, 0, none⟩)]) := ⟨_, rfl⟩
  have hb10 : X10.heap[w.heap.size]? = some (.cells #[.func (.func 166) #[] #[.pointer (some ⟨b0, 0, none⟩)], .func (.func 166) #[] #[.pointer (some ⟨b1, 0, none⟩)], .func (.func 166) #[] #[.pointer (some ⟨b2, 0, none⟩)], .func (.func 166) #[] #[.pointer (some ⟨b3, 0, none⟩)], .func (.func 166) #[] #[.pointer (some ⟨b4, 0, none⟩)], .func (.func 166) #[] #[.pointer (some ⟨b5, 0, none⟩)], .func (.func 166) #[] #[.pointer (some ⟨b6, 0, none⟩)], .func (.func 166) #[] #[.pointer (some ⟨b7, 0, none⟩)], .func (.func 166) #[] #[.pointer (some ⟨b8, 0, none⟩)], .func (.func 166) #[] #[.pointer (some ⟨b9, 0, none⟩)], .nilFunc, .nilFunc, .nilFunc] 109 (0, 0)) := by rw [hX10]; exact blk_set hb9 9 _
  have hO10 : Only w.heap.size w11 X10 := by rw [hX10]; exact hO9.setCell _
  clear hb9 hO9
  obtain ⟨X11, hX11⟩ : ∃ X, X = X10.setCell ⟨w.heap.size, 10, none⟩ (.func (.func 133) #[] #[]) := ⟨_, rfl⟩
  have hb11 : X11.heap[w.heap.size]? = some (.cells #[.func (.func 166) #[] #[.pointer (some ⟨b0, 0, none⟩)], .func (.func 166) #[] #[.pointer (some ⟨b1, 0, none⟩)], .func (.func 166) #[] #[.pointer (some ⟨b2, 0, none⟩)], .func (.func 166) #[] #[.pointer (some ⟨b3, 0, none⟩)], .func (.func 166) #[] #[.pointer (some ⟨b4, 0, none⟩)], .func (.func 166) #[] #[.pointer (some ⟨b5, 0, none⟩)], .func (.func 166) #[] #[.pointer (some ⟨b6, 0, none⟩)], .func (.func 166) #[] #[.pointer (some ⟨b7, 0, none⟩)], .func (.func 166) #[] #[.pointer (some ⟨b8, 0, none⟩)], .func (.func 166) #[] #[.pointer (some ⟨b9, 0, none⟩)], .func (.func 133) #[] #[], .nilFunc, .nilFunc] 109 (0, 0)) := by rw [hX11]; exact blk_set hb10 10 _
  have hO11 : Only w.heap.size w11 X11 := by rw [hX11]; exact hO10.setCell _
  clear hb10 hO10
  obtain ⟨X12, hX12⟩ : ∃ X, X = X11.setCell ⟨w.heap.size, 11, none⟩ (.func (.func 136) #[] #[]) := ⟨_, rfl⟩
  have hb12 : X12.heap[w.heap.size]? = some (.cells #[.func (.func 166) #[] #[.pointer (some ⟨b0, 0, none⟩)], .func (.func 166) #[] #[.pointer (some ⟨b1, 0, none⟩)], .func (.func 166) #[] #[.pointer (some ⟨b2, 0, none⟩)], .func (.func 166) #[] #[.pointer (some ⟨b3, 0, none⟩)], .func (.func 166) #[] #[.pointer (some ⟨b4, 0, none⟩)], .func (.func 166) #[] #[.pointer (some ⟨b5, 0, none⟩)], .func (.func 166) #[] #[.pointer (some ⟨b6, 0, none⟩)], .func (.func 166) #[] #[.pointer (some ⟨b7, 0, none⟩)], .func (.func 166) #[] #[.pointer (some ⟨b8, 0, none⟩)], .func (.func 166) #[] #[.pointer (some ⟨b9, 0, none⟩)], .func (.func 133) #[] #[], .func (.func 136) #[] #[], .nilFunc] 109 (0, 0)) := by rw [hX12]; exact blk_set hb11 11 _
  have hO12 : Only w.heap.size w11 X12 := by rw [hX12]; exact hO11.setCell _
  clear hb11 hO11
  obtain ⟨X13, hX13⟩ : ∃ X, X = X12.setCell ⟨w.heap.size, 12, none⟩ (.func (.func 166) #[] #[.pointer (some ⟨b10, 0, none⟩)]) := ⟨_, rfl⟩
  have hb13 : X13.heap[w.heap.size]? = some (.cells #[.func (.func 166) #[] #[.pointer (some ⟨b0, 0, none⟩)], .func (.func 166) #[] #[.pointer (some ⟨b1, 0, none⟩)], .func (.func 166) #[] #[.pointer (some ⟨b2, 0, none⟩)], .func (.func 166) #[] #[.pointer (some ⟨b3, 0, none⟩)], .func (.func 166) #[] #[.pointer (some ⟨b4, 0, none⟩)], .func (.func 166) #[] #[.pointer (some ⟨b5, 0, none⟩)], .func (.func 166) #[] #[.pointer (some ⟨b6, 0, none⟩)], .func (.func 166) #[] #[.pointer (some ⟨b7, 0, none⟩)], .func (.func 166) #[] #[.pointer (some ⟨b8, 0, none⟩)], .func (.func 166) #[] #[.pointer (some ⟨b9, 0, none⟩)], .func (.func 133) #[] #[], .func (.func 136) #[] #[], .func (.func 166) #[] #[.pointer (some ⟨b10, 0, none⟩)]] 109 (0, 0)) := by rw [hX13]; exact blk_set hb12 12 _
  have hO13 : Only w.heap.size w11 X13 := by rw [hX13]; exact hO12.setCell _
  clear hb12 hO12
  have HF := Lib.hid hb13
  have HO := Lib.hid hO13
  have HG := Lib.hid (hO13.grew_of (hgw.trans g11) (Nat.le_refl _))
  clear hb13 hO13 hb hgw g11 HB HL0 hs0
  go_wp2_with fail
  rw [← hX1, ← hX2, ← hX3, ← hX4, ← hX5, ← hX6, ← hX7, ← hX8, ← hX9, ← hX10, ← hX11, ← hX12, ← hX13]
  (try simp only [Exit.inBlock, Exit.then])
  refine bodyPost_ret (results_cell_row rfl _ _ w.heap.size _ _ _ _ rfl HF.out Tryz.underlying109 rfl hinfo) rfl ?_
  exact ⟨_, _, _, _, _, _, _, _, _, _, _, rfl, (f0.out.only HO.out (by omega)).base, (f1.out.only HO.out (by omega)).base, (f2.out.only HO.out (by omega)).base, (f3.out.only HO.out (by omega)).base, (f4.out.only HO.out (by omega)).base, (f5.out.only HO.out (by omega)).base, (f6.out.only HO.out (by omega)).base, (f7.out.only HO.out (by omega)).base, (f8.out.only HO.out (by omega)).base, (f9.out.only HO.out (by omega)).base, (f10.out.only HO.out (by omega)).base, HG.out⟩
end Go.Proofs.YtpfncncohnhanaaGreatDoor


/- The laws' own helpers on slices of nodes: eqNode, eqNodeS. -/
namespace Go.Proofs.YtpfncncohnhanaaGreatDoor
open Go.RowKit
open Fm (Nd)

theorem eqNode_c (a b c d : Int) (w : World) :
    Calls Tryz.prog 40 #[.agg #[.int .i64 a, .int .i64 b], .agg #[.int .i64 c, .int .i64 d]] w fun e w' => e = .returned (.bool (a == c && b == d)) ∧ Grew w w' := by
  have hz : ∀ o1 o2, Grew w ((w.alloc o1).alloc o2) := fun o1 o2 => ((Grew.refl _).alloc _).alloc _
  go_enter Tryz.func40, Tryz.ntmps40
  go_wp2
  · have h1 : (a != c) = true := by assumption
    go_ret
    exact ⟨by have : (a == c) = false := by simpa using h1
              simp [this], hz _ _⟩
  · have h1 : (a != c) = false := by assumption
    have h2 : (b != d) = true := by assumption
    go_ret
    exact ⟨by have : (b == d) = false := by simpa using h2
              simp [this], hz _ _⟩
  · have h1 : (a != c) = false := by assumption
    have h2 : (b != d) = false := by assumption
    go_ret
    exact ⟨by simp at h1 h2; simp [h1, h2], hz _ _⟩

theorem eqNodeS_yes (v1 v2 : Value) (xs : List Nd) (w : World) (h1 : Nodes w v1 xs) (h2 : Nodes w v2 xs) (hn : xs.length ≤ 4611686018427387904) :
    Calls Tryz.prog 11 #[v1, v2] w fun e w' => e = .returned (.bool true) ∧ Grew w w' := by
  rcases h1.open_ with ⟨rfl, rfl⟩ | ⟨b1, o1, c1, rfl, hc1, hm1, hb1, hf⟩
  · rcases h2.open_ with ⟨rfl, _⟩ | ⟨b2, o2, c2, rfl, _⟩
    all_goals
      go_enter Tryz.func11, Tryz.ntmps11
      go_wp2_with fail
      refine wp_loop_rounds 1 ?_; rw [rounds_succ]
      go_wp2_with fail
      go_ret
      exact ⟨rfl, Grew.refl _⟩
  · rcases h2.open_ with ⟨rfl, rfl⟩ | ⟨b2, o2, c2, rfl, hc2, hm2, hb2, hh⟩
    · go_enter Tryz.func11, Tryz.ntmps11
      go_wp2_with fail
      refine wp_loop_rounds 1 ?_; rw [rounds_succ]
      go_wp2_with fail
      go_ret
      exact ⟨rfl, Grew.refl _⟩
    · clear h1 h2
      generalize hN : xs.length = n at *
      clear hN
      go_enter Tryz.func11, Tryz.ntmps11
      go_wp2_with fail
      go_loopw [5] (fun i wr => ∃ j : Nat, j ≤ n ∧ i = .int .i64 j ∧ Grew w wr) (fun i _ => n - (intOf i).toNat)
      case atStart => exact ⟨0, Nat.zero_le _, rfl, Grew.refl _⟩
      case round =>
        obtain ⟨j, hj, rfl, hB⟩ := hrel
        by_cases hlt : j < n
        · have k1 : ∀ W, Grew w W → W.cell? ⟨b1, o1 + j * 2, none⟩ = some (.int .i64 (kd xs j)) := fun W hW => (hf j hlt W hW).1
          have k2 : ∀ W, Grew w W → W.cell? ⟨b1, o1 + j * 2 + 1, none⟩ = some (.int .i64 (sy xs j)) := fun W hW => (hf j hlt W hW).2
          have k3 : ∀ W, Grew w W → W.cell? ⟨b2, o2 + j * 2, none⟩ = some (.int .i64 (kd xs j)) := fun W hW => (hh j hlt W hW).1
          have k4 : ∀ W, Grew w W → W.cell? ⟨b2, o2 + j * 2 + 1, none⟩ = some (.int .i64 (sy xs j)) := fun W hW => (hh j hlt W hW).2
          clear hf hh
          go_wp2_with fail
          go_region_held3 (fun w' => Grew w w') (first | assumption | exact Grew.drew ‹_› | exact Grew.trans ‹_› ‹_›)
            (first | (go_at_call 40; refine (eqNode_c _ _ _ _ _).mono ?_; rintro e w' ⟨rfl, hB1⟩))
          go_wp2_with fail
          go_roundw
          case rel => exact ⟨j + 1, by omega, by go_num, by assumption⟩
          case measure => simp [intOf]; omega
        · go_wp2_with fail
          go_ret
          exact ⟨rfl, by assumption⟩

end Go.Proofs.YtpfncncohnhanaaGreatDoor


/- The laws' own helpers on slices of nodes: markNodeS, heldNodeS. -/
namespace Go.Proofs.YtpfncncohnhanaaGreatDoor
open Go.RowKit
open Fm (Nd)

def marks (k : Int) (n : Nat) : List Nd := (List.range n).map fun i : Nat => ((k + (i : Int) * 2, k + (i : Int) * 2 + 1) : Nd)
theorem marks_length (k : Int) (n : Nat) : (marks k n).length = n := by simp [marks]
theorem marks_kd {k : Int} {n i : Nat} (h : i < n) : kd (marks k n) i = k + i * 2 := by simp [marks, kd, List.getD, h]
theorem marks_sy {k : Int} {n i : Nat} (h : i < n) : sy (marks k n) i = k + i * 2 + 1 := by simp [marks, sy, List.getD, h]

theorem markNodeS_c (v : Value) (xs : List Nd) (B : Nat) (k : Int) (w : World) (h : Own w B v xs) (hk0 : 0 ≤ k) (hk : k ≤ 4611686018427387904) (hn : xs.length ≤ 1099511627776) :
    Calls Tryz.prog 12 #[v, .int .i64 k] w fun e w' => e = .returned (.int .i64 (k + xs.length * 2)) ∧ Own w' B v (marks k xs.length) ∧ (∀ g, v.ownBlock = some g → Only g w w') ∧ (v.ownBlock = none → Grew w w') := by
  rcases h.open_ with ⟨rfl, rfl⟩ | ⟨g, c, cur0, rfl, hB, hg, hh0, hnc, hcm, hcs0, hc0⟩
  · go_enter Tryz.func12, Tryz.ntmps12
    go_wp2_with fail
    refine wp_loop_rounds 1 ?_; rw [rounds_succ]
    go_wp2_with fail
    go_ret
    exact ⟨by simp, by simpa [marks] using Own.nil_ _ _, fun _ _ => Only.refl _ _, fun _ => Grew.refl _⟩
  · have hend : ∀ cur w', w'.heap[g]? = some (.cells cur 59 (0, 0)) → cur.size = c * 2 → (∀ i, i < xs.length → cur[i * 2]? = some (.int .i64 (k + (i : Int) * 2)) ∧ cur[i * 2 + 1]? = some (.int .i64 (k + (i : Int) * 2 + 1))) → Own w' B (.slice (some ⟨g, 0, none⟩) xs.length c) (marks k xs.length) := by
      intro cur w' h1 h2 h3
      have := Own.mk_ (w := w') (B := B) (xs := marks k xs.length) (g := g) (c := c) (cur := cur) hB h1 (by rw [marks_length]; exact hnc) hcm h2 (fun i hi => by
        rw [marks_length] at hi
        rw [marks_kd hi, marks_sy hi]
        exact h3 i hi)
      rw [marks_length] at this
      exact this
    generalize hN : xs.length = n at *
    clear hN hc0 h
    have HE := Lib.hid hend
    clear hend
    go_enter Tryz.func12, Tryz.ntmps12
    go_wp2_with fail
    go_loopw [1, 5] (fun kk i wr => ∃ (j : Nat) (cur : Array Value), j ≤ n ∧ i = .int .i64 j ∧ kk = .int .i64 (k + (j : Int) * 2) ∧ wr.heap[g]? = some (.cells cur 59 (0, 0)) ∧ cur.size = c * 2 ∧ Only g w wr ∧ (∀ i, i < j → cur[i * 2]? = some (.int .i64 (k + (i : Int) * 2)) ∧ cur[i * 2 + 1]? = some (.int .i64 (k + (i : Int) * 2 + 1)))) (fun _ i _ => n - (intOf i).toNat)
    case atStart => exact ⟨0, cur0, Nat.zero_le _, rfl, by simp, hh0, hcs0, Only.refl _ _, fun i hi => absurd hi (by omega)⟩
    case round =>
      obtain ⟨j, cur, hj, rfl, rfl, hh, hcs, ho, hc⟩ := hrel
      have HC := Lib.hid hc
      clear hc
      by_cases hlt : j < n
      · have f1 : ∀ i, wr.frozen? ⟨g, i, none⟩ = false := fun i => by simp [World.frozen?, hh]
        have f2 : ∀ i u, (wr.setCell ⟨g, i, none⟩ u).frozen? ⟨g, i + 1, none⟩ = false := fun i u => by simp [World.frozen?, World.setCell, Array.getElem?_modify, hh]
        obtain ⟨u1, hu1⟩ : ∃ u, wr.cell? ⟨g, 0 + j * 2, none⟩ = some u := by
          rw [cell_of_row wr g _ cur _ (0, 0) hh]
          exact ⟨_, Array.getElem?_eq_getElem (by omega)⟩
        obtain ⟨u2, hu2⟩ : ∃ u, wr.cell? ⟨g, 0 + j * 2 + 1, none⟩ = some u := by
          rw [cell_of_row wr g _ cur _ (0, 0) hh]
          exact ⟨_, Array.getElem?_eq_getElem (by omega)⟩
        simp only [Nat.zero_add] at hu1 hu2
        have HH := Lib.hid hh
        clear hh
        go_wp2_with fail
        go_roundw
        case rel =>
          exact ⟨j + 1, _, by omega, by go_num, by go_num, blk_set (blk_set HH.out _ _) _ _, by simp [hcs], (ho.setCell _).setCell _, pair_step (F := fun i => .int .i64 (k + (i : Int) * 2)) (G := fun i => .int .i64 (k + (i : Int) * 2 + 1)) (by omega) HC.out⟩
        case measure => simp [intOf]; omega
      · obtain rfl : j = n := by omega
        have HH := Lib.hid hh
        clear hh
        go_wp2_with fail
        go_ret
        exact ⟨rfl, HE.out _ _ HH.out hcs HC.out, fun g' hg' => by simp [Value.ownBlock] at hg'; subst hg'; exact ho, fun hg' => by simp [Value.ownBlock] at hg'⟩

end Go.Proofs.YtpfncncohnhanaaGreatDoor


/- The law FnExactAxiomFormula, walked. -/
namespace Go.Proofs.YtpfncncohnhanaaGreatDoor
open Go.RowKit
open Fm (Nd)

set_option maxRecDepth 100000 in
theorem axiomAt_c (s : ByteArray) (w : World) (hT : TabAt w 1 axNames) :
    Calls Tryz.prog 47 #[.string s] w fun e w' => e = .returned (.int .i64 (findS axNames s)) ∧ Grew w w' := by
  obtain ⟨t, hT⟩ := hT
  obtain ⟨R, hR⟩ : ∃ R, R = findS axNames s := ⟨_, rfl⟩
  rw [← hR]
  have HA := Lib.hid (fun k hk h1 h2 => hR.trans (@findS_at axNames s k hk h1 h2))
  have HZ := Lib.hid (fun h => hR.trans (@findS_none axNames s h))
  have HI := Lib.hid index_names
  have hinfo : (Tryz.prog.info? 76).map (·.size) = some (scells axNames).toArray.size := by kernel_rfl
  have HF := Lib.hid hinfo
  have HT := Lib.hid hT
  rw [axNames_len] at HA HZ
  clear hR hinfo hT
  generalize hC : (scells axNames).toArray = C at *
  clear hC
  go_enter Tryz.func47, Tryz.ntmps47
  go_wp2_with (with_reducible refine wpList_load_row rfl 76 _ rfl 1 rfl t C _ _ HT.out Tryz.underlying76 rfl HF.out ?_)
  go_loopg [3, 4, 6] 13 (fun k _ _ i wr => ∃ j : Nat, j ≤ 13 ∧ k = 13 - j ∧ i = .int .i64 j ∧ Grew w wr ∧ Hid (NotIn axNames s j))
  case atStart => exact ⟨0, by omega, by omega, rfl, Grew.refl _, NotIn.zero _ _⟩
  case round =>
    obtain ⟨j, hj, rfl, rfl, hB, HJ⟩ := hrel
    by_cases hlt : j < 13
    · have hix := fun W => HI.out j hlt W
      cases he : ((st axNames j).toList == s.toList) with
      | true =>
        have hv := Lib.hid (HA.out j hlt HJ.out he)
        generalize st axNames j = x at *
        go_wp2_with fail
        go_ret
        rw [hv.out]
        exact ⟨rfl, hB⟩
      | false =>
        have HS := Lib.hid (HJ.out.succ he)
        generalize st axNames j = x at *
        go_wp2_with fail
        go_roundg (13 - (j + 1))
        case measure => omega
        case rel => exact ⟨j + 1, by omega, rfl, by go_num, hB, HS⟩
    · have hjn : j = 13 := by omega
      subst hjn
      have hv := Lib.hid (HZ.out HJ.out)
      go_wp2_with fail
      go_ret
      rw [hv.out]
      exact ⟨rfl, hB⟩

end Go.Proofs.YtpfncncohnhanaaGreatDoor


/- axiomHolds of the program, axiom by axiom. -/
namespace Go.Proofs.YtpfncncohnhanaaGreatDoor
open Go.RowKit

theorem eq_zero_b (m : Nat) : (((m : Nat) : Int) == 0) = decide (m = 0) := by
  rw [Bool.eq_iff_iff]
  simp
theorem ver_k (v : Value) (A : List Nat) (bf : Nat) (w : World) (h : Ints w v (zs A)) (_k0 : ∀ W, Grew w W → W.cell? ⟨bf, 0, none⟩ = some (.int .i64 (A.length : Int))) (k1 : ∀ W, Grew w W → W.cell? ⟨bf, 1, none⟩ = some v) :
    PredW w 135 #[.pointer (some ⟨bf, 0, none⟩)] A.length (fun x => decide (nt A x = 0)) := by
  intro x W hx hW
  have y1 := k1 W hW
  have hb := eq_zero_b (nt A x)
  show Calls Tryz.prog 135 #[.int .i64 (x : Int), .pointer (some ⟨bf, 0, none⟩)] W fun e W' => e = .returned (.bool (decide (nt A x = 0))) ∧ Grew W W'
  rw [← hb]
  obtain ⟨A', c, rfl⟩ := ints_sliceN h
  obtain ⟨b, o, rfl, hc1⟩ := cellsN h (by omega)
  have z1 := hc1 x hx W hW
  clear h _k0 k1 hc1 hb
  generalize nt A x = m at *
  generalize A.length = n at *
  go_enter Tryz.func135, Tryz.ntmps135
  go_wp2_with fail
  go_ret
  exact ⟨rfl, Grew.refl _⟩
theorem tri_k (v : Value) (A : List Nat) (bf : Nat) (w : World) (h : Ints w v (zs A)) (hA : Rl A) (k0 : ∀ W, Grew w W → W.cell? ⟨bf, 0, none⟩ = some (.int .i64 (A.length : Int))) (k1 : ∀ W, Grew w W → W.cell? ⟨bf, 1, none⟩ = some v) :
    PredW w 137 #[.pointer (some ⟨bf, 0, none⟩)] A.length (fun x => decide (dif (nt A x) (2 ^ x) = 0)) := by
  intro x W hx hW
  have y0 := fun V (hV : Grew W V) => k0 V (hW.trans hV)
  have y1 := fun V (hV : Grew W V) => k1 V (hW.trans hV)
  have hn := hA.1
  have hlA := hA.sm.at_ hx
  have hp := wrap_pow (k := x) (by omega)
  have hlp := pow30' (k := x) (by omega)
  have KW := Lib.hid (within_q (nt A x) (2 ^ x) (by omega) (by omega))
  show Calls Tryz.prog 137 #[.int .i64 (x : Int), .pointer (some ⟨bf, 0, none⟩)] W fun e W' => e = .returned (.bool (decide (dif (nt A x) (2 ^ x) = 0))) ∧ Grew W W'
  obtain ⟨A', c, rfl⟩ := ints_sliceN h
  obtain ⟨b, o, rfl, hc1⟩ := cellsN h (by omega)
  have z1 := fun V (hV : Grew W V) => hc1 x hx V (hW.trans hV)
  clear h hc1 k0 k1 hA
  generalize nt A x = p1 at *
  generalize (2 ^ x : Nat) = p at *
  generalize decide (dif p1 p = 0) = R at *
  generalize A.length = n at *
  have hi0 : (0 : Int) ≤ (x : Int) := by omega
  have hi6 : (x : Int) < (n : Int) := by omega
  have hr1 := Grew.refl W
  have hd1 := (Grew.refl W).drew
  go_enter Tryz.func137, Tryz.ntmps137
  go_wp2_with fail
  go_quiet (first | (go_at_call 138; exact Calls.quiet_of_same (KW.out _)))
  go_wp2_with fail
  go_ret
  exact ⟨rfl, (Grew.refl _).drewN _⟩
theorem ver_c (v : Value) (A : List Nat) (w : World) (h : Ints w v (zs A)) (hA : Rl A) :
    Calls Tryz.prog 133 #[.agg #[.int .i64 (A.length : Int), v]] w fun e w' => e = .returned (.bool (verB A)) ∧ Grew w w' := by
  have hal := (Grew.refl w).alloc (.cells #[.int .i64 (A.length : Int), v] 26)
  have HG := Lib.hid hal
  have eg := enters_of Tryz.func135 (by kernel_rfl) rfl
  have y0 : ∀ W, Grew (w.alloc (.cells #[.int .i64 (A.length : Int), v] 26)) W → W.cell? ⟨w.heap.size, 0, none⟩ = some (.int .i64 (A.length : Int)) := fun W hW => (hW.cell (p := ⟨w.heap.size, 0, none⟩) (by simp)).trans (by simp)
  have y1 : ∀ W, Grew (w.alloc (.cells #[.int .i64 (A.length : Int), v] 26)) W → W.cell? ⟨w.heap.size, 1, none⟩ = some v := fun W hW => (hW.cell (p := ⟨w.heap.size, 1, none⟩) (by simp)).trans (by simp)
  have KE := Lib.hid (everyWorld_c v A.length 135 #[.pointer (some ⟨w.heap.size, 0, none⟩)] _ (w.alloc (.cells #[.int .i64 (A.length : Int), v] 26)) hA.1 (by obtain ⟨A', c, e⟩ := ints_slice h; exact ⟨_, _, _, e⟩) (ver_k v A w.heap.size _ (h.grew (hal.alloc _)) (fun V hV => y0 V (((Grew.refl _).alloc _).trans hV)) (fun V hV => y1 V (((Grew.refl _).alloc _).trans hV))) eg)
  rw [show allB A.length (fun x => decide (nt A x = 0)) = verB A from rfl] at KE
  obtain ⟨A', c, rfl⟩ := ints_sliceN h
  clear h hA hal eg
  generalize verB A = R at *
  generalize A.length = n at *
  go_enter Tryz.func133, Tryz.ntmps133
  go_wp2_with fail
  refine (KE.out).mono ?_
  rintro e w2 ⟨rfl, hg3⟩
  go_wp2_with fail
  go_ret
  exact ⟨rfl, HG.out.trans hg3⟩
theorem tri_c (v : Value) (A : List Nat) (w : World) (h : Ints w v (zs A)) (hA : Rl A) :
    Calls Tryz.prog 136 #[.agg #[.int .i64 (A.length : Int), v]] w fun e w' => e = .returned (.bool (triB A)) ∧ Grew w w' := by
  have hal := (Grew.refl w).alloc (.cells #[.int .i64 (A.length : Int), v] 26)
  have HG := Lib.hid hal
  have eg := enters_of Tryz.func137 (by kernel_rfl) rfl
  have y0 : ∀ W, Grew (w.alloc (.cells #[.int .i64 (A.length : Int), v] 26)) W → W.cell? ⟨w.heap.size, 0, none⟩ = some (.int .i64 (A.length : Int)) := fun W hW => (hW.cell (p := ⟨w.heap.size, 0, none⟩) (by simp)).trans (by simp)
  have y1 : ∀ W, Grew (w.alloc (.cells #[.int .i64 (A.length : Int), v] 26)) W → W.cell? ⟨w.heap.size, 1, none⟩ = some v := fun W hW => (hW.cell (p := ⟨w.heap.size, 1, none⟩) (by simp)).trans (by simp)
  have KE := Lib.hid (everyWorld_c v A.length 137 #[.pointer (some ⟨w.heap.size, 0, none⟩)] _ (w.alloc (.cells #[.int .i64 (A.length : Int), v] 26)) hA.1 (by obtain ⟨A', c, e⟩ := ints_slice h; exact ⟨_, _, _, e⟩) (tri_k v A w.heap.size _ (h.grew (hal.alloc _)) hA (fun V hV => y0 V (((Grew.refl _).alloc _).trans hV)) (fun V hV => y1 V (((Grew.refl _).alloc _).trans hV))) eg)
  rw [show allB A.length (fun x => decide (dif (nt A x) (2 ^ x) = 0)) = triB A from rfl] at KE
  obtain ⟨A', c, rfl⟩ := ints_sliceN h
  clear h hA hal eg
  generalize triB A = R at *
  generalize A.length = n at *
  go_enter Tryz.func136, Tryz.ntmps136
  go_wp2_with fail
  refine (KE.out).mono ?_
  rintro e w2 ⟨rfl, hg3⟩
  go_wp2_with fail
  go_ret
  exact ⟨rfl, HG.out.trans hg3⟩
theorem cond0_c (v : Value) (A : List Nat) (B bl : Nat) (w : World) (h : Ints w v (zs A)) (hA : Rl A) (_h8 : A.length ≤ 8) (hf : FlagsAt w B bl [2]) :
    Calls Tryz.prog 166 #[.agg #[.int .i64 (A.length : Int), v], .pointer (some ⟨bl, 0, none⟩)] w fun e w' => e = .returned (.bool (axB A 0)) ∧ Grew w w' := by
  have hvs : ∃ X m c, v = .slice X m c := by obtain ⟨A', c, e⟩ := ints_slice h; exact ⟨_, _, _, e⟩
  obtain ⟨u, h1, _, h2, h3⟩ := hf
  have K := flag1_all v u (A.length : Int) [2] (fun _ => transB A) bl w hvs h1 h2 h3.ints (fun x hx W hW => by rw [List.mem_singleton.1 hx]; exact hasFlag2_c v A W (h.grew hW) hA)
  rw [show ([2] : List Int).all (fun _ => transB A) = axB A 0 from Bool.and_true _] at K
  exact K
theorem cond1_c (v : Value) (A : List Nat) (B bl : Nat) (w : World) (h : Ints w v (zs A)) (hA : Rl A) (_h8 : A.length ≤ 8) (hf : FlagsAt w B bl [4]) :
    Calls Tryz.prog 166 #[.agg #[.int .i64 (A.length : Int), v], .pointer (some ⟨bl, 0, none⟩)] w fun e w' => e = .returned (.bool (axB A 1)) ∧ Grew w w' := by
  have hvs : ∃ X m c, v = .slice X m c := by obtain ⟨A', c, e⟩ := ints_slice h; exact ⟨_, _, _, e⟩
  obtain ⟨u, h1, _, h2, h3⟩ := hf
  have K := flag1_all v u (A.length : Int) [4] (fun _ => eucB A) bl w hvs h1 h2 h3.ints (fun x hx W hW => by rw [List.mem_singleton.1 hx]; exact hasFlag4_c v A W (h.grew hW) hA)
  rw [show ([4] : List Int).all (fun _ => eucB A) = axB A 1 from Bool.and_true _] at K
  exact K
theorem cond2_c (v : Value) (A : List Nat) (B bl : Nat) (w : World) (h : Ints w v (zs A)) (hA : Rl A) (_h8 : A.length ≤ 8) (hf : FlagsAt w B bl [3]) :
    Calls Tryz.prog 166 #[.agg #[.int .i64 (A.length : Int), v], .pointer (some ⟨bl, 0, none⟩)] w fun e w' => e = .returned (.bool (axB A 2)) ∧ Grew w w' := by
  have hvs : ∃ X m c, v = .slice X m c := by obtain ⟨A', c, e⟩ := ints_slice h; exact ⟨_, _, _, e⟩
  obtain ⟨u, h1, _, h2, h3⟩ := hf
  have K := flag1_all v u (A.length : Int) [3] (fun _ => symB A) bl w hvs h1 h2 h3.ints (fun x hx W hW => by rw [List.mem_singleton.1 hx]; exact hasFlag3_c v A W (h.grew hW) hA)
  rw [show ([3] : List Int).all (fun _ => symB A) = axB A 2 from Bool.and_true _] at K
  exact K
theorem cond3_c (v : Value) (A : List Nat) (B bl : Nat) (w : World) (h : Ints w v (zs A)) (hA : Rl A) (_h8 : A.length ≤ 8) (hf : FlagsAt w B bl [9]) :
    Calls Tryz.prog 166 #[.agg #[.int .i64 (A.length : Int), v], .pointer (some ⟨bl, 0, none⟩)] w fun e w' => e = .returned (.bool (axB A 3)) ∧ Grew w w' := by
  have hvs : ∃ X m c, v = .slice X m c := by obtain ⟨A', c, e⟩ := ints_slice h; exact ⟨_, _, _, e⟩
  obtain ⟨u, h1, _, h2, h3⟩ := hf
  have K := flag1_all v u (A.length : Int) [9] (fun _ => denB A) bl w hvs h1 h2 h3.ints (fun x hx W hW => by rw [List.mem_singleton.1 hx]; exact hasFlag9_c v A W (h.grew hW) hA)
  rw [show ([9] : List Int).all (fun _ => denB A) = axB A 3 from Bool.and_true _] at K
  exact K
theorem cond4_c (v : Value) (A : List Nat) (B bl : Nat) (w : World) (h : Ints w v (zs A)) (hA : Rl A) (_h8 : A.length ≤ 8) (hf : FlagsAt w B bl [1]) :
    Calls Tryz.prog 166 #[.agg #[.int .i64 (A.length : Int), v], .pointer (some ⟨bl, 0, none⟩)] w fun e w' => e = .returned (.bool (axB A 4)) ∧ Grew w w' := by
  have hvs : ∃ X m c, v = .slice X m c := by obtain ⟨A', c, e⟩ := ints_slice h; exact ⟨_, _, _, e⟩
  obtain ⟨u, h1, _, h2, h3⟩ := hf
  have K := flag1_all v u (A.length : Int) [1] (fun _ => serB A) bl w hvs h1 h2 h3.ints (fun x hx W hW => by rw [List.mem_singleton.1 hx]; exact hasFlag1_c v A W (h.grew hW) hA)
  rw [show ([1] : List Int).all (fun _ => serB A) = axB A 4 from Bool.and_true _] at K
  exact K
theorem cond5_c (v : Value) (A : List Nat) (B bl : Nat) (w : World) (h : Ints w v (zs A)) (hA : Rl A) (h8 : A.length ≤ 8) (hf : FlagsAt w B bl [10]) :
    Calls Tryz.prog 166 #[.agg #[.int .i64 (A.length : Int), v], .pointer (some ⟨bl, 0, none⟩)] w fun e w' => e = .returned (.bool (axB A 5)) ∧ Grew w w' := by
  have hvs : ∃ X m c, v = .slice X m c := by obtain ⟨A', c, e⟩ := ints_slice h; exact ⟨_, _, _, e⟩
  obtain ⟨u, h1, _, h2, h3⟩ := hf
  have K := flag1_all v u (A.length : Int) [10] (fun _ => funB A) bl w hvs h1 h2 h3.ints (fun x hx W hW => by rw [List.mem_singleton.1 hx]; exact hasFlag10_c v A W (h.grew hW) hA h8)
  rw [show ([10] : List Int).all (fun _ => funB A) = axB A 5 from Bool.and_true _] at K
  exact K
theorem cond6_c (v : Value) (A : List Nat) (B bl : Nat) (w : World) (h : Ints w v (zs A)) (hA : Rl A) (_h8 : A.length ≤ 8) (hf : FlagsAt w B bl [5]) :
    Calls Tryz.prog 166 #[.agg #[.int .i64 (A.length : Int), v], .pointer (some ⟨bl, 0, none⟩)] w fun e w' => e = .returned (.bool (axB A 6)) ∧ Grew w w' := by
  have hvs : ∃ X m c, v = .slice X m c := by obtain ⟨A', c, e⟩ := ints_slice h; exact ⟨_, _, _, e⟩
  obtain ⟨u, h1, _, h2, h3⟩ := hf
  have K := flag1_all v u (A.length : Int) [5] (fun _ => dirB A) bl w hvs h1 h2 h3.ints (fun x hx W hW => by rw [List.mem_singleton.1 hx]; exact hasFlag5_c v A W (h.grew hW) hA)
  rw [show ([5] : List Int).all (fun _ => dirB A) = axB A 6 from Bool.and_true _] at K
  exact K
theorem cond7_c (v : Value) (A : List Nat) (B bl : Nat) (w : World) (h : Ints w v (zs A)) (hA : Rl A) (_h8 : A.length ≤ 8) (hf : FlagsAt w B bl [6]) :
    Calls Tryz.prog 166 #[.agg #[.int .i64 (A.length : Int), v], .pointer (some ⟨bl, 0, none⟩)] w fun e w' => e = .returned (.bool (axB A 7)) ∧ Grew w w' := by
  have hvs : ∃ X m c, v = .slice X m c := by obtain ⟨A', c, e⟩ := ints_slice h; exact ⟨_, _, _, e⟩
  obtain ⟨u, h1, _, h2, h3⟩ := hf
  have K := flag1_all v u (A.length : Int) [6] (fun _ => conB A) bl w hvs h1 h2 h3.ints (fun x hx W hW => by rw [List.mem_singleton.1 hx]; exact hasFlag6_c v A W (h.grew hW) hA)
  rw [show ([6] : List Int).all (fun _ => conB A) = axB A 7 from Bool.and_true _] at K
  exact K
theorem cond8_c (v : Value) (A : List Nat) (B bl : Nat) (w : World) (h : Ints w v (zs A)) (hA : Rl A) (_h8 : A.length ≤ 8) (hf : FlagsAt w B bl [2, 7]) :
    Calls Tryz.prog 166 #[.agg #[.int .i64 (A.length : Int), v], .pointer (some ⟨bl, 0, none⟩)] w fun e w' => e = .returned (.bool (axB A 8)) ∧ Grew w w' := by
  have hvs : ∃ X m c, v = .slice X m c := by obtain ⟨A', c, e⟩ := ints_slice h; exact ⟨_, _, _, e⟩
  obtain ⟨u, h1, _, h2, h3⟩ := hf
  cases ht : transB A with
  | false =>
    have K := flag1_head v u (A.length : Int) 2 [7] bl w hvs h1 h2 h3.ints (fun W hW => by have := hasFlag2_c v A W (h.grew hW) hA; rwa [ht] at this)
    rw [show axB A 8 = (transB A && irrB A) from rfl, ht]
    exact K
  | true =>
    have K := flag1_all v u (A.length : Int) [2, 7] (fun x => if x = 2 then transB A else irrB A) bl w hvs h1 h2 h3.ints (fun x hx W hW => by
      rcases List.mem_cons.1 hx with rfl | hx
      · exact hasFlag2_c v A W (h.grew hW) hA
      · rw [List.mem_singleton.1 hx]; exact hasFlag7_c v A W (h.grew hW) hA ((transB_iff hA).1 ht))
    rw [show ([2, 7] : List Int).all (fun x => if x = 2 then transB A else irrB A) = axB A 8 from by
      show (transB A && (irrB A && true)) = _
      rw [Bool.and_true]; rfl] at K
    exact K
theorem cond9_c (v : Value) (A : List Nat) (B bl : Nat) (w : World) (h : Ints w v (zs A)) (hA : Rl A) (_h8 : A.length ≤ 8) (hf : FlagsAt w B bl [0]) :
    Calls Tryz.prog 166 #[.agg #[.int .i64 (A.length : Int), v], .pointer (some ⟨bl, 0, none⟩)] w fun e w' => e = .returned (.bool (axB A 9)) ∧ Grew w w' := by
  have hvs : ∃ X m c, v = .slice X m c := by obtain ⟨A', c, e⟩ := ints_slice h; exact ⟨_, _, _, e⟩
  obtain ⟨u, h1, _, h2, h3⟩ := hf
  have K := flag1_all v u (A.length : Int) [0] (fun _ => reflB A) bl w hvs h1 h2 h3.ints (fun x hx W hW => by rw [List.mem_singleton.1 hx]; exact hasFlag0_c v A W (h.grew hW) hA)
  rw [show ([0] : List Int).all (fun _ => reflB A) = axB A 9 from Bool.and_true _] at K
  exact K
theorem cond12_c (v : Value) (A : List Nat) (B bl : Nat) (w : World) (h : Ints w v (zs A)) (hA : Rl A) (_h8 : A.length ≤ 8) (hf : FlagsAt w B bl [0, 2, 8]) :
    Calls Tryz.prog 166 #[.agg #[.int .i64 (A.length : Int), v], .pointer (some ⟨bl, 0, none⟩)] w fun e w' => e = .returned (.bool (axB A 12)) ∧ Grew w w' := by
  have hvs : ∃ X m c, v = .slice X m c := by obtain ⟨A', c, e⟩ := ints_slice h; exact ⟨_, _, _, e⟩
  obtain ⟨u, h1, _, h2, h3⟩ := hf
  have K := flag1_all v u (A.length : Int) [0, 2, 8] (fun x => if x = 0 then reflB A else if x = 2 then transB A else antiB A) bl w hvs h1 h2 h3.ints (fun x hx W hW => by
    rcases List.mem_cons.1 hx with rfl | hx
    · exact hasFlag0_c v A W (h.grew hW) hA
    rcases List.mem_cons.1 hx with rfl | hx
    · exact hasFlag2_c v A W (h.grew hW) hA
    · rw [List.mem_singleton.1 hx]; exact hasFlag8_c v A W (h.grew hW) hA)
  rw [show ([0, 2, 8] : List Int).all (fun x => if x = 0 then reflB A else if x = 2 then transB A else antiB A) = axB A 12 from by
    show (reflB A && (transB A && (antiB A && true))) = _
    rw [Bool.and_true]; rfl] at K
  exact K
set_option maxRecDepth 100000 in
theorem condIx_0 (a0 a1 a2 a3 a4 a5 a6 a7 a8 a9 a10 a11 a12 : Value) (w : World) : (Instr.index 109 (.agg #[a0, a1, a2, a3, a4, a5, a6, a7, a8, a9, a10, a11, a12]) (.int .i64 0)).run Tryz.prog w = .ok a0 w := rfl
set_option maxRecDepth 100000 in
theorem condIx_1 (a0 a1 a2 a3 a4 a5 a6 a7 a8 a9 a10 a11 a12 : Value) (w : World) : (Instr.index 109 (.agg #[a0, a1, a2, a3, a4, a5, a6, a7, a8, a9, a10, a11, a12]) (.int .i64 1)).run Tryz.prog w = .ok a1 w := rfl
set_option maxRecDepth 100000 in
theorem condIx_2 (a0 a1 a2 a3 a4 a5 a6 a7 a8 a9 a10 a11 a12 : Value) (w : World) : (Instr.index 109 (.agg #[a0, a1, a2, a3, a4, a5, a6, a7, a8, a9, a10, a11, a12]) (.int .i64 2)).run Tryz.prog w = .ok a2 w := rfl
set_option maxRecDepth 100000 in
theorem condIx_3 (a0 a1 a2 a3 a4 a5 a6 a7 a8 a9 a10 a11 a12 : Value) (w : World) : (Instr.index 109 (.agg #[a0, a1, a2, a3, a4, a5, a6, a7, a8, a9, a10, a11, a12]) (.int .i64 3)).run Tryz.prog w = .ok a3 w := rfl
set_option maxRecDepth 100000 in
theorem condIx_4 (a0 a1 a2 a3 a4 a5 a6 a7 a8 a9 a10 a11 a12 : Value) (w : World) : (Instr.index 109 (.agg #[a0, a1, a2, a3, a4, a5, a6, a7, a8, a9, a10, a11, a12]) (.int .i64 4)).run Tryz.prog w = .ok a4 w := rfl
set_option maxRecDepth 100000 in
theorem condIx_5 (a0 a1 a2 a3 a4 a5 a6 a7 a8 a9 a10 a11 a12 : Value) (w : World) : (Instr.index 109 (.agg #[a0, a1, a2, a3, a4, a5, a6, a7, a8, a9, a10, a11, a12]) (.int .i64 5)).run Tryz.prog w = .ok a5 w := rfl
set_option maxRecDepth 100000 in
theorem condIx_6 (a0 a1 a2 a3 a4 a5 a6 a7 a8 a9 a10 a11 a12 : Value) (w : World) : (Instr.index 109 (.agg #[a0, a1, a2, a3, a4, a5, a6, a7, a8, a9, a10, a11, a12]) (.int .i64 6)).run Tryz.prog w = .ok a6 w := rfl
set_option maxRecDepth 100000 in
theorem condIx_7 (a0 a1 a2 a3 a4 a5 a6 a7 a8 a9 a10 a11 a12 : Value) (w : World) : (Instr.index 109 (.agg #[a0, a1, a2, a3, a4, a5, a6, a7, a8, a9, a10, a11, a12]) (.int .i64 7)).run Tryz.prog w = .ok a7 w := rfl
set_option maxRecDepth 100000 in
theorem condIx_8 (a0 a1 a2 a3 a4 a5 a6 a7 a8 a9 a10 a11 a12 : Value) (w : World) : (Instr.index 109 (.agg #[a0, a1, a2, a3, a4, a5, a6, a7, a8, a9, a10, a11, a12]) (.int .i64 8)).run Tryz.prog w = .ok a8 w := rfl
set_option maxRecDepth 100000 in
theorem condIx_9 (a0 a1 a2 a3 a4 a5 a6 a7 a8 a9 a10 a11 a12 : Value) (w : World) : (Instr.index 109 (.agg #[a0, a1, a2, a3, a4, a5, a6, a7, a8, a9, a10, a11, a12]) (.int .i64 9)).run Tryz.prog w = .ok a9 w := rfl
set_option maxRecDepth 100000 in
theorem condIx_10 (a0 a1 a2 a3 a4 a5 a6 a7 a8 a9 a10 a11 a12 : Value) (w : World) : (Instr.index 109 (.agg #[a0, a1, a2, a3, a4, a5, a6, a7, a8, a9, a10, a11, a12]) (.int .i64 10)).run Tryz.prog w = .ok a10 w := rfl
set_option maxRecDepth 100000 in
theorem condIx_11 (a0 a1 a2 a3 a4 a5 a6 a7 a8 a9 a10 a11 a12 : Value) (w : World) : (Instr.index 109 (.agg #[a0, a1, a2, a3, a4, a5, a6, a7, a8, a9, a10, a11, a12]) (.int .i64 11)).run Tryz.prog w = .ok a11 w := rfl
set_option maxRecDepth 100000 in
theorem condIx_12 (a0 a1 a2 a3 a4 a5 a6 a7 a8 a9 a10 a11 a12 : Value) (w : World) : (Instr.index 109 (.agg #[a0, a1, a2, a3, a4, a5, a6, a7, a8, a9, a10, a11, a12]) (.int .i64 12)).run Tryz.prog w = .ok a12 w := rfl
set_option maxHeartbeats 1000000 in
set_option maxRecDepth 100000 in
theorem axiomHolds_0 (v : Value) (A : List Nat) (w : World) (h : Ints w v (zs A)) (hA : Rl A) (h8 : A.length ≤ 8) (hN : TabAt w 1 axNames) (hf : findS axNames ⟨#[52]⟩ = 0) :
    Calls Tryz.prog 48 #[.agg #[.int .i64 (A.length : Int), v], .string ⟨#[52]⟩] w fun e w' => e = .returned (.bool (axB A 0)) ∧ Grew w w' := by
  have HT := Lib.hid (fun W (hW : Grew w W) => axiomAt_c ⟨#[52]⟩ W (hN.grew hW))
  rw [hf] at HT
  have HD := Lib.hid (fun W (hW : Grew w W) (B bl : Nat) (hf : FlagsAt W B bl [2]) => cond0_c _ A B bl W (h.grew hW) hA h8 hf)
  have hal := (Grew.refl w).alloc (.cells #[.int .i64 (A.length : Int), v] 26)
  obtain ⟨w1, hw1⟩ : ∃ w1, w1 = w.alloc (.cells #[.int .i64 (A.length : Int), v] 26) := ⟨_, rfl⟩
  rw [← hw1] at hal
  have hb0 : w1.heap[w.heap.size]? = some (.cells #[.int .i64 (A.length : Int), v] 26 (0, 0)) := by rw [hw1]; exact blk_new w _
  have p0 : ∀ W, Grew w1 W → W.cell? ⟨w.heap.size, 0, none⟩ = some (.int .i64 (A.length : Int)) := fun W hW => by rw [blk_cell ((hW.block (blk_lt hb0)).trans hb0)]; rfl
  have p1 : ∀ W, Grew w1 W → W.cell? ⟨w.heap.size, 1, none⟩ = some v := fun W hW => by rw [blk_cell ((hW.block (blk_lt hb0)).trans hb0)]; rfl
  have HAL := Lib.hid hal
  obtain ⟨A1, c1, rfl⟩ := ints_sliceN h
  have r1 := Grew.refl w1
  have d1 := r1.drew
  have hix := condIx_0
  clear h hA hb0 hal h8
  generalize axB A 0 = R at *
  generalize A.length = n at *
  go_enter Tryz.func48, Tryz.ntmps48
  go_wp2_with fail
  simp only [← hw1]
  clear hw1
  go_region_held3 (fun w' => Grew w1 w') (first | assumption | exact Grew.drew ‹_›) (first
    | (go_at_call 166; refine (HD.out _ (HAL.out.trans h3) _ _ (f0.out.grew hg3)).mono ?_; rintro e w4 ⟨rfl, hg4⟩; have h4 := h3.trans hg4)
    | (go_at_call 47; refine (HT.out _ (HAL.out.trans h2)).mono ?_; rintro e w3 ⟨rfl, hg3⟩; have h3 := h2.trans hg3)
    | (go_at_call 91; refine (conditions_c _).mono ?_; rintro e w2 ⟨b0, b1, b2, b3, b4, b5, b6, b7, b8, b9, b10, rfl, f0, -, -, -, -, -, -, -, -, -, -, hg2⟩; have f0 := Lib.hid f0; have h2 := d1.trans hg2))
  go_wp2_with fail
  go_ret
  exact ⟨rfl, HAL.out.trans h4⟩
set_option maxHeartbeats 1000000 in
set_option maxRecDepth 100000 in
theorem axiomHolds_1 (v : Value) (A : List Nat) (w : World) (h : Ints w v (zs A)) (hA : Rl A) (h8 : A.length ≤ 8) (hN : TabAt w 1 axNames) (hf : findS axNames ⟨#[53]⟩ = 1) :
    Calls Tryz.prog 48 #[.agg #[.int .i64 (A.length : Int), v], .string ⟨#[53]⟩] w fun e w' => e = .returned (.bool (axB A 1)) ∧ Grew w w' := by
  have HT := Lib.hid (fun W (hW : Grew w W) => axiomAt_c ⟨#[53]⟩ W (hN.grew hW))
  rw [hf] at HT
  have HD := Lib.hid (fun W (hW : Grew w W) (B bl : Nat) (hf : FlagsAt W B bl [4]) => cond1_c _ A B bl W (h.grew hW) hA h8 hf)
  have hal := (Grew.refl w).alloc (.cells #[.int .i64 (A.length : Int), v] 26)
  obtain ⟨w1, hw1⟩ : ∃ w1, w1 = w.alloc (.cells #[.int .i64 (A.length : Int), v] 26) := ⟨_, rfl⟩
  rw [← hw1] at hal
  have hb0 : w1.heap[w.heap.size]? = some (.cells #[.int .i64 (A.length : Int), v] 26 (0, 0)) := by rw [hw1]; exact blk_new w _
  have p0 : ∀ W, Grew w1 W → W.cell? ⟨w.heap.size, 0, none⟩ = some (.int .i64 (A.length : Int)) := fun W hW => by rw [blk_cell ((hW.block (blk_lt hb0)).trans hb0)]; rfl
  have p1 : ∀ W, Grew w1 W → W.cell? ⟨w.heap.size, 1, none⟩ = some v := fun W hW => by rw [blk_cell ((hW.block (blk_lt hb0)).trans hb0)]; rfl
  have HAL := Lib.hid hal
  obtain ⟨A1, c1, rfl⟩ := ints_sliceN h
  have r1 := Grew.refl w1
  have d1 := r1.drew
  have hix := condIx_1
  clear h hA hb0 hal h8
  generalize axB A 1 = R at *
  generalize A.length = n at *
  go_enter Tryz.func48, Tryz.ntmps48
  go_wp2_with fail
  simp only [← hw1]
  clear hw1
  go_region_held3 (fun w' => Grew w1 w') (first | assumption | exact Grew.drew ‹_›) (first
    | (go_at_call 166; refine (HD.out _ (HAL.out.trans h3) _ _ (f1.out.grew hg3)).mono ?_; rintro e w4 ⟨rfl, hg4⟩; have h4 := h3.trans hg4)
    | (go_at_call 47; refine (HT.out _ (HAL.out.trans h2)).mono ?_; rintro e w3 ⟨rfl, hg3⟩; have h3 := h2.trans hg3)
    | (go_at_call 91; refine (conditions_c _).mono ?_; rintro e w2 ⟨b0, b1, b2, b3, b4, b5, b6, b7, b8, b9, b10, rfl, -, f1, -, -, -, -, -, -, -, -, -, hg2⟩; have f1 := Lib.hid f1; have h2 := d1.trans hg2))
  go_wp2_with fail
  go_ret
  exact ⟨rfl, HAL.out.trans h4⟩
set_option maxHeartbeats 1000000 in
set_option maxRecDepth 100000 in
theorem axiomHolds_2 (v : Value) (A : List Nat) (w : World) (h : Ints w v (zs A)) (hA : Rl A) (h8 : A.length ≤ 8) (hN : TabAt w 1 axNames) (hf : findS axNames ⟨#[66]⟩ = 2) :
    Calls Tryz.prog 48 #[.agg #[.int .i64 (A.length : Int), v], .string ⟨#[66]⟩] w fun e w' => e = .returned (.bool (axB A 2)) ∧ Grew w w' := by
  have HT := Lib.hid (fun W (hW : Grew w W) => axiomAt_c ⟨#[66]⟩ W (hN.grew hW))
  rw [hf] at HT
  have HD := Lib.hid (fun W (hW : Grew w W) (B bl : Nat) (hf : FlagsAt W B bl [3]) => cond2_c _ A B bl W (h.grew hW) hA h8 hf)
  have hal := (Grew.refl w).alloc (.cells #[.int .i64 (A.length : Int), v] 26)
  obtain ⟨w1, hw1⟩ : ∃ w1, w1 = w.alloc (.cells #[.int .i64 (A.length : Int), v] 26) := ⟨_, rfl⟩
  rw [← hw1] at hal
  have hb0 : w1.heap[w.heap.size]? = some (.cells #[.int .i64 (A.length : Int), v] 26 (0, 0)) := by rw [hw1]; exact blk_new w _
  have p0 : ∀ W, Grew w1 W → W.cell? ⟨w.heap.size, 0, none⟩ = some (.int .i64 (A.length : Int)) := fun W hW => by rw [blk_cell ((hW.block (blk_lt hb0)).trans hb0)]; rfl
  have p1 : ∀ W, Grew w1 W → W.cell? ⟨w.heap.size, 1, none⟩ = some v := fun W hW => by rw [blk_cell ((hW.block (blk_lt hb0)).trans hb0)]; rfl
  have HAL := Lib.hid hal
  obtain ⟨A1, c1, rfl⟩ := ints_sliceN h
  have r1 := Grew.refl w1
  have d1 := r1.drew
  have hix := condIx_2
  clear h hA hb0 hal h8
  generalize axB A 2 = R at *
  generalize A.length = n at *
  go_enter Tryz.func48, Tryz.ntmps48
  go_wp2_with fail
  simp only [← hw1]
  clear hw1
  go_region_held3 (fun w' => Grew w1 w') (first | assumption | exact Grew.drew ‹_›) (first
    | (go_at_call 166; refine (HD.out _ (HAL.out.trans h3) _ _ (f2.out.grew hg3)).mono ?_; rintro e w4 ⟨rfl, hg4⟩; have h4 := h3.trans hg4)
    | (go_at_call 47; refine (HT.out _ (HAL.out.trans h2)).mono ?_; rintro e w3 ⟨rfl, hg3⟩; have h3 := h2.trans hg3)
    | (go_at_call 91; refine (conditions_c _).mono ?_; rintro e w2 ⟨b0, b1, b2, b3, b4, b5, b6, b7, b8, b9, b10, rfl, -, -, f2, -, -, -, -, -, -, -, -, hg2⟩; have f2 := Lib.hid f2; have h2 := d1.trans hg2))
  go_wp2_with fail
  go_ret
  exact ⟨rfl, HAL.out.trans h4⟩
set_option maxHeartbeats 1000000 in
set_option maxRecDepth 100000 in
theorem axiomHolds_3 (v : Value) (A : List Nat) (w : World) (h : Ints w v (zs A)) (hA : Rl A) (h8 : A.length ≤ 8) (hN : TabAt w 1 axNames) (hf : findS axNames ⟨#[67]⟩ = 3) :
    Calls Tryz.prog 48 #[.agg #[.int .i64 (A.length : Int), v], .string ⟨#[67]⟩] w fun e w' => e = .returned (.bool (axB A 3)) ∧ Grew w w' := by
  have HT := Lib.hid (fun W (hW : Grew w W) => axiomAt_c ⟨#[67]⟩ W (hN.grew hW))
  rw [hf] at HT
  have HD := Lib.hid (fun W (hW : Grew w W) (B bl : Nat) (hf : FlagsAt W B bl [9]) => cond3_c _ A B bl W (h.grew hW) hA h8 hf)
  have hal := (Grew.refl w).alloc (.cells #[.int .i64 (A.length : Int), v] 26)
  obtain ⟨w1, hw1⟩ : ∃ w1, w1 = w.alloc (.cells #[.int .i64 (A.length : Int), v] 26) := ⟨_, rfl⟩
  rw [← hw1] at hal
  have hb0 : w1.heap[w.heap.size]? = some (.cells #[.int .i64 (A.length : Int), v] 26 (0, 0)) := by rw [hw1]; exact blk_new w _
  have p0 : ∀ W, Grew w1 W → W.cell? ⟨w.heap.size, 0, none⟩ = some (.int .i64 (A.length : Int)) := fun W hW => by rw [blk_cell ((hW.block (blk_lt hb0)).trans hb0)]; rfl
  have p1 : ∀ W, Grew w1 W → W.cell? ⟨w.heap.size, 1, none⟩ = some v := fun W hW => by rw [blk_cell ((hW.block (blk_lt hb0)).trans hb0)]; rfl
  have HAL := Lib.hid hal
  obtain ⟨A1, c1, rfl⟩ := ints_sliceN h
  have r1 := Grew.refl w1
  have d1 := r1.drew
  have hix := condIx_3
  clear h hA hb0 hal h8
  generalize axB A 3 = R at *
  generalize A.length = n at *
  go_enter Tryz.func48, Tryz.ntmps48
  go_wp2_with fail
  simp only [← hw1]
  clear hw1
  go_region_held3 (fun w' => Grew w1 w') (first | assumption | exact Grew.drew ‹_›) (first
    | (go_at_call 166; refine (HD.out _ (HAL.out.trans h3) _ _ (f3.out.grew hg3)).mono ?_; rintro e w4 ⟨rfl, hg4⟩; have h4 := h3.trans hg4)
    | (go_at_call 47; refine (HT.out _ (HAL.out.trans h2)).mono ?_; rintro e w3 ⟨rfl, hg3⟩; have h3 := h2.trans hg3)
    | (go_at_call 91; refine (conditions_c _).mono ?_; rintro e w2 ⟨b0, b1, b2, b3, b4, b5, b6, b7, b8, b9, b10, rfl, -, -, -, f3, -, -, -, -, -, -, -, hg2⟩; have f3 := Lib.hid f3; have h2 := d1.trans hg2))
  go_wp2_with fail
  go_ret
  exact ⟨rfl, HAL.out.trans h4⟩
set_option maxHeartbeats 1000000 in
set_option maxRecDepth 100000 in
theorem axiomHolds_4 (v : Value) (A : List Nat) (w : World) (h : Ints w v (zs A)) (hA : Rl A) (h8 : A.length ≤ 8) (hN : TabAt w 1 axNames) (hf : findS axNames ⟨#[68]⟩ = 4) :
    Calls Tryz.prog 48 #[.agg #[.int .i64 (A.length : Int), v], .string ⟨#[68]⟩] w fun e w' => e = .returned (.bool (axB A 4)) ∧ Grew w w' := by
  have HT := Lib.hid (fun W (hW : Grew w W) => axiomAt_c ⟨#[68]⟩ W (hN.grew hW))
  rw [hf] at HT
  have HD := Lib.hid (fun W (hW : Grew w W) (B bl : Nat) (hf : FlagsAt W B bl [1]) => cond4_c _ A B bl W (h.grew hW) hA h8 hf)
  have hal := (Grew.refl w).alloc (.cells #[.int .i64 (A.length : Int), v] 26)
  obtain ⟨w1, hw1⟩ : ∃ w1, w1 = w.alloc (.cells #[.int .i64 (A.length : Int), v] 26) := ⟨_, rfl⟩
  rw [← hw1] at hal
  have hb0 : w1.heap[w.heap.size]? = some (.cells #[.int .i64 (A.length : Int), v] 26 (0, 0)) := by rw [hw1]; exact blk_new w _
  have p0 : ∀ W, Grew w1 W → W.cell? ⟨w.heap.size, 0, none⟩ = some (.int .i64 (A.length : Int)) := fun W hW => by rw [blk_cell ((hW.block (blk_lt hb0)).trans hb0)]; rfl
  have p1 : ∀ W, Grew w1 W → W.cell? ⟨w.heap.size, 1, none⟩ = some v := fun W hW => by rw [blk_cell ((hW.block (blk_lt hb0)).trans hb0)]; rfl
  have HAL := Lib.hid hal
  obtain ⟨A1, c1, rfl⟩ := ints_sliceN h
  have r1 := Grew.refl w1
  have d1 := r1.drew
  have hix := condIx_4
  clear h hA hb0 hal h8
  generalize axB A 4 = R at *
  generalize A.length = n at *
  go_enter Tryz.func48, Tryz.ntmps48
  go_wp2_with fail
  simp only [← hw1]
  clear hw1
  go_region_held3 (fun w' => Grew w1 w') (first | assumption | exact Grew.drew ‹_›) (first
    | (go_at_call 166; refine (HD.out _ (HAL.out.trans h3) _ _ (f4.out.grew hg3)).mono ?_; rintro e w4 ⟨rfl, hg4⟩; have h4 := h3.trans hg4)
    | (go_at_call 47; refine (HT.out _ (HAL.out.trans h2)).mono ?_; rintro e w3 ⟨rfl, hg3⟩; have h3 := h2.trans hg3)
    | (go_at_call 91; refine (conditions_c _).mono ?_; rintro e w2 ⟨b0, b1, b2, b3, b4, b5, b6, b7, b8, b9, b10, rfl, -, -, -, -, f4, -, -, -, -, -, -, hg2⟩; have f4 := Lib.hid f4; have h2 := d1.trans hg2))
  go_wp2_with fail
  go_ret
  exact ⟨rfl, HAL.out.trans h4⟩
set_option maxHeartbeats 1000000 in
set_option maxRecDepth 100000 in
theorem axiomHolds_5 (v : Value) (A : List Nat) (w : World) (h : Ints w v (zs A)) (hA : Rl A) (h8 : A.length ≤ 8) (hN : TabAt w 1 axNames) (hf : findS axNames ⟨#[70]⟩ = 5) :
    Calls Tryz.prog 48 #[.agg #[.int .i64 (A.length : Int), v], .string ⟨#[70]⟩] w fun e w' => e = .returned (.bool (axB A 5)) ∧ Grew w w' := by
  have HT := Lib.hid (fun W (hW : Grew w W) => axiomAt_c ⟨#[70]⟩ W (hN.grew hW))
  rw [hf] at HT
  have HD := Lib.hid (fun W (hW : Grew w W) (B bl : Nat) (hf : FlagsAt W B bl [10]) => cond5_c _ A B bl W (h.grew hW) hA h8 hf)
  have hal := (Grew.refl w).alloc (.cells #[.int .i64 (A.length : Int), v] 26)
  obtain ⟨w1, hw1⟩ : ∃ w1, w1 = w.alloc (.cells #[.int .i64 (A.length : Int), v] 26) := ⟨_, rfl⟩
  rw [← hw1] at hal
  have hb0 : w1.heap[w.heap.size]? = some (.cells #[.int .i64 (A.length : Int), v] 26 (0, 0)) := by rw [hw1]; exact blk_new w _
  have p0 : ∀ W, Grew w1 W → W.cell? ⟨w.heap.size, 0, none⟩ = some (.int .i64 (A.length : Int)) := fun W hW => by rw [blk_cell ((hW.block (blk_lt hb0)).trans hb0)]; rfl
  have p1 : ∀ W, Grew w1 W → W.cell? ⟨w.heap.size, 1, none⟩ = some v := fun W hW => by rw [blk_cell ((hW.block (blk_lt hb0)).trans hb0)]; rfl
  have HAL := Lib.hid hal
  obtain ⟨A1, c1, rfl⟩ := ints_sliceN h
  have r1 := Grew.refl w1
  have d1 := r1.drew
  have hix := condIx_5
  clear h hA hb0 hal h8
  generalize axB A 5 = R at *
  generalize A.length = n at *
  go_enter Tryz.func48, Tryz.ntmps48
  go_wp2_with fail
  simp only [← hw1]
  clear hw1
  go_region_held3 (fun w' => Grew w1 w') (first | assumption | exact Grew.drew ‹_›) (first
    | (go_at_call 166; refine (HD.out _ (HAL.out.trans h3) _ _ (f5.out.grew hg3)).mono ?_; rintro e w4 ⟨rfl, hg4⟩; have h4 := h3.trans hg4)
    | (go_at_call 47; refine (HT.out _ (HAL.out.trans h2)).mono ?_; rintro e w3 ⟨rfl, hg3⟩; have h3 := h2.trans hg3)
    | (go_at_call 91; refine (conditions_c _).mono ?_; rintro e w2 ⟨b0, b1, b2, b3, b4, b5, b6, b7, b8, b9, b10, rfl, -, -, -, -, -, f5, -, -, -, -, -, hg2⟩; have f5 := Lib.hid f5; have h2 := d1.trans hg2))
  go_wp2_with fail
  go_ret
  exact ⟨rfl, HAL.out.trans h4⟩
set_option maxHeartbeats 1000000 in
set_option maxRecDepth 100000 in
theorem axiomHolds_6 (v : Value) (A : List Nat) (w : World) (h : Ints w v (zs A)) (hA : Rl A) (h8 : A.length ≤ 8) (hN : TabAt w 1 axNames) (hf : findS axNames ⟨#[71]⟩ = 6) :
    Calls Tryz.prog 48 #[.agg #[.int .i64 (A.length : Int), v], .string ⟨#[71]⟩] w fun e w' => e = .returned (.bool (axB A 6)) ∧ Grew w w' := by
  have HT := Lib.hid (fun W (hW : Grew w W) => axiomAt_c ⟨#[71]⟩ W (hN.grew hW))
  rw [hf] at HT
  have HD := Lib.hid (fun W (hW : Grew w W) (B bl : Nat) (hf : FlagsAt W B bl [5]) => cond6_c _ A B bl W (h.grew hW) hA h8 hf)
  have hal := (Grew.refl w).alloc (.cells #[.int .i64 (A.length : Int), v] 26)
  obtain ⟨w1, hw1⟩ : ∃ w1, w1 = w.alloc (.cells #[.int .i64 (A.length : Int), v] 26) := ⟨_, rfl⟩
  rw [← hw1] at hal
  have hb0 : w1.heap[w.heap.size]? = some (.cells #[.int .i64 (A.length : Int), v] 26 (0, 0)) := by rw [hw1]; exact blk_new w _
  have p0 : ∀ W, Grew w1 W → W.cell? ⟨w.heap.size, 0, none⟩ = some (.int .i64 (A.length : Int)) := fun W hW => by rw [blk_cell ((hW.block (blk_lt hb0)).trans hb0)]; rfl
  have p1 : ∀ W, Grew w1 W → W.cell? ⟨w.heap.size, 1, none⟩ = some v := fun W hW => by rw [blk_cell ((hW.block (blk_lt hb0)).trans hb0)]; rfl
  have HAL := Lib.hid hal
  obtain ⟨A1, c1, rfl⟩ := ints_sliceN h
  have r1 := Grew.refl w1
  have d1 := r1.drew
  have hix := condIx_6
  clear h hA hb0 hal h8
  generalize axB A 6 = R at *
  generalize A.length = n at *
  go_enter Tryz.func48, Tryz.ntmps48
  go_wp2_with fail
  simp only [← hw1]
  clear hw1
  go_region_held3 (fun w' => Grew w1 w') (first | assumption | exact Grew.drew ‹_›) (first
    | (go_at_call 166; refine (HD.out _ (HAL.out.trans h3) _ _ (f6.out.grew hg3)).mono ?_; rintro e w4 ⟨rfl, hg4⟩; have h4 := h3.trans hg4)
    | (go_at_call 47; refine (HT.out _ (HAL.out.trans h2)).mono ?_; rintro e w3 ⟨rfl, hg3⟩; have h3 := h2.trans hg3)
    | (go_at_call 91; refine (conditions_c _).mono ?_; rintro e w2 ⟨b0, b1, b2, b3, b4, b5, b6, b7, b8, b9, b10, rfl, -, -, -, -, -, -, f6, -, -, -, -, hg2⟩; have f6 := Lib.hid f6; have h2 := d1.trans hg2))
  go_wp2_with fail
  go_ret
  exact ⟨rfl, HAL.out.trans h4⟩
set_option maxHeartbeats 1000000 in
set_option maxRecDepth 100000 in
theorem axiomHolds_7 (v : Value) (A : List Nat) (w : World) (h : Ints w v (zs A)) (hA : Rl A) (h8 : A.length ≤ 8) (hN : TabAt w 1 axNames) (hf : findS axNames ⟨#[72]⟩ = 7) :
    Calls Tryz.prog 48 #[.agg #[.int .i64 (A.length : Int), v], .string ⟨#[72]⟩] w fun e w' => e = .returned (.bool (axB A 7)) ∧ Grew w w' := by
  have HT := Lib.hid (fun W (hW : Grew w W) => axiomAt_c ⟨#[72]⟩ W (hN.grew hW))
  rw [hf] at HT
  have HD := Lib.hid (fun W (hW : Grew w W) (B bl : Nat) (hf : FlagsAt W B bl [6]) => cond7_c _ A B bl W (h.grew hW) hA h8 hf)
  have hal := (Grew.refl w).alloc (.cells #[.int .i64 (A.length : Int), v] 26)
  obtain ⟨w1, hw1⟩ : ∃ w1, w1 = w.alloc (.cells #[.int .i64 (A.length : Int), v] 26) := ⟨_, rfl⟩
  rw [← hw1] at hal
  have hb0 : w1.heap[w.heap.size]? = some (.cells #[.int .i64 (A.length : Int), v] 26 (0, 0)) := by rw [hw1]; exact blk_new w _
  have p0 : ∀ W, Grew w1 W → W.cell? ⟨w.heap.size, 0, none⟩ = some (.int .i64 (A.length : Int)) := fun W hW => by rw [blk_cell ((hW.block (blk_lt hb0)).trans hb0)]; rfl
  have p1 : ∀ W, Grew w1 W → W.cell? ⟨w.heap.size, 1, none⟩ = some v := fun W hW => by rw [blk_cell ((hW.block (blk_lt hb0)).trans hb0)]; rfl
  have HAL := Lib.hid hal
  obtain ⟨A1, c1, rfl⟩ := ints_sliceN h
  have r1 := Grew.refl w1
  have d1 := r1.drew
  have hix := condIx_7
  clear h hA hb0 hal h8
  generalize axB A 7 = R at *
  generalize A.length = n at *
  go_enter Tryz.func48, Tryz.ntmps48
  go_wp2_with fail
  simp only [← hw1]
  clear hw1
  go_region_held3 (fun w' => Grew w1 w') (first | assumption | exact Grew.drew ‹_›) (first
    | (go_at_call 166; refine (HD.out _ (HAL.out.trans h3) _ _ (f7.out.grew hg3)).mono ?_; rintro e w4 ⟨rfl, hg4⟩; have h4 := h3.trans hg4)
    | (go_at_call 47; refine (HT.out _ (HAL.out.trans h2)).mono ?_; rintro e w3 ⟨rfl, hg3⟩; have h3 := h2.trans hg3)
    | (go_at_call 91; refine (conditions_c _).mono ?_; rintro e w2 ⟨b0, b1, b2, b3, b4, b5, b6, b7, b8, b9, b10, rfl, -, -, -, -, -, -, -, f7, -, -, -, hg2⟩; have f7 := Lib.hid f7; have h2 := d1.trans hg2))
  go_wp2_with fail
  go_ret
  exact ⟨rfl, HAL.out.trans h4⟩
set_option maxHeartbeats 1000000 in
set_option maxRecDepth 100000 in
theorem axiomHolds_8 (v : Value) (A : List Nat) (w : World) (h : Ints w v (zs A)) (hA : Rl A) (h8 : A.length ≤ 8) (hN : TabAt w 1 axNames) (hf : findS axNames ⟨#[76]⟩ = 8) :
    Calls Tryz.prog 48 #[.agg #[.int .i64 (A.length : Int), v], .string ⟨#[76]⟩] w fun e w' => e = .returned (.bool (axB A 8)) ∧ Grew w w' := by
  have HT := Lib.hid (fun W (hW : Grew w W) => axiomAt_c ⟨#[76]⟩ W (hN.grew hW))
  rw [hf] at HT
  have HD := Lib.hid (fun W (hW : Grew w W) (B bl : Nat) (hf : FlagsAt W B bl [2, 7]) => cond8_c _ A B bl W (h.grew hW) hA h8 hf)
  have hal := (Grew.refl w).alloc (.cells #[.int .i64 (A.length : Int), v] 26)
  obtain ⟨w1, hw1⟩ : ∃ w1, w1 = w.alloc (.cells #[.int .i64 (A.length : Int), v] 26) := ⟨_, rfl⟩
  rw [← hw1] at hal
  have hb0 : w1.heap[w.heap.size]? = some (.cells #[.int .i64 (A.length : Int), v] 26 (0, 0)) := by rw [hw1]; exact blk_new w _
  have p0 : ∀ W, Grew w1 W → W.cell? ⟨w.heap.size, 0, none⟩ = some (.int .i64 (A.length : Int)) := fun W hW => by rw [blk_cell ((hW.block (blk_lt hb0)).trans hb0)]; rfl
  have p1 : ∀ W, Grew w1 W → W.cell? ⟨w.heap.size, 1, none⟩ = some v := fun W hW => by rw [blk_cell ((hW.block (blk_lt hb0)).trans hb0)]; rfl
  have HAL := Lib.hid hal
  obtain ⟨A1, c1, rfl⟩ := ints_sliceN h
  have r1 := Grew.refl w1
  have d1 := r1.drew
  have hix := condIx_8
  clear h hA hb0 hal h8
  generalize axB A 8 = R at *
  generalize A.length = n at *
  go_enter Tryz.func48, Tryz.ntmps48
  go_wp2_with fail
  simp only [← hw1]
  clear hw1
  go_region_held3 (fun w' => Grew w1 w') (first | assumption | exact Grew.drew ‹_›) (first
    | (go_at_call 166; refine (HD.out _ (HAL.out.trans h3) _ _ (f8.out.grew hg3)).mono ?_; rintro e w4 ⟨rfl, hg4⟩; have h4 := h3.trans hg4)
    | (go_at_call 47; refine (HT.out _ (HAL.out.trans h2)).mono ?_; rintro e w3 ⟨rfl, hg3⟩; have h3 := h2.trans hg3)
    | (go_at_call 91; refine (conditions_c _).mono ?_; rintro e w2 ⟨b0, b1, b2, b3, b4, b5, b6, b7, b8, b9, b10, rfl, -, -, -, -, -, -, -, -, f8, -, -, hg2⟩; have f8 := Lib.hid f8; have h2 := d1.trans hg2))
  go_wp2_with fail
  go_ret
  exact ⟨rfl, HAL.out.trans h4⟩
set_option maxHeartbeats 1000000 in
set_option maxRecDepth 100000 in
theorem axiomHolds_9 (v : Value) (A : List Nat) (w : World) (h : Ints w v (zs A)) (hA : Rl A) (h8 : A.length ≤ 8) (hN : TabAt w 1 axNames) (hf : findS axNames ⟨#[84]⟩ = 9) :
    Calls Tryz.prog 48 #[.agg #[.int .i64 (A.length : Int), v], .string ⟨#[84]⟩] w fun e w' => e = .returned (.bool (axB A 9)) ∧ Grew w w' := by
  have HT := Lib.hid (fun W (hW : Grew w W) => axiomAt_c ⟨#[84]⟩ W (hN.grew hW))
  rw [hf] at HT
  have HD := Lib.hid (fun W (hW : Grew w W) (B bl : Nat) (hf : FlagsAt W B bl [0]) => cond9_c _ A B bl W (h.grew hW) hA h8 hf)
  have hal := (Grew.refl w).alloc (.cells #[.int .i64 (A.length : Int), v] 26)
  obtain ⟨w1, hw1⟩ : ∃ w1, w1 = w.alloc (.cells #[.int .i64 (A.length : Int), v] 26) := ⟨_, rfl⟩
  rw [← hw1] at hal
  have hb0 : w1.heap[w.heap.size]? = some (.cells #[.int .i64 (A.length : Int), v] 26 (0, 0)) := by rw [hw1]; exact blk_new w _
  have p0 : ∀ W, Grew w1 W → W.cell? ⟨w.heap.size, 0, none⟩ = some (.int .i64 (A.length : Int)) := fun W hW => by rw [blk_cell ((hW.block (blk_lt hb0)).trans hb0)]; rfl
  have p1 : ∀ W, Grew w1 W → W.cell? ⟨w.heap.size, 1, none⟩ = some v := fun W hW => by rw [blk_cell ((hW.block (blk_lt hb0)).trans hb0)]; rfl
  have HAL := Lib.hid hal
  obtain ⟨A1, c1, rfl⟩ := ints_sliceN h
  have r1 := Grew.refl w1
  have d1 := r1.drew
  have hix := condIx_9
  clear h hA hb0 hal h8
  generalize axB A 9 = R at *
  generalize A.length = n at *
  go_enter Tryz.func48, Tryz.ntmps48
  go_wp2_with fail
  simp only [← hw1]
  clear hw1
  go_region_held3 (fun w' => Grew w1 w') (first | assumption | exact Grew.drew ‹_›) (first
    | (go_at_call 166; refine (HD.out _ (HAL.out.trans h3) _ _ (f9.out.grew hg3)).mono ?_; rintro e w4 ⟨rfl, hg4⟩; have h4 := h3.trans hg4)
    | (go_at_call 47; refine (HT.out _ (HAL.out.trans h2)).mono ?_; rintro e w3 ⟨rfl, hg3⟩; have h3 := h2.trans hg3)
    | (go_at_call 91; refine (conditions_c _).mono ?_; rintro e w2 ⟨b0, b1, b2, b3, b4, b5, b6, b7, b8, b9, b10, rfl, -, -, -, -, -, -, -, -, -, f9, -, hg2⟩; have f9 := Lib.hid f9; have h2 := d1.trans hg2))
  go_wp2_with fail
  go_ret
  exact ⟨rfl, HAL.out.trans h4⟩
set_option maxHeartbeats 1000000 in
set_option maxRecDepth 100000 in
theorem axiomHolds_10 (v : Value) (A : List Nat) (w : World) (h : Ints w v (zs A)) (hA : Rl A) (_h8 : A.length ≤ 8) (hN : TabAt w 1 axNames) (hf : findS axNames ⟨#[86]⟩ = 10) :
    Calls Tryz.prog 48 #[.agg #[.int .i64 (A.length : Int), v], .string ⟨#[86]⟩] w fun e w' => e = .returned (.bool (axB A 10)) ∧ Grew w w' := by
  have HT := Lib.hid (fun W (hW : Grew w W) => axiomAt_c ⟨#[86]⟩ W (hN.grew hW))
  rw [hf] at HT
  have HD := Lib.hid (fun W (hW : Grew w W)  => ver_c _ A _ (h.grew hW) hA)
  rw [show verB A = axB A 10 from rfl] at HD
  have hal := (Grew.refl w).alloc (.cells #[.int .i64 (A.length : Int), v] 26)
  obtain ⟨w1, hw1⟩ : ∃ w1, w1 = w.alloc (.cells #[.int .i64 (A.length : Int), v] 26) := ⟨_, rfl⟩
  rw [← hw1] at hal
  have hb0 : w1.heap[w.heap.size]? = some (.cells #[.int .i64 (A.length : Int), v] 26 (0, 0)) := by rw [hw1]; exact blk_new w _
  have p0 : ∀ W, Grew w1 W → W.cell? ⟨w.heap.size, 0, none⟩ = some (.int .i64 (A.length : Int)) := fun W hW => by rw [blk_cell ((hW.block (blk_lt hb0)).trans hb0)]; rfl
  have p1 : ∀ W, Grew w1 W → W.cell? ⟨w.heap.size, 1, none⟩ = some v := fun W hW => by rw [blk_cell ((hW.block (blk_lt hb0)).trans hb0)]; rfl
  have HAL := Lib.hid hal
  obtain ⟨A1, c1, rfl⟩ := ints_sliceN h
  have r1 := Grew.refl w1
  have d1 := r1.drew
  have hix := condIx_10
  clear h hA hb0 hal _h8
  generalize axB A 10 = R at *
  generalize A.length = n at *
  go_enter Tryz.func48, Tryz.ntmps48
  go_wp2_with fail
  simp only [← hw1]
  clear hw1
  go_region_held3 (fun w' => Grew w1 w') (first | assumption | exact Grew.drew ‹_›) (first
    | (go_at_call 133; refine (HD.out _ (HAL.out.trans h3)).mono ?_; rintro e w4 ⟨rfl, hg4⟩; have h4 := h3.trans hg4)
    | (go_at_call 47; refine (HT.out _ (HAL.out.trans h2)).mono ?_; rintro e w3 ⟨rfl, hg3⟩; have h3 := h2.trans hg3)
    | (go_at_call 91; refine (conditions_c _).mono ?_; rintro e w2 ⟨b0, b1, b2, b3, b4, b5, b6, b7, b8, b9, b10, rfl, -, -, -, -, -, -, -, -, -, -, -, hg2⟩; have h2 := d1.trans hg2))
  go_wp2_with fail
  go_ret
  exact ⟨rfl, HAL.out.trans h4⟩
set_option maxHeartbeats 1000000 in
set_option maxRecDepth 100000 in
theorem axiomHolds_11 (v : Value) (A : List Nat) (w : World) (h : Ints w v (zs A)) (hA : Rl A) (_h8 : A.length ≤ 8) (hN : TabAt w 1 axNames) (hf : findS axNames ⟨#[88]⟩ = 11) :
    Calls Tryz.prog 48 #[.agg #[.int .i64 (A.length : Int), v], .string ⟨#[88]⟩] w fun e w' => e = .returned (.bool (axB A 11)) ∧ Grew w w' := by
  have HT := Lib.hid (fun W (hW : Grew w W) => axiomAt_c ⟨#[88]⟩ W (hN.grew hW))
  rw [hf] at HT
  have HD := Lib.hid (fun W (hW : Grew w W)  => tri_c _ A _ (h.grew hW) hA)
  rw [show triB A = axB A 11 from rfl] at HD
  have hal := (Grew.refl w).alloc (.cells #[.int .i64 (A.length : Int), v] 26)
  obtain ⟨w1, hw1⟩ : ∃ w1, w1 = w.alloc (.cells #[.int .i64 (A.length : Int), v] 26) := ⟨_, rfl⟩
  rw [← hw1] at hal
  have hb0 : w1.heap[w.heap.size]? = some (.cells #[.int .i64 (A.length : Int), v] 26 (0, 0)) := by rw [hw1]; exact blk_new w _
  have p0 : ∀ W, Grew w1 W → W.cell? ⟨w.heap.size, 0, none⟩ = some (.int .i64 (A.length : Int)) := fun W hW => by rw [blk_cell ((hW.block (blk_lt hb0)).trans hb0)]; rfl
  have p1 : ∀ W, Grew w1 W → W.cell? ⟨w.heap.size, 1, none⟩ = some v := fun W hW => by rw [blk_cell ((hW.block (blk_lt hb0)).trans hb0)]; rfl
  have HAL := Lib.hid hal
  obtain ⟨A1, c1, rfl⟩ := ints_sliceN h
  have r1 := Grew.refl w1
  have d1 := r1.drew
  have hix := condIx_11
  clear h hA hb0 hal _h8
  generalize axB A 11 = R at *
  generalize A.length = n at *
  go_enter Tryz.func48, Tryz.ntmps48
  go_wp2_with fail
  simp only [← hw1]
  clear hw1
  go_region_held3 (fun w' => Grew w1 w') (first | assumption | exact Grew.drew ‹_›) (first
    | (go_at_call 136; refine (HD.out _ (HAL.out.trans h3)).mono ?_; rintro e w4 ⟨rfl, hg4⟩; have h4 := h3.trans hg4)
    | (go_at_call 47; refine (HT.out _ (HAL.out.trans h2)).mono ?_; rintro e w3 ⟨rfl, hg3⟩; have h3 := h2.trans hg3)
    | (go_at_call 91; refine (conditions_c _).mono ?_; rintro e w2 ⟨b0, b1, b2, b3, b4, b5, b6, b7, b8, b9, b10, rfl, -, -, -, -, -, -, -, -, -, -, -, hg2⟩; have h2 := d1.trans hg2))
  go_wp2_with fail
  go_ret
  exact ⟨rfl, HAL.out.trans h4⟩
set_option maxHeartbeats 1000000 in
set_option maxRecDepth 100000 in
theorem axiomHolds_12 (v : Value) (A : List Nat) (w : World) (h : Ints w v (zs A)) (hA : Rl A) (h8 : A.length ≤ 8) (hN : TabAt w 1 axNames) (hf : findS axNames ⟨#[90]⟩ = 12) :
    Calls Tryz.prog 48 #[.agg #[.int .i64 (A.length : Int), v], .string ⟨#[90]⟩] w fun e w' => e = .returned (.bool (axB A 12)) ∧ Grew w w' := by
  have HT := Lib.hid (fun W (hW : Grew w W) => axiomAt_c ⟨#[90]⟩ W (hN.grew hW))
  rw [hf] at HT
  have HD := Lib.hid (fun W (hW : Grew w W) (B bl : Nat) (hf : FlagsAt W B bl [0, 2, 8]) => cond12_c _ A B bl W (h.grew hW) hA h8 hf)
  have hal := (Grew.refl w).alloc (.cells #[.int .i64 (A.length : Int), v] 26)
  obtain ⟨w1, hw1⟩ : ∃ w1, w1 = w.alloc (.cells #[.int .i64 (A.length : Int), v] 26) := ⟨_, rfl⟩
  rw [← hw1] at hal
  have hb0 : w1.heap[w.heap.size]? = some (.cells #[.int .i64 (A.length : Int), v] 26 (0, 0)) := by rw [hw1]; exact blk_new w _
  have p0 : ∀ W, Grew w1 W → W.cell? ⟨w.heap.size, 0, none⟩ = some (.int .i64 (A.length : Int)) := fun W hW => by rw [blk_cell ((hW.block (blk_lt hb0)).trans hb0)]; rfl
  have p1 : ∀ W, Grew w1 W → W.cell? ⟨w.heap.size, 1, none⟩ = some v := fun W hW => by rw [blk_cell ((hW.block (blk_lt hb0)).trans hb0)]; rfl
  have HAL := Lib.hid hal
  obtain ⟨A1, c1, rfl⟩ := ints_sliceN h
  have r1 := Grew.refl w1
  have d1 := r1.drew
  have hix := condIx_12
  clear h hA hb0 hal h8
  generalize axB A 12 = R at *
  generalize A.length = n at *
  go_enter Tryz.func48, Tryz.ntmps48
  go_wp2_with fail
  simp only [← hw1]
  clear hw1
  go_region_held3 (fun w' => Grew w1 w') (first | assumption | exact Grew.drew ‹_›) (first
    | (go_at_call 166; refine (HD.out _ (HAL.out.trans h3) _ _ (f10.out.grew hg3)).mono ?_; rintro e w4 ⟨rfl, hg4⟩; have h4 := h3.trans hg4)
    | (go_at_call 47; refine (HT.out _ (HAL.out.trans h2)).mono ?_; rintro e w3 ⟨rfl, hg3⟩; have h3 := h2.trans hg3)
    | (go_at_call 91; refine (conditions_c _).mono ?_; rintro e w2 ⟨b0, b1, b2, b3, b4, b5, b6, b7, b8, b9, b10, rfl, -, -, -, -, -, -, -, -, -, -, f10, hg2⟩; have f10 := Lib.hid f10; have h2 := d1.trans hg2))
  go_wp2_with fail
  go_ret
  exact ⟨rfl, HAL.out.trans h4⟩
end Go.Proofs.YtpfncncohnhanaaGreatDoor


/- The reference's inverse of a relation (l01Inverse), and its closure of a transitive one (l01Closure). -/
namespace Go.Proofs.YtpfncncohnhanaaGreatDoor
open Go.RowKit

set_option maxHeartbeats 1000000 in
theorem l01Inverse_c (v : Value) (A : List Nat) (w : World) (h : Ints w v (zs A)) (hA : Rl A) :
    Calls Tryz.prog 142 #[v] w (GivesB w A.length (fun f => ∀ y, y < A.length → f y = invN A A.length y)) := by
  have hn30 := hA.1
  have hmk := fun W => run_make_rows (P := Tryz.prog) 24 2 (.int .i64 0) 1 8 #[.int .i64 0] Tryz.underlying24 Tryz.infoI rfl .i64 .i64 A.length (by omega) (by omega) W
  rw [Nat.mul_one] at hmk
  have hnr : NRow (w.alloc (.cells (madeCells #[Value.int .i64 0] A.length) 2)) w.heap.size A.length A.length (fun _ => 0) := ⟨_, blk_new w _, size_madeCells _ _, Nat.le_refl _, by omega, fun i hi => made_z hi⟩
  have HNR := Lib.hid hnr
  have HAL := Lib.hid ((Grew.refl w).alloc (.cells (madeCells #[Value.int .i64 0] A.length) 2))
  clear hnr
  generalize madeCells #[Value.int .i64 0] A.length = cur0 at *
  have HB := Lib.hid (fun i (hi : i < A.length) k (hk : k < 64) => l01Bit_q (nt A i) k (by have := hA.sm.at_ hi; omega) hk)
  have HOne := Lib.hid (fun i (hi : i ≤ 30) W => l01One_q i hi W)
  have HO := Lib.hid (fun a b (ha : a < 1073741824) (hb : b < 1073741824) => or_i64 a b (by omega) (by omega))
  have HP2 := Lib.hid (fun k (hk : k < 30) => pow30 hk)
  have HI := Lib.hid (fun k y (hk : k ≤ 30) => Nat.lt_of_lt_of_le (invN_lt A y k) (pow30' hk))
  have HY := Lib.hid (fun k y (hb : (nt A k).testBit y = true) => show invN A (k + 1) y = invN A k y ||| 2 ^ k from if_pos hb)
  have HN := Lib.hid (fun k y (hb : (nt A k).testBit y = false) => show invN A (k + 1) y = invN A k y from if_neg (by rw [hb]; decide))
  obtain ⟨A', c, rfl⟩ := ints_sliceN h
  have HC := Lib.hid (fun h0 => cellsN h h0)
  clear h hA
  generalize hN : A.length = n at *
  clear hN
  go_enter Tryz.func142, Tryz.ntmps142
  go_wp2_with fail
  go_loopw [4, 5] (fun i _ wr => ∃ (j : Nat) (f : Nat → Nat), j ≤ n ∧ i = .int .i64 j ∧ Hid (NRow wr w.heap.size n n f) ∧ Hid ((∀ y, y < j → f y = invN A n y) ∧ ∀ y, y < n → j ≤ y → f y = 0) ∧ Grew w wr) (fun i _ _ => n - (intOf i).toNat)
  case atStart => exact ⟨0, fun _ => 0, Nat.zero_le _, rfl, HNR, Lib.hid ⟨fun y hy => absurd hy (by omega), fun _ _ _ => rfl⟩, HAL.out⟩
  clear hmk HNR HAL
  case round =>
    obtain ⟨j, f, hj, rfl, hR, hK, hB⟩ := hrel
    by_cases hlt : j < n
    · have HK0 : Hid ((∀ y, y < j → f y = invN A n y) ∧ (f j = invN A 0 j) ∧ ∀ y, y < n → j < y → f y = 0) := Lib.hid ⟨hK.out.1, hK.out.2 j hlt (Nat.le_refl _), fun y hy hjy => hK.out.2 y hy (by omega)⟩
      have hgl := Lib.hid (hR.out.lt)
      go_wp2_with fail
      go_loopw [5] (fun i wr => ∃ (k : Nat) (f : Nat → Nat), k ≤ n ∧ i = .int .i64 k ∧ Hid (NRow wr w.heap.size n n f) ∧ Hid ((∀ y, y < j → f y = invN A n y) ∧ (f j = invN A k j) ∧ ∀ y, y < n → j < y → f y = 0) ∧ Grew w wr) (fun i _ => n - (intOf i).toNat)
      case atStart => exact ⟨0, f, Nat.zero_le _, rfl, hR, HK0, hB⟩
      case round =>
        obtain ⟨k, f2, hk, rfl, hR2, hK2, hB2⟩ := hrel
        by_cases hlk : k < n
        · obtain ⟨b, o, rfl, hcell⟩ := HC.out (by omega)
          have k1 := hcell k hlk _ hB2
          have hb := Lib.hid (HB.out k hlk j (by omega))
          have hY := Lib.hid (HY.out k j)
          have hN := Lib.hid (HN.out k j)
          clear hcell
          cases ht : (nt A k).testBit j with
          | false =>
            rw [ht] at hb
            have hn := Lib.hid (hN.out ht)
            clear hY hN ht
            generalize nt A k = m at *
            go_wp2_with fail
            refine (hb.out _).mono ?_
            rintro e w3 ⟨rfl, hw3⟩
            rw [hw3]
            clear hw3
            go_wp2_with fail
            go_roundw
            case rel => exact ⟨k + 1, f2, by omega, by go_num, hR2, Lib.hid ⟨hK2.out.1, by rw [hn.out]; exact hK2.out.2.1, hK2.out.2.2⟩, hB2⟩
            case measure => simp [intOf]; omega
          | true =>
            rw [ht] at hb
            have hy := Lib.hid (hY.out ht)
            clear hY hN ht
            generalize nt A k = m at *
            have hfj := hK2.out.2.1
            have c6 := fun V (hV : Grew wr V) => (hR2.out.grew hV).cell hlt
            have c7 := fun V (hV : Grew wr V) => (hR2.out.grew hV).free j
            rw [hfj] at c6
            have hon := Lib.hid (HOne.out k (by omega))
            have ho := HO.out (invN A k j) (2 ^ k) (HI.out k j (by omega)) (HP2.out k (by omega))
            obtain ⟨f3, e1, e3⟩ : ∃ f3 : Nat → Nat, f3 j = invN A (k + 1) j ∧ ∀ q, q ≠ j → f3 q = f2 q := ⟨fun q => if q = j then invN A (k + 1) j else f2 q, if_pos rfl, fun q hq => if_neg hq⟩
            have hR3 := Lib.hid ((hR2.out.set (f' := f3) hlt e1 (fun q _ hq => e3 q hq)).grew (Grew.refl _).drew)
            have hK3 : Hid ((∀ y, y < j → f3 y = invN A n y) ∧ (f3 j = invN A (k + 1) j) ∧ ∀ y, y < n → j < y → f3 y = 0) := Lib.hid ⟨fun y hy => by
              rw [e3 y (by omega)]; exact hK2.out.1 y hy, e1, fun y hy hjy => by
              rw [e3 y (by omega)]; exact hK2.out.2.2 y hy hjy⟩
            clear e1 e3
            have hB3 := hB2.setCell (p := ⟨w.heap.size, j, none⟩) (Nat.le_refl _) (.int .i64 ((invN A (k + 1) j : Nat) : Int))
            rw [← hy.out] at ho
            clear hy hfj
            generalize invN A (k + 1) j = z at ho hR3 hB3
            generalize (2 ^ k : Nat) = p at *
            generalize invN A k j = u at *
            have hb0 : (0 : Int) ≤ (j : Int) := by omega
            have hb1 : (j : Int) < (n : Int) := by omega
            go_wp2_with fail
            refine (hb.out _).mono ?_
            rintro e w3 ⟨rfl, hw3⟩
            rw [hw3]
            clear hw3
            have r2 := (Grew.refl wr).drew
            have e2 := hB2.drew
            clear k1
            go_wp2_with fail
            go_region_law (first
              | (go_simp; go_at_call 65; refine (hon.out _).mono ?_; rintro e w9 ⟨rfl, hw9⟩; rw [hw9]; clear hw9))
            all_goals
              have hB4 := hB3.drew
              clear c6 c7 r2 e2 ho
              go_wp2_with fail
              go_roundw
              case rel => exact ⟨k + 1, _, by omega, by go_num, hR3, hK3, hB4⟩
              case measure => simp [intOf]; omega
        · obtain rfl : k = n := by omega
          have hK3 : Hid ((∀ y, y < j + 1 → f2 y = invN A k y) ∧ ∀ y, y < k → j + 1 ≤ y → f2 y = 0) := Lib.hid ⟨fun y hy => by
            by_cases hyj : y = j
            · rw [hyj]; exact hK2.out.2.1
            · exact hK2.out.1 y (by omega), fun y hy hjy => hK2.out.2.2 y hy (by omega)⟩
          go_wp2_with fail
          go_roundw
          case rel => exact ⟨j + 1, f2, by omega, by go_num, hR2, hK3, hB2⟩
          case measure => simp [intOf]; omega
    · obtain rfl : j = n := by omega
      have HR := Lib.hid (And.intro hR.out hK.out.1)
      go_wp2_with fail
      go_ret
      exact ⟨_, _, f, rfl, HR.out.1, HR.out.2, Nat.le_refl _, hB⟩
theorem or_trn {A : List Nat} (hT : Trn A) {k j : Nat} (hk : k < A.length) (h : (nt A k).testBit j = true) : nt A k ||| nt A j = nt A k := by
  apply Nat.eq_of_testBit_eq
  intro z
  rw [Nat.testBit_or]
  cases hz : (nt A j).testBit z with
  | false => rw [Bool.or_false]
  | true => rw [hT k j z hk h hz]; rfl
theorem l01Closure_t (v : Value) (A : List Nat) (w : World) (h : Ints w v (zs A)) (hA : Rl A) (hT : Trn A) (h0 : 0 < A.length) :
    Calls Tryz.prog 128 #[v] w (GivesB w A.length (fun f => ∀ x, x < A.length → f x = nt A x)) := by
  have hn30 := hA.1
  have HCL := Lib.hid (ownR_c v (zs A) w h (by rw [zs_len]; omega))
  have HZ := Lib.hid (fun i (hi : i < A.length) => hA.sm.at_ hi)
  have HH := Lib.hid (fun m i (hm : m < 1073741824) (hi : i < 64) => l01Bit_q m i (by omega) hi)
  have HO := Lib.hid (fun a b (ha : a < 1073741824) (hb : b < 1073741824) => or_i64 a b (by omega) (by omega))
  have HOS := Lib.hid (fun k j (hk : k < A.length) h => @or_trn A hT k j hk h)
  obtain ⟨A', c, rfl⟩ := ints_sliceN h
  clear h hA hT
  generalize hN : A.length = n at *
  have hNL := Lib.hid hN
  clear hN
  go_enter Tryz.func128, Tryz.ntmps128
  go_wp2_with fail
  refine HCL.out.mono ?_
  rintro e w1 ⟨v1, rfl, hO1, hg1⟩
  obtain ⟨A2, c2, rfl⟩ := ints_sliceN hO1.ints
  rw [hNL.out] at hO1 ⊢
  obtain ⟨g, rfl, hgw, hR0⟩ := own_nrow hO1 hNL.out h0
  have HR0 := Lib.hid hR0
  clear hR0 hO1 HCL
  go_wp2_with fail
  go_loopw [4, 5] (fun i _ wr => ∃ (j : Nat) (f : Nat → Nat), j ≤ n ∧ i = .int .i64 j ∧ Hid (NRow wr g n c2 f) ∧ Hid (∀ x, x < n → f x = nt A x) ∧ Grew w wr) (fun i _ _ => n - (intOf i).toNat)
  case atStart => exact ⟨0, _, Nat.zero_le _, rfl, HR0, Lib.hid (fun _ _ => rfl), hg1⟩
  clear HR0
  case round =>
    obtain ⟨j, f, hj, rfl, hR, hK, hB⟩ := hrel
    by_cases hlt : j < n
    · go_wp2_with fail
      go_loopw [5] (fun i wr => ∃ (k : Nat) (f : Nat → Nat), k ≤ n ∧ i = .int .i64 k ∧ Hid (NRow wr g n c2 f) ∧ Hid (∀ x, x < n → f x = nt A x) ∧ Grew w wr) (fun i _ => n - (intOf i).toNat)
      case atStart => exact ⟨0, f, Nat.zero_le _, rfl, hR, hK, hB⟩
      case round =>
        obtain ⟨k, f2, hk, rfl, hR2, hK2, hB2⟩ := hrel
        by_cases hlk : k < n
        · have c2' : ∀ W, Grew wr W → W.cell? ⟨g, k, none⟩ = some (.int .i64 ((f2 k : Nat) : Int)) := fun W hW => (hR2.out.grew hW).cell hlk
          have c3' : ∀ W, Grew wr W → W.cell? ⟨g, j, none⟩ = some (.int .i64 ((f2 j : Nat) : Int)) := fun W hW => (hR2.out.grew hW).cell hlt
          have c4' : ∀ W, Grew wr W → W.frozen? ⟨g, k, none⟩ = false := fun W hW => (hR2.out.grew hW).free k
          rw [hK2.out k hlk] at c2'
          rw [hK2.out j hlt] at c3'
          have ho := HO.out _ _ (HZ.out k hlk) (HZ.out j hlt)
          have hos := Lib.hid (HOS.out k j hlk)
          have hH := Lib.hid (HH.out (nt A k) j (HZ.out k hlk) (by omega))
          have HYK := Lib.hid (hK2.out k hlk)
          have hr1 := Grew.refl wr
          have hd1 := (Grew.refl wr).drew
          generalize nt A k = y at *
          generalize nt A j = z at *
          generalize y.testBit j = t at *
          have hi0 : (0 : Int) ≤ (k : Int) := by omega
          have hi6 : (k : Int) < (n : Int) := by omega
          have hj0 : (0 : Int) ≤ (j : Int) := by omega
          have hj6 : (j : Int) < (n : Int) := by omega
          go_wp2_with fail
          refine (hH.out _).mono ?_
          rintro e w2 ⟨rfl, rfl⟩
          cases t with
          | true =>
            rw [hos.out rfl] at ho
            go_wp2_with fail
            go_region
            go_wp2_with fail
            go_roundw
            case rel => exact ⟨k + 1, f2, by omega, by go_num, Lib.hid ((hR2.out.set hlk HYK.out (fun _ _ _ => rfl)).grew ((Grew.refl _).drew)), hK2, (hB2.setCell hgw _).drew⟩
            case measure => simp [intOf]; omega
          | false =>
            go_wp2_with fail
            go_roundw
            case rel => exact ⟨k + 1, f2, by omega, by go_num, hR2, hK2, hB2⟩
            case measure => simp [intOf]; omega
        · obtain rfl : k = n := by omega
          go_wp2_with fail
          go_roundw
          case rel => exact ⟨j + 1, f2, by omega, by go_num, hR2, hK2, hB2⟩
          case measure => simp [intOf]; omega
    · obtain rfl : j = n := by omega
      have HR := Lib.hid (And.intro hR.out hK.out)
      go_wp2_with fail
      go_ret
      exact ⟨_, _, f, rfl, HR.out.1, HR.out.2, hgw, hB⟩
end Go.Proofs.YtpfncncohnhanaaGreatDoor


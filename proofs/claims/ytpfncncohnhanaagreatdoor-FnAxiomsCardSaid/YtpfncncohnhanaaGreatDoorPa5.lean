/- Texts in one file: Rng RfV KrB KrI KrF MvF FvV TwoF TwoT KrS MbZ MbU IsF IsS FmTree MnA MnB RfI. -/
import Derived.RangeFuncNested
import Derived.RangeFuncBound
import Derived.RangeFuncCalls
import Derived.RangeFuncLeaves
import Derived.Shelf.Abstract
import Derived.Shelf.RegionOpen
import Derived.WalkKit
import Derived.OwnWalkIn
import Derived.TacticsInMore
import Derived.LoopNIn
import Derived.LoopIn
import Derived.Laws.EntriesVeiled
import Derived.Deep.RegionHeld3
import Derived.Deep.Cut
import Derived.Test.YtpfncncohnhanaaGreatDoorPa1
import Derived.Test.YtpfncncohnhanaaGreatDoorPa2
import Derived.Test.YtpfncncohnhanaaGreatDoorPa3
import Derived.Test.YtpfncncohnhanaaGreatDoorPa4
set_option linter.all false

/- A range over a function whose iterator hands out a row of its own that it writes anew between two rounds: the law of the loop's walk. No program is in sight. -/
namespace Go.Proofs.YtpfncncohnhanaaGreatDoor
open Go.RowKit

/-- What a round that goes on keeps: all blocks but the loop's record. -/
def KeptBut (l : Nat) (W W' : World) : Prop := W.heap.size ≤ W'.heap.size ∧ ∀ i, i < W.heap.size → i ≠ l → W'.heap[i]? = W.heap[i]?
theorem KeptBut.refl (l : Nat) (W : World) : KeptBut l W W := ⟨Nat.le_refl _, fun _ _ _ => rfl⟩
theorem KeptBut.trans {l : Nat} {X Y Z : World} (h : KeptBut l X Y) (k : KeptBut l Y Z) : KeptBut l X Z :=
  ⟨Nat.le_trans h.1 k.1, fun i hi hl => (k.2 i (Nat.lt_of_lt_of_le hi h.1) hl).trans (h.2 i hi hl)⟩
theorem KeptBut.grew {l : Nat} {X Y : World} (h : Grew X Y) : KeptBut l X Y := ⟨h.size, fun _ hl _ => h.block hl⟩
theorem KeptBut.putObj (W : World) (l : Nat) (o : Obj) : KeptBut l W (W.putObj l o) :=
  ⟨by simp, fun i _ hi => World.putObj_heap_other hi⟩

/-- The iterator's word: it hands out rows v that read as x (Rv), one after another, of a list that S tells (all) or Sp tells (where a round has said 'no more'). -/
def SeqV {α : Type} (P : Program) (gf : Nat) (lb : Array Value) (Rv : World → Value → α → Prop) (S Sp : List α → Prop) (w0 : World) : Prop :=
  ∀ (n l : Nat) (J Jx : List α → World → Prop) (W : World), Grew w0 W → w0.heap.size ≤ l → l < W.heap.size →
    (∀ s A A', J s A → Below W.heap.size A A' → J s A') → (∀ s A A', Jx s A → Below W.heap.size A A' → Jx s A') →
    (∀ m pre x v A, J pre A → Rv A v x → YieldAt Fence.wide m P l #[v] A fun e A' =>
      (e = .returned (.bool true) ∧ J (pre ++ [x]) A' ∧ KeptBut l A A') ∨ (e = .returned (.bool false) ∧ Jx (pre ++ [x]) A')) →
    J [] W →
    CallsIn Fence.wide n P gf (#[.func (.yield l) #[] #[]] ++ lb) W fun e W' => (∃ v, e = .returned v) ∧ ((∃ xs, S xs ∧ J xs W') ∨ (∃ pre, Sp pre ∧ Jx pre W'))

/-- How the body of a round may be left. -/
def vPost {α : Type} (I : List α → World → Prop) (Ix : List α → World → Prop) (xs : List α) (W : World) : Exit → Act → World → Prop
  | .normal, _, W' => Grew W W' ∧ I xs W'
  | .ret, _, W' => KeepsOthers W W' ∧ Ix xs W'
  | _, _, _ => False

theorem below_putObj {B : Nat} {W : World} {l : Nat} {o : Obj} (o' : Obj) (hB : B ≤ l) (h : W.heap[l]? = some o) : Below B W (W.putObj l o') :=
  (Below.refl B W).grown (grownBy_putObj' W l o') (by have := (Array.getElem?_eq_some_iff.1 h).1; omega) (fun k e => by cases e; omega)
/-- What is read of cells stands where an object that is no cells is turned. -/
theorem rd_putObj {W : World} {k n : Nat} {v : Value} {xs : List Value} {l : Nat} {o : Obj} (o' : Obj) (h : Rd W k v n xs) (hl : W.heap[l]? = some o) (ho : o.isCells = false) : Rd (W.putObj l o') k v n xs := by
  obtain ⟨h1, h2, h3⟩ := h
  refine ⟨h1, h2, ?_⟩
  rcases h3 with ⟨h4, h5⟩ | ⟨b, of, c, h4, h5, h6, h7, h8⟩
  · exact .inl ⟨h4, h5⟩
  · exact .inr ⟨b, of, c, h4, h5, h6, by simpa using h7, fun j x hx => cell_kept (h8 j x hx) (grownBy_putObj' W l o') (fun r e => by cases e; exact ⟨o, hl, ho⟩)⟩

theorem wpIn_rangeV {P : Program} {α : Type} {n : Nat} {g : Operand} {ps : Array Tmp} {assign body : Go.Code} {Q : Exit → Act → World → Prop} {a : Act} {w : World}
    {gf : Nat} {lb : Array Value} (hg : a.eval g = .func (.func gf) #[] lb) (eg : ∀ args w, (callFunc gf args).run P w = .ok (.enter gf args) w)
    {Rv : World → Value → α → Prop} (hRv : ∀ W v x l o o', Rv W v x → W.heap[l]? = some o → o.isCells = false → Rv (W.putObj l o') v x)
    {S Sp : List α → Prop} {w0 : World} (hseq : SeqV P gf lb Rv S Sp w0) (hw0 : Grew w0 w) (hps : ps.size = 1)
    (I Ix : List α → World → Prop) (hI : ∀ s A A', I s A → Below w.heap.size A A' → I s A') (hIx : ∀ s A A', Ix s A → Below w.heap.size A A' → Ix s A') (h0 : I [] w) (a₁ : Value → Act)
    (hassign : ∀ (l m : Nat) (v : Value) (W : World) (K : Act → World → Prop), K (a₁ v) W →
      assign.wpIn (Fence.wide.inRound l) m P (Exit.then K (fun _ _ _ => False)) { tmps := (ps.zip #[v]).foldl (fun t (p, v) => t.setIfInBounds p v) a.tmps, defers := [] } W)
    (hbody : ∀ (l m : Nat) (pre : List α) (x : α) (v : Value) (W : World), I pre W → Rv W v x → w.heap.size ≤ W.heap.size → body.wpIn (Fence.wide.inRound l) m P (vPost I Ix (pre ++ [x]) W) (a₁ v) W)
    (hdone : ∀ (D : Nat) (xs : List α) (W : World), w.heap.size ≤ D → S xs → I xs W → W.heap[D]? = some (.deferred (some [])) → Q .normal { a with defers := { target := .collected D, args := #[] } :: a.defers } W)
    (hstop : ∀ (D : Nat) (pre : List α) (W : World), w.heap.size ≤ D → Sp pre → Ix pre W → W.heap[D]? = some (.deferred (some [])) → Go.Code.ret.wpIn Fence.wide n P Q { a with defers := { target := .collected D, args := #[] } :: a.defers } W) :
    (Go.Code.rangeFunc g ps assign body).wpIn Fence.wide n P Q a w := by
  refine wpIn_rangeFunc ?_
  intro fn hfn
  show ∃ l mark w₁ d w₁' f args w₂, (Instr.enterLoop fn a.tmps ps assign body none).run P w = _ ∧ _
  obtain ⟨rec, hrec⟩ : ∃ rec : LoopState → Option Go.Code → Loop, rec = fun st pe => { state := st, pending := pe, fn, tmps := a.tmps, params := ps, assign, body, defers := w.heap.size } := ⟨_, rfl⟩
  obtain ⟨W1, hW1⟩ : ∃ W1, (w.alloc (.deferred (some []))).alloc (.loop (rec .ready none)) = W1 := ⟨_, rfl⟩
  have hL1 : W1.heap[w.heap.size + 1]? = some (.loop (rec .ready none)) := by
    rw [← hW1]; have := World.alloc_heap_new (w.alloc (.deferred (some []))) (.loop (rec .ready none)); rwa [World.size_alloc] at this
  have hK1 : W1.heap[w.heap.size]? = some (.deferred (some [])) := by
    rw [← hW1]; exact (Below.heap_alloc _ _ _ (by simp)).trans (World.alloc_heap_new w _)
  have hg1 : Grew w W1 := by rw [← hW1]; exact ((Grew.refl w).alloc _).alloc _
  have hs1 : W1.heap.size = w.heap.size + 2 := by rw [← hW1]; simp
  have hI1 : I [] W1 := hI _ _ _ h0 hg1
  refine ⟨w.heap.size + 1, [{ target := .collected w.heap.size, args := #[] }], W1, { target := .fn (.func gf) lb, args := #[.func (.yield (w.heap.size + 1)) #[] #[]] }, W1, gf,
    #[.func (.yield (w.heap.size + 1)) #[] #[]] ++ lb, W1, ?_, ?_, ?_, ?_, fun h => by simp [Fence.wide] at h, ?_⟩
  · rw [← hW1, hrec]; exact run_enterLoop_outer _ _ _ _ _
  · simp only [resolve, hg]
    simp [go_sem]
  · intro f' hf'; trivial
  · simp [invoke, go_sem, eg]
  · have abide : ∀ {A A' : World} {k : Nat} {o : Obj}, k < w.heap.size + 2 → Below W1.heap.size A A' → A.heap[k]? = some o → A'.heap[k]? = some o := fun hk hb h => (hb.block _ (by omega)).trans h
    refine (hseq (n - 1) (w.heap.size + 1)
      (fun pre W => I pre W ∧ W.heap[w.heap.size + 1]? = some (.loop (rec .ready none)) ∧ W.heap[w.heap.size]? = some (.deferred (some [])))
      (fun pre W => Ix pre W ∧ W.heap[w.heap.size + 1]? = some (.loop (rec .done (some .ret))) ∧ W.heap[w.heap.size]? = some (.deferred (some [])))
      W1 (hw0.trans hg1) (by have := hw0.size; omega) (by omega)
      (fun s A A' hs hb => ⟨hI s A A' hs.1 (hb.mono (by omega)), abide (by omega) hb hs.2.1, abide (by omega) hb hs.2.2⟩)
      (fun s A A' hs hb => ⟨hIx s A A' hs.1 (hb.mono (by omega)), abide (by omega) hb hs.2.1, abide (by omega) hb hs.2.2⟩)
      ?_ ⟨hI1, hL1, hK1⟩).mono ?_
    · rintro m pre x v W ⟨hi, hl, hk⟩ hv
      have hlt : w.heap.size + 1 < W.heap.size := (Array.getElem?_eq_some_iff.1 hl).1
      have hy := run_yield (P := P) (args := #[v]) hl (by rw [hrec]; simp [hps])
      rw [hrec] at hy
      refine ⟨fn, _, assign, body, hy, roundIn_of_wpIn hfn (hassign _ m v W _ ⟨_, run_beginRound hl (by rw [hrec]), ?_⟩)⟩
      have hl2 : (W.putObj (w.heap.size + 1) (.loop { rec .ready none with state := .busy })).heap[w.heap.size + 1]? = some (.loop { rec .ready none with state := .busy }) := World.putObj_heap_same hlt
      have hk2 : (W.putObj (w.heap.size + 1) (.loop { rec .ready none with state := .busy })).heap[w.heap.size]? = some (.deferred (some [])) := (World.putObj_heap_other (by omega)).trans hk
      refine wpIn_mono (hbody _ m pre x v _ (hI _ _ _ hi (below_putObj _ (by omega) hl)) (hRv _ _ _ _ _ _ hv hl rfl) (by simp; omega)) ?_
      have fin : ∀ (jump : Option Go.Code) (W3 : World), W3.heap[w.heap.size + 1]? = some (.loop { rec .ready none with state := .busy }) → W3.heap[w.heap.size]? = some (.deferred (some [])) →
          (Instr.endRound (w.heap.size + 1) jump).run P W3 = .ok (.bool jump.isNone) (W3.putObj (w.heap.size + 1) (.loop (rec (if jump.isNone then .ready else .done) jump))) ∧
          (W3.putObj (w.heap.size + 1) (.loop (rec (if jump.isNone then .ready else .done) jump))).heap[w.heap.size + 1]? = some (.loop (rec (if jump.isNone then .ready else .done) jump)) ∧
          (W3.putObj (w.heap.size + 1) (.loop (rec (if jump.isNone then .ready else .done) jump))).heap[w.heap.size]? = some (.deferred (some [])) := fun jump W3 hl3 hk3 => by
        have := run_endRound (P := P) jump hl3
        rw [hrec] at this ⊢
        exact ⟨this, World.putObj_heap_same (Array.getElem?_eq_some_iff.1 hl3).1, (World.putObj_heap_other (by omega)).trans hk3⟩
      rintro e a3 W3 hp
      cases e with
      | normal =>
        obtain ⟨hg3, hi3⟩ := hp
        have hl3 := (hg3.block (k := w.heap.size + 1) (by simp; omega)).trans hl2
        obtain ⟨hr, hl4, hk4⟩ := fin none W3 hl3 ((hg3.block (k := w.heap.size) (by simp; omega)).trans hk2)
        exact ⟨_, _, hr, .inl ⟨rfl, ⟨hI _ _ _ hi3 (below_putObj _ (by omega) hl3), hl4, hk4⟩, ((KeptBut.putObj W _ _).trans (KeptBut.grew hg3)).trans (KeptBut.putObj W3 _ _)⟩⟩
      | ret =>
        obtain ⟨hk3, hi3⟩ := hp
        have hl3 := hk3.same _ _ hl2 rfl
        obtain ⟨hr, hl4, hk4⟩ := fin (some .ret) W3 hl3 (hk3.same _ _ hk2 rfl)
        exact ⟨_, _, hr, .inr ⟨rfl, hIx _ _ _ hi3 (below_putObj _ (by omega) hl3), hl4, hk4⟩⟩
      | exit id => exact hp.elim
      | goto t => exact hp.elim
      | panic ch => exact hp.elim
      | outgrown => exact hp.elim
    · rintro e W2 ⟨⟨v, rfl⟩, (⟨xs, hS, hi, hl, hk⟩ | ⟨pre, hSp, hi, hl, hk⟩)⟩
      · exact ⟨none, _, by have := run_endLoop (P := P) hl (by rw [hrec]; simp); rw [hrec] at this; exact this, hdone _ xs _ (Nat.le_refl _) hS (hI _ _ _ hi (below_putObj _ (by omega) hl)) ((World.putObj_heap_other (by omega)).trans hk)⟩
      · exact ⟨some .ret, _, by have := run_endLoop (P := P) hl (by rw [hrec]; simp); rw [hrec] at this; exact this, hstop _ pre _ (Nat.le_refl _) hSp (hIx _ _ _ hi (below_putObj _ (by omega) hl)) ((World.putObj_heap_other (by omega)).trans hk)⟩
end Go.Proofs.YtpfncncohnhanaaGreatDoor

/- The program's iterator over valuations of a poset (Poset.valuations and its closures): it hands out fs U vars zeros. -/
namespace Go.Proofs.YtpfncncohnhanaaGreatDoor
open Go.RowKit
attribute [local go_sem] Oper.semAt_some

/-- The iterator's own memory through its rounds: all that lay in W0 but the record and the row of values. -/
def KB (W0 : World) (l gv : Nat) (W : World) : Prop := W0.heap.size ≤ W.heap.size ∧ ∀ i, i < W0.heap.size → i ≠ l → i ≠ gv → W.heap[i]? = W0.heap[i]?
theorem KB.refl (W : World) (l gv : Nat) : KB W l gv W := ⟨Nat.le_refl _, fun _ _ _ _ => rfl⟩
theorem KB.kept {W0 W W' : World} {l gv : Nat} (h : KB W0 l gv W) (k : KeptBut l W W') : KB W0 l gv W' :=
  ⟨Nat.le_trans h.1 k.1, fun i hi hl hg => (k.2 i (Nat.lt_of_lt_of_le hi h.1) hl).trans (h.2 i hi hl hg)⟩
theorem KB.set {W0 W : World} {l gv o : Nat} (h : KB W0 l gv W) (u : Value) : KB W0 l gv (W.setCell ⟨gv, o, none⟩ u) :=
  ⟨Nat.le_trans h.1 (by simp), fun i hi hl hg => (Below.heap_setCell W ⟨gv, o, none⟩ u i hg).trans (h.2 i hi hl hg)⟩
theorem KB.drew {W0 W : World} {l gv : Nat} (h : KB W0 l gv W) : KB W0 l gv W.drew := h
theorem KB.cell {W0 W : World} {l gv : Nat} (h : KB W0 l gv W) {p : Addr} (hp : p.block < W0.heap.size) (hl : p.block ≠ l) (hg : p.block ≠ gv) : W.cell? p = W0.cell? p :=
  World.cell?_of_block (h.2 _ hp hl hg)
theorem NRow.kept {W W' : World} {l g n c : Nat} {f : Nat → Nat} (h : NRow W g n c f) (k : KeptBut l W W') (hne : g ≠ l) : NRow W' g n c f := by
  have hl := h.lt
  obtain ⟨cur, h1, h2⟩ := h
  exact ⟨cur, (k.2 _ hl hne).trans h1, h2⟩
theorem below_set {B : Nat} {W : World} {g o : Nat} (u : Value) (h : B ≤ g) : Below B W (W.setCell ⟨g, o, none⟩ u) := (Below.refl B W).setCell (p := ⟨g, o, none⟩) h u

/-- How the closure ends: all have come, or a round has said 'no more'. -/
def FillPost (U vs : List Nat) (f : Nat → Nat) (J Jx : List (List Nat) → World → Prop) (W0 : World) (l gv : Nat) (pre : List (List Nat)) (e : Ending) (W' : World) : Prop :=
  (e = .returned (.bool true) ∧ J (pre ++ fs U vs (lf f)) W' ∧ KB W0 l gv W' ∧ ∃ f', NRow W' gv 6 6 f' ∧ Off vs f f') ∨
  (e = .returned (.bool false) ∧ ∃ q, q <+: fs U vs (lf f) ∧ Jx (pre ++ q) W')

theorem alloc4 (w wa : World) (o1 o2 o3 o4 : Obj) (h : wa = (((w.alloc o1).alloc o2).alloc o3).alloc o4) : Grew w wa ∧ wa.heap.size = w.heap.size + 4 ∧ wa.heap[w.heap.size]? = some o1 ∧ wa.heap[w.heap.size + 1]? = some o2 ∧ wa.heap[w.heap.size + 1 + 1]? = some o3 ∧ wa.heap[w.heap.size + 1 + 1 + 1]? = some o4 := by
  obtain ⟨wb, hwb⟩ : ∃ wb, wb = ((w.alloc o1).alloc o2).alloc o3 := ⟨_, rfl⟩
  rw [← hwb] at h
  subst h
  have s1 : (w.alloc o1).heap.size = w.heap.size + 1 := by simp
  have s2 : ((w.alloc o1).alloc o2).heap.size = w.heap.size + 1 + 1 := by simp
  have s3 : wb.heap.size = w.heap.size + 1 + 1 + 1 := by rw [hwb]; simp
  have b1 := blk_new w o1
  have b2 := blk_new (w.alloc o1) o2
  have b3 := blk_new ((w.alloc o1).alloc o2) o3
  have b4 := blk_new wb o4
  rw [s1] at b2
  rw [s2] at b3
  rw [s3] at b4
  have g2 := (Grew.refl (w.alloc o1)).alloc o2
  have g3 := (Grew.refl ((w.alloc o1).alloc o2)).alloc o3
  have g4 := (Grew.refl wb).alloc o4
  rw [← hwb] at g3 b3
  refine ⟨?_, by simp [s3], ((g2.trans (g3.trans g4)).block (by omega)).trans b1, ((g3.trans g4).block (by omega)).trans b2, (g4.block (by omega)).trans b3, b4⟩
  exact (((Grew.refl w).alloc o1).trans (g2.trans g3)).trans g4

theorem kb_cells {w0 W0 : World} {l gv : Nat} {v : Value} {L : List Nat} (h : Ints w0 v (zs L)) (hg : Grew w0 W0) (hl : w0.heap.size ≤ l) (hgv : w0.heap.size ≤ gv) :
    ∃ A c, v = .slice A L.length c ∧ ∀ k, k < L.length → ∃ b o, A = some ⟨b, o, none⟩ ∧ ∀ W, KB W0 l gv W → W.cell? ⟨b, o + k, none⟩ = some (.int .i64 ((nt L k : Nat) : Int)) := by
  rcases h.open_ with ⟨rfl, h0⟩ | ⟨b, o, c, rfl, _, _, hb, hc⟩
  · have hL : L = [] := by
      have := congrArg List.length h0
      rw [zs_len] at this
      exact List.eq_nil_of_length_eq_zero this
    subst hL
    exact ⟨none, 0, rfl, fun k hk => absurd hk (by simp)⟩
  · rw [zs_len] at hc ⊢
    refine ⟨_, _, rfl, fun k hk => ⟨b, o, rfl, fun W hW => ?_⟩⟩
    have h1 := hc k hk W0 hg
    rw [zs_it hk] at h1
    have hs := hg.size
    exact (hW.cell (p := ⟨b, o + k, none⟩) (by show b < _; omega) (by show b ≠ l; omega) (by show b ≠ gv; omega)).trans h1

end Go.Proofs.YtpfncncohnhanaaGreatDoor

/- Boxes: box of the program, l01Box of the reference. -/
namespace Go.Proofs.YtpfncncohnhanaaGreatDoor
open Go.RowKit

theorem box_q (v : Value) (A : List Nat) (m : Nat) (w : World) (h : Ints w v (zs A)) (hA : Sm A) (hn30 : A.length ≤ 30) (hm : m < 9223372036854775808) :
    Calls Tryz.prog 126 #[v, .int .i64 (m : Int)] w fun e w' => e = .returned (.int .i64 ((bx A m : Nat) : Int)) ∧ w' = w := by
  have HW := Lib.hid (fun a (ha : a < 1073741824) W => within_q a m (by omega) hm W)
  have HR := Lib.hid (show bxK A m A.length = bx A m from rfl)
  have HY := Lib.hid (fun k => @bxK_yes A m k)
  have HN := Lib.hid (fun k => @bxK_no A m k)
  have HS := Lib.hid (fun k (hk : k ≤ 30) => bxK_sm (A := A) (m := m) hk)
  have HT := Lib.hid (fun i (hi : i < A.length) => hA.at_ hi)
  have HO := Lib.hid (fun a b (ha : a < 1073741824) (hb : b < 1073741824) => or_i64 a b (by omega) (by omega))
  have HP := Lib.hid (fun k (hk : k ≤ 30) => wrap_pow hk)
  have HP2 := Lib.hid (fun k (hk : k < 30) => pow30 hk)
  obtain ⟨A', c, rfl⟩ := ints_sliceN h
  have HC := Lib.hid (fun h0 => cellsN h h0)
  clear hm h hA
  generalize bx A m = R at *
  generalize hNA : A.length = n at *
  clear hNA
  go_enter Tryz.func126, Tryz.ntmps126
  go_wp2_with fail
  go_loopw [5, 6, 7, 10] (fun q _ _ i wr => ∃ j : Nat, j ≤ n ∧ i = .int .i64 j ∧ q = .int .i64 ((bxK A m j : Nat) : Int) ∧ wr = w) (fun _ _ _ i _ => n - (intOf i).toNat)
  case atStart => exact ⟨0, by omega, rfl, rfl, rfl⟩
  case round =>
    obtain ⟨j, hj, rfl, rfl, rfl⟩ := hrel
    by_cases hlt : j < n
    · obtain ⟨b2, o2, rfl, hcell2⟩ := HC.out (by omega)
      have hH := Lib.hid (HW.out _ (HT.out j hlt))
      have ho := HO.out _ _ (HS.out j (by omega)) (HP2.out j (by omega))
      have hp := HP.out j (by omega)
      have hY := Lib.hid (HY.out j)
      have hN := Lib.hid (HN.out j)
      have k1 := hcell2 j hlt _ (Grew.refl _)
      clear hcell2
      generalize nt A j = y at *
      generalize decide (dif y m = 0) = t at *
      generalize hsj : bxK A m j = sj at *
      clear hsj
      generalize hpj : (2 ^ j : Nat) = pj at *
      clear hpj
      go_wp2_with fail
      refine (hH.out _).mono ?_
      rintro e w2 ⟨rfl, rfl⟩
      cases t with
      | true =>
        have hy := Lib.hid (hY.out rfl)
        go_wp2_with fail
        go_roundw
        case rel => exact ⟨j + 1, by omega, by go_num, by rw [hy.out], by trivial⟩
        case measure => simp [intOf]; omega
      | false =>
        have hn := Lib.hid (hN.out rfl)
        go_wp2_with fail
        go_roundw
        case rel => exact ⟨j + 1, by omega, by go_num, by rw [hn.out], by trivial⟩
        case measure => simp [intOf]; omega
    · obtain rfl : j = n := by omega
      have hr := Lib.hid HR.out
      go_wp2_with fail
      go_ret
      exact ⟨by rw [hr.out]; rfl, rfl⟩
theorem l01Box_q (v : Value) (A : List Nat) (m : Nat) (w : World) (h : Ints w v (zs A)) (hA : Sm A) (hn30 : A.length ≤ 30) (hm : m < 9223372036854775808) :
    Calls Tryz.prog 161 #[v, .int .i64 (m : Int)] w fun e w' => e = .returned (.int .i64 ((bx A m : Nat) : Int)) ∧ ∃ d, w' = w.drewN d := by
  have HR := Lib.hid (show bxK A m A.length = bx A m from rfl)
  have HY := Lib.hid (fun k => @bxK_yes A m k)
  have HN := Lib.hid (fun k => @bxK_no A m k)
  have HS := Lib.hid (fun k (hk : k ≤ 30) => bxK_sm (A := A) (m := m) hk)
  have HT := Lib.hid (fun i (hi : i < A.length) => hA.at_ hi)
  have HO := Lib.hid (fun a b (ha : a < 1073741824) (hb : b < 1073741824) => or_i64 a b (by omega) (by omega))
  have HA := Lib.hid (fun a (ha : a < 1073741824) => and_i64 a m (by omega) hm)
  have HE := Lib.hid (fun a : Nat => show (((a &&& m : Nat) : Int) == (a : Int)) = decide (dif a m = 0) from by
    rw [Bool.eq_iff_iff, decide_eq_true_eq, ← and_dif, beq_iff_eq]
    omega)
  have HOne := Lib.hid (fun i (hi : i ≤ 30) W => l01One_q i hi W)
  have HP2 := Lib.hid (fun k (hk : k < 30) => pow30 hk)
  obtain ⟨A', c, rfl⟩ := ints_sliceN h
  have HC := Lib.hid (fun h0 => cellsN h h0)
  clear hm h hA
  generalize bx A m = R at *
  generalize hNA : A.length = n at *
  clear hNA
  go_enter Tryz.func161, Tryz.ntmps161
  go_wp2_with fail
  go_loopw [5, 6] (fun q i wr => ∃ j d : Nat, j ≤ n ∧ i = .int .i64 j ∧ q = .int .i64 ((bxK A m j : Nat) : Int) ∧ wr = w.drewN d) (fun _ i _ => n - (intOf i).toNat)
  case atStart => exact ⟨0, 0, by omega, rfl, rfl, rfl⟩
  case round =>
    obtain ⟨j, d, hj, rfl, rfl, rfl⟩ := hrel
    by_cases hlt : j < n
    · obtain ⟨b2, o2, rfl, hcell2⟩ := HC.out (by omega)
      have hH := Lib.hid (HOne.out j (by omega))
      have ho := HO.out _ _ (HS.out j (by omega)) (HP2.out j (by omega))
      have ha := HA.out _ (HT.out j hlt)
      have he := HE.out (nt A j)
      have hY := Lib.hid (HY.out j)
      have hN := Lib.hid (HN.out j)
      have k1 := hcell2 j hlt _ (Grew.refl _)
      have hgd : Grew w (w.drewN d) := (Grew.refl w).drewN d
      clear hcell2
      generalize nt A j = y at *
      generalize y &&& m = ym at *
      generalize decide (dif y m = 0) = t at *
      generalize hsj : bxK A m j = sj at *
      clear hsj
      generalize hpj : (2 ^ j : Nat) = pj at *
      clear hpj
      go_wp2_with fail
      go_region
      cases t with
      | true =>
        have hy := Lib.hid (hY.out rfl)
        go_wp2_with fail
        refine (hH.out _).mono ?_
        rintro e w2 ⟨rfl, rfl⟩
        go_wp2_with fail
        go_roundw
        case rel => exact ⟨j + 1, _, by omega, by go_num, by rw [hy.out], by trivial⟩
        case measure => simp [intOf]; omega
      | false =>
        have hn := Lib.hid (hN.out rfl)
        go_wp2_with fail
        go_roundw
        case rel => exact ⟨j + 1, _, by omega, by go_num, by rw [hn.out], by trivial⟩
        case measure => simp [intOf]; omega
    · obtain rfl : j = n := by omega
      have hr := Lib.hid HR.out
      go_wp2_with fail
      go_ret
      exact ⟨by rw [hr.out]; rfl, d, rfl⟩
end Go.Proofs.YtpfncncohnhanaaGreatDoor

/- Implications of sets: all, imply of the program, l17Arrow of the reference. -/
namespace Go.Proofs.YtpfncncohnhanaaGreatDoor
open Go.RowKit

end Go.Proofs.YtpfncncohnhanaaGreatDoor

/- forced of the program: a stack of values. -/
namespace Go.Proofs.YtpfncncohnhanaaGreatDoor
open Go.RowKit
open Fm (Nd Tree)

/-- The stack: the top stands last. -/
def sk (st : List Nat) : List Int := zs st.reverse
theorem sk_len (st : List Nat) : (sk st).length = st.length := by unfold sk; rw [zs_len, List.length_reverse]
theorem sk_cons (x : Nat) (st : List Nat) : sk (x :: st) = sk st ++ [(x : Int)] := by unfold sk; rw [List.reverse_cons, zs_append]; rfl
/-- A row of the call's own without its last number. -/
theorem OwnI.pop {w : World} {B : Nat} {A : Option Addr} {n c : Nat} {L : List Int} {x : Int} (h : OwnI w B (.slice A n c) (L ++ [x])) : n = L.length + 1 ∧ ∃ g, A = some ⟨g, 0, none⟩ ∧ n ≤ c ∧ c ≤ 9223372036854775807 ∧ B ≤ g ∧ g < w.heap.size ∧ w.cell? ⟨g, L.length, none⟩ = some (.int .i64 x) ∧ OwnI w B (.slice (some ⟨g, 0, none⟩) L.length c) L := by
  obtain ⟨h1, h2⟩ := h
  rcases h2 with ⟨h3, h4⟩ | ⟨g, cap, cur, h3, h4, h5, h6, h7, h8, h9⟩
  · rw [List.length_append] at h4; simp at h4
  · rw [List.length_append, List.length_singleton] at h3 h6 h9
    simp only [Value.slice.injEq] at h3
    obtain ⟨rfl, rfl, rfl⟩ := h3
    have hsz : cur.size = c := by omega
    have hcell : ∀ j, j < L.length + 1 → cur[j]? = (icells (L ++ [x]))[j]? := fun j hj => by
      have := congrArg (fun l => l[j]?) h9
      simp only [List.getElem?_take] at this
      rw [if_pos (by omega)] at this
      simpa using this
    refine ⟨rfl, g, rfl, h6, h7, h4, (Array.getElem?_eq_some_iff.1 h5).1, ?_, ?_⟩
    · rw [cell_of_row w g _ cur _ (0, 0) h5, hcell _ (by omega)]
      have := icells_at (L := L ++ [x]) (i := L.length) (by simp)
      rw [this]
      simp [it, List.getD]
    · refine OwnI.mk_ h4 h5 (by omega) h7 hsz fun i hi => ?_
      rw [hcell i (by omega), icells_at (by simp; omega)]
      congr 1
      simp [it, List.getD, List.getElem?_append_left hi]
/-- The stack of the call lies in block b. -/
def Stk (w : World) (b B : Nat) (st : List Nat) : Prop := ∃ A n c, w.heap[b]? = some (.cells #[.slice A n c] 24 (0, 0)) ∧ OwnI w B (.slice A n c) (sk st)
/-- An append onto a row of the call's own above block B. -/
theorem wpList_appB {ops : Array Oper} {rest : List Oper} {o : Oper} {a : Act} {Q : Exit → Act → World → Prop} {w : World} (B : Nat) (s x : Operand) (hgd : o.guard = none)
    (ho : o.op = .call { callee := .builtin .append, args := #[s, x], argTypes := #[24, 24] })
    (v : Value) (L : List Int) (hs : a.eval s = v) (hown : OwnI w B v L) (hB : B ≤ w.heap.size) (vx : Value) (k : Int) (hx : a.eval x = vx) (hr : Rd w 1 vx 1 [.int .i64 k]) (hn : L.length ≤ 1048576)
    (h : ∀ v' w', OwnI w' B v' (L ++ [k]) → w.grownBy w' v.ownBlock → wpList Tryz.prog ops Q rest (a.put o.dst v') w') : wpList Tryz.prog ops Q (o :: rest) a w := by
  obtain ⟨i0, hi0, hz0, hz1, hz2⟩ := info_parts Tryz.infoI
  refine wpList_append_rd w hgd s x _ ho B 2 i0 _ 1 8 Tryz.underlying24 hi0 hz0 hz1 hz2 rfl (by omega) v L.length (icells L) hs hown vx 1 [.int .i64 k] hx hr (by simp [Value.oneCell']) (by unfold maxLen; omega) (by omega) hB ?_
  intro v' w' h1 h2 h3
  refine h v' w' ?_ h2
  unfold OwnI
  rw [List.length_append, icells_append]
  exact h1
theorem evs_var {A V : List Nat} {k s : Int} {v : Nat} {st : List Nat} (h : k = 0) (hs : s = (v : Int)) : evs A V k s st = nt V v :: st := by unfold evs; rw [if_pos h, hs]; rfl
theorem evs_fls {A V : List Nat} {k s : Int} {st : List Nat} (h : k = 1) : evs A V k s st = 0 :: st := by subst h; rfl
theorem evs_and {A V : List Nat} {k s : Int} {x y : Nat} {st : List Nat} (h : k = 2) : evs A V k s (x :: y :: st) = (x &&& y) :: st := by subst h; rfl
theorem evs_or {A V : List Nat} {k s : Int} {x y : Nat} {st : List Nat} (h : k = 3) : evs A V k s (x :: y :: st) = (x ||| y) :: st := by subst h; rfl
theorem evs_imp {A V : List Nat} {k s : Int} {x y : Nat} {st : List Nat} (h : k = 4) : evs A V k s (x :: y :: st) = ar A x y :: st := by subst h; rfl
theorem two_at {st : List Nat} (h : 2 ≤ st.length) : ∃ x y r, st = x :: y :: r := by
  match st, h with
  | x :: y :: r, _ => exact ⟨x, y, r, rfl⟩
theorem Stk.grew {w w' : World} {b B : Nat} {st : List Nat} (h : Stk w b B st) (hg : Grew w w') : Stk w' b B st := by
  obtain ⟨A, n, c, h1, h2⟩ := h
  exact ⟨A, n, c, (hg.block (blk_lt h1)).trans h1, h2.grew hg⟩

theorem enc_kinds_v {t : Tree} {n : Nat} (h : anyP isBD (Fm.enc t) = false) {i : Nat} (hi : i < (Fm.enc t).length) (hn : kd (Fm.enc t) i = 0 → sy (Fm.enc t) i < (n : Int)) :
    (kd (Fm.enc t) i = 0 ∧ ∃ v : Nat, sy (Fm.enc t) i = (v : Int) ∧ v < n) ∨ kd (Fm.enc t) i = 1 ∨ kd (Fm.enc t) i = 2 ∨ kd (Fm.enc t) i = 3 ∨ kd (Fm.enc t) i = 4 := by
  rcases enc_kinds h hi with ⟨h1, v, h2, _⟩ | h1
  · have := hn h1
    exact .inl ⟨h1, v, h2, by omega⟩
  · exact .inr h1
end Go.Proofs.YtpfncncohnhanaaGreatDoor

/- truthSet of the program: a stack of sets of worlds. -/
namespace Go.Proofs.YtpfncncohnhanaaGreatDoor
open Go.RowKit
open Fm (Nd Tree)

theorem frameAll_c (n : Nat) (v : Value) (w : World) (hv : ∃ A m c, v = .slice A m c) (hn : n ≤ 30) :
    Calls Tryz.prog 83 #[.agg #[.int .i64 (n : Int), v]] w fun e w' => e = .returned (.int .i64 ((full n : Nat) : Int)) ∧ Grew w w' := by
  have h1 := wrap_pow hn
  have h2 := pow30' hn
  have h3 : 0 < 2 ^ n := Nat.pow_pos (by omega)
  have hf := Lib.hid (full_cast n)
  have hg := (Grew.refl w).alloc (.cells #[.int .i64 (n : Int), v] 26)
  obtain ⟨A, m, c, rfl⟩ := hv
  generalize full n = F at *
  generalize (2 ^ n : Nat) = p at *
  go_enter Tryz.func83, Tryz.ntmps83
  go_wp2_with fail
  go_ret
  refine ⟨?_, hg⟩
  have hf := hf.out
  rw [hf]
  rfl
theorem popM_c (b : Nat) (x : Nat) (st : List Nat) (B : Nat) (w : World) (h : Stk w b B (x :: st)) (hb : b < B) :
    Calls Tryz.prog 125 #[.pointer (some ⟨b, 0, none⟩)] w fun e w' => e = .returned (.int .i64 (x : Int)) ∧ Stk w' b B st ∧ Only b w w' := by
  obtain ⟨A, n, c, h1, h2⟩ := h
  rw [sk_cons] at h2
  obtain ⟨rfl, g, rfl, h3, h4, h5, h6, h7, h8⟩ := h2.pop
  have HE := Lib.hid (show ∀ v, w.heap[b]? = some (.cells #[v] 24 (0, 0)) → (Only b w (w.setCell ⟨b, 0, none⟩ (.slice (some ⟨g, 0, none⟩) (sk st).length c)) ∧ Stk (w.setCell ⟨b, 0, none⟩ (.slice (some ⟨g, 0, none⟩) (sk st).length c)) b B st) from fun v hv =>
    ⟨(Only.refl b w).setCell _, _, _, _, blk_set hv 0 _, own_only h8 ((Only.refl b w).setCell _) (fun he => by have := own_of_ge h8 he; omega)⟩)
  have HE := HE.out _ h1
  have HE := Lib.hid HE
  have k0 : w.cell? ⟨b, 0, none⟩ = some (.slice (some ⟨g, 0, none⟩) ((sk st).length + 1) c) := by rw [blk_cell h1]; rfl
  have f0 := blk_frozen h1 0
  clear h1 h2 h8
  generalize (sk st).length = m at *
  go_enter Tryz.func125, Tryz.ntmps125
  go_wp2_with fail
  go_ret
  exact ⟨rfl, HE.out.2, HE.out.1⟩
theorem one_at {st : List Nat} (h : 1 ≤ st.length) : ∃ x r, st = x :: r := by
  match st, h with
  | x :: r, _ => exact ⟨x, r, rfl⟩
set_option maxHeartbeats 4000000 in
set_option maxRecDepth 4096 in
theorem truthSet_c (v u va : Value) (A V : List Nat) (t : Tree) (w : World) (h : Ints w v (zs A)) (hu : Ints w u (zs V)) (ha : Nodes w va (Fm.enc t)) (hA : Rl A) (hV : ∀ m ∈ V, m < 2 ^ A.length) (hl : V.length = 6) (ht : (Fm.enc t).length ≤ 1048576) :
    Calls Tryz.prog 82 #[.agg #[.int .i64 (A.length : Int), v], u, va] w fun e w' => e = .returned (.int .i64 ((mv A V t : Nat) : Int)) ∧ Grew w w' := by
  have hsm : ∀ m, m < 2 ^ A.length → m < 1073741824 := fun m hm => Nat.lt_of_lt_of_le hm (pow30' hA.1)
  have HSM := Lib.hid (fun i m (hm : m ∈ mve A V ((Fm.enc t).drop i)) => hsm m (mve_sm hV _ m hm))
  have HFED := Lib.hid (mfed_of (A := A) (V := V) (t := t))
  have HEND := Lib.hid (mve_of (A := A) (V := V) (t := t))
  have HDR := Lib.hid (fun i (hi : i < (Fm.enc t).length) => mve_drop (A := A) (V := V) hi)
  have HK := Lib.hid (fun i (hi : i < (Fm.enc t).length) => enc_kinds_m t hi)
  have HLEN := Lib.hid (fun i => show (mve A V ((Fm.enc t).drop i)).length ≤ 1048576 from by
    have hle : ∀ xs : List Nd, (mve A V xs).length ≤ xs.length := by
      intro xs
      induction xs with
      | nil => simp [mve]
      | cons x xs ih =>
        show (mvs A V x.1 x.2 (mve A V xs)).length ≤ _
        unfold mvs
        repeat' split
        all_goals simp only [List.length_cons, List.length_drop]; omega
    have := hle ((Fm.enc t).drop i)
    rw [List.length_drop] at this
    omega)
  have hend0 : mve A V ((Fm.enc t).drop (Fm.enc t).length) = [] := by rw [List.drop_length]; rfl
  have HFU := Lib.hid (show full A.length < 1073741824 from hsm _ (full_lt _))
  have KBX := Lib.hid (fun m W (hW : Grew w W) hm => box_q v A m W (h.grew hW) hA.sm hA.1 hm)
  have KAL := Lib.hid (fun W hv => frameAll_c A.length v W hv hA.1)
  have HBL := Lib.hid (fun m => hsm _ (bx_lt A m))
  have hpos := Fm.enc_pos t
  obtain ⟨A', c, rfl⟩ := ints_sliceN h
  obtain ⟨AU, cu, rfl⟩ := ints_sliceN hu
  have KAL := Lib.hid (fun W => KAL.out W ⟨_, _, _, rfl⟩)
  have HCU := Lib.hid (cellsN hu (by omega))
  rw [hl] at HCU
  clear h hu hA hV hsm
  rcases ha.open_ with ⟨rfl, h0⟩ | ⟨ba, oa, ca, rfl, hca, hcm, hbl, hcell⟩
  · rw [h0] at hpos; simp at hpos
  have HNC := Lib.hid hcell
  clear hcell ha
  have HEND0 := Lib.hid hend0
  clear hend0
  rw [hl]
  clear hl
  generalize mv A V t = R at *
  generalize Fm.enc t = xs at *
  have HMI := Lib.hid (fun k s x y st (h : k = 4) => @mvs_imp A V k s x y st h)
  have HMD := Lib.hid (fun k s x st (h : k = 6) => @mvs_dia A V k s x st h)
  generalize full A.length = FU at *
  generalize A.length = NA at *
  generalize hnx : xs.length = n at *
  replace hnx := Lib.hid hnx
  obtain ⟨bu, ou, rfl, hcu⟩ := HCU.out
  have HCU := Lib.hid hcu
  clear hcu
  obtain ⟨w1, hw1⟩ : ∃ w1, w1 = w.alloc (.cells #[.int .i64 (NA : Int), .slice A' NA c] 26) := ⟨_, rfl⟩
  have hg1 : Grew w w1 := by rw [hw1]; exact (Grew.refl w).alloc _
  have hs1 : w1.heap.size = w.heap.size + 1 := by rw [hw1]; simp
  have hb0 : w1.heap[w.heap.size]? = some (.cells #[.int .i64 (NA : Int), .slice A' NA c] 26 (0, 0)) := by rw [hw1]; exact blk_new w _
  have e0 : w1.cell? ⟨w.heap.size, 0, none⟩ = some (.int .i64 (NA : Int)) := by rw [blk_cell hb0]; rfl
  have e1 : w1.cell? ⟨w.heap.size, 1, none⟩ = some (.slice A' NA c) := by rw [blk_cell hb0]; rfl
  have npos : (1 : Int) ≤ n := by omega
  go_enter Tryz.func82, Tryz.ntmps82
  go_wp2_with fail
  simp only [← hw1]
  clear hw1
  refine (KAL.out _).mono ?_
  rintro e w2 ⟨rfl, hg2⟩
  have hbs : w.heap.size < w2.heap.size := by have := hg2.size; omega
  obtain ⟨w3, hw3⟩ : ∃ w3, w3 = w2.alloc (.cells #[.slice none 0 0] 24) := ⟨_, rfl⟩
  have hg3 : Grew w2 w3 := by rw [hw3]; exact (Grew.refl w2).alloc _
  have hs3 : w3.heap.size = w2.heap.size + 1 := by rw [hw3]; simp
  have hb3 : w3.heap[w2.heap.size]? = some (.cells #[.slice none 0 0] 24 (0, 0)) := by rw [hw3]; exact blk_new w2 _
  have hb4 := ((hg2.trans hg3).block (blk_lt hb0)).trans hb0
  have hstk : Stk w3 (w2.heap.size) (w2.heap.size + 1) (mve A V (xs.drop n)) := by rw [HEND0.out]; exact ⟨_, _, _, hb3, OwnI.nil_ _ _⟩
  have HST := Lib.hid hstk
  have HB0 := Lib.hid hb4
  have HG1 := Lib.hid (hg1.trans (hg2.trans hg3))
  have HS1 := Lib.hid hs3
  clear hb0 hb3 hb4 hg1 hg2 hg3 hstk hs1 hs3 e0 e1
  go_wp2_with fail
  simp only [← hw3]
  clear hw3
  go_loopw [10, 11] (fun i _ wr => ∃ k : Nat, k ≤ n ∧ i = .int .i64 ((k : Int) - 1) ∧ Hid (wr.heap[w.heap.size]? = some (.cells #[.int .i64 (NA : Int), .slice A' NA c] 26 (0, 0))) ∧ Hid (Stk wr (w2.heap.size) (w2.heap.size + 1) (mve A V (xs.drop k))) ∧ Hid (Grew w wr) ∧ Hid (w2.heap.size + 1 ≤ wr.heap.size)) (fun i _ _ => ((intOf i) + 1).toNat)
  case atStart => exact ⟨n, Nat.le_refl _, rfl, HB0, HST, HG1, Lib.hid (by rw [HS1.out]; omega)⟩
  case round =>
    obtain ⟨k, hk, rfl, HP, HK0, HG, HZ⟩ := hrel
    cases k with
    | zero =>
      obtain ⟨AS, nS, cS, hb, hO⟩ := HK0.out
      have hO2 : OwnI wr (w2.heap.size + 1) (.slice AS nS cS) ([] ++ [((R : Nat) : Int)]) := by
        have e : sk (mve A V (xs.drop 0)) = [] ++ [((R : Nat) : Int)] := by rw [List.drop_zero, HEND.out]; rfl
        rw [e] at hO; exact hO
      obtain ⟨rfl, g, rfl, q1, q2, q3, q4, q5, q6⟩ := hO2.pop
      have k0 : wr.cell? ⟨w2.heap.size, 0, none⟩ = some (.slice (some ⟨g, 0, none⟩) 1 cS) := by rw [blk_cell hb]; rfl
      have q5 : wr.cell? ⟨g, 0, none⟩ = some (.int .i64 ((R : Nat) : Int)) := q5
      clear hb hO hO2 q6 q3
      go_wp2_with fail
      go_ret
      exact ⟨rfl, HG.out⟩
    | succ k =>
      have ei : (((k + 1 : Nat) : Int) - 1) = (k : Int) := by omega
      rw [ei]
      have hkx : k < xs.length := by rw [hnx.out]; omega
      have hlt : (k : Int) < (n : Int) := by omega
      obtain ⟨c0, c1⟩ := HNC.out k (by omega) _ HG.out
      have hdr := HDR.out k (by omega)
      have hbS := HK0.out
      have hL1 := HLEN.out (k + 1)
      have hF := HFED.out k hkx
      have hSM := fun m hm => HSM.out (k + 1) m hm
      clear hkx
      generalize mve A V (xs.drop (k + 1)) = st at *
      have HDRK := Lib.hid hdr
      have HL1 := Lib.hid hL1
      have HF := Lib.hid hF
      have HSMK := Lib.hid hSM
      have HBS := Lib.hid hbS
      clear hdr hL1 hF hSM hbS
      rcases HK.out k (by omega) with ⟨hkd, s, hsy, hs6⟩ | hkd | hkd | hkd | hkd | hkd | hkd
      · have he : mve A V (xs.drop k) = nt V s :: st := HDRK.out.trans (mvs_var hkd hsy)
        have hu1 := HCU.out s (by omega) _ HG.out
        rw [hkd] at c0
        rw [hsy] at c1
        clear hkd hsy
        have HEK := Lib.hid he
        clear he
        generalize nt V s = y at *
        obtain ⟨AS, nS, cS, hb, hO⟩ := HBS.out
        have k7 : wr.cell? ⟨w2.heap.size, 0, none⟩ = some (.slice AS nS cS) := by rw [blk_cell hb]; rfl
        have k7' : ∀ o, (wr.alloc o).cell? ⟨w2.heap.size, 0, none⟩ = some (.slice AS nS cS) := fun o => by rw [blk_cell ((((Grew.refl wr).alloc o).block (blk_lt hb)).trans hb)]; rfl
        have HBT := Lib.hid hb
        have HOT := Lib.hid hO
        have HZA := Lib.hid (fun o : Obj => (Nat.le_trans HZ.out (((Grew.refl wr).alloc o).size) : w2.heap.size + 1 ≤ (wr.alloc o).heap.size))
        have HOA := Lib.hid (fun o : Obj => (hO.grew ((Grew.refl wr).alloc o) : OwnI (wr.alloc o) (w2.heap.size + 1) (.slice AS nS cS) (sk st)))
        clear hb hO
        go_wp2_with (first
          | (at_builtin
             refine wpList_appB (w2.heap.size + 1) _ _ rfl rfl (.slice AS nS cS) (sk st) rfl (HOA.out _) (HZA.out _) (.slice (some ⟨wr.heap.size, 0, none⟩) 1 1) ((y : Nat) : Int) rfl (rd_litI wr _ _) (by rw [sk_len]; exact HL1.out) ?_
             intro v8 w8 hown8 hg8
             obtain ⟨A8, c8, rfl⟩ := ints_slice hown8.ints
             rw [List.length_append, List.length_singleton] at hown8
             have hne8 : some (w2.heap.size) ≠ (Value.slice AS nS cS).ownBlock := fun he => by have := own_of_ge HOT.out he.symm; omega
             have hne9 : some w.heap.size ≠ (Value.slice AS nS cS).ownBlock := fun he => by have := own_of_ge HOT.out he.symm; omega
             have hb8 := (hg8.block _ (Nat.lt_of_lt_of_le (show w2.heap.size < w2.heap.size + 1 by omega) (HZA.out _)) hne8).trans ((((Grew.refl wr).alloc _).block (blk_lt HBT.out)).trans HBT.out)
             have hp8 := (hg8.block _ (Nat.lt_of_lt_of_le (show w.heap.size < w2.heap.size + 1 by omega) (HZA.out _)) hne9).trans ((((Grew.refl wr).alloc _).block (blk_lt HP.out)).trans HP.out)
             have k8 : w8.cell? ⟨w2.heap.size, 0, none⟩ = some (.slice AS nS cS) := by rw [blk_cell hb8]; rfl
             have f8 := blk_frozen hb8 0
             have hG8 : Grew w w8 := (HG.out.alloc _).grown hg8 (fun g hg => by have := own_of_ge HOT.out hg; omega)
             have hz8 : w2.heap.size + 1 ≤ w8.heap.size := Nat.le_trans (HZA.out _) hg8.size
             have HFIN := Lib.hid (show Hid ((w8.setCell ⟨w2.heap.size, 0, none⟩ (.slice A8 ((sk st).length + 1) c8)).heap[w.heap.size]? = some (.cells #[.int .i64 (NA : Int), .slice A' NA c] 26 (0, 0))) ∧ Hid (Stk (w8.setCell ⟨w2.heap.size, 0, none⟩ (.slice A8 ((sk st).length + 1) c8)) (w2.heap.size) (w2.heap.size + 1) (mve A V (xs.drop k))) ∧ Hid (Grew w (w8.setCell ⟨w2.heap.size, 0, none⟩ (.slice A8 ((sk st).length + 1) c8))) ∧ Hid (w2.heap.size + 1 ≤ (w8.setCell ⟨w2.heap.size, 0, none⟩ (.slice A8 ((sk st).length + 1) c8)).heap.size) from by
               have hon : Only (w2.heap.size) w8 (w8.setCell ⟨w2.heap.size, 0, none⟩ (.slice A8 ((sk st).length + 1) c8)) := (Only.refl _ _).setCell _
               refine ⟨Lib.hid ((hon.block (by omega) (by omega)).trans hp8), Lib.hid ⟨_, _, _, blk_set hb8 0 _, ?_⟩, Lib.hid (hG8.setCell (show w.heap.size ≤ w2.heap.size by omega) _), Lib.hid (Nat.le_trans hz8 hon.size)⟩
               rw [HEK.out, sk_cons]
               exact own_only hown8 hon (fun he => by have := own_of_ge hown8 he; omega))
             clear hb8 hp8 hG8 hz8 hown8 hg8 hne8 hne9 k7 k7'))
        go_roundw
        case rel => exact ⟨k, by omega, rfl, HFIN.out⟩
        case measure => simp [intOf] <;> omega
      · have he : mve A V (xs.drop k) = 0 :: st := HDRK.out.trans (mvs_fls hkd)
        rw [hkd] at c0
        clear hkd c1
        have HEK := Lib.hid he
        clear he
        obtain ⟨AS, nS, cS, hb, hO⟩ := HBS.out
        have k7 : wr.cell? ⟨w2.heap.size, 0, none⟩ = some (.slice AS nS cS) := by rw [blk_cell hb]; rfl
        have k7' : ∀ o, (wr.alloc o).cell? ⟨w2.heap.size, 0, none⟩ = some (.slice AS nS cS) := fun o => by rw [blk_cell ((((Grew.refl wr).alloc o).block (blk_lt hb)).trans hb)]; rfl
        have HBT := Lib.hid hb
        have HOT := Lib.hid hO
        have HZA := Lib.hid (fun o : Obj => (Nat.le_trans HZ.out (((Grew.refl wr).alloc o).size) : w2.heap.size + 1 ≤ (wr.alloc o).heap.size))
        have HOA := Lib.hid (fun o : Obj => (hO.grew ((Grew.refl wr).alloc o) : OwnI (wr.alloc o) (w2.heap.size + 1) (.slice AS nS cS) (sk st)))
        clear hb hO
        go_wp2_with (first
          | (at_builtin
             refine wpList_appB (w2.heap.size + 1) _ _ rfl rfl (.slice AS nS cS) (sk st) rfl (HOA.out _) (HZA.out _) (.slice (some ⟨wr.heap.size, 0, none⟩) 1 1) ((0 : Nat) : Int) rfl (rd_litI wr _ _) (by rw [sk_len]; exact HL1.out) ?_
             intro v8 w8 hown8 hg8
             obtain ⟨A8, c8, rfl⟩ := ints_slice hown8.ints
             rw [List.length_append, List.length_singleton] at hown8
             have hne8 : some (w2.heap.size) ≠ (Value.slice AS nS cS).ownBlock := fun he => by have := own_of_ge HOT.out he.symm; omega
             have hne9 : some w.heap.size ≠ (Value.slice AS nS cS).ownBlock := fun he => by have := own_of_ge HOT.out he.symm; omega
             have hb8 := (hg8.block _ (Nat.lt_of_lt_of_le (show w2.heap.size < w2.heap.size + 1 by omega) (HZA.out _)) hne8).trans ((((Grew.refl wr).alloc _).block (blk_lt HBT.out)).trans HBT.out)
             have hp8 := (hg8.block _ (Nat.lt_of_lt_of_le (show w.heap.size < w2.heap.size + 1 by omega) (HZA.out _)) hne9).trans ((((Grew.refl wr).alloc _).block (blk_lt HP.out)).trans HP.out)
             have k8 : w8.cell? ⟨w2.heap.size, 0, none⟩ = some (.slice AS nS cS) := by rw [blk_cell hb8]; rfl
             have f8 := blk_frozen hb8 0
             have hG8 : Grew w w8 := (HG.out.alloc _).grown hg8 (fun g hg => by have := own_of_ge HOT.out hg; omega)
             have hz8 : w2.heap.size + 1 ≤ w8.heap.size := Nat.le_trans (HZA.out _) hg8.size
             have HFIN := Lib.hid (show Hid ((w8.setCell ⟨w2.heap.size, 0, none⟩ (.slice A8 ((sk st).length + 1) c8)).heap[w.heap.size]? = some (.cells #[.int .i64 (NA : Int), .slice A' NA c] 26 (0, 0))) ∧ Hid (Stk (w8.setCell ⟨w2.heap.size, 0, none⟩ (.slice A8 ((sk st).length + 1) c8)) (w2.heap.size) (w2.heap.size + 1) (mve A V (xs.drop k))) ∧ Hid (Grew w (w8.setCell ⟨w2.heap.size, 0, none⟩ (.slice A8 ((sk st).length + 1) c8))) ∧ Hid (w2.heap.size + 1 ≤ (w8.setCell ⟨w2.heap.size, 0, none⟩ (.slice A8 ((sk st).length + 1) c8)).heap.size) from by
               have hon : Only (w2.heap.size) w8 (w8.setCell ⟨w2.heap.size, 0, none⟩ (.slice A8 ((sk st).length + 1) c8)) := (Only.refl _ _).setCell _
               refine ⟨Lib.hid ((hon.block (by omega) (by omega)).trans hp8), Lib.hid ⟨_, _, _, blk_set hb8 0 _, ?_⟩, Lib.hid (hG8.setCell (show w.heap.size ≤ w2.heap.size by omega) _), Lib.hid (Nat.le_trans hz8 hon.size)⟩
               rw [HEK.out, sk_cons]
               exact own_only hown8 hon (fun he => by have := own_of_ge hown8 he; omega))
             clear hb8 hp8 hG8 hz8 hown8 hg8 hne8 hne9 k7 k7'))
        go_roundw
        case rel => exact ⟨k, by omega, rfl, HFIN.out⟩
        case measure => simp [intOf] <;> omega
      · obtain ⟨x, y, r, rfl⟩ := two_at (HF.out.1 (.inl hkd))
        have he : mve A V (xs.drop k) = (x &&& y) :: r := HDRK.out.trans (mvs_and hkd)
        have hx := HSMK.out x (by simp)
        have hy := HSMK.out y (by simp)
        have hxy := and_i64 x y (by omega) (by omega)
        have hlr : r.length ≤ 1048576 := by have := HL1.out; simp only [List.length_cons] at this; omega
        rw [hkd] at c0
        clear hkd c1 hx hy
        have HEK := Lib.hid he
        clear he
        generalize (x &&& y : Nat) = z at *
        have HP1 := Lib.hid (popM_c (w2.heap.size) x (y :: r) (w2.heap.size + 1) wr HBS.out (by omega))
        have HP2 := Lib.hid (fun W hW => popM_c (w2.heap.size) y r (w2.heap.size + 1) W hW (by omega))
        go_wp2_with fail
        refine HP1.out.mono ?_
        rintro e wa ⟨rfl, hS2, hO2⟩
        have hp2 := (hO2.block (blk_lt HP.out) (by omega)).trans HP.out
        have hG2 := hO2.grew_of HG.out (by omega)
        have hz2 := hO2.size
        clear hO2
        go_wp2_with fail
        refine (HP2.out _ hS2).mono ?_
        rintro e wb ⟨rfl, hS3, hO3⟩
        have hp3 := (hO3.block (blk_lt hp2) (by omega)).trans hp2
        have hG3 := hO3.grew_of hG2 (by omega)
        have hz3 := hO3.size
        have HG3 := Lib.hid hG3
        have HP3 := Lib.hid hp3
        have HZ3 := Lib.hid (Nat.le_trans HZ.out (Nat.le_trans hz2 hz3))
        have HS3 := Lib.hid hS3
        clear hO3 hS2 hS3 hp2 hp3 hG2 hG3 hz2 hz3 HBS HP HG HZ
        obtain ⟨AS, nS, cS, hb, hO⟩ := HS3.out
        have k7 : wb.cell? ⟨w2.heap.size, 0, none⟩ = some (.slice AS nS cS) := by rw [blk_cell hb]; rfl
        have k7' : ∀ o, (wb.alloc o).cell? ⟨w2.heap.size, 0, none⟩ = some (.slice AS nS cS) := fun o => by rw [blk_cell ((((Grew.refl wb).alloc o).block (blk_lt hb)).trans hb)]; rfl
        have HBT := Lib.hid hb
        have HOT := Lib.hid hO
        have HZA := Lib.hid (fun o : Obj => (Nat.le_trans HZ3.out (((Grew.refl wb).alloc o).size) : w2.heap.size + 1 ≤ (wb.alloc o).heap.size))
        have HOA := Lib.hid (fun o : Obj => (hO.grew ((Grew.refl wb).alloc o) : OwnI (wb.alloc o) (w2.heap.size + 1) (.slice AS nS cS) (sk r)))
        clear hb hO
        go_wp2_with (first
          | (at_builtin
             refine wpList_appB (w2.heap.size + 1) _ _ rfl rfl (.slice AS nS cS) (sk r) rfl (HOA.out _) (HZA.out _) (.slice (some ⟨wb.heap.size, 0, none⟩) 1 1) ((z : Nat) : Int) rfl (rd_litI wb _ _) (by rw [sk_len]; exact hlr) ?_
             intro v8 w8 hown8 hg8
             obtain ⟨A8, c8, rfl⟩ := ints_slice hown8.ints
             rw [List.length_append, List.length_singleton] at hown8
             have hne8 : some (w2.heap.size) ≠ (Value.slice AS nS cS).ownBlock := fun he => by have := own_of_ge HOT.out he.symm; omega
             have hne9 : some w.heap.size ≠ (Value.slice AS nS cS).ownBlock := fun he => by have := own_of_ge HOT.out he.symm; omega
             have hb8 := (hg8.block _ (Nat.lt_of_lt_of_le (show w2.heap.size < w2.heap.size + 1 by omega) (HZA.out _)) hne8).trans ((((Grew.refl wb).alloc _).block (blk_lt HBT.out)).trans HBT.out)
             have hp8 := (hg8.block _ (Nat.lt_of_lt_of_le (show w.heap.size < w2.heap.size + 1 by omega) (HZA.out _)) hne9).trans ((((Grew.refl wb).alloc _).block (blk_lt HP3.out)).trans HP3.out)
             have k8 : w8.cell? ⟨w2.heap.size, 0, none⟩ = some (.slice AS nS cS) := by rw [blk_cell hb8]; rfl
             have f8 := blk_frozen hb8 0
             have hG8 : Grew w w8 := (HG3.out.alloc _).grown hg8 (fun g hg => by have := own_of_ge HOT.out hg; omega)
             have hz8 : w2.heap.size + 1 ≤ w8.heap.size := Nat.le_trans (HZA.out _) hg8.size
             have HFIN := Lib.hid (show Hid ((w8.setCell ⟨w2.heap.size, 0, none⟩ (.slice A8 ((sk r).length + 1) c8)).heap[w.heap.size]? = some (.cells #[.int .i64 (NA : Int), .slice A' NA c] 26 (0, 0))) ∧ Hid (Stk (w8.setCell ⟨w2.heap.size, 0, none⟩ (.slice A8 ((sk r).length + 1) c8)) (w2.heap.size) (w2.heap.size + 1) (mve A V (xs.drop k))) ∧ Hid (Grew w (w8.setCell ⟨w2.heap.size, 0, none⟩ (.slice A8 ((sk r).length + 1) c8))) ∧ Hid (w2.heap.size + 1 ≤ (w8.setCell ⟨w2.heap.size, 0, none⟩ (.slice A8 ((sk r).length + 1) c8)).heap.size) from by
               have hon : Only (w2.heap.size) w8 (w8.setCell ⟨w2.heap.size, 0, none⟩ (.slice A8 ((sk r).length + 1) c8)) := (Only.refl _ _).setCell _
               refine ⟨Lib.hid ((hon.block (by omega) (by omega)).trans hp8), Lib.hid ⟨_, _, _, blk_set hb8 0 _, ?_⟩, Lib.hid (hG8.setCell (show w.heap.size ≤ w2.heap.size by omega) _), Lib.hid (Nat.le_trans hz8 hon.size)⟩
               rw [HEK.out, sk_cons]
               exact own_only hown8 hon (fun he => by have := own_of_ge hown8 he; omega))
             clear hb8 hp8 hG8 hz8 hown8 hg8 hne8 hne9 k7 k7'))
        go_roundw
        case rel => exact ⟨k, by omega, rfl, HFIN.out⟩
        case measure => simp [intOf] <;> omega
      · obtain ⟨x, y, r, rfl⟩ := two_at (HF.out.1 (.inr (.inl hkd)))
        have he : mve A V (xs.drop k) = (x ||| y) :: r := HDRK.out.trans (mvs_or hkd)
        have hx := HSMK.out x (by simp)
        have hy := HSMK.out y (by simp)
        have hxy := or_i64 x y (by omega) (by omega)
        have hlr : r.length ≤ 1048576 := by have := HL1.out; simp only [List.length_cons] at this; omega
        rw [hkd] at c0
        clear hkd c1 hx hy
        have HEK := Lib.hid he
        clear he
        generalize (x ||| y : Nat) = z at *
        have HP1 := Lib.hid (popM_c (w2.heap.size) x (y :: r) (w2.heap.size + 1) wr HBS.out (by omega))
        have HP2 := Lib.hid (fun W hW => popM_c (w2.heap.size) y r (w2.heap.size + 1) W hW (by omega))
        go_wp2_with fail
        refine HP1.out.mono ?_
        rintro e wa ⟨rfl, hS2, hO2⟩
        have hp2 := (hO2.block (blk_lt HP.out) (by omega)).trans HP.out
        have hG2 := hO2.grew_of HG.out (by omega)
        have hz2 := hO2.size
        clear hO2
        go_wp2_with fail
        refine (HP2.out _ hS2).mono ?_
        rintro e wb ⟨rfl, hS3, hO3⟩
        have hp3 := (hO3.block (blk_lt hp2) (by omega)).trans hp2
        have hG3 := hO3.grew_of hG2 (by omega)
        have hz3 := hO3.size
        have HG3 := Lib.hid hG3
        have HP3 := Lib.hid hp3
        have HZ3 := Lib.hid (Nat.le_trans HZ.out (Nat.le_trans hz2 hz3))
        have HS3 := Lib.hid hS3
        clear hO3 hS2 hS3 hp2 hp3 hG2 hG3 hz2 hz3 HBS HP HG HZ
        obtain ⟨AS, nS, cS, hb, hO⟩ := HS3.out
        have k7 : wb.cell? ⟨w2.heap.size, 0, none⟩ = some (.slice AS nS cS) := by rw [blk_cell hb]; rfl
        have k7' : ∀ o, (wb.alloc o).cell? ⟨w2.heap.size, 0, none⟩ = some (.slice AS nS cS) := fun o => by rw [blk_cell ((((Grew.refl wb).alloc o).block (blk_lt hb)).trans hb)]; rfl
        have HBT := Lib.hid hb
        have HOT := Lib.hid hO
        have HZA := Lib.hid (fun o : Obj => (Nat.le_trans HZ3.out (((Grew.refl wb).alloc o).size) : w2.heap.size + 1 ≤ (wb.alloc o).heap.size))
        have HOA := Lib.hid (fun o : Obj => (hO.grew ((Grew.refl wb).alloc o) : OwnI (wb.alloc o) (w2.heap.size + 1) (.slice AS nS cS) (sk r)))
        clear hb hO
        go_wp2_with (first
          | (at_builtin
             refine wpList_appB (w2.heap.size + 1) _ _ rfl rfl (.slice AS nS cS) (sk r) rfl (HOA.out _) (HZA.out _) (.slice (some ⟨wb.heap.size, 0, none⟩) 1 1) ((z : Nat) : Int) rfl (rd_litI wb _ _) (by rw [sk_len]; exact hlr) ?_
             intro v8 w8 hown8 hg8
             obtain ⟨A8, c8, rfl⟩ := ints_slice hown8.ints
             rw [List.length_append, List.length_singleton] at hown8
             have hne8 : some (w2.heap.size) ≠ (Value.slice AS nS cS).ownBlock := fun he => by have := own_of_ge HOT.out he.symm; omega
             have hne9 : some w.heap.size ≠ (Value.slice AS nS cS).ownBlock := fun he => by have := own_of_ge HOT.out he.symm; omega
             have hb8 := (hg8.block _ (Nat.lt_of_lt_of_le (show w2.heap.size < w2.heap.size + 1 by omega) (HZA.out _)) hne8).trans ((((Grew.refl wb).alloc _).block (blk_lt HBT.out)).trans HBT.out)
             have hp8 := (hg8.block _ (Nat.lt_of_lt_of_le (show w.heap.size < w2.heap.size + 1 by omega) (HZA.out _)) hne9).trans ((((Grew.refl wb).alloc _).block (blk_lt HP3.out)).trans HP3.out)
             have k8 : w8.cell? ⟨w2.heap.size, 0, none⟩ = some (.slice AS nS cS) := by rw [blk_cell hb8]; rfl
             have f8 := blk_frozen hb8 0
             have hG8 : Grew w w8 := (HG3.out.alloc _).grown hg8 (fun g hg => by have := own_of_ge HOT.out hg; omega)
             have hz8 : w2.heap.size + 1 ≤ w8.heap.size := Nat.le_trans (HZA.out _) hg8.size
             have HFIN := Lib.hid (show Hid ((w8.setCell ⟨w2.heap.size, 0, none⟩ (.slice A8 ((sk r).length + 1) c8)).heap[w.heap.size]? = some (.cells #[.int .i64 (NA : Int), .slice A' NA c] 26 (0, 0))) ∧ Hid (Stk (w8.setCell ⟨w2.heap.size, 0, none⟩ (.slice A8 ((sk r).length + 1) c8)) (w2.heap.size) (w2.heap.size + 1) (mve A V (xs.drop k))) ∧ Hid (Grew w (w8.setCell ⟨w2.heap.size, 0, none⟩ (.slice A8 ((sk r).length + 1) c8))) ∧ Hid (w2.heap.size + 1 ≤ (w8.setCell ⟨w2.heap.size, 0, none⟩ (.slice A8 ((sk r).length + 1) c8)).heap.size) from by
               have hon : Only (w2.heap.size) w8 (w8.setCell ⟨w2.heap.size, 0, none⟩ (.slice A8 ((sk r).length + 1) c8)) := (Only.refl _ _).setCell _
               refine ⟨Lib.hid ((hon.block (by omega) (by omega)).trans hp8), Lib.hid ⟨_, _, _, blk_set hb8 0 _, ?_⟩, Lib.hid (hG8.setCell (show w.heap.size ≤ w2.heap.size by omega) _), Lib.hid (Nat.le_trans hz8 hon.size)⟩
               rw [HEK.out, sk_cons]
               exact own_only hown8 hon (fun he => by have := own_of_ge hown8 he; omega))
             clear hb8 hp8 hG8 hz8 hown8 hg8 hne8 hne9 k7 k7'))
        go_roundw
        case rel => exact ⟨k, by omega, rfl, HFIN.out⟩
        case measure => simp [intOf] <;> omega
      · obtain ⟨x, y, r, rfl⟩ := two_at (HF.out.1 (.inr (.inr hkd)))
        have he : mve A V (xs.drop k) = (dif FU x ||| y) :: r := HDRK.out.trans (HMI.out _ _ _ _ _ hkd)
        have hx := HSMK.out x (by simp)
        have hy := HSMK.out y (by simp)
        have hfu := HFU.out
        have hdl := dif_le (a := FU) (b := x)
        have hxz := andNot_i64 FU x (by omega) (by omega)
        have hxy := or_i64 (dif FU x) y (by omega) (by omega)
        have hlr : r.length ≤ 1048576 := by have := HL1.out; simp only [List.length_cons] at this; omega
        rw [hkd] at c0
        clear hkd c1 hx hy hfu hdl
        have HEK := Lib.hid he
        clear he
        generalize (dif FU x ||| y : Nat) = z at *
        generalize dif FU x = d at *
        have HP1 := Lib.hid (popM_c (w2.heap.size) x (y :: r) (w2.heap.size + 1) wr HBS.out (by omega))
        have HP2 := Lib.hid (fun W hW => popM_c (w2.heap.size) y r (w2.heap.size + 1) W hW (by omega))
        go_wp2_with fail
        refine HP1.out.mono ?_
        rintro e wa ⟨rfl, hS2, hO2⟩
        have hp2 := (hO2.block (blk_lt HP.out) (by omega)).trans HP.out
        have hG2 := hO2.grew_of HG.out (by omega)
        have hz2 := hO2.size
        clear hO2
        go_wp2_with fail
        refine (HP2.out _ hS2).mono ?_
        rintro e wb ⟨rfl, hS3, hO3⟩
        have hp3 := (hO3.block (blk_lt hp2) (by omega)).trans hp2
        have hG3 := hO3.grew_of hG2 (by omega)
        have hz3 := hO3.size
        have HG3 := Lib.hid hG3
        have HP3 := Lib.hid hp3
        have HZ3 := Lib.hid (Nat.le_trans HZ.out (Nat.le_trans hz2 hz3))
        have HS3 := Lib.hid hS3
        clear hO3 hS2 hS3 hp2 hp3 hG2 hG3 hz2 hz3 HBS HP HG HZ
        obtain ⟨AS, nS, cS, hb, hO⟩ := HS3.out
        have k7 : wb.cell? ⟨w2.heap.size, 0, none⟩ = some (.slice AS nS cS) := by rw [blk_cell hb]; rfl
        have k7' : ∀ o, (wb.alloc o).cell? ⟨w2.heap.size, 0, none⟩ = some (.slice AS nS cS) := fun o => by rw [blk_cell ((((Grew.refl wb).alloc o).block (blk_lt hb)).trans hb)]; rfl
        have HBT := Lib.hid hb
        have HOT := Lib.hid hO
        have HZA := Lib.hid (fun o : Obj => (Nat.le_trans HZ3.out (((Grew.refl wb).alloc o).size) : w2.heap.size + 1 ≤ (wb.alloc o).heap.size))
        have HOA := Lib.hid (fun o : Obj => (hO.grew ((Grew.refl wb).alloc o) : OwnI (wb.alloc o) (w2.heap.size + 1) (.slice AS nS cS) (sk r)))
        clear hb hO
        go_wp2_with (first
          | (at_builtin
             refine wpList_appB (w2.heap.size + 1) _ _ rfl rfl (.slice AS nS cS) (sk r) rfl (HOA.out _) (HZA.out _) (.slice (some ⟨wb.heap.size, 0, none⟩) 1 1) ((z : Nat) : Int) rfl (rd_litI wb _ _) (by rw [sk_len]; exact hlr) ?_
             intro v8 w8 hown8 hg8
             obtain ⟨A8, c8, rfl⟩ := ints_slice hown8.ints
             rw [List.length_append, List.length_singleton] at hown8
             have hne8 : some (w2.heap.size) ≠ (Value.slice AS nS cS).ownBlock := fun he => by have := own_of_ge HOT.out he.symm; omega
             have hne9 : some w.heap.size ≠ (Value.slice AS nS cS).ownBlock := fun he => by have := own_of_ge HOT.out he.symm; omega
             have hb8 := (hg8.block _ (Nat.lt_of_lt_of_le (show w2.heap.size < w2.heap.size + 1 by omega) (HZA.out _)) hne8).trans ((((Grew.refl wb).alloc _).block (blk_lt HBT.out)).trans HBT.out)
             have hp8 := (hg8.block _ (Nat.lt_of_lt_of_le (show w.heap.size < w2.heap.size + 1 by omega) (HZA.out _)) hne9).trans ((((Grew.refl wb).alloc _).block (blk_lt HP3.out)).trans HP3.out)
             have k8 : w8.cell? ⟨w2.heap.size, 0, none⟩ = some (.slice AS nS cS) := by rw [blk_cell hb8]; rfl
             have f8 := blk_frozen hb8 0
             have hG8 : Grew w w8 := (HG3.out.alloc _).grown hg8 (fun g hg => by have := own_of_ge HOT.out hg; omega)
             have hz8 : w2.heap.size + 1 ≤ w8.heap.size := Nat.le_trans (HZA.out _) hg8.size
             have HFIN := Lib.hid (show Hid ((w8.setCell ⟨w2.heap.size, 0, none⟩ (.slice A8 ((sk r).length + 1) c8)).heap[w.heap.size]? = some (.cells #[.int .i64 (NA : Int), .slice A' NA c] 26 (0, 0))) ∧ Hid (Stk (w8.setCell ⟨w2.heap.size, 0, none⟩ (.slice A8 ((sk r).length + 1) c8)) (w2.heap.size) (w2.heap.size + 1) (mve A V (xs.drop k))) ∧ Hid (Grew w (w8.setCell ⟨w2.heap.size, 0, none⟩ (.slice A8 ((sk r).length + 1) c8))) ∧ Hid (w2.heap.size + 1 ≤ (w8.setCell ⟨w2.heap.size, 0, none⟩ (.slice A8 ((sk r).length + 1) c8)).heap.size) from by
               have hon : Only (w2.heap.size) w8 (w8.setCell ⟨w2.heap.size, 0, none⟩ (.slice A8 ((sk r).length + 1) c8)) := (Only.refl _ _).setCell _
               refine ⟨Lib.hid ((hon.block (by omega) (by omega)).trans hp8), Lib.hid ⟨_, _, _, blk_set hb8 0 _, ?_⟩, Lib.hid (hG8.setCell (show w.heap.size ≤ w2.heap.size by omega) _), Lib.hid (Nat.le_trans hz8 hon.size)⟩
               rw [HEK.out, sk_cons]
               exact own_only hown8 hon (fun he => by have := own_of_ge hown8 he; omega))
             clear hb8 hp8 hG8 hz8 hown8 hg8 hne8 hne9 k7 k7'))
        go_roundw
        case rel => exact ⟨k, by omega, rfl, HFIN.out⟩
        case measure => simp [intOf] <;> omega
      · obtain ⟨x, r, rfl⟩ := one_at (HF.out.2 (.inl hkd))
        have he : mve A V (xs.drop k) = (bx A x) :: r := HDRK.out.trans (mvs_box hkd)
        have hx := HSMK.out x (by simp)
        have KBm := Lib.hid (fun W hW => KBX.out x W hW (by omega))
        have hlr : r.length ≤ 1048576 := by have := HL1.out; simp only [List.length_cons] at this; omega
        rw [hkd] at c0
        clear hkd c1 hx
        have HEK := Lib.hid he
        clear he
        generalize (bx A x : Nat) = z at *
        have HP1 := Lib.hid (fun W hW => popM_c (w2.heap.size) x r (w2.heap.size + 1) W hW (by omega))
        have HPw := Lib.hid HP.out
        have d0 : ∀ W, Only (w2.heap.size) wr W → W.cell? ⟨w.heap.size, 0, none⟩ = some (.int .i64 (NA : Int)) := fun W hW => by rw [blk_cell ((hW.block (blk_lt HPw.out) (by omega)).trans HPw.out)]; rfl
        have d1 : ∀ W, Only (w2.heap.size) wr W → W.cell? ⟨w.heap.size, 1, none⟩ = some (.slice A' NA c) := fun W hW => by rw [blk_cell ((hW.block (blk_lt HPw.out) (by omega)).trans HPw.out)]; rfl
        have ho2 : Only (w2.heap.size) wr wr := Only.refl _ _
        have ho2d : Only (w2.heap.size) wr wr.drew := ho2.drew
        have HSD : Hid (Stk wr.drew (w2.heap.size) (w2.heap.size + 1) (x :: r)) := Lib.hid (HBS.out.grew (Grew.refl _).drew)
        go_wp2_with fail
        refine wp_region_held_drew (S := fun w' => Only (w2.heap.size) wr w') (by kernel_rfl) ho2d (fun hHeld => ?_)
        refine wpAnyH_take (i := 0) (oi := ?on1) (v := ?vn1) ?hin1 ?an1 ?bn1 ?cn1 ?qn1 (Or.inl ⟨?dn1, ?hyn1⟩) hHeld ?restn1
        case hin1 => (simp only [List.getElem?_toArray, List.getElem?_cons_zero]; exact rfl)
        case an1 => kernel_rfl
        case bn1 => kernel_rfl
        case cn1 => kernel_rfl
        case qn1 => exact fun _ _ _ h => h
        case dn1 => rfl
        case hyn1 => (intro z hSw; (try dsimp only at hSw); go_simp; (try with_reducible rfl))
        try simp only [Act.put, List.setIfInBounds_toArray, List.set_cons_zero, List.set_cons_succ]
        refine wpAnyH_take (i := 1) (oi := ?on2) (v := ?vn2) ?hin2 ?an2 ?bn2 ?cn2 ?qn2 (Or.inl ⟨?dn2, ?hyn2⟩) hHeld ?restn2
        case hin2 => (simp only [List.getElem?_toArray, List.getElem?_cons_succ, List.getElem?_cons_zero]; exact rfl)
        case an2 => kernel_rfl
        case bn2 => kernel_rfl
        case cn2 => kernel_rfl
        case qn2 => exact fun _ _ _ h => h
        case dn2 => rfl
        case hyn2 => (intro z hSw; (try dsimp only at hSw); go_simp; (try with_reducible rfl))
        try simp only [Act.put, List.setIfInBounds_toArray, List.set_cons_zero, List.set_cons_succ]
        refine wpAnyH_take (i := 2) (oi := ?on3) (v := ?vn3) ?hin3 ?an3 ?bn3 ?cn3 ?qn3 (Or.inl ⟨?dn3, ?hyn3⟩) hHeld ?restn3
        case hin3 => (simp only [List.getElem?_toArray, List.getElem?_cons_succ, List.getElem?_cons_zero]; exact rfl)
        case an3 => kernel_rfl
        case bn3 => kernel_rfl
        case cn3 => kernel_rfl
        case qn3 => exact fun _ _ _ h => h
        case dn3 => rfl
        case hyn3 => (intro z hSw; (try dsimp only at hSw); go_simp; (try with_reducible rfl))
        try simp only [Act.put, List.setIfInBounds_toArray, List.set_cons_zero, List.set_cons_succ]
        refine wpAnyH_ready (rs := [3]) (by kernel_rfl) (by simp) ?_
        refine AllReadyH.cons (o := ?on4) ?hin4 ?restn4 AllReadyH.nil
        case hin4 => (simp only [List.getElem?_toArray, List.getElem?_cons_succ, List.getElem?_cons_zero]; exact rfl)
        intro K hK
        go_simp
        go_at_call 125
        refine (HP1.out _ HSD.out).mono ?_
        rintro e wb ⟨rfl, hS3, hO3⟩
        have ho3 : Only (w2.heap.size) wr wb := ho2d.trans hO3
        refine hK.out _ _ ?_ (fun hHeld => ?_)
        · (try dsimp only); first | with_reducible assumption | exact Grew.alloc ‹_› _
        clear hK K
        try simp only [Act.put, List.setIfInBounds_toArray, List.set_cons_zero, List.set_cons_succ]
        refine wpAnyH_ready (rs := [4]) (by kernel_rfl) (by simp) ?_
        refine AllReadyH.cons (o := ?on5) ?hin5 ?restn5 AllReadyH.nil
        case hin5 => (simp only [List.getElem?_toArray, List.getElem?_cons_succ, List.getElem?_cons_zero]; exact rfl)
        intro K hK
        go_simp
        go_at_call 126
        refine (KBm.out _ (ho3.grew_of HG.out (by omega))).mono ?_
        rintro e wc ⟨rfl, hwc⟩
        subst hwc
        refine hK.out _ _ ?_ (fun hHeld => ?_)
        · (try dsimp only); first | with_reducible assumption | exact Grew.alloc ‹_› _
        clear hK K
        try simp only [Act.put, List.setIfInBounds_toArray, List.set_cons_zero, List.set_cons_succ]
        refine wpAnyH_take (i := 5) (oi := ?on6) (v := ?vn6) ?hin6 ?an6 ?bn6 ?cn6 ?qn6 (Or.inl ⟨?dn6, ?hyn6⟩) hHeld ?restn6
        case hin6 => (simp only [List.getElem?_toArray, List.getElem?_cons_succ, List.getElem?_cons_zero]; exact rfl)
        case an6 => kernel_rfl
        case bn6 => kernel_rfl
        case cn6 => kernel_rfl
        case qn6 => exact fun _ _ _ h => h
        case dn6 => rfl
        case hyn6 => (intro z hSw; (try dsimp only at hSw); go_simp; (try with_reducible rfl))
        try simp only [Act.put, List.setIfInBounds_toArray, List.set_cons_zero, List.set_cons_succ]
        refine wpAnyH_done (by kernel_rfl) ?_ _
        have hp3 := (ho3.block (blk_lt HPw.out) (by omega)).trans HPw.out
        have HG3 := Lib.hid (ho3.grew_of HG.out (by omega))
        have HP3 := Lib.hid hp3
        have HZ3 := Lib.hid (Nat.le_trans HZ.out ho3.size)
        have HS3 := Lib.hid hS3
        clear hO3 hS3 hp3 HBS HP HG HZ HSD ho3 ho2 ho2d d0 d1 HPw
        obtain ⟨AS, nS, cS, hb, hO⟩ := HS3.out
        have k7 : wc.cell? ⟨w2.heap.size, 0, none⟩ = some (.slice AS nS cS) := by rw [blk_cell hb]; rfl
        have k7' : ∀ o, (wc.alloc o).cell? ⟨w2.heap.size, 0, none⟩ = some (.slice AS nS cS) := fun o => by rw [blk_cell ((((Grew.refl wc).alloc o).block (blk_lt hb)).trans hb)]; rfl
        have HBT := Lib.hid hb
        have HOT := Lib.hid hO
        have HZA := Lib.hid (fun o : Obj => (Nat.le_trans HZ3.out (((Grew.refl wc).alloc o).size) : w2.heap.size + 1 ≤ (wc.alloc o).heap.size))
        have HOA := Lib.hid (fun o : Obj => (hO.grew ((Grew.refl wc).alloc o) : OwnI (wc.alloc o) (w2.heap.size + 1) (.slice AS nS cS) (sk r)))
        clear hb hO
        go_wp2_with (first
          | (at_builtin
             refine wpList_appB (w2.heap.size + 1) _ _ rfl rfl (.slice AS nS cS) (sk r) rfl (HOA.out _) (HZA.out _) (.slice (some ⟨wc.heap.size, 0, none⟩) 1 1) ((z : Nat) : Int) rfl (rd_litI wc _ _) (by rw [sk_len]; exact hlr) ?_
             intro v8 w8 hown8 hg8
             obtain ⟨A8, c8, rfl⟩ := ints_slice hown8.ints
             rw [List.length_append, List.length_singleton] at hown8
             have hne8 : some (w2.heap.size) ≠ (Value.slice AS nS cS).ownBlock := fun he => by have := own_of_ge HOT.out he.symm; omega
             have hne9 : some w.heap.size ≠ (Value.slice AS nS cS).ownBlock := fun he => by have := own_of_ge HOT.out he.symm; omega
             have hb8 := (hg8.block _ (Nat.lt_of_lt_of_le (show w2.heap.size < w2.heap.size + 1 by omega) (HZA.out _)) hne8).trans ((((Grew.refl wc).alloc _).block (blk_lt HBT.out)).trans HBT.out)
             have hp8 := (hg8.block _ (Nat.lt_of_lt_of_le (show w.heap.size < w2.heap.size + 1 by omega) (HZA.out _)) hne9).trans ((((Grew.refl wc).alloc _).block (blk_lt HP3.out)).trans HP3.out)
             have k8 : w8.cell? ⟨w2.heap.size, 0, none⟩ = some (.slice AS nS cS) := by rw [blk_cell hb8]; rfl
             have f8 := blk_frozen hb8 0
             have hG8 : Grew w w8 := (HG3.out.alloc _).grown hg8 (fun g hg => by have := own_of_ge HOT.out hg; omega)
             have hz8 : w2.heap.size + 1 ≤ w8.heap.size := Nat.le_trans (HZA.out _) hg8.size
             have HFIN := Lib.hid (show Hid ((w8.setCell ⟨w2.heap.size, 0, none⟩ (.slice A8 ((sk r).length + 1) c8)).heap[w.heap.size]? = some (.cells #[.int .i64 (NA : Int), .slice A' NA c] 26 (0, 0))) ∧ Hid (Stk (w8.setCell ⟨w2.heap.size, 0, none⟩ (.slice A8 ((sk r).length + 1) c8)) (w2.heap.size) (w2.heap.size + 1) (mve A V (xs.drop k))) ∧ Hid (Grew w (w8.setCell ⟨w2.heap.size, 0, none⟩ (.slice A8 ((sk r).length + 1) c8))) ∧ Hid (w2.heap.size + 1 ≤ (w8.setCell ⟨w2.heap.size, 0, none⟩ (.slice A8 ((sk r).length + 1) c8)).heap.size) from by
               have hon : Only (w2.heap.size) w8 (w8.setCell ⟨w2.heap.size, 0, none⟩ (.slice A8 ((sk r).length + 1) c8)) := (Only.refl _ _).setCell _
               refine ⟨Lib.hid ((hon.block (by omega) (by omega)).trans hp8), Lib.hid ⟨_, _, _, blk_set hb8 0 _, ?_⟩, Lib.hid (hG8.setCell (show w.heap.size ≤ w2.heap.size by omega) _), Lib.hid (Nat.le_trans hz8 hon.size)⟩
               rw [HEK.out, sk_cons]
               exact own_only hown8 hon (fun he => by have := own_of_ge hown8 he; omega))
             clear hb8 hp8 hG8 hz8 hown8 hg8 hne8 hne9 k7 k7'))
        go_roundw
        case rel => exact ⟨k, by omega, rfl, HFIN.out⟩
        case measure => simp [intOf] <;> omega
      · obtain ⟨x, r, rfl⟩ := one_at (HF.out.2 (.inr hkd))
        have he : mve A V (xs.drop k) = (dif FU (bx A (dif FU x))) :: r := HDRK.out.trans (HMD.out _ _ _ _ hkd)
        have hx := HSMK.out x (by simp)
        have hfu := HFU.out
        have hdl := dif_le (a := FU) (b := x)
        have hdb := HBL.out (dif FU x)
        have hxz := andNot_i64 FU x (by omega) (by omega)
        have hxy := andNot_i64 FU (bx A (dif FU x)) (by omega) (by omega)
        have KBm := Lib.hid (fun W hW => KBX.out (dif FU x) W hW (by omega))
        have hlr : r.length ≤ 1048576 := by have := HL1.out; simp only [List.length_cons] at this; omega
        rw [hkd] at c0
        clear hkd c1 hx hfu hdl hdb
        have HEK := Lib.hid he
        clear he
        generalize (dif FU (bx A (dif FU x)) : Nat) = z at *
        generalize bx A (dif FU x) = b1 at *
        generalize dif FU x = d at *
        have HP1 := Lib.hid (fun W hW => popM_c (w2.heap.size) x r (w2.heap.size + 1) W hW (by omega))
        have HPw := Lib.hid HP.out
        have d0 : ∀ W, Only (w2.heap.size) wr W → W.cell? ⟨w.heap.size, 0, none⟩ = some (.int .i64 (NA : Int)) := fun W hW => by rw [blk_cell ((hW.block (blk_lt HPw.out) (by omega)).trans HPw.out)]; rfl
        have d1 : ∀ W, Only (w2.heap.size) wr W → W.cell? ⟨w.heap.size, 1, none⟩ = some (.slice A' NA c) := fun W hW => by rw [blk_cell ((hW.block (blk_lt HPw.out) (by omega)).trans HPw.out)]; rfl
        have ho2 : Only (w2.heap.size) wr wr := Only.refl _ _
        have ho2d : Only (w2.heap.size) wr wr.drew := ho2.drew
        have HSD : Hid (Stk wr.drew (w2.heap.size) (w2.heap.size + 1) (x :: r)) := Lib.hid (HBS.out.grew (Grew.refl _).drew)
        go_wp2_with fail
        refine wp_region_held_drew (S := fun w' => Only (w2.heap.size) wr w') (by kernel_rfl) ho2d (fun hHeld => ?_)
        refine wpAnyH_take (i := 0) (oi := ?on7) (v := ?vn7) ?hin7 ?an7 ?bn7 ?cn7 ?qn7 (Or.inl ⟨?dn7, ?hyn7⟩) hHeld ?restn7
        case hin7 => (simp only [List.getElem?_toArray, List.getElem?_cons_zero]; exact rfl)
        case an7 => kernel_rfl
        case bn7 => kernel_rfl
        case cn7 => kernel_rfl
        case qn7 => exact fun _ _ _ h => h
        case dn7 => rfl
        case hyn7 => (intro z hSw; (try dsimp only at hSw); go_simp; (try with_reducible rfl))
        try simp only [Act.put, List.setIfInBounds_toArray, List.set_cons_zero, List.set_cons_succ]
        refine wpAnyH_take (i := 1) (oi := ?on8) (v := ?vn8) ?hin8 ?an8 ?bn8 ?cn8 ?qn8 (Or.inl ⟨?dn8, ?hyn8⟩) hHeld ?restn8
        case hin8 => (simp only [List.getElem?_toArray, List.getElem?_cons_succ, List.getElem?_cons_zero]; exact rfl)
        case an8 => kernel_rfl
        case bn8 => kernel_rfl
        case cn8 => kernel_rfl
        case qn8 => exact fun _ _ _ h => h
        case dn8 => rfl
        case hyn8 => (intro z hSw; (try dsimp only at hSw); go_simp; (try with_reducible rfl))
        try simp only [Act.put, List.setIfInBounds_toArray, List.set_cons_zero, List.set_cons_succ]
        refine wpAnyH_take (i := 2) (oi := ?on9) (v := ?vn9) ?hin9 ?an9 ?bn9 ?cn9 ?qn9 (Or.inl ⟨?dn9, ?hyn9⟩) hHeld ?restn9
        case hin9 => (simp only [List.getElem?_toArray, List.getElem?_cons_succ, List.getElem?_cons_zero]; exact rfl)
        case an9 => kernel_rfl
        case bn9 => kernel_rfl
        case cn9 => kernel_rfl
        case qn9 => exact fun _ _ _ h => h
        case dn9 => rfl
        case hyn9 => (intro z hSw; (try dsimp only at hSw); go_simp; (try with_reducible rfl))
        try simp only [Act.put, List.setIfInBounds_toArray, List.set_cons_zero, List.set_cons_succ]
        refine wpAnyH_take (i := 3) (oi := ?on10) (v := ?vn10) ?hin10 ?an10 ?bn10 ?cn10 ?qn10 (Or.inl ⟨?dn10, ?hyn10⟩) hHeld ?restn10
        case hin10 => (simp only [List.getElem?_toArray, List.getElem?_cons_succ, List.getElem?_cons_zero]; exact rfl)
        case an10 => kernel_rfl
        case bn10 => kernel_rfl
        case cn10 => kernel_rfl
        case qn10 => exact fun _ _ _ h => h
        case dn10 => rfl
        case hyn10 => (intro z hSw; (try dsimp only at hSw); go_simp; (try with_reducible rfl))
        try simp only [Act.put, List.setIfInBounds_toArray, List.set_cons_zero, List.set_cons_succ]
        refine wpAnyH_take (i := 4) (oi := ?on11) (v := ?vn11) ?hin11 ?an11 ?bn11 ?cn11 ?qn11 (Or.inl ⟨?dn11, ?hyn11⟩) hHeld ?restn11
        case hin11 => (simp only [List.getElem?_toArray, List.getElem?_cons_succ, List.getElem?_cons_zero]; exact rfl)
        case an11 => kernel_rfl
        case bn11 => kernel_rfl
        case cn11 => kernel_rfl
        case qn11 => exact fun _ _ _ h => h
        case dn11 => rfl
        case hyn11 => (intro z hSw; (try dsimp only at hSw); go_simp; (try with_reducible rfl))
        try simp only [Act.put, List.setIfInBounds_toArray, List.set_cons_zero, List.set_cons_succ]
        refine wpAnyH_ready (rs := [5]) (by kernel_rfl) (by simp) ?_
        refine AllReadyH.cons (o := ?on12) ?hin12 ?restn12 AllReadyH.nil
        case hin12 => (simp only [List.getElem?_toArray, List.getElem?_cons_succ, List.getElem?_cons_zero]; exact rfl)
        intro K hK
        go_simp
        go_at_call 125
        refine (HP1.out _ HSD.out).mono ?_
        rintro e wb ⟨rfl, hS3, hO3⟩
        have ho3 : Only (w2.heap.size) wr wb := ho2d.trans hO3
        refine hK.out _ _ ?_ (fun hHeld => ?_)
        · (try dsimp only); first | with_reducible assumption | exact Grew.alloc ‹_› _
        clear hK K
        try simp only [Act.put, List.setIfInBounds_toArray, List.set_cons_zero, List.set_cons_succ]
        refine wpAnyH_take (i := 6) (oi := ?on13) (v := ?vn13) ?hin13 ?an13 ?bn13 ?cn13 ?qn13 (Or.inl ⟨?dn13, ?hyn13⟩) hHeld ?restn13
        case hin13 => (simp only [List.getElem?_toArray, List.getElem?_cons_succ, List.getElem?_cons_zero]; exact rfl)
        case an13 => kernel_rfl
        case bn13 => kernel_rfl
        case cn13 => kernel_rfl
        case qn13 => exact fun _ _ _ h => h
        case dn13 => rfl
        case hyn13 => (intro z hSw; (try dsimp only at hSw); go_simp; (try with_reducible rfl))
        try simp only [Act.put, List.setIfInBounds_toArray, List.set_cons_zero, List.set_cons_succ]
        refine wpAnyH_ready (rs := [7]) (by kernel_rfl) (by simp) ?_
        refine AllReadyH.cons (o := ?on14) ?hin14 ?restn14 AllReadyH.nil
        case hin14 => (simp only [List.getElem?_toArray, List.getElem?_cons_succ, List.getElem?_cons_zero]; exact rfl)
        intro K hK
        go_simp
        go_at_call 126
        refine (KBm.out _ (ho3.grew_of HG.out (by omega))).mono ?_
        rintro e wc ⟨rfl, hwc⟩
        subst hwc
        refine hK.out _ _ ?_ (fun hHeld => ?_)
        · (try dsimp only); first | with_reducible assumption | exact Grew.alloc ‹_› _
        clear hK K
        try simp only [Act.put, List.setIfInBounds_toArray, List.set_cons_zero, List.set_cons_succ]
        refine wpAnyH_take (i := 8) (oi := ?on15) (v := ?vn15) ?hin15 ?an15 ?bn15 ?cn15 ?qn15 (Or.inl ⟨?dn15, ?hyn15⟩) hHeld ?restn15
        case hin15 => (simp only [List.getElem?_toArray, List.getElem?_cons_succ, List.getElem?_cons_zero]; exact rfl)
        case an15 => kernel_rfl
        case bn15 => kernel_rfl
        case cn15 => kernel_rfl
        case qn15 => exact fun _ _ _ h => h
        case dn15 => rfl
        case hyn15 => (intro z hSw; (try dsimp only at hSw); go_simp; (try with_reducible rfl))
        try simp only [Act.put, List.setIfInBounds_toArray, List.set_cons_zero, List.set_cons_succ]
        refine wpAnyH_take (i := 9) (oi := ?on16) (v := ?vn16) ?hin16 ?an16 ?bn16 ?cn16 ?qn16 (Or.inl ⟨?dn16, ?hyn16⟩) hHeld ?restn16
        case hin16 => (simp only [List.getElem?_toArray, List.getElem?_cons_succ, List.getElem?_cons_zero]; exact rfl)
        case an16 => kernel_rfl
        case bn16 => kernel_rfl
        case cn16 => kernel_rfl
        case qn16 => exact fun _ _ _ h => h
        case dn16 => rfl
        case hyn16 => (intro z hSw; (try dsimp only at hSw); go_simp; (try with_reducible rfl))
        try simp only [Act.put, List.setIfInBounds_toArray, List.set_cons_zero, List.set_cons_succ]
        refine wpAnyH_done (by kernel_rfl) ?_ _
        have hp3 := (ho3.block (blk_lt HPw.out) (by omega)).trans HPw.out
        have HG3 := Lib.hid (ho3.grew_of HG.out (by omega))
        have HP3 := Lib.hid hp3
        have HZ3 := Lib.hid (Nat.le_trans HZ.out ho3.size)
        have HS3 := Lib.hid hS3
        clear hO3 hS3 hp3 HBS HP HG HZ HSD ho3 ho2 ho2d d0 d1 HPw
        obtain ⟨AS, nS, cS, hb, hO⟩ := HS3.out
        have k7 : wc.cell? ⟨w2.heap.size, 0, none⟩ = some (.slice AS nS cS) := by rw [blk_cell hb]; rfl
        have k7' : ∀ o, (wc.alloc o).cell? ⟨w2.heap.size, 0, none⟩ = some (.slice AS nS cS) := fun o => by rw [blk_cell ((((Grew.refl wc).alloc o).block (blk_lt hb)).trans hb)]; rfl
        have HBT := Lib.hid hb
        have HOT := Lib.hid hO
        have HZA := Lib.hid (fun o : Obj => (Nat.le_trans HZ3.out (((Grew.refl wc).alloc o).size) : w2.heap.size + 1 ≤ (wc.alloc o).heap.size))
        have HOA := Lib.hid (fun o : Obj => (hO.grew ((Grew.refl wc).alloc o) : OwnI (wc.alloc o) (w2.heap.size + 1) (.slice AS nS cS) (sk r)))
        clear hb hO
        go_wp2_with (first
          | (at_builtin
             refine wpList_appB (w2.heap.size + 1) _ _ rfl rfl (.slice AS nS cS) (sk r) rfl (HOA.out _) (HZA.out _) (.slice (some ⟨wc.heap.size, 0, none⟩) 1 1) ((z : Nat) : Int) rfl (rd_litI wc _ _) (by rw [sk_len]; exact hlr) ?_
             intro v8 w8 hown8 hg8
             obtain ⟨A8, c8, rfl⟩ := ints_slice hown8.ints
             rw [List.length_append, List.length_singleton] at hown8
             have hne8 : some (w2.heap.size) ≠ (Value.slice AS nS cS).ownBlock := fun he => by have := own_of_ge HOT.out he.symm; omega
             have hne9 : some w.heap.size ≠ (Value.slice AS nS cS).ownBlock := fun he => by have := own_of_ge HOT.out he.symm; omega
             have hb8 := (hg8.block _ (Nat.lt_of_lt_of_le (show w2.heap.size < w2.heap.size + 1 by omega) (HZA.out _)) hne8).trans ((((Grew.refl wc).alloc _).block (blk_lt HBT.out)).trans HBT.out)
             have hp8 := (hg8.block _ (Nat.lt_of_lt_of_le (show w.heap.size < w2.heap.size + 1 by omega) (HZA.out _)) hne9).trans ((((Grew.refl wc).alloc _).block (blk_lt HP3.out)).trans HP3.out)
             have k8 : w8.cell? ⟨w2.heap.size, 0, none⟩ = some (.slice AS nS cS) := by rw [blk_cell hb8]; rfl
             have f8 := blk_frozen hb8 0
             have hG8 : Grew w w8 := (HG3.out.alloc _).grown hg8 (fun g hg => by have := own_of_ge HOT.out hg; omega)
             have hz8 : w2.heap.size + 1 ≤ w8.heap.size := Nat.le_trans (HZA.out _) hg8.size
             have HFIN := Lib.hid (show Hid ((w8.setCell ⟨w2.heap.size, 0, none⟩ (.slice A8 ((sk r).length + 1) c8)).heap[w.heap.size]? = some (.cells #[.int .i64 (NA : Int), .slice A' NA c] 26 (0, 0))) ∧ Hid (Stk (w8.setCell ⟨w2.heap.size, 0, none⟩ (.slice A8 ((sk r).length + 1) c8)) (w2.heap.size) (w2.heap.size + 1) (mve A V (xs.drop k))) ∧ Hid (Grew w (w8.setCell ⟨w2.heap.size, 0, none⟩ (.slice A8 ((sk r).length + 1) c8))) ∧ Hid (w2.heap.size + 1 ≤ (w8.setCell ⟨w2.heap.size, 0, none⟩ (.slice A8 ((sk r).length + 1) c8)).heap.size) from by
               have hon : Only (w2.heap.size) w8 (w8.setCell ⟨w2.heap.size, 0, none⟩ (.slice A8 ((sk r).length + 1) c8)) := (Only.refl _ _).setCell _
               refine ⟨Lib.hid ((hon.block (by omega) (by omega)).trans hp8), Lib.hid ⟨_, _, _, blk_set hb8 0 _, ?_⟩, Lib.hid (hG8.setCell (show w.heap.size ≤ w2.heap.size by omega) _), Lib.hid (Nat.le_trans hz8 hon.size)⟩
               rw [HEK.out, sk_cons]
               exact own_only hown8 hon (fun he => by have := own_of_ge hown8 he; omega))
             clear hb8 hp8 hG8 hz8 hown8 hg8 hne8 hne9 k7 k7'))
        go_roundw
        case rel => exact ⟨k, by omega, rfl, HFIN.out⟩
        case measure => simp [intOf] <;> omega
end Go.Proofs.YtpfncncohnhanaaGreatDoor

/- The program's iterator over the values of all models on a frame (valuations): it hands out allV n vars. -/
namespace Go.Proofs.YtpfncncohnhanaaGreatDoor
open Go.RowKit
attribute [local go_sem] Oper.semAt_some

theorem KB.grew {W0 W W' : World} {l gv : Nat} (h : KB W0 l gv W) (k : Grew W W') : KB W0 l gv W' := h.kept (KeptBut.grew k)
/-- The facts of one value's reckoning. -/
theorem dg_facts (n c num j : Nat) (hj : j < c) (hc : c ≤ 6) (hn : n ≤ 8) (hfit : n * c ≤ 16) (hnum : num ≤ 65536) :
    IntKind.i64.wrap ((c : Int) - 1) = ((c - 1 : Nat) : Int) ∧ IntKind.i64.wrap (((c - 1 : Nat) : Int) - (j : Int)) = ((c - 1 - j : Nat) : Int) ∧
    IntKind.i64.wrap ((n : Int) * ((c - 1 - j : Nat) : Int)) = ((n * (c - 1 - j) : Nat) : Int) ∧ n * (c - 1 - j) < 64 ∧
    bits .and .i64 ((num : Int) / 2 ^ ((n : Int) * ((c - 1 - j : Nat) : Int)).toNat) ((full n : Nat) : Int) = ((dg n c num j : Nat) : Int) := by
  have h1 : n * (c - 1 - j) ≤ n * c := Nat.mul_le_mul_left _ (by omega)
  have hkb : num / 2 ^ (n * (c - 1 - j)) < 9223372036854775808 := Nat.lt_of_le_of_lt (Nat.div_le_self _ _) (by omega)
  have hf : full n < 9223372036854775808 := Nat.lt_of_lt_of_le (full_lt n) (Nat.le_trans (Nat.pow_le_pow_right (by omega) hn) (by decide))
  have h3 := and_i64 (num / 2 ^ (n * (c - 1 - j))) (full n) hkb hf
  rw [dg_and] at h3
  have h4 : (num : Int) / 2 ^ ((n : Int) * ((c - 1 - j : Nat) : Int)).toNat = ((num / 2 ^ (n * (c - 1 - j)) : Nat) : Int) := by
    rw [← Int.natCast_mul, Int.toNat_natCast, Int.natCast_ediv, Int.natCast_pow]; rfl
  refine ⟨by rw [IntKind.wrap_i64]; omega, by rw [IntKind.wrap_i64]; omega, ?_, by omega, by rw [h4]; exact h3⟩
  rw [← Int.natCast_mul, IntKind.wrap_i64]
  generalize n * (c - 1 - j) = q at *
  omega

set_option maxHeartbeats 2000000 in
theorem fvalSeq_c (n : Nat) (vars : List Nat) (bV bF : Nat) (w0 : World) (vV v : Value) (cV : w0.cell? ⟨bV, 0, none⟩ = some vV) (cF0 : w0.cell? ⟨bF, 0, none⟩ = some (.int .i64 (n : Int))) (cF1 : w0.cell? ⟨bF, 1, none⟩ = some v) (hbV : bV < w0.heap.size) (hbF : bF < w0.heap.size)
    (hv : ∃ A m c, v = .slice A m c) (hV : Ints w0 vV (zs vars)) (h6 : ∀ x ∈ vars, x < 6) (hnd : vars.Nodup) (hvl : vars.length ≤ 6) (hn : n ≤ 8) (hfit : n * vars.length ≤ 16) :
    SeqV Tryz.prog 124 #[.pointer (some ⟨bV, 0, none⟩), .pointer (some ⟨bF, 0, none⟩)] (fun W v x => Ints W v (zs x) ∧ (x.length = 6 ∧ ∀ m ∈ x, m < 2 ^ n)) (fun xs => xs = allV n vars) (fun pre => pre <+: allV n vars) w0 := by
  intro N l J Jx W hW hl0 hl1 hJ hJx hY h0
  have hmk : ∀ W : World, (Instr.makeSlice 24 (.int .i64 6) (.int .i64 6)).run Tryz.prog W = .ok (.slice (some ⟨W.heap.size, 0, none⟩) 6 6) (W.alloc (.cells (madeCells #[Value.int .i64 0] 6) 2)) := fun W => run_make_rows (P := Tryz.prog) 24 2 (.int .i64 0) 1 8 #[.int .i64 0] Tryz.underlying24 Tryz.infoI rfl .i64 .i64 6 (by omega) (by omega) W
  have hwl := hW.size
  obtain ⟨wa, hwa⟩ : ∃ wa, wa = W.alloc (.cells (madeCells #[Value.int .i64 0] 6) 2) := ⟨_, rfl⟩
  have hga : Grew W wa := by rw [hwa]; exact (Grew.refl W).alloc _
  have hR0 : NRow wa W.heap.size 6 6 (fun _ => 0) := ⟨_, by rw [hwa]; exact blk_new W _, size_madeCells _ _, Nat.le_refl _, by omega, fun i hi => made_z hi⟩
  have hKB := KB.refl wa l W.heap.size
  have cc : ∀ (b o : Nat) (v : Value), w0.cell? ⟨b, o, none⟩ = some v → b < w0.heap.size → ∀ X, KB wa l W.heap.size X → X.cell? ⟨b, o, none⟩ = some v := fun b o v hc hb X hX =>
    (hX.cell (p := ⟨b, o, none⟩) (by show b < _; have := hga.size; omega) (by show b ≠ l; omega) (by show b ≠ W.heap.size; omega)).trans (((hW.trans hga).cell (p := ⟨b, o, none⟩) hb).trans hc)
  obtain ⟨AV, nV, rfl, hVc⟩ := kb_cells hV (hW.trans hga) hl0 hwl
  obtain ⟨A1, m1, c1, rfl⟩ := hv
  have HSZ := Lib.hid (fun W (hW : Grew w0 W) => size_q _ (zs vars) W (hV.grew hW))
  rw [zs_len] at HSZ
  have HCV := Lib.hid (cc bV 0 _ cV hbV)
  have HC0 := Lib.hid (cc bF 0 _ cF0 hbF)
  have HC1 := Lib.hid (cc bF 1 _ cF1 hbF)
  have HVC := Lib.hid hVc
  have HKB := Lib.hid hKB
  have HR0 := Lib.hid hR0
  have HJ0 := Lib.hid (hJ _ _ _ h0 hga)
  have HJA := Lib.hid hJ
  have HY := Lib.hid hY
  have HAL := Lib.hid (fun X => frameAll_c n (.slice A1 m1 c1) X ⟨_, _, _, rfl⟩ (by omega))
  have HTK := Lib.hid (fun k (hk : k < 2 ^ (n * vars.length)) => @allV_take n vars k hk)
  have HDG := Lib.hid (fun num j (hj : j < vars.length) (hnum : num ≤ 65536) => dg_facts n vars.length num j hj hvl hn hfit hnum)
  have hM : 2 ^ (n * vars.length) ≤ 65536 := Nat.le_trans (Nat.pow_le_pow_right (by omega) hfit) (by decide)
  have hp := wrap_pow (k := n * vars.length) (by omega)
  have hmul : wrap64 ((n : Int) * (vars.length : Int)) = ((n * vars.length : Nat) : Int) := by rw [← Int.natCast_mul, wrap64]; omega
  have HEN := Lib.hid (show (allV n vars).take (2 ^ (n * vars.length)) = allV n vars from by rw [← allV_len]; exact List.take_length)
  have HWA := Lib.hid (hW.trans hga)
  clear cc cV cF0 cF1 hV hVc hKB hR0 h0 hJ hJx hY
  refine callsIn_of_wp Tryz.func124 rfl trivial ?_ rfl
  simp only [Tryz.ntmps124, List.size_toArray, List.length_cons, List.length_nil, Nat.reduceAdd, Nat.reduceSub, Array.replicate_succ, Array.replicate_zero, List.push_toArray, List.append_toArray, List.nil_append, List.cons_append]
  have k1 := HCV.out _ HKB.out
  rw [hwa] at k1
  have k2 := HC0.out _ HKB.out
  refine wpIn_wide.2 ?_
  go_wp2_with fail
  simp only [← hwa]
  clear hwa k1
  refine (HSZ.out _ HWA.out).mono ?_
  rintro e w1 ⟨rfl, hw1⟩
  rw [hw1]
  clear hw1
  obtain ⟨M, hMM⟩ : ∃ M, M = 2 ^ (n * vars.length) := ⟨_, rfl⟩
  rw [← hMM] at HTK hM hp HEN
  have HMM := Lib.hid hMM
  clear hMM
  go_wp2_with fail
  rw [hp]
  clear k2 hmul hp
  go_loopw [6, 7, 8, 17, 22] (fun _ _ _ i _ wr => ∃ (k : Nat) (f : Nat → Nat), k ≤ M ∧ i = .int .i64 (k : Int) ∧ Hid (KB wa l W.heap.size wr) ∧ Hid (J ((allV n vars).take k) wr) ∧ Hid (NRow wr W.heap.size 6 6 f) ∧ Hid (∀ i, i < 6 → i ∉ vars → f i = 0)) (fun _ _ _ i _ _ => M - (intOf i).toNat)
  case atStart => exact ⟨0, fun _ => 0, Nat.zero_le _, rfl, HKB, HJ0, HR0, Lib.hid (fun _ _ _ => rfl)⟩
  case round =>
    obtain ⟨k, f, hk, rfl, hK, hJk, hR, hZ⟩ := hrel
    by_cases hlt : k < M
    · have HJN := Lib.hid (HTK.out k hlt)
      have hk1 := HCV.out _ hK.out
      have HPG := Lib.hid (PG.zero (n := n) (vars := vars) (num := k) hZ.out)
      go_wp2_with fail
      clear hk1
      go_loopw [7, 8, 22] (fun _ _ i wr => ∃ (j : Nat) (f : Nat → Nat), j ≤ vars.length ∧ i = .int .i64 (j : Int) ∧ Hid (KB wa l W.heap.size wr) ∧ Hid (J ((allV n vars).take k) wr) ∧ Hid (NRow wr W.heap.size 6 6 f) ∧ Hid (PG n vars k j f)) (fun _ _ i _ => vars.length - (intOf i).toNat)
      case atStart => exact ⟨0, f, Nat.zero_le _, rfl, hK, hJk, hR, HPG⟩
      case round =>
        obtain ⟨j, f2, hj, rfl, hK2, hJ2, hR2, hP2⟩ := hrel
        by_cases hlj : j < vars.length
        · obtain ⟨b, o, rfl, hvc⟩ := HVC.out j hlj
          have kv := hvc _ hK2.out
          have hv6 := h6 _ (nt_mem hlj)
          obtain ⟨d1, d2, d3, d4, d6⟩ := HDG.out k j hlj (by omega)
          have D6 := Lib.hid d6
          clear d6
          have c0 := HC0.out
          have c1 := HC1.out
          have c6 := fun A (hA : Grew wr A) => (hR2.out.grew hA).cell hv6
          have c7 := fun A (hA : Grew wr A) => (hR2.out.grew hA).free (nt vars j)
          have r2 := (Grew.refl wr).drew
          have e2 := hK2.out.grew r2
          have hb2 : (0 : Int) ≤ (nt vars j : Int) := by omega
          have hb3 : (nt vars j : Int) < 6 := by omega
          have d7 : ((n * (vars.length - 1 - j) : Nat) : Int) < 64 := by omega
          have hq := h6
          go_wp2_with fail
          go_region_held3 (fun w' => KB wa l W.heap.size w') (first | assumption | exact KB.set ‹_› _ | exact KB.grew ‹_› ‹_› | exact KB.drew ‹_›) (first
            | (go_at_call 83; refine (HAL.out _).mono ?_; rintro e w9 ⟨rfl, hg9⟩; have hgw : Grew wr w9 := r2.trans hg9; have hkb9 := e2.grew hg9))
          rw [D6.out]
          have hR3 := Lib.hid ((hR2.out.grew hgw).set (f' := fun q => if q = nt vars j then dg n vars.length k j else f2 q) hv6 (if_pos rfl) (fun q _ hq => if_neg hq))
          have hP3 := Lib.hid (hP2.out.set (f' := fun q => if q = nt vars j then dg n vars.length k j else f2 q) hnd hlj (if_pos rfl) (fun q hq => if_neg hq))
          have hK3 := Lib.hid (hkb9.set (o := nt vars j) (.int .i64 ((dg n vars.length k j : Nat) : Int)))
          have hwz : W.heap.size ≤ wr.heap.size := Nat.le_trans hga.size hK2.out.1
          have hJ3 := Lib.hid (HJA.out _ _ _ hJ2.out ((Below.mono hgw hwz).setCell (p := ⟨W.heap.size, nt vars j, none⟩) (Nat.le_refl _) (.int .i64 ((dg n vars.length k j : Nat) : Int))))
          clear hgw hg9 hkb9 e2 d1 d2 d3 d4 d7 c6 c7 kv hvc
          go_wp2_with fail
          go_roundw
          case rel => exact ⟨j + 1, _, by omega, by go_num, hK3, hJ3, hR3, hP3⟩
          case measure => simp [intOf]; omega
        · obtain rfl : j = vars.length := by omega
          have hI := hR2.out.ints
          rw [hP2.out.vals] at hI
          have hzz : Hid (∀ i, i < 6 → i ∉ vars → f2 i = 0) := Lib.hid hP2.out.2
          obtain ⟨fn, tmps, assign, body, hy, hRd⟩ := HY.out (N - 1) _ (vals n vars k) (.slice (some ⟨W.heap.size, 0, none⟩) 6 6) wr hJ2.out ⟨hI, vals_len _ _ _, vals_lt _ _ _⟩
          have HRD := Lib.hid hRd
          clear hRd hI
          go_upto_region 10 with fail
          refine (wpIn_wide (n := N)).1 ?_
          gi_wp2
          refine ⟨fun h => by simp [Fence.wide] at h, HRD.out.mono ?_⟩
          have HQX := Lib.hid (show (allV n vars).take (k + 1) <+: allV n vars from List.take_prefix _ _)
          rintro e W3 (⟨rfl, hJ3, hk3⟩ | ⟨rfl, hJx3⟩)
          · rw [← HJN.out] at hJ3
            have HJ3 := Lib.hid hJ3
            have HK3 := Lib.hid (hK2.out.kept hk3)
            have HR3 := Lib.hid (hR2.out.kept hk3 (show W.heap.size ≠ l by omega))
            clear hJ3 hk3
            gi_wp2
            go_wp2_with fail
            go_roundw
            case rel => exact ⟨k + 1, f2, by omega, by go_num, HK3, HJ3, HR3, hzz⟩
            case measure => simp [intOf]; omega
          · rw [← HJN.out] at hJx3
            have HJ3 := Lib.hid hJx3
            clear hJx3
            gi_wp2
            go_wp2_with fail
            refine bodyPost_ret (results_none rfl _ _ _) rfl ?_
            exact ⟨⟨_, rfl⟩, .inr ⟨_, HQX.out, HJ3.out⟩⟩
    · obtain rfl : k = M := by omega
      have HJ3 : Hid (J (allV n vars) wr) := Lib.hid (by rw [← HEN.out]; exact hJk.out)
      go_wp2_with fail
      go_end0
      exact ⟨⟨_, rfl⟩, .inl ⟨_, rfl, HJ3.out⟩⟩
end Go.Proofs.YtpfncncohnhanaaGreatDoor

/- Formulas of two parts. -/
namespace Go.Proofs.YtpfncncohnhanaaGreatDoor
open Go.RowKit

/-- The formula has two parts. -/
def TwoF (A p q : Fm.Tree) : Prop := Fm.enc A = (kindOf A, 0) :: (Fm.enc p ++ Fm.enc q)
theorem TwoF.len {A p q : Fm.Tree} (h : TwoF A p q) : (Fm.enc A).length = 1 + (Fm.enc p).length + (Fm.enc q).length := by rw [h]; simp; omega
end Go.Proofs.YtpfncncohnhanaaGreatDoor

/- The parts of a formula in the reference. -/
namespace Go.Proofs.YtpfncncohnhanaaGreatDoor
open Go.RowKit
open Fm (Nd Tree)

theorem left_t {A x y : Tree} (h2 : TwoF A x y) (hA : FmOk A) (v : Value) (w : World) (h : Nodes w v (Fm.enc A)) : Calls Tryz.prog 162 #[v] w (Cuts w (Fm.enc x)) :=
  l02Left_c v (Fm.enc A) x w h (by have := hA.1; omega) (at_first h2)
theorem right_t {A x y : Tree} (h2 : TwoF A x y) (hA : FmOk A) (v : Value) (w : World) (h : Nodes w v (Fm.enc A)) : Calls Tryz.prog 163 #[v] w (Cuts w (Fm.enc y)) :=
  l02Right_c v (Fm.enc A) x y w h (by have := hA.1; omega) (at_first h2) (at_second h2) h2.len
theorem two_and (x y : Tree) : TwoF (.and x y) x y := rfl
theorem two_or (x y : Tree) : TwoF (.or x y) x y := rfl
theorem two_imp (x y : Tree) : TwoF (.imp x y) x y := rfl
/-- A head's cell. -/
theorem head_t {w : World} {v : Value} {t : Tree} (h : Nodes w v (Fm.enc t)) : ∃ b o n c, v = .slice (some ⟨b, o, none⟩) n c ∧ 0 < n ∧ n = (Fm.enc t).length ∧ ∀ W, Grew w W → W.cell? ⟨b, o, none⟩ = some (.int .i64 (kindOf t)) := by
  obtain ⟨b, o, c, h1, _, _, h4⟩ := nodes_head h
  exact ⟨b, o, _, c, h1, Fm.enc_pos t, rfl, h4⟩

end Go.Proofs.YtpfncncohnhanaaGreatDoor

/- l17Force of the reference. -/
namespace Go.Proofs.YtpfncncohnhanaaGreatDoor
open Go.RowKit
open Fm (Nd Tree)

theorem fv_sm {A V : List Nat} (hA : Rl A) (hV : ∀ m ∈ V, m < 2 ^ A.length) (t : Tree) : fv A V t < 1073741824 := Nat.lt_of_lt_of_le (fv_lt hV t) (pow30' hA.1)
end Go.Proofs.YtpfncncohnhanaaGreatDoor

/- l05Flag of the reference: reflexive, transitive, antisymmetric. -/
namespace Go.Proofs.YtpfncncohnhanaaGreatDoor
open Go.RowKit
set_option maxHeartbeats 4000000 in
set_option maxRecDepth 100000 in
theorem l05Flag0_c (v : Value) (A : List Nat) (w : World) (h : Ints w v (zs A)) (hA : Rl A) :
    Calls Tryz.prog 94 #[.agg #[.int .i64 (A.length : Int), v], .int .i64 0] w fun e w' => e = .returned (.bool (reflB A)) ∧ Grew w w' := by
  obtain ⟨R, hR⟩ : ∃ R, R = reflB A := ⟨_, rfl⟩
  rw [← hR]
  unfold reflB at hR
  have HA := Lib.hid (fun k hk h => hR.trans (@allB_no A.length (fun x => (nt A x).testBit x) k hk h))
  have HZ := Lib.hid (fun h => hR.trans (@allB_of A.length (fun x => (nt A x).testBit x) h))
  have hn30 := hA.1
  have HB := Lib.hid (fun i (hi : i < A.length) k (hk : k < 64) => l01Bit_q (nt A i) k (by have := hA.sm.at_ hi; omega) hk)
  have hal := (Grew.refl w).alloc (.cells #[.int .i64 (A.length : Int), v] 26)
  have y0 : ∀ W, Grew (w.alloc (.cells #[.int .i64 (A.length : Int), v] 26)) W → W.cell? ⟨w.heap.size, 0, none⟩ = some (.int .i64 (A.length : Int)) := fun W hW => (hW.cell (p := ⟨w.heap.size, 0, none⟩) (by simp)).trans (by simp)
  have y1 : ∀ W, Grew (w.alloc (.cells #[.int .i64 (A.length : Int), v] 26)) W → W.cell? ⟨w.heap.size, 1, none⟩ = some v := fun W hW => (hW.cell (p := ⟨w.heap.size, 1, none⟩) (by simp)).trans (by simp)
  obtain ⟨w1, hw1⟩ : ∃ w1, w1 = w.alloc (.cells #[.int .i64 (A.length : Int), v] 26) := ⟨_, rfl⟩
  rw [← hw1] at y0 y1 hal
  have HG := Lib.hid hal
  have r1 := Grew.refl w1
  have r1d := r1.drew
  obtain ⟨A', c, rfl⟩ := ints_sliceN h
  have HC := Lib.hid (fun h0 => cellsN h h0)
  clear h hA hR hal
  generalize hN : A.length = n at *
  clear hN
  go_enter Tryz.func94, Tryz.ntmps94
  go_wp2_with fail
  simp only [← hw1]
  clear hw1
  go_quiet (fail)
  go_wp2_with fail
  go_loopw [7] (fun i wr => ∃ j : Nat, j ≤ n ∧ i = .int .i64 j ∧ Grew w1 wr ∧ Hid (AllK (fun x => (nt A x).testBit x) j)) (fun i _ => n - (intOf i).toNat)
  case atStart => exact ⟨0, Nat.zero_le _, rfl, (Grew.refl _).drewN _, AllK.zero _⟩
  case round =>
    obtain ⟨j, hj, rfl, hB, HJ⟩ := hrel
    by_cases hlt : j < n
    · obtain ⟨b, o, rfl, hcell⟩ := HC.out (by omega)
      have hgw := HG.out
      have HX := Lib.hid (fun i hi W (hW : Grew w1 W) => hcell i hi W (hgw.trans hW))
      have hcx := fun W (hW : Grew wr W) => HX.out j hlt W (hB.trans hW)
      have rx := Grew.refl wr
      have hA := Lib.hid (HA.out j hlt)
      have hS := Lib.hid (fun h => HJ.out.succ (k := j) h)
      have hBx := Lib.hid (HB.out j hlt)
      clear hcell
      have hbr := Lib.hid (hBx.out j (by omega))
      cases ht : (nt A j).testBit j with
      | false =>
        have hv := Lib.hid (hA.out ht)
        rw [ht] at hbr
        generalize nt A j = m at *
        go_wp2_with fail
        refine (hbr.out _).mono ?_
        rintro e w2 ⟨rfl, rfl⟩
        go_wp2_with fail
        go_ret
        exact ⟨by rw [hv.out]; rfl, HG.out.trans hB⟩
      | true =>
      have hs := Lib.hid (hS.out ht)
      rw [ht] at hbr
      clear ht hA hS
      go_wp2_with fail
      refine (hbr.out _).mono ?_
      rintro e w2 ⟨rfl, rfl⟩
      go_wp2_with fail
      go_loopw [8] (fun i wy => ∃ k : Nat, k ≤ n ∧ i = .int .i64 k ∧ Grew w1 wy) (fun i _ => n - (intOf i).toNat)
      case atStart => exact ⟨0, Nat.zero_le _, rfl, hB⟩
      case round =>
        obtain ⟨k, hk, rfl, hY⟩ := hrel
        by_cases hlk : k < n
        · have hcy := fun W (hW : Grew wr W) => HX.out j hlt W (hY.trans hW)
          have ry := Grew.refl wr
          have hb2 := Lib.hid (hBx.out k (by omega))
          cases ht : (nt A j).testBit k with
          | false =>
            rw [ht] at hb2
            generalize nt A j = m at *
            clear hcx
            go_wp2_with fail
            refine (hb2.out _).mono ?_
            rintro e w3 ⟨rfl, rfl⟩
            go_wp2_with fail
            go_roundw
            case rel => exact ⟨k + 1, by omega, by go_num, hY⟩
            case measure => simp [intOf]; omega
          | true =>
            rw [ht] at hb2
            clear ht
            go_wp2_with fail
            refine (hb2.out _).mono ?_
            rintro e w3 ⟨rfl, rfl⟩
            go_wp2_with fail
            go_loopw [9] (fun i wz => ∃ q : Nat, q ≤ n ∧ i = .int .i64 q ∧ Grew w1 wz) (fun i _ => n - (intOf i).toNat)
            case atStart => exact ⟨0, Nat.zero_le _, rfl, hY⟩
            case round =>
              obtain ⟨q, hq, rfl, hZ⟩ := hrel
              by_cases hlq : q < n
              · have hcw := fun W (hW : Grew wr W) => HX.out j hlt W (hZ.trans hW)
                have rz := Grew.refl wr
                have hZd := hZ.drew
                have hb3 := Lib.hid (hBx.out q (by omega))
                cases ht3 : (nt A j).testBit q with
                | false =>
                  rw [ht3] at hb3
                  clear ht3
                  generalize nt A j = m at *
                  clear hcx hcy
                  go_wp2_with fail
                  refine (hb3.out _).mono ?_
                  rintro e w4 ⟨rfl, rfl⟩
                  go_wp2_with fail
                  go_roundw
                  case rel => exact ⟨q + 1, by omega, by go_num, hZ⟩
                  case measure => simp [intOf]; omega
                | true =>
                  rw [ht3] at hb3
                  clear ht3
                  generalize nt A j = m at *
                  clear hcx hcy
                  go_wp2_with fail
                  refine (hb3.out _).mono ?_
                  rintro e w4 ⟨rfl, rfl⟩
                  go_wp2_with fail
                  refine wp_region_held_drew (S := fun w' => Grew w1 w') (by kernel_rfl) hZd (fun hHeld => ?_)
                  refine wpAnyH_take (i := 0) (oi := ?on1) (v := ?vn1) ?hin1 ?an1 ?bn1 ?cn1 ?qn1 (Or.inl ⟨?dn1, ?hyn1⟩) hHeld ?restn1
                  case hin1 => (simp only [List.getElem?_toArray, List.getElem?_cons_zero]; exact rfl)
                  case an1 => kernel_rfl
                  case bn1 => kernel_rfl
                  case cn1 => kernel_rfl
                  case qn1 => exact fun _ _ _ h => h
                  case dn1 => rfl
                  case hyn1 => (intro z hSw; (try dsimp only at hSw); go_simp; (try with_reducible rfl))
                  try simp only [Act.put, List.setIfInBounds_toArray, List.set_cons_zero, List.set_cons_succ]
                  refine wpAnyH_take (i := 1) (oi := ?on2) (v := ?vn2) ?hin2 ?an2 ?bn2 ?cn2 ?qn2 (Or.inl ⟨?dn2, ?hyn2⟩) hHeld ?restn2
                  case hin2 => (simp only [List.getElem?_toArray, List.getElem?_cons_succ, List.getElem?_cons_zero]; exact rfl)
                  case an2 => kernel_rfl
                  case bn2 => kernel_rfl
                  case cn2 => kernel_rfl
                  case qn2 => exact fun _ _ _ h => h
                  case dn2 => rfl
                  case hyn2 => (intro z hSw; (try dsimp only at hSw); go_simp; (try with_reducible rfl))
                  try simp only [Act.put, List.setIfInBounds_toArray, List.set_cons_zero, List.set_cons_succ]
                  refine wpAnyH_take (i := 2) (oi := ?on3) (v := ?vn3) ?hin3 ?an3 ?bn3 ?cn3 ?qn3 (Or.inl ⟨?dn3, ?hyn3⟩) hHeld ?restn3
                  case hin3 => (simp only [List.getElem?_toArray, List.getElem?_cons_succ, List.getElem?_cons_zero]; exact rfl)
                  case an3 => kernel_rfl
                  case bn3 => kernel_rfl
                  case cn3 => kernel_rfl
                  case qn3 => exact fun _ _ _ h => h
                  case dn3 => rfl
                  case hyn3 => (intro z hSw; (try dsimp only at hSw); go_simp; (try with_reducible rfl))
                  try simp only [Act.put, List.setIfInBounds_toArray, List.set_cons_zero, List.set_cons_succ]
                  refine wpAnyH_take (i := 3) (oi := ?on4) ?hin4 ?an4 ?bn4 ?cn4 ?qn4 (Or.inr ⟨?dn4, rfl⟩) hHeld ?restn4
                  case hin4 => (simp only [List.getElem?_toArray, List.getElem?_cons_succ, List.getElem?_cons_zero]; exact rfl)
                  case an4 => kernel_rfl
                  case bn4 => kernel_rfl
                  case cn4 => kernel_rfl
                  case qn4 => exact fun _ _ _ h => h
                  case dn4 => rfl
                  try simp only [Act.put, List.setIfInBounds_toArray, List.set_cons_zero, List.set_cons_succ]
                  refine wpAnyH_take (i := 4) (oi := ?on5) ?hin5 ?an5 ?bn5 ?cn5 ?qn5 (Or.inr ⟨?dn5, rfl⟩) hHeld ?restn5
                  case hin5 => (simp only [List.getElem?_toArray, List.getElem?_cons_succ, List.getElem?_cons_zero]; exact rfl)
                  case an5 => kernel_rfl
                  case bn5 => kernel_rfl
                  case cn5 => kernel_rfl
                  case qn5 => exact fun _ _ _ h => h
                  case dn5 => rfl
                  try simp only [Act.put, List.setIfInBounds_toArray, List.set_cons_zero, List.set_cons_succ]
                  refine wpAnyH_take (i := 5) (oi := ?on6) ?hin6 ?an6 ?bn6 ?cn6 ?qn6 (Or.inr ⟨?dn6, rfl⟩) hHeld ?restn6
                  case hin6 => (simp only [List.getElem?_toArray, List.getElem?_cons_succ, List.getElem?_cons_zero]; exact rfl)
                  case an6 => kernel_rfl
                  case bn6 => kernel_rfl
                  case cn6 => kernel_rfl
                  case qn6 => exact fun _ _ _ h => h
                  case dn6 => rfl
                  try simp only [Act.put, List.setIfInBounds_toArray, List.set_cons_zero, List.set_cons_succ]
                  refine wpAnyH_take (i := 6) (oi := ?on7) ?hin7 ?an7 ?bn7 ?cn7 ?qn7 (Or.inr ⟨?dn7, rfl⟩) hHeld ?restn7
                  case hin7 => (simp only [List.getElem?_toArray, List.getElem?_cons_succ, List.getElem?_cons_zero]; exact rfl)
                  case an7 => kernel_rfl
                  case bn7 => kernel_rfl
                  case cn7 => kernel_rfl
                  case qn7 => exact fun _ _ _ h => h
                  case dn7 => rfl
                  try simp only [Act.put, List.setIfInBounds_toArray, List.set_cons_zero, List.set_cons_succ]
                  refine wpAnyH_take (i := 7) (oi := ?on8) ?hin8 ?an8 ?bn8 ?cn8 ?qn8 (Or.inr ⟨?dn8, rfl⟩) hHeld ?restn8
                  case hin8 => (simp only [List.getElem?_toArray, List.getElem?_cons_succ, List.getElem?_cons_zero]; exact rfl)
                  case an8 => kernel_rfl
                  case bn8 => kernel_rfl
                  case cn8 => kernel_rfl
                  case qn8 => exact fun _ _ _ h => h
                  case dn8 => rfl
                  try simp only [Act.put, List.setIfInBounds_toArray, List.set_cons_zero, List.set_cons_succ]
                  refine wpAnyH_take (i := 8) (oi := ?on9) ?hin9 ?an9 ?bn9 ?cn9 ?qn9 (Or.inr ⟨?dn9, rfl⟩) hHeld ?restn9
                  case hin9 => (simp only [List.getElem?_toArray, List.getElem?_cons_succ, List.getElem?_cons_zero]; exact rfl)
                  case an9 => kernel_rfl
                  case bn9 => kernel_rfl
                  case cn9 => kernel_rfl
                  case qn9 => exact fun _ _ _ h => h
                  case dn9 => rfl
                  try simp only [Act.put, List.setIfInBounds_toArray, List.set_cons_zero, List.set_cons_succ]
                  refine wpAnyH_take (i := 9) (oi := ?on10) ?hin10 ?an10 ?bn10 ?cn10 ?qn10 (Or.inr ⟨?dn10, rfl⟩) hHeld ?restn10
                  case hin10 => (simp only [List.getElem?_toArray, List.getElem?_cons_succ, List.getElem?_cons_zero]; exact rfl)
                  case an10 => kernel_rfl
                  case bn10 => kernel_rfl
                  case cn10 => kernel_rfl
                  case qn10 => exact fun _ _ _ h => h
                  case dn10 => rfl
                  try simp only [Act.put, List.setIfInBounds_toArray, List.set_cons_zero, List.set_cons_succ]
                  refine wpAnyH_take (i := 10) (oi := ?on11) ?hin11 ?an11 ?bn11 ?cn11 ?qn11 (Or.inr ⟨?dn11, rfl⟩) hHeld ?restn11
                  case hin11 => (simp only [List.getElem?_toArray, List.getElem?_cons_succ, List.getElem?_cons_zero]; exact rfl)
                  case an11 => kernel_rfl
                  case bn11 => kernel_rfl
                  case cn11 => kernel_rfl
                  case qn11 => exact fun _ _ _ h => h
                  case dn11 => rfl
                  try simp only [Act.put, List.setIfInBounds_toArray, List.set_cons_zero, List.set_cons_succ]
                  refine wpAnyH_take (i := 11) (oi := ?on12) ?hin12 ?an12 ?bn12 ?cn12 ?qn12 (Or.inr ⟨?dn12, rfl⟩) hHeld ?restn12
                  case hin12 => (simp only [List.getElem?_toArray, List.getElem?_cons_succ, List.getElem?_cons_zero]; exact rfl)
                  case an12 => kernel_rfl
                  case bn12 => kernel_rfl
                  case cn12 => kernel_rfl
                  case qn12 => exact fun _ _ _ h => h
                  case dn12 => rfl
                  try simp only [Act.put, List.setIfInBounds_toArray, List.set_cons_zero, List.set_cons_succ]
                  refine wpAnyH_take (i := 12) (oi := ?on13) ?hin13 ?an13 ?bn13 ?cn13 ?qn13 (Or.inr ⟨?dn13, rfl⟩) hHeld ?restn13
                  case hin13 => (simp only [List.getElem?_toArray, List.getElem?_cons_succ, List.getElem?_cons_zero]; exact rfl)
                  case an13 => kernel_rfl
                  case bn13 => kernel_rfl
                  case cn13 => kernel_rfl
                  case qn13 => exact fun _ _ _ h => h
                  case dn13 => rfl
                  try simp only [Act.put, List.setIfInBounds_toArray, List.set_cons_zero, List.set_cons_succ]
                  refine wpAnyH_take (i := 13) (oi := ?on14) (v := ?vn14) ?hin14 ?an14 ?bn14 ?cn14 ?qn14 (Or.inl ⟨?dn14, ?hyn14⟩) hHeld ?restn14
                  case hin14 => (simp only [List.getElem?_toArray, List.getElem?_cons_succ, List.getElem?_cons_zero]; exact rfl)
                  case an14 => kernel_rfl
                  case bn14 => kernel_rfl
                  case cn14 => kernel_rfl
                  case qn14 => exact fun _ _ _ h => h
                  case dn14 => rfl
                  case hyn14 => (intro z hSw; (try dsimp only at hSw); go_simp; (try with_reducible rfl))
                  try simp only [Act.put, List.setIfInBounds_toArray, List.set_cons_zero, List.set_cons_succ]
                  refine wpAnyH_take (i := 14) (oi := ?on15) (v := ?vn15) ?hin15 ?an15 ?bn15 ?cn15 ?qn15 (Or.inl ⟨?dn15, ?hyn15⟩) hHeld ?restn15
                  case hin15 => (simp only [List.getElem?_toArray, List.getElem?_cons_succ, List.getElem?_cons_zero]; exact rfl)
                  case an15 => kernel_rfl
                  case bn15 => kernel_rfl
                  case cn15 => kernel_rfl
                  case qn15 => exact fun _ _ _ h => h
                  case dn15 => rfl
                  case hyn15 => (intro z hSw; (try dsimp only at hSw); go_simp; (try with_reducible rfl))
                  try simp only [Act.put, List.setIfInBounds_toArray, List.set_cons_zero, List.set_cons_succ]
                  refine wpAnyH_take (i := 15) (oi := ?on16) (v := ?vn16) ?hin16 ?an16 ?bn16 ?cn16 ?qn16 (Or.inl ⟨?dn16, ?hyn16⟩) hHeld ?restn16
                  case hin16 => (simp only [List.getElem?_toArray, List.getElem?_cons_succ, List.getElem?_cons_zero]; exact rfl)
                  case an16 => kernel_rfl
                  case bn16 => kernel_rfl
                  case cn16 => kernel_rfl
                  case qn16 => exact fun _ _ _ h => h
                  case dn16 => rfl
                  case hyn16 => (intro z hSw; (try dsimp only at hSw); go_simp; (try with_reducible rfl))
                  try simp only [Act.put, List.setIfInBounds_toArray, List.set_cons_zero, List.set_cons_succ]
                  refine wpAnyH_take (i := 16) (oi := ?on17) (v := ?vn17) ?hin17 ?an17 ?bn17 ?cn17 ?qn17 (Or.inl ⟨?dn17, ?hyn17⟩) hHeld ?restn17
                  case hin17 => (simp only [List.getElem?_toArray, List.getElem?_cons_succ, List.getElem?_cons_zero]; exact rfl)
                  case an17 => kernel_rfl
                  case bn17 => kernel_rfl
                  case cn17 => kernel_rfl
                  case qn17 => exact fun _ _ _ h => h
                  case dn17 => rfl
                  case hyn17 => (intro z hSw; (try dsimp only at hSw); go_simp; (try with_reducible rfl))
                  try simp only [Act.put, List.setIfInBounds_toArray, List.set_cons_zero, List.set_cons_succ]
                  refine wpAnyH_take (i := 17) (oi := ?on18) (v := ?vn18) ?hin18 ?an18 ?bn18 ?cn18 ?qn18 (Or.inl ⟨?dn18, ?hyn18⟩) hHeld ?restn18
                  case hin18 => (simp only [List.getElem?_toArray, List.getElem?_cons_succ, List.getElem?_cons_zero]; exact rfl)
                  case an18 => kernel_rfl
                  case bn18 => kernel_rfl
                  case cn18 => kernel_rfl
                  case qn18 => exact fun _ _ _ h => h
                  case dn18 => rfl
                  case hyn18 => (intro z hSw; (try dsimp only at hSw); go_simp; (try with_reducible rfl))
                  try simp only [Act.put, List.setIfInBounds_toArray, List.set_cons_zero, List.set_cons_succ]
                  refine wpAnyH_take (i := 18) (oi := ?on19) ?hin19 ?an19 ?bn19 ?cn19 ?qn19 (Or.inr ⟨?dn19, rfl⟩) hHeld ?restn19
                  case hin19 => (simp only [List.getElem?_toArray, List.getElem?_cons_succ, List.getElem?_cons_zero]; exact rfl)
                  case an19 => kernel_rfl
                  case bn19 => kernel_rfl
                  case cn19 => kernel_rfl
                  case qn19 => exact fun _ _ _ h => h
                  case dn19 => rfl
                  try simp only [Act.put, List.setIfInBounds_toArray, List.set_cons_zero, List.set_cons_succ]
                  refine wpAnyH_take (i := 19) (oi := ?on20) ?hin20 ?an20 ?bn20 ?cn20 ?qn20 (Or.inr ⟨?dn20, rfl⟩) hHeld ?restn20
                  case hin20 => (simp only [List.getElem?_toArray, List.getElem?_cons_succ, List.getElem?_cons_zero]; exact rfl)
                  case an20 => kernel_rfl
                  case bn20 => kernel_rfl
                  case cn20 => kernel_rfl
                  case qn20 => exact fun _ _ _ h => h
                  case dn20 => rfl
                  try simp only [Act.put, List.setIfInBounds_toArray, List.set_cons_zero, List.set_cons_succ]
                  refine wpAnyH_take (i := 20) (oi := ?on21) ?hin21 ?an21 ?bn21 ?cn21 ?qn21 (Or.inr ⟨?dn21, rfl⟩) hHeld ?restn21
                  case hin21 => (simp only [List.getElem?_toArray, List.getElem?_cons_succ, List.getElem?_cons_zero]; exact rfl)
                  case an21 => kernel_rfl
                  case bn21 => kernel_rfl
                  case cn21 => kernel_rfl
                  case qn21 => exact fun _ _ _ h => h
                  case dn21 => rfl
                  try simp only [Act.put, List.setIfInBounds_toArray, List.set_cons_zero, List.set_cons_succ]
                  refine wpAnyH_take (i := 21) (oi := ?on22) ?hin22 ?an22 ?bn22 ?cn22 ?qn22 (Or.inr ⟨?dn22, rfl⟩) hHeld ?restn22
                  case hin22 => (simp only [List.getElem?_toArray, List.getElem?_cons_succ, List.getElem?_cons_zero]; exact rfl)
                  case an22 => kernel_rfl
                  case bn22 => kernel_rfl
                  case cn22 => kernel_rfl
                  case qn22 => exact fun _ _ _ h => h
                  case dn22 => rfl
                  try simp only [Act.put, List.setIfInBounds_toArray, List.set_cons_zero, List.set_cons_succ]
                  refine wpAnyH_take (i := 22) (oi := ?on23) ?hin23 ?an23 ?bn23 ?cn23 ?qn23 (Or.inr ⟨?dn23, rfl⟩) hHeld ?restn23
                  case hin23 => (simp only [List.getElem?_toArray, List.getElem?_cons_succ, List.getElem?_cons_zero]; exact rfl)
                  case an23 => kernel_rfl
                  case bn23 => kernel_rfl
                  case cn23 => kernel_rfl
                  case qn23 => exact fun _ _ _ h => h
                  case dn23 => rfl
                  try simp only [Act.put, List.setIfInBounds_toArray, List.set_cons_zero, List.set_cons_succ]
                  refine wpAnyH_take (i := 23) (oi := ?on24) ?hin24 ?an24 ?bn24 ?cn24 ?qn24 (Or.inr ⟨?dn24, rfl⟩) hHeld ?restn24
                  case hin24 => (simp only [List.getElem?_toArray, List.getElem?_cons_succ, List.getElem?_cons_zero]; exact rfl)
                  case an24 => kernel_rfl
                  case bn24 => kernel_rfl
                  case cn24 => kernel_rfl
                  case qn24 => exact fun _ _ _ h => h
                  case dn24 => rfl
                  try simp only [Act.put, List.setIfInBounds_toArray, List.set_cons_zero, List.set_cons_succ]
                  refine wpAnyH_take (i := 24) (oi := ?on25) ?hin25 ?an25 ?bn25 ?cn25 ?qn25 (Or.inr ⟨?dn25, rfl⟩) hHeld ?restn25
                  case hin25 => (simp only [List.getElem?_toArray, List.getElem?_cons_succ, List.getElem?_cons_zero]; exact rfl)
                  case an25 => kernel_rfl
                  case bn25 => kernel_rfl
                  case cn25 => kernel_rfl
                  case qn25 => exact fun _ _ _ h => h
                  case dn25 => rfl
                  try simp only [Act.put, List.setIfInBounds_toArray, List.set_cons_zero, List.set_cons_succ]
                  refine wpAnyH_take (i := 25) (oi := ?on26) (v := ?vn26) ?hin26 ?an26 ?bn26 ?cn26 ?qn26 (Or.inl ⟨?dn26, ?hyn26⟩) hHeld ?restn26
                  case hin26 => (simp only [List.getElem?_toArray, List.getElem?_cons_succ, List.getElem?_cons_zero]; exact rfl)
                  case an26 => kernel_rfl
                  case bn26 => kernel_rfl
                  case cn26 => kernel_rfl
                  case qn26 => exact fun _ _ _ h => h
                  case dn26 => rfl
                  case hyn26 => (intro z hSw; (try dsimp only at hSw); go_simp; (try with_reducible rfl))
                  try simp only [Act.put, List.setIfInBounds_toArray, List.set_cons_zero, List.set_cons_succ]
                  refine wpAnyH_take (i := 26) (oi := ?on27) (v := ?vn27) ?hin27 ?an27 ?bn27 ?cn27 ?qn27 (Or.inl ⟨?dn27, ?hyn27⟩) hHeld ?restn27
                  case hin27 => (simp only [List.getElem?_toArray, List.getElem?_cons_succ, List.getElem?_cons_zero]; exact rfl)
                  case an27 => kernel_rfl
                  case bn27 => kernel_rfl
                  case cn27 => kernel_rfl
                  case qn27 => exact fun _ _ _ h => h
                  case dn27 => rfl
                  case hyn27 => (intro z hSw; (try dsimp only at hSw); go_simp; (try with_reducible rfl))
                  try simp only [Act.put, List.setIfInBounds_toArray, List.set_cons_zero, List.set_cons_succ]
                  refine wpAnyH_take (i := 27) (oi := ?on28) ?hin28 ?an28 ?bn28 ?cn28 ?qn28 (Or.inr ⟨?dn28, rfl⟩) hHeld ?restn28
                  case hin28 => (simp only [List.getElem?_toArray, List.getElem?_cons_succ, List.getElem?_cons_zero]; exact rfl)
                  case an28 => kernel_rfl
                  case bn28 => kernel_rfl
                  case cn28 => kernel_rfl
                  case qn28 => exact fun _ _ _ h => h
                  case dn28 => rfl
                  try simp only [Act.put, List.setIfInBounds_toArray, List.set_cons_zero, List.set_cons_succ]
                  refine wpAnyH_take (i := 28) (oi := ?on29) ?hin29 ?an29 ?bn29 ?cn29 ?qn29 (Or.inr ⟨?dn29, rfl⟩) hHeld ?restn29
                  case hin29 => (simp only [List.getElem?_toArray, List.getElem?_cons_succ, List.getElem?_cons_zero]; exact rfl)
                  case an29 => kernel_rfl
                  case bn29 => kernel_rfl
                  case cn29 => kernel_rfl
                  case qn29 => exact fun _ _ _ h => h
                  case dn29 => rfl
                  try simp only [Act.put, List.setIfInBounds_toArray, List.set_cons_zero, List.set_cons_succ]
                  refine wpAnyH_take (i := 29) (oi := ?on30) ?hin30 ?an30 ?bn30 ?cn30 ?qn30 (Or.inr ⟨?dn30, rfl⟩) hHeld ?restn30
                  case hin30 => (simp only [List.getElem?_toArray, List.getElem?_cons_succ, List.getElem?_cons_zero]; exact rfl)
                  case an30 => kernel_rfl
                  case bn30 => kernel_rfl
                  case cn30 => kernel_rfl
                  case qn30 => exact fun _ _ _ h => h
                  case dn30 => rfl
                  try simp only [Act.put, List.setIfInBounds_toArray, List.set_cons_zero, List.set_cons_succ]
                  refine wpAnyH_take (i := 30) (oi := ?on31) ?hin31 ?an31 ?bn31 ?cn31 ?qn31 (Or.inr ⟨?dn31, rfl⟩) hHeld ?restn31
                  case hin31 => (simp only [List.getElem?_toArray, List.getElem?_cons_succ, List.getElem?_cons_zero]; exact rfl)
                  case an31 => kernel_rfl
                  case bn31 => kernel_rfl
                  case cn31 => kernel_rfl
                  case qn31 => exact fun _ _ _ h => h
                  case dn31 => rfl
                  try simp only [Act.put, List.setIfInBounds_toArray, List.set_cons_zero, List.set_cons_succ]
                  refine wpAnyH_take (i := 31) (oi := ?on32) ?hin32 ?an32 ?bn32 ?cn32 ?qn32 (Or.inr ⟨?dn32, rfl⟩) hHeld ?restn32
                  case hin32 => (simp only [List.getElem?_toArray, List.getElem?_cons_succ, List.getElem?_cons_zero]; exact rfl)
                  case an32 => kernel_rfl
                  case bn32 => kernel_rfl
                  case cn32 => kernel_rfl
                  case qn32 => exact fun _ _ _ h => h
                  case dn32 => rfl
                  try simp only [Act.put, List.setIfInBounds_toArray, List.set_cons_zero, List.set_cons_succ]
                  refine wpAnyH_take (i := 32) (oi := ?on33) ?hin33 ?an33 ?bn33 ?cn33 ?qn33 (Or.inr ⟨?dn33, rfl⟩) hHeld ?restn33
                  case hin33 => (simp only [List.getElem?_toArray, List.getElem?_cons_succ, List.getElem?_cons_zero]; exact rfl)
                  case an33 => kernel_rfl
                  case bn33 => kernel_rfl
                  case cn33 => kernel_rfl
                  case qn33 => exact fun _ _ _ h => h
                  case dn33 => rfl
                  try simp only [Act.put, List.setIfInBounds_toArray, List.set_cons_zero, List.set_cons_succ]
                  refine wpAnyH_take (i := 33) (oi := ?on34) ?hin34 ?an34 ?bn34 ?cn34 ?qn34 (Or.inr ⟨?dn34, rfl⟩) hHeld ?restn34
                  case hin34 => (simp only [List.getElem?_toArray, List.getElem?_cons_succ, List.getElem?_cons_zero]; exact rfl)
                  case an34 => kernel_rfl
                  case bn34 => kernel_rfl
                  case cn34 => kernel_rfl
                  case qn34 => exact fun _ _ _ h => h
                  case dn34 => rfl
                  try simp only [Act.put, List.setIfInBounds_toArray, List.set_cons_zero, List.set_cons_succ]
                  refine wpAnyH_take (i := 34) (oi := ?on35) (v := ?vn35) ?hin35 ?an35 ?bn35 ?cn35 ?qn35 (Or.inl ⟨?dn35, ?hyn35⟩) hHeld ?restn35
                  case hin35 => (simp only [List.getElem?_toArray, List.getElem?_cons_succ, List.getElem?_cons_zero]; exact rfl)
                  case an35 => kernel_rfl
                  case bn35 => kernel_rfl
                  case cn35 => kernel_rfl
                  case qn35 => exact fun _ _ _ h => h
                  case dn35 => rfl
                  case hyn35 => (intro z hSw; (try dsimp only at hSw); go_simp; (try with_reducible rfl))
                  try simp only [Act.put, List.setIfInBounds_toArray, List.set_cons_zero, List.set_cons_succ]
                  refine wpAnyH_take (i := 35) (oi := ?on36) (v := ?vn36) ?hin36 ?an36 ?bn36 ?cn36 ?qn36 (Or.inl ⟨?dn36, ?hyn36⟩) hHeld ?restn36
                  case hin36 => (simp only [List.getElem?_toArray, List.getElem?_cons_succ, List.getElem?_cons_zero]; exact rfl)
                  case an36 => kernel_rfl
                  case bn36 => kernel_rfl
                  case cn36 => kernel_rfl
                  case qn36 => exact fun _ _ _ h => h
                  case dn36 => rfl
                  case hyn36 => (intro z hSw; (try dsimp only at hSw); go_simp; (try with_reducible rfl))
                  try simp only [Act.put, List.setIfInBounds_toArray, List.set_cons_zero, List.set_cons_succ]
                  refine wpAnyH_done (by kernel_rfl) ?_ _
                  go_wp2_with fail
                  go_roundw
                  case rel => exact ⟨q + 1, by omega, by go_num, hZd⟩
                  case measure => simp [intOf]; omega
              · obtain rfl : q = n := by omega
                go_wp2_with fail
                go_roundw
                case rel => exact ⟨k + 1, by omega, by go_num, hZ⟩
                case measure => simp [intOf]; omega
        · obtain rfl : k = n := by omega
          go_wp2_with fail
          go_roundw
          case rel => exact ⟨j + 1, by omega, by go_num, hY, hs⟩
          case measure => simp [intOf]; omega
    · obtain rfl : j = n := by omega
      have hv := Lib.hid (HZ.out HJ.out)
      go_wp2_with fail
      go_ret
      exact ⟨by rw [hv.out]; rfl, HG.out.trans hB⟩
set_option maxHeartbeats 4000000 in
set_option maxRecDepth 100000 in
theorem l05Flag2_c (v : Value) (A : List Nat) (w : World) (h : Ints w v (zs A)) (hA : Rl A) :
    Calls Tryz.prog 94 #[.agg #[.int .i64 (A.length : Int), v], .int .i64 2] w fun e w' => e = .returned (.bool (transB A)) ∧ Grew w w' := by
  obtain ⟨R, hR⟩ : ∃ R, R = transB A := ⟨_, rfl⟩
  rw [← hR]
  unfold transB at hR
  have HA := Lib.hid (fun k hk h => hR.trans (@allB_no A.length (fun x => decide (dif (img A (nt A x)) (nt A x) = 0)) k hk h))
  have HZ := Lib.hid (fun h => hR.trans (@allB_of A.length (fun x => decide (dif (img A (nt A x)) (nt A x) = 0)) h))
  have hn30 := hA.1
  have HB := Lib.hid (fun i (hi : i < A.length) k (hk : k < 64) => l01Bit_q (nt A i) k (by have := hA.sm.at_ hi; omega) hk)
  have HI := Lib.hid (fun i (hi : i < A.length) W (hW : Grew w W) => l01Image_q v A (nt A i) W (h.grew hW) hA.sm hA.1 (hA.lt hi))
  have HN := Lib.hid (fun i (hi : i < A.length) => andNot_i64 (img A (nt A i)) (nt A i) (by have := orK_sm (is := mbs (nt A i)) hA.sm (mbs (nt A i)).length; unfold img; omega) (by have := hA.sm.at_ hi; omega))
  have hal := (Grew.refl w).alloc (.cells #[.int .i64 (A.length : Int), v] 26)
  have y0 : ∀ W, Grew (w.alloc (.cells #[.int .i64 (A.length : Int), v] 26)) W → W.cell? ⟨w.heap.size, 0, none⟩ = some (.int .i64 (A.length : Int)) := fun W hW => (hW.cell (p := ⟨w.heap.size, 0, none⟩) (by simp)).trans (by simp)
  have y1 : ∀ W, Grew (w.alloc (.cells #[.int .i64 (A.length : Int), v] 26)) W → W.cell? ⟨w.heap.size, 1, none⟩ = some v := fun W hW => (hW.cell (p := ⟨w.heap.size, 1, none⟩) (by simp)).trans (by simp)
  obtain ⟨w1, hw1⟩ : ∃ w1, w1 = w.alloc (.cells #[.int .i64 (A.length : Int), v] 26) := ⟨_, rfl⟩
  rw [← hw1] at y0 y1 hal
  have HG := Lib.hid hal
  have r1 := Grew.refl w1
  have r1d := r1.drew
  obtain ⟨A', c, rfl⟩ := ints_sliceN h
  have HC := Lib.hid (fun h0 => cellsN h h0)
  clear h hA hR hal
  generalize hN : A.length = n at *
  clear hN
  go_enter Tryz.func94, Tryz.ntmps94
  go_wp2_with fail
  simp only [← hw1]
  clear hw1
  go_quiet (fail)
  go_wp2_with fail
  go_loopw [7] (fun i wr => ∃ j : Nat, j ≤ n ∧ i = .int .i64 j ∧ Grew w1 wr ∧ Hid (AllK (fun x => decide (dif (img A (nt A x)) (nt A x) = 0)) j)) (fun i _ => n - (intOf i).toNat)
  case atStart => exact ⟨0, Nat.zero_le _, rfl, (Grew.refl _).drewN _, AllK.zero _⟩
  case round =>
    obtain ⟨j, hj, rfl, hB, HJ⟩ := hrel
    by_cases hlt : j < n
    · obtain ⟨b, o, rfl, hcell⟩ := HC.out (by omega)
      have hgw := HG.out
      have HX := Lib.hid (fun i hi W (hW : Grew w1 W) => hcell i hi W (hgw.trans hW))
      have hcx := fun W (hW : Grew wr W) => HX.out j hlt W (hB.trans hW)
      have rx := Grew.refl wr
      have hA := Lib.hid (HA.out j hlt)
      have hS := Lib.hid (fun h => HJ.out.succ (k := j) h)
      have hBx := Lib.hid (HB.out j hlt)
      clear hcell
      have hi := Lib.hid (fun W hW => HI.out j hlt W hW)
      have hnn := HN.out j hlt
      have hrr := Grew.refl wr
      have hrd := hrr.drew
      have hgwr := Lib.hid (HG.out.trans hB)
      by_cases hd : dif (img A (nt A j)) (nt A j) = 0
      · have hs := Lib.hid (hS.out (decide_eq_true hd))
        rw [hd] at hnn
        clear hA hS hd
        generalize hmg : img A (nt A j) = mg at *
        clear hmg
        go_wp2_with fail
        go_quiet (first | (go_at_call 140; exact Calls.quiet_of_same (hi.out _ (by first | exact hgwr.out | exact hgwr.out.drew | exact hgwr.out.drewN _))))
        go_wp2_with fail
        have hBd := hB.drewN nq
        go_loopw [8] (fun i wy => ∃ k : Nat, k ≤ n ∧ i = .int .i64 k ∧ Grew w1 wy) (fun i _ => n - (intOf i).toNat)
        case atStart => exact ⟨0, Nat.zero_le _, rfl, hBd⟩
        case round =>
          obtain ⟨k, hk, rfl, hY⟩ := hrel
          by_cases hlk : k < n
          · have hcy := fun W (hW : Grew wr W) => HX.out j hlt W (hY.trans hW)
            have ry := Grew.refl wr
            have hb2 := Lib.hid (hBx.out k (by omega))
            cases ht : (nt A j).testBit k with
            | false =>
              rw [ht] at hb2
              generalize nt A j = m at *
              clear hcx
              go_wp2_with fail
              refine (hb2.out _).mono ?_
              rintro e w3 ⟨rfl, rfl⟩
              go_wp2_with fail
              go_roundw
              case rel => exact ⟨k + 1, by omega, by go_num, hY⟩
              case measure => simp [intOf]; omega
            | true =>
              rw [ht] at hb2
              clear ht
              go_wp2_with fail
              refine (hb2.out _).mono ?_
              rintro e w3 ⟨rfl, rfl⟩
              go_wp2_with fail
              go_loopw [9] (fun i wz => ∃ q : Nat, q ≤ n ∧ i = .int .i64 q ∧ Grew w1 wz) (fun i _ => n - (intOf i).toNat)
              case atStart => exact ⟨0, Nat.zero_le _, rfl, hY⟩
              case round =>
                obtain ⟨q, hq, rfl, hZ⟩ := hrel
                by_cases hlq : q < n
                · have hcw := fun W (hW : Grew wr W) => HX.out j hlt W (hZ.trans hW)
                  have rz := Grew.refl wr
                  have hZd := hZ.drew
                  have hb3 := Lib.hid (hBx.out q (by omega))
                  cases ht3 : (nt A j).testBit q with
                  | false =>
                    rw [ht3] at hb3
                    clear ht3
                    generalize nt A j = m at *
                    clear hcx hcy
                    go_wp2_with fail
                    refine (hb3.out _).mono ?_
                    rintro e w4 ⟨rfl, rfl⟩
                    go_wp2_with fail
                    go_roundw
                    case rel => exact ⟨q + 1, by omega, by go_num, hZ⟩
                    case measure => simp [intOf]; omega
                  | true =>
                    rw [ht3] at hb3
                    clear ht3
                    generalize nt A j = m at *
                    clear hcx hcy
                    go_wp2_with fail
                    refine (hb3.out _).mono ?_
                    rintro e w4 ⟨rfl, rfl⟩
                    go_wp2_with fail
                    refine wp_region_held_drew (S := fun w' => Grew w1 w') (by kernel_rfl) hZd (fun hHeld => ?_)
                    refine wpAnyH_take (i := 0) (oi := ?on37) (v := ?vn37) ?hin37 ?an37 ?bn37 ?cn37 ?qn37 (Or.inl ⟨?dn37, ?hyn37⟩) hHeld ?restn37
                    case hin37 => (simp only [List.getElem?_toArray, List.getElem?_cons_zero]; exact rfl)
                    case an37 => kernel_rfl
                    case bn37 => kernel_rfl
                    case cn37 => kernel_rfl
                    case qn37 => exact fun _ _ _ h => h
                    case dn37 => rfl
                    case hyn37 => (intro z hSw; (try dsimp only at hSw); go_simp; (try with_reducible rfl))
                    try simp only [Act.put, List.setIfInBounds_toArray, List.set_cons_zero, List.set_cons_succ]
                    refine wpAnyH_take (i := 1) (oi := ?on38) (v := ?vn38) ?hin38 ?an38 ?bn38 ?cn38 ?qn38 (Or.inl ⟨?dn38, ?hyn38⟩) hHeld ?restn38
                    case hin38 => (simp only [List.getElem?_toArray, List.getElem?_cons_succ, List.getElem?_cons_zero]; exact rfl)
                    case an38 => kernel_rfl
                    case bn38 => kernel_rfl
                    case cn38 => kernel_rfl
                    case qn38 => exact fun _ _ _ h => h
                    case dn38 => rfl
                    case hyn38 => (intro z hSw; (try dsimp only at hSw); go_simp; (try with_reducible rfl))
                    try simp only [Act.put, List.setIfInBounds_toArray, List.set_cons_zero, List.set_cons_succ]
                    refine wpAnyH_take (i := 2) (oi := ?on39) (v := ?vn39) ?hin39 ?an39 ?bn39 ?cn39 ?qn39 (Or.inl ⟨?dn39, ?hyn39⟩) hHeld ?restn39
                    case hin39 => (simp only [List.getElem?_toArray, List.getElem?_cons_succ, List.getElem?_cons_zero]; exact rfl)
                    case an39 => kernel_rfl
                    case bn39 => kernel_rfl
                    case cn39 => kernel_rfl
                    case qn39 => exact fun _ _ _ h => h
                    case dn39 => rfl
                    case hyn39 => (intro z hSw; (try dsimp only at hSw); go_simp; (try with_reducible rfl))
                    try simp only [Act.put, List.setIfInBounds_toArray, List.set_cons_zero, List.set_cons_succ]
                    refine wpAnyH_take (i := 3) (oi := ?on40) ?hin40 ?an40 ?bn40 ?cn40 ?qn40 (Or.inr ⟨?dn40, rfl⟩) hHeld ?restn40
                    case hin40 => (simp only [List.getElem?_toArray, List.getElem?_cons_succ, List.getElem?_cons_zero]; exact rfl)
                    case an40 => kernel_rfl
                    case bn40 => kernel_rfl
                    case cn40 => kernel_rfl
                    case qn40 => exact fun _ _ _ h => h
                    case dn40 => rfl
                    try simp only [Act.put, List.setIfInBounds_toArray, List.set_cons_zero, List.set_cons_succ]
                    refine wpAnyH_take (i := 4) (oi := ?on41) ?hin41 ?an41 ?bn41 ?cn41 ?qn41 (Or.inr ⟨?dn41, rfl⟩) hHeld ?restn41
                    case hin41 => (simp only [List.getElem?_toArray, List.getElem?_cons_succ, List.getElem?_cons_zero]; exact rfl)
                    case an41 => kernel_rfl
                    case bn41 => kernel_rfl
                    case cn41 => kernel_rfl
                    case qn41 => exact fun _ _ _ h => h
                    case dn41 => rfl
                    try simp only [Act.put, List.setIfInBounds_toArray, List.set_cons_zero, List.set_cons_succ]
                    refine wpAnyH_take (i := 5) (oi := ?on42) ?hin42 ?an42 ?bn42 ?cn42 ?qn42 (Or.inr ⟨?dn42, rfl⟩) hHeld ?restn42
                    case hin42 => (simp only [List.getElem?_toArray, List.getElem?_cons_succ, List.getElem?_cons_zero]; exact rfl)
                    case an42 => kernel_rfl
                    case bn42 => kernel_rfl
                    case cn42 => kernel_rfl
                    case qn42 => exact fun _ _ _ h => h
                    case dn42 => rfl
                    try simp only [Act.put, List.setIfInBounds_toArray, List.set_cons_zero, List.set_cons_succ]
                    refine wpAnyH_take (i := 6) (oi := ?on43) ?hin43 ?an43 ?bn43 ?cn43 ?qn43 (Or.inr ⟨?dn43, rfl⟩) hHeld ?restn43
                    case hin43 => (simp only [List.getElem?_toArray, List.getElem?_cons_succ, List.getElem?_cons_zero]; exact rfl)
                    case an43 => kernel_rfl
                    case bn43 => kernel_rfl
                    case cn43 => kernel_rfl
                    case qn43 => exact fun _ _ _ h => h
                    case dn43 => rfl
                    try simp only [Act.put, List.setIfInBounds_toArray, List.set_cons_zero, List.set_cons_succ]
                    refine wpAnyH_take (i := 7) (oi := ?on44) ?hin44 ?an44 ?bn44 ?cn44 ?qn44 (Or.inr ⟨?dn44, rfl⟩) hHeld ?restn44
                    case hin44 => (simp only [List.getElem?_toArray, List.getElem?_cons_succ, List.getElem?_cons_zero]; exact rfl)
                    case an44 => kernel_rfl
                    case bn44 => kernel_rfl
                    case cn44 => kernel_rfl
                    case qn44 => exact fun _ _ _ h => h
                    case dn44 => rfl
                    try simp only [Act.put, List.setIfInBounds_toArray, List.set_cons_zero, List.set_cons_succ]
                    refine wpAnyH_take (i := 8) (oi := ?on45) ?hin45 ?an45 ?bn45 ?cn45 ?qn45 (Or.inr ⟨?dn45, rfl⟩) hHeld ?restn45
                    case hin45 => (simp only [List.getElem?_toArray, List.getElem?_cons_succ, List.getElem?_cons_zero]; exact rfl)
                    case an45 => kernel_rfl
                    case bn45 => kernel_rfl
                    case cn45 => kernel_rfl
                    case qn45 => exact fun _ _ _ h => h
                    case dn45 => rfl
                    try simp only [Act.put, List.setIfInBounds_toArray, List.set_cons_zero, List.set_cons_succ]
                    refine wpAnyH_take (i := 9) (oi := ?on46) ?hin46 ?an46 ?bn46 ?cn46 ?qn46 (Or.inr ⟨?dn46, rfl⟩) hHeld ?restn46
                    case hin46 => (simp only [List.getElem?_toArray, List.getElem?_cons_succ, List.getElem?_cons_zero]; exact rfl)
                    case an46 => kernel_rfl
                    case bn46 => kernel_rfl
                    case cn46 => kernel_rfl
                    case qn46 => exact fun _ _ _ h => h
                    case dn46 => rfl
                    try simp only [Act.put, List.setIfInBounds_toArray, List.set_cons_zero, List.set_cons_succ]
                    refine wpAnyH_take (i := 10) (oi := ?on47) ?hin47 ?an47 ?bn47 ?cn47 ?qn47 (Or.inr ⟨?dn47, rfl⟩) hHeld ?restn47
                    case hin47 => (simp only [List.getElem?_toArray, List.getElem?_cons_succ, List.getElem?_cons_zero]; exact rfl)
                    case an47 => kernel_rfl
                    case bn47 => kernel_rfl
                    case cn47 => kernel_rfl
                    case qn47 => exact fun _ _ _ h => h
                    case dn47 => rfl
                    try simp only [Act.put, List.setIfInBounds_toArray, List.set_cons_zero, List.set_cons_succ]
                    refine wpAnyH_take (i := 11) (oi := ?on48) ?hin48 ?an48 ?bn48 ?cn48 ?qn48 (Or.inr ⟨?dn48, rfl⟩) hHeld ?restn48
                    case hin48 => (simp only [List.getElem?_toArray, List.getElem?_cons_succ, List.getElem?_cons_zero]; exact rfl)
                    case an48 => kernel_rfl
                    case bn48 => kernel_rfl
                    case cn48 => kernel_rfl
                    case qn48 => exact fun _ _ _ h => h
                    case dn48 => rfl
                    try simp only [Act.put, List.setIfInBounds_toArray, List.set_cons_zero, List.set_cons_succ]
                    refine wpAnyH_take (i := 12) (oi := ?on49) ?hin49 ?an49 ?bn49 ?cn49 ?qn49 (Or.inr ⟨?dn49, rfl⟩) hHeld ?restn49
                    case hin49 => (simp only [List.getElem?_toArray, List.getElem?_cons_succ, List.getElem?_cons_zero]; exact rfl)
                    case an49 => kernel_rfl
                    case bn49 => kernel_rfl
                    case cn49 => kernel_rfl
                    case qn49 => exact fun _ _ _ h => h
                    case dn49 => rfl
                    try simp only [Act.put, List.setIfInBounds_toArray, List.set_cons_zero, List.set_cons_succ]
                    refine wpAnyH_take (i := 13) (oi := ?on50) (v := ?vn50) ?hin50 ?an50 ?bn50 ?cn50 ?qn50 (Or.inl ⟨?dn50, ?hyn50⟩) hHeld ?restn50
                    case hin50 => (simp only [List.getElem?_toArray, List.getElem?_cons_succ, List.getElem?_cons_zero]; exact rfl)
                    case an50 => kernel_rfl
                    case bn50 => kernel_rfl
                    case cn50 => kernel_rfl
                    case qn50 => exact fun _ _ _ h => h
                    case dn50 => rfl
                    case hyn50 => (intro z hSw; (try dsimp only at hSw); go_simp; (try with_reducible rfl))
                    try simp only [Act.put, List.setIfInBounds_toArray, List.set_cons_zero, List.set_cons_succ]
                    refine wpAnyH_take (i := 14) (oi := ?on51) (v := ?vn51) ?hin51 ?an51 ?bn51 ?cn51 ?qn51 (Or.inl ⟨?dn51, ?hyn51⟩) hHeld ?restn51
                    case hin51 => (simp only [List.getElem?_toArray, List.getElem?_cons_succ, List.getElem?_cons_zero]; exact rfl)
                    case an51 => kernel_rfl
                    case bn51 => kernel_rfl
                    case cn51 => kernel_rfl
                    case qn51 => exact fun _ _ _ h => h
                    case dn51 => rfl
                    case hyn51 => (intro z hSw; (try dsimp only at hSw); go_simp; (try with_reducible rfl))
                    try simp only [Act.put, List.setIfInBounds_toArray, List.set_cons_zero, List.set_cons_succ]
                    refine wpAnyH_take (i := 15) (oi := ?on52) (v := ?vn52) ?hin52 ?an52 ?bn52 ?cn52 ?qn52 (Or.inl ⟨?dn52, ?hyn52⟩) hHeld ?restn52
                    case hin52 => (simp only [List.getElem?_toArray, List.getElem?_cons_succ, List.getElem?_cons_zero]; exact rfl)
                    case an52 => kernel_rfl
                    case bn52 => kernel_rfl
                    case cn52 => kernel_rfl
                    case qn52 => exact fun _ _ _ h => h
                    case dn52 => rfl
                    case hyn52 => (intro z hSw; (try dsimp only at hSw); go_simp; (try with_reducible rfl))
                    try simp only [Act.put, List.setIfInBounds_toArray, List.set_cons_zero, List.set_cons_succ]
                    refine wpAnyH_take (i := 16) (oi := ?on53) (v := ?vn53) ?hin53 ?an53 ?bn53 ?cn53 ?qn53 (Or.inl ⟨?dn53, ?hyn53⟩) hHeld ?restn53
                    case hin53 => (simp only [List.getElem?_toArray, List.getElem?_cons_succ, List.getElem?_cons_zero]; exact rfl)
                    case an53 => kernel_rfl
                    case bn53 => kernel_rfl
                    case cn53 => kernel_rfl
                    case qn53 => exact fun _ _ _ h => h
                    case dn53 => rfl
                    case hyn53 => (intro z hSw; (try dsimp only at hSw); go_simp; (try with_reducible rfl))
                    try simp only [Act.put, List.setIfInBounds_toArray, List.set_cons_zero, List.set_cons_succ]
                    refine wpAnyH_take (i := 17) (oi := ?on54) (v := ?vn54) ?hin54 ?an54 ?bn54 ?cn54 ?qn54 (Or.inl ⟨?dn54, ?hyn54⟩) hHeld ?restn54
                    case hin54 => (simp only [List.getElem?_toArray, List.getElem?_cons_succ, List.getElem?_cons_zero]; exact rfl)
                    case an54 => kernel_rfl
                    case bn54 => kernel_rfl
                    case cn54 => kernel_rfl
                    case qn54 => exact fun _ _ _ h => h
                    case dn54 => rfl
                    case hyn54 => (intro z hSw; (try dsimp only at hSw); go_simp; (try with_reducible rfl))
                    try simp only [Act.put, List.setIfInBounds_toArray, List.set_cons_zero, List.set_cons_succ]
                    refine wpAnyH_take (i := 18) (oi := ?on55) ?hin55 ?an55 ?bn55 ?cn55 ?qn55 (Or.inr ⟨?dn55, rfl⟩) hHeld ?restn55
                    case hin55 => (simp only [List.getElem?_toArray, List.getElem?_cons_succ, List.getElem?_cons_zero]; exact rfl)
                    case an55 => kernel_rfl
                    case bn55 => kernel_rfl
                    case cn55 => kernel_rfl
                    case qn55 => exact fun _ _ _ h => h
                    case dn55 => rfl
                    try simp only [Act.put, List.setIfInBounds_toArray, List.set_cons_zero, List.set_cons_succ]
                    refine wpAnyH_take (i := 19) (oi := ?on56) ?hin56 ?an56 ?bn56 ?cn56 ?qn56 (Or.inr ⟨?dn56, rfl⟩) hHeld ?restn56
                    case hin56 => (simp only [List.getElem?_toArray, List.getElem?_cons_succ, List.getElem?_cons_zero]; exact rfl)
                    case an56 => kernel_rfl
                    case bn56 => kernel_rfl
                    case cn56 => kernel_rfl
                    case qn56 => exact fun _ _ _ h => h
                    case dn56 => rfl
                    try simp only [Act.put, List.setIfInBounds_toArray, List.set_cons_zero, List.set_cons_succ]
                    refine wpAnyH_take (i := 20) (oi := ?on57) ?hin57 ?an57 ?bn57 ?cn57 ?qn57 (Or.inr ⟨?dn57, rfl⟩) hHeld ?restn57
                    case hin57 => (simp only [List.getElem?_toArray, List.getElem?_cons_succ, List.getElem?_cons_zero]; exact rfl)
                    case an57 => kernel_rfl
                    case bn57 => kernel_rfl
                    case cn57 => kernel_rfl
                    case qn57 => exact fun _ _ _ h => h
                    case dn57 => rfl
                    try simp only [Act.put, List.setIfInBounds_toArray, List.set_cons_zero, List.set_cons_succ]
                    refine wpAnyH_take (i := 21) (oi := ?on58) ?hin58 ?an58 ?bn58 ?cn58 ?qn58 (Or.inr ⟨?dn58, rfl⟩) hHeld ?restn58
                    case hin58 => (simp only [List.getElem?_toArray, List.getElem?_cons_succ, List.getElem?_cons_zero]; exact rfl)
                    case an58 => kernel_rfl
                    case bn58 => kernel_rfl
                    case cn58 => kernel_rfl
                    case qn58 => exact fun _ _ _ h => h
                    case dn58 => rfl
                    try simp only [Act.put, List.setIfInBounds_toArray, List.set_cons_zero, List.set_cons_succ]
                    refine wpAnyH_take (i := 22) (oi := ?on59) ?hin59 ?an59 ?bn59 ?cn59 ?qn59 (Or.inr ⟨?dn59, rfl⟩) hHeld ?restn59
                    case hin59 => (simp only [List.getElem?_toArray, List.getElem?_cons_succ, List.getElem?_cons_zero]; exact rfl)
                    case an59 => kernel_rfl
                    case bn59 => kernel_rfl
                    case cn59 => kernel_rfl
                    case qn59 => exact fun _ _ _ h => h
                    case dn59 => rfl
                    try simp only [Act.put, List.setIfInBounds_toArray, List.set_cons_zero, List.set_cons_succ]
                    refine wpAnyH_take (i := 23) (oi := ?on60) ?hin60 ?an60 ?bn60 ?cn60 ?qn60 (Or.inr ⟨?dn60, rfl⟩) hHeld ?restn60
                    case hin60 => (simp only [List.getElem?_toArray, List.getElem?_cons_succ, List.getElem?_cons_zero]; exact rfl)
                    case an60 => kernel_rfl
                    case bn60 => kernel_rfl
                    case cn60 => kernel_rfl
                    case qn60 => exact fun _ _ _ h => h
                    case dn60 => rfl
                    try simp only [Act.put, List.setIfInBounds_toArray, List.set_cons_zero, List.set_cons_succ]
                    refine wpAnyH_take (i := 24) (oi := ?on61) ?hin61 ?an61 ?bn61 ?cn61 ?qn61 (Or.inr ⟨?dn61, rfl⟩) hHeld ?restn61
                    case hin61 => (simp only [List.getElem?_toArray, List.getElem?_cons_succ, List.getElem?_cons_zero]; exact rfl)
                    case an61 => kernel_rfl
                    case bn61 => kernel_rfl
                    case cn61 => kernel_rfl
                    case qn61 => exact fun _ _ _ h => h
                    case dn61 => rfl
                    try simp only [Act.put, List.setIfInBounds_toArray, List.set_cons_zero, List.set_cons_succ]
                    refine wpAnyH_take (i := 25) (oi := ?on62) (v := ?vn62) ?hin62 ?an62 ?bn62 ?cn62 ?qn62 (Or.inl ⟨?dn62, ?hyn62⟩) hHeld ?restn62
                    case hin62 => (simp only [List.getElem?_toArray, List.getElem?_cons_succ, List.getElem?_cons_zero]; exact rfl)
                    case an62 => kernel_rfl
                    case bn62 => kernel_rfl
                    case cn62 => kernel_rfl
                    case qn62 => exact fun _ _ _ h => h
                    case dn62 => rfl
                    case hyn62 => (intro z hSw; (try dsimp only at hSw); go_simp; (try with_reducible rfl))
                    try simp only [Act.put, List.setIfInBounds_toArray, List.set_cons_zero, List.set_cons_succ]
                    refine wpAnyH_take (i := 26) (oi := ?on63) (v := ?vn63) ?hin63 ?an63 ?bn63 ?cn63 ?qn63 (Or.inl ⟨?dn63, ?hyn63⟩) hHeld ?restn63
                    case hin63 => (simp only [List.getElem?_toArray, List.getElem?_cons_succ, List.getElem?_cons_zero]; exact rfl)
                    case an63 => kernel_rfl
                    case bn63 => kernel_rfl
                    case cn63 => kernel_rfl
                    case qn63 => exact fun _ _ _ h => h
                    case dn63 => rfl
                    case hyn63 => (intro z hSw; (try dsimp only at hSw); go_simp; (try with_reducible rfl))
                    try simp only [Act.put, List.setIfInBounds_toArray, List.set_cons_zero, List.set_cons_succ]
                    refine wpAnyH_take (i := 27) (oi := ?on64) ?hin64 ?an64 ?bn64 ?cn64 ?qn64 (Or.inr ⟨?dn64, rfl⟩) hHeld ?restn64
                    case hin64 => (simp only [List.getElem?_toArray, List.getElem?_cons_succ, List.getElem?_cons_zero]; exact rfl)
                    case an64 => kernel_rfl
                    case bn64 => kernel_rfl
                    case cn64 => kernel_rfl
                    case qn64 => exact fun _ _ _ h => h
                    case dn64 => rfl
                    try simp only [Act.put, List.setIfInBounds_toArray, List.set_cons_zero, List.set_cons_succ]
                    refine wpAnyH_take (i := 28) (oi := ?on65) ?hin65 ?an65 ?bn65 ?cn65 ?qn65 (Or.inr ⟨?dn65, rfl⟩) hHeld ?restn65
                    case hin65 => (simp only [List.getElem?_toArray, List.getElem?_cons_succ, List.getElem?_cons_zero]; exact rfl)
                    case an65 => kernel_rfl
                    case bn65 => kernel_rfl
                    case cn65 => kernel_rfl
                    case qn65 => exact fun _ _ _ h => h
                    case dn65 => rfl
                    try simp only [Act.put, List.setIfInBounds_toArray, List.set_cons_zero, List.set_cons_succ]
                    refine wpAnyH_take (i := 29) (oi := ?on66) ?hin66 ?an66 ?bn66 ?cn66 ?qn66 (Or.inr ⟨?dn66, rfl⟩) hHeld ?restn66
                    case hin66 => (simp only [List.getElem?_toArray, List.getElem?_cons_succ, List.getElem?_cons_zero]; exact rfl)
                    case an66 => kernel_rfl
                    case bn66 => kernel_rfl
                    case cn66 => kernel_rfl
                    case qn66 => exact fun _ _ _ h => h
                    case dn66 => rfl
                    try simp only [Act.put, List.setIfInBounds_toArray, List.set_cons_zero, List.set_cons_succ]
                    refine wpAnyH_take (i := 30) (oi := ?on67) ?hin67 ?an67 ?bn67 ?cn67 ?qn67 (Or.inr ⟨?dn67, rfl⟩) hHeld ?restn67
                    case hin67 => (simp only [List.getElem?_toArray, List.getElem?_cons_succ, List.getElem?_cons_zero]; exact rfl)
                    case an67 => kernel_rfl
                    case bn67 => kernel_rfl
                    case cn67 => kernel_rfl
                    case qn67 => exact fun _ _ _ h => h
                    case dn67 => rfl
                    try simp only [Act.put, List.setIfInBounds_toArray, List.set_cons_zero, List.set_cons_succ]
                    refine wpAnyH_take (i := 31) (oi := ?on68) ?hin68 ?an68 ?bn68 ?cn68 ?qn68 (Or.inr ⟨?dn68, rfl⟩) hHeld ?restn68
                    case hin68 => (simp only [List.getElem?_toArray, List.getElem?_cons_succ, List.getElem?_cons_zero]; exact rfl)
                    case an68 => kernel_rfl
                    case bn68 => kernel_rfl
                    case cn68 => kernel_rfl
                    case qn68 => exact fun _ _ _ h => h
                    case dn68 => rfl
                    try simp only [Act.put, List.setIfInBounds_toArray, List.set_cons_zero, List.set_cons_succ]
                    refine wpAnyH_take (i := 32) (oi := ?on69) ?hin69 ?an69 ?bn69 ?cn69 ?qn69 (Or.inr ⟨?dn69, rfl⟩) hHeld ?restn69
                    case hin69 => (simp only [List.getElem?_toArray, List.getElem?_cons_succ, List.getElem?_cons_zero]; exact rfl)
                    case an69 => kernel_rfl
                    case bn69 => kernel_rfl
                    case cn69 => kernel_rfl
                    case qn69 => exact fun _ _ _ h => h
                    case dn69 => rfl
                    try simp only [Act.put, List.setIfInBounds_toArray, List.set_cons_zero, List.set_cons_succ]
                    refine wpAnyH_take (i := 33) (oi := ?on70) ?hin70 ?an70 ?bn70 ?cn70 ?qn70 (Or.inr ⟨?dn70, rfl⟩) hHeld ?restn70
                    case hin70 => (simp only [List.getElem?_toArray, List.getElem?_cons_succ, List.getElem?_cons_zero]; exact rfl)
                    case an70 => kernel_rfl
                    case bn70 => kernel_rfl
                    case cn70 => kernel_rfl
                    case qn70 => exact fun _ _ _ h => h
                    case dn70 => rfl
                    try simp only [Act.put, List.setIfInBounds_toArray, List.set_cons_zero, List.set_cons_succ]
                    refine wpAnyH_take (i := 34) (oi := ?on71) (v := ?vn71) ?hin71 ?an71 ?bn71 ?cn71 ?qn71 (Or.inl ⟨?dn71, ?hyn71⟩) hHeld ?restn71
                    case hin71 => (simp only [List.getElem?_toArray, List.getElem?_cons_succ, List.getElem?_cons_zero]; exact rfl)
                    case an71 => kernel_rfl
                    case bn71 => kernel_rfl
                    case cn71 => kernel_rfl
                    case qn71 => exact fun _ _ _ h => h
                    case dn71 => rfl
                    case hyn71 => (intro z hSw; (try dsimp only at hSw); go_simp; (try with_reducible rfl))
                    try simp only [Act.put, List.setIfInBounds_toArray, List.set_cons_zero, List.set_cons_succ]
                    refine wpAnyH_take (i := 35) (oi := ?on72) (v := ?vn72) ?hin72 ?an72 ?bn72 ?cn72 ?qn72 (Or.inl ⟨?dn72, ?hyn72⟩) hHeld ?restn72
                    case hin72 => (simp only [List.getElem?_toArray, List.getElem?_cons_succ, List.getElem?_cons_zero]; exact rfl)
                    case an72 => kernel_rfl
                    case bn72 => kernel_rfl
                    case cn72 => kernel_rfl
                    case qn72 => exact fun _ _ _ h => h
                    case dn72 => rfl
                    case hyn72 => (intro z hSw; (try dsimp only at hSw); go_simp; (try with_reducible rfl))
                    try simp only [Act.put, List.setIfInBounds_toArray, List.set_cons_zero, List.set_cons_succ]
                    refine wpAnyH_done (by kernel_rfl) ?_ _
                    go_wp2_with fail
                    go_roundw
                    case rel => exact ⟨q + 1, by omega, by go_num, hZd⟩
                    case measure => simp [intOf]; omega
                · obtain rfl : q = n := by omega
                  go_wp2_with fail
                  go_roundw
                  case rel => exact ⟨k + 1, by omega, by go_num, hZ⟩
                  case measure => simp [intOf]; omega
          · obtain rfl : k = n := by omega
            go_wp2_with fail
            go_roundw
            case rel => exact ⟨j + 1, by omega, by go_num, hY, hs⟩
            case measure => simp [intOf]; omega
      · have hv := Lib.hid (hA.out (decide_eq_false hd))
        have hne : (((dif (img A (nt A j)) (nt A j) : Nat) : Int) != 0) = true := by
          rw [bne_iff_ne]
          omega
        clear hA hS hd
        generalize hdd : dif (img A (nt A j)) (nt A j) = dd at *
        clear hdd
        generalize hmg : img A (nt A j) = mg at *
        clear hmg
        generalize nt A j = m at *
        go_wp2_with fail
        go_quiet (first | (go_at_call 140; exact Calls.quiet_of_same (hi.out _ (by first | exact hgwr.out | exact hgwr.out.drew | exact hgwr.out.drewN _))))
        go_wp2_with fail
        go_ret
        exact ⟨by rw [hv.out]; rfl, HG.out.trans (hB.drewN _)⟩
    · obtain rfl : j = n := by omega
      have hv := Lib.hid (HZ.out HJ.out)
      go_wp2_with fail
      go_ret
      exact ⟨by rw [hv.out]; rfl, HG.out.trans hB⟩
set_option maxHeartbeats 4000000 in
set_option maxRecDepth 100000 in
theorem l05Flag8_c (v : Value) (A : List Nat) (w : World) (h : Ints w v (zs A)) (hA : Rl A) :
    Calls Tryz.prog 94 #[.agg #[.int .i64 (A.length : Int), v], .int .i64 8] w fun e w' => e = .returned (.bool (antiB A)) ∧ Grew w w' := by
  obtain ⟨R, hR⟩ : ∃ R, R = antiB A := ⟨_, rfl⟩
  rw [← hR]
  unfold antiB at hR
  have HA := Lib.hid (fun k hk h => hR.trans (@allB_no A.length (fun x => allB A.length (antiX A x)) k hk h))
  have HZ := Lib.hid (fun h => hR.trans (@allB_of A.length (fun x => allB A.length (antiX A x)) h))
  have hn30 := hA.1
  have HB := Lib.hid (fun i (hi : i < A.length) k (hk : k < 64) => l01Bit_q (nt A i) k (by have := hA.sm.at_ hi; omega) hk)
  have hal := (Grew.refl w).alloc (.cells #[.int .i64 (A.length : Int), v] 26)
  have y0 : ∀ W, Grew (w.alloc (.cells #[.int .i64 (A.length : Int), v] 26)) W → W.cell? ⟨w.heap.size, 0, none⟩ = some (.int .i64 (A.length : Int)) := fun W hW => (hW.cell (p := ⟨w.heap.size, 0, none⟩) (by simp)).trans (by simp)
  have y1 : ∀ W, Grew (w.alloc (.cells #[.int .i64 (A.length : Int), v] 26)) W → W.cell? ⟨w.heap.size, 1, none⟩ = some v := fun W hW => (hW.cell (p := ⟨w.heap.size, 1, none⟩) (by simp)).trans (by simp)
  obtain ⟨w1, hw1⟩ : ∃ w1, w1 = w.alloc (.cells #[.int .i64 (A.length : Int), v] 26) := ⟨_, rfl⟩
  rw [← hw1] at y0 y1 hal
  have HG := Lib.hid hal
  have r1 := Grew.refl w1
  have r1d := r1.drew
  obtain ⟨A', c, rfl⟩ := ints_sliceN h
  have HC := Lib.hid (fun h0 => cellsN h h0)
  clear h hA hR hal
  generalize hN : A.length = n at *
  clear hN
  go_enter Tryz.func94, Tryz.ntmps94
  go_wp2_with fail
  simp only [← hw1]
  clear hw1
  go_quiet (fail)
  go_wp2_with fail
  go_loopw [7] (fun i wr => ∃ j : Nat, j ≤ n ∧ i = .int .i64 j ∧ Grew w1 wr ∧ Hid (AllK (fun x => allB n (antiX A x)) j)) (fun i _ => n - (intOf i).toNat)
  case atStart => exact ⟨0, Nat.zero_le _, rfl, (Grew.refl _).drewN _, AllK.zero _⟩
  case round =>
    obtain ⟨j, hj, rfl, hB, HJ⟩ := hrel
    by_cases hlt : j < n
    · obtain ⟨b, o, rfl, hcell⟩ := HC.out (by omega)
      have hgw := HG.out
      have HX := Lib.hid (fun i hi W (hW : Grew w1 W) => hcell i hi W (hgw.trans hW))
      have hcx := fun W (hW : Grew wr W) => HX.out j hlt W (hB.trans hW)
      have rx := Grew.refl wr
      have hA := Lib.hid (HA.out j hlt)
      have hS := Lib.hid (fun h => HJ.out.succ (k := j) h)
      have hBx := Lib.hid (HB.out j hlt)
      clear hcell
      go_wp2_with fail
      go_loopw [8] (fun i wy => ∃ k : Nat, k ≤ n ∧ i = .int .i64 k ∧ Grew w1 wy ∧ Hid (AllK (antiX A j) k)) (fun i _ => n - (intOf i).toNat)
      case atStart => exact ⟨0, Nat.zero_le _, rfl, hB, AllK.zero _⟩
      case round =>
        obtain ⟨k, hk, rfl, hY, HK⟩ := hrel
        by_cases hlk : k < n
        · have hcy := fun W (hW : Grew wr W) => HX.out j hlt W (hY.trans hW)
          have ry := Grew.refl wr
          have hb2 := Lib.hid (hBx.out k (by omega))
          have hKS := Lib.hid (fun h => HK.out.succ (k := k) h)
          have hKN := Lib.hid (fun h => @allB_no n (antiX A j) k hlk h)
          have hcz := fun W (hW : Grew wr W) => HX.out k hlk W (hY.trans hW)
          have hb4 := Lib.hid (HB.out k hlk j (by omega))
          have hax : antiX A j k = !((nt A j).testBit k && (!(j == k) && (nt A k).testBit j)) := rfl
          cases ht : (nt A j).testBit k with
          | false =>
            rw [ht] at hb2 hax
            have hks := Lib.hid (hKS.out (by rw [hax]; simp))
            clear hax hKS hKN ht
            generalize nt A j = m at *
            clear hcx hcz hb4
            go_wp2_with fail
            refine (hb2.out _).mono ?_
            rintro e w3 ⟨rfl, rfl⟩
            go_wp2_with fail
            go_roundw
            case rel => exact ⟨k + 1, by omega, by go_num, hY, hks⟩
            case measure => simp [intOf]; omega
          | true =>
            rw [ht] at hb2 hax
            rw [Bool.true_and] at hax
            by_cases hjk : j = k
            · have hj1 : ((j : Int) != (k : Int)) = false := by rw [hjk]; simp
              have hks := Lib.hid (hKS.out (by rw [hax, hjk]; simp))
              clear hax hKS hKN ht hjk hb4 hcz
              go_wp2_with fail
              refine (hb2.out _).mono ?_
              rintro e w3 ⟨rfl, rfl⟩
              go_wp2_with fail
              go_loopw [9] (fun i wz => ∃ q : Nat, q ≤ n ∧ i = .int .i64 q ∧ Grew w1 wz) (fun i _ => n - (intOf i).toNat)
              case atStart => exact ⟨0, Nat.zero_le _, rfl, hY⟩
              case round =>
                obtain ⟨q, hq, rfl, hZ⟩ := hrel
                by_cases hlq : q < n
                · have hcw := fun W (hW : Grew wr W) => HX.out j hlt W (hZ.trans hW)
                  have rz := Grew.refl wr
                  have hZd := hZ.drew
                  have hb3 := Lib.hid (hBx.out q (by omega))
                  cases ht3 : (nt A j).testBit q with
                  | false =>
                    rw [ht3] at hb3
                    clear ht3
                    generalize nt A j = m at *
                    clear hcx hcy
                    go_wp2_with fail
                    refine (hb3.out _).mono ?_
                    rintro e w4 ⟨rfl, rfl⟩
                    go_wp2_with fail
                    go_roundw
                    case rel => exact ⟨q + 1, by omega, by go_num, hZ⟩
                    case measure => simp [intOf]; omega
                  | true =>
                    rw [ht3] at hb3
                    clear ht3
                    generalize nt A j = m at *
                    clear hcx hcy
                    go_wp2_with fail
                    refine (hb3.out _).mono ?_
                    rintro e w4 ⟨rfl, rfl⟩
                    go_wp2_with fail
                    refine wp_region_held_drew (S := fun w' => Grew w1 w') (by kernel_rfl) hZd (fun hHeld => ?_)
                    refine wpAnyH_take (i := 0) (oi := ?on73) (v := ?vn73) ?hin73 ?an73 ?bn73 ?cn73 ?qn73 (Or.inl ⟨?dn73, ?hyn73⟩) hHeld ?restn73
                    case hin73 => (simp only [List.getElem?_toArray, List.getElem?_cons_zero]; exact rfl)
                    case an73 => kernel_rfl
                    case bn73 => kernel_rfl
                    case cn73 => kernel_rfl
                    case qn73 => exact fun _ _ _ h => h
                    case dn73 => rfl
                    case hyn73 => (intro z hSw; (try dsimp only at hSw); go_simp; (try with_reducible rfl))
                    try simp only [Act.put, List.setIfInBounds_toArray, List.set_cons_zero, List.set_cons_succ]
                    refine wpAnyH_take (i := 1) (oi := ?on74) (v := ?vn74) ?hin74 ?an74 ?bn74 ?cn74 ?qn74 (Or.inl ⟨?dn74, ?hyn74⟩) hHeld ?restn74
                    case hin74 => (simp only [List.getElem?_toArray, List.getElem?_cons_succ, List.getElem?_cons_zero]; exact rfl)
                    case an74 => kernel_rfl
                    case bn74 => kernel_rfl
                    case cn74 => kernel_rfl
                    case qn74 => exact fun _ _ _ h => h
                    case dn74 => rfl
                    case hyn74 => (intro z hSw; (try dsimp only at hSw); go_simp; (try with_reducible rfl))
                    try simp only [Act.put, List.setIfInBounds_toArray, List.set_cons_zero, List.set_cons_succ]
                    refine wpAnyH_take (i := 2) (oi := ?on75) (v := ?vn75) ?hin75 ?an75 ?bn75 ?cn75 ?qn75 (Or.inl ⟨?dn75, ?hyn75⟩) hHeld ?restn75
                    case hin75 => (simp only [List.getElem?_toArray, List.getElem?_cons_succ, List.getElem?_cons_zero]; exact rfl)
                    case an75 => kernel_rfl
                    case bn75 => kernel_rfl
                    case cn75 => kernel_rfl
                    case qn75 => exact fun _ _ _ h => h
                    case dn75 => rfl
                    case hyn75 => (intro z hSw; (try dsimp only at hSw); go_simp; (try with_reducible rfl))
                    try simp only [Act.put, List.setIfInBounds_toArray, List.set_cons_zero, List.set_cons_succ]
                    refine wpAnyH_take (i := 3) (oi := ?on76) ?hin76 ?an76 ?bn76 ?cn76 ?qn76 (Or.inr ⟨?dn76, rfl⟩) hHeld ?restn76
                    case hin76 => (simp only [List.getElem?_toArray, List.getElem?_cons_succ, List.getElem?_cons_zero]; exact rfl)
                    case an76 => kernel_rfl
                    case bn76 => kernel_rfl
                    case cn76 => kernel_rfl
                    case qn76 => exact fun _ _ _ h => h
                    case dn76 => rfl
                    try simp only [Act.put, List.setIfInBounds_toArray, List.set_cons_zero, List.set_cons_succ]
                    refine wpAnyH_take (i := 4) (oi := ?on77) ?hin77 ?an77 ?bn77 ?cn77 ?qn77 (Or.inr ⟨?dn77, rfl⟩) hHeld ?restn77
                    case hin77 => (simp only [List.getElem?_toArray, List.getElem?_cons_succ, List.getElem?_cons_zero]; exact rfl)
                    case an77 => kernel_rfl
                    case bn77 => kernel_rfl
                    case cn77 => kernel_rfl
                    case qn77 => exact fun _ _ _ h => h
                    case dn77 => rfl
                    try simp only [Act.put, List.setIfInBounds_toArray, List.set_cons_zero, List.set_cons_succ]
                    refine wpAnyH_take (i := 5) (oi := ?on78) ?hin78 ?an78 ?bn78 ?cn78 ?qn78 (Or.inr ⟨?dn78, rfl⟩) hHeld ?restn78
                    case hin78 => (simp only [List.getElem?_toArray, List.getElem?_cons_succ, List.getElem?_cons_zero]; exact rfl)
                    case an78 => kernel_rfl
                    case bn78 => kernel_rfl
                    case cn78 => kernel_rfl
                    case qn78 => exact fun _ _ _ h => h
                    case dn78 => rfl
                    try simp only [Act.put, List.setIfInBounds_toArray, List.set_cons_zero, List.set_cons_succ]
                    refine wpAnyH_take (i := 6) (oi := ?on79) ?hin79 ?an79 ?bn79 ?cn79 ?qn79 (Or.inr ⟨?dn79, rfl⟩) hHeld ?restn79
                    case hin79 => (simp only [List.getElem?_toArray, List.getElem?_cons_succ, List.getElem?_cons_zero]; exact rfl)
                    case an79 => kernel_rfl
                    case bn79 => kernel_rfl
                    case cn79 => kernel_rfl
                    case qn79 => exact fun _ _ _ h => h
                    case dn79 => rfl
                    try simp only [Act.put, List.setIfInBounds_toArray, List.set_cons_zero, List.set_cons_succ]
                    refine wpAnyH_take (i := 7) (oi := ?on80) ?hin80 ?an80 ?bn80 ?cn80 ?qn80 (Or.inr ⟨?dn80, rfl⟩) hHeld ?restn80
                    case hin80 => (simp only [List.getElem?_toArray, List.getElem?_cons_succ, List.getElem?_cons_zero]; exact rfl)
                    case an80 => kernel_rfl
                    case bn80 => kernel_rfl
                    case cn80 => kernel_rfl
                    case qn80 => exact fun _ _ _ h => h
                    case dn80 => rfl
                    try simp only [Act.put, List.setIfInBounds_toArray, List.set_cons_zero, List.set_cons_succ]
                    refine wpAnyH_take (i := 8) (oi := ?on81) ?hin81 ?an81 ?bn81 ?cn81 ?qn81 (Or.inr ⟨?dn81, rfl⟩) hHeld ?restn81
                    case hin81 => (simp only [List.getElem?_toArray, List.getElem?_cons_succ, List.getElem?_cons_zero]; exact rfl)
                    case an81 => kernel_rfl
                    case bn81 => kernel_rfl
                    case cn81 => kernel_rfl
                    case qn81 => exact fun _ _ _ h => h
                    case dn81 => rfl
                    try simp only [Act.put, List.setIfInBounds_toArray, List.set_cons_zero, List.set_cons_succ]
                    refine wpAnyH_take (i := 9) (oi := ?on82) ?hin82 ?an82 ?bn82 ?cn82 ?qn82 (Or.inr ⟨?dn82, rfl⟩) hHeld ?restn82
                    case hin82 => (simp only [List.getElem?_toArray, List.getElem?_cons_succ, List.getElem?_cons_zero]; exact rfl)
                    case an82 => kernel_rfl
                    case bn82 => kernel_rfl
                    case cn82 => kernel_rfl
                    case qn82 => exact fun _ _ _ h => h
                    case dn82 => rfl
                    try simp only [Act.put, List.setIfInBounds_toArray, List.set_cons_zero, List.set_cons_succ]
                    refine wpAnyH_take (i := 10) (oi := ?on83) ?hin83 ?an83 ?bn83 ?cn83 ?qn83 (Or.inr ⟨?dn83, rfl⟩) hHeld ?restn83
                    case hin83 => (simp only [List.getElem?_toArray, List.getElem?_cons_succ, List.getElem?_cons_zero]; exact rfl)
                    case an83 => kernel_rfl
                    case bn83 => kernel_rfl
                    case cn83 => kernel_rfl
                    case qn83 => exact fun _ _ _ h => h
                    case dn83 => rfl
                    try simp only [Act.put, List.setIfInBounds_toArray, List.set_cons_zero, List.set_cons_succ]
                    refine wpAnyH_take (i := 11) (oi := ?on84) ?hin84 ?an84 ?bn84 ?cn84 ?qn84 (Or.inr ⟨?dn84, rfl⟩) hHeld ?restn84
                    case hin84 => (simp only [List.getElem?_toArray, List.getElem?_cons_succ, List.getElem?_cons_zero]; exact rfl)
                    case an84 => kernel_rfl
                    case bn84 => kernel_rfl
                    case cn84 => kernel_rfl
                    case qn84 => exact fun _ _ _ h => h
                    case dn84 => rfl
                    try simp only [Act.put, List.setIfInBounds_toArray, List.set_cons_zero, List.set_cons_succ]
                    refine wpAnyH_take (i := 12) (oi := ?on85) ?hin85 ?an85 ?bn85 ?cn85 ?qn85 (Or.inr ⟨?dn85, rfl⟩) hHeld ?restn85
                    case hin85 => (simp only [List.getElem?_toArray, List.getElem?_cons_succ, List.getElem?_cons_zero]; exact rfl)
                    case an85 => kernel_rfl
                    case bn85 => kernel_rfl
                    case cn85 => kernel_rfl
                    case qn85 => exact fun _ _ _ h => h
                    case dn85 => rfl
                    try simp only [Act.put, List.setIfInBounds_toArray, List.set_cons_zero, List.set_cons_succ]
                    refine wpAnyH_take (i := 13) (oi := ?on86) (v := ?vn86) ?hin86 ?an86 ?bn86 ?cn86 ?qn86 (Or.inl ⟨?dn86, ?hyn86⟩) hHeld ?restn86
                    case hin86 => (simp only [List.getElem?_toArray, List.getElem?_cons_succ, List.getElem?_cons_zero]; exact rfl)
                    case an86 => kernel_rfl
                    case bn86 => kernel_rfl
                    case cn86 => kernel_rfl
                    case qn86 => exact fun _ _ _ h => h
                    case dn86 => rfl
                    case hyn86 => (intro z hSw; (try dsimp only at hSw); go_simp; (try with_reducible rfl))
                    try simp only [Act.put, List.setIfInBounds_toArray, List.set_cons_zero, List.set_cons_succ]
                    refine wpAnyH_take (i := 14) (oi := ?on87) (v := ?vn87) ?hin87 ?an87 ?bn87 ?cn87 ?qn87 (Or.inl ⟨?dn87, ?hyn87⟩) hHeld ?restn87
                    case hin87 => (simp only [List.getElem?_toArray, List.getElem?_cons_succ, List.getElem?_cons_zero]; exact rfl)
                    case an87 => kernel_rfl
                    case bn87 => kernel_rfl
                    case cn87 => kernel_rfl
                    case qn87 => exact fun _ _ _ h => h
                    case dn87 => rfl
                    case hyn87 => (intro z hSw; (try dsimp only at hSw); go_simp; (try with_reducible rfl))
                    try simp only [Act.put, List.setIfInBounds_toArray, List.set_cons_zero, List.set_cons_succ]
                    refine wpAnyH_take (i := 15) (oi := ?on88) (v := ?vn88) ?hin88 ?an88 ?bn88 ?cn88 ?qn88 (Or.inl ⟨?dn88, ?hyn88⟩) hHeld ?restn88
                    case hin88 => (simp only [List.getElem?_toArray, List.getElem?_cons_succ, List.getElem?_cons_zero]; exact rfl)
                    case an88 => kernel_rfl
                    case bn88 => kernel_rfl
                    case cn88 => kernel_rfl
                    case qn88 => exact fun _ _ _ h => h
                    case dn88 => rfl
                    case hyn88 => (intro z hSw; (try dsimp only at hSw); go_simp; (try with_reducible rfl))
                    try simp only [Act.put, List.setIfInBounds_toArray, List.set_cons_zero, List.set_cons_succ]
                    refine wpAnyH_take (i := 16) (oi := ?on89) (v := ?vn89) ?hin89 ?an89 ?bn89 ?cn89 ?qn89 (Or.inl ⟨?dn89, ?hyn89⟩) hHeld ?restn89
                    case hin89 => (simp only [List.getElem?_toArray, List.getElem?_cons_succ, List.getElem?_cons_zero]; exact rfl)
                    case an89 => kernel_rfl
                    case bn89 => kernel_rfl
                    case cn89 => kernel_rfl
                    case qn89 => exact fun _ _ _ h => h
                    case dn89 => rfl
                    case hyn89 => (intro z hSw; (try dsimp only at hSw); go_simp; (try with_reducible rfl))
                    try simp only [Act.put, List.setIfInBounds_toArray, List.set_cons_zero, List.set_cons_succ]
                    refine wpAnyH_take (i := 17) (oi := ?on90) (v := ?vn90) ?hin90 ?an90 ?bn90 ?cn90 ?qn90 (Or.inl ⟨?dn90, ?hyn90⟩) hHeld ?restn90
                    case hin90 => (simp only [List.getElem?_toArray, List.getElem?_cons_succ, List.getElem?_cons_zero]; exact rfl)
                    case an90 => kernel_rfl
                    case bn90 => kernel_rfl
                    case cn90 => kernel_rfl
                    case qn90 => exact fun _ _ _ h => h
                    case dn90 => rfl
                    case hyn90 => (intro z hSw; (try dsimp only at hSw); go_simp; (try with_reducible rfl))
                    try simp only [Act.put, List.setIfInBounds_toArray, List.set_cons_zero, List.set_cons_succ]
                    refine wpAnyH_take (i := 18) (oi := ?on91) ?hin91 ?an91 ?bn91 ?cn91 ?qn91 (Or.inr ⟨?dn91, rfl⟩) hHeld ?restn91
                    case hin91 => (simp only [List.getElem?_toArray, List.getElem?_cons_succ, List.getElem?_cons_zero]; exact rfl)
                    case an91 => kernel_rfl
                    case bn91 => kernel_rfl
                    case cn91 => kernel_rfl
                    case qn91 => exact fun _ _ _ h => h
                    case dn91 => rfl
                    try simp only [Act.put, List.setIfInBounds_toArray, List.set_cons_zero, List.set_cons_succ]
                    refine wpAnyH_take (i := 19) (oi := ?on92) ?hin92 ?an92 ?bn92 ?cn92 ?qn92 (Or.inr ⟨?dn92, rfl⟩) hHeld ?restn92
                    case hin92 => (simp only [List.getElem?_toArray, List.getElem?_cons_succ, List.getElem?_cons_zero]; exact rfl)
                    case an92 => kernel_rfl
                    case bn92 => kernel_rfl
                    case cn92 => kernel_rfl
                    case qn92 => exact fun _ _ _ h => h
                    case dn92 => rfl
                    try simp only [Act.put, List.setIfInBounds_toArray, List.set_cons_zero, List.set_cons_succ]
                    refine wpAnyH_take (i := 20) (oi := ?on93) ?hin93 ?an93 ?bn93 ?cn93 ?qn93 (Or.inr ⟨?dn93, rfl⟩) hHeld ?restn93
                    case hin93 => (simp only [List.getElem?_toArray, List.getElem?_cons_succ, List.getElem?_cons_zero]; exact rfl)
                    case an93 => kernel_rfl
                    case bn93 => kernel_rfl
                    case cn93 => kernel_rfl
                    case qn93 => exact fun _ _ _ h => h
                    case dn93 => rfl
                    try simp only [Act.put, List.setIfInBounds_toArray, List.set_cons_zero, List.set_cons_succ]
                    refine wpAnyH_take (i := 21) (oi := ?on94) ?hin94 ?an94 ?bn94 ?cn94 ?qn94 (Or.inr ⟨?dn94, rfl⟩) hHeld ?restn94
                    case hin94 => (simp only [List.getElem?_toArray, List.getElem?_cons_succ, List.getElem?_cons_zero]; exact rfl)
                    case an94 => kernel_rfl
                    case bn94 => kernel_rfl
                    case cn94 => kernel_rfl
                    case qn94 => exact fun _ _ _ h => h
                    case dn94 => rfl
                    try simp only [Act.put, List.setIfInBounds_toArray, List.set_cons_zero, List.set_cons_succ]
                    refine wpAnyH_take (i := 22) (oi := ?on95) ?hin95 ?an95 ?bn95 ?cn95 ?qn95 (Or.inr ⟨?dn95, rfl⟩) hHeld ?restn95
                    case hin95 => (simp only [List.getElem?_toArray, List.getElem?_cons_succ, List.getElem?_cons_zero]; exact rfl)
                    case an95 => kernel_rfl
                    case bn95 => kernel_rfl
                    case cn95 => kernel_rfl
                    case qn95 => exact fun _ _ _ h => h
                    case dn95 => rfl
                    try simp only [Act.put, List.setIfInBounds_toArray, List.set_cons_zero, List.set_cons_succ]
                    refine wpAnyH_take (i := 23) (oi := ?on96) ?hin96 ?an96 ?bn96 ?cn96 ?qn96 (Or.inr ⟨?dn96, rfl⟩) hHeld ?restn96
                    case hin96 => (simp only [List.getElem?_toArray, List.getElem?_cons_succ, List.getElem?_cons_zero]; exact rfl)
                    case an96 => kernel_rfl
                    case bn96 => kernel_rfl
                    case cn96 => kernel_rfl
                    case qn96 => exact fun _ _ _ h => h
                    case dn96 => rfl
                    try simp only [Act.put, List.setIfInBounds_toArray, List.set_cons_zero, List.set_cons_succ]
                    refine wpAnyH_take (i := 24) (oi := ?on97) ?hin97 ?an97 ?bn97 ?cn97 ?qn97 (Or.inr ⟨?dn97, rfl⟩) hHeld ?restn97
                    case hin97 => (simp only [List.getElem?_toArray, List.getElem?_cons_succ, List.getElem?_cons_zero]; exact rfl)
                    case an97 => kernel_rfl
                    case bn97 => kernel_rfl
                    case cn97 => kernel_rfl
                    case qn97 => exact fun _ _ _ h => h
                    case dn97 => rfl
                    try simp only [Act.put, List.setIfInBounds_toArray, List.set_cons_zero, List.set_cons_succ]
                    refine wpAnyH_take (i := 25) (oi := ?on98) (v := ?vn98) ?hin98 ?an98 ?bn98 ?cn98 ?qn98 (Or.inl ⟨?dn98, ?hyn98⟩) hHeld ?restn98
                    case hin98 => (simp only [List.getElem?_toArray, List.getElem?_cons_succ, List.getElem?_cons_zero]; exact rfl)
                    case an98 => kernel_rfl
                    case bn98 => kernel_rfl
                    case cn98 => kernel_rfl
                    case qn98 => exact fun _ _ _ h => h
                    case dn98 => rfl
                    case hyn98 => (intro z hSw; (try dsimp only at hSw); go_simp; (try with_reducible rfl))
                    try simp only [Act.put, List.setIfInBounds_toArray, List.set_cons_zero, List.set_cons_succ]
                    refine wpAnyH_take (i := 26) (oi := ?on99) (v := ?vn99) ?hin99 ?an99 ?bn99 ?cn99 ?qn99 (Or.inl ⟨?dn99, ?hyn99⟩) hHeld ?restn99
                    case hin99 => (simp only [List.getElem?_toArray, List.getElem?_cons_succ, List.getElem?_cons_zero]; exact rfl)
                    case an99 => kernel_rfl
                    case bn99 => kernel_rfl
                    case cn99 => kernel_rfl
                    case qn99 => exact fun _ _ _ h => h
                    case dn99 => rfl
                    case hyn99 => (intro z hSw; (try dsimp only at hSw); go_simp; (try with_reducible rfl))
                    try simp only [Act.put, List.setIfInBounds_toArray, List.set_cons_zero, List.set_cons_succ]
                    refine wpAnyH_take (i := 27) (oi := ?on100) ?hin100 ?an100 ?bn100 ?cn100 ?qn100 (Or.inr ⟨?dn100, rfl⟩) hHeld ?restn100
                    case hin100 => (simp only [List.getElem?_toArray, List.getElem?_cons_succ, List.getElem?_cons_zero]; exact rfl)
                    case an100 => kernel_rfl
                    case bn100 => kernel_rfl
                    case cn100 => kernel_rfl
                    case qn100 => exact fun _ _ _ h => h
                    case dn100 => rfl
                    try simp only [Act.put, List.setIfInBounds_toArray, List.set_cons_zero, List.set_cons_succ]
                    refine wpAnyH_take (i := 28) (oi := ?on101) ?hin101 ?an101 ?bn101 ?cn101 ?qn101 (Or.inr ⟨?dn101, rfl⟩) hHeld ?restn101
                    case hin101 => (simp only [List.getElem?_toArray, List.getElem?_cons_succ, List.getElem?_cons_zero]; exact rfl)
                    case an101 => kernel_rfl
                    case bn101 => kernel_rfl
                    case cn101 => kernel_rfl
                    case qn101 => exact fun _ _ _ h => h
                    case dn101 => rfl
                    try simp only [Act.put, List.setIfInBounds_toArray, List.set_cons_zero, List.set_cons_succ]
                    refine wpAnyH_take (i := 29) (oi := ?on102) ?hin102 ?an102 ?bn102 ?cn102 ?qn102 (Or.inr ⟨?dn102, rfl⟩) hHeld ?restn102
                    case hin102 => (simp only [List.getElem?_toArray, List.getElem?_cons_succ, List.getElem?_cons_zero]; exact rfl)
                    case an102 => kernel_rfl
                    case bn102 => kernel_rfl
                    case cn102 => kernel_rfl
                    case qn102 => exact fun _ _ _ h => h
                    case dn102 => rfl
                    try simp only [Act.put, List.setIfInBounds_toArray, List.set_cons_zero, List.set_cons_succ]
                    refine wpAnyH_take (i := 30) (oi := ?on103) ?hin103 ?an103 ?bn103 ?cn103 ?qn103 (Or.inr ⟨?dn103, rfl⟩) hHeld ?restn103
                    case hin103 => (simp only [List.getElem?_toArray, List.getElem?_cons_succ, List.getElem?_cons_zero]; exact rfl)
                    case an103 => kernel_rfl
                    case bn103 => kernel_rfl
                    case cn103 => kernel_rfl
                    case qn103 => exact fun _ _ _ h => h
                    case dn103 => rfl
                    try simp only [Act.put, List.setIfInBounds_toArray, List.set_cons_zero, List.set_cons_succ]
                    refine wpAnyH_take (i := 31) (oi := ?on104) ?hin104 ?an104 ?bn104 ?cn104 ?qn104 (Or.inr ⟨?dn104, rfl⟩) hHeld ?restn104
                    case hin104 => (simp only [List.getElem?_toArray, List.getElem?_cons_succ, List.getElem?_cons_zero]; exact rfl)
                    case an104 => kernel_rfl
                    case bn104 => kernel_rfl
                    case cn104 => kernel_rfl
                    case qn104 => exact fun _ _ _ h => h
                    case dn104 => rfl
                    try simp only [Act.put, List.setIfInBounds_toArray, List.set_cons_zero, List.set_cons_succ]
                    refine wpAnyH_take (i := 32) (oi := ?on105) ?hin105 ?an105 ?bn105 ?cn105 ?qn105 (Or.inr ⟨?dn105, rfl⟩) hHeld ?restn105
                    case hin105 => (simp only [List.getElem?_toArray, List.getElem?_cons_succ, List.getElem?_cons_zero]; exact rfl)
                    case an105 => kernel_rfl
                    case bn105 => kernel_rfl
                    case cn105 => kernel_rfl
                    case qn105 => exact fun _ _ _ h => h
                    case dn105 => rfl
                    try simp only [Act.put, List.setIfInBounds_toArray, List.set_cons_zero, List.set_cons_succ]
                    refine wpAnyH_take (i := 33) (oi := ?on106) ?hin106 ?an106 ?bn106 ?cn106 ?qn106 (Or.inr ⟨?dn106, rfl⟩) hHeld ?restn106
                    case hin106 => (simp only [List.getElem?_toArray, List.getElem?_cons_succ, List.getElem?_cons_zero]; exact rfl)
                    case an106 => kernel_rfl
                    case bn106 => kernel_rfl
                    case cn106 => kernel_rfl
                    case qn106 => exact fun _ _ _ h => h
                    case dn106 => rfl
                    try simp only [Act.put, List.setIfInBounds_toArray, List.set_cons_zero, List.set_cons_succ]
                    refine wpAnyH_take (i := 34) (oi := ?on107) (v := ?vn107) ?hin107 ?an107 ?bn107 ?cn107 ?qn107 (Or.inl ⟨?dn107, ?hyn107⟩) hHeld ?restn107
                    case hin107 => (simp only [List.getElem?_toArray, List.getElem?_cons_succ, List.getElem?_cons_zero]; exact rfl)
                    case an107 => kernel_rfl
                    case bn107 => kernel_rfl
                    case cn107 => kernel_rfl
                    case qn107 => exact fun _ _ _ h => h
                    case dn107 => rfl
                    case hyn107 => (intro z hSw; (try dsimp only at hSw); go_simp; (try with_reducible rfl))
                    try simp only [Act.put, List.setIfInBounds_toArray, List.set_cons_zero, List.set_cons_succ]
                    refine wpAnyH_take (i := 35) (oi := ?on108) (v := ?vn108) ?hin108 ?an108 ?bn108 ?cn108 ?qn108 (Or.inl ⟨?dn108, ?hyn108⟩) hHeld ?restn108
                    case hin108 => (simp only [List.getElem?_toArray, List.getElem?_cons_succ, List.getElem?_cons_zero]; exact rfl)
                    case an108 => kernel_rfl
                    case bn108 => kernel_rfl
                    case cn108 => kernel_rfl
                    case qn108 => exact fun _ _ _ h => h
                    case dn108 => rfl
                    case hyn108 => (intro z hSw; (try dsimp only at hSw); go_simp; (try with_reducible rfl))
                    try simp only [Act.put, List.setIfInBounds_toArray, List.set_cons_zero, List.set_cons_succ]
                    refine wpAnyH_done (by kernel_rfl) ?_ _
                    go_wp2_with fail
                    go_roundw
                    case rel => exact ⟨q + 1, by omega, by go_num, hZd⟩
                    case measure => simp [intOf]; omega
                · obtain rfl : q = n := by omega
                  go_wp2_with fail
                  go_roundw
                  case rel => exact ⟨k + 1, by omega, by go_num, hZ, hks⟩
                  case measure => simp [intOf]; omega
            · have hj1 : ((j : Int) != (k : Int)) = true := by
                rw [bne_iff_ne]
                omega
              have hj2 : (j == k) = false := by rw [beq_eq_false_iff_ne]; exact hjk
              rw [hj2, Bool.not_false, Bool.true_and] at hax
              cases ht2 : (nt A k).testBit j with
              | true =>
                rw [ht2] at hb4 hax
                have hv := Lib.hid (hA.out (hKN.out (by rw [hax]; rfl)))
                clear hax hKS hKN ht hjk hj2 ht2
                generalize nt A j = m at *
                generalize nt A k = m2 at *
                go_wp2_with fail
                refine (hb2.out _).mono ?_
                rintro e w3 ⟨rfl, rfl⟩
                go_wp2_with fail
                refine (hb4.out _).mono ?_
                rintro e w4 ⟨rfl, rfl⟩
                go_wp2_with fail
                go_ret
                exact ⟨by rw [hv.out]; rfl, HG.out.trans hY⟩
              | false =>
                rw [ht2] at hb4 hax
                have hks := Lib.hid (hKS.out (by rw [hax]; rfl))
                clear hax hKS hKN ht hjk hj2 ht2
                go_wp2_with fail
                refine (hb2.out _).mono ?_
                rintro e w3 ⟨rfl, rfl⟩
                go_wp2_with fail
                refine (hb4.out _).mono ?_
                rintro e w4 ⟨rfl, rfl⟩
                go_wp2_with fail
                go_loopw [9] (fun i wz => ∃ q : Nat, q ≤ n ∧ i = .int .i64 q ∧ Grew w1 wz) (fun i _ => n - (intOf i).toNat)
                case atStart => exact ⟨0, Nat.zero_le _, rfl, hY⟩
                case round =>
                  obtain ⟨q, hq, rfl, hZ⟩ := hrel
                  by_cases hlq : q < n
                  · have hcw := fun W (hW : Grew wr W) => HX.out j hlt W (hZ.trans hW)
                    have rz := Grew.refl wr
                    have hZd := hZ.drew
                    have hb3 := Lib.hid (hBx.out q (by omega))
                    cases ht3 : (nt A j).testBit q with
                    | false =>
                      rw [ht3] at hb3
                      clear ht3
                      generalize nt A j = m at *
                      clear hcx hcy
                      go_wp2_with fail
                      refine (hb3.out _).mono ?_
                      rintro e w4 ⟨rfl, rfl⟩
                      go_wp2_with fail
                      go_roundw
                      case rel => exact ⟨q + 1, by omega, by go_num, hZ⟩
                      case measure => simp [intOf]; omega
                    | true =>
                      rw [ht3] at hb3
                      clear ht3
                      generalize nt A j = m at *
                      clear hcx hcy
                      go_wp2_with fail
                      refine (hb3.out _).mono ?_
                      rintro e w4 ⟨rfl, rfl⟩
                      go_wp2_with fail
                      refine wp_region_held_drew (S := fun w' => Grew w1 w') (by kernel_rfl) hZd (fun hHeld => ?_)
                      refine wpAnyH_take (i := 0) (oi := ?on109) (v := ?vn109) ?hin109 ?an109 ?bn109 ?cn109 ?qn109 (Or.inl ⟨?dn109, ?hyn109⟩) hHeld ?restn109
                      case hin109 => (simp only [List.getElem?_toArray, List.getElem?_cons_zero]; exact rfl)
                      case an109 => kernel_rfl
                      case bn109 => kernel_rfl
                      case cn109 => kernel_rfl
                      case qn109 => exact fun _ _ _ h => h
                      case dn109 => rfl
                      case hyn109 => (intro z hSw; (try dsimp only at hSw); go_simp; (try with_reducible rfl))
                      try simp only [Act.put, List.setIfInBounds_toArray, List.set_cons_zero, List.set_cons_succ]
                      refine wpAnyH_take (i := 1) (oi := ?on110) (v := ?vn110) ?hin110 ?an110 ?bn110 ?cn110 ?qn110 (Or.inl ⟨?dn110, ?hyn110⟩) hHeld ?restn110
                      case hin110 => (simp only [List.getElem?_toArray, List.getElem?_cons_succ, List.getElem?_cons_zero]; exact rfl)
                      case an110 => kernel_rfl
                      case bn110 => kernel_rfl
                      case cn110 => kernel_rfl
                      case qn110 => exact fun _ _ _ h => h
                      case dn110 => rfl
                      case hyn110 => (intro z hSw; (try dsimp only at hSw); go_simp; (try with_reducible rfl))
                      try simp only [Act.put, List.setIfInBounds_toArray, List.set_cons_zero, List.set_cons_succ]
                      refine wpAnyH_take (i := 2) (oi := ?on111) (v := ?vn111) ?hin111 ?an111 ?bn111 ?cn111 ?qn111 (Or.inl ⟨?dn111, ?hyn111⟩) hHeld ?restn111
                      case hin111 => (simp only [List.getElem?_toArray, List.getElem?_cons_succ, List.getElem?_cons_zero]; exact rfl)
                      case an111 => kernel_rfl
                      case bn111 => kernel_rfl
                      case cn111 => kernel_rfl
                      case qn111 => exact fun _ _ _ h => h
                      case dn111 => rfl
                      case hyn111 => (intro z hSw; (try dsimp only at hSw); go_simp; (try with_reducible rfl))
                      try simp only [Act.put, List.setIfInBounds_toArray, List.set_cons_zero, List.set_cons_succ]
                      refine wpAnyH_take (i := 3) (oi := ?on112) ?hin112 ?an112 ?bn112 ?cn112 ?qn112 (Or.inr ⟨?dn112, rfl⟩) hHeld ?restn112
                      case hin112 => (simp only [List.getElem?_toArray, List.getElem?_cons_succ, List.getElem?_cons_zero]; exact rfl)
                      case an112 => kernel_rfl
                      case bn112 => kernel_rfl
                      case cn112 => kernel_rfl
                      case qn112 => exact fun _ _ _ h => h
                      case dn112 => rfl
                      try simp only [Act.put, List.setIfInBounds_toArray, List.set_cons_zero, List.set_cons_succ]
                      refine wpAnyH_take (i := 4) (oi := ?on113) ?hin113 ?an113 ?bn113 ?cn113 ?qn113 (Or.inr ⟨?dn113, rfl⟩) hHeld ?restn113
                      case hin113 => (simp only [List.getElem?_toArray, List.getElem?_cons_succ, List.getElem?_cons_zero]; exact rfl)
                      case an113 => kernel_rfl
                      case bn113 => kernel_rfl
                      case cn113 => kernel_rfl
                      case qn113 => exact fun _ _ _ h => h
                      case dn113 => rfl
                      try simp only [Act.put, List.setIfInBounds_toArray, List.set_cons_zero, List.set_cons_succ]
                      refine wpAnyH_take (i := 5) (oi := ?on114) ?hin114 ?an114 ?bn114 ?cn114 ?qn114 (Or.inr ⟨?dn114, rfl⟩) hHeld ?restn114
                      case hin114 => (simp only [List.getElem?_toArray, List.getElem?_cons_succ, List.getElem?_cons_zero]; exact rfl)
                      case an114 => kernel_rfl
                      case bn114 => kernel_rfl
                      case cn114 => kernel_rfl
                      case qn114 => exact fun _ _ _ h => h
                      case dn114 => rfl
                      try simp only [Act.put, List.setIfInBounds_toArray, List.set_cons_zero, List.set_cons_succ]
                      refine wpAnyH_take (i := 6) (oi := ?on115) ?hin115 ?an115 ?bn115 ?cn115 ?qn115 (Or.inr ⟨?dn115, rfl⟩) hHeld ?restn115
                      case hin115 => (simp only [List.getElem?_toArray, List.getElem?_cons_succ, List.getElem?_cons_zero]; exact rfl)
                      case an115 => kernel_rfl
                      case bn115 => kernel_rfl
                      case cn115 => kernel_rfl
                      case qn115 => exact fun _ _ _ h => h
                      case dn115 => rfl
                      try simp only [Act.put, List.setIfInBounds_toArray, List.set_cons_zero, List.set_cons_succ]
                      refine wpAnyH_take (i := 7) (oi := ?on116) ?hin116 ?an116 ?bn116 ?cn116 ?qn116 (Or.inr ⟨?dn116, rfl⟩) hHeld ?restn116
                      case hin116 => (simp only [List.getElem?_toArray, List.getElem?_cons_succ, List.getElem?_cons_zero]; exact rfl)
                      case an116 => kernel_rfl
                      case bn116 => kernel_rfl
                      case cn116 => kernel_rfl
                      case qn116 => exact fun _ _ _ h => h
                      case dn116 => rfl
                      try simp only [Act.put, List.setIfInBounds_toArray, List.set_cons_zero, List.set_cons_succ]
                      refine wpAnyH_take (i := 8) (oi := ?on117) ?hin117 ?an117 ?bn117 ?cn117 ?qn117 (Or.inr ⟨?dn117, rfl⟩) hHeld ?restn117
                      case hin117 => (simp only [List.getElem?_toArray, List.getElem?_cons_succ, List.getElem?_cons_zero]; exact rfl)
                      case an117 => kernel_rfl
                      case bn117 => kernel_rfl
                      case cn117 => kernel_rfl
                      case qn117 => exact fun _ _ _ h => h
                      case dn117 => rfl
                      try simp only [Act.put, List.setIfInBounds_toArray, List.set_cons_zero, List.set_cons_succ]
                      refine wpAnyH_take (i := 9) (oi := ?on118) ?hin118 ?an118 ?bn118 ?cn118 ?qn118 (Or.inr ⟨?dn118, rfl⟩) hHeld ?restn118
                      case hin118 => (simp only [List.getElem?_toArray, List.getElem?_cons_succ, List.getElem?_cons_zero]; exact rfl)
                      case an118 => kernel_rfl
                      case bn118 => kernel_rfl
                      case cn118 => kernel_rfl
                      case qn118 => exact fun _ _ _ h => h
                      case dn118 => rfl
                      try simp only [Act.put, List.setIfInBounds_toArray, List.set_cons_zero, List.set_cons_succ]
                      refine wpAnyH_take (i := 10) (oi := ?on119) ?hin119 ?an119 ?bn119 ?cn119 ?qn119 (Or.inr ⟨?dn119, rfl⟩) hHeld ?restn119
                      case hin119 => (simp only [List.getElem?_toArray, List.getElem?_cons_succ, List.getElem?_cons_zero]; exact rfl)
                      case an119 => kernel_rfl
                      case bn119 => kernel_rfl
                      case cn119 => kernel_rfl
                      case qn119 => exact fun _ _ _ h => h
                      case dn119 => rfl
                      try simp only [Act.put, List.setIfInBounds_toArray, List.set_cons_zero, List.set_cons_succ]
                      refine wpAnyH_take (i := 11) (oi := ?on120) ?hin120 ?an120 ?bn120 ?cn120 ?qn120 (Or.inr ⟨?dn120, rfl⟩) hHeld ?restn120
                      case hin120 => (simp only [List.getElem?_toArray, List.getElem?_cons_succ, List.getElem?_cons_zero]; exact rfl)
                      case an120 => kernel_rfl
                      case bn120 => kernel_rfl
                      case cn120 => kernel_rfl
                      case qn120 => exact fun _ _ _ h => h
                      case dn120 => rfl
                      try simp only [Act.put, List.setIfInBounds_toArray, List.set_cons_zero, List.set_cons_succ]
                      refine wpAnyH_take (i := 12) (oi := ?on121) ?hin121 ?an121 ?bn121 ?cn121 ?qn121 (Or.inr ⟨?dn121, rfl⟩) hHeld ?restn121
                      case hin121 => (simp only [List.getElem?_toArray, List.getElem?_cons_succ, List.getElem?_cons_zero]; exact rfl)
                      case an121 => kernel_rfl
                      case bn121 => kernel_rfl
                      case cn121 => kernel_rfl
                      case qn121 => exact fun _ _ _ h => h
                      case dn121 => rfl
                      try simp only [Act.put, List.setIfInBounds_toArray, List.set_cons_zero, List.set_cons_succ]
                      refine wpAnyH_take (i := 13) (oi := ?on122) (v := ?vn122) ?hin122 ?an122 ?bn122 ?cn122 ?qn122 (Or.inl ⟨?dn122, ?hyn122⟩) hHeld ?restn122
                      case hin122 => (simp only [List.getElem?_toArray, List.getElem?_cons_succ, List.getElem?_cons_zero]; exact rfl)
                      case an122 => kernel_rfl
                      case bn122 => kernel_rfl
                      case cn122 => kernel_rfl
                      case qn122 => exact fun _ _ _ h => h
                      case dn122 => rfl
                      case hyn122 => (intro z hSw; (try dsimp only at hSw); go_simp; (try with_reducible rfl))
                      try simp only [Act.put, List.setIfInBounds_toArray, List.set_cons_zero, List.set_cons_succ]
                      refine wpAnyH_take (i := 14) (oi := ?on123) (v := ?vn123) ?hin123 ?an123 ?bn123 ?cn123 ?qn123 (Or.inl ⟨?dn123, ?hyn123⟩) hHeld ?restn123
                      case hin123 => (simp only [List.getElem?_toArray, List.getElem?_cons_succ, List.getElem?_cons_zero]; exact rfl)
                      case an123 => kernel_rfl
                      case bn123 => kernel_rfl
                      case cn123 => kernel_rfl
                      case qn123 => exact fun _ _ _ h => h
                      case dn123 => rfl
                      case hyn123 => (intro z hSw; (try dsimp only at hSw); go_simp; (try with_reducible rfl))
                      try simp only [Act.put, List.setIfInBounds_toArray, List.set_cons_zero, List.set_cons_succ]
                      refine wpAnyH_take (i := 15) (oi := ?on124) (v := ?vn124) ?hin124 ?an124 ?bn124 ?cn124 ?qn124 (Or.inl ⟨?dn124, ?hyn124⟩) hHeld ?restn124
                      case hin124 => (simp only [List.getElem?_toArray, List.getElem?_cons_succ, List.getElem?_cons_zero]; exact rfl)
                      case an124 => kernel_rfl
                      case bn124 => kernel_rfl
                      case cn124 => kernel_rfl
                      case qn124 => exact fun _ _ _ h => h
                      case dn124 => rfl
                      case hyn124 => (intro z hSw; (try dsimp only at hSw); go_simp; (try with_reducible rfl))
                      try simp only [Act.put, List.setIfInBounds_toArray, List.set_cons_zero, List.set_cons_succ]
                      refine wpAnyH_take (i := 16) (oi := ?on125) (v := ?vn125) ?hin125 ?an125 ?bn125 ?cn125 ?qn125 (Or.inl ⟨?dn125, ?hyn125⟩) hHeld ?restn125
                      case hin125 => (simp only [List.getElem?_toArray, List.getElem?_cons_succ, List.getElem?_cons_zero]; exact rfl)
                      case an125 => kernel_rfl
                      case bn125 => kernel_rfl
                      case cn125 => kernel_rfl
                      case qn125 => exact fun _ _ _ h => h
                      case dn125 => rfl
                      case hyn125 => (intro z hSw; (try dsimp only at hSw); go_simp; (try with_reducible rfl))
                      try simp only [Act.put, List.setIfInBounds_toArray, List.set_cons_zero, List.set_cons_succ]
                      refine wpAnyH_take (i := 17) (oi := ?on126) (v := ?vn126) ?hin126 ?an126 ?bn126 ?cn126 ?qn126 (Or.inl ⟨?dn126, ?hyn126⟩) hHeld ?restn126
                      case hin126 => (simp only [List.getElem?_toArray, List.getElem?_cons_succ, List.getElem?_cons_zero]; exact rfl)
                      case an126 => kernel_rfl
                      case bn126 => kernel_rfl
                      case cn126 => kernel_rfl
                      case qn126 => exact fun _ _ _ h => h
                      case dn126 => rfl
                      case hyn126 => (intro z hSw; (try dsimp only at hSw); go_simp; (try with_reducible rfl))
                      try simp only [Act.put, List.setIfInBounds_toArray, List.set_cons_zero, List.set_cons_succ]
                      refine wpAnyH_take (i := 18) (oi := ?on127) ?hin127 ?an127 ?bn127 ?cn127 ?qn127 (Or.inr ⟨?dn127, rfl⟩) hHeld ?restn127
                      case hin127 => (simp only [List.getElem?_toArray, List.getElem?_cons_succ, List.getElem?_cons_zero]; exact rfl)
                      case an127 => kernel_rfl
                      case bn127 => kernel_rfl
                      case cn127 => kernel_rfl
                      case qn127 => exact fun _ _ _ h => h
                      case dn127 => rfl
                      try simp only [Act.put, List.setIfInBounds_toArray, List.set_cons_zero, List.set_cons_succ]
                      refine wpAnyH_take (i := 19) (oi := ?on128) ?hin128 ?an128 ?bn128 ?cn128 ?qn128 (Or.inr ⟨?dn128, rfl⟩) hHeld ?restn128
                      case hin128 => (simp only [List.getElem?_toArray, List.getElem?_cons_succ, List.getElem?_cons_zero]; exact rfl)
                      case an128 => kernel_rfl
                      case bn128 => kernel_rfl
                      case cn128 => kernel_rfl
                      case qn128 => exact fun _ _ _ h => h
                      case dn128 => rfl
                      try simp only [Act.put, List.setIfInBounds_toArray, List.set_cons_zero, List.set_cons_succ]
                      refine wpAnyH_take (i := 20) (oi := ?on129) ?hin129 ?an129 ?bn129 ?cn129 ?qn129 (Or.inr ⟨?dn129, rfl⟩) hHeld ?restn129
                      case hin129 => (simp only [List.getElem?_toArray, List.getElem?_cons_succ, List.getElem?_cons_zero]; exact rfl)
                      case an129 => kernel_rfl
                      case bn129 => kernel_rfl
                      case cn129 => kernel_rfl
                      case qn129 => exact fun _ _ _ h => h
                      case dn129 => rfl
                      try simp only [Act.put, List.setIfInBounds_toArray, List.set_cons_zero, List.set_cons_succ]
                      refine wpAnyH_take (i := 21) (oi := ?on130) ?hin130 ?an130 ?bn130 ?cn130 ?qn130 (Or.inr ⟨?dn130, rfl⟩) hHeld ?restn130
                      case hin130 => (simp only [List.getElem?_toArray, List.getElem?_cons_succ, List.getElem?_cons_zero]; exact rfl)
                      case an130 => kernel_rfl
                      case bn130 => kernel_rfl
                      case cn130 => kernel_rfl
                      case qn130 => exact fun _ _ _ h => h
                      case dn130 => rfl
                      try simp only [Act.put, List.setIfInBounds_toArray, List.set_cons_zero, List.set_cons_succ]
                      refine wpAnyH_take (i := 22) (oi := ?on131) ?hin131 ?an131 ?bn131 ?cn131 ?qn131 (Or.inr ⟨?dn131, rfl⟩) hHeld ?restn131
                      case hin131 => (simp only [List.getElem?_toArray, List.getElem?_cons_succ, List.getElem?_cons_zero]; exact rfl)
                      case an131 => kernel_rfl
                      case bn131 => kernel_rfl
                      case cn131 => kernel_rfl
                      case qn131 => exact fun _ _ _ h => h
                      case dn131 => rfl
                      try simp only [Act.put, List.setIfInBounds_toArray, List.set_cons_zero, List.set_cons_succ]
                      refine wpAnyH_take (i := 23) (oi := ?on132) ?hin132 ?an132 ?bn132 ?cn132 ?qn132 (Or.inr ⟨?dn132, rfl⟩) hHeld ?restn132
                      case hin132 => (simp only [List.getElem?_toArray, List.getElem?_cons_succ, List.getElem?_cons_zero]; exact rfl)
                      case an132 => kernel_rfl
                      case bn132 => kernel_rfl
                      case cn132 => kernel_rfl
                      case qn132 => exact fun _ _ _ h => h
                      case dn132 => rfl
                      try simp only [Act.put, List.setIfInBounds_toArray, List.set_cons_zero, List.set_cons_succ]
                      refine wpAnyH_take (i := 24) (oi := ?on133) ?hin133 ?an133 ?bn133 ?cn133 ?qn133 (Or.inr ⟨?dn133, rfl⟩) hHeld ?restn133
                      case hin133 => (simp only [List.getElem?_toArray, List.getElem?_cons_succ, List.getElem?_cons_zero]; exact rfl)
                      case an133 => kernel_rfl
                      case bn133 => kernel_rfl
                      case cn133 => kernel_rfl
                      case qn133 => exact fun _ _ _ h => h
                      case dn133 => rfl
                      try simp only [Act.put, List.setIfInBounds_toArray, List.set_cons_zero, List.set_cons_succ]
                      refine wpAnyH_take (i := 25) (oi := ?on134) (v := ?vn134) ?hin134 ?an134 ?bn134 ?cn134 ?qn134 (Or.inl ⟨?dn134, ?hyn134⟩) hHeld ?restn134
                      case hin134 => (simp only [List.getElem?_toArray, List.getElem?_cons_succ, List.getElem?_cons_zero]; exact rfl)
                      case an134 => kernel_rfl
                      case bn134 => kernel_rfl
                      case cn134 => kernel_rfl
                      case qn134 => exact fun _ _ _ h => h
                      case dn134 => rfl
                      case hyn134 => (intro z hSw; (try dsimp only at hSw); go_simp; (try with_reducible rfl))
                      try simp only [Act.put, List.setIfInBounds_toArray, List.set_cons_zero, List.set_cons_succ]
                      refine wpAnyH_take (i := 26) (oi := ?on135) (v := ?vn135) ?hin135 ?an135 ?bn135 ?cn135 ?qn135 (Or.inl ⟨?dn135, ?hyn135⟩) hHeld ?restn135
                      case hin135 => (simp only [List.getElem?_toArray, List.getElem?_cons_succ, List.getElem?_cons_zero]; exact rfl)
                      case an135 => kernel_rfl
                      case bn135 => kernel_rfl
                      case cn135 => kernel_rfl
                      case qn135 => exact fun _ _ _ h => h
                      case dn135 => rfl
                      case hyn135 => (intro z hSw; (try dsimp only at hSw); go_simp; (try with_reducible rfl))
                      try simp only [Act.put, List.setIfInBounds_toArray, List.set_cons_zero, List.set_cons_succ]
                      refine wpAnyH_take (i := 27) (oi := ?on136) ?hin136 ?an136 ?bn136 ?cn136 ?qn136 (Or.inr ⟨?dn136, rfl⟩) hHeld ?restn136
                      case hin136 => (simp only [List.getElem?_toArray, List.getElem?_cons_succ, List.getElem?_cons_zero]; exact rfl)
                      case an136 => kernel_rfl
                      case bn136 => kernel_rfl
                      case cn136 => kernel_rfl
                      case qn136 => exact fun _ _ _ h => h
                      case dn136 => rfl
                      try simp only [Act.put, List.setIfInBounds_toArray, List.set_cons_zero, List.set_cons_succ]
                      refine wpAnyH_take (i := 28) (oi := ?on137) ?hin137 ?an137 ?bn137 ?cn137 ?qn137 (Or.inr ⟨?dn137, rfl⟩) hHeld ?restn137
                      case hin137 => (simp only [List.getElem?_toArray, List.getElem?_cons_succ, List.getElem?_cons_zero]; exact rfl)
                      case an137 => kernel_rfl
                      case bn137 => kernel_rfl
                      case cn137 => kernel_rfl
                      case qn137 => exact fun _ _ _ h => h
                      case dn137 => rfl
                      try simp only [Act.put, List.setIfInBounds_toArray, List.set_cons_zero, List.set_cons_succ]
                      refine wpAnyH_take (i := 29) (oi := ?on138) ?hin138 ?an138 ?bn138 ?cn138 ?qn138 (Or.inr ⟨?dn138, rfl⟩) hHeld ?restn138
                      case hin138 => (simp only [List.getElem?_toArray, List.getElem?_cons_succ, List.getElem?_cons_zero]; exact rfl)
                      case an138 => kernel_rfl
                      case bn138 => kernel_rfl
                      case cn138 => kernel_rfl
                      case qn138 => exact fun _ _ _ h => h
                      case dn138 => rfl
                      try simp only [Act.put, List.setIfInBounds_toArray, List.set_cons_zero, List.set_cons_succ]
                      refine wpAnyH_take (i := 30) (oi := ?on139) ?hin139 ?an139 ?bn139 ?cn139 ?qn139 (Or.inr ⟨?dn139, rfl⟩) hHeld ?restn139
                      case hin139 => (simp only [List.getElem?_toArray, List.getElem?_cons_succ, List.getElem?_cons_zero]; exact rfl)
                      case an139 => kernel_rfl
                      case bn139 => kernel_rfl
                      case cn139 => kernel_rfl
                      case qn139 => exact fun _ _ _ h => h
                      case dn139 => rfl
                      try simp only [Act.put, List.setIfInBounds_toArray, List.set_cons_zero, List.set_cons_succ]
                      refine wpAnyH_take (i := 31) (oi := ?on140) ?hin140 ?an140 ?bn140 ?cn140 ?qn140 (Or.inr ⟨?dn140, rfl⟩) hHeld ?restn140
                      case hin140 => (simp only [List.getElem?_toArray, List.getElem?_cons_succ, List.getElem?_cons_zero]; exact rfl)
                      case an140 => kernel_rfl
                      case bn140 => kernel_rfl
                      case cn140 => kernel_rfl
                      case qn140 => exact fun _ _ _ h => h
                      case dn140 => rfl
                      try simp only [Act.put, List.setIfInBounds_toArray, List.set_cons_zero, List.set_cons_succ]
                      refine wpAnyH_take (i := 32) (oi := ?on141) ?hin141 ?an141 ?bn141 ?cn141 ?qn141 (Or.inr ⟨?dn141, rfl⟩) hHeld ?restn141
                      case hin141 => (simp only [List.getElem?_toArray, List.getElem?_cons_succ, List.getElem?_cons_zero]; exact rfl)
                      case an141 => kernel_rfl
                      case bn141 => kernel_rfl
                      case cn141 => kernel_rfl
                      case qn141 => exact fun _ _ _ h => h
                      case dn141 => rfl
                      try simp only [Act.put, List.setIfInBounds_toArray, List.set_cons_zero, List.set_cons_succ]
                      refine wpAnyH_take (i := 33) (oi := ?on142) ?hin142 ?an142 ?bn142 ?cn142 ?qn142 (Or.inr ⟨?dn142, rfl⟩) hHeld ?restn142
                      case hin142 => (simp only [List.getElem?_toArray, List.getElem?_cons_succ, List.getElem?_cons_zero]; exact rfl)
                      case an142 => kernel_rfl
                      case bn142 => kernel_rfl
                      case cn142 => kernel_rfl
                      case qn142 => exact fun _ _ _ h => h
                      case dn142 => rfl
                      try simp only [Act.put, List.setIfInBounds_toArray, List.set_cons_zero, List.set_cons_succ]
                      refine wpAnyH_take (i := 34) (oi := ?on143) (v := ?vn143) ?hin143 ?an143 ?bn143 ?cn143 ?qn143 (Or.inl ⟨?dn143, ?hyn143⟩) hHeld ?restn143
                      case hin143 => (simp only [List.getElem?_toArray, List.getElem?_cons_succ, List.getElem?_cons_zero]; exact rfl)
                      case an143 => kernel_rfl
                      case bn143 => kernel_rfl
                      case cn143 => kernel_rfl
                      case qn143 => exact fun _ _ _ h => h
                      case dn143 => rfl
                      case hyn143 => (intro z hSw; (try dsimp only at hSw); go_simp; (try with_reducible rfl))
                      try simp only [Act.put, List.setIfInBounds_toArray, List.set_cons_zero, List.set_cons_succ]
                      refine wpAnyH_take (i := 35) (oi := ?on144) (v := ?vn144) ?hin144 ?an144 ?bn144 ?cn144 ?qn144 (Or.inl ⟨?dn144, ?hyn144⟩) hHeld ?restn144
                      case hin144 => (simp only [List.getElem?_toArray, List.getElem?_cons_succ, List.getElem?_cons_zero]; exact rfl)
                      case an144 => kernel_rfl
                      case bn144 => kernel_rfl
                      case cn144 => kernel_rfl
                      case qn144 => exact fun _ _ _ h => h
                      case dn144 => rfl
                      case hyn144 => (intro z hSw; (try dsimp only at hSw); go_simp; (try with_reducible rfl))
                      try simp only [Act.put, List.setIfInBounds_toArray, List.set_cons_zero, List.set_cons_succ]
                      refine wpAnyH_done (by kernel_rfl) ?_ _
                      go_wp2_with fail
                      go_roundw
                      case rel => exact ⟨q + 1, by omega, by go_num, hZd⟩
                      case measure => simp [intOf]; omega
                  · obtain rfl : q = n := by omega
                    go_wp2_with fail
                    go_roundw
                    case rel => exact ⟨k + 1, by omega, by go_num, hZ, hks⟩
                    case measure => simp [intOf]; omega
        · obtain rfl : k = n := by omega
          have hs := Lib.hid (hS.out (allB_of HK.out))
          go_wp2_with fail
          go_roundw
          case rel => exact ⟨j + 1, by omega, by go_num, hY, hs⟩
          case measure => simp [intOf]; omega
    · obtain rfl : j = n := by omega
      have hv := Lib.hid (HZ.out HJ.out)
      go_wp2_with fail
      go_ret
      exact ⟨by rw [hv.out]; rfl, HG.out.trans hB⟩
end Go.Proofs.YtpfncncohnhanaaGreatDoor

/- Posets and valuations of the reference: l16Is, l17Is, IsValuation. -/
namespace Go.Proofs.YtpfncncohnhanaaGreatDoor
open Go.RowKit
set_option maxHeartbeats 2000000 in
theorem all_up {A : List Nat} {V : List Int} (h : V.all (upB A) = true) : mks A.length V = true := by
  unfold mks
  rw [List.all_eq_true] at h ⊢
  intro x hx
  have := h x hx
  unfold upB at this
  rw [Bool.and_eq_true] at this
  exact this.1
end Go.Proofs.YtpfncncohnhanaaGreatDoor

/- isFormula of the program, at any list. -/
namespace Go.Proofs.YtpfncncohnhanaaGreatDoor
open Go.RowKit
open Fm (Nd Tree)

theorem isVariable_c (k : Int) (w : World) : Calls Tryz.prog 118 #[.int .i64 k] w fun e w' => e = .returned (.bool (decide (0 ≤ k ∧ k ≤ 5))) ∧ Grew w w' := by
  have HR := Lib.hid (inRange_c k 0 5 w)
  generalize decide (0 ≤ k ∧ k ≤ 5) = R at *
  go_enter Tryz.func118, Tryz.ntmps118
  go_wp2_with fail
  refine HR.out.mono ?_
  rintro e w1 ⟨rfl, hg1⟩
  go_wp2_with fail
  go_ret
  exact ⟨rfl, hg1⟩

/-- Is it a node? -/
def nodeB (a b : Int) : Bool := if a == 0 then decide (0 ≤ b ∧ b ≤ 5) else decide (1 ≤ a ∧ a ≤ 6) && b == 0

theorem isNode_c (a b : Int) (w : World) : Calls Tryz.prog 72 #[.agg #[.int .i64 a, .int .i64 b]] w fun e w' => e = .returned (.bool (nodeB a b)) ∧ Grew w w' := by
  unfold nodeB
  cases h0 : (a == 0) with
  | true =>
    rw [if_pos rfl]
    go_enter Tryz.func72, Tryz.ntmps72
    go_wp2_with fail
    refine (isVariable_c _ _).mono ?_
    rintro e w1 ⟨rfl, hg1⟩
    go_wp2_with fail
    go_ret
    exact ⟨by simp, Grew.of_alloc hg1⟩
  | false =>
    rw [if_neg (by simp)]
    have HR := fun w => inRange_c a 1 6 w
    generalize decide (1 ≤ a ∧ a ≤ 6) = R at *
    cases R with
    | true =>
      replace HR := Lib.hid HR
      go_enter Tryz.func72, Tryz.ntmps72
      go_wp2_with fail
      refine (HR.out _).mono ?_
      rintro e w1 ⟨rfl, hg1⟩
      have k1 : w1.cell? ⟨w.heap.size, 1, none⟩ = some (.int .i64 b) := (hg1.cell (by simp)).trans (by simp)
      go_wp2_with fail
      go_ret
      exact ⟨by simp, Grew.of_alloc hg1⟩
    | false =>
      replace HR := Lib.hid HR
      go_enter Tryz.func72, Tryz.ntmps72
      go_wp2_with fail
      refine (HR.out _).mono ?_
      rintro e w1 ⟨rfl, hg1⟩
      go_wp2_with fail
      go_ret
      exact ⟨by simp, Grew.of_alloc hg1⟩

def noNode (a b : Int) : Bool := !nodeB a b
theorem isFormula1_ok : PredOk 71 noNode := by
  intro a b w
  unfold noNode
  have HR := Lib.hid (fun w => isNode_c a b w)
  generalize nodeB a b = R at *
  go_enter Tryz.func71, Tryz.ntmps71
  go_wp2_with fail
  refine (HR.out _).mono ?_
  rintro e w1 ⟨rfl, hg1⟩
  go_wp2_with fail
  go_ret
  exact ⟨rfl, Grew.of_alloc hg1⟩

theorem enc_nodes (t : Tree) : ∀ n ∈ Fm.enc t, nodeB n.1 n.2 = true := by
  induction t with
  | var v =>
    intro n hn
    simp only [Fm.enc, List.mem_singleton] at hn
    subst hn
    have := v.isLt
    simp [nodeB]
    omega
  | fls =>
    intro n hn
    simp only [Fm.enc, List.mem_singleton] at hn
    subst hn
    rfl
  | and x y hx hy =>
    intro n hn
    simp only [Fm.enc, List.mem_cons, List.mem_append] at hn
    rcases hn with rfl | hn | hn
    · rfl
    · exact hx n hn
    · exact hy n hn
  | or x y hx hy =>
    intro n hn
    simp only [Fm.enc, List.mem_cons, List.mem_append] at hn
    rcases hn with rfl | hn | hn
    · rfl
    · exact hx n hn
    · exact hy n hn
  | imp x y hx hy =>
    intro n hn
    simp only [Fm.enc, List.mem_cons, List.mem_append] at hn
    rcases hn with rfl | hn | hn
    · rfl
    · exact hx n hn
    · exact hy n hn
  | box x hx =>
    intro n hn
    simp only [Fm.enc, List.mem_cons] at hn
    rcases hn with rfl | hn
    · rfl
    · exact hx n hn
  | dia x hx =>
    intro n hn
    simp only [Fm.enc, List.mem_cons] at hn
    rcases hn with rfl | hn
    · rfl
    · exact hx n hn
theorem enc_noNode (t : Tree) : anyP noNode (Fm.enc t) = false := by
  apply anyP_no
  intro i hi
  have h := enc_nodes t (Fm.enc t)[i] (List.getElem_mem hi)
  have h1 : kd (Fm.enc t) i = (Fm.enc t)[i].1 := by simp [kd, List.getD, hi]
  have h2 : sy (Fm.enc t) i = (Fm.enc t)[i].2 := by simp [sy, List.getD, hi]
  rw [noNode, h1, h2, h]
  rfl
theorem at_all (t : Tree) : At (Fm.enc t) 0 t := ⟨[], by simp⟩


/-- Is the list a formula's? -/
noncomputable def fmB (xs : List Nd) : Bool := decide (1 ≤ xs.length ∧ xs.length ≤ 40) && !anyP noNode xs && (pend xs 0 == (xs.length : Int))

theorem isFormula_g (v : Value) (xs : List Nd) (w : World) (h : Nodes w v xs) (hn : xs.length ≤ 1099511627776) :
    Calls Tryz.prog 33 #[v] w fun e w' => e = .returned (.bool (fmB xs)) ∧ Grew w w' := by
  have HC := Lib.hid (fun w h => containsFunc_c v xs _ _ w h hn isFormula1_ok (enters_of Tryz.func71 (by kernel_rfl) rfl))
  have HP := Lib.hid (fun w h => partEnd_c v xs 0 w h hn (by omega))
  obtain ⟨A, c, rfl⟩ := nodes_slice h
  have HN := Lib.hid h
  clear h
  unfold fmB
  generalize pend xs 0 = p at *
  generalize anyP noNode xs = q at *
  generalize hL : xs.length = n at *
  clear hL
  by_cases h1 : 1 ≤ n
  · by_cases h2 : n ≤ 40
    · rw [decide_eq_true (⟨h1, h2⟩ : 1 ≤ n ∧ n ≤ 40), Bool.true_and]
      cases q with
      | true =>
        go_enter Tryz.func33, Tryz.ntmps33
        go_wp2_with fail
        refine (HC.out _ HN.out).mono ?_
        rintro e w1 ⟨rfl, hg1⟩
        go_wp2_with fail
        go_ret
        exact ⟨by simp, hg1⟩
      | false =>
        go_enter Tryz.func33, Tryz.ntmps33
        go_wp2_with fail
        refine (HC.out _ HN.out).mono ?_
        rintro e w1 ⟨rfl, hg1⟩
        go_wp2_with fail
        refine (HP.out _ (HN.out.grew hg1)).mono ?_
        rintro e w2 ⟨rfl, hg2⟩
        go_wp2_with fail
        go_ret
        exact ⟨by simp, hg1.trans hg2⟩
    · rw [decide_eq_false (fun h : 1 ≤ n ∧ n ≤ 40 => h2 h.2), Bool.false_and, Bool.false_and]
      go_enter Tryz.func33, Tryz.ntmps33
      go_wp2_with fail
      go_ret
      exact ⟨rfl, Grew.refl _⟩
  · rw [decide_eq_false (fun h : 1 ≤ n ∧ n ≤ 40 => h1 h.1), Bool.false_and, Bool.false_and]
    go_enter Tryz.func33, Tryz.ntmps33
    go_wp2_with fail
    go_ret
    exact ⟨rfl, Grew.refl _⟩
end Go.Proofs.YtpfncncohnhanaaGreatDoor

/- l02Is of the reference, at any list. -/
namespace Go.Proofs.YtpfncncohnhanaaGreatDoor
open Go.RowKit
open Fm (Nd Tree)

theorem nodeB_bad1 {a b : Int} (h : decide (0 ≤ a ∧ a ≤ 6) = false) : nodeB a b = false := by
  unfold nodeB
  have h' := of_decide_eq_false h
  rw [if_neg (by simp; omega), decide_eq_false (by omega)]
  rfl
theorem nodeB_bad2 {a b : Int} (h : decide (0 ≤ b ∧ b ≤ 5) = false) : nodeB a b = false := by
  unfold nodeB
  have h' := of_decide_eq_false h
  split
  · exact h
  · have : (b == 0) = false := by simp; omega
    rw [this, Bool.and_false]
theorem nodeB_bad3 {a b : Int} (h0 : (a != 0) = true) (h1 : (b != 0) = true) : nodeB a b = false := by
  unfold nodeB
  simp at h0 h1
  rw [if_neg (by simpa using h0)]
  simp [h1]
theorem nodeB_ok {a b : Int} (h1 : decide (0 ≤ a ∧ a ≤ 6) = true) (h2 : decide (0 ≤ b ∧ b ≤ 5) = true) (h : (a != 0) = false ∨ (b != 0) = false) : nodeB a b = true := by
  unfold nodeB
  have h1' := of_decide_eq_true h1
  split
  · exact h2
  · rename_i hne
    rcases h with h | h
    · simp at h; simp [h] at hne
    · simp at h
      subst h
      have : a ≠ 0 := by simpa using hne
      simp; omega

theorem l02Tree_c (v : Value) (xs : List Nd) (w : World) (h : Nodes w v xs) (hn : xs.length ≤ 1099511627776) :
    Calls Tryz.prog 64 #[v] w fun e w' => e = .returned (.bool (decide (1 ≤ xs.length) && !anyP noNode xs && (pend xs 0 == (xs.length : Int)))) ∧ Grew w w' := by
  rcases h.open_ with ⟨rfl, rfl⟩ | ⟨b, o, c, rfl, hc, hm, hb, hcell⟩
  · clear h
    go_enter Tryz.func64, Tryz.ntmps64
    go_wp2_with fail
    refine wp_loop_rounds 1 ?_; rw [rounds_succ]
    go_wp2_with fail
    go_ret
    exact ⟨rfl, Grew.refl _⟩
  obtain ⟨R, hR⟩ : ∃ R, R = anyP noNode xs := ⟨_, rfl⟩
  rw [← hR]
  have HA := Lib.hid (fun k hk h => hR.trans (@anyP_at noNode xs k hk h))
  have HZ := Lib.hid (fun h => hR.trans (@anyP_no noNode xs h))
  have HP := Lib.hid (fun W (hW : Grew w W) => l02Part_c _ xs 0 W (h.grew hW) hn (by omega))
  have HC := Lib.hid hcell
  clear hcell h hR
  generalize pend xs 0 = p at *
  generalize hN : xs.length = n at *
  clear hN
  go_enter Tryz.func64, Tryz.ntmps64
  go_wp2_with fail
  go_loopw [3] (fun i wr => ∃ j : Nat, j ≤ n ∧ i = .int .i64 j ∧ Grew w wr ∧ Hid (NoneP noNode xs j)) (fun i _ => n - (intOf i).toNat)
  case atStart => exact ⟨0, Nat.zero_le _, rfl, Grew.refl _, NoneP.zero _ _⟩
  case round =>
    obtain ⟨j, hj, rfl, hB, HJ⟩ := hrel
    by_cases hlt : j < n
    · have k1 : ∀ W, Grew w W → W.cell? ⟨b, o + j * 2, none⟩ = some (.int .i64 (kd xs j)) := fun W hW => (HC.out j hlt W hW).1
      have k2 : ∀ W, Grew w W → W.cell? ⟨b, o + j * 2 + 1, none⟩ = some (.int .i64 (sy xs j)) := fun W hW => (HC.out j hlt W hW).2
      have hA : Hid (nodeB (kd xs j) (sy xs j) = false → R = true) := Lib.hid (fun h => HA.out j hlt (by rw [noNode, h]; rfl))
      have hS : Hid (nodeB (kd xs j) (sy xs j) = true → NoneP noNode xs (j + 1)) := Lib.hid (fun h => HJ.out.succ (k := j) (by rw [noNode, h]; rfl))
      generalize kd xs j = x at *
      generalize sy xs j = y at *
      have I1 := fun w => l01In_c x 0 6 w
      have I2 := fun w => l01In_c y 0 5 w
      have hd : ∀ W, Grew w W → Grew w W.drew := fun W h => h.drew
      cases d1 : decide (0 ≤ x ∧ x ≤ 6) with
      | false =>
        have hv := Lib.hid (hA.out (nodeB_bad1 d1))
        rw [d1] at I1
        replace I1 := Lib.hid I1
        replace I2 := Lib.hid I2
        clear d1
        go_wp2_with fail
        refine (I1.out _).mono ?_
        rintro e w1 ⟨rfl, hg1⟩
        have hB1 := hB.trans hg1
        go_wp2_with fail
        go_ret
        rw [hv.out]
        exact ⟨by simp, hB1⟩
      | true =>
        rw [d1] at I1
        replace I1 := Lib.hid I1
        cases d2 : decide (0 ≤ y ∧ y ≤ 5) with
        | false =>
          have hv := Lib.hid (hA.out (nodeB_bad2 d2))
          rw [d2] at I2
          replace I2 := Lib.hid I2
          clear d1 d2
          go_wp2_with fail
          refine (I1.out _).mono ?_
          rintro e w1 ⟨rfl, hg1⟩
          have hB1 := hB.trans hg1
          go_wp2_with fail
          refine (I2.out _).mono ?_
          rintro e w2 ⟨rfl, hg2⟩
          have hB2 := hB1.trans hg2
          go_wp2_with fail
          go_ret
          rw [hv.out]
          exact ⟨by simp, hB2⟩
        | true =>
          rw [d2] at I2
          replace I2 := Lib.hid I2
          cases d3 : (x != 0) with
          | false =>
            have hs := Lib.hid (hS.out (nodeB_ok d1 d2 (.inl d3)))
            clear d1 d2
            go_wp2_with fail
            refine (I1.out _).mono ?_
            rintro e w1 ⟨rfl, hg1⟩
            have hB1 := hB.trans hg1
            go_wp2_with fail
            refine (I2.out _).mono ?_
            rintro e w2 ⟨rfl, hg2⟩
            have hB2 := hB1.trans hg2
            go_wp2_with fail
            go_roundw
            case rel => exact ⟨j + 1, by omega, by go_num, hB2, hs⟩
            case measure => simp [intOf]; omega
          | true =>
            cases d4 : (y != 0) with
            | true =>
              have hv := Lib.hid (hA.out (nodeB_bad3 d3 d4))
              clear d1 d2
              go_wp2_with fail
              refine (I1.out _).mono ?_
              rintro e w1 ⟨rfl, hg1⟩
              have hB1 := hB.trans hg1
              go_wp2_with fail
              refine (I2.out _).mono ?_
              rintro e w2 ⟨rfl, hg2⟩
              have hB2 := hB1.trans hg2
              go_wp2_with fail
              go_ret
              rw [hv.out]
              exact ⟨by simp, hB2⟩
            | false =>
              have hs := Lib.hid (hS.out (nodeB_ok d1 d2 (.inr d4)))
              clear d1 d2
              go_wp2_with fail
              refine (I1.out _).mono ?_
              rintro e w1 ⟨rfl, hg1⟩
              have hB1 := hB.trans hg1
              go_wp2_with fail
              refine (I2.out _).mono ?_
              rintro e w2 ⟨rfl, hg2⟩
              have hB2 := hB1.trans hg2
              go_wp2_with fail
              go_roundw
              case rel => exact ⟨j + 1, by omega, by go_num, hB2, hs⟩
              case measure => simp [intOf]; omega
    · obtain rfl : j = n := by omega
      have hv := Lib.hid (HZ.out HJ.out)
      by_cases hz : 0 < j
      · have hz1 : decide (1 ≤ j) = true := by simp; omega
        go_wp2_with fail
        refine (HP.out _ hB).mono ?_
        rintro e w1 ⟨rfl, hg1⟩
        go_wp2_with fail
        go_ret
        rw [hv.out]
        exact ⟨by rw [hz1]; simp, hB.trans hg1⟩
      · have hz1 : decide (1 ≤ j) = false := by simp; omega
        go_wp2_with fail
        go_ret
        rw [hv.out, hz1]
        exact ⟨by simp, hB⟩

theorem l02Is_c (v : Value) (xs : List Nd) (w : World) (h : Nodes w v xs) (hn : xs.length ≤ 1099511627776) :
    Calls Tryz.prog 26 #[v] w fun e w' => e = .returned (.bool (fmB xs)) ∧ Grew w w' := by
  have HT := fun W (hW : Grew w W) => l02Tree_c v xs W (h.grew hW) hn
  obtain ⟨A, c, rfl⟩ := nodes_slice h
  clear h
  unfold fmB
  generalize pend xs 0 = p at *
  generalize anyP noNode xs = q at *
  generalize hL : xs.length = n at *
  clear hL
  by_cases h2 : n ≤ 40
  · rw [show decide (1 ≤ n ∧ n ≤ 40) = decide (1 ≤ n) from by simp [h2]]
    generalize (decide (1 ≤ n) && !q && (p == (n : Int))) = r at *
    replace HT := Lib.hid HT
    go_enter Tryz.func26, Tryz.ntmps26
    go_wp2_with fail
    refine (HT.out _ (Grew.refl _)).mono ?_
    rintro e w1 ⟨rfl, hg1⟩
    go_wp2_with fail
    go_ret
    exact ⟨rfl, hg1⟩
  · rw [show decide (1 ≤ n ∧ n ≤ 40) = false from by simp [h2], Bool.false_and, Bool.false_and]
    replace HT := Lib.hid HT
    go_enter Tryz.func26, Tryz.ntmps26
    go_wp2_with fail
    go_ret
    exact ⟨rfl, Grew.refl _⟩
end Go.Proofs.YtpfncncohnhanaaGreatDoor

/- A list of good nodes that a scan reads whole is the list of a formula's tree. No program is in sight. -/
namespace Go.Proofs.YtpfncncohnhanaaGreatDoor
open Go.RowKit
open Fm (Nd Tree)

theorem nodeB_cases {x : Nd} (h : nodeB x.1 x.2 = true) : (∃ v : Fin 6, x = (0, (v.val : Int))) ∨ x = (1, 0) ∨ x = (2, 0) ∨ x = (3, 0) ∨ x = (4, 0) ∨ x = (5, 0) ∨ x = (6, 0) := by
  obtain ⟨a, b⟩ := x
  unfold nodeB at h
  simp only at h
  split at h
  · rename_i h0
    have ha : a = 0 := by simpa using h0
    have hb := of_decide_eq_true h
    left
    refine ⟨⟨b.toNat, by omega⟩, ?_⟩
    rw [ha]
    congr 1
    simp; omega
  · simp only [Bool.and_eq_true, decide_eq_true_eq, beq_iff_eq] at h
    obtain ⟨⟨h1, h2⟩, rfl⟩ := h
    right
    obtain rfl | rfl | rfl | rfl | rfl | rfl : a = 1 ∨ a = 2 ∨ a = 3 ∨ a = 4 ∨ a = 5 ∨ a = 6 := by omega
    all_goals simp

theorem fm_trees : ∀ (xs : List Nd) (o n : Nat), Fm.scan xs o = some n → (∀ x ∈ xs, nodeB x.1 x.2 = true) → ∃ (ts : List Tree) (rest : List Nd), ts.length = o ∧ xs = ts.flatMap Fm.enc ++ rest ∧ n = (ts.flatMap Fm.enc).length := by
  intro xs
  induction xs with
  | nil =>
    intro o n h _
    cases o with
    | zero => simp [Fm.scan_zero] at h; exact ⟨[], [], rfl, rfl, by simp [h]⟩
    | succ o => simp [Fm.scan_nil] at h
  | cons x xs ih =>
    intro o n h hp
    cases o with
    | zero => simp [Fm.scan_zero] at h; exact ⟨[], x :: xs, rfl, by simp, by simp [h]⟩
    | succ o =>
      rw [Fm.scan_cons] at h
      cases hs : Fm.scan xs (o + Fm.arity x.1) with
      | none => rw [hs] at h; simp at h
      | some m =>
        rw [hs] at h
        simp only [Option.map_some, Option.some.injEq] at h
        obtain ⟨ts, rest, h1, h2, h3⟩ := ih _ _ hs (fun y hy => hp y (by simp [hy]))
        have two : ∀ (f : Tree → Tree → Tree), (∀ a b, Fm.enc (f a b) = x :: (Fm.enc a ++ Fm.enc b)) → Fm.arity x.1 = 2 → ∃ (ts : List Tree) (rest : List Nd), ts.length = o + 1 ∧ x :: xs = ts.flatMap Fm.enc ++ rest ∧ n = (ts.flatMap Fm.enc).length := by
          intro f hf ha
          rw [ha] at h1
          match ts, h1, h2, h3 with
          | a :: b :: ts, h1, h2, h3 =>
            refine ⟨f a b :: ts, rest, by simp at h1; simp [h1], by simp [hf, h2], ?_⟩
            rw [← h, h3]
            simp only [List.flatMap_cons, hf, List.length_append, List.length_cons]
            omega
          | [_], h1, _, _ => simp at h1
        have one : ∀ (f : Tree → Tree), (∀ a, Fm.enc (f a) = x :: Fm.enc a) → Fm.arity x.1 = 1 → ∃ (ts : List Tree) (rest : List Nd), ts.length = o + 1 ∧ x :: xs = ts.flatMap Fm.enc ++ rest ∧ n = (ts.flatMap Fm.enc).length := by
          intro f hf ha
          rw [ha] at h1
          match ts, h1, h2, h3 with
          | a :: ts, h1, h2, h3 =>
            refine ⟨f a :: ts, rest, by simp at h1; simp [h1], by simp [hf, h2], ?_⟩
            rw [← h, h3]
            simp only [List.flatMap_cons, hf, List.length_append, List.length_cons]
            omega
        have zero : ∀ (f : Tree), Fm.enc f = [x] → Fm.arity x.1 = 0 → ∃ (ts : List Tree) (rest : List Nd), ts.length = o + 1 ∧ x :: xs = ts.flatMap Fm.enc ++ rest ∧ n = (ts.flatMap Fm.enc).length := by
          intro f hf ha
          rw [ha] at h1
          refine ⟨f :: ts, rest, by simp [h1], by simp [hf, h2], ?_⟩
          rw [← h, h3]
          simp only [List.flatMap_cons, hf, List.length_append, List.length_cons, List.length_nil]
          omega
        rcases nodeB_cases (hp x (by simp)) with ⟨v, rfl⟩ | rfl | rfl | rfl | rfl | rfl | rfl
        · exact zero (.var v) rfl rfl
        · exact zero .fls rfl rfl
        · exact two .and (fun _ _ => rfl) rfl
        · exact two .or (fun _ _ => rfl) rfl
        · exact two .imp (fun _ _ => rfl) rfl
        · exact one .box (fun _ => rfl) rfl
        · exact one .dia (fun _ => rfl) rfl

/-- A list that is a formula's is the list of a tree. -/
theorem fmB_tree {xs : List Nd} (h : fmB xs = true) : ∃ t, xs = Fm.enc t ∧ xs.length ≤ 40 := by
  unfold fmB at h
  simp only [Bool.and_eq_true, decide_eq_true_eq, Bool.not_eq_true', beq_iff_eq] at h
  obtain ⟨⟨⟨h1, h2⟩, h3⟩, h4⟩ := h
  have hall : ∀ x ∈ xs, nodeB x.1 x.2 = true := by
    intro x hx
    obtain ⟨i, hi, rfl⟩ := List.getElem_of_mem hx
    cases hb : nodeB (xs[i]).1 (xs[i]).2 with
    | true => rfl
    | false =>
      rw [kd_lt hi] at hb
      have := anyP_at (p := noNode) hi (by rw [noNode, hb]; rfl)
      rw [this] at h3
      cases h3
  have hs : Fm.scan xs 1 = some xs.length := by
    unfold pend at h4
    rw [List.drop_zero] at h4
    cases hz : Fm.scan xs 1 with
    | none => rw [hz] at h4; simp only [pval] at h4; omega
    | some n => rw [hz] at h4; simp only [pval] at h4; congr 1; omega
  obtain ⟨ts, rest, e1, e2, e3⟩ := fm_trees xs 1 _ hs hall
  match ts, e1 with
  | [t], _ =>
    refine ⟨t, ?_, h2⟩
    have hl := congrArg List.length e2
    rw [List.length_append] at hl
    have : rest = [] := List.eq_nil_of_length_eq_zero (by omega)
    rw [this] at e2
    simpa using e2
end Go.Proofs.YtpfncncohnhanaaGreatDoor

/- FnMonotone: ForcedSet of both sides, UpsetOf, UpsetsOf, MembersOf, PartOfValuation (printed by gen/mna.py). -/
namespace Go.Proofs.YtpfncncohnhanaaGreatDoor
open Go.RowKit
open Fm (Nd Tree)

/-- The error of a poset, a valuation and a formula. -/
noncomputable def fcF (sz : Int) (L V : List Int) (xs : List Nd) : Int := if valB sz L V && fmB xs then (if anyP isBD xs then 5 else 0) else 1
/-- The value of a formula, or 0. -/
noncomputable def fsF (sz : Int) (L V : List Int) (xs : List Nd) : Int :=
  @dite _ (fcF sz L V xs = 0 ∧ ∃ t, xs = Fm.enc t) (Classical.propDecidable _) (fun h => ((fv (nats L) (nats V) (Classical.choose h.2) : Nat) : Int)) (fun _ => 0)
theorem fc_zero {sz : Int} {L V : List Int} {xs : List Nd} (h : fcF sz L V xs = 0) : valB sz L V = true ∧ ∃ t, xs = Fm.enc t ∧ FmOk t := by
  unfold fcF at h
  split at h
  · rename_i hq
    simp only [Bool.and_eq_true] at hq
    split at h
    · cases h
    · rename_i hp
      obtain ⟨t, h1, h2⟩ := fmB_tree hq.2
      exact ⟨hq.1, t, h1, by rw [← h1]; exact h2, by rw [← h1]; simpa using hp⟩
  · cases h
theorem fmB_enc0 {t : Tree} (h : FmOk t) : fmB (Fm.enc t) = true := by
  have hp := Fm.enc_pos t
  unfold fmB
  rw [enc_noNode, decide_eq_true ⟨hp, h.1⟩]
  have e : pend (Fm.enc t) 0 = ((Fm.enc t).length : Int) := by
    unfold pend
    rw [List.drop_zero]
    have := Fm.scan_one t []
    rw [List.append_nil] at this
    rw [this]
    simp [pval]
  rw [e]
  simp
theorem fs_ok {sz : Int} {L V : List Int} {t : Tree} (hv : valB sz L V = true) (ht : FmOk t) : fsF sz L V (Fm.enc t) = ((fv (nats L) (nats V) t : Nat) : Int) := by
  have h0 : fcF sz L V (Fm.enc t) = 0 := by
    unfold fcF
    rw [hv, fmB_enc0 ht, ht.2]
    rfl
  unfold fsF
  rw [dif_pos ⟨h0, t, rfl⟩]
  have h : ∃ s, Fm.enc t = Fm.enc s := ⟨t, rfl⟩
  have e : Classical.choose h = t := enc_inj (Classical.choose_spec h).symm
  show ((fv (nats L) (nats V) (Classical.choose h) : Nat) : Int) = _
  rw [e]
theorem fs_bad {sz : Int} {L V : List Int} {xs : List Nd} (h : ¬ fcF sz L V xs = 0) : fsF sz L V xs = 0 := by
  unfold fsF
  rw [dif_neg (fun k => h k.1)]
theorem mn_val {sz : Int} {L V : List Int} (h : valB sz L V = true) : sz = (L.length : Int) ∧ zs (nats L) = L ∧ Rl (nats L) ∧ zs (nats V) = V ∧ (nats V).length = 6 ∧ ∀ m ∈ nats V, m < 2 ^ (nats L).length := by
  obtain ⟨h1, h2, h3⟩ := val_ok h
  obtain ⟨rfl, h5, h6, h7, h8, _⟩ := posB_ok h1
  have hm := all_mks h3
  have hV := nats_ok hm
  exact ⟨rfl, h7, h6, hV.1, by rw [nats_len]; exact h2, hV.2⟩
end Go.Proofs.YtpfncncohnhanaaGreatDoor

/- FnMonotone: the upsets of a poset (upsets, UpsetsOf, UpsetOf, posetCode, maskCode, MembersOf, hasInt). -/
namespace Go.Proofs.YtpfncncohnhanaaGreatDoor
open Go.RowKit
open Fm (Nd Tree)

/-- The upsets below k. -/
def upK (A : List Nat) (k : Nat) : List Nat := (List.range k).filter fun m => upB A (m : Int)
theorem upK_yes {A : List Nat} {k : Nat} (h : upB A (k : Int) = true) : upK A (k + 1) = upK A k ++ [k] := by
  unfold upK; rw [List.range_succ, List.filter_append]; simp [h]
theorem upK_no {A : List Nat} {k : Nat} (h : upB A (k : Int) = false) : upK A (k + 1) = upK A k := by
  unfold upK; rw [List.range_succ, List.filter_append]; simp [h]
theorem upK_len (A : List Nat) (k : Nat) : (upK A k).length ≤ k := by
  have := List.length_filter_le (fun m => upB A ((m : Nat) : Int)) (List.range k)
  rw [List.length_range] at this
  exact this
theorem upK_mem {A : List Nat} {k m : Nat} (h : m ∈ upK A k) : m < k ∧ upB A (m : Int) = true := by
  unfold upK at h
  rw [List.mem_filter, List.mem_range] at h
  exact h
theorem mk_yes {n m : Nat} (h : m < 2 ^ n) : mk n (m : Int) = true := by
  unfold mk
  rw [decide_eq_true_eq]
  omega
theorem zs_snoc (L : List Nat) (k : Nat) : zs (L ++ [k]) = zs L ++ [(k : Int)] := by simp [zs]

end Go.Proofs.YtpfncncohnhanaaGreatDoor

/- The program's search for a valuation that refutes a formula on a poset: variablesIn of one formula, valuations, unforced, isValid. -/
namespace Go.Proofs.YtpfncncohnhanaaGreatDoor
open Go.RowKit
open Fm (Nd Tree)
attribute [local go_sem] Oper.semAt_some

theorem variablesIn_one_c (b : Nat) (va : Value) (xs : List Nd) (w : World) (hc : w.cell? ⟨b, 0, none⟩ = some va) (hb : b < w.heap.size) (h : Nodes w va xs) (hv : Vs xs) (hn : xs.length ≤ 1048576) :
    Calls Tryz.prog 35 #[.slice (some ⟨b, 0, none⟩) 1 1] w (GivesI w (zs (mbs (vm xs)))) := by
  have HM := Lib.hid (fun W (hW : Grew w W) => variableMask_c va xs W (h.grew hW) hv hn)
  have hlt := vmK_lt hv xs.length (Nat.le_refl _)
  have hsm : vm xs < 1073741824 := by
    have : (2 : Nat) ^ 6 = 64 := rfl
    unfold vm
    omega
  have HB := Lib.hid (membersOf_c (vm xs) hsm)
  have hor : bits .or .i64 0 ((vm xs : Nat) : Int) = ((vm xs : Nat) : Int) := by
    have h0 := or_i64 0 (vm xs) (by omega) (by omega)
    rw [Nat.zero_or] at h0
    exact h0
  obtain ⟨A, c, rfl⟩ := nodes_slice h
  clear h hv hn hlt
  generalize vm xs = m at *
  generalize xs.length = n at *
  go_enter Tryz.func35, Tryz.ntmps35
  go_wp2_with fail
  go_loopw [3, 8] (fun q i wr => ∃ j : Nat, j ≤ 1 ∧ i = .int .i64 j ∧ q = .int .i64 ((if j = 0 then 0 else m : Nat) : Int) ∧ Grew w wr) (fun _ i _ => 1 - (intOf i).toNat)
  case atStart => exact ⟨0, by omega, rfl, rfl, Grew.refl _⟩
  case round =>
    obtain ⟨j, hj, rfl, rfl, hB⟩ := hrel
    by_cases hlt : j = 0
    · subst hlt
      have hc1 := (hB.cell (p := ⟨b, 0, none⟩) hb).trans hc
      have hM := Lib.hid (HM.out _ hB)
      rw [if_pos rfl]
      go_wp2_with fail
      refine hM.out.mono ?_
      rintro e w1 ⟨rfl, hg1⟩
      go_wp2_with fail
      go_roundw
      case rel => exact ⟨1, by omega, rfl, rfl, hB.trans hg1⟩
      case measure => simp [intOf]
    · obtain rfl : j = 1 := by omega
      rw [if_neg (by omega)]
      go_wp2_with fail
      refine (HB.out _).mono ?_
      rintro e w2 ⟨v2, rfl, hO2, hg2⟩
      go_wp2_with fail
      go_ret
      exact ⟨_, rfl, hO2.base hB.size, hB.trans hg2⟩

theorem alloc5 (w wa : World) (o1 o2 o3 o4 o5 : Obj) (h : wa = ((((w.alloc o1).alloc o2).alloc o3).alloc o4).alloc o5) : Grew w wa ∧ wa.heap.size = w.heap.size + 5 ∧ wa.heap[w.heap.size]? = some o1 ∧ wa.heap[w.heap.size + 1]? = some o2 ∧ wa.heap[w.heap.size + 1 + 1]? = some o3 ∧ wa.heap[w.heap.size + 1 + 1 + 1]? = some o4 ∧ wa.heap[w.heap.size + 1 + 1 + 1 + 1]? = some o5 := by
  obtain ⟨wb, hwb⟩ : ∃ wb, wb = (((w.alloc o1).alloc o2).alloc o3).alloc o4 := ⟨_, rfl⟩
  obtain ⟨hg, hs, b1, b2, b3, b4⟩ := alloc4 _ _ _ _ _ _ hwb
  rw [← hwb] at h
  subst h
  have g5 := (Grew.refl wb).alloc o5
  have b5 := blk_new wb o5
  rw [hs] at b5
  exact ⟨hg.trans g5, by simp [hs], (g5.block (by omega)).trans b1, (g5.block (by omega)).trans b2, (g5.block (by omega)).trans b3, (g5.block (by omega)).trans b4, b5⟩

theorem blk_ltO {w : World} {k : Nat} {o : Obj} (h : w.heap[k]? = some o) : k < w.heap.size := (Array.getElem?_eq_some_iff.1 h).1
theorem loadVar_one {P : Program} (w : World) (g : Nat) (t ty : TypeId) (v : Value) (d : TypeDesc) (hg : w.heap[g]? = some (.cells #[v] t (0, 0))) (hu : P.underlying ty = some d) (hd : (match d with | .struct _ | .array _ _ => true | _ => false) = false) :
    (loadVar ty ⟨g, 0, none⟩).run P w = .ok v w := by
  have hagg : (isAgg ty).run P w = .ok false w := by
    unfold isAgg
    rw [Sem.run_bind, run_underlying hu w]
    cases d <;> simp_all
  have hc : w.cell? ⟨g, 0, none⟩ = some v := by rw [blk_cell hg]; rfl
  simp [loadVar, Sem.run_bind, hagg, hc]
theorem results_cell3 {P : Program} {fn : Func} {p q r : Tmp} {t1 t2 t3 : TypeId} (h : fn.results = #[.cell p t1, .cell q t2, .cell r t3]) (tmps : Array Value) (w : World) (a b c : Addr) (v1 v2 v3 : Value)
    (hp : tmps.getD p undef = .pointer (some a)) (hq : tmps.getD q undef = .pointer (some b)) (hr : tmps.getD r undef = .pointer (some c))
    (l1 : (loadVar t1 a).run P w = .ok v1 w) (l2 : (loadVar t2 b).run P w = .ok v2 w) (l3 : (loadVar t3 c).run P w = .ok v3 w) : (results fn tmps).run P w = .ok (.tuple #[v1, v2, v3]) w := by
  have hp' : tmps[p]?.getD undef = .pointer (some a) := by simpa using hp
  have hq' : tmps[q]?.getD undef = .pointer (some b) := by simpa using hq
  have hr' : tmps[r]?.getD undef = .pointer (some c) := by simpa using hr
  simp [results, h, hp', hq', hr', asAddr, l1, l2, l3]
theorem mbs_length6 {m n : Nat} (hm : m < 2 ^ n) (hn : n ≤ 30) : (mbs m).length ≤ n := by
  have e : mbs m = mb m n := mb_top hm 30 hn
  rw [e]
  exact mb_len m n

/-- Some valuation of the variables does not force the formula everywhere. -/
def badV (A U vars : List Nat) (t : Tree) : Bool := (fs U vars (lf fun _ => 0)).any fun x => !(fv A x t == full A.length)

end Go.Proofs.YtpfncncohnhanaaGreatDoor

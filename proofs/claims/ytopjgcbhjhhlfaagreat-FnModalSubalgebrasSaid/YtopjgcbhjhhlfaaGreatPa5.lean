/- Texts in one file: AlR AlS AlV Rng RfV FvV RfI FvI AlW FvS AmH AmI From BigW AmJ OwnV FitS Hold ListsI Above Side Lists All JoinAll StrLaw Modal ModalB SF Dc PutP Put IdxC Vt AppStr Pt S12 SayL Say InsO Knw. -/
import Derived.RangeFuncNested
import Derived.RangeFuncBound
import Derived.RangeFuncCalls
import Derived.RangeFuncLeaves
import Derived.Shelf.Abstract
import Derived.Shelf.RegionOpen
import Derived.WalkKit
import Derived.OwnWalkIn
import Derived.TacticsInMore
import Derived.LoopNIn
import Derived.LoopIn
import Derived.Laws.EntriesVeiled
import Derived.Deep.Cut
import Derived.Deep.RegionHeld3
import Derived.StillTailTactics
import Derived.BigRegion
import Derived.Deep.LoopGhost
import Derived.Deep.QuietTactic
import Derived.BigQuiet
import Derived.WalkSpells
import Derived.WalkLawsBesides
import Derived.Outline
import Derived.OwnWalk
import Derived.Deep.OwnRows
import Derived.Shelf.Sort.Plain
import Derived.Shelf.Slices.CompactS
import Derived.Shelf.Slices.In.SortNone
import Derived.Test.YtopjgcbhjhhlfaaGreatProg
import Derived.Lib.OwnBridge
import Derived.Lib.RowBridge
import Derived.Sort.OwnSorted
import Derived.Lib.SlicesS
import Derived.Lib.SliceRun
import Derived.Test.YtopjgcbhjhhlfaaGreatPa1
import Derived.Test.YtopjgcbhjhhlfaaGreatPa2
import Derived.Test.YtopjgcbhjhhlfaaGreatPa3
import Derived.Test.YtopjgcbhjhhlfaaGreatPa4
set_option linter.all false

/- The frame of a modal algebra, plain: the algebra is that of its frame; validity in a subalgebra. -/
namespace Go.Proofs.YtopjgcbhjhhlfaaGreat
open Go.RowKit
open Fm (Tree)

def mkM (n : Nat) (p : Nat → Bool) : Nat := bx ((List.range n).map fun v => if p v then 0 else 1) 0
theorem mkM_bit {n : Nat} {p : Nat → Bool} {v : Nat} : (mkM n p).testBit v = true ↔ v < n ∧ p v = true := by
  unfold mkM
  rw [bx_bit]
  have hl : ((List.range n).map fun v => if p v then 0 else 1).length = n := by simp
  rw [hl]
  constructor
  · rintro ⟨h1, h2⟩
    refine ⟨h1, ?_⟩
    cases hp : p v with
    | true => rfl
    | false =>
      have := h2 0 (by simp [nt, List.getD, h1, hp])
      simp at this
  · rintro ⟨h1, h2⟩
    refine ⟨h1, fun z hz => ?_⟩
    simp [nt, List.getD, h1, h2] at hz
theorem mkM_lt (n : Nat) (p : Nat → Bool) : mkM n p < 2 ^ n := by
  have := bx_lt ((List.range n).map fun v => if p v then 0 else 1) 0
  have hl : ((List.range n).map fun v => if p v then 0 else 1).length = n := by simp
  rw [hl] at this
  exact this
def frm (n : Nat) (B : List Nat) : List Nat := (List.range n).map fun w => mkM n fun v => !(nt B (cpl n (2 ^ v))).testBit w
theorem frm_len (n : Nat) (B : List Nat) : (frm n B).length = n := by simp [frm]
theorem frm_rl {n : Nat} (B : List Nat) (hn : n ≤ 5) : Rl (frm n B) := ⟨by rw [frm_len]; omega, fun m hm => by
  unfold frm at hm
  obtain ⟨w, _, rfl⟩ := List.mem_map.1 hm
  rw [frm_len]
  exact mkM_lt _ _⟩
theorem frm_bit {n w v : Nat} {B : List Nat} (hw : w < n) : (nt (frm n B) w).testBit v = true ↔ v < n ∧ (nt B (cpl n (2 ^ v))).testBit w = false := by
  have : nt (frm n B) w = mkM n fun v => !(nt B (cpl n (2 ^ v))).testBit w := by simp [frm, nt, List.getD, hw]
  rw [this, mkM_bit, Bool.not_eq_true']
theorem bx_frm {n : Nat} {B : List Nat} (hA : Alg n B) {x : Nat} (hx : x < 2 ^ n) : bx (frm n B) x = nt B x := by
  have hbx := bx_lt (frm n B) x
  rw [frm_len] at hbx
  refine Nat.eq_of_testBit_eq fun w => ?_
  rw [Bool.eq_iff_iff, bx_bit, frm_len]
  constructor
  · rintro ⟨hw, hz⟩
    have key : ∀ k, k ≤ n → (nt B (x ||| cpl n (2 ^ k - 1))).testBit w = true := by
      intro k
      induction k with
      | zero =>
        intro _
        have e : x ||| cpl n (2 ^ 0 - 1) = full n := Nat.eq_of_testBit_eq fun i => by
          rw [Nat.testBit_or, cpl_bit, full_bit]
          by_cases hi : i < n
          · simp [hi]
          · cases hb : x.testBit i with
            | false => simp [hi]
            | true => exact absurd (lt_bit hx hb) hi
        rw [e, hA.top, full_bit]
        exact decide_eq_true hw
      | succ k ih =>
        intro hk
        have h1 := ih (by omega)
        have hyl : x ||| cpl n (2 ^ k - 1) < 2 ^ n := Nat.or_lt_two_pow hx (cpl_lt _ _)
        cases hxk : x.testBit k with
        | true =>
          have e : x ||| cpl n (2 ^ (k + 1) - 1) = x ||| cpl n (2 ^ k - 1) := Nat.eq_of_testBit_eq fun i => by
            rw [Nat.testBit_or, Nat.testBit_or, cpl_bit, cpl_bit, Nat.testBit_two_pow_sub_one, Nat.testBit_two_pow_sub_one]
            by_cases hi : i = k
            · subst hi; simp [hxk]
            · have : (i < k + 1) = (i < k) := by rw [eq_iff_iff]; omega
              simp [this]
          rw [e]
          exact h1
        | false =>
          have e : x ||| cpl n (2 ^ (k + 1) - 1) = (x ||| cpl n (2 ^ k - 1)) &&& cpl n (2 ^ k) := Nat.eq_of_testBit_eq fun i => by
            rw [Nat.testBit_or, Nat.testBit_and, Nat.testBit_or, cpl_bit, cpl_bit, cpl_bit, Nat.testBit_two_pow_sub_one, Nat.testBit_two_pow_sub_one, Nat.testBit_two_pow]
            by_cases hi : i = k
            · subst hi; simp [hxk]
            · have h2 : (i < k + 1) = (i < k) := by rw [eq_iff_iff]; omega
              have h3 : decide (k = i) = false := decide_eq_false (fun e => hi e.symm)
              rw [h3]
              cases hb : x.testBit i with
              | true => simp [lt_bit hx hb]
              | false => by_cases hin : i < n <;> simp [h2, hin]
          have h4 : (nt B (cpl n (2 ^ k))).testBit w = true := by
            cases h5 : (nt B (cpl n (2 ^ k))).testBit w with
            | true => rfl
            | false =>
              have := hz k ((frm_bit hw).2 ⟨by omega, h5⟩)
              rw [hxk] at this
              cases this
          rw [e, hA.meet _ _ hyl (cpl_lt _ _), Nat.testBit_and, h1, h4]
          rfl
    have h9 := key n (Nat.le_refl _)
    have e : x ||| cpl n (2 ^ n - 1) = x := Nat.eq_of_testBit_eq fun i => by
      rw [Nat.testBit_or, cpl_bit, Nat.testBit_two_pow_sub_one]
      by_cases hi : i < n <;> simp [hi]
    rwa [e] at h9
  · intro hw
    have hwn := lt_bit (hA.nt_lt hx) hw
    refine ⟨hwn, fun v hv => ?_⟩
    obtain ⟨hvn, h1⟩ := (frm_bit hwn).1 hv
    cases hxv : x.testBit v with
    | true => rfl
    | false =>
      have e : x &&& cpl n (2 ^ v) = x := Nat.eq_of_testBit_eq fun i => by
        rw [Nat.testBit_and, cpl_bit, Nat.testBit_two_pow]
        cases hb : x.testBit i with
        | false => rfl
        | true =>
          have : ¬ v = i := by rintro rfl; rw [hxv] at hb; cases hb
          simp [lt_bit hx hb, this]
      rw [← e, hA.meet _ _ hx (cpl_lt _ _), Nat.testBit_and, h1] at hw
      simp at hw
theorem mv_frm {n : Nat} {B V : List Nat} (hA : Alg n B) (hV : ∀ v ∈ V, v < 2 ^ n) : ∀ t : Tree, mv (frm n B) V t = av n B V t
  | .var v => rfl
  | .fls => rfl
  | .and a b => by show mv _ V a &&& mv _ V b = _; rw [mv_frm hA hV a, mv_frm hA hV b]; rfl
  | .or a b => by show mv _ V a ||| mv _ V b = _; rw [mv_frm hA hV a, mv_frm hA hV b]; rfl
  | .imp a b => by show dif (full (frm n B).length) (mv _ V a) ||| mv _ V b = _; rw [mv_frm hA hV a, mv_frm hA hV b, frm_len]; rfl
  | .box a => by show bx (frm n B) (mv _ V a) = _; rw [mv_frm hA hV a, bx_frm hA (av_lt hA hV a)]; rfl
  | .dia a => by
    show dif (full (frm n B).length) (bx (frm n B) (dif (full (frm n B).length) (mv _ V a))) = _
    rw [mv_frm hA hV a, frm_len]
    show cpl n (bx (frm n B) (cpl n (av n B V a))) = cpl n (nt B (cpl n (av n B V a)))
    rw [bx_frm hA (cpl_lt _ _)]
theorem av_ext {n : Nat} {B V W : List Nat} : ∀ {t : Tree}, (∀ v, hasV v t → nt V v = nt W v) → av n B V t = av n B W t
  | .var v, h => h v.val rfl
  | .fls, _ => rfl
  | .and a b, h => by show _ &&& _ = _ &&& _; rw [av_ext (t := a) fun v hv => h v (.inl hv), av_ext (t := b) fun v hv => h v (.inr hv)]
  | .or a b, h => by show _ ||| _ = _ ||| _; rw [av_ext (t := a) fun v hv => h v (.inl hv), av_ext (t := b) fun v hv => h v (.inr hv)]
  | .imp a b, h => by show cpl n _ ||| _ = cpl n _ ||| _; rw [av_ext (t := a) fun v hv => h v (.inl hv), av_ext (t := b) fun v hv => h v (.inr hv)]
  | .box a, h => by show nt B _ = nt B _; rw [av_ext (t := a) h]
  | .dia a, h => by show cpl n (nt B (cpl n _)) = cpl n (nt B (cpl n _)); rw [av_ext (t := a) h]
end Go.Proofs.YtopjgcbhjhhlfaaGreat


/- The frame of an algebra, in the program. -/
namespace Go.Proofs.YtopjgcbhjhhlfaaGreat
open Go.RowKit

def rv (n : Nat) (B : List Nat) (w : Nat) : Nat → Nat
  | 0 => 0
  | j + 1 => if (nt B (cpl n (2 ^ j))).testBit w then rv n B w j else rv n B w j ||| 2 ^ j
theorem rv_bit (n : Nat) (B : List Nat) (w : Nat) : ∀ j v, (rv n B w j).testBit v = (decide (v < j) && !(nt B (cpl n (2 ^ v))).testBit w)
  | 0, v => by unfold rv; simp
  | j + 1, v => by
    unfold rv
    have ih := rv_bit n B w j v
    by_cases hv : v = j
    · subst hv
      cases h : (nt B (cpl n (2 ^ v))).testBit w with
      | true => simp [ih, h]
      | false => simp [ih]
    · have h1 : decide (v < j + 1) = decide (v < j) := decide_eq_decide.2 (by omega)
      rw [h1]
      split
      · exact ih
      · rw [Nat.testBit_or, ih, Nat.testBit_two_pow]
        simp [Ne.symm hv]
theorem rv_lt (n : Nat) (B : List Nat) (w j : Nat) : rv n B w j < 2 ^ j := by
  refine Nat.lt_pow_two_of_testBit _ fun v hv => ?_
  rw [rv_bit, decide_eq_false (by omega)]
  rfl
theorem rv_frm {n w : Nat} (B : List Nat) (hw : w < n) : rv n B w n = nt (frm n B) w := by
  refine Nat.eq_of_testBit_eq fun v => ?_
  rw [rv_bit]
  have h := frm_bit (B := B) (v := v) hw
  cases h2 : (nt (frm n B) w).testBit v with
  | true =>
    obtain ⟨h3, h4⟩ := h.1 h2
    rw [decide_eq_true h3, h4]; rfl
  | false =>
    by_cases h3 : v < n
    · cases h4 : (nt B (cpl n (2 ^ v))).testBit w with
      | true => simp
      | false => rw [h.2 ⟨h3, h4⟩] at h2; cases h2
    · rw [decide_eq_false h3]; rfl
theorem frm_rv (n : Nat) (B : List Nat) : (List.range n).map (fun w => rv n B w n) = frm n B := by
  refine List.ext_getElem (by simp [frm_len]) fun i h1 h2 => ?_
  have hi : i < n := by simpa using h1
  rw [List.getElem_map, List.getElem_range, rv_frm B hi]
  simp [nt, List.getD, frm_len, hi]
def rq (n : Nat) (B : List Nat) (v w q : Nat) : Nat := if q < w then rv n B q (v + 1) else rv n B q v
theorem NRow.congr9 {w : World} {g n c : Nat} {f f' : Nat → Nat} (h : NRow w g n c f) (hf : ∀ i, i < n → f i = f' i) : NRow w g n c f' := by
  obtain ⟨cur, h1, h2, h3, h4, h5⟩ := h
  exact ⟨cur, h1, h2, h3, h4, fun i hi => by rw [← hf i hi]; exact h5 i hi⟩
theorem rq_zero (n : Nat) (B : List Nat) (v q : Nat) : rq n B v 0 q = rv n B q v := by unfold rq; rw [if_neg (by omega)]
theorem rq_full {n v q : Nat} (B : List Nat) (hq : q < n) : rq n B v n q = rv n B q (v + 1) := by unfold rq; rw [if_pos hq]
theorem rq_at (n : Nat) (B : List Nat) (v u : Nat) : rq n B v u u = rv n B u v := by unfold rq; rw [if_neg (by omega)]
theorem rq_no {n v u : Nat} {B : List Nat} (h : (nt B (cpl n (2 ^ v))).testBit u = true) (q : Nat) : rq n B v (u + 1) q = rq n B v u q := by
  unfold rq
  rcases Nat.lt_trichotomy q u with hq | hq | hq
  · rw [if_pos (by omega), if_pos hq]
  · subst hq; rw [if_pos (by omega), if_neg (by omega)]; unfold rv; rw [if_pos h]; cases v <;> rfl
  · rw [if_neg (by omega), if_neg (by omega)]
theorem rq_yes {n v u : Nat} {B : List Nat} (h : (nt B (cpl n (2 ^ v))).testBit u = false) : rq n B v (u + 1) u = rv n B u v ||| 2 ^ v := by
  unfold rq
  rw [if_pos (by omega)]
  show (if (nt B (cpl n (2 ^ v))).testBit u then rv n B u v else rv n B u v ||| 2 ^ v) = _
  rw [if_neg (by rw [h]; simp)]
theorem rq_else {n v u q : Nat} (B : List Nat) (hq : q ≠ u) : rq n B v (u + 1) q = rq n B v u q := by
  unfold rq
  rcases Nat.lt_or_ge q u with h | h
  · rw [if_pos (by omega), if_pos h]
  · rw [if_neg (by omega), if_neg (by omega)]
set_option maxHeartbeats 4000000 in
set_option maxRecDepth 20000 in
theorem algFrame_c (n : Nat) (v : Value) (B : List Nat) (w : World) (h : Ints w v (zs B)) (hA : Alg n B) :
    Calls Tryz.prog 48 #[.agg #[.int .i64 (n : Int), v]] w fun e w' => ∃ u, e = .returned (.agg #[.int .i64 (n : Int), u]) ∧ Ints w' u (zs (frm n B)) ∧ Grew w w' := by
  have hinfo := info2F
  have hn5 := hA.le
  have hP32 : 2 ^ n ≤ 32 := Nat.le_trans (Nat.pow_le_pow_right (by omega) hn5) (by decide)
  have hmk : ∀ W : World, (Instr.makeSlice 24 (.int .i64 (n : Int)) (.int .i64 (n : Int))).run Tryz.prog W = .ok (.slice (some ⟨W.heap.size, 0, none⟩) n n) (W.alloc (.cells (madeCells #[Value.int .i64 0] n) 2)) := fun W => by have := run_make_rows (P := Tryz.prog) 24 2 (.int .i64 0) 1 8 #[.int .i64 0] Tryz.underlying24 Tryz.infoI rfl .i64 .i64 n (by omega) (by omega) W; rwa [Nat.mul_one] at this
  have hvs : ∃ A m c, v = .slice A m c := by obtain ⟨a, c, e⟩ := ints_slice h; exact ⟨_, _, _, e⟩
  have KF := Lib.hid (fun W => alFull_c n v W hvs (by omega))
  have hfn := full_lt n
  have HPW := Lib.hid (fun j (hj : j < n) => wrap_pow (k := j) (by omega))
  have HPL := Lib.hid (fun j (hj : j < n) => (show 2 ^ j ≤ 32 from Nat.le_trans (Nat.pow_le_pow_right (by omega) (show j ≤ 5 by omega)) (by decide)))
  have HAN := Lib.hid (fun (x : Nat) (hx : x ≤ 32) => show bits .andNot .i64 ((full n : Nat) : Int) (x : Int) = ((cpl n x : Nat) : Int) from andNot_i64 (full n) x (by omega) (by omega))
  have HCL := Lib.hid (fun x => cpl_lt n x)
  have HBL := Lib.hid (fun x (hx : x < 2 ^ n) => (show nt B x < 32 from Nat.lt_of_lt_of_le (hA.nt_lt hx) hP32))
  have HHS := Lib.hid (fun m i (hm : m < 32) (hi : i < n) W => has_c m i (by omega) (by omega) W)
  have HRV := Lib.hid (fun q j (hj : j ≤ n) => Nat.lt_of_lt_of_le (rv_lt n B q j) (Nat.le_trans (Nat.pow_le_pow_right (by omega) hj) hP32))
  have HFR := Lib.hid (frm_rv n B)
  have HFO := Lib.hid (fun u W (hu : Ints W u (zs (frm n B))) => frameOf_c u (zs (frm n B)) W hu)
  rw [zs_len, frm_len] at HFO
  have hlB := hA.len
  rcases h.open_ with ⟨_, hnil⟩ | ⟨bv, ov, cv, rfl, hcv, hmv, hbv, hfv⟩
  · rw [← List.length_eq_zero_iff, zs_len, hlB] at hnil; have : 0 < 2 ^ n := Nat.pow_pos (by omega); omega
  have HFV := Lib.hid (fun k (hk : k < 2 ^ n) W (hW : Grew w W) => show W.cell? ⟨bv, ov + k, none⟩ = some (.int .i64 ((nt B k : Nat) : Int)) from by rw [hfv k (by rw [zs_len, hlB]; exact hk) W hW, zs_it (by rw [hlB]; exact hk)])
  rw [zs_len, hlB] at *
  have hal := (Grew.refl w).alloc (.cells #[.int .i64 (n : Int), .slice (some ⟨bv, ov, none⟩) (2 ^ n) cv] 26)
  have HB0 := Lib.hid (hal.alloc (.cells #[.int .i64 0, .slice none 0 0] 76))
  have y0 : ∀ W, Grew ((w.alloc (.cells #[.int .i64 (n : Int), .slice (some ⟨bv, ov, none⟩) (2 ^ n) cv] 26)).alloc (.cells #[.int .i64 0, .slice none 0 0] 76)) W → W.heap[w.heap.size]? = some (.cells #[.int .i64 (n : Int), .slice (some ⟨bv, ov, none⟩) (2 ^ n) cv] 26 (0, 0)) :=
    fun W hW => ((((Grew.refl (w.alloc (.cells #[.int .i64 (n : Int), .slice (some ⟨bv, ov, none⟩) (2 ^ n) cv] 26))).alloc (.cells #[.int .i64 0, .slice none 0 0] 76)).trans hW).block (by simp)).trans (blk_new w _)
  have y1 : ∀ W, Grew ((w.alloc (.cells #[.int .i64 (n : Int), .slice (some ⟨bv, ov, none⟩) (2 ^ n) cv] 26)).alloc (.cells #[.int .i64 0, .slice none 0 0] 76)) W → W.heap[w.heap.size + 1]? = some (.cells #[.int .i64 0, .slice none 0 0] 76 (0, 0)) :=
    fun W hW => (hW.block (by simp)).trans (by
      have h := blk_new (w.alloc (.cells #[.int .i64 (n : Int), .slice (some ⟨bv, ov, none⟩) (2 ^ n) cv] 26)) (.cells #[.int .i64 0, .slice none 0 0] 76)
      have e : (w.alloc (.cells #[.int .i64 (n : Int), .slice (some ⟨bv, ov, none⟩) (2 ^ n) cv] 26)).heap.size = w.heap.size + 1 := by simp
      rwa [e] at h)
  have hs : ((w.alloc (.cells #[.int .i64 (n : Int), .slice (some ⟨bv, ov, none⟩) (2 ^ n) cv] 26)).alloc (.cells #[.int .i64 0, .slice none 0 0] 76)).heap.size = w.heap.size + 2 := by simp
  obtain ⟨w1, hw1⟩ : ∃ w1, w1 = (w.alloc (.cells #[.int .i64 (n : Int), .slice (some ⟨bv, ov, none⟩) (2 ^ n) cv] 26)).alloc (.cells #[.int .i64 0, .slice none 0 0] 76) := ⟨_, rfl⟩
  rw [← hw1] at y0 y1 HB0 hs
  have c0 : ∀ W, Grew w1 W → W.cell? ⟨w.heap.size, 0, none⟩ = some (.int .i64 (n : Int)) := fun W hW => by rw [blk_cell (y0 W hW)]; rfl
  have c1 : ∀ W, Grew w1 W → W.cell? ⟨w.heap.size, 1, none⟩ = some (.slice (some ⟨bv, ov, none⟩) (2 ^ n) cv) := fun W hW => by rw [blk_cell (y0 W hW)]; rfl
  have Y1 := Lib.hid y1
  have hN0 : NRow (w1.alloc (.cells (madeCells #[Value.int .i64 0] n) 2)) w1.heap.size n n (fun q => rv n B q 0) := ⟨_, blk_new w1 _, size_madeCells _ _, Nat.le_refl _, by omega, fun i hi => made_z hi⟩
  rw [show w1.heap.size = w.heap.size + 1 + 1 by omega] at hN0
  have HN0 := Lib.hid hN0
  have HSZ := Lib.hid (show w1.heap.size ≤ w.heap.size + 1 + 1 by omega)
  clear h hA hlB hcv hmv hbv hfv hal y0 y1 hvs hN0 hfn
  have HNO := Lib.hid (fun v u h q => rq_no (n := n) (v := v) (u := u) (B := B) h q)
  have HYE := Lib.hid (fun v u h => rq_yes (n := n) (v := v) (u := u) (B := B) h)
  generalize full n = Fu at *
  generalize cpl n = cp at *
  generalize (2 : Nat) ^ n = P at *
  have d0 := c0 _ (Grew.refl w1)
  go_enter Tryz.func48, Tryz.ntmps48
  go_wp2_with fail
  simp only [← hw1]
  clear hw1
  have dm := c0 _ ((Grew.refl w1).alloc (.cells (madeCells #[Value.int .i64 0] n) 2))
  go_wp2_with fail
  go_loopw [11] (fun i wr => ∃ j : Nat, j ≤ n ∧ i = .int .i64 (j : Int) ∧ Grew w1 wr ∧ NRow wr (w.heap.size + 1 + 1) n n (fun q => rv n B q j)) (fun i _ => n - (intOf i).toNat)
  case atStart => exact ⟨0, by omega, rfl, (Grew.refl w1).alloc _, HN0.out⟩
  case round =>
    obtain ⟨j, hj, rfl, hB, hN⟩ := hrel
    by_cases hlt : j < n
    · have e0 := c0 _ hB
      have hpw := HPW.out j hlt
      have hpw2 : IntKind.i64.wrap (2 ^ j) = ((2 ^ j : Nat) : Int) := by rw [IntKind.wrap_i64, show ((2 : Int) ^ j) = ((2 ^ j : Nat) : Int) from by simp]; have := HPL.out j hlt; have := Nat.two_pow_pos j; omega
      have hpl := HPL.out j hlt
      have han := HAN.out _ hpl
      have hcl := HCL.out (2 ^ j)
      have hbl := HBL.out _ hcl
      have z1 : (0 : Int) ≤ ((cp (2 ^ j) : Nat) : Int) := Int.natCast_nonneg _
      have z2 : ((cp (2 ^ j) : Nat) : Int) < (P : Int) := Int.ofNat_lt.2 hcl
      have hpi := fun W (hW : Grew w1 W) => HFV.out _ hcl W (HB0.out.trans hW)
      have HHJ := Lib.hid (fun u (hu : u < n) W => HHS.out _ u hbl hu W)
      have HNOJ := Lib.hid (fun u h q => HNO.out j u h q)
      have HYEJ := Lib.hid (fun u h => HYE.out j u h)
      have HNN := Lib.hid (hN.congr9 (fun q _ => (rq_zero n B j q).symm))
      clear hN
      generalize (2 : Nat) ^ j = pj at *
      generalize cp pj = ck at *
      generalize nt B ck = m at *
      go_wp2_with fail
      go_loopw [16] (fun i wr => ∃ u : Nat, u ≤ n ∧ i = .int .i64 (u : Int) ∧ Grew w1 wr ∧ NRow wr (w.heap.size + 1 + 1) n n (fun q => rq n B j u q)) (fun i _ => n - (intOf i).toNat)
      case atStart => exact ⟨0, by omega, rfl, hB, HNN.out⟩
      case round =>
        obtain ⟨u, hu, rfl, hB2, hN⟩ := hrel
        clear HNN e0
        by_cases hlu : u < n
        · have HN := Lib.hid hN
          have HH := Lib.hid (HHJ.out u hlu)
          have hru := HRV.out u j (by omega)
          clear hN
          go_upto_region 8 with fail
          have hBd := hB2.drew
          refine wp_region_held_drew (S := fun w' => Grew w1 w') (by kernel_rfl) hBd (fun hHeld => ?_)
          refine wpAnyH_take (i := 0) (oi := ?on1) (v := ?vn1) ?hin1 ?an1 ?bn1 ?cn1 ?qn1 (Or.inl ⟨?dn1, ?hyn1⟩) hHeld ?restn1
          case hin1 => (simp only [List.getElem?_toArray, List.getElem?_cons_zero]; exact rfl)
          case an1 => kernel_rfl
          case bn1 => kernel_rfl
          case cn1 => kernel_rfl
          case qn1 => exact fun _ _ _ h => h
          case dn1 => rfl
          case hyn1 => (intro z hSw; (try dsimp only at hSw); go_simp; (try with_reducible rfl))
          try simp only [Act.put, List.setIfInBounds_toArray, List.set_cons_zero, List.set_cons_succ]
          refine wpAnyH_take (i := 1) (oi := ?on2) (v := ?vn2) ?hin2 ?an2 ?bn2 ?cn2 ?qn2 (Or.inl ⟨?dn2, ?hyn2⟩) hHeld ?restn2
          case hin2 => (simp only [List.getElem?_toArray, List.getElem?_cons_succ, List.getElem?_cons_zero]; exact rfl)
          case an2 => kernel_rfl
          case bn2 => kernel_rfl
          case cn2 => kernel_rfl
          case qn2 => exact fun _ _ _ h => h
          case dn2 => rfl
          case hyn2 => (intro z hSw; (try dsimp only at hSw); go_simp; (try with_reducible rfl))
          try simp only [Act.put, List.setIfInBounds_toArray, List.set_cons_zero, List.set_cons_succ]
          refine wpAnyH_take (i := 2) (oi := ?on3) (v := ?vn3) ?hin3 ?an3 ?bn3 ?cn3 ?qn3 (Or.inl ⟨?dn3, ?hyn3⟩) hHeld ?restn3
          case hin3 => (simp only [List.getElem?_toArray, List.getElem?_cons_succ, List.getElem?_cons_zero]; exact rfl)
          case an3 => kernel_rfl
          case bn3 => kernel_rfl
          case cn3 => kernel_rfl
          case qn3 => exact fun _ _ _ h => h
          case dn3 => rfl
          case hyn3 => (intro z hSw; (try dsimp only at hSw); go_simp; (try with_reducible rfl))
          try simp only [Act.put, List.setIfInBounds_toArray, List.set_cons_zero, List.set_cons_succ]
          refine wpAnyH_take (i := 4) (oi := ?on4) (v := ?vn4) ?hin4 ?an4 ?bn4 ?cn4 ?qn4 (Or.inl ⟨?dn4, ?hyn4⟩) hHeld ?restn4
          case hin4 => (simp only [List.getElem?_toArray, List.getElem?_cons_succ, List.getElem?_cons_zero]; exact rfl)
          case an4 => kernel_rfl
          case bn4 => kernel_rfl
          case cn4 => kernel_rfl
          case qn4 => exact fun _ _ _ h => h
          case dn4 => rfl
          case hyn4 => (intro z hSw; (try dsimp only at hSw); go_simp; (try with_reducible rfl))
          try simp only [Act.put, List.setIfInBounds_toArray, List.set_cons_zero, List.set_cons_succ]
          refine wpAnyH_take (i := 5) (oi := ?on5) (v := ?vn5) ?hin5 ?an5 ?bn5 ?cn5 ?qn5 (Or.inl ⟨?dn5, ?hyn5⟩) hHeld ?restn5
          case hin5 => (simp only [List.getElem?_toArray, List.getElem?_cons_succ, List.getElem?_cons_zero]; exact rfl)
          case an5 => kernel_rfl
          case bn5 => kernel_rfl
          case cn5 => kernel_rfl
          case qn5 => exact fun _ _ _ h => h
          case dn5 => rfl
          case hyn5 => (intro z hSw; (try dsimp only at hSw); go_simp; (try with_reducible rfl))
          try simp only [Act.put, List.setIfInBounds_toArray, List.set_cons_zero, List.set_cons_succ]
          refine wpAnyH_take (i := 9) (oi := ?on6) (v := ?vn6) ?hin6 ?an6 ?bn6 ?cn6 ?qn6 (Or.inl ⟨?dn6, ?hyn6⟩) hHeld ?restn6
          case hin6 => (simp only [List.getElem?_toArray, List.getElem?_cons_succ, List.getElem?_cons_zero]; exact rfl)
          case an6 => kernel_rfl
          case bn6 => kernel_rfl
          case cn6 => kernel_rfl
          case qn6 => exact fun _ _ _ h => h
          case dn6 => rfl
          case hyn6 => (intro z hSw; (try dsimp only at hSw); go_simp; (try with_reducible rfl))
          try simp only [Act.put, List.setIfInBounds_toArray, List.set_cons_zero, List.set_cons_succ]
          refine wpAnyH_ready (rs := [3]) (by kernel_rfl) (by simp) ?_
          refine AllReadyH.cons (o := ?on7) ?hin7 ?restn7 AllReadyH.nil
          case hin7 => (simp only [List.getElem?_toArray, List.getElem?_cons_succ, List.getElem?_cons_zero]; exact rfl)
          intro K hK
          go_simp
          go_at_call 30
          refine (KF.out _).mono ?_
          rintro e w2 ⟨rfl, hgw2⟩
          have h2 : Grew w1 w2 := hBd.trans hgw2
          refine hK.out _ _ ?_ (fun hHeld => ?_)
          · (try dsimp only); first | with_reducible assumption | exact Grew.alloc ‹_› _
          clear hK K
          try simp only [Act.put, List.setIfInBounds_toArray, List.set_cons_zero, List.set_cons_succ]
          refine wpAnyH_take (i := 6) (oi := ?on8) (v := ?vn8) ?hin8 ?an8 ?bn8 ?cn8 ?qn8 (Or.inl ⟨?dn8, ?hyn8⟩) hHeld ?restn8
          case hin8 => (simp only [List.getElem?_toArray, List.getElem?_cons_succ, List.getElem?_cons_zero]; exact rfl)
          case an8 => kernel_rfl
          case bn8 => kernel_rfl
          case cn8 => kernel_rfl
          case qn8 => exact fun _ _ _ h => h
          case dn8 => rfl
          case hyn8 => (intro z hSw; (try dsimp only at hSw); go_simp; (try with_reducible rfl))
          try simp only [Act.put, List.setIfInBounds_toArray, List.set_cons_zero, List.set_cons_succ]
          refine wpAnyH_take (i := 7) (oi := ?on9) (v := ?vn9) ?hin9 ?an9 ?bn9 ?cn9 ?qn9 (Or.inl ⟨?dn9, ?hyn9⟩) hHeld ?restn9
          case hin9 => (simp only [List.getElem?_toArray, List.getElem?_cons_succ, List.getElem?_cons_zero]; exact rfl)
          case an9 => kernel_rfl
          case bn9 => kernel_rfl
          case cn9 => kernel_rfl
          case qn9 => exact fun _ _ _ h => h
          case dn9 => rfl
          case hyn9 => (intro z hSw; (try dsimp only at hSw); go_simp; (try with_reducible rfl))
          try simp only [Act.put, List.setIfInBounds_toArray, List.set_cons_zero, List.set_cons_succ]
          refine wpAnyH_take (i := 8) (oi := ?on10) (v := ?vn10) ?hin10 ?an10 ?bn10 ?cn10 ?qn10 (Or.inl ⟨?dn10, ?hyn10⟩) hHeld ?restn10
          case hin10 => (simp only [List.getElem?_toArray, List.getElem?_cons_succ, List.getElem?_cons_zero]; exact rfl)
          case an10 => kernel_rfl
          case bn10 => kernel_rfl
          case cn10 => kernel_rfl
          case qn10 => exact fun _ _ _ h => h
          case dn10 => rfl
          case hyn10 => (intro z hSw; (try dsimp only at hSw); go_simp; (try with_reducible rfl))
          try simp only [Act.put, List.setIfInBounds_toArray, List.set_cons_zero, List.set_cons_succ]
          refine wpAnyH_ready (rs := [10]) (by kernel_rfl) (by simp) ?_
          refine AllReadyH.cons (o := ?on11) ?hin11 ?restn11 AllReadyH.nil
          case hin11 => (simp only [List.getElem?_toArray, List.getElem?_cons_succ, List.getElem?_cons_zero]; exact rfl)
          intro K hK
          go_simp
          go_at_call 61
          refine (HH.out _).mono ?_
          rintro e w3 ⟨rfl, hgw3⟩
          have h3 : Grew w1 w3 := h2.trans hgw3
          refine hK.out _ _ ?_ (fun hHeld => ?_)
          · (try dsimp only); first | with_reducible assumption | exact Grew.alloc ‹_› _
          clear hK K
          try simp only [Act.put, List.setIfInBounds_toArray, List.set_cons_zero, List.set_cons_succ]
          refine wpAnyH_take (i := 11) (oi := ?on12) (v := ?vn12) ?hin12 ?an12 ?bn12 ?cn12 ?qn12 (Or.inl ⟨?dn12, ?hyn12⟩) hHeld ?restn12
          case hin12 => (simp only [List.getElem?_toArray, List.getElem?_cons_succ, List.getElem?_cons_zero]; exact rfl)
          case an12 => kernel_rfl
          case bn12 => kernel_rfl
          case cn12 => kernel_rfl
          case qn12 => exact fun _ _ _ h => h
          case dn12 => rfl
          case hyn12 => (intro z hSw; (try dsimp only at hSw); go_simp; (try with_reducible rfl))
          try simp only [Act.put, List.setIfInBounds_toArray, List.set_cons_zero, List.set_cons_succ]
          refine wpAnyH_done (by kernel_rfl) ?_ _
          have HN3 := Lib.hid (HN.out.grew ((Grew.refl wr).drew.trans (hgw2.trans hgw3)))
          clear HN HH
          cases hb : m.testBit u with
          | true =>
            go_wp2_with fail
            go_roundw
            case rel => exact ⟨u + 1, by omega, by go_num, h3, HN3.out.congr9 (fun q _ => (HNOJ.out u hb q).symm)⟩
            case measure => simp [intOf]; omega
          | false =>
            have hye := HYEJ.out u hb
            have hq0 : w3.cell? ⟨w.heap.size + 1 + 1, u, none⟩ = some (.int .i64 ((rv n B u j : Nat) : Int)) := by have := HN3.out.cell hlu; rwa [rq_at] at this
            have hf0 := HN3.out.free u
            generalize rv n B u j = ru at *
            have hor := or_i64 ru pj (by omega) (by omega)
            have hN4 := Lib.hid (fun z (hz : z = ru ||| pj) => HN3.out.set (f' := fun q => rq n B j (u + 1) q) hlu (z := z) (by rw [hye, hz]) (fun q _ hq => rq_else B hq))
            clear hye
            generalize hze : ru ||| pj = z at *
            have hN5 := Lib.hid (hN4.out z rfl)
            clear hN4
            go_wp2_with fail
            go_region
            go_wp2_with fail
            go_roundw
            case rel => exact ⟨u + 1, by omega, by go_num, (h3.setCell HSZ.out _).drew, hN5.out.grew (Grew.refl _).drew⟩
            case measure => simp [intOf]; omega
        · obtain rfl : u = n := by omega
          have HN := Lib.hid (hN.congr9 (fun q hq => rq_full B hq))
          clear hN
          go_wp2_with fail
          go_roundw
          case rel => exact ⟨j + 1, by omega, by go_num, hB2, HN.out⟩
          case measure => simp [intOf]; omega
    · obtain rfl : j = n := by omega
      have hI := hN.own (Nat.le_refl _)
      rw [HFR.out] at hI
      have HI := Lib.hid hI
      clear hN hI
      go_wp2_with fail
      refine (HFO.out _ _ HI.out.ints).mono ?_
      rintro e w4 ⟨rfl, hg4⟩
      have g4 := hB.trans hg4
      have y1 := Y1.out w4 g4
      have f0 := blk_frozen y1 0
      have f1 := blk_frozen y1 1
      have k0 : w4.cell? ⟨w.heap.size + 1, 0, none⟩ = some (.int .i64 0) := by rw [blk_cell y1]; rfl
      have k1 : w4.cell? ⟨w.heap.size + 1, 1, none⟩ = some (.slice none 0 0) := by rw [blk_cell y1]; rfl
      have HY := Lib.hid y1
      clear y1
      go_wp2_with fail
      (try simp only [Exit.inBlock, Exit.then])
      refine bodyPost_ret (results_cell_row rfl _ _ (w.heap.size + 1) _ _ _ _ rfl (blk_set (blk_set HY.out 0 _) 1 _) Tryz.underlying76 rfl hinfo) rfl ?_
      refine ⟨_, rfl, ?_, ((HB0.out.trans g4).setCell (Nat.le_succ _) _).setCell (Nat.le_succ _) _⟩
      exact OwnI.ints (own_only (HI.out.grew hg4) (((Only.refl (w.heap.size + 1) w4).setCell _).setCell _) (fun hh => by have := (World.ownsRow.lt HI.out _ hh).1; omega))
end Go.Proofs.YtopjgcbhjhhlfaaGreat


/- Validity in a modal algebra as the reference reckons it, plain; what is valid stays valid in a subalgebra. -/
namespace Go.Proofs.YtopjgcbhjhhlfaaGreat
open Go.RowKit
open Fm (Tree)

def dgs (n num k : Nat) : Nat := num / 2 ^ (k * n) % 2 ^ n
theorem dgs_lt (n num k : Nat) : dgs n num k < 2 ^ n := Nat.mod_lt _ (Nat.two_pow_pos n)
theorem dgs_onto {n : Nat} (g : Nat → Nat) (hg : ∀ k, g k < 2 ^ n) : ∀ c, ∃ N, N < 2 ^ (n * c) ∧ ∀ k, k < c → dgs n N k = g k
  | 0 => ⟨0, by simp, fun k hk => absurd hk (by omega)⟩
  | c + 1 => by
    obtain ⟨N, h1, h2⟩ := dgs_onto g hg c
    have hp : 0 < 2 ^ (n * c) := Nat.two_pow_pos _
    refine ⟨N + 2 ^ (n * c) * g c, ?_, fun k hk => ?_⟩
    · rw [Nat.mul_add, Nat.mul_one, Nat.pow_add]
      have h3 : 2 ^ (n * c) * (g c + 1) ≤ 2 ^ (n * c) * 2 ^ n := Nat.mul_le_mul_left _ (hg c)
      rw [Nat.mul_add, Nat.mul_one] at h3
      omega
    · unfold dgs
      by_cases hkc : k < c
      · rw [← h2 k hkc]
        unfold dgs
        have e : 2 ^ (n * c) = 2 ^ (k * n) * (2 ^ n * 2 ^ (n * (c - k - 1))) := by
          rw [← Nat.pow_add, ← Nat.pow_add]
          congr 1
          have h5 : c = k + (1 + (c - k - 1)) := by omega
          rw [Nat.mul_comm k n]
          calc n * c = n * (k + (1 + (c - k - 1))) := by rw [← h5]
            _ = n * k + (n + n * (c - k - 1)) := by rw [Nat.mul_add, Nat.mul_add, Nat.mul_one]
        rw [e, Nat.mul_assoc, Nat.add_mul_div_left _ _ (Nat.two_pow_pos _), Nat.mul_assoc, Nat.add_mul_mod_self_left]
      · obtain rfl : k = c := by omega
        rw [Nat.mul_comm k n, Nat.add_mul_div_left _ _ hp, Nat.div_eq_of_lt h1, Nat.zero_add, Nat.mod_eq_of_lt (hg k)]
def vas (n : Nat) (vars : List Nat) (num : Nat) : List Nat := (List.range 6).map fun v => if v ∈ vars then dgs n num (vars.idxOf v) else 0
theorem vas_lt (n : Nat) (vars : List Nat) (num : Nat) : ∀ v ∈ vas n vars num, v < 2 ^ n := by
  intro v hv
  unfold vas at hv
  obtain ⟨u, _, rfl⟩ := List.mem_map.1 hv
  split
  · exact dgs_lt _ _ _
  · exact Nat.two_pow_pos n
def vldA (n : Nat) (B vars : List Nat) (t : Tree) : Bool := (List.range (2 ^ (n * vars.length))).all fun num => av n B (vas n vars num) t == full n
theorem vldA_all {n : Nat} {B vars V : List Nat} {t : Tree} (h : vldA n B vars t = true) (h6 : ∀ v ∈ vars, v < 6) (hv : ∀ v, hasV v t → v ∈ vars) (hV : ∀ v, v ∈ vars → nt V v < 2 ^ n) : av n B V t = full n := by
  obtain ⟨N, h1, h2⟩ := dgs_onto (n := n) (fun k => if nt V (nt vars k) < 2 ^ n then nt V (nt vars k) else 0) (fun k => by
    show (if nt V (nt vars k) < 2 ^ n then nt V (nt vars k) else 0) < 2 ^ n
    split
    · assumption
    · exact Nat.two_pow_pos n) vars.length
  have h3 := List.all_eq_true.1 h N (List.mem_range.2 h1)
  rw [beq_iff_eq] at h3
  rw [← h3]
  refine av_ext fun v hvt => ?_
  have hm := hv v hvt
  have hlt := h6 v hm
  have e1 : nt (vas n vars N) v = dgs n N (vars.idxOf v) := by
    unfold vas
    simp [nt, List.getD, hlt, hm]
  have hi : vars.idxOf v < vars.length := List.idxOf_lt_length_of_mem hm
  rw [e1, h2 _ hi]
  have e2 : nt vars (vars.idxOf v) = v := by
    rw [← nt_get hi]
    exact List.getElem_idxOf hi
  show nt V v = if nt V (nt vars (vars.idxOf v)) < 2 ^ n then nt V (nt vars (vars.idxOf v)) else 0
  rw [e2, if_pos (hV v hm)]
theorem sub_valid {n : Nat} {B E vars : List Nat} {t : Tree} (hA : Alg n B) (h : SubA n B E) (hvl : vldA n B vars t = true) (h6 : ∀ v ∈ vars, v < 6) (hv : ∀ v, hasV v t → v ∈ vars) : vldB (frm (ats E).length (sBx B E)) vars t = true := by
  obtain ⟨hm, hn⟩ := ats_small hA h
  have hS := sub_alg hA h hm hn
  refine vldB_yes fun x hx => ?_
  rw [frm_len] at hx ⊢
  have hxl : ∀ v ∈ x, v < 2 ^ (ats E).length := by
    obtain ⟨num, _, rfl⟩ := List.mem_map.1 hx
    exact vals_lt _ _ _
  rw [mv_frm hS hxl]
  refine hst_inj h hm (av_lt hS hxl t) (full_lt _) ?_
  rw [av_hst hA h hm hn hxl, hst_full h hm]
  refine vldA_all hvl h6 hv fun v _ => ?_
  by_cases hvx : v < x.length
  · have : nt (x.map (hst E)) v = hst E (nt x v) := by simp [nt, List.getD, hvx]
    rw [this]
    exact hst_lt h hm (hxl _ (nt_mem hvx))
  · rw [nt_big (by simpa using hvx)]
    exact Nat.two_pow_pos n
end Go.Proofs.YtopjgcbhjhhlfaaGreat


/- A range over a function whose iterator hands out a row of its own that it writes anew between two rounds: the law of the loop's walk. No program is in sight. -/
namespace Go.Proofs.YtopjgcbhjhhlfaaGreat
open Go.RowKit

def KeptBut (l : Nat) (W W' : World) : Prop := W.heap.size ≤ W'.heap.size ∧ ∀ i, i < W.heap.size → i ≠ l → W'.heap[i]? = W.heap[i]?
theorem KeptBut.refl (l : Nat) (W : World) : KeptBut l W W := ⟨Nat.le_refl _, fun _ _ _ => rfl⟩
theorem KeptBut.trans {l : Nat} {X Y Z : World} (h : KeptBut l X Y) (k : KeptBut l Y Z) : KeptBut l X Z :=
  ⟨Nat.le_trans h.1 k.1, fun i hi hl => (k.2 i (Nat.lt_of_lt_of_le hi h.1) hl).trans (h.2 i hi hl)⟩
theorem KeptBut.grew {l : Nat} {X Y : World} (h : Grew X Y) : KeptBut l X Y := ⟨h.size, fun _ hl _ => h.block hl⟩
theorem KeptBut.putObj (W : World) (l : Nat) (o : Obj) : KeptBut l W (W.putObj l o) :=
  ⟨by simp, fun i _ hi => World.putObj_heap_other hi⟩

def SeqV {α : Type} (P : Program) (gf : Nat) (lb : Array Value) (Rv : World → Value → α → Prop) (S Sp : List α → Prop) (w0 : World) : Prop :=
  ∀ (n l : Nat) (J Jx : List α → World → Prop) (W : World), Grew w0 W → w0.heap.size ≤ l → l < W.heap.size →
    (∀ s A A', J s A → Below W.heap.size A A' → J s A') → (∀ s A A', Jx s A → Below W.heap.size A A' → Jx s A') →
    (∀ m pre x v A, J pre A → Rv A v x → YieldAt Fence.wide m P l #[v] A fun e A' =>
      (e = .returned (.bool true) ∧ J (pre ++ [x]) A' ∧ KeptBut l A A') ∨ (e = .returned (.bool false) ∧ Jx (pre ++ [x]) A')) →
    J [] W →
    CallsIn Fence.wide n P gf (#[.func (.yield l) #[] #[]] ++ lb) W fun e W' => (∃ v, e = .returned v) ∧ ((∃ xs, S xs ∧ J xs W') ∨ (∃ pre, Sp pre ∧ Jx pre W'))

def vPost {α : Type} (I : List α → World → Prop) (Ix : List α → World → Prop) (xs : List α) (W : World) : Exit → Act → World → Prop
  | .normal, _, W' => Grew W W' ∧ I xs W'
  | .ret, _, W' => KeepsOthers W W' ∧ Ix xs W'
  | _, _, _ => False

theorem below_putObj {B : Nat} {W : World} {l : Nat} {o : Obj} (o' : Obj) (hB : B ≤ l) (h : W.heap[l]? = some o) : Below B W (W.putObj l o') :=
  (Below.refl B W).grown (grownBy_putObj' W l o') (by have := (Array.getElem?_eq_some_iff.1 h).1; omega) (fun k e => by cases e; omega)
theorem rd_putObj {W : World} {k n : Nat} {v : Value} {xs : List Value} {l : Nat} {o : Obj} (o' : Obj) (h : Rd W k v n xs) (hl : W.heap[l]? = some o) (ho : o.isCells = false) : Rd (W.putObj l o') k v n xs := by
  obtain ⟨h1, h2, h3⟩ := h
  refine ⟨h1, h2, ?_⟩
  rcases h3 with ⟨h4, h5⟩ | ⟨b, of, c, h4, h5, h6, h7, h8⟩
  · exact .inl ⟨h4, h5⟩
  · exact .inr ⟨b, of, c, h4, h5, h6, by simpa using h7, fun j x hx => cell_kept (h8 j x hx) (grownBy_putObj' W l o') (fun r e => by cases e; exact ⟨o, hl, ho⟩)⟩

theorem wpIn_rangeV {P : Program} {α : Type} {n : Nat} {g : Operand} {ps : Array Tmp} {assign body : Go.Code} {Q : Exit → Act → World → Prop} {a : Act} {w : World}
    {gf : Nat} {lb : Array Value} (hg : a.eval g = .func (.func gf) #[] lb) (eg : ∀ args w, (callFunc gf args).run P w = .ok (.enter gf args) w)
    {Rv : World → Value → α → Prop} (hRv : ∀ W v x l o o', Rv W v x → W.heap[l]? = some o → o.isCells = false → Rv (W.putObj l o') v x)
    {S Sp : List α → Prop} {w0 : World} (hseq : SeqV P gf lb Rv S Sp w0) (hw0 : Grew w0 w) (hps : ps.size = 1)
    (I Ix : List α → World → Prop) (hI : ∀ s A A', I s A → Below w.heap.size A A' → I s A') (hIx : ∀ s A A', Ix s A → Below w.heap.size A A' → Ix s A') (h0 : I [] w) (a₁ : Value → Act)
    (hassign : ∀ (l m : Nat) (v : Value) (W : World) (K : Act → World → Prop), K (a₁ v) W →
      assign.wpIn (Fence.wide.inRound l) m P (Exit.then K (fun _ _ _ => False)) { tmps := (ps.zip #[v]).foldl (fun t (p, v) => t.setIfInBounds p v) a.tmps, defers := [] } W)
    (hbody : ∀ (l m : Nat) (pre : List α) (x : α) (v : Value) (W : World), I pre W → Rv W v x → w.heap.size ≤ W.heap.size → body.wpIn (Fence.wide.inRound l) m P (vPost I Ix (pre ++ [x]) W) (a₁ v) W)
    (hdone : ∀ (D : Nat) (xs : List α) (W : World), w.heap.size ≤ D → S xs → I xs W → W.heap[D]? = some (.deferred (some [])) → Q .normal { a with defers := { target := .collected D, args := #[] } :: a.defers } W)
    (hstop : ∀ (D : Nat) (pre : List α) (W : World), w.heap.size ≤ D → Sp pre → Ix pre W → W.heap[D]? = some (.deferred (some [])) → Go.Code.ret.wpIn Fence.wide n P Q { a with defers := { target := .collected D, args := #[] } :: a.defers } W) :
    (Go.Code.rangeFunc g ps assign body).wpIn Fence.wide n P Q a w := by
  refine wpIn_rangeFunc ?_
  intro fn hfn
  show ∃ l mark w₁ d w₁' f args w₂, (Instr.enterLoop fn a.tmps ps assign body none).run P w = _ ∧ _
  obtain ⟨rec, hrec⟩ : ∃ rec : LoopState → Option Go.Code → Loop, rec = fun st pe => { state := st, pending := pe, fn, tmps := a.tmps, params := ps, assign, body, defers := w.heap.size } := ⟨_, rfl⟩
  obtain ⟨W1, hW1⟩ : ∃ W1, (w.alloc (.deferred (some []))).alloc (.loop (rec .ready none)) = W1 := ⟨_, rfl⟩
  have hL1 : W1.heap[w.heap.size + 1]? = some (.loop (rec .ready none)) := by
    rw [← hW1]; have := World.alloc_heap_new (w.alloc (.deferred (some []))) (.loop (rec .ready none)); rwa [World.size_alloc] at this
  have hK1 : W1.heap[w.heap.size]? = some (.deferred (some [])) := by
    rw [← hW1]; exact (Below.heap_alloc _ _ _ (by simp)).trans (World.alloc_heap_new w _)
  have hg1 : Grew w W1 := by rw [← hW1]; exact ((Grew.refl w).alloc _).alloc _
  have hs1 : W1.heap.size = w.heap.size + 2 := by rw [← hW1]; simp
  have hI1 : I [] W1 := hI _ _ _ h0 hg1
  refine ⟨w.heap.size + 1, [{ target := .collected w.heap.size, args := #[] }], W1, { target := .fn (.func gf) lb, args := #[.func (.yield (w.heap.size + 1)) #[] #[]] }, W1, gf,
    #[.func (.yield (w.heap.size + 1)) #[] #[]] ++ lb, W1, ?_, ?_, ?_, ?_, fun h => by simp [Fence.wide] at h, ?_⟩
  · rw [← hW1, hrec]; exact run_enterLoop_outer _ _ _ _ _
  · simp only [resolve, hg]
    simp [go_sem]
  · intro f' hf'; trivial
  · simp [invoke, go_sem, eg]
  · have abide : ∀ {A A' : World} {k : Nat} {o : Obj}, k < w.heap.size + 2 → Below W1.heap.size A A' → A.heap[k]? = some o → A'.heap[k]? = some o := fun hk hb h => (hb.block _ (by omega)).trans h
    refine (hseq (n - 1) (w.heap.size + 1)
      (fun pre W => I pre W ∧ W.heap[w.heap.size + 1]? = some (.loop (rec .ready none)) ∧ W.heap[w.heap.size]? = some (.deferred (some [])))
      (fun pre W => Ix pre W ∧ W.heap[w.heap.size + 1]? = some (.loop (rec .done (some .ret))) ∧ W.heap[w.heap.size]? = some (.deferred (some [])))
      W1 (hw0.trans hg1) (by have := hw0.size; omega) (by omega)
      (fun s A A' hs hb => ⟨hI s A A' hs.1 (hb.mono (by omega)), abide (by omega) hb hs.2.1, abide (by omega) hb hs.2.2⟩)
      (fun s A A' hs hb => ⟨hIx s A A' hs.1 (hb.mono (by omega)), abide (by omega) hb hs.2.1, abide (by omega) hb hs.2.2⟩)
      ?_ ⟨hI1, hL1, hK1⟩).mono ?_
    · rintro m pre x v W ⟨hi, hl, hk⟩ hv
      have hlt : w.heap.size + 1 < W.heap.size := (Array.getElem?_eq_some_iff.1 hl).1
      have hy := run_yield (P := P) (args := #[v]) hl (by rw [hrec]; simp [hps])
      rw [hrec] at hy
      refine ⟨fn, _, assign, body, hy, roundIn_of_wpIn hfn (hassign _ m v W _ ⟨_, run_beginRound hl (by rw [hrec]), ?_⟩)⟩
      have hl2 : (W.putObj (w.heap.size + 1) (.loop { rec .ready none with state := .busy })).heap[w.heap.size + 1]? = some (.loop { rec .ready none with state := .busy }) := World.putObj_heap_same hlt
      have hk2 : (W.putObj (w.heap.size + 1) (.loop { rec .ready none with state := .busy })).heap[w.heap.size]? = some (.deferred (some [])) := (World.putObj_heap_other (by omega)).trans hk
      refine wpIn_mono (hbody _ m pre x v _ (hI _ _ _ hi (below_putObj _ (by omega) hl)) (hRv _ _ _ _ _ _ hv hl rfl) (by simp; omega)) ?_
      have fin : ∀ (jump : Option Go.Code) (W3 : World), W3.heap[w.heap.size + 1]? = some (.loop { rec .ready none with state := .busy }) → W3.heap[w.heap.size]? = some (.deferred (some [])) →
          (Instr.endRound (w.heap.size + 1) jump).run P W3 = .ok (.bool jump.isNone) (W3.putObj (w.heap.size + 1) (.loop (rec (if jump.isNone then .ready else .done) jump))) ∧
          (W3.putObj (w.heap.size + 1) (.loop (rec (if jump.isNone then .ready else .done) jump))).heap[w.heap.size + 1]? = some (.loop (rec (if jump.isNone then .ready else .done) jump)) ∧
          (W3.putObj (w.heap.size + 1) (.loop (rec (if jump.isNone then .ready else .done) jump))).heap[w.heap.size]? = some (.deferred (some [])) := fun jump W3 hl3 hk3 => by
        have := run_endRound (P := P) jump hl3
        rw [hrec] at this ⊢
        exact ⟨this, World.putObj_heap_same (Array.getElem?_eq_some_iff.1 hl3).1, (World.putObj_heap_other (by omega)).trans hk3⟩
      rintro e a3 W3 hp
      cases e with
      | normal =>
        obtain ⟨hg3, hi3⟩ := hp
        have hl3 := (hg3.block (k := w.heap.size + 1) (by simp; omega)).trans hl2
        obtain ⟨hr, hl4, hk4⟩ := fin none W3 hl3 ((hg3.block (k := w.heap.size) (by simp; omega)).trans hk2)
        exact ⟨_, _, hr, .inl ⟨rfl, ⟨hI _ _ _ hi3 (below_putObj _ (by omega) hl3), hl4, hk4⟩, ((KeptBut.putObj W _ _).trans (KeptBut.grew hg3)).trans (KeptBut.putObj W3 _ _)⟩⟩
      | ret =>
        obtain ⟨hk3, hi3⟩ := hp
        have hl3 := hk3.same _ _ hl2 rfl
        obtain ⟨hr, hl4, hk4⟩ := fin (some .ret) W3 hl3 (hk3.same _ _ hk2 rfl)
        exact ⟨_, _, hr, .inr ⟨rfl, hIx _ _ _ hi3 (below_putObj _ (by omega) hl3), hl4, hk4⟩⟩
      | exit id => exact hp.elim
      | goto t => exact hp.elim
      | panic ch => exact hp.elim
      | outgrown => exact hp.elim
    · rintro e W2 ⟨⟨v, rfl⟩, (⟨xs, hS, hi, hl, hk⟩ | ⟨pre, hSp, hi, hl, hk⟩)⟩
      · exact ⟨none, _, by have := run_endLoop (P := P) hl (by rw [hrec]; simp); rw [hrec] at this; exact this, hdone _ xs _ (Nat.le_refl _) hS (hI _ _ _ hi (below_putObj _ (by omega) hl)) ((World.putObj_heap_other (by omega)).trans hk)⟩
      · exact ⟨some .ret, _, by have := run_endLoop (P := P) hl (by rw [hrec]; simp); rw [hrec] at this; exact this, hstop _ pre _ (Nat.le_refl _) hSp (hIx _ _ _ hi (below_putObj _ (by omega) hl)) ((World.putObj_heap_other (by omega)).trans hk)⟩
end Go.Proofs.YtopjgcbhjhhlfaaGreat


/- The program's iterator over valuations of a poset (Poset.valuations and its closures): it hands out fs U vars zeros. -/
namespace Go.Proofs.YtopjgcbhjhhlfaaGreat
open Go.RowKit
attribute [local go_sem] Oper.semAt_some

def KB (W0 : World) (l gv : Nat) (W : World) : Prop := W0.heap.size ≤ W.heap.size ∧ ∀ i, i < W0.heap.size → i ≠ l → i ≠ gv → W.heap[i]? = W0.heap[i]?
theorem KB.refl (W : World) (l gv : Nat) : KB W l gv W := ⟨Nat.le_refl _, fun _ _ _ _ => rfl⟩
theorem KB.kept {W0 W W' : World} {l gv : Nat} (h : KB W0 l gv W) (k : KeptBut l W W') : KB W0 l gv W' :=
  ⟨Nat.le_trans h.1 k.1, fun i hi hl hg => (k.2 i (Nat.lt_of_lt_of_le hi h.1) hl).trans (h.2 i hi hl hg)⟩
theorem KB.set {W0 W : World} {l gv o : Nat} (h : KB W0 l gv W) (u : Value) : KB W0 l gv (W.setCell ⟨gv, o, none⟩ u) :=
  ⟨Nat.le_trans h.1 (by simp), fun i hi hl hg => (Below.heap_setCell W ⟨gv, o, none⟩ u i hg).trans (h.2 i hi hl hg)⟩
theorem KB.drew {W0 W : World} {l gv : Nat} (h : KB W0 l gv W) : KB W0 l gv W.drew := h
theorem KB.cell {W0 W : World} {l gv : Nat} (h : KB W0 l gv W) {p : Addr} (hp : p.block < W0.heap.size) (hl : p.block ≠ l) (hg : p.block ≠ gv) : W.cell? p = W0.cell? p :=
  World.cell?_of_block (h.2 _ hp hl hg)
theorem NRow.kept {W W' : World} {l g n c : Nat} {f : Nat → Nat} (h : NRow W g n c f) (k : KeptBut l W W') (hne : g ≠ l) : NRow W' g n c f := by
  have hl := h.lt
  obtain ⟨cur, h1, h2⟩ := h
  exact ⟨cur, (k.2 _ hl hne).trans h1, h2⟩
theorem kb_cells {w0 W0 : World} {l gv : Nat} {v : Value} {L : List Nat} (h : Ints w0 v (zs L)) (hg : Grew w0 W0) (hl : w0.heap.size ≤ l) (hgv : w0.heap.size ≤ gv) :
    ∃ A c, v = .slice A L.length c ∧ ∀ k, k < L.length → ∃ b o, A = some ⟨b, o, none⟩ ∧ ∀ W, KB W0 l gv W → W.cell? ⟨b, o + k, none⟩ = some (.int .i64 ((nt L k : Nat) : Int)) := by
  rcases h.open_ with ⟨rfl, h0⟩ | ⟨b, o, c, rfl, _, _, hb, hc⟩
  · have hL : L = [] := by
      have := congrArg List.length h0
      rw [zs_len] at this
      exact List.eq_nil_of_length_eq_zero this
    subst hL
    exact ⟨none, 0, rfl, fun k hk => absurd hk (by simp)⟩
  · rw [zs_len] at hc ⊢
    refine ⟨_, _, rfl, fun k hk => ⟨b, o, rfl, fun W hW => ?_⟩⟩
    have h1 := hc k hk W0 hg
    rw [zs_it hk] at h1
    have hs := hg.size
    exact (hW.cell (p := ⟨b, o + k, none⟩) (by show b < _; omega) (by show b ≠ l; omega) (by show b ≠ gv; omega)).trans h1

end Go.Proofs.YtopjgcbhjhhlfaaGreat


/- The program's iterator over the values of all models on a frame (valuations): it hands out allV n vars. -/
namespace Go.Proofs.YtopjgcbhjhhlfaaGreat
open Go.RowKit
attribute [local go_sem] Oper.semAt_some

theorem KB.grew {W0 W W' : World} {l gv : Nat} (h : KB W0 l gv W) (k : Grew W W') : KB W0 l gv W' := h.kept (KeptBut.grew k)
theorem dg_facts (n c num j : Nat) (hj : j < c) (hc : c ≤ 6) (hn : n ≤ 8) (hfit : n * c ≤ 16) (hnum : num ≤ 65536) :
    IntKind.i64.wrap ((c : Int) - 1) = ((c - 1 : Nat) : Int) ∧ IntKind.i64.wrap (((c - 1 : Nat) : Int) - (j : Int)) = ((c - 1 - j : Nat) : Int) ∧
    IntKind.i64.wrap ((n : Int) * ((c - 1 - j : Nat) : Int)) = ((n * (c - 1 - j) : Nat) : Int) ∧ n * (c - 1 - j) < 64 ∧
    bits .and .i64 ((num : Int) / 2 ^ ((n : Int) * ((c - 1 - j : Nat) : Int)).toNat) ((full n : Nat) : Int) = ((dg n c num j : Nat) : Int) := by
  have h1 : n * (c - 1 - j) ≤ n * c := Nat.mul_le_mul_left _ (by omega)
  have hkb : num / 2 ^ (n * (c - 1 - j)) < 9223372036854775808 := Nat.lt_of_le_of_lt (Nat.div_le_self _ _) (by omega)
  have hf : full n < 9223372036854775808 := Nat.lt_of_lt_of_le (full_lt n) (Nat.le_trans (Nat.pow_le_pow_right (by omega) hn) (by decide))
  have h3 := and_i64 (num / 2 ^ (n * (c - 1 - j))) (full n) hkb hf
  rw [dg_and] at h3
  have h4 : (num : Int) / 2 ^ ((n : Int) * ((c - 1 - j : Nat) : Int)).toNat = ((num / 2 ^ (n * (c - 1 - j)) : Nat) : Int) := by
    rw [← Int.natCast_mul, Int.toNat_natCast, Int.natCast_ediv, Int.natCast_pow]; rfl
  refine ⟨by rw [IntKind.wrap_i64]; omega, by rw [IntKind.wrap_i64]; omega, ?_, by omega, by rw [h4]; exact h3⟩
  rw [← Int.natCast_mul, IntKind.wrap_i64]
  generalize n * (c - 1 - j) = q at *
  omega

set_option maxHeartbeats 2000000 in
theorem fvalSeq_c (n : Nat) (vars : List Nat) (bV bF : Nat) (w0 : World) (vV v : Value) (cV : w0.cell? ⟨bV, 0, none⟩ = some vV) (cF0 : w0.cell? ⟨bF, 0, none⟩ = some (.int .i64 (n : Int))) (cF1 : w0.cell? ⟨bF, 1, none⟩ = some v) (hbV : bV < w0.heap.size) (hbF : bF < w0.heap.size)
    (hv : ∃ A m c, v = .slice A m c) (hV : Ints w0 vV (zs vars)) (h6 : ∀ x ∈ vars, x < 6) (hnd : vars.Nodup) (hvl : vars.length ≤ 6) (hn : n ≤ 8) (hfit : n * vars.length ≤ 16) :
    SeqV Tryz.prog 103 #[.pointer (some ⟨bV, 0, none⟩), .pointer (some ⟨bF, 0, none⟩)] (fun W v x => Ints W v (zs x) ∧ (x.length = 6 ∧ ∀ m ∈ x, m < 2 ^ n)) (fun xs => xs = allV n vars) (fun pre => pre <+: allV n vars) w0 := by
  intro N l J Jx W hW hl0 hl1 hJ hJx hY h0
  have hmk : ∀ W : World, (Instr.makeSlice 24 (.int .i64 6) (.int .i64 6)).run Tryz.prog W = .ok (.slice (some ⟨W.heap.size, 0, none⟩) 6 6) (W.alloc (.cells (madeCells #[Value.int .i64 0] 6) 2)) := fun W => run_make_rows (P := Tryz.prog) 24 2 (.int .i64 0) 1 8 #[.int .i64 0] Tryz.underlying24 Tryz.infoI rfl .i64 .i64 6 (by omega) (by omega) W
  have hwl := hW.size
  obtain ⟨wa, hwa⟩ : ∃ wa, wa = W.alloc (.cells (madeCells #[Value.int .i64 0] 6) 2) := ⟨_, rfl⟩
  have hga : Grew W wa := by rw [hwa]; exact (Grew.refl W).alloc _
  have hR0 : NRow wa W.heap.size 6 6 (fun _ => 0) := ⟨_, by rw [hwa]; exact blk_new W _, size_madeCells _ _, Nat.le_refl _, by omega, fun i hi => made_z hi⟩
  have hKB := KB.refl wa l W.heap.size
  have cc : ∀ (b o : Nat) (v : Value), w0.cell? ⟨b, o, none⟩ = some v → b < w0.heap.size → ∀ X, KB wa l W.heap.size X → X.cell? ⟨b, o, none⟩ = some v := fun b o v hc hb X hX =>
    (hX.cell (p := ⟨b, o, none⟩) (by show b < _; have := hga.size; omega) (by show b ≠ l; omega) (by show b ≠ W.heap.size; omega)).trans (((hW.trans hga).cell (p := ⟨b, o, none⟩) hb).trans hc)
  obtain ⟨AV, nV, rfl, hVc⟩ := kb_cells hV (hW.trans hga) hl0 hwl
  obtain ⟨A1, m1, c1, rfl⟩ := hv
  have HSZ := Lib.hid (fun W (hW : Grew w0 W) => size_q _ (zs vars) W (hV.grew hW))
  rw [zs_len] at HSZ
  have HCV := Lib.hid (cc bV 0 _ cV hbV)
  have HC0 := Lib.hid (cc bF 0 _ cF0 hbF)
  have HC1 := Lib.hid (cc bF 1 _ cF1 hbF)
  have HVC := Lib.hid hVc
  have HKB := Lib.hid hKB
  have HR0 := Lib.hid hR0
  have HJ0 := Lib.hid (hJ _ _ _ h0 hga)
  have HJA := Lib.hid hJ
  have HY := Lib.hid hY
  have HAL := Lib.hid (fun X => frameAll_c n (.slice A1 m1 c1) X ⟨_, _, _, rfl⟩ (by omega))
  have HTK := Lib.hid (fun k (hk : k < 2 ^ (n * vars.length)) => @allV_take n vars k hk)
  have HDG := Lib.hid (fun num j (hj : j < vars.length) (hnum : num ≤ 65536) => dg_facts n vars.length num j hj hvl hn hfit hnum)
  have hM : 2 ^ (n * vars.length) ≤ 65536 := Nat.le_trans (Nat.pow_le_pow_right (by omega) hfit) (by decide)
  have hp := wrap_pow (k := n * vars.length) (by omega)
  have hmul : wrap64 ((n : Int) * (vars.length : Int)) = ((n * vars.length : Nat) : Int) := by rw [← Int.natCast_mul, wrap64]; omega
  have HEN := Lib.hid (show (allV n vars).take (2 ^ (n * vars.length)) = allV n vars from by rw [← allV_len]; exact List.take_length)
  have HWA := Lib.hid (hW.trans hga)
  clear cc cV cF0 cF1 hV hVc hKB hR0 h0 hJ hJx hY
  refine callsIn_of_wp Tryz.func103 rfl trivial ?_ rfl
  simp only [Tryz.ntmps103, List.size_toArray, List.length_cons, List.length_nil, Nat.reduceAdd, Nat.reduceSub, Array.replicate_succ, Array.replicate_zero, List.push_toArray, List.append_toArray, List.nil_append, List.cons_append]
  have k1 := HCV.out _ HKB.out
  rw [hwa] at k1
  have k2 := HC0.out _ HKB.out
  refine wpIn_wide.2 ?_
  go_wp2_with fail
  simp only [← hwa]
  clear hwa k1
  refine (HSZ.out _ HWA.out).mono ?_
  rintro e w1 ⟨rfl, hw1⟩
  rw [hw1]
  clear hw1
  obtain ⟨M, hMM⟩ : ∃ M, M = 2 ^ (n * vars.length) := ⟨_, rfl⟩
  rw [← hMM] at HTK hM hp HEN
  have HMM := Lib.hid hMM
  clear hMM
  go_wp2_with fail
  rw [hp]
  clear k2 hmul hp
  go_loopw [6, 7, 8, 17, 22] (fun _ _ _ i _ wr => ∃ (k : Nat) (f : Nat → Nat), k ≤ M ∧ i = .int .i64 (k : Int) ∧ Hid (KB wa l W.heap.size wr) ∧ Hid (J ((allV n vars).take k) wr) ∧ Hid (NRow wr W.heap.size 6 6 f) ∧ Hid (∀ i, i < 6 → i ∉ vars → f i = 0)) (fun _ _ _ i _ _ => M - (intOf i).toNat)
  case atStart => exact ⟨0, fun _ => 0, Nat.zero_le _, rfl, HKB, HJ0, HR0, Lib.hid (fun _ _ _ => rfl)⟩
  case round =>
    obtain ⟨k, f, hk, rfl, hK, hJk, hR, hZ⟩ := hrel
    by_cases hlt : k < M
    · have HJN := Lib.hid (HTK.out k hlt)
      have hk1 := HCV.out _ hK.out
      have HPG := Lib.hid (PG.zero (n := n) (vars := vars) (num := k) hZ.out)
      go_wp2_with fail
      clear hk1
      go_loopw [7, 8, 22] (fun _ _ i wr => ∃ (j : Nat) (f : Nat → Nat), j ≤ vars.length ∧ i = .int .i64 (j : Int) ∧ Hid (KB wa l W.heap.size wr) ∧ Hid (J ((allV n vars).take k) wr) ∧ Hid (NRow wr W.heap.size 6 6 f) ∧ Hid (PG n vars k j f)) (fun _ _ i _ => vars.length - (intOf i).toNat)
      case atStart => exact ⟨0, f, Nat.zero_le _, rfl, hK, hJk, hR, HPG⟩
      case round =>
        obtain ⟨j, f2, hj, rfl, hK2, hJ2, hR2, hP2⟩ := hrel
        by_cases hlj : j < vars.length
        · obtain ⟨b, o, rfl, hvc⟩ := HVC.out j hlj
          have kv := hvc _ hK2.out
          have hv6 := h6 _ (nt_mem hlj)
          obtain ⟨d1, d2, d3, d4, d6⟩ := HDG.out k j hlj (by omega)
          have D6 := Lib.hid d6
          clear d6
          have c0 := HC0.out
          have c1 := HC1.out
          have c6 := fun A (hA : Grew wr A) => (hR2.out.grew hA).cell hv6
          have c7 := fun A (hA : Grew wr A) => (hR2.out.grew hA).free (nt vars j)
          have r2 := (Grew.refl wr).drew
          have e2 := hK2.out.grew r2
          have hb2 : (0 : Int) ≤ (nt vars j : Int) := by omega
          have hb3 : (nt vars j : Int) < 6 := by omega
          have d7 : ((n * (vars.length - 1 - j) : Nat) : Int) < 64 := by omega
          have hq := h6
          go_wp2_with fail
          go_region_held3 (fun w' => KB wa l W.heap.size w') (first | assumption | exact KB.set ‹_› _ | exact KB.grew ‹_› ‹_› | exact KB.drew ‹_›) (first
            | (go_at_call 83; refine (HAL.out _).mono ?_; rintro e w9 ⟨rfl, hg9⟩; have hgw : Grew wr w9 := r2.trans hg9; have hkb9 := e2.grew hg9))
          rw [D6.out]
          have hR3 := Lib.hid ((hR2.out.grew hgw).set (f' := fun q => if q = nt vars j then dg n vars.length k j else f2 q) hv6 (if_pos rfl) (fun q _ hq => if_neg hq))
          have hP3 := Lib.hid (hP2.out.set (f' := fun q => if q = nt vars j then dg n vars.length k j else f2 q) hnd hlj (if_pos rfl) (fun q hq => if_neg hq))
          have hK3 := Lib.hid (hkb9.set (o := nt vars j) (.int .i64 ((dg n vars.length k j : Nat) : Int)))
          have hwz : W.heap.size ≤ wr.heap.size := Nat.le_trans hga.size hK2.out.1
          have hJ3 := Lib.hid (HJA.out _ _ _ hJ2.out ((Below.mono hgw hwz).setCell (p := ⟨W.heap.size, nt vars j, none⟩) (Nat.le_refl _) (.int .i64 ((dg n vars.length k j : Nat) : Int))))
          clear hgw hg9 hkb9 e2 d1 d2 d3 d4 d7 c6 c7 kv hvc
          go_wp2_with fail
          go_roundw
          case rel => exact ⟨j + 1, _, by omega, by go_num, hK3, hJ3, hR3, hP3⟩
          case measure => simp [intOf]; omega
        · obtain rfl : j = vars.length := by omega
          have hI := hR2.out.ints
          rw [hP2.out.vals] at hI
          have hzz : Hid (∀ i, i < 6 → i ∉ vars → f2 i = 0) := Lib.hid hP2.out.2
          obtain ⟨fn, tmps, assign, body, hy, hRd⟩ := HY.out (N - 1) _ (vals n vars k) (.slice (some ⟨W.heap.size, 0, none⟩) 6 6) wr hJ2.out ⟨hI, vals_len _ _ _, vals_lt _ _ _⟩
          have HRD := Lib.hid hRd
          clear hRd hI
          go_upto_region 10 with fail
          refine (wpIn_wide (n := N)).1 ?_
          gi_wp2
          refine ⟨fun h => by simp [Fence.wide] at h, HRD.out.mono ?_⟩
          have HQX := Lib.hid (show (allV n vars).take (k + 1) <+: allV n vars from List.take_prefix _ _)
          rintro e W3 (⟨rfl, hJ3, hk3⟩ | ⟨rfl, hJx3⟩)
          · rw [← HJN.out] at hJ3
            have HJ3 := Lib.hid hJ3
            have HK3 := Lib.hid (hK2.out.kept hk3)
            have HR3 := Lib.hid (hR2.out.kept hk3 (show W.heap.size ≠ l by omega))
            clear hJ3 hk3
            gi_wp2
            go_wp2_with fail
            go_roundw
            case rel => exact ⟨k + 1, f2, by omega, by go_num, HK3, HJ3, HR3, hzz⟩
            case measure => simp [intOf]; omega
          · rw [← HJN.out] at hJx3
            have HJ3 := Lib.hid hJx3
            clear hJx3
            gi_wp2
            go_wp2_with fail
            refine bodyPost_ret (results_none rfl _ _ _) rfl ?_
            exact ⟨⟨_, rfl⟩, .inr ⟨_, HQX.out, HJ3.out⟩⟩
    · obtain rfl : k = M := by omega
      have HJ3 : Hid (J (allV n vars) wr) := Lib.hid (by rw [← HEN.out]; exact hJk.out)
      go_wp2_with fail
      go_end0
      exact ⟨⟨_, rfl⟩, .inl ⟨_, rfl, HJ3.out⟩⟩
end Go.Proofs.YtopjgcbhjhhlfaaGreat


/- The program's search for a valuation that refutes a formula on a poset: variablesIn of one formula, valuations, unforced, isValid. -/
namespace Go.Proofs.YtopjgcbhjhhlfaaGreat
open Go.RowKit
open Fm (Nd Tree)
attribute [local go_sem] Oper.semAt_some

theorem variablesIn_one_c (b : Nat) (va : Value) (xs : List Nd) (w : World) (hc : w.cell? ⟨b, 0, none⟩ = some va) (hb : b < w.heap.size) (h : Nodes w va xs) (hv : Vs xs) (hn : xs.length ≤ 1048576) :
    Calls Tryz.prog 46 #[.slice (some ⟨b, 0, none⟩) 1 1] w (GivesI w (zs (mbs (vm xs)))) := by
  have HM := Lib.hid (fun W (hW : Grew w W) => variableMask_c va xs W (h.grew hW) hv hn)
  have hlt := vmK_lt hv xs.length (Nat.le_refl _)
  have hsm : vm xs < 1073741824 := by
    have : (2 : Nat) ^ 6 = 64 := rfl
    unfold vm
    omega
  have HB := Lib.hid (membersOf_c (vm xs) hsm)
  have hor : bits .or .i64 0 ((vm xs : Nat) : Int) = ((vm xs : Nat) : Int) := by
    have h0 := or_i64 0 (vm xs) (by omega) (by omega)
    rw [Nat.zero_or] at h0
    exact h0
  obtain ⟨A, c, rfl⟩ := nodes_slice h
  clear h hv hn hlt
  generalize vm xs = m at *
  generalize xs.length = n at *
  go_enter Tryz.func46, Tryz.ntmps46
  go_wp2_with fail
  go_loopw [3, 8] (fun q i wr => ∃ j : Nat, j ≤ 1 ∧ i = .int .i64 j ∧ q = .int .i64 ((if j = 0 then 0 else m : Nat) : Int) ∧ Grew w wr) (fun _ i _ => 1 - (intOf i).toNat)
  case atStart => exact ⟨0, by omega, rfl, rfl, Grew.refl _⟩
  case round =>
    obtain ⟨j, hj, rfl, rfl, hB⟩ := hrel
    by_cases hlt : j = 0
    · subst hlt
      have hc1 := (hB.cell (p := ⟨b, 0, none⟩) hb).trans hc
      have hM := Lib.hid (HM.out _ hB)
      rw [if_pos rfl]
      go_wp2_with fail
      refine hM.out.mono ?_
      rintro e w1 ⟨rfl, hg1⟩
      go_wp2_with fail
      go_roundw
      case rel => exact ⟨1, by omega, rfl, rfl, hB.trans hg1⟩
      case measure => simp [intOf]
    · obtain rfl : j = 1 := by omega
      rw [if_neg (by omega)]
      go_wp2_with fail
      refine (HB.out _).mono ?_
      rintro e w2 ⟨v2, rfl, hO2, hg2⟩
      go_wp2_with fail
      go_ret
      exact ⟨_, rfl, hO2.base hB.size, hB.trans hg2⟩

theorem blk_ltO {w : World} {k : Nat} {o : Obj} (h : w.heap[k]? = some o) : k < w.heap.size := (Array.getElem?_eq_some_iff.1 h).1
theorem loadVar_one {P : Program} (w : World) (g : Nat) (t ty : TypeId) (v : Value) (d : TypeDesc) (hg : w.heap[g]? = some (.cells #[v] t (0, 0))) (hu : P.underlying ty = some d) (hd : (match d with | .struct _ | .array _ _ => true | _ => false) = false) :
    (loadVar ty ⟨g, 0, none⟩).run P w = .ok v w := by
  have hagg : (isAgg ty).run P w = .ok false w := by
    unfold isAgg
    rw [Sem.run_bind, run_underlying hu w]
    cases d <;> simp_all
  have hc : w.cell? ⟨g, 0, none⟩ = some v := by rw [blk_cell hg]; rfl
  simp [loadVar, Sem.run_bind, hagg, hc]
theorem mbs_length6 {m n : Nat} (hm : m < 2 ^ n) (hn : n ≤ 30) : (mbs m).length ≤ n := by
  have e : mbs m = mb m n := mb_top hm 30 hn
  rw [e]
  exact mb_len m n

end Go.Proofs.YtopjgcbhjhhlfaaGreat


/- The program's isValid on frames: valuations, isValid. -/
namespace Go.Proofs.YtopjgcbhjhhlfaaGreat
open Go.RowKit
open Fm (Nd Tree)
attribute [local go_sem] Oper.semAt_some

theorem fvaluations_c (n : Int) (v vV : Value) (w : World) (hv : ∃ X m c, v = .slice X m c) (hV : ∃ X m c, vV = .slice X m c) :
    Calls Tryz.prog 81 #[.agg #[.int .i64 n, v], vV] w fun e w' => ∃ bV bF, e = .returned (.func (.func 103) #[] #[.pointer (some ⟨bV, 0, none⟩), .pointer (some ⟨bF, 0, none⟩)]) ∧ Grew w w' ∧ bV < w'.heap.size ∧ bF < w'.heap.size ∧ w'.cell? ⟨bV, 0, none⟩ = some vV ∧ w'.cell? ⟨bF, 0, none⟩ = some (.int .i64 n) ∧ w'.cell? ⟨bF, 1, none⟩ = some v := by
  obtain ⟨A1, m1, c1, rfl⟩ := hv
  obtain ⟨X, m, c, rfl⟩ := hV
  have g1 := (Grew.refl w).alloc (.cells #[.int .i64 n, .slice A1 m1 c1] 76)
  have g2 := (Grew.refl (w.alloc (.cells #[.int .i64 n, .slice A1 m1 c1] 76))).alloc (.cells #[.slice X m c] 24)
  have hs : (w.alloc (.cells #[.int .i64 n, .slice A1 m1 c1] 76)).heap.size = w.heap.size + 1 := by simp
  have b0 := (g2.block (by simp)).trans (blk_new w (.cells #[.int .i64 n, .slice A1 m1 c1] 76))
  have b1 := blk_new (w.alloc (.cells #[.int .i64 n, .slice A1 m1 c1] 76)) (.cells #[.slice X m c] 24)
  rw [hs] at b1
  have HG := Lib.hid (And.intro (g1.trans g2) (And.intro b0 b1))
  clear g1 g2 b0 b1 hs
  go_enter Tryz.func81, Tryz.ntmps81
  go_wp2_with fail
  go_ret
  obtain ⟨h1, h2, h3⟩ := HG.out
  refine ⟨_, _, rfl, h1, blk_lt h3, blk_lt h2, ?_, ?_, ?_⟩
  · rw [blk_cell h3]; rfl
  · rw [blk_cell h2]; rfl
  · rw [blk_cell h2]; rfl

theorem alloc3F (w wa : World) (o1 o2 o3 : Obj) (h : wa = ((w.alloc o1).alloc o2).alloc o3) : Grew w wa ∧ wa.heap.size = w.heap.size + 3 ∧ wa.heap[w.heap.size]? = some o1 ∧ wa.heap[w.heap.size + 1]? = some o2 ∧ wa.heap[w.heap.size + 1 + 1]? = some o3 := by
  subst h
  have s1 : (w.alloc o1).heap.size = w.heap.size + 1 := by simp
  have s2 : ((w.alloc o1).alloc o2).heap.size = w.heap.size + 1 + 1 := by simp
  have b1 := blk_new w o1
  have b2 := blk_new (w.alloc o1) o2
  have b3 := blk_new ((w.alloc o1).alloc o2) o3
  rw [s1] at b2
  rw [s2] at b3
  have g2 := (Grew.refl (w.alloc o1)).alloc o2
  have g3 := (Grew.refl ((w.alloc o1).alloc o2)).alloc o3
  refine ⟨((Grew.refl w).alloc o1).trans (g2.trans g3), by simp, ((g2.trans g3).block (by omega)).trans b1, (g3.block (by omega)).trans b2, b3⟩
theorem results_cell1 {P : Program} {fn : Func} {p : Tmp} {t1 : TypeId} (h : fn.results = #[.cell p t1]) (tmps : Array Value) (w : World) (a : Addr) (v1 : Value)
    (hp : tmps.getD p undef = .pointer (some a)) (l1 : (loadVar t1 a).run P w = .ok v1 w) : (results fn tmps).run P w = .ok v1 w := by
  have hp' : tmps[p]?.getD undef = .pointer (some a) := by simpa using hp
  simp [results, h, hp', asAddr, l1]

set_option maxHeartbeats 2000000 in
theorem frameValid_c (v va : Value) (A : List Nat) (t : Tree) (w : World) (h : Ints w v (zs A)) (ha : Nodes w va (Fm.enc t)) (hA : Rl A) (h8 : A.length ≤ 8) (hvs : Vs (Fm.enc t)) (hn : (Fm.enc t).length ≤ 1048576) (hfit : A.length * (mbs (vm (Fm.enc t))).length ≤ 16) :
    Calls Tryz.prog 47 #[.agg #[.int .i64 (A.length : Int), v], va] w fun e w' => e = .returned (.bool (vldB A (mbs (vm (Fm.enc t))) t)) ∧ Grew w w' := by
  have hvm : vm (Fm.enc t) < 2 ^ 6 := by have := vmK_lt hvs (Fm.enc t).length (Nat.le_refl _); unfold vm; exact this
  have hv6 : ∀ x ∈ mbs (vm (Fm.enc t)), x < 6 := fun x hx => mbs_lt (n := 6) hvm hx
  have hvl := mbs_length6 (n := 6) hvm (by omega)
  have hnd : (mbs (vm (Fm.enc t))).Nodup := List.Nodup.sublist List.filter_sublist List.nodup_range
  obtain ⟨A1, c1, rfl⟩ := ints_sliceN h
  obtain ⟨A2, c2, rfl⟩ := nodes_slice ha
  obtain ⟨w0, hw0⟩ : ∃ w0, w0 = (((w.alloc (.cells #[.int .i64 (A.length : Int), .slice A1 A.length c1] 76)).alloc (.cells #[.slice A2 (Fm.enc t).length c2] 38)).alloc (.cells #[.bool false] 4)) := ⟨_, rfl⟩
  obtain ⟨hg0, hs0, b1, b2, b3⟩ := alloc3F _ _ _ _ _ hw0
  have HVI := Lib.hid (fun b W (hW : Grew w0 W) (hc : W.cell? ⟨b, 0, none⟩ = some (.slice A2 (Fm.enc t).length c2)) (hb : b < W.heap.size) => variablesIn_one_c b _ (Fm.enc t) W hc hb (ha.grew (hg0.trans hW)) hvs hn)
  have HVA := Lib.hid (fun vV W (hv : ∃ X m c, vV = .slice X m c) => fvaluations_c (A.length : Int) (.slice A1 A.length c1) vV W ⟨_, _, _, rfl⟩ hv)
  have y0 : ∀ W, Grew w0 W → W.cell? ⟨w.heap.size, 0, none⟩ = some (.int .i64 (A.length : Int)) := fun W hW => by rw [blk_cell ((hW.block (by omega)).trans b1)]; rfl
  have y1 : ∀ W, Grew w0 W → W.cell? ⟨w.heap.size, 1, none⟩ = some (.slice A1 A.length c1) := fun W hW => by rw [blk_cell ((hW.block (by omega)).trans b1)]; rfl
  have y2 : ∀ W, Grew w0 W → W.cell? ⟨w.heap.size + 1, 0, none⟩ = some (.slice A2 (Fm.enc t).length c2) := fun W hW => by rw [blk_cell ((hW.block (by omega)).trans b2)]; rfl
  have HB := Lib.hid b3
  have HG0 := Lib.hid (And.intro hg0 hs0)
  have HA := Lib.hid hA
  have r0 := Grew.refl w0
  have r1 := (Grew.refl w0).drew
  clear hg0 hs0 b1 b2 b3 hvm
  refine (callsIn_wide (n := 9)).1 ?_
  refine callsIn_of_wp_marks Tryz.func47 rfl trivial ?_
  simp only [Tryz.ntmps47, List.size_toArray, List.length_cons, List.length_nil, Nat.reduceAdd, Nat.reduceSub, Array.replicate_succ, Array.replicate_zero, List.push_toArray, List.append_toArray, List.nil_append, List.cons_append]
  refine wpIn_wide.2 ?_
  go_wp2_with fail
  rw [← hw0]
  clear hw0
  first | (go_region_held3 (fun w' => Grew w0 w') (first | assumption | exact Grew.drew ‹_› | exact Grew.trans ‹_› ‹_› | exact Grew.alloc (by assumption) _) (first
    | (go_at_call 46; refine Calls.mono (HVI.out _ _ (by first | assumption | exact Grew.alloc (by assumption) _) (by simp) (by simp)) ?_; rintro e w5 ⟨v5, rfl, hO5, hg5⟩; have hg55 : Grew w0 w5 := Grew.trans (by first | assumption | exact Grew.alloc (by assumption) _) hg5; obtain ⟨A5, c5, rfl⟩ := ints_sliceN hO5.ints)
    | (go_at_call 81; refine Calls.mono (HVA.out _ _ ⟨_, _, _, rfl⟩) ?_; rintro e w6 ⟨bV, bF, rfl, hg6, hbV, hbF, hcV, hc0, hc1⟩; have hg66 : Grew w0 w6 := Grew.trans (by assumption) hg6))) | fail
  have hIV := hO5.ints.grew hg6
  have hg6w : Grew w0 w6 := hg55.trans hg6
  have HVL := Lib.hid (And.intro hIV (And.intro hcV (And.intro hc0 (And.intro hc1 (And.intro hbV hbF)))))
  clear hO5 hg5 hg55 hIV hcV hc0 hc1 hbV hbF hg6 HVI HVA
  generalize hvars : mbs (vm (Fm.enc t)) = vars at *
  go_wp2_with fail
  refine (wpIn_wide (n := 9)).1 ?_
  refine wpIn_rangeV (P := Tryz.prog) (gf := 103) (lb := #[.pointer (some ⟨bV, 0, none⟩), .pointer (some ⟨bF, 0, none⟩)]) rfl (enters_of Tryz.func103 (by kernel_rfl) rfl)
    (Rv := fun W v x => Ints W v (zs x) ∧ (x.length = 6 ∧ ∀ m ∈ x, m < 2 ^ A.length)) (fun W v x l o o' h1 h2 h3 => ⟨rd_putObj o' h1.1 h2 h3, h1.2⟩)
    (fvalSeq_c A.length vars bV bF w6 _ _ HVL.out.2.1 HVL.out.2.2.1 HVL.out.2.2.2.1 HVL.out.2.2.2.2.1 HVL.out.2.2.2.2.2 ⟨_, _, _, rfl⟩ HVL.out.1 hv6 hnd hvl h8 hfit) (Grew.refl w6) rfl
    (fun pre W => (∀ x ∈ pre, mv A x t = full A.length) ∧ Grew w6 W)
    (fun pre W => (∃ x ∈ pre, mv A x t ≠ full A.length) ∧ Below w.heap.size w6 W ∧ W.heap[w.heap.size + 1 + 1]? = some (.cells #[.bool false] 4))
    (fun s X Y hs hb => ⟨hs.1, (show Below w6.heap.size w6 Y from Below.trans hs.2 hb)⟩) ?hIx ⟨by simp, Grew.refl w6⟩ (fun x => { tmps := #[.agg #[.int .i64 (A.length : Int), .slice A1 A.length c1], .slice A2 (Fm.enc t).length c2, .pointer (some ⟨w.heap.size, 0, none⟩), .pointer (some ⟨w.heap.size + 1, 0, none⟩), .pointer (some ⟨w.heap.size + 1 + 1, 0, none⟩), x, .agg #[.int .i64 (A.length : Int), .slice A1 A.length c1], .slice A2 (Fm.enc t).length c2, .slice (some ⟨w0.heap.size, 0, none⟩) 1 1, .slice A5 vars.length c5, .func (.func 103) #[] #[.pointer (some ⟨bV, 0, none⟩), .pointer (some ⟨bF, 0, none⟩)], x, undef, undef, undef, undef, undef, undef, undef], defers := [] }) ?assign ?body ?done ?stop
  case assign =>
    intro l m x W K hK
    gi_wp2
    exact hK
  case body =>
    rintro l m pre x v W ⟨hall, hg⟩ ⟨hv, hx6, hxm⟩ hsz
    have hW0 : Grew w0 W := hg6w.trans hg
    obtain ⟨Av, cv, rfl⟩ := ints_sliceN hv
    rw [hx6] at hv ⊢
    have HFO := Lib.hid (fun X (hX : Grew W X) => truthSet_c (.slice A1 A.length c1) (.slice Av 6 cv) (.slice A2 (Fm.enc t).length c2) A x t X (h.grew ((HG0.out.1.trans hW0).trans hX)) (hv.grew hX) (ha.grew ((HG0.out.1.trans hW0).trans hX)) HA.out hxm hx6 hn)
    have HAL := Lib.hid (fun X => frameAll_c A.length (.slice A1 A.length c1) X ⟨_, _, _, rfl⟩ (by omega))
    have HX := Lib.hid (And.intro hall hg)
    have hWr := Grew.refl W
    have hWd : Grew w0 W.drew := hW0.drew
    clear hall hv hxm hg
    gi_wp2
    gi_region_with (first
      | (refine ⟨trivial, fun h => by simp [Fence.wide] at h, ?_⟩; gi_at_call 82; refine (CallsIn.inRound l (callsIn_wide.2 (HFO.out _ hWr.drew))).mono ?_; rintro e w1 ⟨rfl, hg1⟩; have hW1 : Grew w0 w1 := hWd.trans hg1; have hWg1 : Grew W w1 := hWr.drew.trans hg1)
      | (refine ⟨trivial, fun h => by simp [Fence.wide] at h, ?_⟩; gi_at_call 83; refine (CallsIn.inRound l (callsIn_wide.2 (HAL.out _))).mono ?_; rintro e w2 ⟨rfl, hg2⟩; have hWg2 : Grew W w2 := hWg1.trans hg2))
    all_goals
      have hW2 : Grew w0 w2 := hW0.trans hWg2
      by_cases he : mv A x t = full A.length
      · have hb : (((mv A x t : Nat) : Int) != ((full A.length : Nat) : Int)) = false := by simp [he]
        have HE := Lib.hid he
        clear he
        gi_wp2
        refine ⟨hWg2, fun y hy => ?_, HX.out.2.trans hWg2⟩
        rw [List.mem_append, List.mem_singleton] at hy
        rcases hy with hy | rfl
        · exact HX.out.1 y hy
        · exact HE.out
      · have hb : (((mv A x t : Nat) : Int) != ((full A.length : Nat) : Int)) = true := by simp; omega
        have HE := Lib.hid he
        have B3 := Lib.hid ((hW2.block (by have := HG0.out.2; omega)).trans HB.out)
        have d3 : w2.cell? ⟨w.heap.size + 1 + 1, 0, none⟩ = some (.bool false) := by rw [blk_cell B3.out]; rfl
        have f3 := blk_frozen B3.out 0
        clear he
        gi_wp2
        have hk0 : KeepsOthers W w2 := ⟨hWg2.size, fun i o hi _ => (hWg2.block (blk_ltO hi)).trans hi⟩
        refine ⟨hk0.trans (KeepsOthers.setCell _ _ _), ⟨x, by simp, HE.out⟩, ?_, ?_⟩
        · exact (Below.trans (Below.mono (HX.out.2.trans hWg2) (by have := HG0.out.2; have := hg6w.size; omega)) (Below.refl _ _)).setCell (p := ⟨w.heap.size + 1 + 1, 0, none⟩) (by show w.heap.size ≤ w.heap.size + 1 + 1; omega) _
        · exact blk_set B3.out 0 _
  case hIx =>
    rintro s X Y ⟨h1, h2, h3⟩ hb
    have hs := HG0.out.2
    have hs6 := hg6w.size
    exact ⟨h1, h2.trans (hb.mono (by omega)), (hb.block _ (by omega)).trans h3⟩
  case done =>
    rintro D xs W hD rfl ⟨hall, hg⟩ hK
    have hW3 : Grew w0 W := hg6w.trans hg
    have B3 := Lib.hid ((hW3.block (by have := HG0.out.2; omega)).trans HB.out)
    have d3 : W.cell? ⟨w.heap.size + 1 + 1, 0, none⟩ = some (.bool false) := by rw [blk_cell B3.out]; rfl
    have f3 := blk_frozen B3.out 0
    go_wp2_with fail
    have hkk : KeepsOthers W (W.setCell ⟨w.heap.size + 1 + 1, 0, none⟩ (.bool true)) := KeepsOthers.setCell _ _ _
    have hK2 := hkk.same _ _ hK rfl
    have b3 : (W.setCell ⟨w.heap.size + 1 + 1, 0, none⟩ (.bool true)).heap[w.heap.size + 1 + 1]? = some (.cells #[.bool true] 4 (0, 0)) := blk_set B3.out 0 _
    have hbl : Below w.heap.size w (W.setCell ⟨w.heap.size + 1 + 1, 0, none⟩ (.bool true)) :=
      (HG0.out.1.trans hW3).below.setCell (p := ⟨w.heap.size + 1 + 1, 0, none⟩) (by show w.heap.size ≤ w.heap.size + 1 + 1; omega) _
    generalize W.setCell ⟨w.heap.size + 1 + 1, 0, none⟩ (.bool true) = wz at *
    rw [hvars, vldB_yes hall]
    have hD2 : ∀ k, k < w.heap.size + 3 → k ≠ D := fun k hk => by have := HG0.out.2; have := hg6w.size; omega
    refine ⟨by simp, .inl ⟨_, _, rfl, run_takeDeferred hK2, ?_⟩⟩
    refine ⟨_, results_cell1 rfl _ _ ⟨w.heap.size + 1 + 1, 0, none⟩ _ rfl
      (loadVar_one _ _ _ _ _ _ ((World.putObj_heap_other (hD2 _ (by omega))).trans b3) Tryz.underlying4 rfl), rfl, ?_⟩
    exact Below.trans hbl (below_putObj _ (by have := HG0.out.2; have := hg6w.size; omega) hK2)
  case stop =>
    rintro D pre W hD hpre ⟨⟨x, hx, hne⟩, hb, b3⟩ hK
    refine wpIn_wide.2 ?_
    go_wp2_with fail
    rw [hvars, vldB_no (hpre.subset hx) hne]
    have hD2 : ∀ k, k < w.heap.size + 3 → k ≠ D := fun k hk => by have := HG0.out.2; have := hg6w.size; omega
    refine ⟨by simp, .inl ⟨_, _, rfl, run_takeDeferred hK, ?_⟩⟩
    refine ⟨_, results_cell1 rfl _ _ ⟨w.heap.size + 1 + 1, 0, none⟩ _ rfl
      (loadVar_one _ _ _ _ _ _ ((World.putObj_heap_other (hD2 _ (by omega))).trans b3) Tryz.underlying4 rfl), rfl, ?_⟩
    have h06 : Below w.heap.size w w6 := (HG0.out.1.trans hg6w)
    exact Below.trans (Below.trans h06 hb) (below_putObj _ (by have := HG0.out.2; have := hg6w.size; omega) hK)
end Go.Proofs.YtopjgcbhjhhlfaaGreat


/- IsValidInAlgebra of the program, at an algebra. -/
namespace Go.Proofs.YtopjgcbhjhhlfaaGreat
open Go.RowKit
open Fm (Nd Tree)

theorem kd_get9 {xs : List Nd} {i : Nat} (hi : i < xs.length) : kd xs i = (xs[i]).1 ∧ sy xs i = (xs[i]).2 := ⟨by simp [kd, List.getD, hi], by simp [sy, List.getD, hi]⟩
theorem vs_enc9 (t : Tree) : Vs (Fm.enc t) := by
  intro i hi h0
  obtain ⟨e1, e2⟩ := kd_get9 hi
  rw [e1] at h0
  rw [e2]
  rcases enc_nd t _ (List.getElem_mem hi) with h | h | h | h | h | h | h
  · obtain ⟨_, v, h2, h3⟩ := h; omega
  all_goals (rw [h] at h0; exact absurd h0 (by decide))
def GivesVa (w : World) (n : Nat) (B : List Nat) (xs : List Nd) (e : Ending) (w' : World) : Prop :=
  ∃ b c, e = .returned (.tuple #[.bool b, .int .i64 c]) ∧ (∀ t, xs = Fm.enc t → fmB xs = true → n * (mbs (vm xs)).length ≤ 16 → c = 0 ∧ b = vldB (frm n B) (mbs (vm xs)) t) ∧ Grew w w'
set_option maxHeartbeats 4000000 in
set_option maxRecDepth 20000 in
theorem isValidAlg_c (n : Nat) (v va : Value) (B : List Nat) (xs : List Nd) (w : World) (h : Ints w v (zs B)) (ha : Nodes w va xs) (hA : Alg n B) (hx : xs.length ≤ 1048576) :
    Calls Tryz.prog 15 #[.agg #[.int .i64 (n : Int), v], va] w (GivesVa w n B xs) := by
  have hn5 := hA.le
  have KA := Lib.hid (fun W (hW : Grew w W) => isModalAlgebra_c (n : Int) v (zs B) W (h.grew hW))
  rw [algB_of hA] at KA
  have KF := Lib.hid (fun W (hW : Grew w W) => isFormula_g va xs W (ha.grew hW) (by omega))
  have KR := Lib.hid (fun W (hW : Grew w W) => algFrame_c n v B W (h.grew hW) hA)
  have HA := Lib.hid ha
  have HAL := Lib.hid hA
  have hlB := hA.len
  obtain ⟨A, c, rfl⟩ := ints_slice h
  obtain ⟨A1, c1, rfl⟩ := nodes_slice ha
  obtain ⟨w1, hw1⟩ : ∃ w1, w1 = w.alloc (.cells #[.int .i64 (n : Int), .slice A (zs B).length c] 26) := ⟨_, rfl⟩
  have hal : Grew w w1 := by rw [hw1]; exact (Grew.refl w).alloc _
  have hb0 : w1.heap[w.heap.size]? = some (.cells #[.int .i64 (n : Int), .slice A (zs B).length c] 26 (0, 0)) := by rw [hw1]; exact blk_new w _
  have c0 : ∀ W, Grew w1 W → W.cell? ⟨w.heap.size, 0, none⟩ = some (.int .i64 (n : Int)) := fun W hW => by rw [blk_cell ((hW.block (blk_lt hb0)).trans hb0)]; rfl
  have c2 : ∀ W, Grew w1 W → W.cell? ⟨w.heap.size, 1, none⟩ = some (.slice A (zs B).length c) := fun W hW => by rw [blk_cell ((hW.block (blk_lt hb0)).trans hb0)]; rfl
  have HG := Lib.hid hal
  clear h ha hal hb0 hA hlB
  generalize hl : (zs B).length = lB at *
  generalize hxl : xs.length = nx at *
  have d0 := c0 _ (Grew.refl w1)
  have d1 := c2 _ (Grew.refl w1)
  cases hf : fmB xs with
  | false =>
    rw [hf] at KF
    go_enter Tryz.func15, Tryz.ntmps15
    go_wp2_with fail
    simp only [← hw1]
    clear hw1
    refine (KA.out _ HG.out).mono ?_
    rintro e w2 ⟨rfl, hg2⟩
    go_wp2_with fail
    refine (KF.out _ (HG.out.trans hg2)).mono ?_
    rintro e w3 ⟨rfl, hg3⟩
    go_wp2_with fail
    go_ret2
    exact ⟨_, _, rfl, (fun t _ h => by rw [hf] at h; cases h), HG.out.trans (hg2.trans hg3)⟩
  | true =>
    rw [hf] at KF
    obtain ⟨t, rfl, h40⟩ := fmB_tree hf
    have hvm : vm (Fm.enc t) < 2 ^ 6 := by have := vmK_lt (vs_enc9 t) (Fm.enc t).length (Nat.le_refl _); unfold vm; exact this
    have hvl : (mbs (vm (Fm.enc t))).length ≤ 6 := by
      have e : mbs (vm (Fm.enc t)) = mb (vm (Fm.enc t)) 6 := mb_top hvm 30 (by omega)
      rw [e]
      exact mb_len _ _
    have KV := Lib.hid (fun b W (hc : W.cell? ⟨b, 0, none⟩ = some (Value.slice A1 nx c1)) (hb : b < W.heap.size) (hW : Grew w W) => variablesIn_one_c b _ (Fm.enc t) W hc hb (HA.out.grew hW) (vs_enc9 t) (by omega))
    have KS := Lib.hid (fun u W (hu : Ints W u (zs (mbs (vm (Fm.enc t))))) => size_c u _ W hu)
    rw [zs_len] at KS
    have KVD := Lib.hid (fun u W (hW : Grew w W) (hu : Ints W u (zs (frm n B))) (hfit : n * (mbs (vm (Fm.enc t))).length ≤ 16) => frameValid_c u _ (frm n B) t W hu (HA.out.grew hW) (frm_rl B hn5) (by rw [frm_len]; omega) (vs_enc9 t) (by omega) (by rw [frm_len]; exact hfit))
    rw [frm_len] at KVD
    have hmul : IntKind.i64.wrap ((n : Int) * ((mbs (vm (Fm.enc t))).length : Int)) = ((n * (mbs (vm (Fm.enc t))).length : Nat) : Int) := by
      have h1 : n * (mbs (vm (Fm.enc t))).length ≤ 5 * 6 := Nat.mul_le_mul hn5 hvl
      rw [← Int.natCast_mul, IntKind.wrap_i64]; omega
    have hmul2 : wrap64 ((n : Int) * ((mbs (vm (Fm.enc t))).length : Int)) = ((n * (mbs (vm (Fm.enc t))).length : Nat) : Int) := by
      have h1 : n * (mbs (vm (Fm.enc t))).length ≤ 5 * 6 := Nat.mul_le_mul hn5 hvl
      rw [← Int.natCast_mul, wrap64]; omega
    have FIN : Hid (∀ b c W, Grew w W → (n * (mbs (vm (Fm.enc t))).length ≤ 16 → c = 0 ∧ b = vldB (frm n B) (mbs (vm (Fm.enc t))) t) → GivesVa w n B (Fm.enc t) (.returned (.tuple #[.bool b, .int .i64 c])) W) := Lib.hid (fun b c W hW hh => ⟨b, c, rfl, fun t2 e2 _ h16 => by
      have : t2 = t := enc_inj e2.symm
      subst this
      exact hh h16, hW⟩)
    clear hvm h40 hf HA
    generalize vldB (frm n B) (mbs (vm (Fm.enc t))) t = vd at *
    generalize (mbs (vm (Fm.enc t))).length = nv at *
    generalize hmn : n * nv = mn at *
    have hml : mn ≤ 30 := by rw [← hmn]; exact Nat.mul_le_mul hn5 hvl
    have r1 := Grew.refl w1
    go_enter Tryz.func15, Tryz.ntmps15
    go_wp2_with fail
    simp only [← hw1]
    clear hw1
    refine (KA.out _ HG.out).mono ?_
    rintro e w2 ⟨rfl, hg2⟩
    go_wp2_with fail
    refine (KF.out _ (HG.out.trans hg2)).mono ?_
    rintro e w3 ⟨rfl, hg3⟩
    have g3 := hg2.trans hg3
    go_upto_region 3 with fail
    have hBd := g3.drew
    clear d0 d1
    refine wp_region_held_drew (S := fun w' => Grew w1 w') (by kernel_rfl) hBd (fun hHeld => ?_)
    refine wpAnyH_take (i := 0) (oi := ?on1) (v := ?vn1) ?hin1 ?an1 ?bn1 ?cn1 ?qn1 (Or.inl ⟨?dn1, ?hyn1⟩) hHeld ?restn1
    case hin1 => (simp only [List.getElem?_toArray, List.getElem?_cons_zero]; exact rfl)
    case an1 => kernel_rfl
    case bn1 => kernel_rfl
    case cn1 => kernel_rfl
    case qn1 => exact fun _ _ _ h => h
    case dn1 => rfl
    case hyn1 => (intro z hSw; (try dsimp only at hSw); go_simp; (try with_reducible rfl))
    try simp only [Act.put, List.setIfInBounds_toArray, List.set_cons_zero, List.set_cons_succ]
    refine wpAnyH_take (i := 1) (oi := ?on2) (v := ?vn2) ?hin2 ?an2 ?bn2 ?cn2 ?qn2 (Or.inl ⟨?dn2, ?hyn2⟩) hHeld ?restn2
    case hin2 => (simp only [List.getElem?_toArray, List.getElem?_cons_succ, List.getElem?_cons_zero]; exact rfl)
    case an2 => kernel_rfl
    case bn2 => kernel_rfl
    case cn2 => kernel_rfl
    case qn2 => exact fun _ _ _ h => h
    case dn2 => rfl
    case hyn2 => (intro z hSw; (try dsimp only at hSw); go_simp; (try with_reducible rfl))
    try simp only [Act.put, List.setIfInBounds_toArray, List.set_cons_zero, List.set_cons_succ]
    refine wpAnyH_take (i := 2) (oi := ?on3) (v := ?vn3) ?hin3 ?an3 ?bn3 ?cn3 ?qn3 (Or.inl ⟨?dn3, ?hyn3⟩) hHeld ?restn3
    case hin3 => (simp only [List.getElem?_toArray, List.getElem?_cons_succ, List.getElem?_cons_zero]; exact rfl)
    case an3 => kernel_rfl
    case bn3 => kernel_rfl
    case cn3 => kernel_rfl
    case qn3 => exact fun _ _ _ h => h
    case dn3 => rfl
    case hyn3 => (intro z hSw; (try dsimp only at hSw); go_simp; (try with_reducible rfl))
    try simp only [Act.put, List.setIfInBounds_toArray, List.set_cons_zero, List.set_cons_succ]
    refine wpAnyH_ready (rs := [3]) (by kernel_rfl) (by simp) ?_
    refine AllReadyH.cons (o := ?on4) ?hin4 ?restn4 AllReadyH.nil
    case hin4 => (simp only [List.getElem?_toArray, List.getElem?_cons_succ, List.getElem?_cons_zero]; exact rfl)
    intro K hK
    go_simp
    refine hK.out _ _ ?_ (fun hHeld => ?_)
    · (try dsimp only); first | with_reducible assumption | exact Grew.alloc ‹_› _
    clear hK K
    try simp only [Act.put, List.setIfInBounds_toArray, List.set_cons_zero, List.set_cons_succ]
    refine wpAnyH_ready (rs := [4]) (by kernel_rfl) (by simp) ?_
    refine AllReadyH.cons (o := ?on5) ?hin5 ?restn5 AllReadyH.nil
    case hin5 => (simp only [List.getElem?_toArray, List.getElem?_cons_succ, List.getElem?_cons_zero]; exact rfl)
    intro K hK
    go_simp
    go_at_call 46
    refine (KV.out _ _ (by first | simp; done | exact (blk_cell (blk_new w3.drew _) 0).trans rfl) (by first | simp; done | exact blk_lt (blk_new w3.drew _)) (HG.out.trans (hBd.alloc _))).mono ?_
    rintro e w4 ⟨r4, rfl, hr4, hgw4⟩
    have HR4 := Lib.hid hr4.ints
    clear hr4
    have h4 : Grew w1 w4 := (hBd.alloc _).trans hgw4
    refine hK.out _ _ ?_ (fun hHeld => ?_)
    · (try dsimp only); first | with_reducible assumption | exact Grew.alloc ‹_› _
    clear hK K
    try simp only [Act.put, List.setIfInBounds_toArray, List.set_cons_zero, List.set_cons_succ]
    refine wpAnyH_ready (rs := [5]) (by kernel_rfl) (by simp) ?_
    refine AllReadyH.cons (o := ?on6) ?hin6 ?restn6 AllReadyH.nil
    case hin6 => (simp only [List.getElem?_toArray, List.getElem?_cons_succ, List.getElem?_cons_zero]; exact rfl)
    intro K hK
    go_simp
    go_at_call 29
    refine (KS.out _ _ HR4.out).mono ?_
    rintro e w5 ⟨rfl, hgw5⟩
    have h5 : Grew w1 w5 := h4.trans hgw5
    refine hK.out _ _ ?_ (fun hHeld => ?_)
    · (try dsimp only); first | with_reducible assumption | exact Grew.alloc ‹_› _
    clear hK K
    try simp only [Act.put, List.setIfInBounds_toArray, List.set_cons_zero, List.set_cons_succ]
    refine wpAnyH_take (i := 6) (oi := ?on7) (v := ?vn7) ?hin7 ?an7 ?bn7 ?cn7 ?qn7 (Or.inl ⟨?dn7, ?hyn7⟩) hHeld ?restn7
    case hin7 => (simp only [List.getElem?_toArray, List.getElem?_cons_succ, List.getElem?_cons_zero]; exact rfl)
    case an7 => kernel_rfl
    case bn7 => kernel_rfl
    case cn7 => kernel_rfl
    case qn7 => exact fun _ _ _ h => h
    case dn7 => rfl
    case hyn7 => (intro z hSw; (try dsimp only at hSw); go_simp; (try with_reducible rfl))
    try simp only [Act.put, List.setIfInBounds_toArray, List.set_cons_zero, List.set_cons_succ]
    refine wpAnyH_take (i := 7) (oi := ?on8) (v := ?vn8) ?hin8 ?an8 ?bn8 ?cn8 ?qn8 (Or.inl ⟨?dn8, ?hyn8⟩) hHeld ?restn8
    case hin8 => (simp only [List.getElem?_toArray, List.getElem?_cons_succ, List.getElem?_cons_zero]; exact rfl)
    case an8 => kernel_rfl
    case bn8 => kernel_rfl
    case cn8 => kernel_rfl
    case qn8 => exact fun _ _ _ h => h
    case dn8 => rfl
    case hyn8 => (intro z hSw; (try dsimp only at hSw); go_simp; (try with_reducible rfl))
    try simp only [Act.put, List.setIfInBounds_toArray, List.set_cons_zero, List.set_cons_succ]
    refine wpAnyH_take (i := 8) (oi := ?on9) (v := ?vn9) ?hin9 ?an9 ?bn9 ?cn9 ?qn9 (Or.inl ⟨?dn9, ?hyn9⟩) hHeld ?restn9
    case hin9 => (simp only [List.getElem?_toArray, List.getElem?_cons_succ, List.getElem?_cons_zero]; exact rfl)
    case an9 => kernel_rfl
    case bn9 => kernel_rfl
    case cn9 => kernel_rfl
    case qn9 => exact fun _ _ _ h => h
    case dn9 => rfl
    case hyn9 => (intro z hSw; (try dsimp only at hSw); go_simp; (try with_reducible rfl))
    try simp only [Act.put, List.setIfInBounds_toArray, List.set_cons_zero, List.set_cons_succ]
    refine wpAnyH_done (by kernel_rfl) ?_ _
    by_cases h16 : mn ≤ 16
    · have hgt : decide ((16 : Int) < (mn : Int)) = false := decide_eq_false (by omega)
      have hgt2 : ((16 : Int) < (mn : Int)) = False := eq_false (by omega)
      have q0 := c0 _ h5
      have q1 := c2 _ h5
      go_wp2_with fail
      refine (KR.out _ (HG.out.trans h5)).mono ?_
      rintro e w6 ⟨u, rfl, hu6, hg6⟩
      have g6 := h5.trans hg6
      go_wp2_with fail
      refine (KVD.out u _ (HG.out.trans g6) hu6 h16).mono ?_
      rintro e w7 ⟨rfl, hg7⟩
      go_wp2_with fail
      go_ret2
      exact FIN.out _ _ _ (HG.out.trans (g6.trans hg7)) (fun _ => ⟨rfl, rfl⟩)
    · have hgt : decide ((16 : Int) < (mn : Int)) = true := decide_eq_true (by omega)
      have hgt2 : (16 : Int) < (mn : Int) := by omega
      go_wp2_with fail
      go_ret2
      exact FIN.out _ _ _ (HG.out.trans h5) (fun h => absurd h h16)
end Go.Proofs.YtopjgcbhjhhlfaaGreat


/- The reference's values of all models on a frame: l06Values, l06First, l06Valid. -/
namespace Go.Proofs.YtopjgcbhjhhlfaaGreat
open Go.RowKit
open Fm (Nd Tree)

end Go.Proofs.YtopjgcbhjhhlfaaGreat


/- IsValidInAlgebra of the reference, at an algebra. -/
namespace Go.Proofs.YtopjgcbhjhhlfaaGreat
open Go.RowKit
open Fm (Nd Tree)

def GivesVs (w : World) (n : Nat) (B : List Nat) (xs : List Nd) (e : Ending) (w' : World) : Prop :=
  ∃ b c, e = .returned (.tuple #[.bool b, .int .i64 c]) ∧ (c = 0 → b = true → fmB xs = true ∧ n * (mbs (vm xs)).length ≤ 16 ∧ ∀ t, xs = Fm.enc t → vldA n B (mbs (vm xs)) t = true) ∧ Grew w w'
def QA (n : Nat) (vars : List Nat) (num k : Nat) (f : Nat → Nat) : Prop := (∀ p, p < k → p < vars.length → f (nt vars p) = dgs n num p) ∧ ∀ i, i < 6 → i ∉ vars → f i = 0
theorem QA.set {n : Nat} {vars : List Nat} (hn : vars.Nodup) {num k : Nat} {f f' : Nat → Nat} (h : QA n vars num k f) (hj : k < vars.length) (h1 : f' (nt vars k) = dgs n num k) (h2 : ∀ i, i ≠ nt vars k → f' i = f i) : QA n vars num (k + 1) f' := by
  refine ⟨fun p hp hpl => ?_, fun i hi hv => ?_⟩
  · by_cases hpj : p = k
    · subst hpj; exact h1
    · rw [h2 _ (fun e => hpj (nt_inj hn hpl hj e))]
      exact h.1 p (by omega) hpl
  · rw [h2 _ (fun e => hv (by rw [e]; exact nt_mem hj))]
    exact h.2 i hi hv
theorem QA.again {n : Nat} {vars : List Nat} {num num' k : Nat} {f : Nat → Nat} (h : QA n vars num k f) : QA n vars num' 0 f := ⟨fun p hp => absurd hp (by omega), h.2⟩
theorem QA.row9 {n : Nat} {vars : List Nat} {num : Nat} {f : Nat → Nat} (h : QA n vars num vars.length f) : (List.range 6).map f = vas n vars num := by
  unfold vas
  refine List.map_congr_left fun v hv => ?_
  have hv := List.mem_range.1 hv
  by_cases hm : v ∈ vars
  · have hi := List.idxOf_lt_length_of_mem hm
    have e2 : nt vars (vars.idxOf v) = v := by rw [← nt_get hi]; exact List.getElem_idxOf hi
    rw [if_pos hm]
    have h1 := h.1 _ hi hi
    rw [e2] at h1
    exact h1
  · rw [if_neg hm]
    exact h.2 v hv hm
theorem vas_len (n : Nat) (vars : List Nat) (num : Nat) : (vas n vars num).length = 6 := by simp [vas]
theorem dgs_and (n num p : Nat) : num / 2 ^ (p * n) &&& full n = dgs n num p := by
  unfold full dgs
  exact Nat.and_two_pow_sub_one_eq_mod _ _
theorem dgs_facts (n num k : Nat) (hn : n ≤ 8) (hnum : num ≤ 65536) : bits .and .i64 ((num : Int) / 2 ^ (k * n)) ((full n : Nat) : Int) = ((dgs n num k : Nat) : Int) := by
  have hkb : num / 2 ^ (k * n) < 9223372036854775808 := Nat.lt_of_le_of_lt (Nat.div_le_self _ _) (by omega)
  have hf : full n < 9223372036854775808 := Nat.lt_of_lt_of_le (full_lt n) (Nat.le_trans (Nat.pow_le_pow_right (by omega) hn) (by decide))
  have h3 := and_i64 (num / 2 ^ (k * n)) (full n) hkb hf
  rw [dgs_and, Int.natCast_ediv, Int.natCast_pow] at h3
  exact h3
theorem vldA_yes {n : Nat} {B vars : List Nat} {t : Tree} (h : ∀ j, j < 2 ^ (n * vars.length) → av n B (vas n vars j) t = full n) : vldA n B vars t = true := by
  unfold vldA
  rw [List.all_eq_true]
  intro j hj
  rw [beq_iff_eq]
  exact h j (List.mem_range.1 hj)
set_option maxHeartbeats 4000000 in
set_option maxRecDepth 20000 in
theorem isValidAlgS_no (n : Nat) (v va : Value) (B : List Nat) (xs : List Nd) (w : World) (h : Ints w v (zs B)) (ha : Nodes w va xs) (hA : Alg n B) (hx : xs.length ≤ 1048576) (hf : fmB xs = false) :
    Calls Tryz.prog 14 #[.agg #[.int .i64 (n : Int), v], va] w (GivesVs w n B xs) := by
  have KA := Lib.hid (fun W (hW : Grew w W) => l15Is_c (n : Int) v (zs B) W (h.grew hW))
  rw [algB_of hA] at KA
  have KF := Lib.hid (fun W (hW : Grew w W) => l02Is_c va xs W (ha.grew hW) (by omega))
  rw [hf] at KF
  obtain ⟨A, c, rfl⟩ := ints_slice h
  obtain ⟨A1, c1, rfl⟩ := nodes_slice ha
  obtain ⟨w1, hw1⟩ : ∃ w1, w1 = w.alloc (.cells #[.int .i64 (n : Int), .slice A (zs B).length c] 26) := ⟨_, rfl⟩
  have hal : Grew w w1 := by rw [hw1]; exact (Grew.refl w).alloc _
  have hb0 : w1.heap[w.heap.size]? = some (.cells #[.int .i64 (n : Int), .slice A (zs B).length c] 26 (0, 0)) := by rw [hw1]; exact blk_new w _
  have c0 : ∀ W, Grew w1 W → W.cell? ⟨w.heap.size, 0, none⟩ = some (.int .i64 (n : Int)) := fun W hW => by rw [blk_cell ((hW.block (blk_lt hb0)).trans hb0)]; rfl
  have c2 : ∀ W, Grew w1 W → W.cell? ⟨w.heap.size, 1, none⟩ = some (.slice A (zs B).length c) := fun W hW => by rw [blk_cell ((hW.block (blk_lt hb0)).trans hb0)]; rfl
  have HG := Lib.hid hal
  clear h ha hal hb0 hA
  generalize hl : (zs B).length = lB at *
  generalize hxl : xs.length = nx at *
  have d0 := c0 _ (Grew.refl w1)
  have d1 := c2 _ (Grew.refl w1)
  clear hl hxl
  go_enter Tryz.func14, Tryz.ntmps14
  go_wp2_with fail
  simp only [← hw1]
  clear hw1
  refine (KA.out _ HG.out).mono ?_
  rintro e w2 ⟨rfl, hg2⟩
  go_wp2_with fail
  refine (KF.out _ (HG.out.trans hg2)).mono ?_
  rintro e w3 ⟨rfl, hg3⟩
  go_wp2_with fail
  go_ret2
  exact ⟨_, _, rfl, (fun h => by cases h), HG.out.trans (hg2.trans hg3)⟩
set_option maxHeartbeats 4000000 in
set_option maxRecDepth 20000 in
theorem isValidAlgS_c (n : Nat) (v va : Value) (B : List Nat) (xs : List Nd) (w : World) (h : Ints w v (zs B)) (ha : Nodes w va xs) (hA : Alg n B) (hx : xs.length ≤ 1048576) :
    Calls Tryz.prog 14 #[.agg #[.int .i64 (n : Int), v], va] w (GivesVs w n B xs) := by
  cases hf : fmB xs with
  | false => exact isValidAlgS_no n v va B xs w h ha hA hx hf
  | true =>
  have hn5 := hA.le
  have hmk : ∀ W : World, (Instr.makeSlice 24 (.int .i64 6) (.int .i64 6)).run Tryz.prog W = .ok (.slice (some ⟨W.heap.size, 0, none⟩) 6 6) (W.alloc (.cells (madeCells #[Value.int .i64 0] 6) 2)) := fun W => run_make_rows (P := Tryz.prog) 24 2 (.int .i64 0) 1 8 #[.int .i64 0] Tryz.underlying24 Tryz.infoI rfl .i64 .i64 6 (by omega) (by omega) W
  have KA := Lib.hid (fun W (hW : Grew w W) => l15Is_c (n : Int) v (zs B) W (h.grew hW))
  rw [algB_of hA] at KA
  have KF := Lib.hid (fun W (hW : Grew w W) => l02Is_c va xs W (ha.grew hW) (by omega))
  rw [hf] at KF
  obtain ⟨t, rfl, h40⟩ := fmB_tree hf
  have hvs := vs_enc9 t
  have hvm : vm (Fm.enc t) < 2 ^ 6 := by have := vmK_lt hvs (Fm.enc t).length (Nat.le_refl _); unfold vm; exact this
  have hv6 : ∀ x ∈ mbs (vm (Fm.enc t)), x < 6 := fun x hx => mbs_lt (n := 6) hvm hx
  have hvl : (mbs (vm (Fm.enc t))).length ≤ 6 := by
    have e : mbs (vm (Fm.enc t)) = mb (vm (Fm.enc t)) 6 := mb_top hvm 30 (by omega)
    rw [e]
    exact mb_len _ _
  have hnd : (mbs (vm (Fm.enc t))).Nodup := List.Nodup.sublist List.filter_sublist List.nodup_range
  have KV := Lib.hid (fun W (hW : Grew w W) => l02Variables_c va (Fm.enc t) W (ha.grew hW) hvs (by omega))
  have KT := Lib.hid (fun num u W (hW : Grew w W) (hu : Ints W u (zs (vas n (mbs (vm (Fm.enc t))) num))) => value_ok n B _ hA (vas_lt n (mbs (vm (Fm.enc t))) num) (vas_len _ _ _) t v u va W (h.grew hW) hu (ha.grew hW) (by omega))
  have HFU := l01Full_q n (by omega)
  rw [← full_cast] at HFU
  have HFU := Lib.hid HFU
  have hml : n * (mbs (vm (Fm.enc t))).length ≤ 30 := Nat.mul_le_mul hn5 hvl
  have HON := Lib.hid (l01One_q (n * (mbs (vm (Fm.enc t))).length) hml)
  have hmul : IntKind.i64.wrap ((n : Int) * ((mbs (vm (Fm.enc t))).length : Int)) = ((n * (mbs (vm (Fm.enc t))).length : Nat) : Int) := by
    rw [← Int.natCast_mul, IntKind.wrap_i64]; omega
  have hmul2 : wrap64 ((n : Int) * ((mbs (vm (Fm.enc t))).length : Int)) = ((n * (mbs (vm (Fm.enc t))).length : Nat) : Int) := by
    rw [← Int.natCast_mul, wrap64]; omega
  have FIN : Hid (∀ b c W, Grew w W → (c = 0 → b = true → n * (mbs (vm (Fm.enc t))).length ≤ 16 ∧ ∀ j, j < 2 ^ (n * (mbs (vm (Fm.enc t))).length) → av n B (vas n (mbs (vm (Fm.enc t))) j) t = full n) → GivesVs w n B (Fm.enc t) (.returned (.tuple #[.bool b, .int .i64 c])) W) := Lib.hid (fun b c W hW hh => ⟨b, c, rfl, fun h1 h2 => by
    obtain ⟨h3, h4⟩ := hh h1 h2
    refine ⟨hf, h3, fun t2 e2 => ?_⟩
    have : t2 = t := enc_inj e2.symm
    subst this
    exact vldA_yes h4, hW⟩)
  have HDG := Lib.hid (fun num k (hnum : num ≤ 65536) => dgs_facts n num k (by omega) hnum)
  have HAV : Hid (∀ k, av n B (vas n (mbs (vm (Fm.enc t))) k) t = av n B (vas n (mbs (vm (Fm.enc t))) k) t) := Lib.hid (fun _ => rfl)
  have hQV : Hid (∀ num f, QA n (mbs (vm (Fm.enc t))) num (mbs (vm (Fm.enc t))).length f → (List.range 6).map f = vas n (mbs (vm (Fm.enc t))) num) := Lib.hid (fun _ _ h => h.row9)
  obtain ⟨A, c, rfl⟩ := ints_slice h
  obtain ⟨A1, c1, rfl⟩ := nodes_slice ha
  obtain ⟨w1, hw1⟩ : ∃ w1, w1 = w.alloc (.cells #[.int .i64 (n : Int), .slice A (zs B).length c] 26) := ⟨_, rfl⟩
  have hal : Grew w w1 := by rw [hw1]; exact (Grew.refl w).alloc _
  have hb0 : w1.heap[w.heap.size]? = some (.cells #[.int .i64 (n : Int), .slice A (zs B).length c] 26 (0, 0)) := by rw [hw1]; exact blk_new w _
  have c0 : ∀ W, Grew w1 W → W.cell? ⟨w.heap.size, 0, none⟩ = some (.int .i64 (n : Int)) := fun W hW => by rw [blk_cell ((hW.block (blk_lt hb0)).trans hb0)]; rfl
  have c2 : ∀ W, Grew w1 W → W.cell? ⟨w.heap.size, 1, none⟩ = some (.slice A (zs B).length c) := fun W hW => by rw [blk_cell ((hW.block (blk_lt hb0)).trans hb0)]; rfl
  have HG := Lib.hid hal
  clear h ha hal hb0 hA hf hx hvm hvs h40
  generalize hl : (zs B).length = lB at *
  generalize hxl : (Fm.enc t).length = nx at *
  clear hl hxl
  generalize mbs (vm (Fm.enc t)) = vars at *
  generalize full n = FU at *
  generalize hmn : n * vars.length = q at *
  have HMN := Lib.hid hmn
  clear hmn
  have d0 := c0 _ (Grew.refl w1)
  have d1 := c2 _ (Grew.refl w1)
  go_enter Tryz.func14, Tryz.ntmps14
  go_wp2_with fail
  simp only [← hw1]
  clear hw1
  refine (KA.out _ HG.out).mono ?_
  rintro e w2 ⟨rfl, hg2⟩
  go_wp2_with fail
  refine (KF.out _ (HG.out.trans hg2)).mono ?_
  rintro e w3 ⟨rfl, hg3⟩
  have g3 := hg2.trans hg3
  go_wp2_with fail
  refine (KV.out _ (HG.out.trans g3)).mono ?_
  rintro e w4 ⟨u4, rfl, hO4, hg4⟩
  have g4 := g3.trans hg4
  obtain ⟨AV, cV, rfl⟩ := ints_sliceN hO4.ints
  have HI4 := Lib.hid hO4.ints
  have HVC := Lib.hid (fun h0 => cellsN HI4.out h0)
  have e0 := c0 _ g4
  clear hO4 hg2 hg3 hg4 g3 d0 d1 KA KF KV
  by_cases h16 : q ≤ 16
  · have hgt : decide ((16 : Int) < (q : Int)) = false := decide_eq_false (by omega)
    have hgt2 : ((16 : Int) < (q : Int)) = False := eq_false (by omega)
    have hM : 2 ^ q ≤ 65536 := Nat.le_trans (Nat.pow_le_pow_right (by omega) h16) (by decide)
    generalize hPe : (2 ^ q : Nat) = M at *
    obtain ⟨wa, hwa⟩ : ∃ wa, wa = w4.alloc (.cells (madeCells #[Value.int .i64 0] 6) 2) := ⟨_, rfl⟩
    have hga : Grew w4 wa := by rw [hwa]; exact (Grew.refl w4).alloc _
    have hR0 : NRow wa w4.heap.size 6 6 (fun _ => 0) := ⟨_, by rw [hwa]; exact blk_new w4 _, size_madeCells _ _, Nat.le_refl _, by omega, fun i hi => made_z hi⟩
    have HVK := Lib.hid (fun W (hW : Only w4.heap.size wa W) => hW.grew_of hga (Nat.le_refl _))
    have HR0 := Lib.hid hR0
    have HO0 := Lib.hid (Only.refl w4.heap.size wa)
    have HQ0 : Hid (QA n vars 0 0 (fun _ => 0)) := Lib.hid ⟨fun p hp => absurd hp (by omega), fun _ _ _ => rfl⟩
    clear hR0 hga
    go_wp2_with fail
    simp only [← hwa]
    clear hwa
    go_loopw [9] (fun i wr => ∃ (num : Nat) (f : Nat → Nat), num ≤ M ∧ i = .int .i64 (num : Int) ∧ Hid (Only w4.heap.size wa wr) ∧ Hid (NRow wr w4.heap.size 6 6 f) ∧ Hid (QA n vars num 0 f) ∧ Hid (∀ j, j < num → av n B (vas n vars j) t = FU)) (fun i _ => M - (intOf i).toNat)
    case atStart => exact ⟨0, _, by omega, rfl, HO0, HR0, HQ0, Lib.hid (fun j hj => absurd hj (by omega))⟩
    case round =>
      obtain ⟨num, f, hnum, rfl, hO, hR, hQ, hall⟩ := hrel
      by_cases hlt : num < M
      · go_wp2_with fail
        refine (HON.out _).mono ?_
        rintro e w5 ⟨rfl, hw5⟩
        rw [hw5]
        clear hw5
        go_wp2_with fail
        go_loopw [10] (fun i wr => ∃ (k : Nat) (f : Nat → Nat), k ≤ vars.length ∧ i = .int .i64 (k : Int) ∧ Hid (Only w4.heap.size wa wr) ∧ Hid (NRow wr w4.heap.size 6 6 f) ∧ Hid (QA n vars num k f)) (fun i _ => vars.length - (intOf i).toNat)
        case atStart => exact ⟨0, _, by omega, rfl, hO, hR, hQ⟩
        case round =>
          clear hO hR hQ
          obtain ⟨k, f, hk, rfl, hO, hR, hQ⟩ := hrel
          by_cases hlk : k < vars.length
          · obtain ⟨b, o, rfl, hvc⟩ := HVC.out (by omega)
            have c5 := fun W (hW : Only w4.heap.size wa W) => c0 W (g4.trans (HVK.out W hW))
            have hcv := fun W (hW : Only w4.heap.size wa W) => hvc k hlk W (HVK.out W hW)
            have hvk6 := hv6 _ (nt_mem hlk)
            have hbit := HDG.out num k (by omega)
            have c6 := fun W (hW : Grew wr W) => (hR.out.grew hW).cell hvk6
            have c7 := fun W (hW : Grew wr W) => (hR.out.grew hW).free (nt vars k)
            have r2 := (Grew.refl wr).drew
            have e2 := hO.out.drew
            have hb0 : (0 : Int) ≤ (k : Int) := by omega
            have hb1 : (k : Int) < (vars.length : Int) := by omega
            have hb2 : (0 : Int) ≤ (nt vars k : Int) := by omega
            have hb3 : (nt vars k : Int) < 6 := by omega
            have hkn : k * n ≤ 30 := by
              have h1 : k * n ≤ 6 * 5 := Nat.mul_le_mul (by omega) hn5
              omega
            have hkm : IntKind.i64.wrap ((k : Int) * (n : Int)) = ((k * n : Nat) : Int) := by
              rw [← Int.natCast_mul, IntKind.wrap_i64]; omega
            have hR3 := Lib.hid ((hR.out.set (f' := fun q => if q = nt vars k then dgs n num k else f q) hvk6 (if_pos rfl) (fun q _ hq => if_neg hq)).grew (Grew.refl _).drew)
            have hQ3 := Lib.hid (hQ.out.set (f' := fun q => if q = nt vars k then dgs n num k else f q) hnd hlk (if_pos rfl) (fun q hq => if_neg hq))
            have hO3 := Lib.hid ((hO.out.setCell (o := nt vars k) (.int .i64 ((dgs n num k : Nat) : Int))).drew)
            generalize k * n = p at *
            have hp64 : (p : Int) < 64 := by omega
            have hp64' : p < 64 := by omega
            have hpm : min p 64 = p := by omega
            generalize dgs n num k = D at *
            have hbit2 : bits .and .i64 ((num : Int) / 2 ^ min p 64) (FU : Int) = (D : Int) := by rw [hpm]; exact hbit
            clear hvc hmul hmul2 HDG hnd hv6
            have hwz : w4.heap.size ≤ wr.heap.size := Nat.le_of_lt hR.out.lt
            go_wp2_with fail
            go_region_held3 (fun w' => Only w4.heap.size wa w') (first | assumption | exact Only.setCell ‹_› _ | exact Only.drew ‹_›) (first
              | (go_at_call 34; refine (HFU.out _).mono ?_; rintro e w9 ⟨rfl, hw9⟩; rw [hw9]; clear hw9))
            have c8 := c5 _ hO3.out
            clear c5 hcv c6 c7 e2 r2 hO hR hQ
            go_wp2_with fail
            go_roundw
            case rel =>
              rw [hpm, hbit]
              exact ⟨k + 1, _, by omega, by go_num, hO3, hR3, hQ3⟩
            case measure => simp [intOf] <;> omega
          · obtain rfl : k = vars.length := by omega
            have hI := hR.out.ints
            rw [hQV.out _ _ hQ.out] at hI
            have HI := Lib.hid hI
            clear hI
            have gr := HG.out.trans (g4.trans (HVK.out _ hO.out))
            have gw := g4.trans (HVK.out _ hO.out)
            have KTN := Lib.hid (fun W (hW : Grew wr W) => KT.out num _ W (gr.trans hW) (HI.out.grew hW))
            have HRR := Lib.hid (fun W (hW : Grew wr W) => hR.out.grew hW)
            have HOO := Lib.hid (fun W (hW : Grew wr W) => hO.out.grew hW)
            have HQQ : Hid (QA n vars (num + 1) 0 f) := Lib.hid hQ.out.again
            have HGR := Lib.hid gr
            have c5 := fun W (hW : Grew wr W) => c0 W (gw.trans hW)
            have c6 := fun W (hW : Grew wr W) => c2 W (gw.trans hW)
            have r2 := (Grew.refl wr).drew
            have hall2 := Lib.hid (fun (he : av n B (vas n vars num) t = FU) => show ∀ j, j < num + 1 → av n B (vas n vars j) t = FU from fun j hj => by
              by_cases hjn : j = num
              · rw [hjn]; exact he
              · exact hall.out j (by omega))
            clear hR hO hQ HI gr gw hmul hmul2 HDG hnd hv6 KT
            generalize hav : av n B (vas n vars num) t = Y at *
            by_cases he : Y = FU
            · have HE := Lib.hid (hall2.out he)
              have hq3 : ((Y : Int) != (FU : Int)) = false := by rw [bne_eq_false_iff_eq]; omega
              clear he hall2 hav
              go_wp2_with fail
              go_region_held3 (fun w' => Grew wr w') (first | assumption | exact Grew.trans ‹_› ‹_›) (first
                | (go_at_call 44; refine (KTN.out _ (by assumption)).mono ?_; rintro e w9 ⟨rfl, hg9⟩; have h9 : Grew wr w9 := Grew.trans (by assumption) hg9)
                | (go_at_call 34; refine (HFU.out _).mono ?_; rintro e w8 ⟨rfl, hw8⟩; rw [hw8]; clear hw8))
              all_goals
                have hO9 := Lib.hid (HOO.out _ h9)
                have hR9 := Lib.hid (HRR.out _ h9)
                go_wp2_with fail
                go_roundw
                case rel => exact ⟨num + 1, f, by omega, by go_num, hO9, hR9, HQQ, HE⟩
                case measure => simp [intOf]; omega
            · have hq3 : ((Y : Int) != (FU : Int)) = true := by rw [bne_iff_ne]; omega
              clear he hall2 hav
              go_wp2_with fail
              go_region_held3 (fun w' => Grew wr w') (first | assumption | exact Grew.trans ‹_› ‹_›) (first
                | (go_at_call 44; refine (KTN.out _ (by assumption)).mono ?_; rintro e w9 ⟨rfl, hg9⟩; have h9 : Grew wr w9 := Grew.trans (by assumption) hg9)
                | (go_at_call 34; refine (HFU.out _).mono ?_; rintro e w8 ⟨rfl, hw8⟩; rw [hw8]; clear hw8))
              all_goals
                have g9 := HGR.out.trans h9
                go_wp2_with fail
                go_ret2
                exact FIN.out _ _ _ g9 (fun _ h => by cases h)
      · obtain rfl : num = M := by omega
        go_wp2_with fail
        refine (HON.out _).mono ?_
        rintro e w5 ⟨rfl, hw5⟩
        rw [hw5]
        clear hw5
        go_wp2_with fail
        go_ret2
        exact FIN.out _ _ _ ((HG.out.trans g4).trans (HVK.out _ hO.out)) (fun _ _ => ⟨h16, fun j hj => hall.out j hj⟩)
  · have hgt : decide ((16 : Int) < (q : Int)) = true := decide_eq_true (by omega)
    have hgt2 : (16 : Int) < (q : Int) := by omega
    go_wp2_with fail
    go_ret2
    exact FIN.out _ _ _ (HG.out.trans g4) (fun h => by cases h)
end Go.Proofs.YtopjgcbhjhhlfaaGreat


/- l15Draw of the reference: a modal algebra, rarely something else. -/
namespace Go.Proofs.YtopjgcbhjhhlfaaGreat
open Go.RowKit

def GivesDa (g : Nat) (cv : Value) (N : Nat) (w : World) (e : Ending) (w' : World) : Prop := ∃ v sz L, e = .returned (.agg #[.int .i64 sz, v]) ∧ OwnI w' w.heap.size v L ∧ 1 ≤ L.length ∧ L.length ≤ 32 ∧ Src w' g cv N ∧ Only g w w'
set_option maxRecDepth 100000 in
set_option maxHeartbeats 2000000 in
theorem l15Draw_c (g : Nat) (cv : Value) (N : Nat) (m : Nat) (hm5 : m ≤ 5) (w : World) (h : Src w g cv N) :
    Calls Tryz.prog 17 #[.pointer (some ⟨g, 0, none⟩), .int .i64 (m : Int)] w (GivesDa g cv N w) := by
  have hinfo : (Tryz.prog.info? 26).map (·.size) = some 2 := by kernel_rfl
  have hgl := h.lt
  have hS0 := h.grew ((Grew.refl w).alloc (.cells #[.int .i64 0, .slice none 0 0] 26))
  have HS := Lib.hid hS0
  have HB0 := Lib.hid (blk_new w (.cells #[.int .i64 0, .slice none 0 0] 26))
  have hU0 := ((Grew.refl w).alloc (.cells #[.int .i64 0, .slice none 0 0] 26)).only (g := g)
  have hsz0 : (w.alloc (.cells #[.int .i64 0, .slice none 0 0] 26)).heap.size = w.heap.size + 1 := by simp
  have HSZ := Lib.hid hsz0
  obtain ⟨w0, hw0⟩ : ∃ w0, w0 = w.alloc (.cells #[.int .i64 0, .slice none 0 0] 26) := ⟨_, rfl⟩
  rw [← hw0] at HS HB0 HSZ hU0
  clear h hS0 hsz0
  go_enter Tryz.func17, Tryz.ntmps17
  go_wp2_with fail
  simp only [← hw0]
  clear hw0
  refine (l15Some_c g cv N m hm5 w0 HS.out).mono ?_
  rintro e w1 ⟨n, v1, L1, rfl, hO1, hn1, hl1, hS1, ho1⟩
  have HO1 := Lib.hid hO1
  have hlk : (zs L1).length ≤ 32 := by
    rw [zs_len, hl1]
    exact Nat.le_trans (Nat.pow_le_pow_right (by omega) (Nat.le_trans hn1 hm5)) (by decide)
  have hl0 : 1 ≤ (zs L1).length := by rw [zs_len, hl1]; exact Nat.two_pow_pos n
  clear hO1 hl1
  generalize zs L1 = K at *
  obtain ⟨A, c, rfl⟩ := ints_slice HO1.out.ints
  have HS1 := Lib.hid hS1
  clear hS1
  have hga := (Grew.refl w1).alloc (.cells #[.int .i64 (n : Int), .slice A K.length c] 26)
  have hbx := blk_new w1 (.cells #[.int .i64 (n : Int), .slice A K.length c] 26)
  have hp0 := ho1.size
  have hsa : (w1.alloc (.cells #[.int .i64 (n : Int), .slice A K.length c] 26)).heap.size = w1.heap.size + 1 := by simp
  obtain ⟨wk, hwk⟩ : ∃ wk, wk = w1.alloc (.cells #[.int .i64 (n : Int), .slice A K.length c] 26) := ⟨_, rfl⟩
  rw [← hwk] at hga hbx hsa
  have HP := Lib.hid (And.intro hga (And.intro hbx (And.intro hp0 hsa)))
  clear hga hbx hp0 hsa
  go_wp2_with fail
  simp only [← hwk]
  clear hwk
  obtain ⟨hga, hbx, hp0, hsa⟩ := HP.out
  have hUk := ho1.grew hga
  have hgp : g ≠ w1.heap.size := by have := HSZ.out; omega
  have HBX := Lib.hid hbx
  have hpb1 : w1.heap.size < wk.heap.size := by omega
  have HOK := Lib.hid (HO1.out.grew hga)
  have hap : ∀ k, (Value.slice A K.length c).ownBlock = some k → k = w1.heap.size → False := fun k hk he => by have := (HO1.out.lt k hk).2; omega
  have HSK := Lib.hid (HS1.out.grew hga)
  clear hga hbx hsa HP HS1 HO1 ho1
  generalize w1.heap.size = pb at *
  have hpb0 : w0.heap.size ≤ pb := hp0
  clear hp0
  refine (l01Next_c g cv N 20 wk HSK.out (by omega)).mono ?_
  rintro e wn ⟨sw, rfl, hsw0, hsw1, _, hSn, hon⟩
  have hUn := hUk.trans hon
  have HBX := Lib.hid ((hon.block hpb1 (by omega)).trans HBX.out)
  have HOn := Lib.hid (own_srcI HOK.out (by have := HSZ.out; omega) hon)
  have HSn := Lib.hid hSn
  have hpb2 : pb < wn.heap.size := Nat.lt_of_lt_of_le hpb1 hon.size
  have hsn := hUn.size
  clear hSn hsw1 hon HOK HSK
  have d0 : wn.cell? ⟨pb, 0, none⟩ = some (.int .i64 (n : Int)) := by rw [blk_cell HBX.out]; rfl
  have d1 : wn.cell? ⟨pb, 1, none⟩ = some (.slice A K.length c) := by rw [blk_cell HBX.out]; rfl
  have df0 := blk_frozen HBX.out 0
  have df1 := blk_frozen HBX.out 1
  cases s0 : (sw == 0) with
  | true =>
    obtain ⟨gr, cur, rfl, hgr, hcur, hcs, hall⟩ := own_irow HOn.out (by omega)
    have HCU := Lib.hid hcur
    have HAL := Lib.hid hall
    have hgz : g < w0.heap.size := by have := HSZ.out; omega
    have hpgr : pb ≠ gr := fun he => hap gr rfl he.symm
    have KR := Lib.hid (fun W W' (h : SR g cv N w0 pb gr K.length c (.cells #[.int .i64 (n : Int), .slice (some ⟨gr, 0, none⟩) K.length c] 26) W) (hS : SO g cv N wn W') (ho : Only g W W') => h.next hS.1 ho hgz hgp.symm)
    have hSR : SR g cv N w0 pb gr K.length c (.cells #[.int .i64 (n : Int), .slice (some ⟨gr, 0, none⟩) K.length c] 26) wn := ⟨HSn.out, hUn, HBX.out, K, rfl, HOn.out⟩
    have KA := Lib.hid (fun (n : Int) (hn : Hid (n ≤ 32 ∧ 1 ≤ n)) W (hW : SO g cv N wn W) => so_next g cv N wn n (by have := hn.out; omega) W hW)
    have KN := Lib.hid (fun (n : Int) (hn : Hid (1 ≤ n ∧ n ≤ 100000)) W (hW : SO g cv N wn W) => so_next g cv N wn n hn.out W hW)
    have HN1 : Hid ((K.length : Int) ≤ 32 ∧ 1 ≤ (K.length : Int)) := Lib.hid ⟨by omega, by omega⟩
    have HN2 : Hid (1 ≤ (4 : Int) ∧ (4 : Int) ≤ 100000) := Lib.hid ⟨by omega, by omega⟩
    have hSO : SO g cv N wn wn := ⟨HSn.out, Only.refl _ _⟩
    have hSOd := hSO.drew
    have hSRd := hSR.drew
    have hgrn : gr < wn.heap.size := blk_lt hcur
    have x1 : ∀ W, SR g cv N w0 pb gr K.length c (.cells #[.int .i64 (n : Int), .slice (some ⟨gr, 0, none⟩) K.length c] 26) W → W.cell? ⟨pb, 1, none⟩ = some (.slice (some ⟨gr, 0, none⟩) K.length c) := fun W hW => by rw [blk_cell hW.2.2.1]; rfl
    have hgg : gr ≠ g := by have := HSZ.out; omega
    have xf : ∀ W k, SO g cv N wn W → W.frozen? ⟨gr, k, none⟩ = false := fun W k hW => blk_frozen ((hW.2.block hgrn hgg).trans HCU.out) k
    have xc := Lib.hid (fun k (hk : k < K.length) W (hW : SO g cv N wn W) => (hW.2.cell (p := ⟨gr, k, none⟩) hgrn hgg).trans (show wn.cell? ⟨gr, k, none⟩ = some (.int .i64 (it K k)) by rw [blk_cell HCU.out]; exact HAL.out k hk))
    clear hcur hall d0 d1 df0 df1
    go_wp2_with fail
    go_region_held3 (fun w' => SR g cv N w0 pb gr K.length c (.cells #[.int .i64 (n : Int), .slice (some ⟨gr, 0, none⟩) K.length c] 26) w') (first | assumption | exact SR.drew ‹_› | exact SR.store ‹_› hgz hgr hpgr (by omega)) (first
      | (go_at_call 21; refine Calls.mono (KA.out _ (by assumption) _ (by assumption)) ?_; rintro e wa ⟨rk, rfl, h61, hSOa, hoa⟩; have h60 : (0 : Int) ≤ (rk : Int) := Int.natCast_nonneg _; have hSRa := KR.out _ wa ‹_› hSOa hoa; have hc5 := xc.out rk (by omega))
      | (go_at_call 21; refine Calls.mono (KN.out _ (by assumption) _ (by assumption)) ?_; rintro e w5 ⟨r5, rfl, h51, hSO5, ho5⟩; have h50 : (0 : Int) ≤ (r5 : Int) := Int.natCast_nonneg _; have hSR5 := KR.out _ w5 ‹_› hSO5 ho5))
    have hSRe := SR.store (k := rk) (x := (r5 : Int)) hSR5 hgz hgr hpgr (by omega)
    clear x1 xf hc5 hSO5 hSOa hSR5 hSRa hSO hSOd hSRd
    generalize w5.setCell ⟨gr, rk, none⟩ (.int .i64 (r5 : Int)) = wz at hSRe ⊢
    obtain ⟨hSz, hUz, hBz, Kz, hKz, hOz⟩ := hSRe
    have HBX := Lib.hid hBz
    have HSf := Lib.hid hSz
    have hUf := hUz
    rw [← hKz] at hOz HBX ⊢
    have HOf := Lib.hid hOz
    have hlz : Kz.length ≤ 32 := by omega
    have hlz0 : 1 ≤ Kz.length := by omega
    clear hSz hBz hOz hKz
    have d0 : wz.cell? ⟨pb, 0, none⟩ = some (.int .i64 (n : Int)) := by rw [blk_cell HBX.out]; rfl
    have d1 : wz.cell? ⟨pb, 1, none⟩ = some (.slice (some ⟨gr, 0, none⟩) Kz.length c) := by rw [blk_cell HBX.out]; rfl
    have df0 := blk_frozen HBX.out 0
    have df1 := blk_frozen HBX.out 1
    have HR := Lib.hid (show wz.heap[w.heap.size]? = some (.cells #[.int .i64 0, .slice none 0 0] 26 (0, 0)) from (hUf.block (by have := HSZ.out; omega) (by omega)).trans HB0.out)
    have q0 : wz.cell? ⟨w.heap.size, 0, none⟩ = some (.int .i64 0) := by rw [blk_cell HR.out]; rfl
    have q1 : wz.cell? ⟨w.heap.size, 1, none⟩ = some (.slice none 0 0) := by rw [blk_cell HR.out]; rfl
    have qf0 := blk_frozen HR.out 0
    have qf1 := blk_frozen HR.out 1
    go_wp2_with fail
    (try simp only [Exit.inBlock, Exit.then])
    refine bodyPost_ret (results_cell_row rfl _ _ w.heap.size _ _ _ _ rfl (blk_set (blk_set HR.out 0 _) 1 _) Tryz.underlying26 rfl hinfo) rfl ?_
    have hk : Only w.heap.size wz ((wz.setCell ⟨w.heap.size, 0, none⟩ (.int .i64 (n : Int))).setCell ⟨w.heap.size, 1, none⟩ (.slice (some ⟨gr, 0, none⟩) Kz.length c)) := ((Only.refl _ _).setCell _).setCell _
    have hz := HSZ.out
    have hO7 := own_only HOf.out hk (fun hh => by have := own_of_ge HOf.out hh; omega)
    exact ⟨_, _, Kz, rfl, own_base hO7 (by omega), by omega, by omega, HSf.out.other hk hgl, (hU0.trans hUf).newer hk (Nat.le_refl _)⟩
  | false =>
  cases s1 : (sw == 1) with
  | true =>
    have hS3 := HSn.out.grew ((Grew.refl wn).alloc (.cells #[.int .i64 (-1), .int .i64 6, .int .i64 2] 2))
    have hPk := Lib.hid (l01Pick3_c g cv N wn.heap.size (-1) 6 2 _ hS3 (by simp) (by have := HSZ.out; omega) (by simp) (by simp) (by simp))
    clear hS3
    go_wp2_with fail
    refine hPk.out.mono ?_
    rintro e wp ⟨rp, rfl, hSp, hop⟩
    have hga := (Grew.refl wn).alloc (.cells #[.int .i64 (-1), .int .i64 6, .int .i64 2] 2)
    have hUp := (hUn.grew hga).trans hop
    have hpb3 : pb < (wn.alloc (.cells #[.int .i64 (-1), .int .i64 6, .int .i64 2] 2)).heap.size := Nat.lt_of_lt_of_le hpb2 hga.size
    have HBX := Lib.hid ((hop.block hpb3 (by omega)).trans ((hga.block hpb2).trans HBX.out))
    have HOp := Lib.hid (own_srcI (HOn.out.grew hga) (by have := HSZ.out; omega) hop)
    have HSp := Lib.hid hSp
    clear hSp hPk d0 d1 df0 df1
    have d0 : wp.cell? ⟨pb, 0, none⟩ = some (.int .i64 (n : Int)) := by rw [blk_cell HBX.out]; rfl
    have d1 : wp.cell? ⟨pb, 1, none⟩ = some (.slice A K.length c) := by rw [blk_cell HBX.out]; rfl
    have df0 := blk_frozen HBX.out 0
    have df1 := blk_frozen HBX.out 1
    have hkb : Only pb wp (wp.setCell ⟨pb, 0, none⟩ (.int .i64 rp)) := (Only.refl _ _).setCell _
    have HBX2 := Lib.hid (blk_set HBX.out 0 (.int .i64 rp))
    have HOf := Lib.hid (own_only HOp.out hkb (fun hh => hap _ hh rfl))
    have HSf := Lib.hid (HSp.out.other hkb (by have := HSZ.out; omega))
    have hUf := hUp.newer hkb hpb0
    have e0 : (wp.setCell ⟨pb, 0, none⟩ (.int .i64 rp)).cell? ⟨pb, 0, none⟩ = some (.int .i64 rp) := by rw [blk_cell HBX2.out]; rfl
    have e1 : (wp.setCell ⟨pb, 0, none⟩ (.int .i64 rp)).cell? ⟨pb, 1, none⟩ = some (.slice A K.length c) := by rw [blk_cell HBX2.out]; rfl
    have HR := Lib.hid (show (wp.setCell ⟨pb, 0, none⟩ (.int .i64 rp)).heap[w.heap.size]? = some (.cells #[.int .i64 0, .slice none 0 0] 26 (0, 0)) from (hUf.block (by have := HSZ.out; omega) (by omega)).trans HB0.out)
    have q0 : (wp.setCell ⟨pb, 0, none⟩ (.int .i64 rp)).cell? ⟨w.heap.size, 0, none⟩ = some (.int .i64 0) := by rw [blk_cell HR.out]; rfl
    have q1 : (wp.setCell ⟨pb, 0, none⟩ (.int .i64 rp)).cell? ⟨w.heap.size, 1, none⟩ = some (.slice none 0 0) := by rw [blk_cell HR.out]; rfl
    have qf0 := blk_frozen HR.out 0
    have qf1 := blk_frozen HR.out 1
    go_wp2_with fail
    (try simp only [Exit.inBlock, Exit.then])
    refine bodyPost_ret (results_cell_row rfl _ _ w.heap.size _ _ _ _ rfl (blk_set (blk_set HR.out 0 _) 1 _) Tryz.underlying26 rfl hinfo) rfl ?_
    have hk : Only w.heap.size (wp.setCell ⟨pb, 0, none⟩ (.int .i64 rp)) (((wp.setCell ⟨pb, 0, none⟩ (.int .i64 rp)).setCell ⟨w.heap.size, 0, none⟩ (.int .i64 rp)).setCell ⟨w.heap.size, 1, none⟩ (.slice A K.length c)) := ((Only.refl _ _).setCell _).setCell _
    have hz := HSZ.out
    have hO7 := own_only HOf.out hk (fun hh => by have := own_of_ge HOf.out hh; omega)
    exact ⟨_, _, K, rfl, own_base hO7 (by omega), by omega, by omega, HSf.out.other hk hgl, (hU0.trans hUf).newer hk (Nat.le_refl _)⟩
  | false =>
    have HOf := HOn
    have HSf := HSn
    have hUf := hUn
    have HR := Lib.hid (show wn.heap[w.heap.size]? = some (.cells #[.int .i64 0, .slice none 0 0] 26 (0, 0)) from (hUf.block (by have := HSZ.out; omega) (by omega)).trans HB0.out)
    have q0 : wn.cell? ⟨w.heap.size, 0, none⟩ = some (.int .i64 0) := by rw [blk_cell HR.out]; rfl
    have q1 : wn.cell? ⟨w.heap.size, 1, none⟩ = some (.slice none 0 0) := by rw [blk_cell HR.out]; rfl
    have qf0 := blk_frozen HR.out 0
    have qf1 := blk_frozen HR.out 1
    go_wp2_with fail
    (try simp only [Exit.inBlock, Exit.then])
    refine bodyPost_ret (results_cell_row rfl _ _ w.heap.size _ _ _ _ rfl (blk_set (blk_set HR.out 0 _) 1 _) Tryz.underlying26 rfl hinfo) rfl ?_
    have hk : Only w.heap.size wn ((wn.setCell ⟨w.heap.size, 0, none⟩ (.int .i64 (n : Int))).setCell ⟨w.heap.size, 1, none⟩ (.slice A K.length c)) := ((Only.refl _ _).setCell _).setCell _
    have hz := HSZ.out
    have hO7 := own_only HOf.out hk (fun hh => by have := own_of_ge HOf.out hh; omega)
    exact ⟨_, _, K, rfl, own_base hO7 (by omega), by omega, by omega, HSf.out.other hk hgl, (hU0.trans hUf).newer hk (Nat.le_refl _)⟩
end Go.Proofs.YtopjgcbhjhhlfaaGreat


/- The source made: l01From; the damage: l01Damage. -/
namespace Go.Proofs.YtopjgcbhjhhlfaaGreat
open Go.RowKit

def ArgB (w : World) (v : Value) (N : Nat) : Prop :=
  (∃ A c, v = .slice A N c) ∧ N ≤ 9223372036854775807 ∧ (0 < N → ∃ b o c, v = .slice (some ⟨b, o, none⟩) N c ∧ b < w.heap.size ∧ N ≤ c ∧ c ≤ 9223372036854775807 ∧ ∀ j, j < N → ∃ x : Int, 0 ≤ x ∧ x ≤ 255 ∧ w.cell? ⟨b, o + j, none⟩ = some (.int .u8 x))
theorem ArgB.code {w w' : World} {v : Value} {N g : Nat} (h : ArgB w v N) (hN : N ≤ 4096) (hg : Grew w w') (hl : w.heap.size ≤ g) : Code w' g v N := by
  obtain ⟨h1, _, h2⟩ := h
  refine ⟨hN, h1, fun hp => ?_⟩
  obtain ⟨b, o, c, e, hb, hc, hm, hx⟩ := h2 hp
  refine ⟨b, o, c, e, by omega, hc, hm, fun j hj => ?_⟩
  obtain ⟨x, x0, x1, hcell⟩ := hx j hj
  exact ⟨x, x0, x1, (hg.cell (p := ⟨b, o + j, none⟩) hb).trans hcell⟩

theorem l01From_c (v : Value) (N : Nat) (w : World) (h : ArgB w v N) (hN : N ≤ 4096) :
    Calls Tryz.prog 16 #[v] w fun e w' => ∃ g, e = .returned (.pointer (some ⟨g, 0, none⟩)) ∧ w.heap.size ≤ g ∧ Src w' g v N ∧ Grew w w' := by
  have HC := Lib.hid (fun w' (hg : Grew w w') => h.code hN hg (Nat.le_refl w.heap.size))
  obtain ⟨⟨A, c, rfl⟩, hmax, h2⟩ := h
  have H2 := Lib.hid h2
  clear h2
  go_enter Tryz.func16, Tryz.ntmps16
  go_wp2_with fail
  have hnew := fun o => blk_new w o
  go_loopw [4] (fun i wr => ∃ (j : Nat) (x : Int), j ≤ N ∧ i = .int .i64 j ∧ 0 ≤ x ∧ x ≤ 18446744073709551615 ∧ wr.heap[w.heap.size]? = some (.cells #[.slice A N c, .int .i64 0, .int .u64 x] 79 (0, 0)) ∧ Grew w wr) (fun i _ => N - (intOf i).toNat)
  case atStart => exact ⟨0, _, Nat.zero_le _, rfl, by omega, by omega, hnew _, (Grew.refl w).alloc _⟩
  case round =>
    obtain ⟨j, x, hj, rfl, hx0, hx1, hb, hB⟩ := hrel
    by_cases hlt : j < N
    · obtain ⟨b, o, c', e, hbg, hc, hm, hx⟩ := H2.out (by omega)
      obtain ⟨y, hy0, hy1, k1⟩ := hx j hlt
      obtain ⟨rfl, rfl⟩ : A = some ⟨b, o, none⟩ ∧ c = c' := by simpa using e
      have k2 := (hB.cell (p := ⟨b, o + j, none⟩) hbg).trans k1
      have c2 : wr.cell? ⟨w.heap.size, 2, none⟩ = some (.int .u64 x) := by rw [blk_cell hb]; rfl
      have f2 := blk_frozen hb 2
      have HB := Lib.hid hb
      have h4 : (j : Int) < 4096 := by omega
      clear hb e hx k1
      go_wp2_with fail
      have hw0 : ∀ z : Int, 0 ≤ IntKind.u64.wrap z := fun z => by rw [IntKind.wrap_u64]; omega
      have hw1 : ∀ z : Int, IntKind.u64.wrap z ≤ 18446744073709551615 := fun z => by rw [IntKind.wrap_u64]; omega
      have HW0 := Lib.hid hw0
      have HW1 := Lib.hid hw1
      clear hw0 hw1
      go_region
      go_wp2_with fail
      go_roundw
      case rel => exact ⟨j + 1, _, by omega, by go_num, HW0.out _, HW1.out _, blk_set (w := wr.drewN _) HB.out 2 _, (hB.drewN _).setCell (Nat.le_refl _) _⟩
      case measure => simp [intOf]; omega
    · go_wp2_with fail
      go_ret
      exact ⟨_, rfl, Nat.le_refl _, ⟨HC.out _ hB, 0, x, Nat.zero_le _, hx0, hx1, hb⟩, hB⟩
end Go.Proofs.YtopjgcbhjhhlfaaGreat


/- The bytes that came in: as before in a later world; are they many? -/
namespace Go.Proofs.YtopjgcbhjhhlfaaGreat
open Go.RowKit

theorem ArgB.grew {w W : World} {v : Value} {N : Nat} (h : ArgB w v N) (hW : Grew w W) : ArgB W v N := by
  obtain ⟨h1, h2, h3⟩ := h
  refine ⟨h1, h2, fun hp => ?_⟩
  obtain ⟨b, o, c, e, hb, hc, hm, hx⟩ := h3 hp
  refine ⟨b, o, c, e, Nat.lt_of_lt_of_le hb hW.size, hc, hm, fun j hj => ?_⟩
  obtain ⟨x, x0, x1, hcell⟩ := hx j hj
  exact ⟨x, x0, x1, (hW.cell (p := ⟨b, o + j, none⟩) hb).trans hcell⟩
theorem big_c (v : Value) (N : Nat) (w : World) (h : ∃ A c, v = .slice A N c) :
    Calls Tryz.prog 4 #[v] w fun e w' => e = .returned (.bool (decide (4096 < N))) ∧ Grew w w' := by
  obtain ⟨A, c, rfl⟩ := h
  by_cases hb : 4096 < N
  · rw [decide_eq_true hb]
    go_enter Tryz.func4, Tryz.ntmps4
    go_wp2_with fail
    go_ret
    exact ⟨by simp; omega, Grew.refl _⟩
  · rw [decide_eq_false hb]
    go_enter Tryz.func4, Tryz.ntmps4
    go_wp2_with fail
    go_ret
    exact ⟨by simp; omega, Grew.refl _⟩
end Go.Proofs.YtopjgcbhjhhlfaaGreat


/- DrawModalSubalgebra of the reference. -/
namespace Go.Proofs.YtopjgcbhjhhlfaaGreat
open Go.RowKit

theorem results_cell_tmp_rowA {P : Program} {fn : Func} {p u : Tmp} {ty : TypeId} (h : fn.results = #[.cell p ty, .tmp u]) (tmps : Array Value) (w : World) (g : Nat) (t : TypeId) (cs : Array Value) (fr : Nat × Nat) (d : TypeDesc)
    (hp : tmps.getD p undef = .pointer (some ⟨g, 0, none⟩)) (hg : w.heap[g]? = some (.cells cs t fr))
    (hu : P.underlying ty = some d) (hd : (match d with | .struct _ | .array _ _ => true | _ => false) = true) (hi : (P.info? ty).map (·.size) = some cs.size) :
    (results fn tmps).run P w = .ok (.tuple #[.agg cs, tmps.getD u undef]) w := by
  have hp' : tmps[p]?.getD undef = .pointer (some ⟨g, 0, none⟩) := by simpa using hp
  simp [results, h, hp', asAddr, run_loadVar_row w g t ty cs fr d hg hu hd hi]
def DmDrawn (w : World) (e : Ending) (w' : World) : Prop := ∃ (sz : Int) (v u : Value) (L X : List Int), e = .returned (.tuple #[.agg #[.int .i64 sz, v], u]) ∧ Ints w' v L ∧ Ints w' u X ∧ L.length ≤ 32 ∧ X.length ≤ 32 ∧ Grew w w'
set_option maxRecDepth 100000 in
set_option maxHeartbeats 2000000 in
theorem drawModalSub_c (cv : Value) (N : Nat) (w : World) (h : ArgB w cv N) (hN : N ≤ 4096) :
    Calls Tryz.prog 5 #[cv] w (DmDrawn w) := by
  have hinfo : (Tryz.prog.info? 26).map (·.size) = some 2 := by kernel_rfl
  have HF := Lib.hid (fun W (hW : Grew w W) => l01From_c cv N W (h.grew hW) hN)
  have HB0 := Lib.hid (blk_new w (.cells #[.int .i64 0, .slice none 0 0] 26))
  have hg0 := (Grew.refl w).alloc (.cells #[.int .i64 0, .slice none 0 0] 26)
  have hsz0 : (w.alloc (.cells #[.int .i64 0, .slice none 0 0] 26)).heap.size = w.heap.size + 1 := by simp
  have HSZ := Lib.hid hsz0
  obtain ⟨w0, hw0⟩ : ∃ w0, w0 = w.alloc (.cells #[.int .i64 0, .slice none 0 0] 26) := ⟨_, rfl⟩
  rw [← hw0] at HB0 HSZ hg0
  clear h hsz0
  go_enter Tryz.func5, Tryz.ntmps5
  go_wp2_with fail
  simp only [← hw0]
  clear hw0
  refine (HF.out _ hg0).mono ?_
  rintro e w1 ⟨g, rfl, hgw, hS1, hg1⟩
  have HS1 := Lib.hid hS1
  clear hS1 HF
  go_wp2_with fail
  refine (l15Draw_c g cv N 5 (by omega) w1 HS1.out).mono ?_
  rintro e w2 ⟨v2, sz, L, rfl, hL0, hl1, hlk, hS2, ho2⟩
  obtain ⟨A, c, rfl⟩ := ints_slice hL0.ints
  have hga := (Grew.refl w2).alloc (.cells #[.int .i64 sz, .slice A L.length c] 26)
  have hbx := blk_new w2 (.cells #[.int .i64 sz, .slice A L.length c] 26)
  have hsa : (w2.alloc (.cells #[.int .i64 sz, .slice A L.length c] 26)).heap.size = w2.heap.size + 1 := by simp
  have hgl := HS1.out.lt
  have hU2 := hg1.only.trans ho2
  have hR2 := (hga.block (k := w.heap.size) (by have := hU2.size; have := HSZ.out; omega)).trans ((hU2.block (k := w.heap.size) (by have := HSZ.out; omega) (by have := HSZ.out; omega)).trans HB0.out)
  obtain ⟨wa, hwa⟩ : ∃ wa, wa = w2.alloc (.cells #[.int .i64 sz, .slice A L.length c] 26) := ⟨_, rfl⟩
  rw [← hwa] at hga hbx hsa hR2
  have hw2g : g < w2.heap.size := Nat.lt_of_lt_of_le hgl ho2.size
  have hG : Grew w wa := (hg0.trans ((hU2.grew hga).grew_of (Grew.refl w0) hgw))
  have hrb : w.heap.size < wa.heap.size := blk_lt hR2
  have hga2 : g < wa.heap.size := by omega
  have hrg : g ≠ w.heap.size := by have := HSZ.out; omega
  have hgw2 : w.heap.size ≤ g := by have := HSZ.out; omega
  have hw1z : w.heap.size + 1 ≤ w1.heap.size := by have := hg1.size; have := HSZ.out; omega
  have hLa := hL0.grew hga
  have HEL := Lib.hid (l15Elements_c g cv N sz (.slice A L.length c) L wa (hS2.grew hga) hLa.ints hl1 (by omega))
  have c0 : wa.cell? ⟨w2.heap.size, 0, none⟩ = some (.int .i64 sz) := by rw [blk_cell hbx]; rfl
  have c1 : wa.cell? ⟨w2.heap.size, 1, none⟩ = some (.slice A L.length c) := by rw [blk_cell hbx]; rfl
  have HX := Lib.hid hbx
  have HR := Lib.hid hR2
  have HLA := Lib.hid hLa
  have HG := Lib.hid hG
  have hpz : w2.heap.size < wa.heap.size := by omega
  have hw21 : w1.heap.size ≤ w2.heap.size := ho2.size
  clear hga hbx hR2 hS2 hU2 hL0 hLa hG ho2
  go_wp2_with fail
  simp only [← hwa]
  clear hwa
  refine HEL.out.mono ?_
  rintro e w3 ⟨u, X, rfl, hO3, hX4, hS3, ho3⟩
  have HDM := Lib.hid (fun W (hW : Only g w3 W) => show Grew w W ∧ W.heap[w.heap.size]? = some (.cells #[.int .i64 0, .slice none 0 0] 26 (0, 0)) ∧ W.heap[w2.heap.size]? = some (.cells #[.int .i64 sz, .slice A L.length c] 26 (0, 0)) ∧ OwnI W w1.heap.size (.slice A L.length c) L ∧ OwnI W wa.heap.size u X from
    ⟨(ho3.trans hW).grew_of HG.out hgw2, ((ho3.trans hW).block hrb hrg.symm).trans HR.out, ((ho3.trans hW).block hpz (by omega)).trans HX.out, own_srcI HLA.out hgl (ho3.trans hW), own_srcI hO3 hga2 hW⟩)
  have HS3 := Lib.hid hS3
  obtain ⟨A3, c3, rfl⟩ := ints_slice hO3.ints
  clear hO3 hS3 HEL c0 c1
  obtain ⟨hG3, hR3, hX3, hv3, hu3⟩ := HDM.out w3 (Only.refl _ _)
  have d0 : w3.cell? ⟨w2.heap.size, 0, none⟩ = some (.int .i64 sz) := by rw [blk_cell hX3]; rfl
  have d1 : w3.cell? ⟨w2.heap.size, 1, none⟩ = some (.slice A L.length c) := by rw [blk_cell hX3]; rfl
  have KI := Lib.hid (l15Is_c sz (.slice A L.length c) L w3 hv3.ints)
  clear hG3 hR3 hX3 hv3 hu3
  go_wp2_with fail
  refine KI.out.mono ?_
  rintro e w4 ⟨rfl, hg4⟩
  clear d0 d1 KI
  cases hal : algB sz L with
  | false =>
    have hWz : Only g w3 w4 := hg4.only
    obtain ⟨hGz, hRz, hXz, hvz, huz⟩ := HDM.out w4 hWz
    have q0 : (w4).cell? ⟨w.heap.size, 0, none⟩ = some (.int .i64 0) := by rw [blk_cell hRz]; rfl
    have q1 : (w4).cell? ⟨w.heap.size, 1, none⟩ = some (.slice none 0 0) := by rw [blk_cell hRz]; rfl
    have qf0 := blk_frozen hRz 0
    have qf1 := blk_frozen hRz 1
    have d0 : (w4).cell? ⟨w2.heap.size, 0, none⟩ = some (.int .i64 sz) := by rw [blk_cell hXz]; rfl
    have d1 : (w4).cell? ⟨w2.heap.size, 1, none⟩ = some (.slice A L.length c) := by rw [blk_cell hXz]; rfl
    have HRZ := Lib.hid hRz
    have HVZ := Lib.hid hvz
    have HUZ := Lib.hid huz
    have HGZ := Lib.hid hGz
    clear hRz hXz hvz huz hGz
    go_wp2_with fail
    (try simp only [Exit.inBlock, Exit.then])
    refine bodyPost_ret (results_cell_tmp_rowA rfl _ _ w.heap.size _ _ _ _ rfl (blk_set (blk_set HRZ.out 0 (.int .i64 sz)) 1 (.slice A L.length c)) Tryz.underlying26 rfl hinfo) rfl ?_
    have hk : Only w.heap.size (w4) (((w4).setCell ⟨w.heap.size, 0, none⟩ (.int .i64 sz)).setCell ⟨w.heap.size, 1, none⟩ (.slice A L.length c)) := ((Only.refl _ _).setCell _).setCell _
    have hz := HSZ.out
    exact ⟨sz, _, _, L, X, rfl, OwnI.ints (own_only HVZ.out hk (fun hh => by have := own_of_ge HVZ.out hh; omega)), OwnI.ints (own_only HUZ.out hk (fun hh => by have := own_of_ge HUZ.out hh; omega)), hlk, by omega, hk.grew_of HGZ.out (Nat.le_refl _)⟩
  | true =>
    obtain ⟨M, rfl, hA, hzL⟩ := algB_ok hal
    have hW4 : Only g w3 w4 := hg4.only
    obtain ⟨hG4, hR4, hX4', hv4, hu4⟩ := HDM.out w4 hW4
    have d0 : w4.cell? ⟨w2.heap.size, 0, none⟩ = some (.int .i64 (M : Int)) := by rw [blk_cell hX4']; rfl
    have KM := Lib.hid (l01Masks_c M _ X w4 hu4.ints (by have := hA.le; omega))
    clear hG4 hR4 hX4' hv4 hu4
    go_wp2_with fail
    refine KM.out.mono ?_
    rintro e w5 ⟨rfl, hg5⟩
    have hW5 : Only g w3 w5 := hW4.grew hg5
    clear KM d0
    generalize hsz : (M : Int) = sz at *
    cases hmk : mks M X with
    | false =>
      have hWz := hW5
      obtain ⟨hGz, hRz, hXz, hvz, huz⟩ := HDM.out w5 hWz
      have q0 : (w5).cell? ⟨w.heap.size, 0, none⟩ = some (.int .i64 0) := by rw [blk_cell hRz]; rfl
      have q1 : (w5).cell? ⟨w.heap.size, 1, none⟩ = some (.slice none 0 0) := by rw [blk_cell hRz]; rfl
      have qf0 := blk_frozen hRz 0
      have qf1 := blk_frozen hRz 1
      have d0 : (w5).cell? ⟨w2.heap.size, 0, none⟩ = some (.int .i64 sz) := by rw [blk_cell hXz]; rfl
      have d1 : (w5).cell? ⟨w2.heap.size, 1, none⟩ = some (.slice A L.length c) := by rw [blk_cell hXz]; rfl
      have HRZ := Lib.hid hRz
      have HVZ := Lib.hid hvz
      have HUZ := Lib.hid huz
      have HGZ := Lib.hid hGz
      clear hRz hXz hvz huz hGz
      go_wp2_with fail
      (try simp only [Exit.inBlock, Exit.then])
      refine bodyPost_ret (results_cell_tmp_rowA rfl _ _ w.heap.size _ _ _ _ rfl (blk_set (blk_set HRZ.out 0 (.int .i64 sz)) 1 (.slice A L.length c)) Tryz.underlying26 rfl hinfo) rfl ?_
      have hk : Only w.heap.size (w5) (((w5).setCell ⟨w.heap.size, 0, none⟩ (.int .i64 sz)).setCell ⟨w.heap.size, 1, none⟩ (.slice A L.length c)) := ((Only.refl _ _).setCell _).setCell _
      have hz := HSZ.out
      exact ⟨sz, _, _, L, X, rfl, OwnI.ints (own_only HVZ.out hk (fun hh => by have := own_of_ge HVZ.out hh; omega)), OwnI.ints (own_only HUZ.out hk (fun hh => by have := own_of_ge HUZ.out hh; omega)), hlk, by omega, hk.grew_of HGZ.out (Nat.le_refl _)⟩
    | true =>
      have HS5 := Lib.hid ((HS3.out.grew hg4).grew hg5)
      go_wp2_with fail
      refine (l01Next_c g cv N 6 w5 HS5.out (by omega)).mono ?_
      rintro e w6 ⟨r, rfl, hr0, hr1, _, hS6, ho6⟩
      have hWz : Only g w3 w6 := hW5.trans ho6
      clear hS6 hr1
      by_cases hr : 0 < r
      · obtain ⟨hG6, hR6, hX6, hv6, hu6⟩ := HDM.out w6 hWz
        obtain ⟨hx, hlt⟩ := mks_zs hmk
        have hPn : 2 ^ M ≤ 1000 := Nat.le_trans (Nat.pow_le_pow_right (by omega) hA.le) (by decide)
        have KL := Lib.hid (fun g m W (hM : MRow W g (2 ^ M) m) => l15List_c g (2 ^ M) m W hM hPn)
        have hz := HSZ.out
        have KG := Lib.hid (fun W (hW : Only w.heap.size w6 W) => l15Generate_c M (.slice A L.length c) (.slice A3 X.length c3) (nats L) (nats X) W (by rw [hzL]; exact OwnI.ints (own_only hv6 hW (fun hh => by have := own_of_ge hv6 hh; omega))) (by rw [hx]; exact OwnI.ints (own_only hu6 hW (fun hh => by have := own_of_ge hu6 hh; omega))) hA hlt)
        have HGL := Lib.hid (show (zs (genL M (nats L) (nats X))).length ≤ 32 from by
          rw [zs_len]
          have h1 := List.length_filter_le (fun x => @decide (gen M (nats L) (nats X) x) (Classical.propDecidable _)) (List.range (2 ^ M))
          have h2 : 2 ^ M ≤ 32 := Nat.le_trans (Nat.pow_le_pow_right (by omega) hA.le) (by decide)
          rw [List.length_range] at h1
          exact Nat.le_trans h1 h2)
        generalize genL M (nats L) (nats X) = GL at *
        have HV6 := Lib.hid hv6
        have HG6 := Lib.hid hG6
        have hdd := (Only.refl w.heap.size w6).drew
        have hRd : w6.drew.heap[w.heap.size]? = some (.cells #[.int .i64 0, .slice none 0 0] 26 (0, 0)) := hR6
        have hr6 : w.heap.size < w6.drew.heap.size := blk_lt hRd
        have hp6 : w2.heap.size < w6.heap.size := blk_lt hX6
        have d0 : ∀ W, Only w.heap.size w6 W → W.cell? ⟨w2.heap.size, 0, none⟩ = some (.int .i64 sz) := fun W hW => by rw [blk_cell ((hW.block hp6 (by omega)).trans hX6)]; rfl
        have d1 : ∀ W, Only w.heap.size w6 W → W.cell? ⟨w2.heap.size, 1, none⟩ = some (.slice A L.length c) := fun W hW => by rw [blk_cell ((hW.block hp6 (by omega)).trans hX6)]; rfl
        clear hG6 hR6 hX6 hv6 hu6 hx hlt hzL hPn hA
        generalize (2 : Nat) ^ M = Pn at *
        rw [hsz] at KG
        clear hsz
        go_upto_region 5 with fail
        refine wp_region_held_drew (S := fun w' => Only w.heap.size w6 w') (by kernel_rfl) hdd (fun hHeld => ?_)
        refine wpAnyH_take (i := 0) (oi := ?on1) (v := ?vn1) ?hin1 ?an1 ?bn1 ?cn1 ?qn1 (Or.inl ⟨?dn1, ?hyn1⟩) hHeld ?restn1
        case hin1 => (simp only [List.getElem?_toArray, List.getElem?_cons_zero]; exact rfl)
        case an1 => kernel_rfl
        case bn1 => kernel_rfl
        case cn1 => kernel_rfl
        case qn1 => exact fun _ _ _ h => h
        case dn1 => rfl
        case hyn1 => (intro z hSw; (try dsimp only at hSw); go_simp; (try with_reducible rfl))
        try simp only [Act.put, List.setIfInBounds_toArray, List.set_cons_zero, List.set_cons_succ]
        refine wpAnyH_take (i := 1) (oi := ?on2) (v := ?vn2) ?hin2 ?an2 ?bn2 ?cn2 ?qn2 (Or.inl ⟨?dn2, ?hyn2⟩) hHeld ?restn2
        case hin2 => (simp only [List.getElem?_toArray, List.getElem?_cons_succ, List.getElem?_cons_zero]; exact rfl)
        case an2 => kernel_rfl
        case bn2 => kernel_rfl
        case cn2 => kernel_rfl
        case qn2 => exact fun _ _ _ h => h
        case dn2 => rfl
        case hyn2 => (intro z hSw; (try dsimp only at hSw); go_simp; (try with_reducible rfl))
        try simp only [Act.put, List.setIfInBounds_toArray, List.set_cons_zero, List.set_cons_succ]
        refine wpAnyH_take (i := 2) (oi := ?on3) (v := ?vn3) ?hin3 ?an3 ?bn3 ?cn3 ?qn3 (Or.inl ⟨?dn3, ?hyn3⟩) hHeld ?restn3
        case hin3 => (simp only [List.getElem?_toArray, List.getElem?_cons_succ, List.getElem?_cons_zero]; exact rfl)
        case an3 => kernel_rfl
        case bn3 => kernel_rfl
        case cn3 => kernel_rfl
        case qn3 => exact fun _ _ _ h => h
        case dn3 => rfl
        case hyn3 => (intro z hSw; (try dsimp only at hSw); go_simp; (try with_reducible rfl))
        try simp only [Act.put, List.setIfInBounds_toArray, List.set_cons_zero, List.set_cons_succ]
        refine wpAnyH_ready (rs := [3]) (by kernel_rfl) (by simp) ?_
        refine AllReadyH.cons (o := ?on4) ?hin4 ?restn4 AllReadyH.nil
        case hin4 => (simp only [List.getElem?_toArray, List.getElem?_cons_succ, List.getElem?_cons_zero]; exact rfl)
        intro K hK
        go_simp
        go_at_call 23
        refine (KG.out _ hdd).mono ?_
        rintro e x1 ⟨bm, mm, rfl, hM, hf, -, hgx1⟩
        have hx1 : Only w.heap.size w6 x1 := hdd.grew hgx1
        have KLM := KL.out bm mm _ hM
        rw [hf] at KLM
        have KLM := Lib.hid KLM
        clear hM hf
        refine hK.out _ _ ?_ (fun hHeld => ?_)
        · (try dsimp only); first | with_reducible assumption | exact hx1
        clear hK K
        try simp only [Act.put, List.setIfInBounds_toArray, List.set_cons_zero, List.set_cons_succ]
        refine wpAnyH_ready (rs := [4]) (by kernel_rfl) (by simp) ?_
        refine AllReadyH.cons (o := ?on5) ?hin5 ?restn5 AllReadyH.nil
        case hin5 => (simp only [List.getElem?_toArray, List.getElem?_cons_succ, List.getElem?_cons_zero]; exact rfl)
        intro K hK
        go_simp
        go_at_call 22
        refine KLM.out.mono ?_
        rintro e x2 ⟨rl, rfl, hrl, hgx2⟩
        have HRL := Lib.hid hrl
        have hsx := hx1.size
        clear hrl
        have hx2 : Only w.heap.size w6 x2 := hx1.grew hgx2
        have q0 : x2.cell? ⟨w.heap.size, 0, none⟩ = some (.int .i64 0) := by rw [blk_cell ((hgx2.block (by omega)).trans ((hgx1.block (by omega)).trans hRd))]; rfl
        have q1 : x2.cell? ⟨w.heap.size, 1, none⟩ = some (.slice none 0 0) := by rw [blk_cell ((hgx2.block (by omega)).trans ((hgx1.block (by omega)).trans hRd))]; rfl
        have qf0 := blk_frozen ((hgx2.block (by omega)).trans ((hgx1.block (by omega)).trans hRd)) 0
        have qf1 := blk_frozen ((hgx2.block (by omega)).trans ((hgx1.block (by omega)).trans hRd)) 1
        have HRx := Lib.hid ((hgx2.block (by omega)).trans ((hgx1.block (by omega)).trans hRd))
        refine hK.out _ _ ?_ (fun hHeld => ?_)
        · (try dsimp only); first | with_reducible assumption | exact hx2
        clear hK K
        try simp only [Act.put, List.setIfInBounds_toArray, List.set_cons_zero, List.set_cons_succ]
        refine wpAnyH_ready (rs := [5]) (by kernel_rfl) (by simp) ?_
        refine AllReadyH.cons (o := ?on6) ?hin6 ?restn6 AllReadyH.nil
        case hin6 => (simp only [List.getElem?_toArray, List.getElem?_cons_succ, List.getElem?_cons_zero]; exact rfl)
        intro K hK
        go_simp
        refine hK.out _ _ ?_ (fun hHeld => ?_)
        · (try dsimp only); first | with_reducible assumption | exact Only.setCell (Only.setCell hx2 _) _
        clear hK K
        try simp only [Act.put, List.setIfInBounds_toArray, List.set_cons_zero, List.set_cons_succ]
        refine wpAnyH_take (i := 6) (oi := ?on7) (v := ?vn7) ?hin7 ?an7 ?bn7 ?cn7 ?qn7 (Or.inl ⟨?dn7, ?hyn7⟩) hHeld ?restn7
        case hin7 => (simp only [List.getElem?_toArray, List.getElem?_cons_succ, List.getElem?_cons_zero]; exact rfl)
        case an7 => kernel_rfl
        case bn7 => kernel_rfl
        case cn7 => kernel_rfl
        case qn7 => exact fun _ _ _ h => h
        case dn7 => rfl
        case hyn7 => (intro z hSw; (try dsimp only at hSw); go_simp; (try with_reducible rfl))
        try simp only [Act.put, List.setIfInBounds_toArray, List.set_cons_zero, List.set_cons_succ]
        refine wpAnyH_done (by kernel_rfl) ?_ _
        go_wp2_with fail
        (try simp only [Exit.inBlock, Exit.then])
        refine bodyPost_ret (results_cell_tmp_rowA rfl _ _ w.heap.size _ _ _ _ rfl (blk_set (blk_set HRx.out 0 (.int .i64 sz)) 1 (.slice A L.length c)) Tryz.underlying26 rfl hinfo) rfl ?_
        have hk : Only w.heap.size x2 ((x2.setCell ⟨w.heap.size, 0, none⟩ (.int .i64 sz)).setCell ⟨w.heap.size, 1, none⟩ (.slice A L.length c)) := ((Only.refl _ _).setCell _).setCell _
        have hv7 := own_only HV6.out (hx2.trans hk) (fun hh => by have := own_of_ge HV6.out hh; omega)
        have hr7 := own_only HRL.out hk (fun hh => by have := own_of_ge HRL.out hh; omega)
        exact ⟨sz, _, _, L, _, rfl, OwnI.ints hv7, OwnI.ints hr7, hlk, HGL.out, (hx2.trans hk).grew_of HG6.out (Nat.le_refl _)⟩
      · have hrn : ¬ (0 : Int) < r := hr
        have hrf : ((0 : Int) < r) = False := eq_false hr
        obtain ⟨hGz, hRz, hXz, hvz, huz⟩ := HDM.out w6 hWz
        have q0 : (w6).cell? ⟨w.heap.size, 0, none⟩ = some (.int .i64 0) := by rw [blk_cell hRz]; rfl
        have q1 : (w6).cell? ⟨w.heap.size, 1, none⟩ = some (.slice none 0 0) := by rw [blk_cell hRz]; rfl
        have qf0 := blk_frozen hRz 0
        have qf1 := blk_frozen hRz 1
        have d0 : (w6).cell? ⟨w2.heap.size, 0, none⟩ = some (.int .i64 sz) := by rw [blk_cell hXz]; rfl
        have d1 : (w6).cell? ⟨w2.heap.size, 1, none⟩ = some (.slice A L.length c) := by rw [blk_cell hXz]; rfl
        have HRZ := Lib.hid hRz
        have HVZ := Lib.hid hvz
        have HUZ := Lib.hid huz
        have HGZ := Lib.hid hGz
        clear hRz hXz hvz huz hGz
        go_wp2_with fail
        (try simp only [Exit.inBlock, Exit.then])
        refine bodyPost_ret (results_cell_tmp_rowA rfl _ _ w.heap.size _ _ _ _ rfl (blk_set (blk_set HRZ.out 0 (.int .i64 sz)) 1 (.slice A L.length c)) Tryz.underlying26 rfl hinfo) rfl ?_
        have hk : Only w.heap.size (w6) (((w6).setCell ⟨w.heap.size, 0, none⟩ (.int .i64 sz)).setCell ⟨w.heap.size, 1, none⟩ (.slice A L.length c)) := ((Only.refl _ _).setCell _).setCell _
        have hz := HSZ.out
        exact ⟨sz, _, _, L, X, rfl, OwnI.ints (own_only HVZ.out hk (fun hh => by have := own_of_ge HVZ.out hh; omega)), OwnI.ints (own_only HUZ.out hk (fun hh => by have := own_of_ge HUZ.out hh; omega)), hlk, by omega, hk.grew_of HGZ.out (Nat.le_refl _)⟩
end Go.Proofs.YtopjgcbhjhhlfaaGreat


/- Rows of slices of nodes of the call's own: an append of one slice. -/
namespace Go.Proofs.YtopjgcbhjhhlfaaGreat
open Go.RowKit
open Fm (Nd)

def OwnV (w : World) (B : Nat) (v : Value) (us : List Value) : Prop := w.ownsRow B 38 1 v us.length us

theorem own_app {w w' : World} {B B' : Nat} {u v : Value} {xs : List Nd} {us : List Value} (h : Own w B u xs) (hv : OwnV w B' v us) (hg : w.grownBy w' v.ownBlock) : Own w' B u xs := by
  rcases hv.2 with ⟨rfl, _⟩ | ⟨g, cap, cur, rfl, _, hh, _⟩
  · exact own_grew h (by
      have hg' : w.grownBy w' none := hg
      exact ⟨hg'.os, hg'.tape, hg'.output, hg'.size, fun i hi => hg'.block i hi (by simp)⟩)
  · exact own_only h (show Only g w w' from hg) (own_ne h hh (by decide))

theorem infoSl : (Tryz.prog.info? 38).map (fun i => (i.zero, i.size, i.bytes)) = some (some (.slice none 0 0), 1, 24) := by kernel_rfl

theorem wpList_appV {ops : Array Oper} {rest : List Oper} {o : Oper} {a : Act} {Q : Exit → Act → World → Prop} {w w0 : World} (s x : Operand) (hgd : o.guard = none)
    (ho : o.op = .call { callee := .builtin .append, args := #[s, x], argTypes := #[95, 95] })
    (v : Value) (us : List Value) (hs : a.eval s = v) (hown : OwnV w w0.heap.size v us) (hg : Grew w0 w) (vx u : Value) (hx : a.eval x = vx) (hr : Rd w 1 vx 1 [u]) (h1 : u.oneCell' = true) (hn : us.length ≤ 1048576)
    (h : ∀ v' w', OwnV w' w0.heap.size v' (us ++ [u]) → Grew w0 w' → w.grownBy w' v.ownBlock → wpList Tryz.prog ops Q rest (a.put o.dst v') w') : wpList Tryz.prog ops Q (o :: rest) a w := by
  obtain ⟨i0, hi0, hz0, hz1, hz2⟩ := info_parts infoSl
  refine wpList_append_rd w hgd s x _ ho w0.heap.size 38 i0 _ 1 24 Tryz.underlying95 hi0 hz0 hz1 hz2 rfl (by omega) v us.length us hs hown vx 1 [u] hx hr (by simpa using h1) (by unfold maxLen; omega) (by omega) hg.size ?_
  intro v' w' h1 h2 h3
  refine h v' w' ?_ (hg.grown h2 fun k hk => (hown.lt k hk).1) h2
  unfold OwnV
  rw [List.length_append]
  exact h1

theorem own_one {w : World} {B : Nat} {u : Value} {xs : List Nd} (h : Own w B u xs) : u.oneCell' = true := by
  obtain ⟨A, c, rfl⟩ := nodes_slice h.nodes
  rfl
theorem rd_lit (w : World) (u : Value) (t : TypeId) : Rd (w.alloc (.cells #[u] t)) 1 (.slice (some ⟨w.heap.size, 0, none⟩) 1 1) 1 [u] := by
  refine ⟨rfl, by omega, .inr ⟨w.heap.size, 0, 1, rfl, by omega, by omega, by simp, fun j x hx => ?_⟩⟩
  have hj : j = 0 := by
    have := (List.getElem?_eq_some_iff.1 hx).1
    simp at this
    omega
  subst hj
  simp at hx
  subst hx
  simp

theorem own_empty (w : World) : OwnV (w.alloc (.cells #[] 38)) w.heap.size (.slice (some ⟨w.heap.size, 0, none⟩) 0 0) [] :=
  World.ownsRow_lit (e := 38) (size := 1) w #[] 0 (Nat.le_refl _) (by omega) rfl
end Go.Proofs.YtopjgcbhjhhlfaaGreat


/- Strings that are not larger than memory. -/
namespace Go.Proofs.YtopjgcbhjhhlfaaGreat
open Go.RowKit

def Fits (L : List ByteArray) : Prop := ∀ i, i < L.length → (st L i).size ≤ 1048576
end Go.Proofs.YtopjgcbhjhhlfaaGreat


/- New lists of lists of nodes: what holds of them. -/
namespace Go.Proofs.YtopjgcbhjhhlfaaGreat
open Go.RowKit
open Fm (Nd)

def lf (L : List ByteArray) : List (List Nd) := L.map fun s => (Fm.pf s).1
theorem lf_length (L : List ByteArray) : (lf L).length = L.length := by simp [lf]
theorem lf_at {L : List ByteArray} {i : Nat} (h : i < L.length) : (lf L).getD i [] = (Fm.pf (st L i)).1 := by
  simp [lf, st, List.getD, h]

def Hold (w : World) (B : Nat) (us : List Value) (L : List ByteArray) : Prop := ∀ i, i < us.length → ∃ u, us[i]? = some u ∧ Own w B u ((lf L).getD i [])
theorem Hold.app {w w' : World} {B B' : Nat} {v : Value} {us : List Value} {L : List ByteArray} (h : Hold w B us L) (hv : OwnV w B' v us) (hg : w.grownBy w' v.ownBlock) : Hold w' B us L := by
  intro i hi
  obtain ⟨u, h1, h2⟩ := h i hi
  exact ⟨u, h1, own_app h2 hv hg⟩
theorem Hold.grew {w w' : World} {B : Nat} {us : List Value} {L : List ByteArray} (h : Hold w B us L) (hg : Grew w w') : Hold w' B us L := by
  intro i hi
  obtain ⟨u, h1, h2⟩ := h i hi
  exact ⟨u, h1, h2.grew hg⟩
theorem Hold.snoc {w : World} {B : Nat} {us : List Value} {u : Value} {L : List ByteArray} (h : Hold w B us L) (hu : Own w B u ((lf L).getD us.length [])) : Hold w B (us ++ [u]) L := by
  intro i hi
  rw [List.length_append] at hi
  rcases Nat.lt_or_ge i us.length with hk | hk
  · obtain ⟨x, h1, h2⟩ := h i hk
    exact ⟨x, by rw [List.getElem?_append_left hk]; exact h1, h2⟩
  · obtain rfl : i = us.length := by simp at hi; omega
    exact ⟨u, by simp, hu⟩
theorem lists_of {w : World} {B : Nat} {v : Value} {us : List Value} {L : List ByteArray} (hv : OwnV w B v us) (h : Hold w B us L) (hl : us.length = L.length) : Lists w v (lf L) := by
  obtain ⟨_, _, h3⟩ := Rd.of_own hv
  rcases h3 with ⟨h4, h5⟩ | ⟨b, o, c, h4, h5, h6, h7, h8⟩
  · exact .inl ⟨h4, by rw [List.eq_nil_of_length_eq_zero (show L.length = 0 by omega)]; rfl⟩
  · refine .inr ⟨b, o, c, by rw [lf_length, ← hl]; exact h4, by rw [lf_length]; omega, h6, h7, fun i hi => ?_⟩
    rw [lf_length] at hi
    obtain ⟨u, h9, h10⟩ := h i (by omega)
    exact ⟨u, h8 i u h9, h10.nodes⟩

def GivesL (w : World) (L : List (List Nd)) (e : Ending) (w' : World) : Prop := ∃ v, e = .returned v ∧ Lists w' v L ∧ Grew w w'

end Go.Proofs.YtopjgcbhjhhlfaaGreat


/- New lists of lists of nodes: formulasOf of the program. -/
namespace Go.Proofs.YtopjgcbhjhhlfaaGreat
open Go.RowKit
open Fm (Nd)

end Go.Proofs.YtopjgcbhjhhlfaaGreat


/- The order of texts. -/
namespace Go.Proofs.YtopjgcbhjhhlfaaGreat
open Go.RowKit

theorem above_iff : ∀ (x y : List UInt8), (Op.bytesLess x y || x == y) = !Op.bytesLess y x
  | [], [] => by simp [Op.bytesLess]
  | _ :: _, [] => by simp [Op.bytesLess]
  | [], _ :: _ => by simp [Op.bytesLess]
  | a :: x, b :: y => by
    have ih := above_iff x y
    rw [Op.bytesLess, Op.bytesLess]
    by_cases h1 : a < b
    · have h2 : ¬ b < a := by simp only [UInt8.lt_iff_toNat_lt] at *; omega
      have h3 : ¬ b = a := by rintro rfl; exact h2 h1
      simp [h1, h2, h3]
    · by_cases h2 : a = b
      · subst h2
        have h3 : ¬ a < a := h1
        simp only [h3, decide_false, Bool.false_or, beq_self_eq_true, Bool.true_and]
        rw [← ih]
        simp
      · have h3 : b < a := by
          simp only [UInt8.lt_iff_toNat_lt, ← UInt8.toNat_inj] at *
          omega
        have h4 : ¬ b = a := fun h => h2 h.symm
        simp [h1, h2, h3, h4]
end Go.Proofs.YtopjgcbhjhhlfaaGreat


/- A side of a sequent of texts: every text is good and stands above the one before. -/
namespace Go.Proofs.YtopjgcbhjhhlfaaGreat
open Go.RowKit
open Fm (Nd)

def Asc (L : List ByteArray) (k : Nat) : Prop := ∀ i, i < k → gd (st L i) = true ∧ (0 < i → Op.bytesLess (st L (i - 1)).toList (st L i).toList = true)
noncomputable def asc (L : List ByteArray) : Bool := @decide (Asc L L.length) (Classical.propDecidable _)
theorem Asc.zero (L : List ByteArray) : Asc L 0 := fun i hi => absurd hi (by omega)
theorem Asc.succ {L : List ByteArray} {k : Nat} (h : Asc L k) (h1 : gd (st L k) = true) (h2 : 0 < k → Op.bytesLess (st L (k - 1)).toList (st L k).toList = true) : Asc L (k + 1) := by
  intro i hi
  rcases Nat.lt_or_ge i k with hk | hk
  · exact h i hk
  · obtain rfl : i = k := by omega
    exact ⟨h1, h2⟩
theorem asc_true {L : List ByteArray} (h : Asc L L.length) : asc L = true := by
  unfold asc
  exact @decide_eq_true _ (Classical.propDecidable _) h
theorem asc_bad {L : List ByteArray} {k : Nat} (hk : k < L.length) (h : gd (st L k) = false) : asc L = false := by
  unfold asc
  refine @decide_eq_false _ (Classical.propDecidable _) fun H => ?_
  rw [(H k hk).1] at h
  cases h
theorem asc_low {L : List ByteArray} {k : Nat} (hk : k + 1 < L.length) (h : Op.bytesLess (st L k).toList (st L (k + 1)).toList = false) : asc L = false := by
  unfold asc
  refine @decide_eq_false _ (Classical.propDecidable _) fun H => ?_
  have := (H (k + 1) hk).2 (by omega)
  rw [Nat.add_sub_cancel, h] at this
  cases this

theorem l11Side_c (v : Value) (L : List ByteArray) (w : World) (h : Strs w v L) (hs : Fits L) (hn : L.length ≤ 1048576) :
    Calls Tryz.prog 95 #[v] w fun e w' => e = .returned (.bool (decide (L.length ≤ 16) && asc L)) ∧ Grew w w' := by
  by_cases h16 : 16 < L.length
  · have hd : (decide (L.length ≤ 16) && asc L) = false := by simp; omega
    rw [hd]
    obtain ⟨A, c, rfl⟩ := strs_slice h
    clear h hs hd
    go_enter Tryz.func95, Tryz.ntmps95
    go_wp2_with fail
    go_ret
    exact ⟨rfl, Grew.refl _⟩
  have hd : (decide (L.length ≤ 16) && asc L) = asc L := by rw [decide_eq_true (by omega)]; rfl
  rw [hd]
  clear hd
  rcases h.open_ with ⟨rfl, rfl⟩ | ⟨b, o, c, rfl, hc, hm, hb, hcell⟩
  · rw [asc_true (Asc.zero _)]
    clear h hs
    go_enter Tryz.func95, Tryz.ntmps95
    go_wp2_with fail
    refine wp_loop_rounds 1 ?_; rw [rounds_succ]
    go_wp2_with fail
    go_ret
    exact ⟨rfl, Grew.refl _⟩
  obtain ⟨R, hR⟩ : ∃ R, R = asc L := ⟨_, rfl⟩
  rw [← hR]
  have HT := Lib.hid (fun h => hR.trans (@asc_true L h))
  have HB := Lib.hid (fun k hk h => hR.trans (@asc_bad L k hk h))
  have HL := Lib.hid (fun k hk h => hR.trans (@asc_low L k hk h))
  have HC := Lib.hid hcell
  have HS := Lib.hid hs
  clear hcell h hs hR
  unfold Fits at HS
  generalize hN : L.length = n at *
  clear hN
  go_enter Tryz.func95, Tryz.ntmps95
  go_wp2_with fail
  go_loopw [3] (fun i wr => ∃ j : Nat, j ≤ n ∧ i = .int .i64 j ∧ Grew w wr ∧ Hid (Asc L j)) (fun i _ => n - (intOf i).toNat)
  case atStart => exact ⟨0, Nat.zero_le _, rfl, Grew.refl _, Asc.zero _⟩
  case round =>
    obtain ⟨j, hj, rfl, hB, HJ⟩ := hrel
    by_cases hlt : j < n
    · have k1 : ∀ W, Grew w W → W.cell? ⟨b, o + j, none⟩ = some (.string (st L j)) := fun W hW => HC.out j hlt W hW
      have hsz := HS.out j hlt
      have hG := Lib.hid (fun w => l02Good_c (st L j) w (by omega))
      have k2 := k1 _ hB
      go_wp2_with fail
      refine (hG.out _).mono ?_
      rintro e w1 ⟨v1, rfl, _, hg1⟩
      have hB1 := hB.trans hg1
      cases hgd : gd (st L j) with
      | false =>
        have hv := Lib.hid (HB.out j hlt hgd)
        generalize st L j = x at *
        go_wp2_with fail
        go_quiet (fail)
        go_wp2_with fail
        go_ret
        rw [hv.out]
        exact ⟨rfl, by first | assumption | exact hB1.drewN _⟩
      | true =>
        cases j with
        | zero =>
          have HS1 := Lib.hid (HJ.out.succ hgd (fun h => absurd h (by omega)))
          generalize st L 0 = x at *
          go_wp2_with fail
          go_quiet (fail)
          go_wp2_with fail
          go_roundw
          case rel => exact ⟨1, by omega, by go_num, by first | assumption | exact hB1.drewN _, HS1⟩
          case measure => simp [intOf]; omega
        | succ m =>
          have k3 := HC.out m (by omega) _ hB1
          have k4 := k1 _ hB1
          cases hlo : Op.bytesLess (st L m).toList (st L (m + 1)).toList with
          | false =>
            have hv := Lib.hid (HL.out m hlt hlo)
            have hab : (Op.bytesLess (st L (m + 1)).toList (st L m).toList || (st L (m + 1)).toList == (st L m).toList) = true := by rw [above_iff, hlo]; rfl
            generalize st L m = y at *
            generalize st L (m + 1) = x at *
            go_wp2_with fail
            go_quiet (fail)
            go_wp2_with fail
            go_ret
            rw [hv.out]
            exact ⟨rfl, by first | assumption | exact hB1.drewN _⟩
          | true =>
            have HS1 := Lib.hid (HJ.out.succ hgd (fun _ => hlo))
            have hab : (Op.bytesLess (st L (m + 1)).toList (st L m).toList || (st L (m + 1)).toList == (st L m).toList) = false := by rw [above_iff, hlo]; rfl
            generalize st L m = y at *
            generalize st L (m + 1) = x at *
            go_wp2_with fail
            go_quiet (fail)
            go_wp2_with fail
            go_roundw
            case rel => exact ⟨m + 1 + 1, by omega, by go_num, by first | assumption | exact hB1.drewN _, HS1⟩
            case measure => simp [intOf]; omega
    · obtain rfl : j = n := by omega
      have hv := Lib.hid (HT.out HJ.out)
      go_wp2_with fail
      go_ret
      rw [hv.out]
      exact ⟨rfl, hB⟩
end Go.Proofs.YtopjgcbhjhhlfaaGreat


/- New lists of lists of nodes: formulasOf of the program, l11Read of the reference. -/
namespace Go.Proofs.YtopjgcbhjhhlfaaGreat
open Go.RowKit
open Fm (Nd)

theorem l11Read_c (v : Value) (L : List ByteArray) (w : World) (h : Strs w v L) (hs : Fits L) (hn : L.length ≤ 1048576) :
    Calls Tryz.prog 70 #[v] w (GivesL w (lf L)) := by
  rcases h.open_ with ⟨rfl, rfl⟩ | ⟨b, o, c, rfl, hc, hm, hb, hcell⟩
  · clear h hs
    go_enter Tryz.func70, Tryz.ntmps70
    go_wp2_with fail
    refine wp_loop_rounds 1 ?_; rw [rounds_succ]
    go_wp2_with fail
    go_ret
    exact ⟨_, rfl, .inr ⟨w.heap.size, 0, 0, rfl, by simp [lf], by omega, by simp, fun i hi => absurd hi (by simp [lf])⟩, (Grew.refl w).alloc _⟩
  have HE := Lib.hid (fun w' v us (h1 : OwnV w' w.heap.size v us) h2 h3 => @lists_of w' w.heap.size v us L h1 h2 h3)
  have HC := Lib.hid hcell
  have HS := Lib.hid hs
  have HA := Lib.hid (fun i h => @lf_at L i h)
  clear hcell h hs
  unfold Fits at HS
  generalize hN : L.length = n at *
  clear hN
  go_enter Tryz.func70, Tryz.ntmps70
  go_wp2_with fail
  go_loopw [3, 4] (fun vv i wr => ∃ (j : Nat) (us : List Value), j ≤ n ∧ us.length = j ∧ i = .int .i64 j ∧ OwnV wr w.heap.size vv us ∧ Grew w wr ∧ Hid (Hold wr w.heap.size us L)) (fun _ i _ => n - (intOf i).toNat)
  case atStart => exact ⟨0, [], Nat.zero_le _, rfl, rfl, own_empty w, (Grew.refl w).alloc _, fun i hi => absurd hi (by simp)⟩
  case round =>
    obtain ⟨j, us, hj, hu, rfl, hO, hB, HH⟩ := hrel
    by_cases hlt : j < n
    · have k1 := HC.out j hlt _ hB
      have hsz := HS.out j hlt
      have hP := Lib.hid (fun w => l02Good_c (st L j) w (by omega))
      have hA : (lf L).getD us.length [] = (Fm.pf (st L j)).1 := by rw [hu]; exact HA.out j hlt
      have hA := Lib.hid hA
      generalize st L j = x at *
      go_wp2_with fail
      refine (hP.out _).mono ?_
      rintro e w1 ⟨u, rfl, ho1, hg1⟩
      obtain ⟨A, cc, rfl⟩ := nodes_slice ho1.nodes
      have hB1 := hB.trans hg1
      have hu1 := (ho1.base hB.size).grew ((Grew.refl w1).alloc (.cells #[.slice A (Fm.pf x).1.length cc] 38))
      have hO1 : OwnV (w1.alloc (.cells #[.slice A (Fm.pf x).1.length cc] 38)) w.heap.size u3 us := own_grew hO (hg1.trans ((Grew.refl w1).alloc _))
      have HH1 := Lib.hid (HH.out.grew (hg1.trans ((Grew.refl w1).alloc (.cells #[.slice A (Fm.pf x).1.length cc] 38))))
      have hone := own_one ho1
      go_wp2_with (first | (at_builtin; refine wpList_appV (w0 := w) _ _ rfl rfl _ us rfl hO1 (hB1.alloc _) _ _ rfl (rd_lit _ _ _) hone (by omega) ?_; intro v2 w2 hown2 hg2 hgr2))
      go_roundw
      case rel => exact ⟨j + 1, _, by omega, by rw [List.length_append, hu]; rfl, by go_num, hown2, hg2, Hold.snoc (HH1.out.app hO1 hgr2) (by rw [hA.out]; exact own_app hu1 hO1 hgr2)⟩
      case measure => simp [intOf]; omega
    · obtain rfl : j = n := by omega
      go_wp2_with fail
      go_ret
      exact ⟨_, rfl, HE.out _ _ _ hO HH.out hu, hB⟩
end Go.Proofs.YtopjgcbhjhhlfaaGreat


/- A list of formulas joined: l02All of the reference, joinAll of the program; limited, l02Made. -/
namespace Go.Proofs.YtopjgcbhjhhlfaaGreat
open Go.RowKit
open Fm (Nd)

def upto (k : Int) (L : List (List Nd)) (j : Nat) : List Nd := List.replicate (j - 1) (k, 0) ++ (L.take j).flatten
def allF (k : Int) (L : List (List Nd)) : List Nd := if L.length = 0 then (if k == 2 then Fm.truth else Fm.falsum) else upto k L L.length
theorem flatten_succ {L : List (List Nd)} {j : Nat} (h : j < L.length) : (L.take (j + 1)).flatten = (L.take j).flatten ++ L.getD j [] := by
  rw [List.take_succ_eq_append_getElem h, List.flatten_append]
  simp [List.getD, h]
theorem upto_one {k : Int} {L : List (List Nd)} (h : 0 < L.length) : upto k L 1 = L.getD 0 [] := by
  rw [upto, flatten_succ h]
  simp
theorem upto_succ {k : Int} {L : List (List Nd)} {j : Nat} (h : j < L.length) (h0 : 0 < j) : upto k L (j + 1) = Fm.join k (upto k L j) (L.getD j []) := by
  obtain ⟨m, rfl⟩ : ∃ m, j = m + 1 := ⟨j - 1, by omega⟩
  rw [upto, upto, Fm.join, flatten_succ h]
  simp [List.replicate_succ]
theorem upto_length (k : Int) (L : List (List Nd)) (j : Nat) : (upto k L j).length = (j - 1) + total L j := by
  simp [upto, total]

theorem l02All_c (k : Int) (v : Value) (L : List (List Nd)) (w : World) (h : Lists w v L) (hn : L.length ≤ 1048576) (hf : L.flatten.length ≤ 1073741824) :
    Calls Tryz.prog 69 #[.int .i64 k, v] w (Gives w (allF k L)) := by
  unfold allF
  rcases Nat.eq_zero_or_pos L.length with h0 | hpos
  · rw [if_pos h0]
    obtain ⟨A, c, rfl⟩ : ∃ A c, v = .slice A 0 c := by
      rcases h with ⟨rfl, _⟩ | ⟨b, o, c, rfl, _⟩
      · exact ⟨_, _, rfl⟩
      · rw [h0]; exact ⟨_, _, rfl⟩
    clear h
    cases hk : (k == 2) with
    | true =>
      rw [if_pos rfl]
      go_enter Tryz.func69, Tryz.ntmps69
      go_wp2_with fail
      refine (l02True_c _).mono ?_
      rintro e w1 ⟨v1, rfl, ho1, hg1⟩
      go_wp2_with fail
      go_ret
      exact ⟨_, rfl, ho1, hg1⟩
    | false =>
      rw [if_neg (by simp)]
      go_enter Tryz.func69, Tryz.ntmps69
      go_wp2_with fail
      refine (l02False_c _).mono ?_
      rintro e w1 ⟨v1, rfl, ho1, hg1⟩
      go_wp2_with fail
      go_ret
      exact ⟨_, rfl, ho1, hg1⟩
  · rw [if_neg (by omega)]
    rcases h with ⟨_, rfl⟩ | ⟨b, o, c, rfl, hc, hm, hb, hcell⟩
    · simp at hpos
    have HC := Lib.hid hcell
    have HU := Lib.hid (fun j (h : j < L.length) h0 => @upto_succ k L j h h0)
    have HL := Lib.hid (fun j => Nat.le_trans (Nat.le_of_eq (upto_length k L j)) (Nat.add_le_add_left (Nat.le_trans (total_mono (L := L) (k := j)) hf) _))
    have HT := Lib.hid (fun j (h : j < L.length) => Nat.le_trans (by rw [total_succ h]; omega : (L.getD j []).length ≤ total L (j + 1)) (Nat.le_trans (total_mono (L := L) (k := j + 1)) hf))
    have h1 := upto_one (k := k) hpos
    have H1 := Lib.hid h1
    clear hcell h1 hf
    generalize hN : L.length = n at *
    clear hN
    obtain ⟨u0, hu0, hN0⟩ := HC.out 0 hpos
    have hlen0 := HT.out 0 hpos
    go_enter Tryz.func69, Tryz.ntmps69
    obtain ⟨A0, c0, rfl⟩ := nodes_slice hN0
    simp only [Nat.add_zero] at hu0
    go_wp2_with fail
    refine (l02Own_c _ _ _ hN0 (by omega)).mono ?_
    rintro e w1 ⟨v1, rfl, ho1, hg1⟩
    go_wp2_with fail
    go_loopw [5, 6] (fun vv i wr => ∃ j : Nat, 1 ≤ j ∧ j ≤ n ∧ i = .int .i64 j ∧ Own wr w.heap.size vv (upto k L j) ∧ Grew w wr) (fun _ i _ => n - (intOf i).toNat)
    case atStart => exact ⟨1, by omega, by omega, rfl, by rw [H1.out]; exact ho1, hg1⟩
    case round =>
      obtain ⟨j, hj1, hj, rfl, hO, hB⟩ := hrel
      by_cases hlt : j < n
      · obtain ⟨u, hu, hNu⟩ := HC.out j hlt
        have hlu := HT.out j hlt
        have hlj := HL.out j
        have hup := HU.out j hlt (by omega)
        obtain ⟨A, cc, rfl⟩ := nodes_slice hNu
        have k1 := (hB.cell (p := ⟨b, o + j, none⟩) hb).trans hu
        have HUP := Lib.hid hup
        clear hup hu
        generalize L.getD j [] = X at *
        generalize upto k L j = Y at *
        go_wp2_with fail
        refine (l02Pair_c k _ _ Y X _ hO.nodes (hNu.grew hB) (by omega)).mono ?_
        rintro e w2 ⟨v2, rfl, ho2, hg2⟩
        go_wp2_with fail
        go_roundw
        case rel => exact ⟨j + 1, by omega, by omega, by go_num, by rw [HUP.out]; exact ho2.base hB.size, hB.trans hg2⟩
        case measure => simp [intOf]; omega
      · obtain rfl : j = n := by omega
        go_wp2_with fail
        go_ret
        exact ⟨_, rfl, hO, hB⟩

def lim (xs : List Nd) : List Nd × Int := if xs.length ≤ 40 then (xs, 0) else ([], 3)
theorem lim_yes {xs : List Nd} (h : xs.length ≤ 40) : lim xs = (xs, 0) := by rw [lim, if_pos h]
theorem lim_no {xs : List Nd} (h : ¬ xs.length ≤ 40) : lim xs = ([], 3) := by rw [lim, if_neg h]

theorem l02Made_c (v : Value) (xs : List Nd) (w : World) (B : Nat) (h : Own w B v xs) :
    Calls Tryz.prog 68 #[v] w fun e w' => ∃ u, e = .returned (.tuple #[u, .int .i64 (lim xs).2]) ∧ Own w' B u (lim xs).1 ∧ Grew w w' := by
  by_cases h40 : xs.length ≤ 40
  · rw [lim_yes h40]
    obtain ⟨A, c, rfl⟩ := nodes_slice h.nodes
    have H := Lib.hid h
    clear h
    go_enter Tryz.func68, Tryz.ntmps68
    go_wp2_with fail
    go_ret2
    exact ⟨_, rfl, H.out, Grew.refl _⟩
  · rw [lim_no h40]
    obtain ⟨A, c, rfl⟩ := nodes_slice h.nodes
    clear h
    go_enter Tryz.func68, Tryz.ntmps68
    go_wp2_with fail
    go_ret2
    exact ⟨.slice none 0 0, rfl, Own.nil_ _ _, Grew.refl _⟩
end Go.Proofs.YtopjgcbhjhhlfaaGreat


/- joinAll of the program. -/
namespace Go.Proofs.YtopjgcbhjhhlfaaGreat
open Go.RowKit
open Fm (Nd)

end Go.Proofs.YtopjgcbhjhhlfaaGreat


/- The laws' own helpers on slices of strings: szStringS, toStringS, eqStringS. -/
namespace Go.Proofs.YtopjgcbhjhhlfaaGreat
open Go.RowKit

def ArgS (w : World) (v : Value) (L : List ByteArray) : Prop :=
  (∃ A c, v = .slice A L.length c ∧ L.length ≤ 9223372036854775807) ∧ (0 < L.length → Strs w v L) ∧ ∀ i, i < L.length → (st L i).size ≤ 9223372036854775807
theorem ArgS.grew {w w' : World} {v : Value} {L : List ByteArray} (h : ArgS w v L) (hg : Grew w w') : ArgS w' v L := ⟨h.1, fun hp => (h.2.1 hp).grew hg, h.2.2⟩

def Small (L : List ByteArray) (k : Nat) : Prop := ∀ i, i < k → (st L i).size ≤ 1048576
theorem Small.zero (L : List ByteArray) : Small L 0 := fun i hi => absurd hi (by omega)
theorem Small.succ {L : List ByteArray} {k : Nat} (h : Small L k) (h1 : (st L k).size ≤ 1048576) : Small L (k + 1) := by
  intro i hi
  rcases Nat.lt_or_ge i k with hk | hk
  · exact h i hk
  · obtain rfl : i = k := by omega
    exact h1
end Go.Proofs.YtopjgcbhjhhlfaaGreat


/- A sequent of texts: the laws' own helpers and IsModalSequent of both. -/
namespace Go.Proofs.YtopjgcbhjhhlfaaGreat
open Go.RowKit
open Fm (Nd)

end Go.Proofs.YtopjgcbhjhhlfaaGreat


/- A sequent of texts: toModalSequent, eqModalSequent, IsModalSequent of both. -/
namespace Go.Proofs.YtopjgcbhjhhlfaaGreat
open Go.RowKit
open Fm (Nd)

theorem l11Is_c (a b : Value) (L1 L2 : List ByteArray) (w : World) (h1 : Strs w a L1) (h2 : Strs w b L2) (f1 : Fits L1) (f2 : Fits L2) (hn1 : L1.length ≤ 1048576) (hn2 : L2.length ≤ 1048576) :
    Calls Tryz.prog 67 #[.agg #[a, b]] w fun e w' => e = .returned (.bool ((decide (L1.length ≤ 16) && asc L1) && (decide (L2.length ≤ 16) && asc L2))) ∧ Grew w w' := by
  have K1 := Lib.hid (fun W (hW : Grew w W) => l11Side_c a L1 W (h1.grew hW) f1 hn1)
  have K2 := Lib.hid (fun W (hW : Grew w W) => l11Side_c b L2 W (h2.grew hW) f2 hn2)
  clear h1 h2 f1 f2 hn1 hn2
  generalize (decide (L2.length ≤ 16) && asc L2) = r2 at *
  generalize (decide (L1.length ≤ 16) && asc L1) = r1 at *
  cases r1 with
  | false =>
    go_enter Tryz.func67, Tryz.ntmps67
    go_wp2_with fail
    refine (K1.out _ ((Grew.refl w).alloc _)).mono ?_
    rintro e w1 ⟨rfl, hg1⟩
    go_wp2_with fail
    go_ret
    exact ⟨rfl, Grew.of_alloc hg1⟩
  | true =>
    go_enter Tryz.func67, Tryz.ntmps67
    go_wp2_with fail
    refine (K1.out _ ((Grew.refl w).alloc _)).mono ?_
    rintro e w1 ⟨rfl, hg1⟩
    have hc1 : w1.cell? ⟨w.heap.size, 1, none⟩ = some b := (hg1.cell (by simp)).trans (by simp)
    go_wp2_with fail
    refine (K2.out _ (Grew.of_alloc hg1)).mono ?_
    rintro e w2 ⟨rfl, hg2⟩
    go_wp2_with fail
    go_ret
    exact ⟨by simp, Grew.of_alloc (hg1.trans hg2)⟩

end Go.Proofs.YtopjgcbhjhhlfaaGreat


/- SequentFormula of both. -/
namespace Go.Proofs.YtopjgcbhjhhlfaaGreat
open Go.RowKit
open Fm (Nd)

noncomputable def isM (L1 L2 : List ByteArray) : Bool := (decide (L1.length ≤ 16) && asc L1) && (decide (L2.length ≤ 16) && asc L2)
def sfL (L1 L2 : List ByteArray) : List Nd := Fm.join 4 (allF 2 (lf L1)) (allF 3 (lf L2))
noncomputable def sfF (L1 L2 : List ByteArray) : List Nd × Int := if isM L1 L2 then lim (sfL L1 L2) else ([], 1)
def GivesC2 (w : World) (r : List Nd × Int) (e : Ending) (w' : World) : Prop := ∃ v, e = .returned (.tuple #[v, .int .i64 r.2]) ∧ Own w' w.heap.size v r.1 ∧ Grew w w'

theorem lf_flat (L : List ByteArray) (h : L.length ≤ 16) : (lf L).flatten.length ≤ 640 := by
  have : ∀ L : List ByteArray, (lf L).flatten.length ≤ L.length * 40 := by
    intro L
    induction L with
    | nil => simp [lf]
    | cons s L ih =>
      have := Fm.pf_len s
      simp only [lf, List.map_cons, List.flatten_cons, List.length_append, List.length_cons] at ih ⊢
      omega
  have := this L
  omega
theorem allF_len (k : Int) (L : List ByteArray) (h : L.length ≤ 16) : (allF k (lf L)).length ≤ 1000 := by
  unfold allF
  split
  · split <;> simp [Fm.truth, Fm.falsum]
  · rw [upto_length]
    have h1 := lf_flat L h
    have h2 := total_mono (L := lf L) (k := (lf L).length)
    have h3 := lf_length L
    omega
theorem isM_len {L1 L2 : List ByteArray} (h : isM L1 L2 = true) : L1.length ≤ 16 ∧ L2.length ≤ 16 := by
  simp only [isM, Bool.and_eq_true, decide_eq_true_eq] at h
  exact ⟨h.1.1, h.2.1⟩

theorem specSF_c (a b : Value) (L1 L2 : List ByteArray) (w : World) (h1 : Strs w a L1) (h2 : Strs w b L2) (f1 : Fits L1) (f2 : Fits L2) (hn1 : L1.length ≤ 1048576) (hn2 : L2.length ≤ 1048576) :
    Calls Tryz.prog 39 #[.agg #[a, b]] w (GivesC2 w (sfF L1 L2)) := by
  have HI := fun W (hW : Grew w W) => l11Is_c a b L1 L2 W (h1.grew hW) (h2.grew hW) f1 f2 hn1 hn2
  rw [show ((decide (L1.length ≤ 16) && asc L1) && (decide (L2.length ≤ 16) && asc L2)) = isM L1 L2 from rfl] at HI
  cases hM : isM L1 L2 with
  | false =>
    rw [hM] at HI
    have hE : sfF L1 L2 = ([], 1) := by unfold sfF; rw [hM]; rfl
    rw [hE]
    replace HI := Lib.hid HI
    clear h1 h2 hM hE f1 f2
    go_enter Tryz.func39, Tryz.ntmps39
    go_wp2_with fail
    refine (HI.out _ ((Grew.refl w).alloc _)).mono ?_
    rintro e w1 ⟨rfl, hg1⟩
    go_wp2_with fail
    go_ret2
    exact ⟨.slice none 0 0, rfl, Own.nil_ _ _, Grew.of_alloc hg1⟩
  | true =>
    rw [hM] at HI
    obtain ⟨l1, l2⟩ := isM_len hM
    have hE : sfF L1 L2 = lim (sfL L1 L2) := by unfold sfF; rw [hM]; rfl
    rw [hE]
    replace HI := Lib.hid HI
    have K1 := Lib.hid (fun W (hW : Grew w W) => l11Read_c a L1 W (h1.grew hW) f1 hn1)
    have K2 := Lib.hid (fun W (hW : Grew w W) => l11Read_c b L2 W (h2.grew hW) f2 hn2)
    have J1 := Lib.hid (fun v W h => l02All_c 2 v (lf L1) W h (by rw [lf_length]; omega) (by have := lf_flat L1 l1; omega))
    have J2 := Lib.hid (fun v W h => l02All_c 3 v (lf L2) W h (by rw [lf_length]; omega) (by have := lf_flat L2 l2; omega))
    have A1 := allF_len 2 L1 l1
    have A2 := allF_len 3 L2 l2
    obtain ⟨R, hR⟩ : ∃ R, R = lim (sfL L1 L2) := ⟨_, rfl⟩
    rw [← hR]
    unfold sfL at hR
    have HR := Lib.hid hR
    clear hR
    clear h1 h2 hM hE f1 f2
    generalize allF 2 (lf L1) = X1 at *
    generalize allF 3 (lf L2) = X2 at *
    go_enter Tryz.func39, Tryz.ntmps39
    go_wp2_with fail
    refine (HI.out _ ((Grew.refl w).alloc _)).mono ?_
    rintro e w1 ⟨rfl, hg1⟩
    have hgw := Grew.of_alloc hg1
    have c0 : ∀ W, Grew w1 W → W.cell? ⟨w.heap.size, 0, none⟩ = some a := fun W hW => ((hg1.trans hW).cell (by simp)).trans (by simp)
    have c1 : ∀ W, Grew w1 W → W.cell? ⟨w.heap.size, 1, none⟩ = some b := fun W hW => ((hg1.trans hW).cell (by simp)).trans (by simp)
    have hr1 := Grew.refl w1
    have hd1 := (Grew.refl w1).drew
    clear hg1
    go_wp2_with fail
    go_region_held3 (fun w' => Grew w1 w') (with_reducible assumption)
      (first
        | (go_at_call 70; refine (K2.out _ (hgw.trans ((hd1.trans hg2).trans hg3))).mono ?_; rintro e w4 ⟨q3, rfl, hl4, hg4⟩; have hk4 := ((hd1.trans hg2).trans hg3).trans hg4)
        | (go_at_call 69; refine (J2.out _ _ hl4).mono ?_; rintro e w5 ⟨q4, rfl, ho5, hg5⟩; have hk5 := (((hd1.trans hg2).trans hg3).trans hg4).trans hg5)
        | (go_at_call 70; refine (K1.out _ (hgw.trans hd1)).mono ?_; rintro e w2 ⟨q1, rfl, hl1, hg2⟩; have hk2 : Grew w1 w2 := hd1.trans hg2)
        | (go_at_call 69; refine (J1.out _ _ hl1).mono ?_; rintro e w3 ⟨q2, rfl, ho3, hg3⟩; have hk3 := (hd1.trans hg2).trans hg3)
        | (go_at_call 63; refine (l02Pair_c 4 _ _ X1 X2 _ ((ho3.grew hg4).grew hg5).nodes ho5.nodes (by omega)).mono ?_; rintro e w6 ⟨q5, rfl, ho6, hg6⟩; have hk6 := ((((hd1.trans hg2).trans hg3).trans hg4).trans hg5).trans hg6)
        | (go_at_call 68; refine (l02Made_c _ _ _ _ ho6).mono ?_; rintro e w7 ⟨q6, rfl, ho7, hg7⟩; have hk7 := (((((hd1.trans hg2).trans hg3).trans hg4).trans hg5).trans hg6).trans hg7))
    go_wp2_with fail
    go_ret2
    exact ⟨q6, by rw [HR.out]; rfl, by rw [HR.out]; exact ho7.base (hgw.trans hk5).size, (hgw.trans hk6).trans hg7⟩
end Go.Proofs.YtopjgcbhjhhlfaaGreat


/- A proposition as a Boolean. No program is in sight. -/
namespace Go.Proofs.YtopjgcbhjhhlfaaGreat
open Go.RowKit

end Go.Proofs.YtopjgcbhjhhlfaaGreat


/- Texts sorted, each once. -/
namespace Go.Proofs.YtopjgcbhjhhlfaaGreat
open Go.RowKit Go.Sort

def bl (L : List ByteArray) : List (List UInt8) := L.map (·.data.toList)
end Go.Proofs.YtopjgcbhjhhlfaaGreat


/- Texts put to a sorted list (put of the program): concat, sort, compact. -/
namespace Go.Proofs.YtopjgcbhjhhlfaaGreat
open Go.RowKit Go.Sort

theorem wpList_appSs {ops : Array Oper} {rest : List Oper} {o : Oper} {a : Act} {Q : Exit → Act → World → Prop} {w w0 : World} (s x : Operand) (hgd : o.guard = none)
    (ho : o.op = .call { callee := .builtin .append, args := #[s, x], argTypes := #[61, 61] })
    (v : Value) (L : List ByteArray) (hs : a.eval s = v) (hown : OwnS w w0.heap.size v L) (hg : Grew w0 w) (vx : Value) (K : List ByteArray) (hx : a.eval x = vx) (hr : Strs w vx K) (hn : L.length + K.length ≤ 1099511627776)
    (h : ∀ v' w', OwnS w' w0.heap.size v' (L ++ K) → Grew w0 w' → w.grownBy w' v.ownBlock → wpList Tryz.prog ops Q rest (a.put o.dst v') w') : wpList Tryz.prog ops Q (o :: rest) a w := by
  obtain ⟨i0, hi0, hz0, hz1, hz2⟩ := info_parts Tryz.infoStr
  refine wpList_append_rd w hgd s x _ ho w0.heap.size 9 i0 _ 1 16 Tryz.underlying61 hi0 hz0 hz1 hz2 rfl (by omega) v L.length (scells L) hs hown vx K.length (scells K) hx hr (scells_one K) (by unfold maxLen; omega) (by omega) hg.size ?_
  intro v' w' h1 h2 h3
  refine h v' w' ?_ (hg.grown h2 fun k hk => (hown.lt k hk).1) h2
  unfold OwnS
  rw [List.length_append, scells_append]
  exact h1

end Go.Proofs.YtopjgcbhjhhlfaaGreat


/- slices.Index, slices.Contains at texts. -/
namespace Go.Proofs.YtopjgcbhjhhlfaaGreat
open Go.RowKit

theorem bytes_ne' {a b : ByteArray} (h : a ≠ b) : (a.toList == b.toList) = false := by
  rw [beq_eq_false_iff_ne]
  intro he
  exact h (by rw [Lib.toList_data, Lib.toList_data] at he; cases a; cases b; simpa using he)
theorem bytes_eq' (a : ByteArray) : (a.toList == a.toList) = true := by simp
def NotS (L : List ByteArray) (s : ByteArray) (k : Nat) : Prop := ∀ i, i < k → st L i ≠ s
theorem NotS.zero (L : List ByteArray) (s : ByteArray) : NotS L s 0 := fun i hi => absurd hi (by omega)
theorem NotS.succ {L : List ByteArray} {s : ByteArray} {k : Nat} (h : NotS L s k) (h1 : st L k ≠ s) : NotS L s (k + 1) := by
  intro i hi
  rcases Nat.lt_or_ge i k with hk | hk
  · exact h i hk
  · obtain rfl : i = k := by omega
    exact h1
theorem st_mem {L : List ByteArray} {k : Nat} (hk : k < L.length) : st L k ∈ L := by rw [← st_get hk]; exact List.getElem_mem hk

theorem own_emptyS' (w : World) : OwnS (w.alloc (.cells #[] 9)) w.heap.size (.slice (some ⟨w.heap.size, 0, none⟩) 0 0) [] :=
  World.ownsRow_lit (e := 9) (size := 1) w #[] 0 (Nat.le_refl _) (by omega) rfl
end Go.Proofs.YtopjgcbhjhhlfaaGreat


/- Slices of slices of nodes that read as formulas. -/
namespace Go.Proofs.YtopjgcbhjhhlfaaGreat
open Go.RowKit
open Fm (Nd Tree)

def VT (w : World) (us : List Value) (L : List Tree) : Prop := us.length = L.length ∧ ∀ (i : Nat) (t : Tree), L[i]? = some t → ∃ u : Value, us[i]? = some u ∧ Nodes w u (Fm.enc t)
theorem VT.grew {w w' : World} {us : List Value} {L : List Tree} (h : VT w us L) (hg : Grew w w') : VT w' us L :=
  ⟨h.1, fun i t ht => let ⟨u, h1, h2⟩ := h.2 i t ht; ⟨u, h1, h2.grew hg⟩⟩
theorem VT.nil_ (w : World) : VT w [] [] := ⟨rfl, fun i t h => by simp at h⟩
theorem VT.one {w : World} {u : Value} {t : Tree} (h : Nodes w u (Fm.enc t)) : VT w [u] [t] := ⟨rfl, fun i t' ht => by
  have hi : i = 0 := by have := (List.getElem?_eq_some_iff.1 ht).1; simp at this; omega
  subst hi
  obtain rfl : t = t' := by simpa using ht
  exact ⟨u, rfl, h⟩⟩
theorem VT.app {w : World} {us vs : List Value} {L K : List Tree} (h : VT w us L) (k : VT w vs K) : VT w (us ++ vs) (L ++ K) := by
  refine ⟨by rw [List.length_append, List.length_append, h.1, k.1], fun i t ht => ?_⟩
  rw [List.getElem?_append] at ht ⊢
  rw [h.1]
  split at ht
  · rename_i hlt
    rw [if_pos hlt]; exact h.2 i t ht
  · rename_i hlt
    rw [if_neg hlt]; exact k.2 _ t ht
theorem VT.take {w : World} {us : List Value} {L : List Tree} (h : VT w us L) (k : Nat) : VT w (us.take k) (L.take k) := by
  refine ⟨by simp [h.1], fun i t ht => ?_⟩
  rw [List.getElem?_take] at ht ⊢
  split at ht
  · rename_i hlt
    rw [if_pos hlt]; exact h.2 i t ht
  · cases ht
theorem VT.drop {w : World} {us : List Value} {L : List Tree} (h : VT w us L) (k : Nat) : VT w (us.drop k) (L.drop k) := by
  refine ⟨by simp [h.1], fun i t ht => ?_⟩
  rw [List.getElem?_drop] at ht ⊢
  exact h.2 _ t ht
def LT (w : World) (v : Value) (L : List Tree) : Prop := ∃ us, Rd w 1 v L.length us ∧ VT w us L
theorem LT.grew {w w' : World} {v : Value} {L : List Tree} (h : LT w v L) (hg : Grew w w') : LT w' v L := let ⟨us, h1, h2⟩ := h; ⟨us, h1.grew hg, h2.grew hg⟩
theorem LT.of_own {w : World} {B : Nat} {v : Value} {us : List Value} {L : List Tree} (h : OwnV w B v us) (k : VT w us L) : LT w v L := ⟨us, by have := Rd.of_own h; rw [k.1] at this; exact this, k⟩
theorem LT.open_ {w : World} {v : Value} {L : List Tree} (h : LT w v L) : (v = .slice none 0 0 ∧ L = []) ∨ ∃ b o c, v = .slice (some ⟨b, o, none⟩) L.length c ∧ L.length ≤ c ∧ c ≤ 9223372036854775807 ∧ b < w.heap.size ∧
    ∀ i t, L[i]? = some t → ∃ u, (∀ W, Grew w W → W.cell? ⟨b, o + i, none⟩ = some u) ∧ Nodes w u (Fm.enc t) := by
  obtain ⟨us, ⟨h1, h2, h3⟩, h4, h5⟩ := h
  rcases h3 with ⟨h6, h7⟩ | ⟨b, o, c, h6, h7, h8, h9, h10⟩
  · exact .inl ⟨h6, List.eq_nil_of_length_eq_zero h7⟩
  · refine .inr ⟨b, o, c, h6, h7, h8, h9, fun i t ht => ?_⟩
    obtain ⟨u, k1, k2⟩ := h5 i t ht
    exact ⟨u, fun W hW => (hW.cell (p := ⟨b, o + i, none⟩) h9).trans (h10 i u k1), k2⟩
theorem LT.one {w : World} {T : TypeId} {u : Value} {t : Tree} (h : Nodes w u (Fm.enc t)) : LT (w.alloc (.cells #[u] T)) (.slice (some ⟨w.heap.size, 0, none⟩) 1 1) [t] :=
  ⟨[u], rd_lit w u T, (VT.one h).grew ((Grew.refl w).alloc _)⟩
theorem rd_lit2 (w : World) (u u2 : Value) (t : TypeId) : Rd (w.alloc (.cells #[u, u2] t)) 1 (.slice (some ⟨w.heap.size, 0, none⟩) 2 2) 2 [u, u2] := by
  refine ⟨rfl, by omega, .inr ⟨w.heap.size, 0, 2, rfl, by omega, by omega, by simp, fun j x hx => ?_⟩⟩
  have hj : j < 2 := by simpa using (List.getElem?_eq_some_iff.1 hx).1
  match j, hj with
  | 0, _ =>
    obtain rfl : u = x := by simpa using hx
    simp
  | 1, _ =>
    obtain rfl : u2 = x := by simpa using hx
    simp
theorem LT.two {w : World} {T : TypeId} {u u2 : Value} {t s : Tree} (h : Nodes w u (Fm.enc t)) (h2 : Nodes w u2 (Fm.enc s)) : LT (w.alloc (.cells #[u, u2] T)) (.slice (some ⟨w.heap.size, 0, none⟩) 2 2) [t, s] :=
  ⟨[u, u2], rd_lit2 w u u2 T, ((VT.one h).app (VT.one h2)).grew ((Grew.refl w).alloc _)⟩
theorem rd_take {w : World} {A : Option Addr} {n c : Nat} {us : List Value} (h : Rd w 1 (.slice A n c) n us) (i : Nat) (hi : i ≤ n) : Rd w 1 (.slice A i c) i (us.take i) := by
  obtain ⟨h1, h2, h3⟩ := h
  refine ⟨by simp; omega, by omega, ?_⟩
  rcases h3 with ⟨h4, h5⟩ | ⟨b, o, c', h4, h5, h6, h7, h8⟩
  · cases h4
    obtain rfl : i = 0 := by omega
    exact .inl ⟨rfl, rfl⟩
  · obtain ⟨rfl, rfl⟩ : A = some ⟨b, o, none⟩ ∧ c = c' := by simpa using h4
    refine .inr ⟨b, o, c, rfl, by omega, h6, h7, fun j u hu => ?_⟩
    rw [List.getElem?_take] at hu
    split at hu
    · exact h8 j u hu
    · cases hu
theorem rd_drop {w : World} {b o n c : Nat} {us : List Value} (h : Rd w 1 (.slice (some ⟨b, o, none⟩) n c) n us) (i : Nat) (hi : i ≤ n) : Rd w 1 (.slice (some ⟨b, o + i, none⟩) (n - i) (c - i)) (n - i) (us.drop i) := by
  obtain ⟨h1, h2, h3⟩ := h
  refine ⟨by simp; omega, by omega, ?_⟩
  rcases h3 with ⟨h4, h5⟩ | ⟨b', o', c', h4, h5, h6, h7, h8⟩
  · cases h4
  · obtain ⟨⟨rfl, rfl⟩, rfl⟩ : (b = b' ∧ o = o') ∧ c = c' := by simpa using h4
    refine .inr ⟨b, o + i, c - i, rfl, by omega, by omega, h7, fun j u hu => ?_⟩
    rw [List.getElem?_drop] at hu
    rw [Nat.add_assoc]
    exact h8 _ u hu

theorem rd_tail {w : World} {b o n c : Nat} {us : List Value} (h : Rd w 1 (.slice (some ⟨b, o, none⟩) n c) n us) (i : Nat) (hi : i ≤ n) (hn : n ≤ c) : Rd w 1 (.slice (if c = i then some ⟨b, o, none⟩ else some ⟨b, o + i, none⟩) (n - i) (c - i)) (n - i) (us.drop i) := by
  by_cases hc : c = i
  · rw [if_pos hc]
    have h0 : n - i = 0 := by omega
    have h1 := h.1
    refine ⟨by simp; omega, by omega, ?_⟩
    obtain ⟨_, _, h3⟩ := h
    rcases h3 with ⟨h4, _⟩ | ⟨b', o', c', h4, h5, h6, h7, h8⟩
    · cases h4
    · obtain ⟨⟨rfl, rfl⟩, rfl⟩ : (b = b' ∧ o = o') ∧ c = c' := by simpa using h4
      refine .inr ⟨b, o, c - i, rfl, by omega, by omega, h7, fun j u hu => ?_⟩
      rw [List.getElem?_drop, List.getElem?_eq_none (by omega)] at hu
      cases hu
  · rw [if_neg hc]
    exact rd_drop h i hi

end Go.Proofs.YtopjgcbhjhhlfaaGreat


/- A text appended to a row of strings of the call's own. -/
namespace Go.Proofs.YtopjgcbhjhhlfaaGreat
open Go.RowKit

theorem wpList_appStr {ops : Array Oper} {rest : List Oper} {o : Oper} {a : Act} {Q : Exit → Act → World → Prop} {w w0 : World} (s x : Operand) (hgd : o.guard = none)
    (ho : o.op = .call { callee := .builtin .append, args := #[s, x], argTypes := #[61, 61] })
    (v : Value) (L : List ByteArray) (hs : a.eval s = v) (hown : OwnS w w0.heap.size v L) (hg : Grew w0 w) (vx : Value) (k : ByteArray) (hx : a.eval x = vx) (hr : Rd w 1 vx 1 [.string k]) (hn : L.length ≤ 1048576)
    (h : ∀ v' w', OwnS w' w0.heap.size v' (L ++ [k]) → Grew w0 w' → w.grownBy w' v.ownBlock → wpList Tryz.prog ops Q rest (a.put o.dst v') w') : wpList Tryz.prog ops Q (o :: rest) a w := by
  obtain ⟨i0, hi0, hz0, hz1, hz2⟩ := info_parts Tryz.infoStr
  refine wpList_append_rd w hgd s x _ ho w0.heap.size 9 i0 _ 1 16 Tryz.underlying61 hi0 hz0 hz1 hz2 rfl (by omega) v L.length (scells L) hs hown vx 1 [.string k] hx hr (by simp [Value.oneCell']) (by unfold maxLen; omega) (by omega) hg.size ?_
  intro v' w' h1 h2 h3
  refine h v' w' ?_ (hg.grown h2 fun k hk => (hown.lt k hk).1) h2
  unfold OwnS
  rw [List.length_append, scells_append]
  exact h1

end Go.Proofs.YtopjgcbhjhhlfaaGreat


/- The parts of a formula: parts, partTexts of the program. -/
namespace Go.Proofs.YtopjgcbhjhhlfaaGreat
open Go.RowKit

end Go.Proofs.YtopjgcbhjhhlfaaGreat


/- Lists of one and of two strings. -/
namespace Go.Proofs.YtopjgcbhjhhlfaaGreat
open Go.RowKit

end Go.Proofs.YtopjgcbhjhhlfaaGreat


/- l01Says, l02Insert, l22With of the reference. -/
namespace Go.Proofs.YtopjgcbhjhhlfaaGreat
open Go.RowKit

def InsB (L : List ByteArray) (s : ByteArray) (K : List ByteArray) : Prop := (K = L ∧ s ∈ L) ∨ ∃ j, j ≤ L.length ∧ K = L.take j ++ [s] ++ L.drop j
theorem insB_nil (s : ByteArray) : InsB [] s [s] := .inr ⟨0, Nat.le_refl _, rfl⟩
theorem rdS_take {w : World} {A : Option Addr} {n c : Nat} {L : List ByteArray} (h : Rd w 1 (.slice A n c) n (scells L)) (hl : L.length = n) (i : Nat) (hi : i ≤ n) : Strs w (.slice A i c) (L.take i) := by
  have := rd_take h i hi
  unfold Strs scells at *
  rw [List.length_take, hl, Nat.min_eq_left hi, List.map_take]
  exact this
theorem rdS_tail {w : World} {b o n c : Nat} {L : List ByteArray} (h : Rd w 1 (.slice (some ⟨b, o, none⟩) n c) n (scells L)) (hl : L.length = n) (i : Nat) (hi : i ≤ n) (hn : n ≤ c) : Strs w (.slice (if c = i then some ⟨b, o, none⟩ else some ⟨b, o + i, none⟩) (n - i) (c - i)) (L.drop i) := by
  have := rd_tail h i hi hn
  unfold Strs scells at *
  rw [List.length_drop, hl, List.map_drop]
  exact this
end Go.Proofs.YtopjgcbhjhhlfaaGreat


/- Left sides in the reference: l22With. -/
namespace Go.Proofs.YtopjgcbhjhhlfaaGreat
open Go.RowKit

end Go.Proofs.YtopjgcbhjhhlfaaGreat


/- A text put into a list: what is returned is the list itself or a row of the call's own. l22With of two texts. -/
namespace Go.Proofs.YtopjgcbhjhhlfaaGreat
open Go.RowKit

def GivesInO (w : World) (v : Value) (L : List ByteArray) (s : ByteArray) (e : Ending) (w' : World) : Prop := ∃ u K, e = .returned u ∧ InsB L s K ∧ ((u = v ∧ K = L) ∨ OwnS w' w.heap.size u K) ∧ Grew w w'
set_option maxHeartbeats 2000000 in
theorem l02InsertO_c (v : Value) (L : List ByteArray) (s : ByteArray) (w : World) (h : Strs w v L) (hn : L.length ≤ 1048576) :
    Calls Tryz.prog 65 #[v, .string s] w (GivesInO w v L s) := by
  have h0 := Lib.hid h
  rcases h.open_ with ⟨rfl, rfl⟩ | ⟨b, o, c, rfl, hc, hm, hb, hcell⟩
  · clear h
    have he := own_emptyS' w
    go_enter Tryz.func65, Tryz.ntmps65
    go_wp2_with fail
    refine wp_loop_rounds 1 ?_; rw [rounds_succ]
    go_wp2_with (first
      | (at_builtin; have hz := hown2; refine wpList_appSs (w0 := w) _ _ rfl rfl _ _ rfl hown2 hg2 _ [] rfl (Strs.nil_ _) (by simp) ?_; intro v3 w3 hown3 hg3 _)
      | (at_builtin; have hz := hown1; refine wpList_appStr (w0 := w) _ _ rfl rfl _ _ rfl (own_grew hown1 ((Grew.refl w1).alloc _)) (hg1.alloc _) _ s rfl (rd_lit _ _ _) (by simp) ?_; intro v2 w2 hown2 hg2 _; have hs2 := strs_slice hown2.strs; obtain ⟨A2, c2, rfl⟩ := hs2)
      | (at_builtin; refine wpList_appSs (w0 := w) _ _ rfl rfl _ [] rfl he ((Grew.refl w).alloc _) _ [] rfl (Strs.nil_ _) (by simp) ?_; intro v1 w1 hown1 hg1 _; have hs1 := strs_slice hown1.strs; obtain ⟨A1, c1, rfl⟩ := hs1))
    go_ret
    exact ⟨_, _, rfl, by simpa using insB_nil s, .inr hown3, hg3⟩
  have HC := Lib.hid hcell
  have HR := Lib.hid (show Rd w 1 (.slice (some ⟨b, o, none⟩) L.length c) L.length (scells L) from h)
  have HT := Lib.hid (fun i hi => rdS_take HR.out rfl i hi)
  have HD := Lib.hid (fun i hi => rdS_tail HR.out rfl i hi hc)
  have HM := Lib.hid (fun j hj (he : st L j = s) => (by rw [← he]; exact st_mem hj : s ∈ L))
  have HJ := Lib.hid (fun j (hj : j ≤ L.length) => (show InsB L s (L.take j ++ [s] ++ L.drop j) from .inr ⟨j, hj, rfl⟩))
  have HLt := Lib.hid (fun j => (by rw [List.length_take]; omega : (L.take j).length ≤ L.length))
  have HLd := Lib.hid (fun j => (by rw [List.length_drop]; omega : (L.drop j).length ≤ L.length))
  clear h hcell HR
  generalize hN : L.length = n at *
  clear hN
  go_enter Tryz.func65, Tryz.ntmps65
  go_wp2_with fail
  go_loopw [5] (fun i wr => ∃ j : Nat, j ≤ n ∧ i = .int .i64 j ∧ Grew w wr) (fun i _ => n - (intOf i).toNat)
  case atStart => exact ⟨0, Nat.zero_le _, rfl, Grew.refl _⟩
  case round =>
    obtain ⟨j, hj, rfl, hB⟩ := hrel
    have he := own_emptyS' wr
    have hT := Lib.hid (HT.out j hj)
    have hD := Lib.hid (HD.out j hj)
    have hJ := Lib.hid (HJ.out j hj)
    have hlt1 := HLt.out j
    have hld1 := HLd.out j
    have hb1 := hB.size
    by_cases hlt : j < n
    · have k1 := HC.out j hlt _ hB
      have hM := Lib.hid (HM.out j hlt)
      have hcj : ¬ c = j := by omega
      rw [if_neg hcj] at hD
      generalize st L j = x at *
      generalize L.take j = T at *
      generalize L.drop j = U at *
      cases hl : Op.bytesLess x.toList s.toList with
      | true =>
        go_wp2_with fail
        go_roundw
        case rel => exact ⟨j + 1, by omega, by go_num, hB⟩
        case measure => simp [intOf]; omega
      | false =>
        by_cases hx : x = s
        · have hv := Lib.hid (hM.out hx)
          subst hx
          have q1 := bytes_eq' x
          go_wp2_with fail
          go_ret
          exact ⟨_, L, rfl, .inl ⟨rfl, hv.out⟩, .inl ⟨rfl, rfl⟩, hB⟩
        · have q1 := bytes_ne' (fun e : s = x => hx e.symm)
          have q2 := bytes_ne' hx
          have he1 : OwnS (wr.alloc (.cells #[] 9)) w.heap.size (.slice (some ⟨wr.heap.size, 0, none⟩) 0 0) [] := World.ownsRow_lit (e := 9) (size := 1) wr #[] 0 hb1 (by omega) rfl
          go_wp2_with (first
            | (at_builtin; have hz := hown2; refine wpList_appSs (w0 := w) _ _ rfl rfl _ _ rfl hown2 hg2 _ U rfl (Strs.grew hD.out hg2) (by first | omega | (simp; omega)) ?_; intro v3 w3 hown3 hg3 _)
            | (at_builtin; have hz := hown1; refine wpList_appStr (w0 := w) _ _ rfl rfl _ _ rfl (own_grew hown1 ((Grew.refl w1).alloc _)) (hg1.alloc _) _ s rfl (rd_lit _ _ _) (by first | omega | (simp; omega)) ?_; intro v2 w2 hown2 hg2 _; have hs2 := strs_slice hown2.strs; rw [List.length_append, List.length_singleton] at hs2; obtain ⟨A2, c2, rfl⟩ := hs2)
            | (at_builtin; refine wpList_appSs (w0 := w) _ _ rfl rfl _ [] rfl he1 (hB.alloc _) _ T rfl (Strs.grew hT.out (hB.alloc _)) (by first | omega | (simp; omega)) ?_; intro v1 w1 hown1 hg1 _; rw [List.nil_append] at hown1; have hs1 := strs_slice hown1.strs; obtain ⟨A1, c1, rfl⟩ := hs1))
          go_ret
          exact ⟨_, _, rfl, by simpa using hJ.out, .inr hown3, hg3⟩
    · obtain rfl : j = n := by omega
      generalize L.take j = T at *
      generalize L.drop j = U at *
      have he1 : OwnS (wr.alloc (.cells #[] 9)) w.heap.size (.slice (some ⟨wr.heap.size, 0, none⟩) 0 0) [] := World.ownsRow_lit (e := 9) (size := 1) wr #[] 0 hb1 (by omega) rfl
      by_cases hcj : c = j
      · subst hcj
        rw [if_pos rfl, Nat.sub_self] at hD
        go_wp2_with (first
          | (at_builtin; have hz := hown2; refine wpList_appSs (w0 := w) _ _ rfl rfl _ _ rfl hown2 hg2 _ U rfl (Strs.grew hD.out hg2) (by first | omega | (simp; omega)) ?_; intro v3 w3 hown3 hg3 _)
          | (at_builtin; have hz := hown1; refine wpList_appStr (w0 := w) _ _ rfl rfl _ _ rfl (own_grew hown1 ((Grew.refl w1).alloc _)) (hg1.alloc _) _ s rfl (rd_lit _ _ _) (by first | omega | (simp; omega)) ?_; intro v2 w2 hown2 hg2 _; have hs2 := strs_slice hown2.strs; rw [List.length_append, List.length_singleton] at hs2; obtain ⟨A2, c2, rfl⟩ := hs2)
          | (at_builtin; refine wpList_appSs (w0 := w) _ _ rfl rfl _ [] rfl he1 (hB.alloc _) _ T rfl (Strs.grew hT.out (hB.alloc _)) (by first | omega | (simp; omega)) ?_; intro v1 w1 hown1 hg1 _; rw [List.nil_append] at hown1; have hs1 := strs_slice hown1.strs; obtain ⟨A1, c1, rfl⟩ := hs1))
        go_ret
        exact ⟨_, _, rfl, by simpa using hJ.out, .inr hown3, hg3⟩
      · rw [if_neg hcj, Nat.sub_self] at hD
        go_wp2_with (first
          | (at_builtin; have hz := hown2; refine wpList_appSs (w0 := w) _ _ rfl rfl _ _ rfl hown2 hg2 _ U rfl (Strs.grew hD.out hg2) (by first | omega | (simp; omega)) ?_; intro v3 w3 hown3 hg3 _)
          | (at_builtin; have hz := hown1; refine wpList_appStr (w0 := w) _ _ rfl rfl _ _ rfl (own_grew hown1 ((Grew.refl w1).alloc _)) (hg1.alloc _) _ s rfl (rd_lit _ _ _) (by first | omega | (simp; omega)) ?_; intro v2 w2 hown2 hg2 _; have hs2 := strs_slice hown2.strs; rw [List.length_append, List.length_singleton] at hs2; obtain ⟨A2, c2, rfl⟩ := hs2)
          | (at_builtin; refine wpList_appSs (w0 := w) _ _ rfl rfl _ [] rfl he1 (hB.alloc _) _ T rfl (Strs.grew hT.out (hB.alloc _)) (by first | omega | (simp; omega)) ?_; intro v1 w1 hown1 hg1 _; rw [List.nil_append] at hown1; have hs1 := strs_slice hown1.strs; obtain ⟨A1, c1, rfl⟩ := hs1))
        go_ret
        exact ⟨_, _, rfl, by simpa using hJ.out, .inr hown3, hg3⟩

end Go.Proofs.YtopjgcbhjhhlfaaGreat


/- Kinds of values in a region that draws formulas and texts: what each operation makes of its kinds. -/
namespace Go.Proofs.YtopjgcbhjhhlfaaGreat
open Go.RowKit
open Fm (Nd Tree)

inductive Kd where
  | any | src | nd (n : Nat) | str | strs (n : Nat) | int (n : Nat) | lit (n : Nat) | addr | sq | res
def tyS (g r B : Nat) : Kd → World → Value → Prop
  | .any, _, _ => True
  | .src, _, v => v = .pointer (some ⟨g, 0, none⟩)
  | .nd n, w, v => ∃ t : Tree, Own w B v (Fm.enc t) ∧ (Fm.enc t).length ≤ n
  | .str, _, v => ∃ s : ByteArray, v = .string s ∧ s.size ≤ 1048576
  | .strs n, w, v => ∃ L, OwnS w B v L ∧ Fits L ∧ L.length ≤ n
  | .int n, _, v => ∃ k : Nat, v = .int .i64 (k : Int) ∧ k < n
  | .lit n, w, v => ∃ b cs, v = .slice (some ⟨b, 0, none⟩) n n ∧ B ≤ b ∧ w.heap[b]? = some (.cells cs 9 (0, 0)) ∧ ∀ i, i < n → ∃ s : ByteArray, cs[i]? = some (.string s) ∧ s.size ≤ 1048576
  | .addr, w, v => ∃ b i cs, ∃ s : ByteArray, v = .pointer (some ⟨b, i, none⟩) ∧ B ≤ b ∧ w.heap[b]? = some (.cells cs 9 (0, 0)) ∧ cs[i]? = some (.string s) ∧ s.size ≤ 1048576
  | .sq, w, v => ∃ x y L1 L2, v = .agg #[x, y] ∧ OwnS w B x L1 ∧ Fits L1 ∧ L1.length ≤ 8 ∧ OwnS w B y L2 ∧ Fits L2 ∧ L2.length ≤ 8
  | .res, w, _ => ∃ x y L1 L2, w.heap[r]? = some (.cells #[x, y] 63 (0, 0)) ∧ OwnS w B x L1 ∧ Fits L1 ∧ L1.length ≤ 8 ∧ OwnS w B y L2 ∧ Fits L2 ∧ L2.length ≤ 8
def Kp (r B : Nat) (w w' : World) : Prop := w.heap.size ≤ w'.heap.size ∧ (∀ b, B ≤ b → b < w.heap.size → w'.heap[b]? = w.heap[b]?) ∧ w'.heap[r]? = w.heap[r]?
theorem own_kp {r B : Nat} {w w' : World} {e : TypeId} {k n : Nat} {v : Value} {xs : List Value} (h : w.ownsRow B e k v n xs) (hk : Kp r B w w') : w'.ownsRow B e k v n xs := by
  obtain ⟨h1, h2⟩ := h
  refine ⟨h1, ?_⟩
  rcases h2 with h2 | ⟨g, cap, cur, q1, q2, q3, q4⟩
  · exact .inl h2
  · exact .inr ⟨g, cap, cur, q1, q2, (hk.2.1 g q2 (blk_lt q3)).trans q3, q4⟩
theorem tyS_kp {g r B : Nat} {w w' : World} (hk : Kp r B w w') : ∀ (k : Kd) (v : Value), tyS g r B k w v → tyS g r B k w' v
  | .any, _, h => h
  | .src, _, h => h
  | .nd _, _, ⟨t, h1, h2⟩ => ⟨t, own_kp h1 hk, h2⟩
  | .str, _, h => h
  | .strs _, _, ⟨L, h1, h2⟩ => ⟨L, own_kp h1 hk, h2⟩
  | .int _, _, h => h
  | .lit _, _, ⟨b, cs, h1, h2, h3, h4⟩ => ⟨b, cs, h1, h2, (hk.2.1 b h2 (blk_lt h3)).trans h3, h4⟩
  | .addr, _, ⟨b, i, cs, s, h1, h2, h3, h4⟩ => ⟨b, i, cs, s, h1, h2, (hk.2.1 b h2 (blk_lt h3)).trans h3, h4⟩
  | .sq, _, ⟨x, y, L1, L2, h1, h2, h3, h4, h5, h6⟩ => ⟨x, y, L1, L2, h1, own_kp h2 hk, h3, h4, own_kp h5 hk, h6⟩
  | .res, _, ⟨x, y, L1, L2, h1, h2, h3, h4, h5, h6⟩ => ⟨x, y, L1, L2, hk.2.2.trans h1, own_kp h2 hk, h3, h4, own_kp h5 hk, h6⟩
structure SK (g r B : Nat) (cv : Value) (N : Nat) (wE : World) (vs : List (Kd × Value)) (w : World) : Prop where
  src : Src w g cv N
  only : Only g wE w
  size : B ≤ w.heap.size
  rb : r < B
  re : wE.heap.size ≤ r
  gb : g < wE.heap.size
  res : ∃ x y, w.heap[r]? = some (.cells #[x, y] 63 (0, 0))
  vals : ∀ p ∈ vs, tyS g r B p.1 w p.2
section
variable {g r B : Nat} {cv : Value} {N : Nat} {wE : World} {vs : List (Kd × Value)} {w w' : World}
theorem SK.gr (h : SK g r B cv N wE vs w) (hg : Grew w w') : Kp r B w w' := by
  obtain ⟨x, y, hr⟩ := h.res
  exact ⟨hg.size, fun b _ hb => hg.block hb, hg.block (blk_lt hr)⟩
theorem SK.on (h : SK g r B cv N wE vs w) (hg : Only g w w') : Kp r B w w' := by
  obtain ⟨x, y, hr⟩ := h.res
  have h1 := h.re
  have h2 := h.gb
  have h3 := h.rb
  exact ⟨hg.size, fun b hb hl => hg.block hl (by omega), hg.block (blk_lt hr) (by omega)⟩
theorem SK.next (h : SK g r B cv N wE vs w) (hk : Kp r B w w') (hs : Src w' g cv N) (ho : Only g w w') : SK g r B cv N wE vs w' :=
  ⟨hs, h.only.trans ho, Nat.le_trans h.size hk.1, h.rb, h.re, h.gb, by obtain ⟨x, y, hr⟩ := h.res; exact ⟨x, y, hk.2.2.trans hr⟩, fun p hp => tyS_kp hk _ _ (h.vals p hp)⟩
theorem SK.grew (h : SK g r B cv N wE vs w) (hg : Grew w w') : SK g r B cv N wE vs w' := h.next (h.gr hg) (h.src.grew hg) hg.only
end
def TT (g r B : Nat) (ks : List Kd) (j : Nat) (w : World) (u : Value) : Prop := tyS g r B (ks.getD j .any) w u
section
variable {g r B : Nat} {cv : Value} {N : Nat} {wE : World} {vs : List (Kd × Value)} {w : World} {ks : List Kd} {i : Nat} {o : Oper} {a : Act} {Q : Exit → Act → World → Prop} {t : Tmp}
def FPost (g r B : Nat) (cv : Value) (N : Nat) (wE : World) (vs : List (Kd × Value)) (ks : List Kd) (i : Nat) (o : Oper) (a : Act) (w : World) (a' : Act) (w' : World) : Prop :=
  ∃ v, a' = a.put o.dst v ∧ SK g r B cv N wE vs w' ∧ (∀ j u, j ≠ i → TT g r B ks j w u → TT g r B ks j w' u) ∧ TT g r B ks i w' (match o.dst with | some _ => v | none => undef)
theorem fpost {w' : World} {v : Value} {k : Kd} (hS : SK g r B cv N wE vs w') (hkp : Kp r B w w') (hd : o.dst = some t) (hk : ks.getD i .any = k) (hv : tyS g r B k w' v) : FPost g r B cv N wE vs ks i o a w (a.put o.dst v) w' := by
  refine ⟨v, rfl, hS, fun j u _ h => tyS_kp hkp _ _ h, ?_⟩
  rw [hd]
  show tyS g r B (ks.getD i .any) w' v
  rw [hk]
  exact hv
theorem fl_val {v : Value} {w' : World} {K : Act → World → Prop} (hr : (execOp a.eval o).run Tryz.prog w = .ok (.value v) w') (hK : K (a.put o.dst v) w') : o.wp Tryz.prog a w K Q := by
  unfold Oper.wp
  rw [hr]
  exact hK
theorem fl_call {f : FuncId} {args : Array Operand} {vals : Array Value} {at_ : Array TypeId} {K : Act → World → Prop} (ho : o.op = .call { callee := .value (.func f), args := args, argTypes := at_ }) (he : Enters Tryz.prog f) (hv : args.map a.eval = vals)
    (hc : Calls Tryz.prog f vals w (fun e w' => ∃ u, e = .returned u ∧ K (a.put o.dst u) w')) : o.wp Tryz.prog a w K Q := by
  have hr : (execOp a.eval o).run Tryz.prog w = .ok (.enter f vals) w := by
    unfold execOp
    simp only [ho]
    have := he (args.map a.eval) w
    rw [hv] at this
    simpa [resolve, Deferred.ofValue, invoke, Act.eval, hv] using this
  unfold Oper.wp
  rw [hr]
  refine Calls.mono hc ?_
  rintro e w' ⟨u, rfl, h⟩
  exact h
theorem fl_mv {x : Operand} {k : Kd} (ho : o.op = .move x ∨ o.op = .assign x) (hS : SK g r B cv N wE vs w) (hd : o.dst = some t) (hk : ks.getD i .any = k) (hx : tyS g r B k w (a.eval x)) : o.wp Tryz.prog a w (FPost g r B cv N wE vs ks i o a w) Q := by
  have hr : (execOp a.eval o).run Tryz.prog w = .ok (.value (a.eval x)) w := by
    unfold execOp
    rcases ho with h | h <;> simp [h]
  exact fl_val hr (fpost hS ⟨Nat.le_refl _, fun _ _ _ => rfl, rfl⟩ hd hk hx)
theorem fl_pre {kk : Int} {x : Operand} {at_ : Array TypeId} {n m : Nat} {c : Tree → Tree} (ho : o.op = .call { callee := .value (.func 64), args := #[.const (.int .i64 kk), x], argTypes := at_ }) (he : Enters Tryz.prog 64)
    (hS : SK g r B cv N wE vs w) (hd : o.dst = some t) (hc : ∀ t, Fm.pre kk (Fm.enc t) = Fm.enc (c t)) (hk : ks.getD i .any = .nd m) (hm : n + 1 ≤ m) (hn : n ≤ 1000) (hx : tyS g r B (.nd n) w (a.eval x)) : o.wp Tryz.prog a w (FPost g r B cv N wE vs ks i o a w) Q := by
  obtain ⟨u, h1, h2⟩ := hx
  refine fl_call ho he (vals := #[.int .i64 kk, a.eval x]) (by simp [Act.eval]) ?_
  refine (l02Pre_c kk (a.eval x) (Fm.enc u) w h1.nodes (by omega)).mono ?_
  rintro e w' ⟨v, rfl, hO, hg⟩
  rw [hc] at hO
  refine ⟨v, rfl, fpost (hS.grew hg) (hS.gr hg) hd hk ⟨c u, own_base hO hS.size, ?_⟩⟩
  rw [← hc]
  simp only [Fm.pre, List.length_cons]
  omega
theorem fl_pair {kk : Int} {x y : Operand} {at_ : Array TypeId} {n1 n2 m : Nat} {c : Tree → Tree → Tree} (ho : o.op = .call { callee := .value (.func 63), args := #[.const (.int .i64 kk), x, y], argTypes := at_ }) (he : Enters Tryz.prog 63)
    (hS : SK g r B cv N wE vs w) (hd : o.dst = some t) (hc : ∀ t u, Fm.join kk (Fm.enc t) (Fm.enc u) = Fm.enc (c t u)) (hk : ks.getD i .any = .nd m) (hm : n1 + n2 + 1 ≤ m) (hn : n1 + n2 ≤ 1000) (hx : tyS g r B (.nd n1) w (a.eval x)) (hy : tyS g r B (.nd n2) w (a.eval y)) : o.wp Tryz.prog a w (FPost g r B cv N wE vs ks i o a w) Q := by
  obtain ⟨u, h1, h2⟩ := hx
  obtain ⟨u', h3, h4⟩ := hy
  refine fl_call ho he (vals := #[.int .i64 kk, a.eval x, a.eval y]) (by simp [Act.eval]) ?_
  refine (l02Pair_c kk (a.eval x) (a.eval y) (Fm.enc u) (Fm.enc u') w h1.nodes h3.nodes (by omega)).mono ?_
  rintro e w' ⟨v, rfl, hO, hg⟩
  rw [hc] at hO
  refine ⟨v, rfl, fpost (hS.grew hg) (hS.gr hg) hd hk ⟨c u u', own_base hO hS.size, ?_⟩⟩
  rw [← hc]
  simp only [Fm.join, List.length_cons, List.length_append]
  omega
theorem fl_text {x : Operand} {at_ : Array TypeId} {n : Nat} (ho : o.op = .call { callee := .value (.func 66), args := #[x], argTypes := at_ }) (he : Enters Tryz.prog 66)
    (hS : SK g r B cv N wE vs w) (hd : o.dst = some t) (hk : ks.getD i .any = .str) (hn : n ≤ 1000) (hx : tyS g r B (.nd n) w (a.eval x)) : o.wp Tryz.prog a w (FPost g r B cv N wE vs ks i o a w) Q := by
  obtain ⟨u, h1, h2⟩ := hx
  refine fl_call ho he (vals := #[a.eval x]) (by simp) ?_
  refine (l02Text_c u (a.eval x) w h1.nodes (by omega)).mono ?_
  rintro e w' ⟨rfl, hg⟩
  refine ⟨_, rfl, fpost (hS.grew hg) (hS.gr hg) hd hk ⟨_, rfl, ?_⟩⟩
  have := Fm.txt_len u 0
  rw [bs_size]
  omega
theorem fl_next {n : Nat} {x : Operand} {at_ : Array TypeId} (ho : o.op = .call { callee := .value (.func 21), args := #[x, .const (.int .i64 (n : Int))], argTypes := at_ }) (he : Enters Tryz.prog 21)
    (hS : SK g r B cv N wE vs w) (hd : o.dst = some t) (hk : ks.getD i .any = .int n) (hn : 1 ≤ n ∧ n ≤ 1000) (hx : tyS g r B .src w (a.eval x)) : o.wp Tryz.prog a w (FPost g r B cv N wE vs ks i o a w) Q := by
  refine fl_call ho he (vals := #[.pointer (some ⟨g, 0, none⟩), .int .i64 (n : Int)]) (by rw [← show a.eval x = _ from hx]; simp [Act.eval]) ?_
  refine (so_next g cv N w (n : Int) (by omega) w ⟨hS.src, Only.refl _ _⟩).mono ?_
  rintro e w' ⟨k, rfl, hkn, hSO, ho'⟩
  exact ⟨_, rfl, fpost (hS.next (hS.on ho') hSO.1 ho') (hS.on ho') hd hk ⟨k, rfl, by omega⟩⟩
theorem insB_lenK {L K : List ByteArray} {s : ByteArray} (h : InsB L s K) : K.length ≤ L.length + 1 := by
  rcases h with ⟨rfl, _⟩ | ⟨j, hj, rfl⟩
  · omega
  · simp [List.length_take, List.length_drop]; omega
theorem fits_mem {L : List ByteArray} : Fits L ↔ ∀ s ∈ L, s.size ≤ 1048576 := by
  constructor
  · intro h s hs
    obtain ⟨i, hi, rfl⟩ := List.getElem_of_mem hs
    have := h i hi
    rwa [show st L i = L[i] by simp [st, List.getD, hi]] at this
  · intro h i hi
    rw [show st L i = L[i] by simp [st, List.getD, hi]]
    exact h _ (List.getElem_mem hi)
theorem insB_fits {L K : List ByteArray} {s : ByteArray} (h : InsB L s K) (hL : Fits L) (hs : s.size ≤ 1048576) : Fits K := by
  rw [fits_mem] at hL ⊢
  intro z hz
  rcases h with ⟨rfl, _⟩ | ⟨j, hj, rfl⟩
  · exact hL z hz
  · simp only [List.mem_append, List.mem_singleton] at hz
    rcases hz with (hz | rfl) | hz
    · exact hL z (List.mem_of_mem_take hz)
    · exact hs
    · exact hL z (List.mem_of_mem_drop hz)
theorem fl_ins {x y : Operand} {at_ : Array TypeId} {n m : Nat} (ho : o.op = .call { callee := .value (.func 65), args := #[x, y], argTypes := at_ }) (he : Enters Tryz.prog 65)
    (hS : SK g r B cv N wE vs w) (hd : o.dst = some t) (hk : ks.getD i .any = .strs m) (hm : n + 1 ≤ m) (hn : n ≤ 1000) (hx : tyS g r B (.strs n) w (a.eval x)) (hy : tyS g r B .str w (a.eval y)) : o.wp Tryz.prog a w (FPost g r B cv N wE vs ks i o a w) Q := by
  obtain ⟨L, h1, h2, h3⟩ := hx
  obtain ⟨s, h4, h5⟩ := hy
  refine fl_call ho he (vals := #[a.eval x, .string s]) (by rw [← h4]; simp) ?_
  refine (l02InsertO_c (a.eval x) L s w (OwnS.strs h1) (by omega)).mono ?_
  rintro e w' ⟨u, K, rfl, hI, hu, hg⟩
  have hl := insB_lenK hI
  refine ⟨_, rfl, fpost (hS.grew hg) (hS.gr hg) hd hk ⟨K, ?_, insB_fits hI h2 h5, by omega⟩⟩
  rcases hu with ⟨rfl, rfl⟩ | hu
  · exact own_grew h1 hg
  · exact own_base hu hS.size
theorem fl_lit {n : Nat} {cs : Array Value} (hr : (execOp a.eval o).run Tryz.prog w = .ok (.value (.slice (some ⟨w.heap.size, 0, none⟩) n n)) (w.alloc (.cells cs 9)))
    (hS : SK g r B cv N wE vs w) (hd : o.dst = some t) (hk : ks.getD i .any = .lit n) (hcs : ∀ i, i < n → ∃ s : ByteArray, cs[i]? = some (.string s) ∧ s.size ≤ 1048576) : o.wp Tryz.prog a w (FPost g r B cv N wE vs ks i o a w) Q := by
  have hg := (Grew.refl w).alloc (.cells cs 9)
  exact fl_val hr (fpost (hS.grew hg) (hS.gr hg) hd hk ⟨w.heap.size, cs, rfl, hS.size, blk_new w _, hcs⟩)
theorem fl_lit0 {m : Nat} (hr : (execOp a.eval o).run Tryz.prog w = .ok (.value (.slice (some ⟨w.heap.size, 0, none⟩) 0 0)) (w.alloc (.cells #[] 9)))
    (hS : SK g r B cv N wE vs w) (hd : o.dst = some t) (hk : ks.getD i .any = .strs m) : o.wp Tryz.prog a w (FPost g r B cv N wE vs ks i o a w) Q := by
  have hg := (Grew.refl w).alloc (.cells #[] 9)
  refine fl_val hr (fpost (hS.grew hg) (hS.gr hg) hd hk ⟨[], ?_, fun i hi => absurd hi (by simp), Nat.zero_le _⟩)
  exact ⟨rfl, .inr ⟨w.heap.size, 0, #[], rfl, hS.size, blk_new w _, Nat.le_refl _, Nat.zero_le _, rfl, rfl⟩⟩
theorem fl_lit1 {m : Nat} {v : Value} (hr : (execOp a.eval o).run Tryz.prog w = .ok (.value (.slice (some ⟨w.heap.size, 0, none⟩) 1 1)) (w.alloc (.cells #[v] 9)))
    (hS : SK g r B cv N wE vs w) (hd : o.dst = some t) (hk : ks.getD i .any = .strs m) (hm : 1 ≤ m) (hv : tyS g r B .str w v) : o.wp Tryz.prog a w (FPost g r B cv N wE vs ks i o a w) Q := by
  obtain ⟨s, rfl, h5⟩ := hv
  have hg := (Grew.refl w).alloc (.cells #[.string s] 9)
  refine fl_val hr (fpost (hS.grew hg) (hS.gr hg) hd hk ⟨[s], ?_, fits_mem.2 fun z hz => by rw [List.mem_singleton] at hz; rw [hz]; exact h5, hm⟩)
  exact ⟨rfl, .inr ⟨w.heap.size, 1, #[.string s], rfl, hS.size, blk_new w _, Nat.le_refl _, by unfold maxLen; omega, rfl, rfl⟩⟩
end
end Go.Proofs.YtopjgcbhjhhlfaaGreat


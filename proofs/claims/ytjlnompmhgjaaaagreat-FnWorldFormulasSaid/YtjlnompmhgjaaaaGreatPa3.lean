/- Texts in one file: WfY SameN WfZ Wga Hold ListsI Above Side Lists Own All JoinAll Wgb Wgc Wgd Wge Wgf Wgg Wgh WfE Src Draw Any Wgi Wgj WfT Wgk Dc Put IdxC Vt AppStr Pt S12 SayL PutL Put2 PutA SayI Wgm Wgo Wgn Wgp MbQ MbSq MbO MbEl MbN MbMl MbL MnT MnU MnV MnW. -/
import Derived.Lib.SliceRun
import Derived.Deep.QuietTactic
import Derived.BigQuiet
import Derived.Deep.LoopGhost
import Derived.Outline
import Derived.BigFrame
import Derived.Deep.RegionHeld3
import Derived.WalkSpells
import Derived.WalkLawsBesides
import Derived.OwnWalk
import Derived.Conc.WgArith
import Derived.Laws.Bits64
import Derived.Deep.RegionLaw
import Derived.Lib.SlicesS
import Derived.Test.YtjlnompmhgjaaaaGreatPa1
import Derived.Test.YtjlnompmhgjaaaaGreatPa2
set_option linter.all false

/- Runs of equal formulas made one: what the library's CompactFunc keeps, plain. -/
namespace Go.Proofs.YtjlnompmhgjaaaaGreat
open Go.RowKit
open Fm (Nd Tree)

structure CSt (T T1 : Nat → Tree) (k m : Nat) : Prop where
  k1 : 1 ≤ k
  km : k ≤ m
  up : ∀ p q, p < q → q < k → ltT (T p) (T q)
  mem : ∀ t, (∃ p, p < k ∧ T p = t) ↔ ∃ p, p < m ∧ T1 p = t
  last : T (k - 1) = T1 (m - 1)
  high : ∀ p, m - 1 ≤ p → T p = T1 p
theorem CSt.start (T1 : Nat → Tree) : CSt T1 T1 1 1 := ⟨by omega, by omega, fun p q h1 h2 => absurd h1 (by omega), fun _ => Iff.rfl, rfl, fun _ _ => rfl⟩
theorem CSt.eq {T T1 : Nat → Tree} {k m : Nat} (h : CSt T T1 k m) (he : T1 m = T1 (m - 1)) : CSt T T1 k (m + 1) := by
  refine ⟨h.k1, by have := h.km; omega, h.up, fun t => ?_, ?_, fun p hp => h.high p (by omega)⟩
  · rw [h.mem t]
    constructor
    · rintro ⟨p, hp, e⟩
      exact ⟨p, by omega, e⟩
    · rintro ⟨p, hp, e⟩
      by_cases hpm : p = m
      · subst hpm
        exact ⟨p - 1, by have := h.k1; have := h.km; omega, by rw [← he]; exact e⟩
      · exact ⟨p, by omega, e⟩
  · rw [h.last, Nat.add_sub_cancel]
    exact he.symm
theorem ltT_trans {a b c : Tree} (h : ltT a b) (h2 : ltT b c) : ltT a c := List.lt_trans h h2
theorem ltT_of {a b : Tree} (ha : (Fm.enc a).length ≤ 40) (hb : (Fm.enc b).length ≤ 40) (h : leT a b) (hne : b ≠ a) : ltT a b :=
  blt_le h (fun e => hne (tx_inj hb ha (bdata_inj e.symm)))
theorem CSt.ne {T T1 : Nat → Tree} {k m : Nat} (h : CSt T T1 k m) (hl : ltT (T1 (m - 1)) (T1 m)) : CSt (fun p => if p = k then T1 m else T p) T1 (k + 1) (m + 1) := by
  have hk1 := h.k1
  have hkm := h.km
  have hlast : ∀ p, p < k → ltT (T p) (T1 m) := fun p hp => by
    by_cases e : p = k - 1
    · rw [e, h.last]; exact hl
    · have := h.up p (k - 1) (by omega) (by omega)
      rw [h.last] at this
      exact ltT_trans this hl
  refine ⟨by omega, by omega, fun p q h1 h2 => ?_, fun t => ?_, ?_, fun p hp => ?_⟩
  · show ltT (if p = k then T1 m else T p) (if q = k then T1 m else T q)
    rw [if_neg (by omega)]
    by_cases hq : q = k
    · rw [if_pos hq]; exact hlast p (by omega)
    · rw [if_neg hq]; exact h.up p q h1 (by omega)
  · constructor
    · rintro ⟨p, hp, e⟩
      have e : (if p = k then T1 m else T p) = t := e
      by_cases hpk : p = k
      · rw [if_pos hpk] at e; exact ⟨m, by omega, e⟩
      · rw [if_neg hpk] at e
        obtain ⟨q, hq, e2⟩ := (h.mem t).1 ⟨p, by omega, e⟩
        exact ⟨q, by omega, e2⟩
    · rintro ⟨p, hp, e⟩
      by_cases hpm : p = m
      · subst hpm
        exact ⟨k, by omega, by show (if k = k then T1 p else T k) = t; rw [if_pos rfl]; exact e⟩
      · obtain ⟨q, hq, e2⟩ := (h.mem t).2 ⟨p, by omega, e⟩
        exact ⟨q, by omega, by show (if q = k then T1 m else T q) = t; rw [if_neg (by omega)]; exact e2⟩
  · show (if k + 1 - 1 = k then T1 m else T (k + 1 - 1)) = T1 (m + 1 - 1)
    rw [if_pos (by omega), Nat.add_sub_cancel]
  · show (if p = k then T1 m else T p) = T1 p
    by_cases hpk : p = k
    · rw [if_pos hpk]
      have : p = m := by omega
      rw [this]
    · rw [if_neg hpk]; exact h.high p (by omega)
theorem VRow.above {w : World} {g n c : Nat} {f : Nat → Value} (h : VRow w g n c f) {p : Nat} (hp : n ≤ p) (z : Value) : VRow (w.setCell ⟨g, p, none⟩ z) g n c f := by
  obtain ⟨cur, h1, h2, hn, hm, h3⟩ := h
  refine ⟨_, blk_set h1 p _, by simp [h2], hn, hm, fun i hi => ?_⟩
  rw [Array.getElem?_setIfInBounds, if_neg (by omega), h3 i hi]
theorem VRow.cut {w : World} {g n k c : Nat} {f : Nat → Value} (h : VRow w g n c f) (hk : k ≤ n) : VRow w g k c f := by
  obtain ⟨cur, h1, h2, hn, hm, h3⟩ := h
  exact ⟨cur, h1, h2, by omega, hm, fun i hi => h3 i (by omega)⟩
theorem VRow.aboveAll {g n c : Nat} {f : Nat → Value} : ∀ (vs : List Value) (o : Nat) (w : World), VRow w g n c f → n ≤ o → VRow (w.setCells g o vs) g n c f ∧ Only g w (w.setCells g o vs)
  | [], o, w, h, _ => ⟨h, Only.refl _ _⟩
  | v :: vs, o, w, h, ho => by
    have h1 := h.above ho v
    obtain ⟨h2, h3⟩ := VRow.aboveAll vs (o + 1) (w.setCell ⟨g, o, none⟩ v) h1 (by omega)
    exact ⟨h2, ((Only.refl g w).setCell (o := o) v).trans h3⟩
theorem VS.cut {w : World} {g n k c : Nat} {F : Nat → Value} {T : Nat → Tree} (h : VS w g n c F T) (hk : k ≤ n) : VS w g k c F T := ⟨h.r.cut hk, fun i hi => h.o i (by omega)⟩
theorem VS.clear {w : World} {g n k c : Nat} {F : Nat → Value} {T : Nat → Tree} (h : VS w g n c F T) (hk : k ≤ n) (vs : List Value) : VS (w.setCells g k vs) g k c F T ∧ Only g w (w.setCells g k vs) := by
  obtain ⟨h1, h2⟩ := VRow.aboveAll vs k w (h.r.cut hk) (Nat.le_refl _)
  exact ⟨⟨h1, fun i hi => ⟨h.own_set h2 (by omega), (h.o i (by omega)).2⟩⟩, h2⟩
theorem VS.put {w : World} {g n c : Nat} {F : Nat → Value} {T : Nat → Tree} (h : VS w g n c F T) {k m : Nat} (hk : k < n) (hm : m < n) : VS (w.setCell ⟨g, k, none⟩ (F m)) g n c (fun p => if p = k then F m else F p) (fun p => if p = k then T m else T p) := by
  have hO : Only g w (w.setCell ⟨g, k, none⟩ (F m)) := (Only.refl g w).setCell _
  refine ⟨h.r.set hk (F m), fun i hi => ?_⟩
  show Own _ 0 (if i = k then F m else F i) (Fm.enc (if i = k then T m else T i)) ∧ (Fm.enc (if i = k then T m else T i)).length ≤ 40
  by_cases e : i = k
  · rw [if_pos e, if_pos e]; exact ⟨h.own_set hO hm, (h.o m hm).2⟩
  · rw [if_neg e, if_neg e]; exact ⟨h.own_set hO hi, (h.o i hi).2⟩
end Go.Proofs.YtjlnompmhgjaaaaGreat


/- slices.Equal and slices.Clone on lists of nodes. -/
namespace Go.Proofs.YtjlnompmhgjaaaaGreat
open Go.RowKit
open Fm (Nd)

theorem equalN_c (v1 v2 : Value) (xs ys : List Nd) (w : World) (h1 : Nodes w v1 xs) (h2 : Nodes w v2 ys) (hn : xs.length ≤ 1099511627776) :
    Calls Tryz.prog 118 #[v1, v2] w fun e w' => e = .returned (.bool (decide (xs = ys))) ∧ Grew w w' := by
  by_cases hl : xs.length = ys.length
  · rcases h1.open_ with ⟨rfl, rfl⟩ | ⟨b1, o1, c1, rfl, hc1, hm1, hb1, hf⟩
    · obtain rfl : ys = [] := List.eq_nil_of_length_eq_zero (by simpa using hl.symm)
      obtain ⟨A, c, rfl⟩ := nodes_slice h2
      simp only [List.length_nil]
      clear hl
      go_enter Tryz.func118, Tryz.ntmps118
      go_wp2_with fail
      refine wp_loop_rounds 1 ?_; rw [rounds_succ]
      go_wp2_with fail
      go_ret
      exact ⟨by simp, Grew.refl _⟩
    · rcases h2.open_ with ⟨rfl, rfl⟩ | ⟨b2, o2, c2, rfl, hc2, hm2, hb2, hh⟩
      · obtain rfl : xs = [] := List.eq_nil_of_length_eq_zero (by simpa using hl)
        simp only [List.length_nil]
        clear hl
        go_enter Tryz.func118, Tryz.ntmps118
        go_wp2_with fail
        refine wp_loop_rounds 1 ?_; rw [rounds_succ]
        go_wp2_with fail
        go_ret
        exact ⟨by simp, Grew.refl _⟩
      · clear h1 h2
        have HE := Lib.hid (fun h => agree_all hl h)
        rw [← hl] at hc2 hh ⊢
        have HF := Lib.hid hf
        have HH := Lib.hid hh
        have HX := Lib.hid (fun (h : xs = ys) (i : Nat) => (⟨by rw [h], by rw [h]⟩ : kd xs i = kd ys i ∧ sy xs i = sy ys i))
        obtain ⟨D, hD⟩ : ∃ D, D = decide (xs = ys) := ⟨_, rfl⟩
        rw [← hD]
        have HD := Lib.hid hD
        clear hl hf hh hD
        generalize hN : xs.length = n at *
        clear hN
        go_enter Tryz.func118, Tryz.ntmps118
        go_wp2_with fail
        go_loopg [4, 13] n (fun k _ i wr => ∃ j : Nat, j ≤ n ∧ k = n - j ∧ i = .int .i64 j ∧ Grew w wr ∧ Hid (Agree xs ys j))
        case atStart => exact ⟨0, Nat.zero_le _, by omega, rfl, Grew.refl _, Agree.zero _ _⟩
        case round =>
          obtain ⟨j, hj, rfl, rfl, hB, HA⟩ := hrel
          by_cases hlt : j < n
          · have k1 : ∀ W, Grew w W → W.cell? ⟨b1, o1 + j * 2, none⟩ = some (.int .i64 (kd xs j)) := fun W hW => (HF.out j hlt W hW).1
            have k2 : ∀ W, Grew w W → W.cell? ⟨b1, o1 + j * 2 + 1, none⟩ = some (.int .i64 (sy xs j)) := fun W hW => (HF.out j hlt W hW).2
            have k3 : ∀ W, Grew w W → W.cell? ⟨b2, o2 + j * 2, none⟩ = some (.int .i64 (kd ys j)) := fun W hW => (HH.out j hlt W hW).1
            have k4 : ∀ W, Grew w W → W.cell? ⟨b2, o2 + j * 2 + 1, none⟩ = some (.int .i64 (sy ys j)) := fun W hW => (HH.out j hlt W hW).2
            have hgd := Tryz.ndGuard
            by_cases he : kd xs j = kd ys j ∧ sy xs j = sy ys j
            · have hq : ∀ W, (binOp .neq 53 (.agg #[.int .i64 (kd xs j), .int .i64 (sy xs j)]) (.agg #[.int .i64 (kd ys j), .int .i64 (sy ys j)])).run Tryz.prog W = .ok (.bool false) W := fun W => by
                rw [Tryz.ndNeq, he.1, he.2]; simp
              have HB := Lib.hid (HA.out.succ he.1 he.2)
              clear he HA
              go_wp2_with fail
              go_quiet (fail)
              go_wp2_with fail
              go_roundg (n - (j + 1))
              case measure => omega
              case rel => exact ⟨j + 1, by omega, rfl, by go_num, hB.drewN _, HB⟩
            · have hq : ∀ W, (binOp .neq 53 (.agg #[.int .i64 (kd xs j), .int .i64 (sy xs j)]) (.agg #[.int .i64 (kd ys j), .int .i64 (sy ys j)])).run Tryz.prog W = .ok (.bool true) W := fun W => by
                have hz : (kd xs j == kd ys j && sy xs j == sy ys j) = false := by
                  cases hz : (kd xs j == kd ys j && sy xs j == sy ys j) with
                  | false => rfl
                  | true => simp at hz; exact absurd hz he
                rw [Tryz.ndNeq, hz]
                simp
              have hv : Hid (D = false) := Lib.hid (by rw [HD.out]; exact decide_eq_false fun h => he (HX.out h j))
              clear he HA
              go_wp2_with fail
              go_quiet (fail)
              go_wp2_with fail
              go_ret
              rw [hv.out]
              exact ⟨rfl, hB.drewN _⟩
          · have hjn : j = n := by omega
            subst hjn
            have hv : Hid (D = true) := Lib.hid (by rw [HD.out]; exact decide_eq_true (HE.out HA.out))
            go_wp2_with fail
            go_ret
            rw [hv.out]
            exact ⟨rfl, hB⟩
  · have hne : xs ≠ ys := fun h => hl (by rw [h])
    rw [decide_eq_false hne]
    obtain ⟨A, c, rfl⟩ := nodes_slice h1
    obtain ⟨B, d, rfl⟩ := nodes_slice h2
    have hl' : (((xs.length : Nat) : Int) != ((ys.length : Nat) : Int)) = true := by simp; omega
    clear hl h1 h2 hne
    go_enter Tryz.func118, Tryz.ntmps118
    go_wp2_with fail
    go_ret
    exact ⟨rfl, Grew.refl _⟩

theorem same_c (v1 v2 : Value) (xs ys : List Nd) (w : World) (h1 : Nodes w v1 xs) (h2 : Nodes w v2 ys) (hn : xs.length ≤ 1099511627776) :
    Calls Tryz.prog 105 #[v1, v2] w fun e w' => e = .returned (.bool (decide (xs = ys))) ∧ Grew w w' := by
  have HC := Lib.hid (equalN_c v1 v2 xs ys w h1 h2 hn)
  clear h1 h2
  generalize decide (xs = ys) = R at *
  go_enter Tryz.func105, Tryz.ntmps105
  go_wp2_with fail
  refine HC.out.mono ?_
  rintro e w1 ⟨rfl, hg1⟩
  go_wp2_with fail
  go_ret
  exact ⟨rfl, hg1⟩
end Go.Proofs.YtjlnompmhgjaaaaGreat


/- The library's CompactFunc at formulas, walked. -/
namespace Go.Proofs.YtjlnompmhgjaaaaGreat
open Go.RowKit
open Fm (Nd Tree)

set_option maxHeartbeats 4000000 in
set_option maxRecDepth 100000 in
theorem compactFunc_c (g n c : Nat) (F0 : Nat → Value) (T0 : Nat → Tree) (w : World) (h : VS w g n c F0 T0) (hs : SrtK T0 n) (h1 : 1 ≤ n) (h8 : n ≤ 8) :
    Calls Tryz.prog 104 #[.slice (some ⟨g, 0, none⟩) n c, .func (.func 105) #[] #[]] w fun e w' => ∃ (k : Nat) (F : Nat → Value) (T : Nat → Tree), e = .returned (.slice (some ⟨g, 0, none⟩) k c) ∧ VS w' g k c F T ∧ CSt T T0 k n ∧ Only g w w' := by
  have HV := Lib.hid h
  have HS := Lib.hid hs
  have HC1 := Lib.hid (CSt.start T0)
  clear h hs
  by_cases hn1 : n = 1
  · subst hn1
    go_enter Tryz.func104, Tryz.ntmps104
    go_wp2_with fail
    go_ret
    exact ⟨1, F0, T0, rfl, HV.out, HC1.out, Only.refl _ _⟩
  · have hn2 : ((n : Int) < 2) = False := eq_false (by omega)
    have hn2d : decide ((n : Int) < 2) = false := decide_eq_false (by omega)
    go_enter Tryz.func104, Tryz.ntmps104
    go_wp2_with fail
    go_loopw [5] (fun kv wr => ∃ k : Nat, 1 ≤ k ∧ k ≤ n ∧ kv = .int .i64 (k : Int) ∧ Hid (CSt T0 T0 k k) ∧ Grew w wr) (fun kv _ => n - (intOf kv).toNat)
    case atStart => exact ⟨1, by omega, by omega, rfl, HC1, Grew.refl _⟩
    case round =>
      obtain ⟨k, hk1, hk, rfl, hC, hG⟩ := hrel
      by_cases hlt : k < n
      · obtain ⟨j, rfl⟩ : ∃ j, k = j + 1 := ⟨k - 1, by omega⟩
        have hwj : IntKind.i64.wrap ((j : Int) + 1 - 1) = (j : Int) := by rw [IntKind.wrap_i64]; omega
        have hwj2 : IntKind.i64.wrap (((j + 1 : Nat) : Int) - 1) = (j : Int) := by rw [IntKind.wrap_i64]; omega
        have hwj3 : wrap64 ((j : Int) + 1 - 1) = (j : Int) := by unfold wrap64; omega
        have hwj4 : wrap64 (j : Int) = (j : Int) := by unfold wrap64; omega
        have hwj5 : IntKind.i64.wrap (j : Int) = (j : Int) := by rw [IntKind.wrap_i64]; omega
        have hV := HV.out.grew hG
        obtain ⟨ha1, ha2⟩ := hV.o (j + 1) (by omega)
        obtain ⟨hb1, hb2⟩ := hV.o j (by omega)
        have KC := Lib.hid (fun W (hW : Grew wr W) => same_c (F0 (j + 1)) (F0 j) (Fm.enc (T0 (j + 1))) (Fm.enc (T0 j)) W (ha1.nodes.grew hW) (hb1.nodes.grew hW) (by omega))
        have q1 := fun W (hW : Grew wr W) => (hV.r.grew hW).cell (p := j + 1) (by omega)
        have q2 := fun W (hW : Grew wr W) => (hV.r.grew hW).cell (p := j) (by omega)
        obtain ⟨Aa, ca, ea⟩ := nodes_slice ha1.nodes
        obtain ⟨Ab, cc, eb⟩ := nodes_slice hb1.nodes
        rw [ea] at q1 KC
        rw [eb] at q2 KC
        have HLT := Lib.hid (fun hE => ltT_of hb2 ha2 (HS.out j (j + 1) (by omega) hlt) hE)
        generalize (Fm.enc (T0 (j + 1))).length = la at *
        generalize (Fm.enc (T0 j)).length = lb at *
        have hji : (j : Int) + 1 < (n : Int) := by omega
        have hjn : (j : Int) < (n : Int) := by omega
        have hjp : (0 : Int) ≤ (j : Int) := by omega
        have hjp1 : (0 : Int) ≤ (j : Int) + 1 := by omega
        have hjt : ((j : Int) + 1).toNat = j + 1 := by omega
        have r0 := Grew.refl wr
        have r0d := r0.drew
        have hnc : n ≤ c := by obtain ⟨_, _, _, hnc, _⟩ := HV.out.r; exact hnc
        have hcj : (c = j + 1) = False := eq_false (by omega)
        clear ha1 hb1 hV ea eb
        by_cases hE : T0 (j + 1) = T0 j
        · rw [show decide (Fm.enc (T0 (j + 1)) = Fm.enc (T0 j)) = true from decide_eq_true (by rw [hE])] at KC
          go_upto_region 6 with fail
          go_region_held3 (fun w' => Grew wr w') (first | assumption | exact Grew.trans ‹_› ‹_›) (first
            | (go_at_call 105; refine (KC.out _ (by assumption)).mono ?_; rintro e w9 ⟨rfl, hg9⟩; have h9 : Grew wr w9 := Grew.trans (by assumption) hg9))
          have h9 := r0d.trans hg9
          clear KC q1 q2 hg9 r0 r0d
          have HC9 := Lib.hid (hC.out.eq hE)
          have HV9 := Lib.hid (HV.out.grew (hG.trans h9))
          have HO9 := Lib.hid ((hG.trans h9).only (g := g))
          clear hC HLT ha2 hb2 hji hjn hjp hjp1 hjt hwj hwj2 hwj3 hwj4 hwj5
          go_wp2_with fail
          clear hcj
          go_loopw [5, 7] (fun kv k2v wx => ∃ (kk k2 : Nat) (F : Nat → Value) (T : Nat → Tree), 1 ≤ k2 ∧ j + 1 + k2 ≤ n ∧ 1 ≤ kk ∧ kk < j + 1 + k2 ∧ kv = .int .i64 (kk : Int) ∧ k2v = .int .i64 (k2 : Int) ∧ Hid (VS wx g n c F T) ∧ Hid (CSt T T0 kk (j + 1 + k2)) ∧ Hid (Only g w wx)) (fun _ k2v _ => n - (intOf k2v).toNat)
          case atStart => exact ⟨j + 1, 1, F0, T0, by omega, by omega, by omega, by omega, by go_num, rfl, HV9, HC9, HO9⟩
          case round =>
            clear hG h9 HV9 HC9 HO9
            obtain ⟨kk, k2, F, T, hk21, hk2n, hkk1, hkk, rfl, rfl, hV, hC, hO⟩ := hrel
            obtain ⟨q, rfl⟩ : ∃ q, k2 = q + 1 := ⟨k2 - 1, by omega⟩
            by_cases hm : j + 1 + (q + 1) < n
            · have hwq : IntKind.i64.wrap ((q : Int) + 1 - 1) = (q : Int) := by rw [IntKind.wrap_i64]; omega
              have hwq2 : IntKind.i64.wrap (((q + 1 : Nat) : Int) - 1) = (q : Int) := by rw [IntKind.wrap_i64]; omega
              have hwq3 : wrap64 ((q : Int) + 1 - 1) = (q : Int) := by unfold wrap64; omega
              have hwq4 : wrap64 (q : Int) = (q : Int) := by unfold wrap64; omega
              have hwq5 : IntKind.i64.wrap (q : Int) = (q : Int) := by rw [IntKind.wrap_i64]; omega
              have hT1 := hC.out.high (j + 1 + (q + 1)) (by omega)
              have hT2 := hC.out.high (j + 1 + q) (by omega)
              obtain ⟨ha1, ha2⟩ := hV.out.o (j + 1 + (q + 1)) (by omega)
              obtain ⟨hb1, hb2⟩ := hV.out.o (j + 1 + q) (by omega)
              rw [hT1] at ha1 ha2
              rw [hT2] at hb1 hb2
              have KC := Lib.hid (fun W (hW : Grew wr W) => same_c (F (j + 1 + (q + 1))) (F (j + 1 + q)) (Fm.enc (T0 (j + 1 + (q + 1)))) (Fm.enc (T0 (j + 1 + q))) W (ha1.nodes.grew hW) (hb1.nodes.grew hW) (by omega))
              have q1 := fun W (hW : Grew wr W) => (hV.out.r.grew hW).cell (p := j + 1 + (q + 1)) (by omega)
              have q2 := fun W (hW : Grew wr W) => (hV.out.r.grew hW).cell (p := j + 1 + q) (by omega)
              have q3 := fun W (hW : Grew wr W) => (hV.out.r.grew hW).cell (p := kk) (by omega)
              have f3 := fun W (hW : Grew wr W) => (hV.out.r.grew hW).free kk
              have HPUT := Lib.hid (fun W (hW : Grew wr W) => (hV.out.grew hW).put (k := kk) (m := j + 1 + (q + 1)) (by omega) (by omega))
              obtain ⟨Aa, ca, ea⟩ := nodes_slice ha1.nodes
              obtain ⟨Ab, cc, eb⟩ := nodes_slice hb1.nodes
              rw [ea] at q1 KC HPUT
              rw [eb] at q2 KC
              have hsl : (q : Int) + 1 < ((n - (j + 1) : Nat) : Int) := by omega
              have hsl2 : (q : Int) < ((n - (j + 1) : Nat) : Int) := by omega
              have hsl3 : (q : Int) + 1 < (n : Int) - ((j : Int) + 1) := by omega
              have hsl4 : q + 1 < n - (j + 1) := by omega
              have hsl5 : q < n - (j + 1) := by omega
              have hqp : (0 : Int) ≤ (q : Int) := by omega
              have hqp1 : (0 : Int) ≤ (q : Int) + 1 := by omega
              have hqt : ((q : Int) + 1).toNat = q + 1 := by omega
              have hkp : (0 : Int) ≤ (kk : Int) := by omega
              have hkn : (kk : Int) < (n : Int) := by omega
              have r0 := Grew.refl wr
              have r0d := r0.drew
              have HLT := Lib.hid (fun hE => ltT_of hb2 ha2 (HS.out (j + 1 + q) (j + 1 + (q + 1)) (by omega) hm) hE)
              generalize (Fm.enc (T0 (j + 1 + (q + 1)))).length = la at *
              generalize (Fm.enc (T0 (j + 1 + q))).length = lb at *
              clear ha1 hb1 ea eb
              by_cases hE2 : T0 (j + 1 + (q + 1)) = T0 (j + 1 + q)
              · rw [show decide (Fm.enc (T0 (j + 1 + (q + 1))) = Fm.enc (T0 (j + 1 + q))) = true from decide_eq_true (by rw [hE2])] at KC
                have HC3 := Lib.hid (hC.out.eq hE2)
                go_upto_region 11 with fail
                go_region_held3 (fun w' => Grew wr w') (first | assumption | exact Grew.trans ‹_› ‹_›) (first
                  | (go_at_call 105; refine (KC.out _ (by assumption)).mono ?_; rintro e w9 ⟨rfl, hg9⟩; have h9 : Grew wr w9 := Grew.trans (by assumption) hg9))
                have h9 := r0d.trans hg9
                have HV3 := Lib.hid (hV.out.grew h9)
                have HO3 := Lib.hid (hO.out.grew h9)
                clear KC q1 q2 q3 f3 HPUT hg9 r0 r0d hV hC hO
                go_wp2_with fail
                go_roundw
                case rel => exact ⟨kk, q + 1 + 1, F, T, by omega, by omega, by omega, by omega, rfl, by go_num, HV3, HC3, HO3⟩
                case measure => simp [intOf] <;> omega
              · rw [show decide (Fm.enc (T0 (j + 1 + (q + 1))) = Fm.enc (T0 (j + 1 + q))) = false from decide_eq_false (fun hh => hE2 (enc_inj hh))] at KC
                have HC3 := Lib.hid (hC.out.ne (HLT.out hE2))
                go_upto_region 11 with fail
                go_region_held3 (fun w' => Grew wr w') (first | assumption | exact Grew.trans ‹_› ‹_›) (first
                  | (go_at_call 105; refine (KC.out _ (by assumption)).mono ?_; rintro e w9 ⟨rfl, hg9⟩; have h9 : Grew wr w9 := Grew.trans (by assumption) hg9))
                have h9 := r0d.trans hg9
                have HV3 := Lib.hid (HPUT.out _ h9)
                rw [hT1] at HV3
                have HO3 := Lib.hid ((hO.out.grew h9).setCell (o := kk) (.slice Aa la ca))
                have q19 := q1 _ h9
                have q39 := q3 _ h9
                have f39 := f3 _ h9
                clear KC q2 HPUT hg9 r0 r0d hV hC hO
                go_wp2_with fail
                go_roundw
                case rel => exact ⟨kk + 1, q + 1 + 1, _, _, by omega, by omega, by omega, by omega, by go_num, by go_num, HV3, HC3, HO3⟩
                case measure => simp [intOf] <;> omega
            · have hend : j + 1 + (q + 1) = n := by omega
              have hsl : ((q : Int) + 1 < ((n - (j + 1) : Nat) : Int)) = False := eq_false (by omega)
              have hsl3 : ((q : Int) + 1 < (n : Int) - ((j : Int) + 1)) = False := eq_false (by omega)
              have hnc' : n ≤ c := hnc
              have hck : (c = kk) = False := eq_false (by omega)
              have hcl : ∀ ty, (Builtin.clear_ #[48] ty #[.slice (some ⟨g, kk, none⟩) (n - kk) (c - kk)]).run Tryz.prog wr = .ok (.tuple #[]) (wr.setCells g kk (List.replicate (n - kk) (.slice none 0 0))) :=
                fun ty => Lib.run_clear_slice wr 48 31 ty (.slice none 0 0) Tryz.underlying48 (fun w => by kernel_rfl) rfl rfl g kk (n - kk) (c - kk) (by omega) (fun i hi => by rw [hV.out.r.cell (p := kk + i) (by omega)]; rfl) (fun i hi => hV.out.r.free _)
              obtain ⟨hVc, hOc⟩ := hV.out.clear (k := kk) (by omega) (List.replicate (n - kk) (.slice none 0 0))
              have HVC := Lib.hid hVc
              have HOC := Lib.hid (hO.out.trans hOc)
              have HCC := Lib.hid hC.out
              rw [hend] at HCC
              have hkp : (0 : Int) ≤ (kk : Int) := by omega
              have hkn : (kk : Int) ≤ (n : Int) := by omega
              clear hV hO hC hVc hOc
              go_wp2_with (simp only [hcl])
              go_ret
              exact ⟨kk, F, T, rfl, HVC.out, HCC.out, HOC.out⟩
        · rw [show decide (Fm.enc (T0 (j + 1)) = Fm.enc (T0 j)) = false from decide_eq_false (fun hh => hE (enc_inj hh))] at KC
          go_upto_region 6 with fail
          go_region_held3 (fun w' => Grew wr w') (first | assumption | exact Grew.trans ‹_› ‹_›) (first
            | (go_at_call 105; refine (KC.out _ (by assumption)).mono ?_; rintro e w9 ⟨rfl, hg9⟩; have h9 : Grew wr w9 := Grew.trans (by assumption) hg9))
          have h9 := r0d.trans hg9
          have HC2 : Hid (CSt T0 T0 (j + 1 + 1) (j + 1 + 1)) := Lib.hid (by
            have := hC.out.ne (HLT.out hE)
            have e : (fun p => if p = j + 1 then T0 (j + 1) else T0 p) = T0 := funext fun p => by
              by_cases hp : p = j + 1
              · rw [if_pos hp, hp]
              · rw [if_neg hp]
            rwa [e] at this)
          clear KC q1 q2 hg9 r0 r0d
          go_wp2_with fail
          go_roundw
          case rel => exact ⟨j + 1 + 1, by omega, by omega, by go_num, HC2, hG.trans h9⟩
          case measure => simp [intOf] <;> omega
      · obtain rfl : k = n := by omega
        go_wp2_with fail
        go_ret
        exact ⟨k, F0, T0, rfl, HV.out.grew hG, hC.out, hG.only⟩
end Go.Proofs.YtjlnompmhgjaaaaGreat


/- sortedFormulas of the program. -/
namespace Go.Proofs.YtjlnompmhgjaaaaGreat
open Go.RowKit
open Fm (Nd Tree)

def lsT (T : Nat → Tree) (n : Nat) : List Tree := (List.range n).map T
theorem lsT_mem {T : Nat → Tree} {n : Nat} {t : Tree} : t ∈ lsT T n ↔ ∃ p, p < n ∧ T p = t := by simp [lsT]
theorem lsT_len (T : Nat → Tree) (n : Nat) : (lsT T n).length = n := by simp [lsT]
theorem up_of {T : Nat → Tree} {k : Nat} (h : ∀ p q, p < q → q < k → ltT (T p) (T q)) : Up ((lsT T k).map tx) := by
  unfold Up lsT
  rw [List.map_map, List.pairwise_map]
  refine (List.pairwise_lt_range (n := k)).imp_of_mem ?_
  intro p q hp hq hpq
  exact h p q hpq (List.mem_range.1 hq)
theorem map_tx_inj : ∀ {L M : List Tree}, (∀ a ∈ L, (Fm.enc a).length ≤ 40) → (∀ a ∈ M, (Fm.enc a).length ≤ 40) → L.map tx = M.map tx → L = M
  | [], [], _, _, _ => rfl
  | [], _ :: _, _, _, h => by cases h
  | _ :: _, [], _, _, h => by cases h
  | a :: L, b :: M, h1, h2, h => by
    simp only [List.map_cons, List.cons.injEq] at h
    rw [tx_inj (h1 a (List.mem_cons_self ..)) (h2 b (List.mem_cons_self ..)) h.1, map_tx_inj (fun c hc => h1 c (List.mem_cons_of_mem _ hc)) (fun c hc => h2 c (List.mem_cons_of_mem _ hc)) h.2]
theorem srt_of {T T0 : Nat → Tree} {k n : Nat} (hs : ∀ i, i < n → (Fm.enc (T0 i)).length ≤ 40) (hup : ∀ p q, p < q → q < k → ltT (T p) (T q)) (hm : ∀ t, (∃ p, p < k ∧ T p = t) ↔ ∃ p, p < n ∧ T0 p = t) : lsT T k = srtT (lsT T0 n) := by
  have hsm0 : ∀ a ∈ lsT T0 n, (Fm.enc a).length ≤ 40 := fun a ha => by
    obtain ⟨p, hp, rfl⟩ := lsT_mem.1 ha
    exact hs p hp
  have hmem : ∀ a, a ∈ lsT T k ↔ a ∈ lsT T0 n := fun a => by rw [lsT_mem, lsT_mem]; exact hm a
  refine map_tx_inj (fun a ha => hsm0 a ((hmem a).1 ha)) (fun a ha => hsm0 a ((srtT_mem hsm0).1 ha)) ?_
  rw [srtT_tx hsm0]
  refine up_ext (up_of hup) (putS_up _) (fun x => ?_)
  rw [putS_mem]
  simp only [List.mem_map]
  constructor
  · rintro ⟨a, ha, rfl⟩; exact ⟨a, (hmem a).1 ha, rfl⟩
  · rintro ⟨a, ha, rfl⟩; exact ⟨a, (hmem a).2 ha, rfl⟩
theorem MemK.small {W : World} {g n c : Nat} {F : Nat → Value} {T : Nat → Tree} (h : VS W g n c F T) : ∀ i, i < n → (Fm.enc (T i)).length ≤ 40 := fun i hi => (h.o i hi).2
set_option maxHeartbeats 2000000 in
theorem sortedFormulas_c (g n c : Nat) (F0 : Nat → Value) (T0 : Nat → Tree) (w : World) (h : VS w g n c F0 T0) (h1 : 1 ≤ n) (h8 : n ≤ 8) :
    Calls Tryz.prog 74 #[.slice (some ⟨g, 0, none⟩) n c] w fun e w' => ∃ (k : Nat) (F : Nat → Value) (T : Nat → Tree), e = .returned (.slice (some ⟨g, 0, none⟩) k c) ∧ 1 ≤ k ∧ k ≤ n ∧ VS w' g k c F T ∧ lsT T k = srtT (lsT T0 n) ∧ Only g w w' := by
  have KS := Lib.hid (sortFunc_c g n c F0 T0 w h h1 h8)
  have KC := Lib.hid (fun F T W hV hS => compactFunc_c g n c F T W hV hS h1 h8)
  have HSM := Lib.hid (MemK.small h)
  clear h
  go_enter Tryz.func74, Tryz.ntmps74
  go_wp2_with fail
  refine KS.out.mono ?_
  rintro e w1 ⟨rfl, ho1, F1, T1, hV1, hS1, hM1⟩
  have HM1 := Lib.hid hM1
  have HO1 := Lib.hid ho1
  have K2 := Lib.hid (KC.out F1 T1 w1 hV1 hS1)
  clear hV1 hS1 hM1 ho1 KS KC
  go_wp2_with fail
  refine K2.out.mono ?_
  rintro e w2 ⟨k, F, T, rfl, hV, hC, ho⟩
  have HR := Lib.hid (show 1 ≤ k ∧ k ≤ n ∧ VS w2 g k c F T ∧ lsT T k = srtT (lsT T0 n) ∧ Only g w w2 from ⟨hC.k1, hC.km, hV, srt_of HSM.out hC.up (fun t => (hC.mem t).trans (HM1.out t)), HO1.out.trans ho⟩)
  clear hV hC ho K2
  go_wp2_with fail
  go_ret
  exact ⟨k, F, T, rfl, HR.out⟩
end Go.Proofs.YtjlnompmhgjaaaaGreat


/- New lists of lists of nodes: what holds of them. -/
namespace Go.Proofs.YtjlnompmhgjaaaaGreat
open Go.RowKit
open Fm (Nd)

def lf (L : List ByteArray) : List (List Nd) := L.map fun s => (Fm.pf s).1
def Hold (w : World) (B : Nat) (us : List Value) (L : List ByteArray) : Prop := ∀ i, i < us.length → ∃ u, us[i]? = some u ∧ Own w B u ((lf L).getD i [])
theorem Hold.app {w w' : World} {B B' : Nat} {v : Value} {us : List Value} {L : List ByteArray} (h : Hold w B us L) (hv : OwnV w B' v us) (hg : w.grownBy w' v.ownBlock) : Hold w' B us L := by
  intro i hi
  obtain ⟨u, h1, h2⟩ := h i hi
  exact ⟨u, h1, own_app h2 hv hg⟩
theorem Hold.grew {w w' : World} {B : Nat} {us : List Value} {L : List ByteArray} (h : Hold w B us L) (hg : Grew w w') : Hold w' B us L := by
  intro i hi
  obtain ⟨u, h1, h2⟩ := h i hi
  exact ⟨u, h1, h2.grew hg⟩
theorem Hold.snoc {w : World} {B : Nat} {us : List Value} {u : Value} {L : List ByteArray} (h : Hold w B us L) (hu : Own w B u ((lf L).getD us.length [])) : Hold w B (us ++ [u]) L := by
  intro i hi
  rw [List.length_append] at hi
  rcases Nat.lt_or_ge i us.length with hk | hk
  · obtain ⟨x, h1, h2⟩ := h i hk
    exact ⟨x, by rw [List.getElem?_append_left hk]; exact h1, h2⟩
  · obtain rfl : i = us.length := by simp at hi; omega
    exact ⟨u, by simp, hu⟩
end Go.Proofs.YtjlnompmhgjaaaaGreat


/- New lists of lists of nodes: formulasOf of the program. -/
namespace Go.Proofs.YtjlnompmhgjaaaaGreat
open Go.RowKit
open Fm (Nd)

end Go.Proofs.YtjlnompmhgjaaaaGreat


/- The order of texts. -/
namespace Go.Proofs.YtjlnompmhgjaaaaGreat
open Go.RowKit

end Go.Proofs.YtjlnompmhgjaaaaGreat


/- A side of a sequent of texts: every text is good and stands above the one before. -/
namespace Go.Proofs.YtjlnompmhgjaaaaGreat
open Go.RowKit
open Fm (Nd)

def Asc (L : List ByteArray) (k : Nat) : Prop := ∀ i, i < k → gd (st L i) = true ∧ (0 < i → Op.bytesLess (st L (i - 1)).toList (st L i).toList = true)
theorem Asc.zero (L : List ByteArray) : Asc L 0 := fun i hi => absurd hi (by omega)
theorem Asc.succ {L : List ByteArray} {k : Nat} (h : Asc L k) (h1 : gd (st L k) = true) (h2 : 0 < k → Op.bytesLess (st L (k - 1)).toList (st L k).toList = true) : Asc L (k + 1) := by
  intro i hi
  rcases Nat.lt_or_ge i k with hk | hk
  · exact h i hk
  · obtain rfl : i = k := by omega
    exact ⟨h1, h2⟩
end Go.Proofs.YtjlnompmhgjaaaaGreat


/- New lists of lists of nodes: formulasOf of the program, l11Read of the reference. -/
namespace Go.Proofs.YtjlnompmhgjaaaaGreat
open Go.RowKit
open Fm (Nd)

end Go.Proofs.YtjlnompmhgjaaaaGreat


/- A copy: l02Own of the reference. -/
namespace Go.Proofs.YtjlnompmhgjaaaaGreat
open Go.RowKit
open Fm (Nd)

theorem l02Own_c (v : Value) (xs : List Nd) (w : World) (h : Nodes w v xs) (hn : xs.length ≤ 1099511627775) :
    Calls Tryz.prog 83 #[v] w (Gives w xs) := by
  have he : Own (w.alloc (.cells #[] 53)) w.heap.size (.slice (some ⟨w.heap.size, 0, none⟩) 0 0) [] :=
    World.ownsRow_lit (e := 53) (size := 2) w #[] 0 (Nat.le_refl _) (by omega) rfl
  go_enter Tryz.func83, Tryz.ntmps83
  go_wp2_with (first
    | (at_builtin; refine wpList_app (w0 := w) _ _ rfl rfl _ [] rfl he ((Grew.refl w).alloc _) v xs rfl (h.grew ((Grew.refl w).alloc _)) (by simp; omega) ?_; intro v1 w1 hown1 hg1 _))
  go_ret
  exact ⟨_, rfl, by simpa using hown1, hg1⟩
end Go.Proofs.YtjlnompmhgjaaaaGreat


/- A list of formulas joined: l02All of the reference, joinAll of the program; limited, l02Made. -/
namespace Go.Proofs.YtjlnompmhgjaaaaGreat
open Go.RowKit
open Fm (Nd)

def upto (k : Int) (L : List (List Nd)) (j : Nat) : List Nd := List.replicate (j - 1) (k, 0) ++ (L.take j).flatten
def allF (k : Int) (L : List (List Nd)) : List Nd := if L.length = 0 then (if k == 2 then Fm.truth else Fm.falsum) else upto k L L.length
theorem flatten_succ {L : List (List Nd)} {j : Nat} (h : j < L.length) : (L.take (j + 1)).flatten = (L.take j).flatten ++ L.getD j [] := by
  rw [List.take_succ_eq_append_getElem h, List.flatten_append]
  simp [List.getD, h]
theorem upto_one {k : Int} {L : List (List Nd)} (h : 0 < L.length) : upto k L 1 = L.getD 0 [] := by
  rw [upto, flatten_succ h]
  simp
theorem upto_succ {k : Int} {L : List (List Nd)} {j : Nat} (h : j < L.length) (h0 : 0 < j) : upto k L (j + 1) = Fm.join k (upto k L j) (L.getD j []) := by
  obtain ⟨m, rfl⟩ : ∃ m, j = m + 1 := ⟨j - 1, by omega⟩
  rw [upto, upto, Fm.join, flatten_succ h]
  simp [List.replicate_succ]
theorem upto_length (k : Int) (L : List (List Nd)) (j : Nat) : (upto k L j).length = (j - 1) + total L j := by
  simp [upto, total]

theorem l02All_c (k : Int) (v : Value) (L : List (List Nd)) (w : World) (h : Lists w v L) (hn : L.length ≤ 1048576) (hf : L.flatten.length ≤ 1073741824) :
    Calls Tryz.prog 51 #[.int .i64 k, v] w (Gives w (allF k L)) := by
  unfold allF
  rcases Nat.eq_zero_or_pos L.length with h0 | hpos
  · rw [if_pos h0]
    obtain ⟨A, c, rfl⟩ : ∃ A c, v = .slice A 0 c := by
      rcases h with ⟨rfl, _⟩ | ⟨b, o, c, rfl, _⟩
      · exact ⟨_, _, rfl⟩
      · rw [h0]; exact ⟨_, _, rfl⟩
    clear h
    cases hk : (k == 2) with
    | true =>
      rw [if_pos rfl]
      go_enter Tryz.func51, Tryz.ntmps51
      go_wp2_with fail
      refine (l02True_c _).mono ?_
      rintro e w1 ⟨v1, rfl, ho1, hg1⟩
      go_wp2_with fail
      go_ret
      exact ⟨_, rfl, ho1, hg1⟩
    | false =>
      rw [if_neg (by simp)]
      go_enter Tryz.func51, Tryz.ntmps51
      go_wp2_with fail
      refine (l02False_c _).mono ?_
      rintro e w1 ⟨v1, rfl, ho1, hg1⟩
      go_wp2_with fail
      go_ret
      exact ⟨_, rfl, ho1, hg1⟩
  · rw [if_neg (by omega)]
    rcases h with ⟨_, rfl⟩ | ⟨b, o, c, rfl, hc, hm, hb, hcell⟩
    · simp at hpos
    have HC := Lib.hid hcell
    have HU := Lib.hid (fun j (h : j < L.length) h0 => @upto_succ k L j h h0)
    have HL := Lib.hid (fun j => Nat.le_trans (Nat.le_of_eq (upto_length k L j)) (Nat.add_le_add_left (Nat.le_trans (total_mono (L := L) (k := j)) hf) _))
    have HT := Lib.hid (fun j (h : j < L.length) => Nat.le_trans (by rw [total_succ h]; omega : (L.getD j []).length ≤ total L (j + 1)) (Nat.le_trans (total_mono (L := L) (k := j + 1)) hf))
    have h1 := upto_one (k := k) hpos
    have H1 := Lib.hid h1
    clear hcell h1 hf
    generalize hN : L.length = n at *
    clear hN
    obtain ⟨u0, hu0, hN0⟩ := HC.out 0 hpos
    have hlen0 := HT.out 0 hpos
    go_enter Tryz.func51, Tryz.ntmps51
    obtain ⟨A0, c0, rfl⟩ := nodes_slice hN0
    simp only [Nat.add_zero] at hu0
    go_wp2_with fail
    refine (l02Own_c _ _ _ hN0 (by omega)).mono ?_
    rintro e w1 ⟨v1, rfl, ho1, hg1⟩
    go_wp2_with fail
    go_loopw [5, 6] (fun vv i wr => ∃ j : Nat, 1 ≤ j ∧ j ≤ n ∧ i = .int .i64 j ∧ Own wr w.heap.size vv (upto k L j) ∧ Grew w wr) (fun _ i _ => n - (intOf i).toNat)
    case atStart => exact ⟨1, by omega, by omega, rfl, by rw [H1.out]; exact ho1, hg1⟩
    case round =>
      obtain ⟨j, hj1, hj, rfl, hO, hB⟩ := hrel
      by_cases hlt : j < n
      · obtain ⟨u, hu, hNu⟩ := HC.out j hlt
        have hlu := HT.out j hlt
        have hlj := HL.out j
        have hup := HU.out j hlt (by omega)
        obtain ⟨A, cc, rfl⟩ := nodes_slice hNu
        have k1 := (hB.cell (p := ⟨b, o + j, none⟩) hb).trans hu
        have HUP := Lib.hid hup
        clear hup hu
        generalize L.getD j [] = X at *
        generalize upto k L j = Y at *
        go_wp2_with fail
        refine (l02Pair_c k _ _ Y X _ hO.nodes (hNu.grew hB) (by omega)).mono ?_
        rintro e w2 ⟨v2, rfl, ho2, hg2⟩
        go_wp2_with fail
        go_roundw
        case rel => exact ⟨j + 1, by omega, by omega, by go_num, by rw [HUP.out]; exact ho2.base hB.size, hB.trans hg2⟩
        case measure => simp [intOf]; omega
      · obtain rfl : j = n := by omega
        go_wp2_with fail
        go_ret
        exact ⟨_, rfl, hO, hB⟩

end Go.Proofs.YtjlnompmhgjaaaaGreat


/- joinAll of the program. -/
namespace Go.Proofs.YtjlnompmhgjaaaaGreat
open Go.RowKit
open Fm (Nd)

theorem joinAll_c (k : Int) (v : Value) (L : List (List Nd)) (w : World) (h : Lists w v L) (hn : L.length ≤ 1048576) (hf : L.flatten.length ≤ 1073741824) :
    Calls Tryz.prog 40 #[.int .i64 k, v] w (Gives w (allF k L)) := by
  unfold allF
  rcases Nat.eq_zero_or_pos L.length with h0 | hpos
  · rw [if_pos h0]
    obtain ⟨A, c, rfl⟩ : ∃ A c, v = .slice A 0 c := by
      rcases h with ⟨rfl, _⟩ | ⟨b, o, c, rfl, _⟩
      · exact ⟨_, _, rfl⟩
      · rw [h0]; exact ⟨_, _, rfl⟩
    clear h
    cases hk : (k == 2) with
    | true =>
      rw [if_pos rfl]
      go_enter Tryz.func40, Tryz.ntmps40
      go_wp2_with fail
      refine (truth_c _).mono ?_
      rintro e w1 ⟨v1, rfl, ho1, hg1⟩
      go_wp2_with fail
      go_ret
      exact ⟨_, rfl, ho1, hg1⟩
    | false =>
      rw [if_neg (by simp)]
      go_enter Tryz.func40, Tryz.ntmps40
      go_wp2_with fail
      refine (falsum_c _).mono ?_
      rintro e w1 ⟨v1, rfl, ho1, hg1⟩
      go_wp2_with fail
      go_ret
      exact ⟨_, rfl, ho1, hg1⟩
  · rw [if_neg (by omega)]
    rcases h with ⟨_, rfl⟩ | ⟨b, o, c, rfl, hc, hm, hb, hcell⟩
    · simp at hpos
    have HC := Lib.hid hcell
    have HS := Lib.hid (fun j (h : j < L.length) => (⟨total_succ h, Nat.le_trans (total_mono (L := L) (k := j + 1)) hf⟩ : total L (j + 1) = total L j + (L.getD j []).length ∧ total L (j + 1) ≤ 1073741824))
    have HT := Lib.hid (fun j => Nat.le_trans (total_mono (L := L) (k := j)) hf)
    have HFS := Lib.hid (fun j (h : j < L.length) => @flatten_succ L j h)
    have HZ := Lib.hid (total_zero L)
    clear hcell hf
    generalize hN : L.length = n at *
    clear hN
    go_enter Tryz.func40, Tryz.ntmps40
    go_wp2_with fail
    go_loopw [5, 7, 23] (fun s _ i wr => ∃ j : Nat, j ≤ n ∧ i = .int .i64 j ∧ s = .int .i64 ((n : Int) - 1 + total L j) ∧ Grew w wr) (fun _ _ i _ => n - (intOf i).toNat)
    case atStart => exact ⟨0, Nat.zero_le _, rfl, by rw [HZ.out]; simp, Grew.refl _⟩
    case round =>
      obtain ⟨j, hj, rfl, rfl, hB⟩ := hrel
      have hT := HT.out j
      by_cases hlt : j < n
      · obtain ⟨u, hu1, hu2⟩ := HC.out j hlt
        obtain ⟨hs, hle⟩ := HS.out j hlt
        generalize L.getD j [] = X at *
        obtain ⟨A, cc, rfl⟩ := nodes_slice hu2
        have k1 := (hB.cell (p := ⟨b, o + j, none⟩) hb).trans hu1
        rw [hs] at hle
        have HSS := Lib.hid hs
        clear hs hu1 hu2
        go_wp2_with fail
        go_roundw
        case rel => exact ⟨j + 1, by omega, by go_num, by rw [HSS.out]; go_num, by assumption⟩
        case measure => simp [intOf]; omega
      · obtain rfl : j = n := by omega
        obtain ⟨i0, hi0, hz0, hz1, hz2⟩ := info_parts Tryz.infoNd
        have hm1 : ((j : Int) - 1 + total L j) = ((j - 1 + total L j : Nat) : Int) := by omega
        go_wp2_with (first | (refine wpList_make_own _ rfl _ _ 31 rfl w.heap.size 53 i0 _ 2 Tryz.underlying31 hi0 hz0 hz1 .i64 .i64 _ (j - 1 + total L j) rfl rfl hm1 (by rw [hz2]; omega) (by unfold maxLen; omega) hB.size ?_; intro w1 how1 hgr1))
        have hB1 : Grew w w1 := hB.trans ⟨hgr1.os, hgr1.tape, hgr1.output, hgr1.size, fun i hi => hgr1.block i hi (by simp)⟩
        clear hi0 hz0 hz1 hz2 hm1 hgr1 hB hT
        go_loopw [8, 37] (fun vv i wx => ∃ m : Nat, m ≤ j - 1 ∧ i = .int .i64 m ∧ Own wx w.heap.size vv (List.replicate m (k, 0)) ∧ Grew w wx) (fun _ i _ => j - 1 - (intOf i).toNat)
        case atStart => exact ⟨0, Nat.zero_le _, rfl, how1, hB1⟩
        case round =>
          clear how1 hB1
          obtain ⟨m, hm2, rfl, hO, hB⟩ := hrel
          by_cases hlt2 : m < j - 1
          · have hlt3 : (m : Int) < (j : Int) - 1 := by omega
            have hO1 := hO.grew ((Grew.refl _).alloc (.cells #[.int .i64 k, .int .i64 0] 53))
            have h1 := (Own.one wr _ k 0 (Nat.le_refl _)).nodes
            go_wp2_with (first | (at_builtin; refine wpList_app (w0 := w) _ _ rfl rfl _ (List.replicate m (k, 0)) rfl hO1 (hB.alloc _) _ [(k, 0)] rfl h1 (by simp; omega) ?_; intro v2 w2 hown2 hg2 _))
            go_roundw
            case rel => exact ⟨m + 1, by omega, by go_num, by rw [List.replicate_succ']; exact hown2, hg2⟩
            case measure => simp [intOf]; omega
          · obtain rfl : m = j - 1 := by omega
            have hge : ¬ ((j - 1 : Nat) : Int) < (j : Int) - 1 := by omega
            have hlr : (List.replicate (j - 1) ((k, 0) : Nd)).length = j - 1 := by simp
            have HG := Lib.hid (show List.replicate (j - 1) ((k, 0) : Nd) ++ (L.take j).flatten = upto k L j from rfl)
            clear hm2 hlt2 hlt
            have h00 : List.replicate (j - 1) ((k, 0) : Nd) ++ (L.take 0).flatten = List.replicate (j - 1) ((k, 0) : Nd) := by simp
            have H00 := Lib.hid h00
            clear h00
            generalize List.replicate (j - 1) ((k, 0) : Nd) = R at *
            go_wp2_with fail
            go_loopw [8, 10, 47] (fun vv _ i wy => ∃ m : Nat, m ≤ j ∧ i = .int .i64 m ∧ Own wy w.heap.size vv (R ++ (L.take m).flatten) ∧ Grew w wy) (fun _ _ i _ => j - (intOf i).toNat)
            case atStart => exact ⟨0, Nat.zero_le _, rfl, by rw [H00.out]; exact hO, hB⟩
            case round =>
              clear hO hB
              obtain ⟨m, hm2, rfl, hO, hB⟩ := hrel
              by_cases hlt : m < j
              · obtain ⟨u, hu1, hu2⟩ := HC.out m hlt
                obtain ⟨hs, hle⟩ := HS.out m hlt
                have hfl := HFS.out m hlt
                have htl : (L.take m).flatten.length = total L m := rfl
                rw [hs, ← htl] at hle
                clear hs htl
                generalize L.getD m [] = X at *
                obtain ⟨A, cc, rfl⟩ := nodes_slice hu2
                have k1 := (hB.cell (p := ⟨b, o + m, none⟩) hb).trans hu1
                have HFL := Lib.hid hfl
                clear hfl hu1
                generalize (L.take m).flatten = Y at *
                have hbd : (R ++ Y).length + X.length ≤ 1099511627776 := by rw [List.length_append, hlr]; omega
                go_wp2_with (first | (at_builtin; refine wpList_app (w0 := w) _ _ rfl rfl _ (R ++ Y) rfl hO hB _ X rfl (hu2.grew hB) hbd ?_; intro v2 w2 hown2 hg2 _))
                go_roundw
                case rel => exact ⟨m + 1, by omega, by go_num, by rw [HFL.out, ← List.append_assoc]; exact hown2, hg2⟩
                case measure => simp [intOf]; omega
              · obtain rfl : m = j := by omega
                rw [HG.out] at hO
                go_wp2_with fail
                go_ret
                exact ⟨_, rfl, hO, hB⟩
end Go.Proofs.YtjlnompmhgjaaaaGreat


/- literalFormula of the program; slices.Clone of rows of formulas. -/
namespace Go.Proofs.YtjlnompmhgjaaaaGreat
open Go.RowKit
open Fm (Nd Tree)

theorem literal_yes (v : Nat) (hv : v ≤ 6) (w : World) : Calls Tryz.prog 37 #[.int .i64 (2 * (v : Int))] w (Gives w (Fm.vari v)) := by
  have KV := Lib.hid (fun W => variable_c (v : Int) W)
  have h1 : Int.tmod (2 * (v : Int)) 2 = 0 := by rw [Int.mul_comm]; exact Int.mul_tmod_left ..
  have h2 : Int.tdiv (2 * (v : Int)) 2 = (v : Int) := by rw [Int.mul_comm]; exact Int.mul_tdiv_cancel _ (by omega)
  have h3 : IntKind.i64.wrap (v : Int) = (v : Int) := by rw [IntKind.wrap_i64]; omega
  go_enter Tryz.func37, Tryz.ntmps37
  go_wp2_with fail
  refine (KV.out _).mono ?_
  rintro e w1 ⟨u, rfl, hO, hg⟩
  go_wp2_with fail
  go_ret
  exact ⟨_, rfl, hO, hg⟩
theorem literal_no (v : Nat) (hv : v ≤ 6) (w : World) : Calls Tryz.prog 37 #[.int .i64 (2 * (v : Int) + 1)] w (Gives w (Fm.neg (Fm.vari v))) := by
  have KV := Lib.hid (fun W => variable_c (v : Int) W)
  have KN := Lib.hid (fun u W h => negation_c u (Fm.vari v) W h (by simp [Fm.vari]))
  have h1 : Int.tmod (2 * (v : Int) + 1) 2 = 1 := by rw [Int.tmod_eq_emod_of_nonneg (by omega)]; omega
  have h2 : Int.tdiv (2 * (v : Int) + 1) 2 = (v : Int) := by rw [Int.tdiv_eq_ediv_of_nonneg (by omega)]; omega
  have h3 : IntKind.i64.wrap (v : Int) = (v : Int) := by rw [IntKind.wrap_i64]; omega
  go_enter Tryz.func37, Tryz.ntmps37
  go_wp2_with fail
  refine (KV.out _).mono ?_
  rintro e w1 ⟨u, rfl, hO, hg⟩
  go_wp2_with fail
  refine (KN.out _ _ hO.nodes).mono ?_
  rintro e w2 ⟨u2, rfl, hO2, hg2⟩
  go_wp2_with fail
  go_ret
  exact ⟨_, rfl, hO2.base hg.size, hg.trans hg2⟩
set_option maxHeartbeats 2000000 in
theorem cloneV_c (v : Value) (us : List Value) (B : Nat) (w : World) (h : OwnV w B v us) (hn : us.length ≤ 1000) (h1 : ∀ u ∈ us, u.oneCell' = true) :
    Calls Tryz.prog 75 #[v] w fun e w' => ∃ r, e = .returned r ∧ OwnV w' w.heap.size r us ∧ Grew w w' := by
  have q : ∀ (w : World) (a : Option Addr) (n c n' c' : Nat), (binOp .eql 48 (.slice a n c) (.slice none n' c')).run Tryz.prog w = .ok (.bool a.isNone) w := fun w a n c n' c' => Lib.run_eql_slice_nil w _ _ a n c n' c' Tryz.underlying48
  rcases h.2 with ⟨rfl, h0⟩ | ⟨g, cap, cur, rfl, hB, hh, hnc, hcm, hcs, htk⟩
  · have hu : us = [] := List.eq_nil_of_length_eq_zero h0
    subst hu
    clear h h0 h1
    go_enter Tryz.func75, Tryz.ntmps75
    go_wp2_with fail
    go_ret
    exact ⟨_, rfl, World.ownsRow_nil w _ _ 1, Grew.refl _⟩
  · obtain ⟨i0, hi0, hz0, hz1, hz2⟩ := info_parts infoSl
    have hg := (Grew.refl w).alloc (.cells #[] 31)
    have he := own_empty w
    have hr : Rd (w.alloc (.cells #[] 31)) 1 (.slice (some ⟨g, 0, none⟩) us.length cap) us.length us := Rd.of_own (own_grew h hg)
    have HH := Lib.hid hh
    have HT := Lib.hid htk
    clear h hh htk hcs
    go_enter Tryz.func75, Tryz.ntmps75
    go_wp2_with (first | (at_builtin; refine wpList_append_rd (w.alloc (.cells #[] 31)) rfl _ _ _ rfl w.heap.size 31 i0 _ 1 24 Tryz.underlying48 hi0 hz0 hz1 hz2 rfl (by omega) _ 0 [] rfl he _ us.length us rfl hr h1 (by unfold maxLen; omega) (by omega) hg.size ?_; intro v' w' k1 k2 k3))
    go_ret
    have hgr : Grew w w' := hg.grown k2 fun k hk => (he.lt k hk).1
    refine ⟨_, rfl, ?_, hgr⟩
    have : w'.ownsRow w.heap.size 31 1 v' (0 + us.length) ([] ++ us) := k1
    rwa [Nat.zero_add, List.nil_append] at this
end Go.Proofs.YtjlnompmhgjaaaaGreat


/- Joined formulas as trees; limited. -/
namespace Go.Proofs.YtjlnompmhgjaaaaGreat
open Go.RowKit
open Fm (Nd Tree)

theorem rep_snoc {α : Type} (x : α) (n : Nat) (l : List α) : List.replicate n x ++ x :: l = List.replicate (n + 1) x ++ l := by
  rw [List.replicate_succ', List.append_assoc]
  rfl
theorem enc_foldl {k : Int} {op : Tree → Tree → Tree} (hk : ∀ a b, Fm.enc (op a b) = (k, 0) :: (Fm.enc a ++ Fm.enc b)) : ∀ (r : List Tree) (a : Tree), Fm.enc (r.foldl op a) = List.replicate r.length (k, 0) ++ (Fm.enc a ++ (r.map Fm.enc).flatten)
  | [], a => by simp
  | b :: r, a => by
    rw [List.foldl_cons, enc_foldl hk r (op a b), hk, List.cons_append, rep_snoc]
    simp
theorem allF_and (L : List Tree) : allF 2 (L.map Fm.enc) = Fm.enc (jnT .and (.imp .fls .fls) L) := by
  cases L with
  | nil => rfl
  | cons a r =>
    unfold allF
    rw [if_neg (by simp)]
    show _ = Fm.enc (r.foldl .and a)
    rw [enc_foldl (k := 2) (fun a b => rfl)]
    unfold upto
    rw [List.take_of_length_le (Nat.le_refl _)]
    simp
theorem allF_or (L : List Tree) : allF 3 (L.map Fm.enc) = Fm.enc (jnT .or .fls L) := by
  cases L with
  | nil => rfl
  | cons a r =>
    unfold allF
    rw [if_neg (by simp)]
    show _ = Fm.enc (r.foldl .or a)
    rw [enc_foldl (k := 3) (fun a b => rfl)]
    unfold upto
    rw [List.take_of_length_le (Nat.le_refl _)]
    simp
def OptF (w : World) (B : Nat) (u : Value) (o : Option Tree) : Prop := match o with | none => u = .slice none 0 0 | some T => Own w B u (Fm.enc T)
theorem OptF.grew {w w' : World} {B : Nat} {u : Value} {o : Option Tree} (h : OptF w B u o) (hg : Grew w w') : OptF w' B u o := by
  cases o with
  | none => exact h
  | some T => exact Own.grew h hg
theorem OptF.base {w : World} {B B' : Nat} {u : Value} {o : Option Tree} (h : OptF w B u o) (hb : B' ≤ B) : OptF w B' u o := by
  cases o with
  | none => exact h
  | some T => exact Own.base h hb
theorem limitedO_c (v : Value) (T : Tree) (w : World) (B : Nat) (h : Own w B v (Fm.enc T)) :
    Calls Tryz.prog 77 #[v] w fun e w' => ∃ u k, e = .returned (.tuple #[u, .int .i64 k]) ∧ OptF w' B u (if (Fm.enc T).length ≤ 40 then some T else none) ∧ Grew w w' := by
  by_cases h40 : (Fm.enc T).length ≤ 40
  · rw [if_pos h40]
    obtain ⟨A, c, rfl⟩ := nodes_slice h.nodes
    have H := Lib.hid h
    clear h
    go_enter Tryz.func77, Tryz.ntmps77
    go_wp2_with fail
    go_ret2
    exact ⟨_, _, rfl, H.out, Grew.refl _⟩
  · rw [if_neg h40]
    obtain ⟨A, c, rfl⟩ := nodes_slice h.nodes
    clear h
    go_enter Tryz.func77, Tryz.ntmps77
    go_wp2_with fail
    go_ret2
    exact ⟨_, _, rfl, rfl, Grew.refl _⟩
end Go.Proofs.YtjlnompmhgjaaaaGreat


/- Rows of formulas: as lists; made by append. -/
namespace Go.Proofs.YtjlnompmhgjaaaaGreat
open Go.RowKit
open Fm (Nd Tree)

theorem VS.lists {w : World} {g k c : Nat} {F : Nat → Value} {T : Nat → Tree} (h : VS w g k c F T) : Lists w (.slice (some ⟨g, 0, none⟩) k c) ((lsT T k).map Fm.enc) := by
  obtain ⟨cur, h1, h2, hn, hm, h3⟩ := h.r
  have hl : ((lsT T k).map Fm.enc).length = k := by simp [lsT]
  refine .inr ⟨g, 0, c, by rw [hl], by rw [hl]; exact hn, hm, blk_lt h1, fun i hi => ?_⟩
  rw [hl] at hi
  refine ⟨F i, by rw [Nat.zero_add, blk_cell h1]; exact h3 i hi, ?_⟩
  have e : ((lsT T k).map Fm.enc).getD i [] = Fm.enc (T i) := by simp [lsT, List.getD, hi]
  rw [e]
  exact (h.o i hi).1.nodes
structure RowT (w : World) (B : Nat) (v : Value) (us : List Value) (L : List Tree) : Prop where
  r : OwnV w B v us
  l : us.length = L.length
  o : ∀ i, i < L.length → Own w 0 (us.getD i (.bool false)) (Fm.enc (L.getD i .fls))
theorem RowT.grew {w w' : World} {B : Nat} {v : Value} {us : List Value} {L : List Tree} (h : RowT w B v us L) (hg : Grew w w') : RowT w' B v us L := ⟨own_grew h.r hg, h.l, fun i hi => (h.o i hi).grew hg⟩
theorem RowT.base {w : World} {B B' : Nat} {v : Value} {us : List Value} {L : List Tree} (h : RowT w B v us L) (hb : B' ≤ B) : RowT w B' v us L := ⟨own_base h.r hb, h.l, h.o⟩
theorem RowT.nil_ (w : World) (B : Nat) : RowT w B (.slice none 0 0) [] [] := ⟨World.ownsRow_nil w B _ 1, rfl, fun i hi => absurd hi (by simp)⟩
theorem RowT.snoc {w w' : World} {B : Nat} {v v' u : Value} {us : List Value} {L : List Tree} {t : Tree} (h : RowT w B v us L) (hu : Own w 0 u (Fm.enc t)) (hg : w.grownBy w' v.ownBlock) (hv : OwnV w' B v' (us ++ [u])) : RowT w' B v' (us ++ [u]) (L ++ [t]) := by
  refine ⟨hv, by rw [List.length_append, List.length_append, h.l]; rfl, fun i hi => ?_⟩
  rw [List.getD_eq_getElem?_getD, List.getD_eq_getElem?_getD]
  rcases Nat.lt_or_ge i L.length with hk | hk
  · rw [List.getElem?_append_left (by rw [h.l]; exact hk), List.getElem?_append_left hk, ← List.getD_eq_getElem?_getD, ← List.getD_eq_getElem?_getD]
    exact own_app (h.o i hk) h.r hg
  · obtain rfl : i = L.length := by simp at hi; omega
    rw [List.getElem?_append_right (by rw [h.l]; exact Nat.le_refl _), List.getElem?_append_right (Nat.le_refl _), h.l, Nat.sub_self]
    exact own_app hu h.r hg
theorem RowT.lists {w : World} {B : Nat} {v : Value} {us : List Value} {L : List Tree} (h : RowT w B v us L) : Lists w v (L.map Fm.enc) := by
  have hl : (L.map Fm.enc).length = us.length := by rw [List.length_map, h.l]
  rcases h.r.2 with ⟨rfl, h0⟩ | ⟨g, cap, cur, rfl, hB, hh, hnc, hcm, hcs, htk⟩
  · exact .inl ⟨rfl, List.eq_nil_of_length_eq_zero (by rw [hl]; exact h0)⟩
  · refine .inr ⟨g, 0, cap, by rw [hl], by rw [hl]; omega, hcm, blk_lt hh, fun i hi => ?_⟩
    have hiu : i < us.length := by rw [← hl]; exact hi
    have hiL : i < L.length := by rw [← h.l]; exact hiu
    refine ⟨us.getD i (.bool false), ?_, ?_⟩
    · rw [Nat.zero_add, blk_cell hh]
      have e : us[i]? = some (us.getD i (.bool false)) := by rw [List.getElem?_eq_getElem hiu]; simp [List.getD, hiu]
      rw [← e, ← htk, List.getElem?_take, if_pos (by omega)]
      simp
    · have e : (L.map Fm.enc).getD i [] = Fm.enc (L.getD i .fls) := by simp [List.getD, hiL]
      rw [e]
      exact (h.o i hiL).nodes
theorem RowT.vs {w : World} {B : Nat} {v : Value} {us : List Value} {L : List Tree} (h : RowT w B v us L) (h1 : 1 ≤ L.length) (hs : ∀ a ∈ L, (Fm.enc a).length ≤ 40) :
    ∃ g c, v = .slice (some ⟨g, 0, none⟩) L.length c ∧ B ≤ g ∧ VS w g L.length c (fun i => us.getD i (.bool false)) (fun i => L.getD i .fls) := by
  have hul := h.l
  rcases h.r.2 with ⟨rfl, h0⟩ | ⟨g, cap, cur, rfl, hB, hh, hnc, hcm, hcs, htk⟩
  · omega
  · refine ⟨g, cap, by rw [hul], hB, ⟨cur, hh, by omega, by omega, hcm, fun i hi => ?_⟩, fun i hi => ⟨h.o i hi, ?_⟩⟩
    · have hiu : i < us.length := by omega
      have e : us[i]? = some (us.getD i (.bool false)) := by rw [List.getElem?_eq_getElem hiu]; simp [List.getD, hiu]
      show cur[i]? = some (us.getD i (.bool false))
      rw [← e, ← htk, List.getElem?_take, if_pos (by omega)]
      simp
    · refine hs _ ?_
      show L.getD i .fls ∈ L
      rw [show L.getD i .fls = L[i] by simp [List.getD, hi]]
      exact List.getElem_mem hi
theorem lsT_getD (L : List Tree) : lsT (fun i => L.getD i .fls) L.length = L := by
  refine List.ext_getElem (by simp [lsT]) fun i h1 h2 => ?_
  simp [lsT, List.getD, h2]
end Go.Proofs.YtjlnompmhgjaaaaGreat


/- sortedFormulas of the program at no formula. -/
namespace Go.Proofs.YtjlnompmhgjaaaaGreat
open Go.RowKit
open Fm (Nd Tree)

theorem insertion0_c (w : World) : Calls Tryz.prog 122 #[.slice none 0 0, .int .i64 0, .int .i64 0, .func (.func 103) #[] #[]] w fun e w' => e = .returned (.tuple #[]) ∧ w' = w := by
  go_enter Tryz.func122, Tryz.ntmps122
  go_wp2_with fail
  refine wp_loop_rounds 1 ?_; rw [rounds_succ]
  go_wp2_with fail
  (try simp only [Exit.inBlock, Exit.then])
  first | refine bodyPost_end (results_none rfl _ _ _) rfl ?_ | refine bodyPost_ret (results_none rfl _ _ _) rfl ?_
  exact ⟨rfl, rfl⟩
set_option maxHeartbeats 2000000 in
set_option maxRecDepth 100000 in
theorem pdq0_c (k : Int) (w : World) : Calls Tryz.prog 114 #[.slice none 0 0, .int .i64 0, .int .i64 0, .int .i64 k, .func (.func 103) #[] #[]] w fun e w' => e = .returned (.tuple #[]) ∧ w' = w := by
  have KI := Lib.hid (insertion0_c w)
  go_enter Tryz.func114, Tryz.ntmps114
  go_wp2_with fail
  refine wp_loop_rounds 1 ?_; rw [rounds_succ]
  go_wp2_with fail
  refine KI.out.mono ?_
  rintro e w1 ⟨rfl, hw⟩
  rw [hw]
  go_wp2_with fail
  (try simp only [Exit.inBlock, Exit.then])
  first | refine bodyPost_end (results_none rfl _ _ _) rfl ?_ | refine bodyPost_ret (results_none rfl _ _ _) rfl ?_
  exact ⟨rfl, rfl⟩
theorem sortFunc0_c (w : World) : Calls Tryz.prog 102 #[.slice none 0 0, .func (.func 103) #[] #[]] w fun e w' => e = .returned (.tuple #[]) ∧ w' = w := by
  have KP := Lib.hid (fun k => pdq0_c k w)
  have KL := Lib.hid (len_c 0 (by omega) w)
  go_enter Tryz.func102, Tryz.ntmps102
  go_wp2_with fail
  refine KL.out.mono ?_
  rintro e w1 ⟨⟨k, rfl⟩, hw⟩
  rw [hw]
  clear hw KL
  go_wp2_with fail
  refine (KP.out k).mono ?_
  rintro e w1 ⟨rfl, hw⟩
  rw [hw]
  go_wp2_with fail
  (try simp only [Exit.inBlock, Exit.then])
  first | refine bodyPost_end (results_none rfl _ _ _) rfl ?_ | refine bodyPost_ret (results_none rfl _ _ _) rfl ?_
  exact ⟨rfl, rfl⟩
theorem compact0_c (w : World) : Calls Tryz.prog 104 #[.slice none 0 0, .func (.func 105) #[] #[]] w fun e w' => e = .returned (.slice none 0 0) ∧ w' = w := by
  go_enter Tryz.func104, Tryz.ntmps104
  go_wp2_with fail
  go_ret
  exact ⟨rfl, rfl⟩
theorem sorted0_c (w : World) : Calls Tryz.prog 74 #[.slice none 0 0] w fun e w' => e = .returned (.slice none 0 0) ∧ w' = w := by
  have KS := Lib.hid (sortFunc0_c w)
  have KC := Lib.hid (compact0_c w)
  go_enter Tryz.func74, Tryz.ntmps74
  go_wp2_with fail
  refine KS.out.mono ?_
  rintro e w1 ⟨rfl, hw⟩
  rw [hw]
  go_wp2_with fail
  refine KC.out.mono ?_
  rintro e w1 ⟨rfl, hw⟩
  rw [hw]
  go_wp2_with fail
  go_ret
  exact ⟨rfl, rfl⟩
end Go.Proofs.YtjlnompmhgjaaaaGreat


/- The formula of a world, plain: what the first members give. No program is in sight. -/
namespace Go.Proofs.YtjlnompmhgjaaaaGreat
open Go.RowKit
open Fm (Nd Tree)

def lbK (O : Nat → Option Tree) (M : List Nat) (j : Nat) : List Tree := ((M.take j).map O).filterMap id
theorem nt_getM {M : List Nat} {j : Nat} (h : j < M.length) : M[j] = nt M j := by simp [nt, List.getD, h]
theorem lbK_zero (O : Nat → Option Tree) (M : List Nat) : lbK O M 0 = [] := by simp [lbK]
theorem lbK_succ {O : Nat → Option Tree} {M : List Nat} {j : Nat} {t : Tree} (h : j < M.length) (ht : O (nt M j) = some t) : lbK O M (j + 1) = lbK O M j ++ [t] := by
  unfold lbK
  rw [List.take_succ_eq_append_getElem h, List.map_append, List.filterMap_append, nt_getM h]
  simp [ht]
theorem upT_none {O : Nat → Option Tree} {M : List Nat} {j : Nat} (lt : List Tree) (h : j < M.length) (hn : O (nt M j) = none) : upT lt (M.map O) = none := by
  unfold upT
  rw [if_neg]
  intro hc
  have := List.all_eq_true.1 hc (O (nt M j)) (List.mem_map.2 ⟨nt M j, by rw [← nt_getM h]; exact List.getElem_mem h, rfl⟩)
  rw [hn] at this
  cases this
theorem upT_all {O : Nat → Option Tree} {M : List Nat} (lt : List Tree) (h : ∀ i, i < M.length → ∃ t, O (nt M i) = some t) :
    upT lt (M.map O) = (let T := jnT .and (.imp .fls .fls) (lt ++ (srtT (lbK O M M.length)).map .dia ++ [.box (jnT .or .fls (srtT (lbK O M M.length)))])
      if (Fm.enc T).length ≤ 40 then some T else none) := by
  have e : lbK O M M.length = (M.map O).filterMap id := by unfold lbK; rw [List.take_of_length_le (Nat.le_refl _)]
  rw [e]
  unfold upT
  rw [if_pos]
  refine List.all_eq_true.2 fun o ho => ?_
  obtain ⟨m, hm, rfl⟩ := List.mem_map.1 ho
  obtain ⟨i, hi, rfl⟩ := List.getElem_of_mem hm
  obtain ⟨t, ht⟩ := h i hi
  rw [nt_getM hi, ht]
  rfl
end Go.Proofs.YtjlnompmhgjaaaaGreat


/- Literals and prefixes as trees. -/
namespace Go.Proofs.YtjlnompmhgjaaaaGreat
open Go.RowKit
open Fm (Nd Tree)

theorem enc_vr {v : Nat} (h : v < 6) : Fm.enc (vr v) = Fm.vari (v : Int) := by
  show [((0 : Int), ((v % 6 : Nat) : Int))] = _
  rw [Nat.mod_eq_of_lt h]
  rfl
theorem enc_not (a : Tree) : Fm.enc (.imp a .fls) = Fm.neg (Fm.enc a) := rfl
theorem enc_dia (a : Tree) : Fm.enc (.dia a) = Fm.pre 6 (Fm.enc a) := rfl
theorem enc_box (a : Tree) : Fm.enc (.box a) = Fm.pre 5 (Fm.enc a) := rfl
theorem literal_c (V : List Nat) (x v : Nat) (hv : v < 6) (w : World) : Calls Tryz.prog 37 #[.int .i64 (2 * (v : Int) + (if (nt V v).testBit x = true then 0 else 1))] w (Gives w (Fm.enc (lit V x v))) := by
  unfold lit
  by_cases h : (nt V v).testBit x = true
  · rw [if_pos h, if_pos h, enc_vr hv, Int.add_zero]
    exact literal_yes v (by omega) w
  · rw [if_neg h, if_neg h, enc_not, enc_vr hv]
    exact literal_no v (by omega) w
end Go.Proofs.YtjlnompmhgjaaaaGreat


/- worldFormula of the program: sorted formulas as a row. -/
namespace Go.Proofs.YtjlnompmhgjaaaaGreat
open Go.RowKit
open Fm (Nd Tree)

def BelT (w : World) (v : Value) (L : List Tree) : Prop :=
  (v = .slice none 0 0 ∧ L = []) ∨ ∃ g c F, v = .slice (some ⟨g, 0, none⟩) L.length c ∧ VS w g L.length c F (fun i => L.getD i .fls)
theorem BelT.grew {w w' : World} {v : Value} {L : List Tree} (h : BelT w v L) (hg : Grew w w') : BelT w' v L := by
  rcases h with h | ⟨g, c, F, h1, h2⟩
  · exact .inl h
  · exact .inr ⟨g, c, F, h1, h2.grew hg⟩
theorem BelT.lists {w : World} {v : Value} {L : List Tree} (h : BelT w v L) : Lists w v (L.map Fm.enc) := by
  rcases h with ⟨rfl, rfl⟩ | ⟨g, c, F, rfl, h2⟩
  · exact .inl ⟨rfl, rfl⟩
  · have := h2.lists
    rwa [lsT_getD] at this
theorem BelT.slice {w : World} {v : Value} {L : List Tree} (h : BelT w v L) : ∃ A c, v = .slice A L.length c := by
  rcases h with ⟨rfl, rfl⟩ | ⟨g, c, F, rfl, h2⟩
  · exact ⟨_, _, rfl⟩
  · exact ⟨_, _, rfl⟩
theorem BelT.at_ {w : World} {v : Value} {L : List Tree} (h : BelT w v L) {j : Nat} (hj : j < L.length) :
    ∃ g c u, v = .slice (some ⟨g, 0, none⟩) L.length c ∧ (∀ W, Grew w W → W.cell? ⟨g, j, none⟩ = some u) ∧ Own w 0 u (Fm.enc (L.getD j .fls)) := by
  rcases h with ⟨rfl, rfl⟩ | ⟨g, c, F, rfl, h2⟩
  · simp at hj
  · exact ⟨g, c, F j, rfl, fun W hW => (h2.grew hW).r.cell hj, (h2.o j hj).1⟩
theorem putS_lenW (L : List ByteArray) : (putS L).length ≤ L.length := by
  unfold putS putB
  rw [List.length_map]
  have := Lib.compact_length_le ((bl L).mergeSort fun x y => decide (x ≤ y))
  rw [List.length_mergeSort] at this
  simpa [bl] using this
theorem srtT_nil : srtT [] = [] := by
  unfold srtT
  have := putS_lenW []
  rw [List.map_nil, List.eq_nil_of_length_eq_zero (Nat.le_zero.1 this), List.map_nil]
theorem sortedB_c (w0 : World) (vb : Value) (us : List Value) (L : List Tree) (w : World) (h : RowT w w0.heap.size vb us L) (h8 : L.length ≤ 8) (hs : ∀ a ∈ L, (Fm.enc a).length ≤ 40) (h0 : L.length = 0 → vb = .slice none 0 0) (hg : Grew w0 w) :
    Calls Tryz.prog 74 #[vb] w fun e w' => ∃ r, e = .returned r ∧ BelT w' r (srtT L) ∧ Grew w0 w' := by
  rcases Nat.eq_zero_or_pos L.length with hz | hp
  · have hv := h0 hz
    have hL : L = [] := List.eq_nil_of_length_eq_zero hz
    subst hv hL
    refine (sorted0_c w).mono ?_
    rintro e w' ⟨rfl, rfl⟩
    exact ⟨_, rfl, .inl ⟨rfl, srtT_nil⟩, hg⟩
  · obtain ⟨g, c, rfl, hb, hV⟩ := h.vs hp hs
    refine (sortedFormulas_c g L.length c _ _ w hV hp h8).mono ?_
    rintro e w' ⟨k, F, T, rfl, hk1, hk2, hV', hT, ho⟩
    rw [lsT_getD] at hT
    have hk : (srtT L).length = k := by rw [← hT, lsT_len]
    refine ⟨_, rfl, .inr ⟨g, c, F, by rw [hk], ?_⟩, ho.grew_of hg hb⟩
    rw [hk]
    refine ⟨hV'.r, fun i hi => ?_⟩
    have e : (srtT L).getD i .fls = T i := by rw [← hT]; simp [lsT, List.getD, hi]
    rw [e]
    exact hV'.o i hi
theorem flat_len {L : List (List Nd)} {K : Nat} (h : ∀ x ∈ L, x.length ≤ K) : L.flatten.length ≤ L.length * K := by
  induction L with
  | nil => simp
  | cons a r ih =>
    rw [List.flatten_cons, List.length_append, List.length_cons, Nat.succ_mul]
    have h1 := h a (List.mem_cons_self ..)
    have h2 := ih fun x hx => h x (List.mem_cons_of_mem _ hx)
    omega
theorem srtT_len (L : List Tree) : (srtT L).length ≤ L.length := by
  unfold srtT
  rw [List.length_map]
  have := putS_lenW (L.map tx)
  rwa [List.length_map] at this
theorem mbs_len8 {m n : Nat} (hm : m < 2 ^ n) (hn : n ≤ 30) : (mbs m).length ≤ n := by
  have e : mbs m = mb m n := mb_top hm 30 hn
  rw [e]
  exact mb_len m n
theorem RowT.slice {w : World} {B : Nat} {v : Value} {us : List Value} {L : List Tree} (h : RowT w B v us L) : ∃ A c, v = .slice A L.length c := by
  rcases h.r.2 with ⟨rfl, h0⟩ | ⟨g, cap, cur, rfl, hB, hh, hnc, hcm, hcs, htk⟩
  · exact ⟨none, 0, by rw [← h.l, h0]⟩
  · exact ⟨_, _, by rw [h.l]⟩
theorem RowT.one {w : World} {B : Nat} {v : Value} {us : List Value} {L : List Tree} (h : RowT w B v us L) : ∀ u ∈ us, u.oneCell' = true := by
  intro u hu
  obtain ⟨i, hi, rfl⟩ := List.getElem_of_mem hu
  have := h.o i (by rw [← h.l]; exact hi)
  rw [show us.getD i (.bool false) = us[i] by simp [List.getD, hi]] at this
  exact own_one this
theorem own_someW {w : World} {B : Nat} {u : Value} {xs : List Nd} (h : Own w B u xs) (hp : 0 < xs.length) : ∃ g c, u = .slice (some ⟨g, 0, none⟩) xs.length c := by
  rcases h.2 with ⟨rfl, h0⟩ | ⟨g, cap, cur, rfl, _⟩
  · omega
  · exact ⟨g, cap, rfl⟩
theorem OptF.slice {w : World} {B : Nat} {u : Value} {o : Option Tree} (h : OptF w B u o) : ∃ A n c, u = .slice A n c := by
  cases o with
  | none => exact ⟨_, _, _, h⟩
  | some T =>
    obtain ⟨A, c, rfl⟩ := nodes_slice (Own.nodes (show Own w B u (Fm.enc T) from h))
    exact ⟨_, _, _, rfl⟩
theorem jl_snoc {lt LS : List Tree} {j : Nat} (h : j < LS.length) : lt ++ (LS.take (j + 1)).map .dia = (lt ++ (LS.take j).map .dia) ++ [.dia (LS.getD j .fls)] := by
  rw [List.take_succ_eq_append_getElem h, List.map_append, List.append_assoc]
  simp [List.getD, h]
theorem jn_lenU {N : Nat} : ∀ {L : List Tree}, (∀ a ∈ L, (Fm.enc a).length ≤ N) → (Fm.enc (jnT .or .fls L)).length ≤ 1 + L.length * (N + 1)
  | [], _ => by simp [jnT, Fm.enc]
  | a :: r, h => by
    have h1 := jn_len .or (fun a b => by simp [Fm.enc]; omega) r a N (fun b hb => h b (List.mem_cons_of_mem _ hb))
    have h2 := h a (List.mem_cons_self ..)
    rw [List.length_cons, Nat.succ_mul]
    show (Fm.enc (r.foldl .or a)).length ≤ _
    omega
set_option maxHeartbeats 4000000 in
set_option maxRecDepth 100000 in
theorem worldFormula_c (vl : Value) (ul : List Value) (lt : List Tree) (Bl m nf gf cf : Nat) (F : Nat → Value) (O : Nat → Option Tree) (w : World)
    (hl : RowT w Bl vl ul lt) (hln : lt.length ≤ 6) (hls : ∀ a ∈ lt, (Fm.enc a).length ≤ 3) (hm : m < 2 ^ nf) (h8 : nf ≤ 8) (hr : VRow w gf nf cf F) (hO : ∀ i, i < nf → OptF w 0 (F i) (O i)) (hs : ∀ i T, O i = some T → (Fm.enc T).length ≤ 40) :
    Calls Tryz.prog 41 #[vl, .int .i64 (m : Int), .slice (some ⟨gf, 0, none⟩) nf cf] w fun e w' => ∃ u, e = .returned u ∧ OptF w' w.heap.size u (upT lt ((mbs m).map O)) ∧ Grew w w' := by
  have q : ∀ (w : World) (a : Option Addr) (n c n' c' : Nat), (binOp .eql 31 (.slice a n c) (.slice none n' c')).run Tryz.prog w = .ok (.bool a.isNone) w := fun w a n c n' c' => Lib.run_eql_slice_nil w _ _ a n c n' c' Tryz.underlying31
  have hm30 : m < 1073741824 := Nat.lt_of_lt_of_le hm (Nat.le_trans (Nat.pow_le_pow_right (n := 2) (by omega) h8) (by decide))
  have KM := Lib.hid (membersOf_c m hm30 w)
  have HN := Lib.hid (fun j (h : j < (mbs m).length) => (mbs_lt hm (nt_mem h) : nt (mbs m) j < nf))
  have HM8 : (mbs m).length ≤ nf := mbs_len8 hm (by omega)
  have HC := Lib.hid (fun i (hi : i < nf) W (hW : Grew w W) => (show W.cell? ⟨gf, i, none⟩ = some (F i) from (hr.grew hW).cell hi))
  have HF := Lib.hid (fun i (hi : i < nf) W (hW : Grew w W) => (hO i hi).grew hW)
  have HNone := Lib.hid (fun j h hn => @upT_none O (mbs m) j lt h hn)
  have HAll := Lib.hid (fun h => @upT_all O (mbs m) lt h)
  have HSuc := Lib.hid (fun j t h ht => @lbK_succ O (mbs m) j t h ht)
  have HZ := Lib.hid (lbK_zero O (mbs m))
  have HSM := Lib.hid (fun j a (ha : a ∈ lbK O (mbs m) j) => (show (Fm.enc a).length ≤ 40 from by
    unfold lbK at ha
    obtain ⟨o, ho, rfl⟩ := List.mem_filterMap.1 ha
    obtain ⟨i, hi, he⟩ := List.mem_map.1 ho
    exact hs i _ he))
  have KS := Lib.hid (fun vb us L W h1 h2 h3 h4 h5 => sortedB_c w vb us L W h1 h2 h3 h4 h5)
  have KC := Lib.hid (fun W (hW : Grew w W) => cloneV_c vl ul Bl W (hl.grew hW).r (by rw [hl.l]; omega) hl.one)
  have HL := Lib.hid (fun W (hW : Grew w W) => hl.grew hW)
  have KP6 := Lib.hid (fun va t W (hv : Nodes W va (Fm.enc t)) (ht : (Fm.enc t).length ≤ 40) => (show Calls Tryz.prog 76 #[.int .i64 6, va] W (Gives W (Fm.enc (.dia t))) from by
    rw [enc_dia]; exact prefix_c 6 va _ W hv (by omega)))
  have KP5 := Lib.hid (fun va t W (hv : Nodes W va (Fm.enc t)) (ht : (Fm.enc t).length ≤ 1000) => (show Calls Tryz.prog 76 #[.int .i64 5, va] W (Gives W (Fm.enc (.box t))) from by
    rw [enc_box]; exact prefix_c 5 va _ W hv (by omega)))
  have KJ3 := Lib.hid (fun va (L : List Tree) W (hv : Lists W va (L.map Fm.enc)) (hL : L.length ≤ 8) (hS : ∀ a ∈ L, (Fm.enc a).length ≤ 40) => (show Calls Tryz.prog 40 #[.int .i64 3, va] W (Gives W (Fm.enc (jnT .or .fls L))) from by
    rw [← allF_or]
    refine joinAll_c 3 va _ W hv (by rw [List.length_map]; omega) ?_
    refine Nat.le_trans (flat_len (K := 40) fun x hx => ?_) (by rw [List.length_map]; omega)
    obtain ⟨a, ha, rfl⟩ := List.mem_map.1 hx
    exact hS a ha))
  have KJ2 := Lib.hid (fun va (L : List Tree) W (hv : Lists W va (L.map Fm.enc)) (hL : L.length ≤ 100) (hS : ∀ a ∈ L, (Fm.enc a).length ≤ 1000) => (show Calls Tryz.prog 40 #[.int .i64 2, va] W (Gives W (Fm.enc (jnT .and (.imp .fls .fls) L))) from by
    rw [← allF_and]
    refine joinAll_c 2 va _ W hv (by rw [List.length_map]; omega) ?_
    refine Nat.le_trans (flat_len (K := 1000) fun x hx => ?_) (by rw [List.length_map]; omega)
    obtain ⟨a, ha, rfl⟩ := List.mem_map.1 hx
    exact hS a ha))
  have KL := Lib.hid (fun v T W B (h : Own W B v (Fm.enc T)) => limitedO_c v T W B h)
  have HLS := Lib.hid hls
  have hll := hl.l
  obtain ⟨Al, cl, rfl⟩ := hl.slice
  clear hl hls hr hO hs hm hm30
  generalize hRR : upT lt ((mbs m).map O) = RR at *
  generalize mbs m = M at *
  generalize hml : M.length = ml at *
  go_enter Tryz.func41, Tryz.ntmps41
  go_wp2_with fail
  refine KM.out.mono ?_
  rintro e w1 ⟨r, rfl, hr, hg1⟩
  obtain ⟨A1, c1, rfl⟩ := ints_sliceN hr.ints
  have HRC := Lib.hid (fun h0 => cellsN hr.ints h0)
  rw [hml] at HRC ⊢
  clear hr
  go_wp2_with fail
  go_loopw [7, 9, 18] (fun vb _ i wr => ∃ (j : Nat) (us : List Value), j ≤ ml ∧ i = .int .i64 (j : Int) ∧ Grew w1 wr ∧ Hid (RowT wr w1.heap.size vb us (lbK O M j)) ∧ Hid ((lbK O M j).length = j ∧ (j = 0 → vb = .slice none 0 0) ∧ ∀ i, i < j → ∃ t, O (nt M i) = some t)) (fun _ _ i _ => ml - (intOf i).toNat)
  case atStart => exact ⟨0, [], by omega, rfl, Grew.refl _, Lib.hid (by rw [HZ.out]; exact RowT.nil_ _ _), Lib.hid ⟨by rw [HZ.out]; rfl, fun _ => rfl, fun i hi => absurd hi (by omega)⟩⟩
  case round =>
    obtain ⟨j, us, hj, rfl, hB, hRow, hall⟩ := hrel
    by_cases hlt : j < ml
    · obtain ⟨br, orr, rfl, hrc⟩ := HRC.out (by omega)
      have k0 := hrc j (by omega) wr hB
      have hmj := HN.out j hlt
      have hB2 := hg1.trans hB
      have k1 := HC.out _ hmj wr hB2
      have hF := HF.out _ hmj wr hB2
      have hx0 : (0 : Int) ≤ ((nt M j : Nat) : Int) := by omega
      have hx1 : ((nt M j : Nat) : Int) < (nf : Int) := by omega
      have hSuc := Lib.hid (fun t h => HSuc.out j t (by omega) h)
      have hNo := Lib.hid (fun h => HNone.out j (by omega) h)
      cases ho : O (nt M j) with
      | none =>
        rw [ho] at hF
        have hF' : F (nt M j) = .slice none 0 0 := hF
        rw [hF'] at k1
        have hn := Lib.hid (hNo.out ho)
        clear hF hF' ho
        obtain ⟨x, hx⟩ : ∃ x, x = nt M j := ⟨_, rfl⟩
        rw [← hx] at k0 k1 hx0 hx1 hmj
        clear hNo hSuc hx hrc
        go_wp2_with fail
        go_ret
        refine ⟨_, rfl, ?_, hB2⟩
        rw [hn.out]
        rfl
      | some t =>
        rw [ho] at hF
        have hF' : Own wr 0 (F (nt M j)) (Fm.enc t) := hF
        obtain ⟨b0, c0, hfe⟩ := own_someW hF' (Fm.enc_pos t)
        rw [hfe] at k1 hF'
        generalize (Fm.enc t).length = lt1 at k1 hF'
        have hs := Lib.hid (hSuc.out t ho)
        have hall2 : Hid ((lbK O M (j + 1)).length = j + 1 ∧ ∀ i, i < j + 1 → ∃ t, O (nt M i) = some t) := Lib.hid ⟨by rw [hs.out, List.length_append, hall.out.1]; rfl, fun i hi => by
          by_cases hij : i = j
          · rw [hij]; exact ⟨t, ho⟩
          · exact hall.out.2.2 i (by omega)⟩
        have hul : us.length ≤ 1048576 := by rw [hRow.out.l, hall.out.1]; omega
        clear hF hfe ho hNo hSuc
        generalize hlb : lbK O M (j + 1) = LB at *
        have HLB := Lib.hid hlb
        obtain ⟨x, hx⟩ : ∃ x, x = nt M j := ⟨_, rfl⟩
        rw [← hx] at k0 k1 hx0 hx1 hmj
        clear hlb hx hrc
        go_wp2_with (first | (at_builtin; refine wpList_appV (w0 := w1) _ _ rfl rfl _ us rfl (hRow.out.grew ((Grew.refl wr).alloc _)).r (hB.alloc _) _ _ rfl (rd_lit _ _ _) rfl hul ?_; intro v2 w2 hown2 hg2 hgr2))
        go_roundw
        case rel => exact ⟨j + 1, _, by omega, by go_num, hg2, Lib.hid (by rw [HLB.out, hs.out]; exact (hRow.out.grew ((Grew.refl wr).alloc _)).snoc (hF'.grew ((Grew.refl wr).alloc _)) hgr2 hown2), Lib.hid ⟨by rw [HLB.out]; exact hall2.out.1, fun h => absurd h (by omega), hall2.out.2⟩⟩
        case measure => simp [intOf]; omega
    · obtain rfl : j = ml := by omega
      have hup := HAll.out (fun i hi => hall.out.2.2 i (by omega))
      obtain ⟨LS, hLS⟩ : ∃ LS, LS = srtT (lbK O M j) := ⟨_, rfl⟩
      have hg0 := hg1.trans hB
      have K := Lib.hid (KS.out u7 us _ wr (hRow.out.base hg1.size) (by rw [hall.out.1]; omega) (fun a ha => HSM.out j a ha) (fun h0 => hall.out.2.1 (by rw [← hall.out.1]; exact h0)) hg0)
      rw [← hLS] at K hup
      have hLl : LS.length ≤ 8 := by rw [hLS]; exact Nat.le_trans (srtT_len _) (by rw [hall.out.1]; omega)
      have HLSz := Lib.hid (fun a (ha : a ∈ LS) => (show (Fm.enc a).length ≤ 40 from HSM.out j a ((srtT_mem (HSM.out j)).1 (by rw [← hLS]; exact ha))))
      have HUP := Lib.hid hup
      obtain ⟨A7, c7, hu7⟩ := hRow.out.slice
      rw [hu7] at K ⊢
      clear hup hLS hRow hall KS KM HRC HN HC HF HNone HAll HSuc HZ HSM hu7
      go_wp2_with fail
      refine K.out.mono ?_
      rintro e w2 ⟨r2, rfl, hb2, hg2⟩
      obtain ⟨A2, c2, rfl⟩ := hb2.slice
      go_wp2_with fail
      refine (KC.out _ hg2).mono ?_
      rintro e w3 ⟨r3, rfl, ho3, hg3⟩
      have hRow3 : Hid (RowT w3 w2.heap.size r3 ul lt) := Lib.hid ⟨ho3, hll, fun i hi => ((HL.out w2 hg2).o i hi).grew hg3⟩
      have HB2 := Lib.hid hb2
      have HTD := Lib.hid (fun j (h : j < LS.length) => @jl_snoc lt LS j h)
      have HSJ := Lib.hid (fun j (h : j < LS.length) => HLSz.out (LS.getD j .fls) (by rw [show LS.getD j .fls = LS[j] by simp [List.getD, h]]; exact List.getElem_mem h))
      clear ho3 hb2 KC HL
      generalize hn2 : LS.length = n2 at *
      go_wp2_with fail
      go_loopw [10, 12, 41] (fun vb _ i wr => ∃ (j : Nat) (us : List Value), j ≤ n2 ∧ i = .int .i64 (j : Int) ∧ Grew w2 wr ∧ Hid (RowT wr w2.heap.size vb us (lt ++ (LS.take j).map .dia))) (fun _ _ i _ => n2 - (intOf i).toNat)
      case atStart => exact ⟨0, ul, by omega, rfl, hg3, Lib.hid (by simpa using hRow3.out)⟩
      case round =>
        clear hRow3 hg3
        obtain ⟨j, us, hj, rfl, hB, hRow⟩ := hrel
        by_cases hlt : j < n2
        · obtain ⟨gb, cb, ub, he, hub, hob⟩ := HB2.out.at_ (j := j) (by omega)
          injection he with e1 e2 e3
          subst e1 e3
          clear e2
          have k0 := hub wr hB
          have hob2 := hob.grew hB
          have hsz := HSJ.out j hlt
          have hTD := Lib.hid (HTD.out j hlt)
          have hul : us.length ≤ 1048576 := by rw [hRow.out.l, List.length_append, List.length_map, List.length_take]; omega
          generalize hlj : lt ++ (LS.take j).map .dia = LJ at *
          generalize hlj1 : lt ++ (LS.take (j + 1)).map .dia = LJ1 at *
          have HLJ := Lib.hid hlj1
          clear hlj hlj1 hub hob
          generalize LS.getD j .fls = t at *
          obtain ⟨Ab, cb2, rfl⟩ := nodes_slice hob2.nodes
          have hKP := Lib.hid (KP6.out _ t wr hob2.nodes hsz)
          generalize (Fm.enc t).length = lt1 at *
          go_wp2_with fail
          refine hKP.out.mono ?_
          rintro e w5 ⟨u5, rfl, ho5, hg5⟩
          obtain ⟨A5, c5, rfl⟩ := nodes_slice ho5.nodes
          generalize (Fm.enc (Tree.dia t)).length = lt2 at *
          have hga := hg5.trans ((Grew.refl w5).alloc (.cells #[.slice A5 lt2 c5] 31))
          go_wp2_with (first | (at_builtin; refine wpList_appV (w0 := w2) _ _ rfl rfl _ us rfl (hRow.out.grew hga).r (hB.trans hga) _ _ rfl (rd_lit _ _ _) rfl hul ?_; intro v6 w6 hown6 hg6 hgr6))
          go_roundw
          case rel => exact ⟨j + 1, _, by omega, by go_num, hg6, Lib.hid (by rw [HLJ.out, hTD.out]; exact (hRow.out.grew hga).snoc ((ho5.base (Nat.zero_le _)).grew ((Grew.refl w5).alloc _)) hgr6 hown6)⟩
          case measure => simp [intOf]; omega
        · obtain rfl : j = n2 := by omega
          have hRow2 : Hid (RowT wr w2.heap.size u10 us (lt ++ LS.map .dia)) := Lib.hid (by have := hRow.out; rwa [List.take_of_length_le (by omega)] at this)
          have hK3 := Lib.hid (KJ3.out _ LS wr (HB2.out.grew hB).lists (by omega) HLSz.out)
          have hjl := jn_lenU (N := 40) HLSz.out
          have HDS : Hid (∀ a ∈ LS.map Tree.dia, (Fm.enc a).length ≤ 1000) := Lib.hid (fun a ha => by
            obtain ⟨b, hb, rfl⟩ := List.mem_map.1 ha
            have := HLSz.out b hb
            rw [enc_dia]
            simp [Fm.pre]
            omega)
          have hul : us.length ≤ 1048576 := by rw [hRow2.out.l, List.length_append, List.length_map]; omega
          have hdl : (LS.map Tree.dia).length = j := by rw [List.length_map]; exact hn2
          rw [hn2] at hjl
          clear hRow HSJ HTD KP6
          generalize hdd : LS.map Tree.dia = DS at *
          generalize hjj : jnT .or .fls LS = J at *
          have hK5 := Lib.hid (fun va W hv => KP5.out va J W hv (by omega))
          have HJ2 : Hid (∀ a ∈ lt ++ DS ++ [Tree.box J], (Fm.enc a).length ≤ 1000) := Lib.hid (fun a ha => by
            simp only [List.mem_append, List.mem_singleton] at ha
            rcases ha with (ha | ha) | rfl
            · exact Nat.le_trans (HLS.out a ha) (by omega)
            · exact HDS.out a ha
            · rw [enc_box]; simp [Fm.pre]; omega)
          have hLN : (lt ++ DS ++ [Tree.box J]).length ≤ 100 := by simp only [List.length_append, List.length_cons, List.length_nil]; omega
          obtain ⟨A10, c10, rfl⟩ := hRow2.out.slice
          generalize hl10 : (lt ++ DS).length = l10 at *
          go_wp2_with fail
          refine hK3.out.mono ?_
          rintro e w5 ⟨u5, rfl, ho5, hg5⟩
          obtain ⟨A5, c5, rfl⟩ := nodes_slice ho5.nodes
          go_wp2_with fail
          refine (hK5.out _ _ ho5.nodes).mono ?_
          rintro e w6 ⟨u6, rfl, ho6, hg6⟩
          obtain ⟨A6, c6, rfl⟩ := nodes_slice ho6.nodes
          generalize (Fm.enc (Tree.box J)).length = lt2 at *
          have hga := (hg5.trans hg6).trans ((Grew.refl w6).alloc (.cells #[.slice A6 lt2 c6] 31))
          go_wp2_with (first | (at_builtin; refine wpList_appV (w0 := w2) _ _ rfl rfl _ us rfl (hRow2.out.grew hga).r (hB.trans hga) _ _ rfl (rd_lit _ _ _) rfl hul ?_; intro v8 w8 hown8 hg8 hgr8))
          have hR8 := Lib.hid ((hRow2.out.grew hga).snoc ((ho6.base (Nat.zero_le _)).grew ((Grew.refl w6).alloc _)) hgr8 hown8)
          obtain ⟨A8, c8, hv8⟩ := hR8.out.slice
          rw [hv8] at hR8
          have hK2 := Lib.hid (KJ2.out _ _ w8 hR8.out.lists hLN HJ2.out)
          have hg28 := hg2.trans hg8
          have hs28 := hg28.size
          rw [hv8]
          generalize (lt ++ DS ++ [Tree.box J]).length = l8 at *
          generalize hT : jnT Tree.and (.imp .fls .fls) (lt ++ DS ++ [Tree.box J]) = T at *
          clear hR8 hv8 hgr8 hown8 hga hg5 hg6 ho5 ho6 hRow2 hK3 hK5 HJ2 HDS HLS KJ2 KJ3 KP5
          go_wp2_with fail
          refine hK2.out.mono ?_
          rintro e w9 ⟨u9, rfl, ho9, hg9⟩
          have hKL := Lib.hid (KL.out u9 T w9 w.heap.size (ho9.base hs28))
          obtain ⟨A9, c9, rfl⟩ := nodes_slice ho9.nodes
          clear ho9
          generalize (Fm.enc T).length = lT at *
          go_wp2_with fail
          refine hKL.out.mono ?_
          rintro e w11 ⟨u11, k11, rfl, ho11, hg11⟩
          obtain ⟨A11, n11, c11, rfl⟩ := ho11.slice
          have HE := Lib.hid (show OptF w11 w.heap.size (.slice A11 n11 c11) RR from by rw [HUP.out]; exact ho11)
          clear ho11
          go_wp2_with fail
          go_ret
          exact ⟨_, rfl, HE.out, (hg28.trans hg9).trans hg11⟩
end Go.Proofs.YtjlnompmhgjaaaaGreat


/- bounded of the program: what its two conditions give. -/
namespace Go.Proofs.YtjlnompmhgjaaaaGreat
open Go.RowKit
open Fm (Nd Tree)

def MBox (w : World) (b : Nat) (n : Int) (v u : Value) : Prop := ∀ W, Grew w W → W.cell? ⟨b, 0, none⟩ = some (.int .i64 n) ∧ W.cell? ⟨b, 1, none⟩ = some v ∧ W.cell? ⟨b, 2, none⟩ = some u
theorem MBox.grew {w w' : World} {b : Nat} {n : Int} {v u : Value} (h : MBox w b n v u) (hg : Grew w w') : MBox w' b n v u := fun W hW => h W (hg.trans hW)
set_option maxHeartbeats 2000000 in
set_option maxRecDepth 8192 in
theorem bnd1_c (n : Nat) (v u : Value) (V : List Nat) (b1 b2 x y : Nat) (w : World) (hv : ∃ A m c, v = .slice A m c) (hu : Ints w u (zs V)) (hl : V.length = 6) (hV : Sm V) (hx : x ≤ 30) (hy : y ≤ 30) (m1 : MBox w b1 n v u) (m2 : MBox w b2 n v u) :
    Calls Tryz.prog 55 #[.int .i64 (x : Int), .int .i64 (y : Int), .pointer (some ⟨b1, 0, none⟩), .pointer (some ⟨b2, 0, none⟩)] w fun e w' => e = .returned (.bool (atB V x y)) ∧ Grew w w' := by
  have K1 := Lib.hid (fun W (hW : Grew w W) (z : Nat) (hz : z ≤ 30) => truths_c n v u V z W hv (hu.grew hW) hl hV hz)
  have hR := trM_eq V x y
  obtain ⟨Av, mv, cv, rfl⟩ := hv
  obtain ⟨Au, cu, rfl⟩ := ints_sliceN hu
  have y0 := fun W hW => (m1 W hW).1
  have y1 := fun W hW => (m1 W hW).2.1
  have y2 := fun W hW => (m1 W hW).2.2
  have z0 := fun W hW => (m2 W hW).1
  have z1 := fun W hW => (m2 W hW).2.1
  have z2 := fun W hW => (m2 W hW).2.2
  rw [← hR]
  clear hu hl hV m1 m2 hR
  generalize V.length = l at *
  generalize trM V = T at *
  have r2 := Grew.refl w
  have r3 := r2.drew
  go_enter Tryz.func55, Tryz.ntmps55
  go_upto_region 1 with fail
  go_region_held3 (fun w' => Grew w w') (first | assumption | exact Grew.trans ‹_› ‹_›) (first
    | (go_at_call 56; refine (K1.out _ (by assumption) _ (by assumption)).mono ?_; rintro e w9 ⟨rfl, hg9⟩; have h9 : Grew w w9 := Grew.trans (by assumption) hg9))
  go_wp2_with fail
  go_ret
  exact ⟨rfl, by assumption⟩
set_option maxHeartbeats 2000000 in
set_option maxRecDepth 8192 in
theorem bnd2_c (v u vl v0 : Value) (A V L L0 : List Nat) (b1 b2 x y : Nat) (w : World) (h : Ints w v (zs A)) (hv : ∃ A m c, u = .slice A m c) (hL : Ints w vl (zs L)) (hL0 : Ints w v0 (zs L0)) (hA : Rl A) (h8 : A.length ≤ 8)
    (hLl : L.length = A.length) (hLs : Sm L) (hL0l : L0.length = A.length) (hL0s : Sm L0) (hx : x < A.length) (hy : y < A.length) (m1 : MBox w b1 A.length v u) (m2 : MBox w b2 A.length v u)
    (bo bl gr : Nat) (c d : Nat) (ho : ∀ W, Grew w W → W.cell? ⟨bo, 0, none⟩ = some (.slice (some ⟨gr, 0, none⟩) c d)) (hc : 0 < c) (hgr : ∀ W, Grew w W → W.cell? ⟨gr, 0, none⟩ = some v0) (hla : ∀ W, Grew w W → W.cell? ⟨bl, 0, none⟩ = some vl) :
    Calls Tryz.prog 57 #[.int .i64 (x : Int), .int .i64 (y : Int), .pointer (some ⟨bo, 0, none⟩), .pointer (some ⟨b1, 0, none⟩), .pointer (some ⟨b2, 0, none⟩), .pointer (some ⟨bl, 0, none⟩)] w fun e w' => e = .returned (.bool ((nt L0 x).testBit y && (fthB A L x y && bakB A L x y))) ∧ Grew w w' := by
  have KH := Lib.hid (fun W => has_c (nt L0 x) y (by have := hL0s.at_ (i := x) (by rw [hL0l]; exact hx); omega) (by omega) W)
  have KF := Lib.hid (fun W (hW : Grew w W) => forth_c v u vl A L x y W (h.grew hW) hv (hL.grew hW) hA h8 hLl hLs hx hy)
  have KB := Lib.hid (fun W (hW : Grew w W) => back_c v u vl A L x y W (h.grew hW) hv (hL.grew hW) hA h8 hLl hLs hx hy)
  obtain ⟨Au, mu, cu, rfl⟩ := hv
  obtain ⟨A1, c1, rfl⟩ := ints_sliceN h
  obtain ⟨A2, c2, rfl⟩ := ints_sliceN hL
  obtain ⟨A0, c0, rfl⟩ := ints_sliceN hL0
  obtain ⟨g0, o0, rfl, hcell⟩ := cellsN hL0 (by omega)
  have q0 := fun W (hW : Grew w W) => hcell x (by omega) W hW
  have y0 := fun W hW => (m1 W hW).1
  have y1 := fun W hW => (m1 W hW).2.1
  have y2 := fun W hW => (m1 W hW).2.2
  have z0 := fun W hW => (m2 W hW).1
  have z1 := fun W hW => (m2 W hW).2.1
  have z2 := fun W hW => (m2 W hW).2.2
  rw [hL0l] at hgr
  clear h hL hL0 hcell hLs hL0s hA hLl hL0l m1 m2
  generalize fthB A L x y = F at *
  generalize bakB A L x y = B at *
  generalize A.length = n at *
  generalize L.length = l at *
  generalize nt L0 x = mk at *
  generalize mk.testBit y = T at *
  have r2 := Grew.refl w
  have hx0 : (0 : Int) ≤ (x : Int) := by omega
  have hx1 : (x : Int) < (n : Int) := by omega
  have hc1 : (0 : Int) < (c : Int) := by omega
  go_enter Tryz.func57, Tryz.ntmps57
  go_wp2_with fail
  refine (KH.out _).mono ?_
  rintro e w3 ⟨rfl, hg3⟩
  cases T with
  | false =>
    go_wp2_with fail
    go_ret
    exact ⟨rfl, hg3⟩
  | true =>
    have y03 := y0 w3 hg3
    have z03 := z0 w3 hg3
    have l3 := hla w3 hg3
    go_wp2_with fail
    refine (KF.out _ hg3).mono ?_
    rintro e w4 ⟨rfl, hg4⟩
    have hg4 := hg3.trans hg4
    cases F with
    | false =>
      go_wp2_with fail
      go_ret
      exact ⟨rfl, hg4⟩
    | true =>
      go_wp2_with fail
      refine (KB.out _ hg4).mono ?_
      rintro e w5 ⟨rfl, hg5⟩
      go_wp2_with fail
      go_ret
      exact ⟨rfl, hg4.trans hg5⟩
end Go.Proofs.YtjlnompmhgjaaaaGreat


/- The source of the drawn inputs: l01Next. -/
namespace Go.Proofs.YtjlnompmhgjaaaaGreat
open Go.RowKit

def Code (w : World) (g : Nat) (v : Value) (N : Nat) : Prop :=
  N ≤ 4096 ∧ (∃ A c, v = .slice A N c) ∧ (0 < N → ∃ b o c, v = .slice (some ⟨b, o, none⟩) N c ∧ b < g ∧ N ≤ c ∧ c ≤ 9223372036854775807 ∧ ∀ j, j < N → ∃ x : Int, 0 ≤ x ∧ x ≤ 255 ∧ w.cell? ⟨b, o + j, none⟩ = some (.int .u8 x))
theorem Code.only {w w' : World} {g : Nat} {v : Value} {N : Nat} (h : Code w g v N) (hg : g < w.heap.size) (ho : Only g w w') : Code w' g v N := by
  obtain ⟨h1, h2, h3⟩ := h
  refine ⟨h1, h2, fun hp => ?_⟩
  obtain ⟨b, o, c, e, hb, hc, hm, hx⟩ := h3 hp
  refine ⟨b, o, c, e, hb, hc, hm, fun j hj => ?_⟩
  obtain ⟨x, x0, x1, hcell⟩ := hx j hj
  exact ⟨x, x0, x1, (ho.cell (p := ⟨b, o + j, none⟩) (by show b < _; omega) (by show b ≠ g; omega)).trans hcell⟩

def Src (w : World) (g : Nat) (v : Value) (N : Nat) : Prop :=
  Code w g v N ∧ ∃ (i : Nat) (h : Int), i ≤ N ∧ 0 ≤ h ∧ h ≤ 18446744073709551615 ∧ w.heap[g]? = some (.cells #[v, .int .i64 i, .int .u64 h] 61 (0, 0))
theorem Src.lt {w : World} {g : Nat} {v : Value} {N : Nat} (h : Src w g v N) : g < w.heap.size := by
  obtain ⟨_, _, _, _, _, _, h⟩ := h
  exact blk_lt h
theorem Src.grew {w w' : World} {g : Nat} {v : Value} {N : Nat} (h : Src w g v N) (hg : Grew w w') : Src w' g v N := by
  have hl := h.lt
  obtain ⟨h1, i, x, h2, h3, h4, h5⟩ := h
  exact ⟨h1.only hl hg.only, i, x, h2, h3, h4, (hg.block hl).trans h5⟩

theorem small_hash (X : Int) (h0 : 0 ≤ X) (h1 : X ≤ 18446744073709551615) : 0 ≤ wrap64 (bits .and .u64 (X / 8589934592) 16777215) ∧ wrap64 (bits .and .u64 (X / 8589934592) 16777215) ≤ 16777215 := by
  have h := bits_mask .u64 63 (by decide) Go.ConcN.wraps_u64_63 24 (by decide) (X / 8589934592) (by omega) (by omega)
  have e : ((2 : Int) ^ 24 - 1) = 16777215 := by decide
  have e2 : ((2 : Int) ^ 24) = 16777216 := by decide
  rw [e, e2] at h
  rw [h]
  unfold wrap64
  omega

theorem l01Next_c (g : Nat) (v : Value) (N : Nat) (n : Int) (w : World) (h : Src w g v N) (hn : n ≤ 9223372036854775807) :
    Calls Tryz.prog 30 #[.pointer (some ⟨g, 0, none⟩), .int .i64 n] w fun e w' => ∃ r : Int, e = .returned (.int .i64 r) ∧ 0 ≤ r ∧ (1 ≤ n → r < n) ∧ (n < 1 → r = 0) ∧ Src w' g v N ∧ Only g w w' := by
  by_cases h1 : n < 1
  · have HS := Lib.hid h
    clear h
    go_enter Tryz.func30, Tryz.ntmps30
    go_wp2_with fail
    go_ret
    exact ⟨_, rfl, by omega, fun h => absurd h (by omega), fun _ => rfl, HS.out, Only.refl _ _⟩
  obtain ⟨hC, i, hh, hi, hh0, hh1, hb⟩ := h
  have c0 : w.cell? ⟨g, 0, none⟩ = some v := by rw [blk_cell hb]; rfl
  have c1 : w.cell? ⟨g, 1, none⟩ = some (.int .i64 i) := by rw [blk_cell hb]; rfl
  have c2 : w.cell? ⟨g, 2, none⟩ = some (.int .u64 hh) := by rw [blk_cell hb]; rfl
  have f1 := blk_frozen hb 1
  have f2 := blk_frozen hb 2
  obtain ⟨A, c, rfl⟩ := hC.2.1
  have hN := hC.1
  have HB := Lib.hid hb
  have HC := Lib.hid hC
  clear hb hC
  go_enter Tryz.func30, Tryz.ntmps30
  go_wp2_with fail
  have hX0 : 0 ≤ IntKind.u64.wrap (IntKind.u64.wrap (hh * 6364136223846793005) + 1442695040888963407) := by rw [IntKind.wrap_u64]; omega
  have hX1 : IntKind.u64.wrap (IntKind.u64.wrap (hh * 6364136223846793005) + 1442695040888963407) ≤ 18446744073709551615 := by rw [IntKind.wrap_u64]; omega
  generalize IntKind.u64.wrap (IntKind.u64.wrap (hh * 6364136223846793005) + 1442695040888963407) = X at *
  obtain ⟨hY0, hY1⟩ := small_hash X hX0 hX1
  generalize wrap64 (bits .and .u64 (X / 8589934592) 16777215) = Y at *
  have hb1 := blk_set HB.out 2 (.int .u64 X)
  have ho1 := (Only.refl g w).setCell (o := 2) (.int .u64 X)
  have hC1 := HC.out.only (blk_lt HB.out) ho1
  clear c0 c1 c2 f1 f2 HB HC
  generalize w.setCell ⟨g, 2, none⟩ (.int .u64 X) = w1 at *
  have c0 : w1.cell? ⟨g, 0, none⟩ = some (.slice A N c) := by rw [blk_cell hb1]; rfl
  have c1 : w1.cell? ⟨g, 1, none⟩ = some (.int .i64 i) := by rw [blk_cell hb1]; rfl
  have f1 := blk_frozen hb1 1
  have HB := Lib.hid hb1
  clear hb1
  by_cases hlt : i < N
  · obtain ⟨b, o, c', e, hbg, hc, hm, hx⟩ := hC1.2.2 (by omega)
    obtain ⟨x, hx0, hx1, k1⟩ := hx i hlt
    obtain ⟨rfl, rfl⟩ : A = some ⟨b, o, none⟩ ∧ c = c' := by simpa using e
    have HC := Lib.hid hC1
    clear hC1 e hx
    go_quiet (fail)
    go_wp2_with fail
    go_quiet (fail)
    go_wp2_with fail
    go_ret
    exact ⟨_, rfl, Int.emod_nonneg _ (by omega), fun _ => Int.emod_lt_of_pos _ (by omega), fun h => absurd h (by omega), ⟨HC.out.only (blk_lt HB.out) (Only.setCell ((Only.refl g w1).drewN _) _), i + 1, X, by omega, hX0, hX1, blk_set (w := w1.drewN _) HB.out 1 _⟩, ho1.trans (Only.setCell ((Only.refl g w1).drewN _) _)⟩
  · have HC := Lib.hid hC1
    clear hC1
    go_quiet (fail)
    go_wp2_with fail
    go_ret
    exact ⟨_, rfl, Int.emod_nonneg _ (by omega), fun _ => Int.emod_lt_of_pos _ (by omega), fun h => absurd h (by omega), ⟨HC.out.only (blk_lt HB.out) ((Only.refl g w1).drewN _), i, X, by omega, hX0, hX1, HB.out⟩, ho1.drewN _⟩
end Go.Proofs.YtjlnompmhgjaaaaGreat


/- The drawn formula: l02Draw gives a tree of at most as many nodes as told. -/
namespace Go.Proofs.YtjlnompmhgjaaaaGreat
open Go.RowKit
open Fm (Nd)

end Go.Proofs.YtjlnompmhgjaaaaGreat


/- Drawn lists of nodes: l01Pick, l02Bend, l02Any give an own row of nodes that isn't long; what it holds does not matter. -/
namespace Go.Proofs.YtjlnompmhgjaaaaGreat
open Go.RowKit
open Fm (Nd)

theorem Src.other {w w' : World} {g gb : Nat} {v : Value} {N : Nat} (h : Src w g v N) (ho : Only gb w w') (hgb : g < gb) : Src w' g v N := by
  have hl := h.lt
  obtain ⟨⟨h1, h2, h3⟩, i, x, h4, h5, h6, h7⟩ := h
  refine ⟨⟨h1, h2, fun hp => ?_⟩, i, x, h4, h5, h6, (ho.block hl (by omega)).trans h7⟩
  obtain ⟨b, o, c, e, hb, hc, hm, hx⟩ := h3 hp
  refine ⟨b, o, c, e, hb, hc, hm, fun j hj => ?_⟩
  obtain ⟨y, y0, y1, hcell⟩ := hx j hj
  exact ⟨y, y0, y1, (ho.cell (p := ⟨b, o + j, none⟩) (by show b < _; omega) (by show b ≠ gb; omega)).trans hcell⟩
theorem Only.newer {g gb : Nat} {a b c : World} (h : Only g a b) (k : Only gb b c) (hgb : a.heap.size ≤ gb) : Only g a c :=
  ⟨k.os.trans h.os, k.tape.trans h.tape, k.output.trans h.output, Nat.le_trans h.size k.size, fun i hi hne => (k.block (Nat.lt_of_lt_of_le hi h.size) (by omega)).trans (World.grownBy.block h i hi hne)⟩

theorem Src.other2 {w w' : World} {g : Nat} {v : Value} {N : Nat} {r : Option Nat} (h : Src w g v N) (ho : w.grownBy w' r) (hr : ∀ b, r = some b → g < b) : Src w' g v N := by
  cases r with
  | none => exact h.other (gb := w.heap.size) ⟨ho.os, ho.tape, ho.output, ho.size, fun i hi _ => ho.block i hi (by simp)⟩ h.lt
  | some b => exact h.other (gb := b) ho (hr b rfl)
theorem Only.newer2 {g : Nat} {a b c : World} {r : Option Nat} (h : Only g a b) (ho : b.grownBy c r) (hr : ∀ k, r = some k → a.heap.size ≤ k) : Only g a c := by
  cases r with
  | none => exact h.newer (gb := b.heap.size) ⟨ho.os, ho.tape, ho.output, ho.size, fun i hi _ => ho.block i hi (by simp)⟩ h.size
  | some k => exact h.newer (gb := k) ho (hr k rfl)

end Go.Proofs.YtjlnompmhgjaaaaGreat


/- Rows of formulas that are written cell by cell; rows of rows of formulas. -/
namespace Go.Proofs.YtjlnompmhgjaaaaGreat
open Go.RowKit
open Fm (Nd Tree)

theorem tyW1 : (53 : TypeId) ≠ 31 := by decide
theorem tyW2 : (31 : TypeId) ≠ 48 := by decide
theorem tyW3 : (53 : TypeId) ≠ 48 := by decide
theorem tyW4 : (48 : TypeId) ≠ 31 := by decide
theorem infoSlSl : (Tryz.prog.info? 48).map (fun i => (i.zero, i.size, i.bytes)) = some (some (.slice none 0 0), 1, 24) := by kernel_rfl
theorem infoSlW : (Tryz.prog.info? 31).map (fun i => (i.zero, i.size, i.bytes)) = some (some (.slice none 0 0), 1, 24) := by kernel_rfl
theorem OptF.only {w w' : World} {B g : Nat} {u : Value} {o : Option Tree} {cs : Array Value} (h : OptF w B u o) (ho : Only g w w') (hb : w.heap[g]? = some (.cells cs 31 (0, 0))) : OptF w' B u o := by
  cases o with
  | none => exact h
  | some T => exact own_only (show Own w B u (Fm.enc T) from h) ho (own_ne (show Own w B u (Fm.enc T) from h) hb tyW1)
structure WR (w : World) (g n : Nat) (F : Nat → Value) (O : Nat → Option Tree) : Prop where
  r : VRow w g n n F
  o : ∀ i, i < n → OptF w 0 (F i) (O i)
theorem WR.grew {w w' : World} {g n : Nat} {F : Nat → Value} {O : Nat → Option Tree} (h : WR w g n F O) (hg : Grew w w') : WR w' g n F O := ⟨h.r.grew hg, fun i hi => (h.o i hi).grew hg⟩
theorem WR.congr {w : World} {g n : Nat} {F : Nat → Value} {O O' : Nat → Option Tree} (h : WR w g n F O) (hf : ∀ i, i < n → O i = O' i) : WR w g n F O' := ⟨h.r, fun i hi => by rw [← hf i hi]; exact h.o i hi⟩
theorem WR.set {w : World} {g n j : Nat} {F : Nat → Value} {O : Nat → Option Tree} {u : Value} {o : Option Tree} (h : WR w g n F O) (hj : j < n) (hu : OptF w 0 u o) :
    WR (w.setCell ⟨g, j, none⟩ u) g n (fun i => if i = j then u else F i) (fun i => if i = j then o else O i) := by
  obtain ⟨cur, hb, _⟩ := h.r
  refine ⟨h.r.set hj u, fun i hi => ?_⟩
  have ho : Only g w (w.setCell ⟨g, j, none⟩ u) := (Only.refl g w).setCell u
  by_cases hij : i = j
  · simp only [hij, if_true]
    exact hu.only ho hb
  · simp only [if_neg hij]
    exact (h.o i hi).only ho hb
theorem WR.fresh {w w2 : World} {g n : Nat} (hw : w2 = w.alloc (.cells (madeCells #[Value.slice none 0 0] n) 31)) (hg : g = w.heap.size) (hn : n ≤ 8) : WR w2 g n (fun _ => .slice none 0 0) (fun _ => none) := by
  subst hg hw
  refine ⟨⟨_, blk_new w _, size_madeCells _ _, Nat.le_refl _, by omega, fun i hi => ?_⟩, fun i hi => rfl⟩
  have e := toList_madeCells_one (.slice none 0 0) n
  rw [← Array.getElem?_toList, e]
  simp [hi]
theorem RowT.only {w w' : World} {B g : Nat} {v : Value} {us : List Value} {L : List Tree} {cs : Array Value} (h : RowT w B v us L) (ho : Only g w w') (hg : g < B) (hb : w.heap[g]? = some (.cells cs 31 (0, 0))) : RowT w' B v us L :=
  ⟨own_only h.r ho (fun hh => by have := (h.r.lt _ hh).1; omega), h.l, fun i hi => own_only (h.o i hi) ho (own_ne (h.o i hi) hb tyW1)⟩
theorem grew_none {w w' : World} (hg : w.grownBy w' none) : Grew w w' := ⟨hg.os, hg.tape, hg.output, hg.size, fun i hi => hg.block i hi (by simp)⟩
theorem RowT.appL {w w' : World} {B B' n : Nat} {v vl : Value} {us vs : List Value} {L : List Tree} (h : RowT w B v us L) (hv : w.ownsRow B' 48 1 vl n vs) (hg : w.grownBy w' vl.ownBlock) : RowT w' B v us L := by
  rcases hv.2 with ⟨rfl, _⟩ | ⟨g, cap, cur, rfl, _, hh, _⟩
  · exact h.grew (grew_none hg)
  · exact ⟨own_only h.r (show Only g w w' from hg) (own_ne h.r hh tyW2), h.l, fun i hi => own_only (h.o i hi) (show Only g w w' from hg) (own_ne (h.o i hi) hh tyW3)⟩
theorem WR.appL {w w' : World} {g n B' m : Nat} {F : Nat → Value} {O : Nat → Option Tree} {vl : Value} {vs : List Value} (h : WR w g n F O) (hv : w.ownsRow B' 48 1 vl m vs) (hg : w.grownBy w' vl.ownBlock) : WR w' g n F O := by
  rcases hv.2 with ⟨rfl, _⟩ | ⟨b, cap, cur, rfl, _, hh, _⟩
  · exact h.grew (grew_none hg)
  · have ho : Only b w w' := hg
    refine ⟨?_, fun i hi => ?_⟩
    · have hl := h.r.lt
      obtain ⟨c2, h1, h2⟩ := h.r
      refine ⟨c2, (ho.block hl (fun he => ?_)).trans h1, h2⟩
      subst he
      rw [hh] at h1
      simp only [Option.some.injEq, Obj.cells.injEq] at h1
      exact tyW4 h1.2.1
    · have := h.o i hi
      cases ht : O i with
      | none => rw [ht] at this; exact this
      | some T =>
        rw [ht] at this
        have hq : Own w 0 (F i) (Fm.enc T) := this
        exact own_only hq ho (own_ne hq hh tyW3)
structure RowL (w : World) (B : Nat) (v : Value) (vs : List Value) (V : List Nat) (nv x : Nat) : Prop where
  r : w.ownsRow B 48 1 v vs.length vs
  l : vs.length = x
  o : ∀ i, i < x → ∃ ul, RowT w B (vs.getD i (.bool false)) ul (lits V nv i)
theorem RowL.grew {w w' : World} {B nv x : Nat} {v : Value} {vs : List Value} {V : List Nat} (h : RowL w B v vs V nv x) (hg : Grew w w') : RowL w' B v vs V nv x :=
  ⟨own_grew h.r hg, h.l, fun i hi => by obtain ⟨ul, hl⟩ := h.o i hi; exact ⟨ul, hl.grew hg⟩⟩
theorem RowL.only {w w' : World} {B g nv x : Nat} {v : Value} {vs : List Value} {V : List Nat} {cs : Array Value} (h : RowL w B v vs V nv x) (ho : Only g w w') (hg : g < B) (hb : w.heap[g]? = some (.cells cs 31 (0, 0))) : RowL w' B v vs V nv x :=
  ⟨own_only h.r ho (fun hh => by have := (h.r.lt _ hh).1; omega), h.l, fun i hi => by obtain ⟨ul, hl⟩ := h.o i hi; exact ⟨ul, hl.only ho hg hb⟩⟩
theorem RowL.nil_ (w : World) (B nv : Nat) (V : List Nat) : RowL w B (.slice none 0 0) [] V nv 0 := ⟨World.ownsRow_nil w B _ 1, rfl, fun i hi => absurd hi (by omega)⟩
theorem RowL.snoc {w w' : World} {B nv x : Nat} {v v' u : Value} {vs ul : List Value} {V : List Nat} (h : RowL w B v vs V nv x) (hu : RowT w B u ul (lits V nv x)) (hg : w.grownBy w' v.ownBlock) (hv : w'.ownsRow B 48 1 v' (vs ++ [u]).length (vs ++ [u])) : RowL w' B v' (vs ++ [u]) V nv (x + 1) := by
  refine ⟨hv, by rw [List.length_append, h.l]; rfl, fun i hi => ?_⟩
  rw [List.getD_eq_getElem?_getD]
  rcases Nat.lt_or_ge i x with hk | hk
  · rw [List.getElem?_append_left (by rw [h.l]; exact hk), ← List.getD_eq_getElem?_getD]
    obtain ⟨ul2, hl⟩ := h.o i hk
    exact ⟨ul2, hl.appL h.r hg⟩
  · obtain rfl : i = x := by omega
    rw [List.getElem?_append_right (by rw [h.l]; exact Nat.le_refl _), h.l, Nat.sub_self]
    exact ⟨ul, hu.appL h.r hg⟩
theorem RowL.at_ {w : World} {B nv x : Nat} {v : Value} {vs : List Value} {V : List Nat} (h : RowL w B v vs V nv x) {i : Nat} (hi : i < x) :
    ∃ g c u, v = .slice (some ⟨g, 0, none⟩) x c ∧ (∀ W, Grew w W → W.cell? ⟨g, i, none⟩ = some u) ∧ ∃ ul, RowT w B u ul (lits V nv i) := by
  have hl := h.l
  obtain ⟨ul, hR⟩ := h.o i hi
  rcases h.r.2 with ⟨rfl, h0⟩ | ⟨g, cap, cur, rfl, hB, hh, hnc, hcm, hcs, htk⟩
  · omega
  · have hiu : i < vs.length := by omega
    refine ⟨g, cap, vs.getD i (.bool false), by rw [hl], fun W hW => ?_, ul, hR⟩
    rw [(hW.cell (p := ⟨g, i, none⟩) (blk_lt hh)), blk_cell hh]
    have e : vs[i]? = some (vs.getD i (.bool false)) := by rw [List.getElem?_eq_getElem hiu]; simp [List.getD, hiu]
    rw [← e, ← htk, List.getElem?_take, if_pos (by omega)]
    simp
theorem RowL.slice {w : World} {B nv x : Nat} {v : Value} {vs : List Value} {V : List Nat} (h : RowL w B v vs V nv x) : ∃ A c, v = .slice A x c := by
  rcases h.r.2 with ⟨rfl, h0⟩ | ⟨g, cap, cur, rfl, hB, hh, hnc, hcm, hcs, htk⟩
  · exact ⟨none, 0, by rw [← h.l, h0]⟩
  · exact ⟨_, _, by rw [h.l]⟩
theorem wpList_appVV {ops : Array Oper} {rest : List Oper} {o : Oper} {a : Act} {Q : Exit → Act → World → Prop} {w : World} (B : Nat) (s x : Operand) (hgd : o.guard = none)
    (ho : o.op = .call { callee := .builtin .append, args := #[s, x], argTypes := #[66, 66] })
    (v : Value) (us : List Value) (hs : a.eval s = v) (hown : w.ownsRow B 48 1 v us.length us) (hB : B ≤ w.heap.size) (vx u : Value) (hx : a.eval x = vx) (hr : Rd w 1 vx 1 [u]) (h1 : u.oneCell' = true) (hn : us.length ≤ 1048576)
    (h : ∀ v' w', w'.ownsRow B 48 1 v' (us ++ [u]).length (us ++ [u]) → w.grownBy w' v.ownBlock → wpList Tryz.prog ops Q rest (a.put o.dst v') w') : wpList Tryz.prog ops Q (o :: rest) a w := by
  obtain ⟨i0, hi0, hz0, hz1, hz2⟩ := info_parts infoSlSl
  refine wpList_append_rd w hgd s x _ ho B 48 i0 _ 1 24 Tryz.underlying66 hi0 hz0 hz1 hz2 rfl (by omega) v us.length us hs hown vx 1 [u] hx hr (by simpa using h1) (by unfold maxLen; omega) (by omega) hB ?_
  intro v' w' h2 h3 _
  refine h v' w' ?_ h3
  rw [List.length_append]
  exact h2
theorem one_W (b : Bool) (w : World) : Calls Tryz.prog 38 #[.bool b] w fun e w' => e = .returned (.int .i64 (if b then 1 else 0)) ∧ w' = w := by
  cases b with
  | true =>
    go_enter Tryz.func38, Tryz.ntmps38
    go_wp2_with fail
    go_ret
    exact ⟨rfl, rfl⟩
  | false =>
    go_enter Tryz.func38, Tryz.ntmps38
    go_wp2_with fail
    go_ret
    exact ⟨rfl, rfl⟩
theorem lits_succ (V : List Nat) (n w : Nat) : lits V (n + 1) w = lits V n w ++ [lit V w n] := by unfold lits; rw [List.range_succ, List.map_append]; rfl
theorem lits_len (V : List Nat) (n w : Nat) : (lits V n w).length = n := by simp [lits]
theorem lits_sm (V : List Nat) (n w : Nat) : ∀ a ∈ lits V n w, (Fm.enc a).length ≤ 3 := by
  intro a ha
  obtain ⟨v, _, rfl⟩ := List.mem_map.1 ha
  exact lit_len V w v
end Go.Proofs.YtjlnompmhgjaaaaGreat


/- worldFormulas of the program. -/
namespace Go.Proofs.YtjlnompmhgjaaaaGreat
open Go.RowKit
open Fm (Nd Tree)

theorem wlT_zero (A V : List Nat) (n w : Nat) : wlT A V n 0 w = some (jnT .and (.imp .fls .fls) (lits V n w)) := by unfold wlT; rfl
theorem wlT_succ (A V : List Nat) (n k w : Nat) : wlT A V n (k + 1) w = upT (lits V n w) ((mbs (nt A w)).map (wlT A V n k)) := by rw [wlT]
set_option maxHeartbeats 8000000 in
set_option maxRecDepth 100000 in
theorem worldFormulas_c (v u : Value) (A V : List Nat) (k nv : Nat) (w : World) (h : Ints w v (zs A)) (hu : Ints w u (zs V)) (hA : Rl A) (h8 : A.length ≤ 8) (hVl : V.length = 6) (hV : Sm V) (hk : k ≤ 16) (hnv : nv ≤ 6) :
    Calls Tryz.prog 20 #[.agg #[.int .i64 (A.length : Int), v, u], .int .i64 (k : Int), .int .i64 (nv : Int)] w fun e w' => ∃ g F, e = .returned (.slice (some ⟨g, 0, none⟩) A.length A.length) ∧ WR w' g A.length F (wlT A V nv k) ∧ Grew w w' := by
  obtain ⟨hal, y0, y1, y2⟩ := mdl_box w (.int .i64 (A.length : Int)) v u
  obtain ⟨w1, hw1⟩ : ∃ w1, w1 = w.alloc (.cells #[.int .i64 (A.length : Int), v, u] 28) := ⟨_, rfl⟩
  rw [← hw1] at hal y0 y1 y2
  have hs1 : w1.heap.size = w.heap.size + 1 := by rw [hw1]; simp
  have hmk : ∀ W : World, (Instr.makeSlice 48 (.int .i64 (A.length : Int)) (.int .i64 (A.length : Int))).run Tryz.prog W = .ok (.slice (some ⟨W.heap.size, 0, none⟩) A.length A.length) (W.alloc (.cells (madeCells #[Value.slice none 0 0] A.length) 31)) := fun W => by have := run_make_rows (P := Tryz.prog) 48 31 (.slice none 0 0) 1 24 #[.slice none 0 0] Tryz.underlying48 infoSlW rfl .i64 .i64 A.length (by omega) (by omega) W; rwa [Nat.mul_one] at this
  obtain ⟨wa, hwa⟩ : ∃ wa, wa = w1.alloc (.cells (madeCells #[Value.slice none 0 0] A.length) 31) := ⟨_, rfl⟩
  have hga : Grew w1 wa := by rw [hwa]; exact (Grew.refl w1).alloc _
  have hR0 : WR wa (w.heap.size + 1) A.length (fun _ => .slice none 0 0) (fun _ => none) := WR.fresh hwa hs1.symm h8
  have HG := Lib.hid (fun W (hW : Only (w.heap.size + 1) wa W) => show Grew w1 W from hW.grew_of hga (by omega))
  have HSZ := Lib.hid (show w.heap.size + 1 < wa.heap.size ∧ w.heap.size + 1 ≤ w1.heap.size from ⟨by rw [hwa]; simp; omega, by omega⟩)
  have HR0 := Lib.hid (hR0.congr (O' := fun i => if i < 0 then wlT A V nv 0 i else none) (fun i _ => by simp))
  have KHAS := Lib.hid (fun j x W (hj : j < 6) (hx : x < 64) => has_c (nt V j) x (Nat.lt_trans (hV.at_ (by omega)) (by decide)) hx W)
  have KONE := Lib.hid (fun b W => one_W b W)
  have KLIT := Lib.hid (fun x j W (hj : j < 6) => literal_c V x j hj W)
  have HL1 := Lib.hid (fun x j => lits_succ V j x)
  have HL0 := Lib.hid (fun x => (show lits V 0 x = [] from rfl))
  have KJ := Lib.hid (fun x va W (hv : Lists W va ((lits V nv x).map Fm.enc)) => (show Calls Tryz.prog 40 #[.int .i64 2, va] W (Gives W (Fm.enc (jnT .and (.imp .fls .fls) (lits V nv x)))) from by
    rw [← allF_and]
    refine joinAll_c 2 va _ W hv (by rw [List.length_map, lits_len]; omega) ?_
    refine Nat.le_trans (flat_len (K := 3) fun y hy => ?_) (by rw [List.length_map, lits_len]; omega)
    obtain ⟨a, ha, rfl⟩ := List.mem_map.1 hy
    exact lits_sm V nv x a ha))
  have KW := Lib.hid (fun (x kk : Nat) vl ul g F W (hx : x < A.length) (hl : RowT W 0 vl ul (lits V nv x)) (hr : WR W g A.length F (wlT A V nv kk)) => (show Calls Tryz.prog 41 #[vl, .int .i64 ((nt A x : Nat) : Int), .slice (some ⟨g, 0, none⟩) A.length A.length] W fun e w' => ∃ u, e = .returned u ∧ OptF w' W.heap.size u (wlT A V nv (kk + 1) x) ∧ Grew W w' from by
    rw [wlT_succ]
    exact worldFormula_c vl ul (lits V nv x) 0 (nt A x) A.length g A.length F (wlT A V nv kk) W hl (by rw [lits_len]; exact hnv) (lits_sm V nv x) (hA.lt hx) h8 hr.r hr.o (fun i T hT => wlT_len hnv hT)))
  have HFR := Lib.hid (fun (W w2 : World) kk (hw : w2 = W.alloc (.cells (madeCells #[Value.slice none 0 0] A.length) 31)) => (WR.fresh hw rfl h8).congr (O' := fun i => if i < 0 then wlT A V nv kk i else none) (fun i _ => by simp))
  obtain ⟨A1, c1, rfl⟩ := ints_sliceN h
  have HCA1 := Lib.hid (fun h0 W (hW : Grew w1 W) => (show ∃ b o, A1 = some ⟨b, o, none⟩ ∧ ∀ i, i < A.length → W.cell? ⟨b, o + i, none⟩ = some (.int .i64 ((nt A i : Nat) : Int)) from by
    obtain ⟨b, o, he, hc⟩ := cellsN h h0
    exact ⟨b, o, he, fun i hi => hc i hi W (hal.trans hW)⟩))
  obtain ⟨A2, c2, rfl⟩ := ints_sliceN hu
  obtain ⟨b2, o2, rfl, hcv⟩ := cellsN hu (by omega)
  rw [hVl] at hcv y2 hw1 ⊢
  have HCV1 := Lib.hid (fun i (hi : i < 6) W (hW : Grew w1 W) => hcv i hi W (hal.trans hW))
  have HOL := Lib.hid hal
  clear h hu hA hVl hV hR0 hcv hal
  generalize hn : A.length = n at *
  clear hn
  have r1 := Grew.refl w1
  go_enter Tryz.func20, Tryz.ntmps20
  go_wp2_with fail
  simp only [← hw1]
  go_wp2_with fail
  simp only [← hwa]
  clear hw1 hwa
  go_loopw [7, 22] (fun vlit i wr => ∃ (x : Nat) (vs : List Value) (F : Nat → Value), x ≤ n ∧ i = .int .i64 (x : Int) ∧ Hid (Only (w.heap.size + 1) wa wr) ∧ Hid (WR wr (w.heap.size + 1) n F (fun i => if i < x then wlT A V nv 0 i else none)) ∧ Hid (RowL wr wa.heap.size vlit vs V nv x)) (fun _ i _ => n - (intOf i).toNat)
  case atStart => exact ⟨0, [], _, by omega, rfl, Lib.hid (Only.refl _ _), HR0, Lib.hid (RowL.nil_ _ _ _ _)⟩
  case round =>
    clear HR0
    obtain ⟨x, vs, F, hx, rfl, hO, hW, hL⟩ := hrel
    obtain ⟨Al, cl, hvl⟩ := hL.out.slice
    rw [hvl] at hL ⊢
    have hG := HG.out wr hO.out
    by_cases hlt : x < n
    · obtain ⟨w3, rfl⟩ : ∃ w3, w3 = wr := ⟨wr, rfl⟩
      go_wp2_with fail
      go_loopw [10, 26] (fun vt i wx => ∃ (j : Nat) (us : List Value), j ≤ nv ∧ i = .int .i64 (j : Int) ∧ Grew w3 wx ∧ Hid (RowT wx w3.heap.size vt us (lits V j x))) (fun _ i _ => nv - (intOf i).toNat)
      case atStart => exact ⟨0, [], by omega, rfl, Grew.refl _, Lib.hid (by rw [HL0.out]; exact RowT.nil_ _ _)⟩
      case round =>
        obtain ⟨j, us, hj, rfl, hB, hT⟩ := hrel
        have hB1 := hG.trans hB
        by_cases hlj : j < nv
        · have z2 := y2 wr hB1
          have k1 := HCV1.out j (by omega) wr hB1
          have hH := Lib.hid (KHAS.out j x wr (by omega) (by omega))
          have hLit := Lib.hid (fun W => KLIT.out x j W (by omega))
          have hs := Lib.hid (HL1.out x j)
          have hul : us.length ≤ 1048576 := by rw [hT.out.l, lits_len]; omega
          generalize lit V x j = tl at *
          generalize hLJ : lits V j x = LJ at *
          generalize hLJ1 : lits V (j + 1) x = LJ1 at *
          have HLJ1 := Lib.hid hLJ1
          clear hLJ hLJ1
          generalize (nt V j).testBit x = b at *
          generalize nt V j = y at *
          have hw2 : IntKind.i64.wrap (2 * (j : Int)) = 2 * (j : Int) := by rw [IntKind.wrap_i64]; omega
          have hw3 : IntKind.i64.wrap (2 * (j : Int) + 1) = 2 * (j : Int) + 1 := by rw [IntKind.wrap_i64]; omega
          have hj0 : (0 : Int) ≤ (j : Int) := by omega
          have hj1 : (j : Int) < 6 := by omega
          cases b with
          | true =>
            have hw4 : IntKind.i64.wrap (2 * (j : Int) + 1 - 1) = 2 * (j : Int) := by rw [IntKind.wrap_i64]; omega
            have hLt := Lib.hid (fun W => show Calls Tryz.prog 37 #[.int .i64 (2 * (j : Int))] W (Gives W (Fm.enc tl)) from by have := hLit.out W; rwa [if_pos rfl, Int.add_zero] at this)
            clear hLit
            go_wp2_with fail
            refine hH.out.mono ?_
            rintro e w5 ⟨rfl, hg5⟩
            go_wp2_with fail
            refine (KONE.out _ _).mono ?_
            rintro e w6 ⟨rfl, hw6⟩
            rw [hw6]
            go_wp2_with fail
            refine (hLt.out _).mono ?_
            rintro e w7 ⟨u7, rfl, ho7, hg7⟩
            obtain ⟨A7, c7, rfl⟩ := nodes_slice ho7.nodes
            generalize (Fm.enc tl).length = l7 at *
            have hga := (hg5.trans hg7).trans ((Grew.refl w7).alloc (.cells #[.slice A7 l7 c7] 31))
            go_wp2_with (first | (at_builtin; refine wpList_appV (w0 := w3) _ _ rfl rfl _ us rfl (hT.out.grew hga).r (hB.trans hga) _ _ rfl (rd_lit _ _ _) rfl hul ?_; intro v8 w8 hown8 hg8 hgr8))
            go_roundw
            case rel => exact ⟨j + 1, _, by omega, by go_num, hg8, Lib.hid (by rw [HLJ1.out, hs.out]; exact (hT.out.grew hga).snoc ((ho7.base (Nat.zero_le _)).grew ((Grew.refl w7).alloc _)) hgr8 hown8)⟩
            case measure => simp [intOf]; omega
          | false =>
            have hw4 : IntKind.i64.wrap (2 * (j : Int) + 1 - 0) = 2 * (j : Int) + 1 := by rw [IntKind.wrap_i64]; omega
            have hLt := Lib.hid (fun W => show Calls Tryz.prog 37 #[.int .i64 (2 * (j : Int) + 1)] W (Gives W (Fm.enc tl)) from by have := hLit.out W; rwa [if_neg (by simp)] at this)
            clear hLit
            go_wp2_with fail
            refine hH.out.mono ?_
            rintro e w5 ⟨rfl, hg5⟩
            go_wp2_with fail
            refine (KONE.out _ _).mono ?_
            rintro e w6 ⟨rfl, hw6⟩
            rw [hw6]
            go_wp2_with fail
            refine (hLt.out _).mono ?_
            rintro e w7 ⟨u7, rfl, ho7, hg7⟩
            obtain ⟨A7, c7, rfl⟩ := nodes_slice ho7.nodes
            generalize (Fm.enc tl).length = l7 at *
            have hga := (hg5.trans hg7).trans ((Grew.refl w7).alloc (.cells #[.slice A7 l7 c7] 31))
            go_wp2_with (first | (at_builtin; refine wpList_appV (w0 := w3) _ _ rfl rfl _ us rfl (hT.out.grew hga).r (hB.trans hga) _ _ rfl (rd_lit _ _ _) rfl hul ?_; intro v8 w8 hown8 hg8 hgr8))
            go_roundw
            case rel => exact ⟨j + 1, _, by omega, by go_num, hg8, Lib.hid (by rw [HLJ1.out, hs.out]; exact (hT.out.grew hga).snoc ((ho7.base (Nat.zero_le _)).grew ((Grew.refl w7).alloc _)) hgr8 hown8)⟩
            case measure => simp [intOf]; omega
        · obtain rfl : j = nv := by omega
          obtain ⟨At, ct, hvt⟩ := hT.out.slice
          rw [lits_len] at hvt
          rw [hvt] at hT ⊢
          have hga := hB.trans ((Grew.refl wr).alloc (.cells #[.slice At j ct] 48))
          have hLa := Lib.hid (hL.out.grew hga)
          have hTa := Lib.hid (hT.out.grew ((Grew.refl wr).alloc (.cells #[.slice At j ct] 48)))
          have hWa := Lib.hid (hW.out.grew hga)
          have hOa := Lib.hid (hO.out.grew hga)
          have hsz : wa.heap.size ≤ (wr.alloc (.cells #[.slice At j ct] 48)).heap.size := hOa.out.size
          have hvsl : vs.length ≤ 1048576 := by rw [hL.out.l]; omega
          have hx0 : (0 : Int) ≤ (x : Int) := by omega
          have hx1 : (x : Int) < (n : Int) := by omega
          go_wp2_with (first | (at_builtin; refine wpList_appVV wa.heap.size _ _ rfl rfl _ vs rfl hLa.out.r hsz _ _ rfl (rd_lit _ _ _) rfl hvsl ?_; intro v5 w5 hown5 hgr5))
          have hT5 := Lib.hid (hTa.out.appL hLa.out.r hgr5)
          have hW5 := Lib.hid (hWa.out.appL hLa.out.r hgr5)
          have hO5 := Lib.hid (hOa.out.newer2 hgr5 (fun b hb => (hLa.out.r.lt b hb).1))
          have hL5 := Lib.hid (RowL.snoc hLa.out (hTa.out.base (by have := hO.out.size; omega)) hgr5 hown5)
          refine (KJ.out x _ _ hT5.out.lists).mono ?_
          rintro e w6 ⟨u6, rfl, ho6, hg6⟩
          have hW6 := Lib.hid (hW5.out.grew hg6)
          have hO6 := Lib.hid (hO5.out.grew hg6)
          have hL6 := Lib.hid (hL5.out.grew hg6)
          have q1 := fun W (hW : Grew w6 W) => (hW6.out.r.grew hW).cell hlt
          have q2 := fun W (hW : Grew w6 W) => (hW6.out.r.grew hW).free x
          have hq1 := q1 w6 (Grew.refl w6)
          have hq2 := q2 w6 (Grew.refl w6)
          obtain ⟨cur6, hb6, hb6'⟩ := hW6.out.r
          have hWs := Lib.hid ((hW6.out.set hlt (u := u6) (o := wlT A V j 0 x) (by rw [wlT_zero]; exact ho6.base (Nat.zero_le _))).congr (O' := fun i => if i < x + 1 then wlT A V j 0 i else none) (fun i _ => by
            by_cases hix : i = x
            · subst hix; rw [if_pos rfl, if_pos (by omega)]
            · rw [if_neg hix]
              by_cases h2 : i < x
              · rw [if_pos h2, if_pos (by omega)]
              · rw [if_neg h2, if_neg (by omega)]))
          have hOs := Lib.hid (hO6.out.setCell (o := x) u6)
          have hLs := Lib.hid (hL6.out.only ((Only.refl (w.heap.size + 1) w6).setCell (o := x) u6) HSZ.out.1 hb6)
          obtain ⟨A6, c6, rfl⟩ := nodes_slice ho6.nodes
          clear hb6 hb6' hW6 hO6 hL6 hT5 hW5 hO5 hL5 hLa hTa hWa hOa hW hO hL hT ho6 q1 q2
          generalize (Fm.enc (jnT .and (.imp .fls .fls) (lits V j x))).length = l6 at *
          go_wp2_with fail
          go_roundw
          case rel => exact ⟨x + 1, _, _, by omega, by go_num, hOs, hWs, hLs⟩
          case measure => simp [intOf]; omega
    · obtain rfl : x = n := by omega
      have hW0 := Lib.hid (hW.out.congr (O' := wlT A V nv 0) (fun i hi => by rw [if_pos hi]))
      obtain ⟨w3, rfl⟩ : ∃ w3, w3 = wr := ⟨wr, rfl⟩
      clear hW hO
      go_wp2_with fail
      go_loopw [8, 57] (fun vo i wr => ∃ (kk g : Nat) (F : Nat → Value), kk ≤ k ∧ i = .int .i64 (kk : Int) ∧ vo = .slice (some ⟨g, 0, none⟩) x x ∧ Grew w3 wr ∧ Hid (WR wr g x F (wlT A V nv kk))) (fun _ i _ => k - (intOf i).toNat)
      case atStart => exact ⟨0, _, _, by omega, rfl, rfl, Grew.refl _, hW0⟩
      case round =>
        clear hW0
        obtain ⟨kk, g, F, hkk, rfl, rfl, hB, hW⟩ := hrel
        by_cases hlk : kk < k
        · obtain ⟨w4, rfl⟩ : ∃ w4, w4 = wr := ⟨wr, rfl⟩
          obtain ⟨w5, hw5⟩ : ∃ w5, w5 = w4.alloc (.cells (madeCells #[Value.slice none 0 0] x) 31) := ⟨_, rfl⟩
          have hW5 := Lib.hid (HFR.out w4 w5 (kk + 1) hw5)
          have hg5 : Grew w4 w5 := by rw [hw5]; exact (Grew.refl w4).alloc _
          go_wp2_with fail
          simp only [← hw5]
          clear hw5
          go_loopw [64] (fun i wr => ∃ (y : Nat) (F : Nat → Value), y ≤ x ∧ i = .int .i64 (y : Int) ∧ Grew w4 wr ∧ Hid (WR wr w4.heap.size x F (fun i => if i < y then wlT A V nv (kk + 1) i else none))) (fun i _ => x - (intOf i).toNat)
          case atStart => exact ⟨0, _, by omega, rfl, hg5, hW5⟩
          case round =>
            clear hW5 hg5
            obtain ⟨y, F2, hy, rfl, hB2, hW2⟩ := hrel
            by_cases hly : y < x
            · have hB3 := hB.trans hB2
              have hB1 := hG.trans hB3
              obtain ⟨gl, c9, ul, he, hcl, us, hRT⟩ := hL.out.at_ hly
              injection he with e1 e2 e3
              subst e1 e3
              clear e2
              have hRT3 := Lib.hid ((hRT.base (Nat.zero_le _)).grew hB3)
              obtain ⟨A9, c9, rfl⟩ := hRT.slice
              have k0 := hcl wr hB3
              obtain ⟨ba, oa, rfl, hca⟩ := HCA1.out (by omega) wr hB1
              have k1 := hca y hly
              have z1 := y1 wr hB1
              have hKW := Lib.hid (KW.out y kk _ us g F wr hly hRT3.out (hW.out.grew hB2))
              clear hRT hRT3 hcl hca
              rw [lits_len] at k0 hKW
              generalize nt A y = ay at *
              have hy0 : (0 : Int) ≤ (y : Int) := by omega
              have hy1 : (y : Int) < (x : Int) := by omega
              go_wp2_with fail
              refine hKW.out.mono ?_
              rintro e w7 ⟨u7, rfl, ho7, hg7⟩
              obtain ⟨A7, n7, c7, rfl⟩ := ho7.slice
              have hW7 := Lib.hid (hW2.out.grew hg7)
              have q1 := fun W (hW : Grew w7 W) => (hW7.out.r.grew hW).cell hly
              have q2 := fun W (hW : Grew w7 W) => (hW7.out.r.grew hW).free y
              have hq1 := q1 w7 (Grew.refl w7)
              have hq2 := q2 w7 (Grew.refl w7)
              have hWs := Lib.hid ((hW7.out.set hly (o := wlT A V nv (kk + 1) y) (ho7.base (Nat.zero_le _))).congr (O' := fun i => if i < y + 1 then wlT A V nv (kk + 1) i else none) (fun i _ => by
                by_cases hix : i = y
                · subst hix; rw [if_pos rfl, if_pos (by omega)]
                · rw [if_neg hix]
                  by_cases h2 : i < y
                  · rw [if_pos h2, if_pos (by omega)]
                  · rw [if_neg h2, if_neg (by omega)]))
              have hBs := (hB2.trans hg7).setCell (p := ⟨w4.heap.size, y, none⟩) (Nat.le_refl _) (.slice A7 n7 c7)
              clear hW2 hW7 ho7 hKW q1 q2
              go_wp2_with fail
              go_roundw
              case rel => exact ⟨y + 1, _, by omega, by go_num, hBs, hWs⟩
              case measure => simp [intOf]; omega
            · obtain rfl : y = x := by omega
              have hWe := Lib.hid (hW2.out.congr (O' := wlT A V nv (kk + 1)) (fun i hi => by rw [if_pos hi]))
              clear hW2
              go_wp2_with fail
              go_roundw
              case rel => exact ⟨kk + 1, _, _, by omega, by go_num, rfl, hB.trans hB2, hWe⟩
              case measure => simp [intOf]; omega
        · obtain rfl : kk = k := by omega
          have HE := Lib.hid ((HOL.out.trans hG).trans hB)
          go_wp2_with fail
          go_ret
          exact ⟨_, _, rfl, hW.out, HE.out⟩
end Go.Proofs.YtjlnompmhgjaaaaGreat


/- TruthSet of the program. -/
namespace Go.Proofs.YtjlnompmhgjaaaaGreat
open Go.RowKit
open Fm (Nd Tree)

theorem mdl_box1 (w : World) (a b c : Value) : ∃ w1, w1 = w.alloc (.cells #[a, b, c] 28) ∧ Grew w w1 ∧ (∀ W, Grew w1 W → W.cell? ⟨w.heap.size, 0, none⟩ = some a) ∧ (∀ W, Grew w1 W → W.cell? ⟨w.heap.size, 1, none⟩ = some b) ∧ ∀ W, Grew w1 W → W.cell? ⟨w.heap.size, 2, none⟩ = some c := by
  obtain ⟨h1, h2, h3, h4⟩ := mdl_box w a b c
  exact ⟨_, rfl, h1, h2, h3, h4⟩
set_option maxHeartbeats 2000000 in
set_option maxRecDepth 8192 in
theorem truthIn_c (v u va : Value) (A V : List Nat) (t : Tree) (w : World) (h : Ints w v (zs A)) (hu : Ints w u (zs V)) (ha : Nodes w va (Fm.enc t)) (hA : Rl A) (hV : ∀ m ∈ V, m < 2 ^ A.length) (hl : V.length = 6) (ht : (Fm.enc t).length ≤ 1048576) :
    Calls Tryz.prog 26 #[.agg #[.int .i64 (A.length : Int), v, u], va] w fun e w' => e = .returned (.int .i64 ((mv A V t : Nat) : Int)) ∧ Grew w w' := by
  obtain ⟨w1, hw1, hal, y0, y1, y2⟩ := mdl_box1 w (.int .i64 (A.length : Int)) v u
  have KT := Lib.hid (truthSet_c v u va A V t w1 (h.grew hal) (hu.grew hal) (ha.grew hal) hA hV hl ht)
  have HG := Lib.hid hal
  obtain ⟨A1, c1, rfl⟩ := ints_sliceN h
  have hu3 := ints_sliceN hu
  rw [hl] at hu3
  obtain ⟨A2, c2, rfl⟩ := hu3
  clear h hu ha hA hV hl hal
  generalize mv A V t = R at *
  generalize A.length = n at *
  have r1 := Grew.refl w1
  go_enter Tryz.func26, Tryz.ntmps26
  go_wp2_with fail
  simp only [← hw1]
  clear hw1
  refine KT.out.mono ?_
  rintro e w2 ⟨rfl, hg2⟩
  go_wp2_with fail
  go_ret
  exact ⟨rfl, HG.out.trans hg2⟩
set_option maxHeartbeats 2000000 in
set_option maxRecDepth 8192 in
theorem modelCode_c (v u va : Value) (A V : List Nat) (t : Tree) (w : World) (h : Ints w v (zs A)) (hu : Ints w u (zs V)) (ha : Nodes w va (Fm.enc t)) (ht : (Fm.enc t).length ≤ 40) (hmd : mdB (A.length : Int) (zs A) (zs V) = true) :
    Calls Tryz.prog 25 #[.agg #[.int .i64 (A.length : Int), v, u], va] w fun e w' => e = .returned (.int .i64 0) ∧ Grew w w' := by
  obtain ⟨w1, hw1, hal, y0, y1, y2⟩ := mdl_box1 w (.int .i64 (A.length : Int)) v u
  have KM := Lib.hid (show Calls Tryz.prog 17 #[.agg #[.int .i64 (A.length : Int), v, u]] w1 fun e w' => e = .returned (.bool true) ∧ Grew w1 w' from by
    have := isModel_c (A.length : Int) v u (zs A) (zs V) w1 (h.grew hal) (hu.grew hal)
    rwa [hmd] at this)
  have KF := Lib.hid (fun W (hW : Grew w1 W) => isFormula_c va t W (ha.grew (hal.trans hW)) ht)
  have HG := Lib.hid hal
  obtain ⟨A1, c1, rfl⟩ := ints_sliceN h
  obtain ⟨A2, c2, rfl⟩ := ints_sliceN hu
  clear h hu ha hmd hal
  generalize A.length = n at *
  generalize V.length = l at *
  have r1 := Grew.refl w1
  go_enter Tryz.func25, Tryz.ntmps25
  go_wp2_with fail
  simp only [← hw1]
  clear hw1
  refine KM.out.mono ?_
  rintro e w2 ⟨rfl, hg2⟩
  go_wp2_with fail
  refine (KF.out _ hg2).mono ?_
  rintro e w3 ⟨rfl, hg3⟩
  go_wp2_with fail
  go_ret
  exact ⟨rfl, HG.out.trans (hg2.trans hg3)⟩
set_option maxHeartbeats 2000000 in
set_option maxRecDepth 8192 in
theorem TruthSet_c (v u va : Value) (A V : List Nat) (t : Tree) (w : World) (h : Ints w v (zs A)) (hu : Ints w u (zs V)) (ha : Nodes w va (Fm.enc t)) (hA : Rl A) (hV : ∀ m ∈ V, m < 2 ^ A.length) (hl : V.length = 6) (ht : (Fm.enc t).length ≤ 40) (hmd : mdB (A.length : Int) (zs A) (zs V) = true) :
    Calls Tryz.prog 9 #[.agg #[.int .i64 (A.length : Int), v, u], va] w fun e w' => e = .returned (.tuple #[.int .i64 ((mv A V t : Nat) : Int), .int .i64 0]) ∧ Grew w w' := by
  obtain ⟨w1, hw1, hal, y0, y1, y2⟩ := mdl_box1 w (.int .i64 (A.length : Int)) v u
  have KC := Lib.hid (modelCode_c v u va A V t w1 (h.grew hal) (hu.grew hal) (ha.grew hal) ht hmd)
  have KT := Lib.hid (fun W (hW : Grew w1 W) => truthIn_c v u va A V t W (h.grew (hal.trans hW)) (hu.grew (hal.trans hW)) (ha.grew (hal.trans hW)) hA hV hl (by omega))
  have HG := Lib.hid hal
  obtain ⟨A1, c1, rfl⟩ := ints_sliceN h
  have hu3 := ints_sliceN hu
  rw [hl] at hu3
  obtain ⟨A2, c2, rfl⟩ := hu3
  obtain ⟨A3, c3, rfl⟩ := nodes_slice ha
  clear h hu ha hA hV hl hmd hal ht
  generalize mv A V t = R at *
  generalize A.length = n at *
  generalize (Fm.enc t).length = l at *
  have r1 := Grew.refl w1
  go_enter Tryz.func9, Tryz.ntmps9
  go_wp2_with fail
  simp only [← hw1]
  clear hw1
  refine KC.out.mono ?_
  rintro e w2 ⟨rfl, hg2⟩
  go_wp2_with fail
  refine (KT.out _ hg2).mono ?_
  rintro e w3 ⟨rfl, hg3⟩
  go_wp2_with fail
  go_ret2
  exact ⟨rfl, HG.out.trans (hg2.trans hg3)⟩
end Go.Proofs.YtjlnompmhgjaaaaGreat


/- WorldFormula of the program. -/
namespace Go.Proofs.YtjlnompmhgjaaaaGreat
open Go.RowKit
open Fm (Nd Tree)

def cdW (o : Option Tree) : Int := match o with | none => 3 | some _ => 0
noncomputable def wfF (n : Int) (L V : List Int) (x k nv : Int) : Option Tree × Int :=
  if mdB n L V = true then
    (if decide (0 ≤ x ∧ x ≤ n - 1) = true then
      (if decide (0 ≤ k ∧ k ≤ 16) = true then
        (if decide (0 ≤ nv ∧ nv ≤ 6) = true then (wlT (nats L) (nats V) nv.toNat k.toNat x.toNat, cdW (wlT (nats L) (nats V) nv.toNat k.toNat x.toNat)) else (none, 2))
       else (none, 2))
     else (none, 2))
  else (none, 1)
theorem wfF_md {n : Int} {L V : List Int} {x k nv : Int} (h : mdB n L V = false) : wfF n L V x k nv = (none, 1) := by unfold wfF; rw [if_neg (by rw [h]; simp)]
theorem wfF_x {n : Int} {L V : List Int} {x k nv : Int} (h : mdB n L V = true) (h1 : decide (0 ≤ x ∧ x ≤ n - 1) = false) : wfF n L V x k nv = (none, 2) := by unfold wfF; rw [if_pos h, if_neg (by rw [h1]; simp)]
theorem wfF_k {n : Int} {L V : List Int} {x k nv : Int} (h : mdB n L V = true) (h1 : decide (0 ≤ x ∧ x ≤ n - 1) = true) (h2 : decide (0 ≤ k ∧ k ≤ 16) = false) : wfF n L V x k nv = (none, 2) := by unfold wfF; rw [if_pos h, if_pos h1, if_neg (by rw [h2]; simp)]
theorem wfF_v {n : Int} {L V : List Int} {x k nv : Int} (h : mdB n L V = true) (h1 : decide (0 ≤ x ∧ x ≤ n - 1) = true) (h2 : decide (0 ≤ k ∧ k ≤ 16) = true) (h3 : decide (0 ≤ nv ∧ nv ≤ 6) = false) : wfF n L V x k nv = (none, 2) := by unfold wfF; rw [if_pos h, if_pos h1, if_pos h2, if_neg (by rw [h3]; simp)]
theorem wfF_yes {n : Int} {L V : List Int} {x k nv : Int} (h : mdB n L V = true) (h1 : decide (0 ≤ x ∧ x ≤ n - 1) = true) (h2 : decide (0 ≤ k ∧ k ≤ 16) = true) (h3 : decide (0 ≤ nv ∧ nv ≤ 6) = true) :
    wfF n L V x k nv = (wlT (nats L) (nats V) nv.toNat k.toNat x.toNat, cdW (wlT (nats L) (nats V) nv.toNat k.toNat x.toNat)) := by unfold wfF; rw [if_pos h, if_pos h1, if_pos h2, if_pos h3]
def GivesWf (w : World) (r : Option Tree × Int) : Ending → World → Prop := fun e w' => ∃ u, e = .returned (.tuple #[u, .int .i64 r.2]) ∧ OptF w' 0 u r.1 ∧ Grew w w'
set_option maxHeartbeats 2000000 in
set_option maxRecDepth 8192 in
theorem WorldFormula_bad (n : Int) (v u : Value) (L V : List Int) (x k nv : Int) (w : World) (h : Ints w v L) (hu : Ints w u V) (hmd : mdB n L V = false) :
    Calls Tryz.prog 6 #[.agg #[.int .i64 n, v, u], .int .i64 x, .int .i64 k, .int .i64 nv] w (GivesWf w (wfF n L V x k nv)) := by
  rw [wfF_md hmd]
  obtain ⟨w1, hw1, hal, y0, y1, y2⟩ := mdl_box1 w (.int .i64 n) v u
  have KM := Lib.hid (show Calls Tryz.prog 17 #[.agg #[.int .i64 n, v, u]] w1 fun e w' => e = .returned (.bool false) ∧ Grew w1 w' from by
    have := isModel_c n v u L V w1 (h.grew hal) (hu.grew hal)
    rwa [hmd] at this)
  have HG := Lib.hid hal
  obtain ⟨A1, c1, rfl⟩ := ints_slice h
  obtain ⟨A2, c2, rfl⟩ := ints_slice hu
  clear h hu hmd hal
  generalize L.length = l1 at *
  generalize V.length = l2 at *
  have r1 := Grew.refl w1
  go_enter Tryz.func6, Tryz.ntmps6
  go_wp2_with fail
  simp only [← hw1]
  clear hw1
  refine KM.out.mono ?_
  rintro e w2 ⟨rfl, hg2⟩
  go_wp2_with fail
  go_ret2
  exact ⟨_, rfl, rfl, HG.out.trans hg2⟩
set_option maxHeartbeats 4000000 in
set_option maxRecDepth 8192 in
theorem WorldFormula_good (A V : List Nat) (v u : Value) (x k nv : Int) (w : World) (h : Ints w v (zs A)) (hu : Ints w u (zs V)) (hA : Rl A) (h8 : A.length ≤ 8) (hVl : V.length = 6) (hV : Sm V) (hnA : nats (zs A) = A) (hnV : nats (zs V) = V) (hmd : mdB (A.length : Int) (zs A) (zs V) = true) :
    Calls Tryz.prog 6 #[.agg #[.int .i64 (A.length : Int), v, u], .int .i64 x, .int .i64 k, .int .i64 nv] w (GivesWf w (wfF (A.length : Int) (zs A) (zs V) x k nv)) := by
  have q : ∀ (w : World) (a : Option Addr) (n c n' c' : Nat), (binOp .eql 31 (.slice a n c) (.slice none n' c')).run Tryz.prog w = .ok (.bool a.isNone) w := fun w a n c n' c' => Lib.run_eql_slice_nil w _ _ a n c n' c' Tryz.underlying31
  obtain ⟨w1, hw1, hal, y0, y1, y2⟩ := mdl_box1 w (.int .i64 (A.length : Int)) v u
  have KM := Lib.hid (show Calls Tryz.prog 17 #[.agg #[.int .i64 (A.length : Int), v, u]] w1 fun e w' => e = .returned (.bool true) ∧ Grew w1 w' from by
    have := isModel_c (A.length : Int) v u (zs A) (zs V) w1 (h.grew hal) (hu.grew hal)
    rwa [hmd] at this)
  have hvE : ∃ A m c, v = .slice A m c := by obtain ⟨a, c, e⟩ := ints_slice h; exact ⟨_, _, _, e⟩
  have KH := Lib.hid (fun W => hasWorld_c A.length v x W hvE h8)
  have KR := Lib.hid (fun z b W => inRange_c z 0 b W)
  have KW := Lib.hid (fun (k' nv' : Nat) (hk : k' ≤ 16) (hv : nv' ≤ 6) W (hW : Grew w1 W) => worldFormulas_c v u A V k' nv' W (h.grew (hal.trans hW)) (hu.grew (hal.trans hW)) hA h8 hVl hV hk hv)
  have F1 := Lib.hid (fun h1 => wfF_x (x := x) (k := k) (nv := nv) hmd h1)
  have F2 := Lib.hid (fun h1 h2 => wfF_k (x := x) (k := k) (nv := nv) hmd h1 h2)
  have F3 := Lib.hid (fun h1 h2 h3 => wfF_v (x := x) (k := k) (nv := nv) hmd h1 h2 h3)
  have F4 := Lib.hid (fun h1 h2 h3 => wfF_yes (x := x) (k := k) (nv := nv) hmd h1 h2 h3)
  rw [hnA, hnV] at F4
  have HG := Lib.hid hal
  obtain ⟨A1, c1, rfl⟩ := ints_sliceN h
  have hu3 := ints_sliceN hu
  rw [hVl] at hu3
  obtain ⟨A2, c2, rfl⟩ := hu3
  clear h hu hmd hal hA hVl hV hnA hnV hvE
  generalize wfF (A.length : Int) (zs A) (zs V) x k nv = R at *
  generalize hn : A.length = n at *
  clear hn
  have r1 := Grew.refl w1
  go_enter Tryz.func6, Tryz.ntmps6
  go_wp2_with fail
  simp only [← hw1]
  clear hw1
  refine KM.out.mono ?_
  rintro e w2 ⟨rfl, hg2⟩
  go_wp2_with fail
  refine (KH.out _).mono ?_
  rintro e w3 ⟨rfl, hg3⟩
  have hg3 := hg2.trans hg3
  cases h1 : decide (0 ≤ x ∧ x ≤ (n : Int) - 1) with
  | false =>
    have hR := Lib.hid (F1.out h1)
    clear F1 F2 F3 F4 h1
    go_wp2_with fail
    go_ret2
    rw [hR.out]
    exact ⟨_, rfl, rfl, HG.out.trans hg3⟩
  | true =>
  replace F2 := Lib.hid (F2.out h1)
  replace F3 := Lib.hid (F3.out h1)
  replace F4 := Lib.hid (F4.out h1)
  rw [decide_eq_true_eq] at h1
  obtain ⟨xn, rfl⟩ : ∃ xn : Nat, x = (xn : Int) := ⟨x.toNat, by omega⟩
  have hx0 : (0 : Int) ≤ (xn : Int) := by omega
  have hx1 : (xn : Int) < (n : Int) := by omega
  have hxn : xn < n := by omega
  clear F1 h1
  go_wp2_with fail
  refine (KR.out _ _ _).mono ?_
  rintro e w4 ⟨rfl, hg4⟩
  have hg4 := hg3.trans hg4
  cases h2 : decide (0 ≤ k ∧ k ≤ 16) with
  | false =>
    have hR := Lib.hid (F2.out h2)
    clear F2 F3 F4 h2
    go_wp2_with fail
    go_ret2
    rw [hR.out]
    exact ⟨_, rfl, rfl, HG.out.trans hg4⟩
  | true =>
  replace F3 := Lib.hid (F3.out h2)
  replace F4 := Lib.hid (F4.out h2)
  rw [decide_eq_true_eq] at h2
  obtain ⟨kn, rfl⟩ : ∃ kn : Nat, k = (kn : Int) := ⟨k.toNat, by omega⟩
  have hkn : kn ≤ 16 := by omega
  clear F2 h2
  go_wp2_with fail
  refine (KR.out _ _ _).mono ?_
  rintro e w5 ⟨rfl, hg5⟩
  have hg5 := hg4.trans hg5
  cases h3 : decide (0 ≤ nv ∧ nv ≤ 6) with
  | false =>
    have hR := Lib.hid (F3.out h3)
    clear F3 F4 h3
    go_wp2_with fail
    go_ret2
    rw [hR.out]
    exact ⟨_, rfl, rfl, HG.out.trans hg5⟩
  | true =>
  replace F4 := Lib.hid (F4.out h3)
  rw [decide_eq_true_eq] at h3
  obtain ⟨nn, rfl⟩ : ∃ nn : Nat, nv = (nn : Int) := ⟨nv.toNat, by omega⟩
  have hnn : nn ≤ 6 := by omega
  clear F3 h3
  simp only [Int.toNat_natCast] at F4
  go_wp2_with fail
  refine (KW.out kn nn hkn hnn _ hg5).mono ?_
  rintro e w6 ⟨g, F, rfl, hWR, hg6⟩
  have hg6 := hg5.trans hg6
  have k0 := hWR.r.cell hxn
  have ho := hWR.o xn hxn
  cases hT : wlT A V nn kn xn with
  | none =>
    rw [hT] at ho
    have hR := Lib.hid F4.out
    rw [hT] at hR
    have hF : F xn = .slice none 0 0 := ho
    rw [hF] at k0
    clear ho hF F4 hT KW hWR
    go_wp2_with fail
    go_ret2
    rw [hR.out]
    exact ⟨_, rfl, rfl, HG.out.trans hg6⟩
  | some t =>
    rw [hT] at ho
    have hR := Lib.hid F4.out
    rw [hT] at hR
    have ho' : Own w6 0 (F xn) (Fm.enc t) := ho
    obtain ⟨b0, c0, hfe⟩ := own_someW ho' (Fm.enc_pos t)
    rw [hfe] at k0 ho'
    have HO := Lib.hid ho'
    clear ho ho' hfe F4 hT KW hWR
    generalize (Fm.enc t).length = lt1 at *
    go_wp2_with fail
    go_ret2
    rw [hR.out]
    exact ⟨_, rfl, HO.out, HG.out.trans hg6⟩
theorem nats_zs (A : List Nat) : nats (zs A) = A := by
  unfold nats zs
  rw [List.map_map]
  conv => rhs; rw [← List.map_id A]
  refine List.map_congr_left fun a _ => ?_
  simp
theorem sm_of {A V : List Nat} (h8 : A.length ≤ 8) (h : ∀ m ∈ V, m < 2 ^ A.length) : Sm V := fun m hm => Nat.lt_of_lt_of_le (h m hm) (Nat.le_trans (Nat.pow_le_pow_right (n := 2) (by omega) h8) (by decide))
theorem WorldFormula_c (n : Int) (v u : Value) (L V : List Int) (x k nv : Int) (w : World) (h : Ints w v L) (hu : Ints w u V) :
    Calls Tryz.prog 6 #[.agg #[.int .i64 n, v, u], .int .i64 x, .int .i64 k, .int .i64 nv] w (GivesWf w (wfF n L V x k nv)) := by
  cases hmd : mdB n L V with
  | false => exact WorldFormula_bad n v u L V x k nv w h hu hmd
  | true =>
    obtain ⟨e1, h8, e3, hA, e5, hVl, hV⟩ := mdB_ok hmd
    generalize nats L = A at *
    generalize nats V = B at *
    subst e1 e3 e5
    exact WorldFormula_good A B v u x k nv w h hu hA h8 hVl (sm_of h8 hV) (nats_zs A) (nats_zs B) hmd
end Go.Proofs.YtjlnompmhgjaaaaGreat


/- A proposition as a Boolean. No program is in sight. -/
namespace Go.Proofs.YtjlnompmhgjaaaaGreat
open Go.RowKit

end Go.Proofs.YtjlnompmhgjaaaaGreat


/- Texts put to a sorted list (put of the program): concat, sort, compact. -/
namespace Go.Proofs.YtjlnompmhgjaaaaGreat
open Go.RowKit Go.Sort

theorem wpList_appSs {ops : Array Oper} {rest : List Oper} {o : Oper} {a : Act} {Q : Exit → Act → World → Prop} {w w0 : World} (s x : Operand) (hgd : o.guard = none)
    (ho : o.op = .call { callee := .builtin .append, args := #[s, x], argTypes := #[73, 73] })
    (v : Value) (L : List ByteArray) (hs : a.eval s = v) (hown : OwnS w w0.heap.size v L) (hg : Grew w0 w) (vx : Value) (K : List ByteArray) (hx : a.eval x = vx) (hr : Strs w vx K) (hn : L.length + K.length ≤ 1099511627776)
    (h : ∀ v' w', OwnS w' w0.heap.size v' (L ++ K) → Grew w0 w' → w.grownBy w' v.ownBlock → wpList Tryz.prog ops Q rest (a.put o.dst v') w') : wpList Tryz.prog ops Q (o :: rest) a w := by
  obtain ⟨i0, hi0, hz0, hz1, hz2⟩ := info_parts Tryz.infoStr
  refine wpList_append_rd w hgd s x _ ho w0.heap.size 9 i0 _ 1 16 Tryz.underlying73 hi0 hz0 hz1 hz2 rfl (by omega) v L.length (scells L) hs hown vx K.length (scells K) hx hr (scells_one K) (by unfold maxLen; omega) (by omega) hg.size ?_
  intro v' w' h1 h2 h3
  refine h v' w' ?_ (hg.grown h2 fun k hk => (hown.lt k hk).1) h2
  unfold OwnS
  rw [List.length_append, scells_append]
  exact h1

end Go.Proofs.YtjlnompmhgjaaaaGreat


/- slices.Index, slices.Contains at texts. -/
namespace Go.Proofs.YtjlnompmhgjaaaaGreat
open Go.RowKit

theorem bytes_ne' {a b : ByteArray} (h : a ≠ b) : (a.toList == b.toList) = false := by
  rw [beq_eq_false_iff_ne]
  intro he
  exact h (by rw [Lib.toList_data, Lib.toList_data] at he; cases a; cases b; simpa using he)
theorem bytes_eq' (a : ByteArray) : (a.toList == a.toList) = true := by simp
def NotS (L : List ByteArray) (s : ByteArray) (k : Nat) : Prop := ∀ i, i < k → st L i ≠ s
theorem NotS.zero (L : List ByteArray) (s : ByteArray) : NotS L s 0 := fun i hi => absurd hi (by omega)
theorem NotS.succ {L : List ByteArray} {s : ByteArray} {k : Nat} (h : NotS L s k) (h1 : st L k ≠ s) : NotS L s (k + 1) := by
  intro i hi
  rcases Nat.lt_or_ge i k with hk | hk
  · exact h i hk
  · obtain rfl : i = k := by omega
    exact h1
theorem own_emptyS' (w : World) : OwnS (w.alloc (.cells #[] 9)) w.heap.size (.slice (some ⟨w.heap.size, 0, none⟩) 0 0) [] :=
  World.ownsRow_lit (e := 9) (size := 1) w #[] 0 (Nat.le_refl _) (by omega) rfl
end Go.Proofs.YtjlnompmhgjaaaaGreat


/- Slices of slices of nodes that read as formulas. -/
namespace Go.Proofs.YtjlnompmhgjaaaaGreat
open Go.RowKit
open Fm (Nd Tree)

def VT (w : World) (us : List Value) (L : List Tree) : Prop := us.length = L.length ∧ ∀ (i : Nat) (t : Tree), L[i]? = some t → ∃ u : Value, us[i]? = some u ∧ Nodes w u (Fm.enc t)
theorem VT.grew {w w' : World} {us : List Value} {L : List Tree} (h : VT w us L) (hg : Grew w w') : VT w' us L :=
  ⟨h.1, fun i t ht => let ⟨u, h1, h2⟩ := h.2 i t ht; ⟨u, h1, h2.grew hg⟩⟩
theorem VT.nil_ (w : World) : VT w [] [] := ⟨rfl, fun i t h => by simp at h⟩
theorem VT.one {w : World} {u : Value} {t : Tree} (h : Nodes w u (Fm.enc t)) : VT w [u] [t] := ⟨rfl, fun i t' ht => by
  have hi : i = 0 := by have := (List.getElem?_eq_some_iff.1 ht).1; simp at this; omega
  subst hi
  obtain rfl : t = t' := by simpa using ht
  exact ⟨u, rfl, h⟩⟩
theorem VT.app {w : World} {us vs : List Value} {L K : List Tree} (h : VT w us L) (k : VT w vs K) : VT w (us ++ vs) (L ++ K) := by
  refine ⟨by rw [List.length_append, List.length_append, h.1, k.1], fun i t ht => ?_⟩
  rw [List.getElem?_append] at ht ⊢
  rw [h.1]
  split at ht
  · rename_i hlt
    rw [if_pos hlt]; exact h.2 i t ht
  · rename_i hlt
    rw [if_neg hlt]; exact k.2 _ t ht
theorem VT.take {w : World} {us : List Value} {L : List Tree} (h : VT w us L) (k : Nat) : VT w (us.take k) (L.take k) := by
  refine ⟨by simp [h.1], fun i t ht => ?_⟩
  rw [List.getElem?_take] at ht ⊢
  split at ht
  · rename_i hlt
    rw [if_pos hlt]; exact h.2 i t ht
  · cases ht
theorem VT.drop {w : World} {us : List Value} {L : List Tree} (h : VT w us L) (k : Nat) : VT w (us.drop k) (L.drop k) := by
  refine ⟨by simp [h.1], fun i t ht => ?_⟩
  rw [List.getElem?_drop] at ht ⊢
  exact h.2 _ t ht
def LT (w : World) (v : Value) (L : List Tree) : Prop := ∃ us, Rd w 1 v L.length us ∧ VT w us L
theorem LT.grew {w w' : World} {v : Value} {L : List Tree} (h : LT w v L) (hg : Grew w w') : LT w' v L := let ⟨us, h1, h2⟩ := h; ⟨us, h1.grew hg, h2.grew hg⟩
theorem LT.of_own {w : World} {B : Nat} {v : Value} {us : List Value} {L : List Tree} (h : OwnV w B v us) (k : VT w us L) : LT w v L := ⟨us, by have := Rd.of_own h; rw [k.1] at this; exact this, k⟩
theorem LT.open_ {w : World} {v : Value} {L : List Tree} (h : LT w v L) : (v = .slice none 0 0 ∧ L = []) ∨ ∃ b o c, v = .slice (some ⟨b, o, none⟩) L.length c ∧ L.length ≤ c ∧ c ≤ 9223372036854775807 ∧ b < w.heap.size ∧
    ∀ i t, L[i]? = some t → ∃ u, (∀ W, Grew w W → W.cell? ⟨b, o + i, none⟩ = some u) ∧ Nodes w u (Fm.enc t) := by
  obtain ⟨us, ⟨h1, h2, h3⟩, h4, h5⟩ := h
  rcases h3 with ⟨h6, h7⟩ | ⟨b, o, c, h6, h7, h8, h9, h10⟩
  · exact .inl ⟨h6, List.eq_nil_of_length_eq_zero h7⟩
  · refine .inr ⟨b, o, c, h6, h7, h8, h9, fun i t ht => ?_⟩
    obtain ⟨u, k1, k2⟩ := h5 i t ht
    exact ⟨u, fun W hW => (hW.cell (p := ⟨b, o + i, none⟩) h9).trans (h10 i u k1), k2⟩
theorem LT.one {w : World} {T : TypeId} {u : Value} {t : Tree} (h : Nodes w u (Fm.enc t)) : LT (w.alloc (.cells #[u] T)) (.slice (some ⟨w.heap.size, 0, none⟩) 1 1) [t] :=
  ⟨[u], rd_lit w u T, (VT.one h).grew ((Grew.refl w).alloc _)⟩
theorem rd_take {w : World} {A : Option Addr} {n c : Nat} {us : List Value} (h : Rd w 1 (.slice A n c) n us) (i : Nat) (hi : i ≤ n) : Rd w 1 (.slice A i c) i (us.take i) := by
  obtain ⟨h1, h2, h3⟩ := h
  refine ⟨by simp; omega, by omega, ?_⟩
  rcases h3 with ⟨h4, h5⟩ | ⟨b, o, c', h4, h5, h6, h7, h8⟩
  · cases h4
    obtain rfl : i = 0 := by omega
    exact .inl ⟨rfl, rfl⟩
  · obtain ⟨rfl, rfl⟩ : A = some ⟨b, o, none⟩ ∧ c = c' := by simpa using h4
    refine .inr ⟨b, o, c, rfl, by omega, h6, h7, fun j u hu => ?_⟩
    rw [List.getElem?_take] at hu
    split at hu
    · exact h8 j u hu
    · cases hu
theorem rd_drop {w : World} {b o n c : Nat} {us : List Value} (h : Rd w 1 (.slice (some ⟨b, o, none⟩) n c) n us) (i : Nat) (hi : i ≤ n) : Rd w 1 (.slice (some ⟨b, o + i, none⟩) (n - i) (c - i)) (n - i) (us.drop i) := by
  obtain ⟨h1, h2, h3⟩ := h
  refine ⟨by simp; omega, by omega, ?_⟩
  rcases h3 with ⟨h4, h5⟩ | ⟨b', o', c', h4, h5, h6, h7, h8⟩
  · cases h4
  · obtain ⟨⟨rfl, rfl⟩, rfl⟩ : (b = b' ∧ o = o') ∧ c = c' := by simpa using h4
    refine .inr ⟨b, o + i, c - i, rfl, by omega, by omega, h7, fun j u hu => ?_⟩
    rw [List.getElem?_drop] at hu
    rw [Nat.add_assoc]
    exact h8 _ u hu

theorem rd_tail {w : World} {b o n c : Nat} {us : List Value} (h : Rd w 1 (.slice (some ⟨b, o, none⟩) n c) n us) (i : Nat) (hi : i ≤ n) (hn : n ≤ c) : Rd w 1 (.slice (if c = i then some ⟨b, o, none⟩ else some ⟨b, o + i, none⟩) (n - i) (c - i)) (n - i) (us.drop i) := by
  by_cases hc : c = i
  · rw [if_pos hc]
    have h0 : n - i = 0 := by omega
    have h1 := h.1
    refine ⟨by simp; omega, by omega, ?_⟩
    obtain ⟨_, _, h3⟩ := h
    rcases h3 with ⟨h4, _⟩ | ⟨b', o', c', h4, h5, h6, h7, h8⟩
    · cases h4
    · obtain ⟨⟨rfl, rfl⟩, rfl⟩ : (b = b' ∧ o = o') ∧ c = c' := by simpa using h4
      refine .inr ⟨b, o, c - i, rfl, by omega, by omega, h7, fun j u hu => ?_⟩
      rw [List.getElem?_drop, List.getElem?_eq_none (by omega)] at hu
      cases hu
  · rw [if_neg hc]
    exact rd_drop h i hi

end Go.Proofs.YtjlnompmhgjaaaaGreat


/- A text appended to a row of strings of the call's own. -/
namespace Go.Proofs.YtjlnompmhgjaaaaGreat
open Go.RowKit

theorem wpList_appStr {ops : Array Oper} {rest : List Oper} {o : Oper} {a : Act} {Q : Exit → Act → World → Prop} {w w0 : World} (s x : Operand) (hgd : o.guard = none)
    (ho : o.op = .call { callee := .builtin .append, args := #[s, x], argTypes := #[73, 73] })
    (v : Value) (L : List ByteArray) (hs : a.eval s = v) (hown : OwnS w w0.heap.size v L) (hg : Grew w0 w) (vx : Value) (k : ByteArray) (hx : a.eval x = vx) (hr : Rd w 1 vx 1 [.string k]) (hn : L.length ≤ 1048576)
    (h : ∀ v' w', OwnS w' w0.heap.size v' (L ++ [k]) → Grew w0 w' → w.grownBy w' v.ownBlock → wpList Tryz.prog ops Q rest (a.put o.dst v') w') : wpList Tryz.prog ops Q (o :: rest) a w := by
  obtain ⟨i0, hi0, hz0, hz1, hz2⟩ := info_parts Tryz.infoStr
  refine wpList_append_rd w hgd s x _ ho w0.heap.size 9 i0 _ 1 16 Tryz.underlying73 hi0 hz0 hz1 hz2 rfl (by omega) v L.length (scells L) hs hown vx 1 [.string k] hx hr (by simp [Value.oneCell']) (by unfold maxLen; omega) (by omega) hg.size ?_
  intro v' w' h1 h2 h3
  refine h v' w' ?_ (hg.grown h2 fun k hk => (hown.lt k hk).1) h2
  unfold OwnS
  rw [List.length_append, scells_append]
  exact h1

end Go.Proofs.YtjlnompmhgjaaaaGreat


/- The parts of a formula: parts, partTexts of the program. -/
namespace Go.Proofs.YtjlnompmhgjaaaaGreat
open Go.RowKit

end Go.Proofs.YtjlnompmhgjaaaaGreat


/- Lists of one and of two strings. -/
namespace Go.Proofs.YtjlnompmhgjaaaaGreat
open Go.RowKit

end Go.Proofs.YtjlnompmhgjaaaaGreat


/- l01Says, l02Insert, l22With of the reference. -/
namespace Go.Proofs.YtjlnompmhgjaaaaGreat
open Go.RowKit

theorem rdS_take {w : World} {A : Option Addr} {n c : Nat} {L : List ByteArray} (h : Rd w 1 (.slice A n c) n (scells L)) (hl : L.length = n) (i : Nat) (hi : i ≤ n) : Strs w (.slice A i c) (L.take i) := by
  have := rd_take h i hi
  unfold Strs scells at *
  rw [List.length_take, hl, Nat.min_eq_left hi, List.map_take]
  exact this
theorem rdS_tail {w : World} {b o n c : Nat} {L : List ByteArray} (h : Rd w 1 (.slice (some ⟨b, o, none⟩) n c) n (scells L)) (hl : L.length = n) (i : Nat) (hi : i ≤ n) (hn : n ≤ c) : Strs w (.slice (if c = i then some ⟨b, o, none⟩ else some ⟨b, o + i, none⟩) (n - i) (c - i)) (L.drop i) := by
  have := rd_tail h i hi hn
  unfold Strs scells at *
  rw [List.length_drop, hl, List.map_drop]
  exact this
end Go.Proofs.YtjlnompmhgjaaaaGreat


/- A row of texts behind sorting and compacting. -/
namespace Go.Proofs.YtjlnompmhgjaaaaGreat
open Go.RowKit Go.Sort

end Go.Proofs.YtjlnompmhgjaaaaGreat


/- put of the program. -/
namespace Go.Proofs.YtjlnompmhgjaaaaGreat
open Go.RowKit Go.Sort

end Go.Proofs.YtjlnompmhgjaaaaGreat


/- Texts in ascending order: what inserting makes. No program is in sight. -/
namespace Go.Proofs.YtjlnompmhgjaaaaGreat
open Go.RowKit Go.Sort

noncomputable def insA : List ByteArray → ByteArray → List ByteArray
  | [], s => [s]
  | x :: L, s => if Op.bytesLess x.toList s.toList = true then x :: insA L s else @ite _ (x = s) (Classical.propDecidable _) (x :: L) (s :: x :: L)
theorem insA_mem (L : List ByteArray) (s y : ByteArray) : y ∈ insA L s ↔ y ∈ L ∨ y = s := by
  induction L with
  | nil => simp [insA]
  | cons x L ih =>
    unfold insA
    split
    · rw [List.mem_cons, ih, List.mem_cons, or_assoc]
    · split
      · rename_i h
        subst h
        rw [List.mem_cons]
        exact ⟨.inl, fun h => h.elim id .inl⟩
      · simp only [List.mem_cons]
        constructor
        · rintro (h | h | h)
          · exact .inr h
          · exact .inl (.inl h)
          · exact .inl (.inr h)
        · rintro ((h | h) | h)
          · exact .inr (.inl h)
          · exact .inr (.inr h)
          · exact .inl h
theorem blt_iff (a b : ByteArray) : Op.bytesLess a.toList b.toList = true ↔ a.data.toList < b.data.toList := by
  rw [bytesLess_eq, Lib.toList_data, Lib.toList_data, decide_eq_true_eq]
theorem insA_up {L : List ByteArray} {s : ByteArray} (h : Up L) : Up (insA L s) := by
  induction L with
  | nil => exact List.pairwise_singleton _ _
  | cons x L ih =>
    obtain ⟨h3, h4⟩ := List.pairwise_cons.1 h
    unfold insA
    split
    · rename_i hb
      refine List.pairwise_cons.2 ⟨fun y hy => ?_, ih h4⟩
      rcases (insA_mem L s y).1 hy with hy | rfl
      · exact h3 y hy
      · exact (blt_iff _ _).1 hb
    · rename_i hb
      split
      · exact h
      · rename_i hne
        have hlt : s.data.toList < x.data.toList := by
          have h1 : ¬ x.data.toList < s.data.toList := fun h => hb ((blt_iff _ _).2 h)
          exact blt_le (List.not_lt.1 h1) fun e => hne (bdata_inj e.symm)
        refine List.pairwise_cons.2 ⟨fun y hy => ?_, h⟩
        rcases List.mem_cons.1 hy with rfl | hy
        · exact hlt
        · exact List.lt_trans hlt (h3 y hy)
def Ahd (L : List ByteArray) (s : ByteArray) (j : Nat) : Prop := ∀ i, i < j → Op.bytesLess (st L i).toList s.toList = true
theorem Ahd.zero (L : List ByteArray) (s : ByteArray) : Ahd L s 0 := fun i hi => absurd hi (by omega)
theorem Ahd.succ {L : List ByteArray} {s : ByteArray} {j : Nat} (h : Ahd L s j) (h1 : Op.bytesLess (st L j).toList s.toList = true) : Ahd L s (j + 1) := by
  intro i hi
  rcases Nat.lt_or_ge i j with hk | hk
  · exact h i hk
  · obtain rfl : i = j := by omega
    exact h1
theorem insA_ahd {L : List ByteArray} {s : ByteArray} : ∀ {j : Nat}, j ≤ L.length → Ahd L s j → insA L s = L.take j ++ insA (L.drop j) s := by
  induction L with
  | nil => intro j hj _; obtain rfl : j = 0 := by simpa using hj
           rfl
  | cons x L ih =>
    intro j hj h
    match j with
    | 0 => rfl
    | j + 1 =>
      have h0 := h 0 (by omega)
      have e : insA (x :: L) s = x :: insA L s := by
        rw [insA, if_pos (by simpa [st] using h0)]
      rw [e, ih (j := j) (by simpa using hj) (fun i hi => by simpa [st] using h (i + 1) (by omega))]
      rfl
theorem insA_end {L : List ByteArray} {s : ByteArray} (h : Ahd L s L.length) : L.take L.length ++ [s] ++ L.drop L.length = insA L s := by
  rw [insA_ahd (Nat.le_refl _) h]
  simp [insA]
theorem insA_mid {L : List ByteArray} {s : ByteArray} {j : Nat} (hj : j < L.length) (h : Ahd L s j) (h1 : Op.bytesLess (st L j).toList s.toList = false) (h2 : st L j ≠ s) : L.take j ++ [s] ++ L.drop j = insA L s := by
  rw [insA_ahd (by omega) h, List.drop_eq_getElem_cons hj]
  rw [← st_get hj] at h1 h2
  rw [insA, if_neg (by rw [h1]; decide), if_neg h2]
  simp
theorem insA_same {L : List ByteArray} {s : ByteArray} {j : Nat} (hj : j < L.length) (h : Ahd L s j) (h1 : Op.bytesLess (st L j).toList s.toList = false) (h2 : st L j = s) : insA L s = L := by
  rw [insA_ahd (by omega) h, List.drop_eq_getElem_cons hj]
  rw [← st_get hj] at h1 h2
  rw [insA, if_neg (by rw [h1]; decide), if_pos h2, ← List.drop_eq_getElem_cons hj, List.take_append_drop]
end Go.Proofs.YtjlnompmhgjaaaaGreat


/- l02Insert, l22With of the reference at an ascending list: what they make. -/
namespace Go.Proofs.YtjlnompmhgjaaaaGreat
open Go.RowKit

end Go.Proofs.YtjlnompmhgjaaaaGreat


/- The formulas of all worlds by the reference: what holds on the way. -/
namespace Go.Proofs.YtjlnompmhgjaaaaGreat
open Go.RowKit
open Fm (Nd Tree)

def lbS (m : Nat) (O : Nat → Option Tree) (j : Nat) : List Tree := ((mb m j).map O).filterMap id
def lgS (m : Nat) (O : Nat → Option Tree) (j : Nat) : Bool := !((mb m j).map O).all (·.isSome)
theorem lbS_zero (m : Nat) (O : Nat → Option Tree) : lbS m O 0 = [] := by simp [lbS, mb]
theorem lgS_zero (m : Nat) (O : Nat → Option Tree) : lgS m O 0 = false := by simp [lgS, mb]
theorem lbS_no {m j : Nat} {O : Nat → Option Tree} (h : m.testBit j = false) : lbS m O (j + 1) = lbS m O j ∧ lgS m O (j + 1) = lgS m O j := by unfold lbS lgS; rw [mb_no h]; exact ⟨rfl, rfl⟩
theorem lbS_some {m j : Nat} {O : Nat → Option Tree} {t : Tree} (h : m.testBit j = true) (ho : O j = some t) : lbS m O (j + 1) = lbS m O j ++ [t] ∧ lgS m O (j + 1) = lgS m O j := by
  unfold lbS lgS
  rw [mb_yes h, List.map_append, List.filterMap_append, List.all_append]
  simp [ho]
theorem lbS_none {m j : Nat} {O : Nat → Option Tree} (h : m.testBit j = true) (ho : O j = none) : lbS m O (j + 1) = lbS m O j ∧ lgS m O (j + 1) = true := by
  unfold lbS lgS
  rw [mb_yes h, List.map_append, List.filterMap_append, List.all_append]
  simp [ho]
theorem lbS_len (m : Nat) (O : Nat → Option Tree) (j : Nat) : (lbS m O j).length ≤ j := by
  unfold lbS
  refine Nat.le_trans (List.length_filterMap_le ..) ?_
  rw [List.length_map]
  exact mb_len m j
theorem lbS_sm {m j : Nat} {O : Nat → Option Tree} (hs : ∀ i T, O i = some T → (Fm.enc T).length ≤ 40) : ∀ a ∈ lbS m O j, (Fm.enc a).length ≤ 40 := by
  intro a ha
  obtain ⟨o, ho, rfl⟩ := List.mem_filterMap.1 ha
  obtain ⟨i, hi, he⟩ := List.mem_map.1 ho
  exact hs i _ he
theorem upT_large {m n : Nat} {O : Nat → Option Tree} (lt : List Tree) (hm : m < 2 ^ n) (hn : n ≤ 30) (h : lgS m O n = true) : upT lt ((mbs m).map O) = none := by
  have e : mbs m = mb m n := mb_top hm 30 hn
  rw [e]
  unfold upT
  rw [if_neg]
  unfold lgS at h
  simpa using h
theorem upT_small {m n : Nat} {O : Nat → Option Tree} (lt : List Tree) (hm : m < 2 ^ n) (hn : n ≤ 30) (h : lgS m O n = false) :
    upT lt ((mbs m).map O) = if (Fm.enc (jnT .and (.imp .fls .fls) (lt ++ (srtT (lbS m O n)).map .dia ++ [.box (jnT .or .fls (srtT (lbS m O n)))]))).length ≤ 40 then some (jnT .and (.imp .fls .fls) (lt ++ (srtT (lbS m O n)).map .dia ++ [.box (jnT .or .fls (srtT (lbS m O n)))])) else none := by
  have e : mbs m = mb m n := mb_top hm 30 hn
  rw [e]
  unfold upT
  rw [if_pos (by unfold lgS at h; simpa using h)]
  rfl
theorem putS_snocW (L : List ByteArray) (s : ByteArray) : insA (putS L) s = putS (L ++ [s]) :=
  up_ext (insA_up (putS_up L)) (putS_up _) fun x => by rw [insA_mem, putS_mem, putS_mem, List.mem_append, List.mem_singleton]
theorem putS_nilW : putS [] = [] := List.eq_nil_of_length_eq_zero (Nat.le_zero.1 (putS_lenW []))
theorem st_tx {L : List Tree} {i : Nat} (h : i < L.length) : st (L.map tx) i = tx (L.getD i .fls) := by simp [st, List.getD, h]
def Apt (v s : Value) : Prop := ∀ b, v.ownBlock = some b → s.ownBlock ≠ some b
theorem Apt.symm {v s : Value} (h : Apt v s) : Apt s v := fun b hb hv => h b hv hb
theorem Apt.app {w : World} {v v' s : Value} (h : Apt v s) (hs : ∀ b, s.ownBlock = some b → b < w.heap.size) (ha : v'.ownBlock = v.ownBlock ∨ v'.ownBlock = some w.heap.size) : Apt v' s := by
  intro b hb hsb
  rcases ha with ha | ha
  · exact h b (ha ▸ hb) hsb
  · rw [ha] at hb
    simp only [Option.some.injEq] at hb
    have := hs b hsb
    omega
theorem RowT.lt {w : World} {B : Nat} {v : Value} {us : List Value} {L : List Tree} (h : RowT w B v us L) : ∀ b, v.ownBlock = some b → b < w.heap.size := fun b hb => (h.r.lt b hb).2
theorem RowT.other {w w' : World} {B B' : Nat} {v vo : Value} {us uso : List Value} {L : List Tree} (h : RowT w B v us L) (hv : OwnV w B' vo uso) (ha : Apt v vo) (hg : w.grownBy w' vo.ownBlock) : RowT w' B v us L := by
  rcases hv.2 with ⟨rfl, _⟩ | ⟨g, cap, cur, rfl, _, hh, _⟩
  · exact h.grew (grew_none hg)
  · exact ⟨own_only h.r (show Only g w w' from hg) (fun he => ha g he rfl), h.l, fun i hi => own_only (h.o i hi) (show Only g w w' from hg) (own_ne (h.o i hi) hh tyW1)⟩
theorem RowT.empty (w : World) : RowT (w.alloc (.cells #[] 31)) w.heap.size (.slice (some ⟨w.heap.size, 0, none⟩) 0 0) [] [] := ⟨own_empty w, rfl, fun i hi => absurd hi (by simp)⟩
theorem wpList_appV2 {ops : Array Oper} {rest : List Oper} {o : Oper} {a : Act} {Q : Exit → Act → World → Prop} {w w0 : World} (s x : Operand) (hgd : o.guard = none)
    (ho : o.op = .call { callee := .builtin .append, args := #[s, x], argTypes := #[48, 48] })
    (v : Value) (us : List Value) (hs : a.eval s = v) (hown : OwnV w w0.heap.size v us) (hg : Grew w0 w) (vx u : Value) (hx : a.eval x = vx) (hr : Rd w 1 vx 1 [u]) (h1 : u.oneCell' = true) (hn : us.length ≤ 1048576)
    (h : ∀ v' w', OwnV w' w0.heap.size v' (us ++ [u]) → Grew w0 w' → w.grownBy w' v.ownBlock → (v'.ownBlock = v.ownBlock ∨ v'.ownBlock = some w.heap.size) → wpList Tryz.prog ops Q rest (a.put o.dst v') w') : wpList Tryz.prog ops Q (o :: rest) a w := by
  obtain ⟨i0, hi0, hz0, hz1, hz2⟩ := info_parts infoSl
  refine wpList_append_rd w hgd s x _ ho w0.heap.size 31 i0 _ 1 24 Tryz.underlying48 hi0 hz0 hz1 hz2 rfl (by omega) v us.length us hs hown vx 1 [u] hx hr (by simpa using h1) (by unfold maxLen; omega) (by omega) hg.size ?_
  intro v' w' h1 h2 h3
  refine h v' w' ?_ (hg.grown h2 fun k hk => (hown.lt k hk).1) h2 h3
  unfold OwnV
  rw [List.length_append]
  exact h1
structure RowO (w : World) (B : Nat) (v : Value) (us : List Value) (n : Nat) (O : Nat → Option Tree) : Prop where
  r : OwnV w B v us
  l : us.length = n
  o : ∀ i, i < n → OptF w 0 (us.getD i (.bool false)) (O i)
theorem RowO.grew {w w' : World} {B n : Nat} {v : Value} {us : List Value} {O : Nat → Option Tree} (h : RowO w B v us n O) (hg : Grew w w') : RowO w' B v us n O := ⟨own_grew h.r hg, h.l, fun i hi => (h.o i hi).grew hg⟩
theorem RowO.base {w : World} {B B' n : Nat} {v : Value} {us : List Value} {O : Nat → Option Tree} (h : RowO w B v us n O) (hb : B' ≤ B) : RowO w B' v us n O := ⟨own_base h.r hb, h.l, h.o⟩
theorem OptF.app {w w' : World} {B B' : Nat} {u v : Value} {us : List Value} {o : Option Tree} (h : OptF w B u o) (hv : OwnV w B' v us) (hg : w.grownBy w' v.ownBlock) : OptF w' B u o := by
  cases o with
  | none => exact h
  | some T => exact own_app (show Own w B u (Fm.enc T) from h) hv hg
theorem RowO.snoc {w w' : World} {B n : Nat} {v v' u : Value} {us : List Value} {O : Nat → Option Tree} (h : RowO w B v us n O) (hu : OptF w 0 u (O n)) (hg : w.grownBy w' v.ownBlock) (hv : OwnV w' B v' (us ++ [u])) : RowO w' B v' (us ++ [u]) (n + 1) O := by
  refine ⟨hv, by rw [List.length_append, h.l]; rfl, fun i hi => ?_⟩
  rw [List.getD_eq_getElem?_getD]
  rcases Nat.lt_or_ge i n with hk | hk
  · rw [List.getElem?_append_left (by rw [h.l]; exact hk), ← List.getD_eq_getElem?_getD]
    exact (h.o i hk).app h.r hg
  · obtain rfl : i = n := by omega
    rw [List.getElem?_append_right (by rw [h.l]; exact Nat.le_refl _), h.l, Nat.sub_self]
    exact hu.app h.r hg
theorem RowO.slice {w : World} {B n : Nat} {v : Value} {us : List Value} {O : Nat → Option Tree} (h : RowO w B v us n O) : ∃ A c, v = .slice A n c := by
  rcases h.r.2 with ⟨rfl, h0⟩ | ⟨g, cap, cur, rfl, hB, hh, hnc, hcm, hcs, htk⟩
  · exact ⟨none, 0, by rw [← h.l, h0]⟩
  · exact ⟨_, _, by rw [h.l]⟩
theorem RowO.at_ {w : World} {B n : Nat} {v : Value} {us : List Value} {O : Nat → Option Tree} (h : RowO w B v us n O) {i : Nat} (hi : i < n) :
    ∃ g c u, v = .slice (some ⟨g, 0, none⟩) n c ∧ (∀ W, Grew w W → W.cell? ⟨g, i, none⟩ = some u) ∧ OptF w 0 u (O i) := by
  have hl := h.l
  rcases h.r.2 with ⟨rfl, h0⟩ | ⟨g, cap, cur, rfl, hB, hh, hnc, hcm, hcs, htk⟩
  · omega
  · have hiu : i < us.length := by omega
    refine ⟨g, cap, us.getD i (.bool false), by rw [hl], fun W hW => ?_, h.o i hi⟩
    rw [(hW.cell (p := ⟨g, i, none⟩) (blk_lt hh)), blk_cell hh]
    have e : us[i]? = some (us.getD i (.bool false)) := by rw [List.getElem?_eq_getElem hiu]; simp [List.getD, hiu]
    rw [← e, ← htk, List.getElem?_take, if_pos (by omega)]
    simp
def GivesRO (w : World) (n : Nat) (O : Nat → Option Tree) : Ending → World → Prop := fun e w' => ∃ r us, e = .returned r ∧ RowO w' w.heap.size r us n O ∧ Grew w w'
end Go.Proofs.YtjlnompmhgjaaaaGreat


/- l02Insert of the reference at a row of the call's own: the result is one too. -/
namespace Go.Proofs.YtjlnompmhgjaaaaGreat
open Go.RowKit

def GivesOS (w : World) (B : Nat) (K : List ByteArray) (e : Ending) (w' : World) : Prop := ∃ u, e = .returned u ∧ OwnS w' B u K ∧ Grew w w'
theorem OwnS.otherN {w w' : World} {B B' : Nat} {v vo : Value} {L : List ByteArray} {uso : List Value} (h : OwnS w B v L) (hv : OwnV w B' vo uso) (hg : w.grownBy w' vo.ownBlock) : OwnS w' B v L := by
  rcases hv.2 with ⟨rfl, _⟩ | ⟨g, cap, cur, rfl, _, hh, _⟩
  · exact own_grew h ⟨hg.os, hg.tape, hg.output, hg.size, fun i hi => hg.block i hi (by simp [Value.ownBlock])⟩
  · exact own_only h (show Only g w w' from hg) (own_ne h hh (by decide))
set_option maxHeartbeats 2000000 in
theorem l02InsertO_c (v : Value) (L : List ByteArray) (s : ByteArray) (Bs : Nat) (w : World) (h1 : OwnS w Bs v L) (hB0 : Bs ≤ w.heap.size) (hn : L.length ≤ 1048576) :
    Calls Tryz.prog 47 #[v, .string s] w (GivesOS w Bs (insA L s)) := by
  have hO := Lib.hid h1
  have h := h1.strs
  have HB0 := Lib.hid hB0
  clear h1 hB0
  have h0 := Lib.hid h
  rcases h.open_ with ⟨rfl, rfl⟩ | ⟨b, o, c, rfl, hc, hm, hb, hcell⟩
  · clear h
    have he := own_emptyS' w
    go_enter Tryz.func47, Tryz.ntmps47
    go_wp2_with fail
    refine wp_loop_rounds 1 ?_; rw [rounds_succ]
    go_wp2_with (first
      | (at_builtin; have hz := hown2; refine wpList_appSs (w0 := w) _ _ rfl rfl _ _ rfl hown2 hg2 _ [] rfl (Strs.nil_ _) (by simp) ?_; intro v3 w3 hown3 hg3 _)
      | (at_builtin; have hz := hown1; refine wpList_appStr (w0 := w) _ _ rfl rfl _ _ rfl (own_grew hown1 ((Grew.refl w1).alloc _)) (hg1.alloc _) _ s rfl (rd_lit _ _ _) (by simp) ?_; intro v2 w2 hown2 hg2 _; have hs2 := strs_slice hown2.strs; obtain ⟨A2, c2, rfl⟩ := hs2)
      | (at_builtin; refine wpList_appSs (w0 := w) _ _ rfl rfl _ [] rfl he ((Grew.refl w).alloc _) _ [] rfl (Strs.nil_ _) (by simp) ?_; intro v1 w1 hown1 hg1 _; have hs1 := strs_slice hown1.strs; obtain ⟨A1, c1, rfl⟩ := hs1))
    go_ret
    exact ⟨_, rfl, own_base (show OwnS _ _ _ _ from by simpa [insA] using hown3) HB0.out, hg3⟩
  have HC := Lib.hid hcell
  have HR := Lib.hid (show Rd w 1 (.slice (some ⟨b, o, none⟩) L.length c) L.length (scells L) from h)
  have HT := Lib.hid (fun i hi => rdS_take HR.out rfl i hi)
  have HD := Lib.hid (fun i hi => rdS_tail HR.out rfl i hi hc)
  obtain ⟨R, hR⟩ : ∃ R, R = insA L s := ⟨_, rfl⟩
  rw [← hR]
  have HM := Lib.hid (fun j hj (h : Ahd L s j) h1 h2 => hR.trans (insA_same hj h h1 h2))
  have HJ := Lib.hid (fun j (hj : j < L.length) (h : Ahd L s j) h1 h2 => (insA_mid hj h h1 h2).trans hR.symm)
  have HE := Lib.hid (fun (h : Ahd L s L.length) => (insA_end h).trans hR.symm)
  clear hR
  have HLt := Lib.hid (fun j => (by rw [List.length_take]; omega : (L.take j).length ≤ L.length))
  have HLd := Lib.hid (fun j => (by rw [List.length_drop]; omega : (L.drop j).length ≤ L.length))
  clear h hcell HR
  generalize hN : L.length = n at *
  clear hN
  go_enter Tryz.func47, Tryz.ntmps47
  go_wp2_with fail
  go_loopw [5] (fun i wr => ∃ j : Nat, j ≤ n ∧ i = .int .i64 j ∧ Grew w wr ∧ Hid (Ahd L s j)) (fun i _ => n - (intOf i).toNat)
  case atStart => exact ⟨0, Nat.zero_le _, rfl, Grew.refl _, Lib.hid (Ahd.zero L s)⟩
  case round =>
    obtain ⟨j, hj, rfl, hB, HA⟩ := hrel
    have he := own_emptyS' wr
    have hT := Lib.hid (HT.out j hj)
    have hD := Lib.hid (HD.out j hj)
    have hlt1 := HLt.out j
    have hld1 := HLd.out j
    have hb1 := hB.size
    by_cases hlt : j < n
    · have k1 := HC.out j hlt _ hB
      have hM := Lib.hid (HM.out j hlt HA.out)
      have hJ := Lib.hid (HJ.out j hlt HA.out)
      have hS := Lib.hid (fun h => HA.out.succ (j := j) h)
      have hcj : ¬ c = j := by omega
      rw [if_neg hcj] at hD
      generalize st L j = x at *
      generalize L.take j = T at *
      generalize L.drop j = U at *
      cases hl : Op.bytesLess x.toList s.toList with
      | true =>
        go_wp2_with fail
        go_roundw
        case rel => exact ⟨j + 1, by omega, by go_num, hB, Lib.hid (hS.out hl)⟩
        case measure => simp [intOf]; omega
      | false =>
        by_cases hx : x = s
        · have hv := Lib.hid (hM.out hl hx)
          subst hx
          have q1 := bytes_eq' x
          go_wp2_with fail
          go_ret
          exact ⟨_, rfl, by rw [hv.out]; exact own_grew hO.out hB, hB⟩
        · have q1 := bytes_ne' (fun e : s = x => hx e.symm)
          have q2 := bytes_ne' hx
          have he1 : OwnS (wr.alloc (.cells #[] 9)) w.heap.size (.slice (some ⟨wr.heap.size, 0, none⟩) 0 0) [] := World.ownsRow_lit (e := 9) (size := 1) wr #[] 0 hb1 (by omega) rfl
          go_wp2_with (first
            | (at_builtin; have hz := hown2; refine wpList_appSs (w0 := w) _ _ rfl rfl _ _ rfl hown2 hg2 _ U rfl (Strs.grew hD.out hg2) (by first | omega | (simp; omega)) ?_; intro v3 w3 hown3 hg3 _)
            | (at_builtin; have hz := hown1; refine wpList_appStr (w0 := w) _ _ rfl rfl _ _ rfl (own_grew hown1 ((Grew.refl w1).alloc _)) (hg1.alloc _) _ s rfl (rd_lit _ _ _) (by first | omega | (simp; omega)) ?_; intro v2 w2 hown2 hg2 _; have hs2 := strs_slice hown2.strs; rw [List.length_append, List.length_singleton] at hs2; obtain ⟨A2, c2, rfl⟩ := hs2)
            | (at_builtin; refine wpList_appSs (w0 := w) _ _ rfl rfl _ [] rfl he1 (hB.alloc _) _ T rfl (Strs.grew hT.out (hB.alloc _)) (by first | omega | (simp; omega)) ?_; intro v1 w1 hown1 hg1 _; rw [List.nil_append] at hown1; have hs1 := strs_slice hown1.strs; obtain ⟨A1, c1, rfl⟩ := hs1))
          go_ret
          exact ⟨_, rfl, by rw [← hJ.out hl hx]; exact own_base hown3 HB0.out, hg3⟩
    · obtain rfl : j = n := by omega
      have hz1 := Lib.hid (HE.out HA.out)
      generalize L.take j = T at *
      generalize L.drop j = U at *
      have he1 : OwnS (wr.alloc (.cells #[] 9)) w.heap.size (.slice (some ⟨wr.heap.size, 0, none⟩) 0 0) [] := World.ownsRow_lit (e := 9) (size := 1) wr #[] 0 hb1 (by omega) rfl
      by_cases hcj : c = j
      · subst hcj
        rw [if_pos rfl, Nat.sub_self] at hD
        go_wp2_with (first
          | (at_builtin; have hz := hown2; refine wpList_appSs (w0 := w) _ _ rfl rfl _ _ rfl hown2 hg2 _ U rfl (Strs.grew hD.out hg2) (by first | omega | (simp; omega)) ?_; intro v3 w3 hown3 hg3 _)
          | (at_builtin; have hz := hown1; refine wpList_appStr (w0 := w) _ _ rfl rfl _ _ rfl (own_grew hown1 ((Grew.refl w1).alloc _)) (hg1.alloc _) _ s rfl (rd_lit _ _ _) (by first | omega | (simp; omega)) ?_; intro v2 w2 hown2 hg2 _; have hs2 := strs_slice hown2.strs; rw [List.length_append, List.length_singleton] at hs2; obtain ⟨A2, c2, rfl⟩ := hs2)
          | (at_builtin; refine wpList_appSs (w0 := w) _ _ rfl rfl _ [] rfl he1 (hB.alloc _) _ T rfl (Strs.grew hT.out (hB.alloc _)) (by first | omega | (simp; omega)) ?_; intro v1 w1 hown1 hg1 _; rw [List.nil_append] at hown1; have hs1 := strs_slice hown1.strs; obtain ⟨A1, c1, rfl⟩ := hs1))
        go_ret
        exact ⟨_, rfl, by rw [← hz1.out]; exact own_base hown3 HB0.out, hg3⟩
      · rw [if_neg hcj, Nat.sub_self] at hD
        go_wp2_with (first
          | (at_builtin; have hz := hown2; refine wpList_appSs (w0 := w) _ _ rfl rfl _ _ rfl hown2 hg2 _ U rfl (Strs.grew hD.out hg2) (by first | omega | (simp; omega)) ?_; intro v3 w3 hown3 hg3 _)
          | (at_builtin; have hz := hown1; refine wpList_appStr (w0 := w) _ _ rfl rfl _ _ rfl (own_grew hown1 ((Grew.refl w1).alloc _)) (hg1.alloc _) _ s rfl (rd_lit _ _ _) (by first | omega | (simp; omega)) ?_; intro v2 w2 hown2 hg2 _; have hs2 := strs_slice hown2.strs; rw [List.length_append, List.length_singleton] at hs2; obtain ⟨A2, c2, rfl⟩ := hs2)
          | (at_builtin; refine wpList_appSs (w0 := w) _ _ rfl rfl _ [] rfl he1 (hB.alloc _) _ T rfl (Strs.grew hT.out (hB.alloc _)) (by first | omega | (simp; omega)) ?_; intro v1 w1 hown1 hg1 _; rw [List.nil_append] at hown1; have hs1 := strs_slice hown1.strs; obtain ⟨A1, c1, rfl⟩ := hs1))
        go_ret
        exact ⟨_, rfl, by rw [← hz1.out]; exact own_base hown3 HB0.out, hg3⟩
end Go.Proofs.YtjlnompmhgjaaaaGreat


/- l07World of the reference. -/
namespace Go.Proofs.YtjlnompmhgjaaaaGreat
open Go.RowKit
open Fm (Nd Tree)

theorem st_txW {L : List Tree} {i : Nat} (h : i < L.length) : st (L.map tx) i = tx (L.getD i .fls) := st_tx h
set_option maxHeartbeats 8000000 in
set_option maxRecDepth 100000 in
theorem l07World0_c (v u : Value) (A V : List Nat) (nv : Nat) (w : World) (h : Ints w v (zs A)) (hu : Ints w u (zs V)) (hA : Rl A) (h8 : A.length ≤ 8) (hVl : V.length = 6) (hV : Sm V) (hnv : nv ≤ 6) :
    Calls Tryz.prog 24 #[.agg #[.int .i64 (A.length : Int), v, u], .int .i64 (nv : Int), .slice none 0 0] w (GivesRO w A.length (wlT A V nv 0)) := by
  obtain ⟨w1, hw1, hal, y0, y1, y2⟩ := mdl_box1 w (.int .i64 (A.length : Int)) v u
  have hs1 : w1.heap.size = w.heap.size + 1 := by rw [hw1]; simp
  obtain ⟨w2, hw2⟩ : ∃ w2, w2 = w1.alloc (.cells #[] 31) := ⟨_, rfl⟩
  have hg2 : Grew w1 w2 := by rw [hw2]; exact (Grew.refl w1).alloc _
  have HR0 : Hid (RowO w2 w1.heap.size (.slice (some ⟨w.heap.size + 1, 0, none⟩) 0 0) [] 0 (wlT A V nv 0)) := Lib.hid ⟨by rw [hw2, ← hs1]; exact own_empty w1, rfl, fun i hi => absurd hi (by omega)⟩
  have KBIT := Lib.hid (fun j x W (hj : j < 6) (hx : x < 64) => l01Bit_c (nt V j) x (Nat.lt_trans (hV.at_ (by omega)) (by decide)) hx W)
  have KVAR := Lib.hid (fun (j : Nat) (hj : j < 6) W => (show Calls Tryz.prog 45 #[.int .i64 (j : Int)] W (Gives W (Fm.enc (vr j))) from by rw [enc_vr hj]; exact l02Var_c (j : Int) W))
  have KNOT := Lib.hid (fun (j : Nat) (hj : j < 6) va W (hv : Nodes W va (Fm.enc (vr j))) => (show Calls Tryz.prog 46 #[va] W (Gives W (Fm.enc (.imp (vr j) .fls))) from by rw [enc_not]; exact l02Not_c va _ W hv (by rw [enc_vr hj]; simp [Fm.vari])))
  have HLIT := Lib.hid (fun x j => (show lit V x j = if (nt V j).testBit x = true then vr j else .imp (vr j) .fls from rfl))
  have HL1 := Lib.hid (fun x j => lits_succ V j x)
  have HL0 := Lib.hid (fun x => (show lits V 0 x = [] from rfl))
  have HLS := Lib.hid (fun x => lits_sm V nv x)
  have HLN := Lib.hid (fun x => lits_len V nv x)
  have KA2 := Lib.hid (fun va (L : List Tree) W (hv : Lists W va (L.map Fm.enc)) (hL : L.length ≤ 100) (hS : ∀ a ∈ L, (Fm.enc a).length ≤ 1000) => (show Calls Tryz.prog 51 #[.int .i64 2, va] W (Gives W (Fm.enc (jnT .and (.imp .fls .fls) L))) from by
    rw [← allF_and]
    refine l02All_c 2 va _ W hv (by rw [List.length_map]; omega) ?_
    refine Nat.le_trans (flat_len (K := 1000) fun y hy => ?_) (by rw [List.length_map]; omega)
    obtain ⟨a, ha, rfl⟩ := List.mem_map.1 hy
    exact hS a ha))
  have HO := Lib.hid (fun x => wlT_zero A V nv x)
  have HT40 := Lib.hid (fun x => (wlT_len (A := A) (V := V) (k := 0) (w := x) hnv (wlT_zero A V nv x)))
  obtain ⟨A1, c1, rfl⟩ := ints_sliceN h
  have HCA1 := Lib.hid (fun h0 W (hW : Grew w1 W) => (show ∃ b o, A1 = some ⟨b, o, none⟩ ∧ ∀ i, i < A.length → W.cell? ⟨b, o + i, none⟩ = some (.int .i64 ((nt A i : Nat) : Int)) from by
    obtain ⟨b, o, he, hc⟩ := cellsN h h0
    exact ⟨b, o, he, fun i hi => hc i hi W (hal.trans hW)⟩))
  obtain ⟨A2, c2, rfl⟩ := ints_sliceN hu
  obtain ⟨b2, o2, rfl, hcv⟩ := cellsN hu (by omega)
  rw [hVl] at hcv y2 hw1 ⊢
  have HCV1 := Lib.hid (fun i (hi : i < 6) W (hW : Grew w1 W) => hcv i hi W (hal.trans hW))
  have HOL := Lib.hid hal
  clear h hu hA hVl hV hcv hal
  generalize hn : A.length = n at *
  clear hn
  have r1 := Grew.refl w1
  go_enter Tryz.func24, Tryz.ntmps24
  go_wp2_with fail
  simp only [← hw1]
  simp only [← hw2]
  clear hw1 hw2
  go_loopw [7, 8] (fun vo i wr => ∃ (x : Nat) (uo : List Value), x ≤ n ∧ i = .int .i64 (x : Int) ∧ Grew w1 wr ∧ Hid (RowO wr w1.heap.size vo uo x (wlT A V nv 0))) (fun _ i _ => n - (intOf i).toNat)
  case atStart => exact ⟨0, [], by omega, rfl, hg2, HR0⟩
  case round =>
    clear HR0 hg2
    obtain ⟨x, uo, hx, rfl, hG, hR⟩ := hrel
    have y00 := y0 wr hG
    obtain ⟨Ao, co, hvo⟩ := hR.out.slice
    rw [hvo] at hR ⊢
    by_cases hlt : x < n
    · obtain ⟨w3, rfl⟩ : ∃ w3, w3 = wr := ⟨wr, rfl⟩
      have hx0 : (0 : Int) ≤ (x : Int) := by omega
      have hx1 : (x : Int) < (n : Int) := by omega
      go_wp2_with fail
      go_loopw [9, 11] (fun vt i wx => ∃ (j : Nat) (us : List Value), j ≤ nv ∧ i = .int .i64 (j : Int) ∧ Grew w3 wx ∧ Hid (RowT wx w3.heap.size vt us (lits V j x))) (fun _ i _ => nv - (intOf i).toNat)
      case atStart => exact ⟨0, [], by omega, rfl, (Grew.refl w3).alloc _, Lib.hid (by rw [HL0.out]; exact RowT.empty w3)⟩
      case round =>
        obtain ⟨j, us, hj, rfl, hB, hT⟩ := hrel
        have hB1 := hG.trans hB
        by_cases hlj : j < nv
        · have z0 := y0 wr hB1
          have z2 := y2 wr hB1
          have k1 := HCV1.out j (by omega) wr hB1
          have hH := Lib.hid (KBIT.out j x wr (by omega) (by omega))
          have hLit := Lib.hid (HLIT.out x j)
          have hs := Lib.hid (HL1.out x j)
          have hul : us.length ≤ 1048576 := by rw [hT.out.l, lits_len]; omega
          have hV := Lib.hid (fun W => KVAR.out j (by omega) W)
          have hN := Lib.hid (fun va W hv => KNOT.out j (by omega) va W hv)
          generalize lit V x j = tl at *
          generalize hLJ : lits V j x = LJ at *
          generalize hLJ1 : lits V (j + 1) x = LJ1 at *
          have HLJ1 := Lib.hid hLJ1
          clear hLJ hLJ1
          generalize (nt V j).testBit x = b at *
          generalize nt V j = y at *
          have hj0 : (0 : Int) ≤ (j : Int) := by omega
          have hj1 : (j : Int) < 6 := by omega
          cases b with
          | true =>
            have hLt := hLit.out
            rw [if_pos rfl] at hLt
            have HLt := Lib.hid hLt
            clear hLit hLt
            go_wp2_with fail
            refine hH.out.mono ?_
            rintro e w5 ⟨rfl, hg5⟩
            go_wp2_with fail
            refine (hV.out _).mono ?_
            rintro e w7 ⟨u7, rfl, ho7, hg7⟩
            obtain ⟨A7, c7, rfl⟩ := nodes_slice ho7.nodes
            generalize (Fm.enc (vr j)).length = l7 at *
            have hga := (hg5.trans hg7).trans ((Grew.refl w7).alloc (.cells #[.slice A7 l7 c7] 31))
            go_wp2_with (first | (at_builtin; refine wpList_appV (w0 := w3) _ _ rfl rfl _ us rfl (hT.out.grew hga).r (hB.trans hga) _ _ rfl (rd_lit _ _ _) rfl hul ?_; intro v8 w8 hown8 hg8 hgr8))
            go_roundw
            case rel => exact ⟨j + 1, _, by omega, by go_num, hg8, Lib.hid (by rw [HLJ1.out, hs.out, HLt.out]; exact (hT.out.grew hga).snoc ((ho7.base (Nat.zero_le _)).grew ((Grew.refl w7).alloc _)) hgr8 hown8)⟩
            case measure => simp [intOf]; omega
          | false =>
            have hLt := hLit.out
            rw [if_neg (by simp)] at hLt
            have HLt := Lib.hid hLt
            clear hLit hLt
            go_wp2_with fail
            refine hH.out.mono ?_
            rintro e w5 ⟨rfl, hg5⟩
            go_wp2_with fail
            refine (hV.out _).mono ?_
            rintro e w6 ⟨u6, rfl, ho6, hg6⟩
            have hN2 := Lib.hid (hN.out _ _ ho6.nodes)
            obtain ⟨A6, c6, rfl⟩ := nodes_slice ho6.nodes
            generalize (Fm.enc (vr j)).length = l6 at *
            go_wp2_with fail
            refine hN2.out.mono ?_
            rintro e w7 ⟨u7, rfl, ho7, hg7⟩
            obtain ⟨A7, c7, rfl⟩ := nodes_slice ho7.nodes
            generalize (Fm.enc ((vr j).imp Tree.fls)).length = l7 at *
            have hga := ((hg5.trans hg6).trans hg7).trans ((Grew.refl w7).alloc (.cells #[.slice A7 l7 c7] 31))
            go_wp2_with (first | (at_builtin; refine wpList_appV (w0 := w3) _ _ rfl rfl _ us rfl (hT.out.grew hga).r (hB.trans hga) _ _ rfl (rd_lit _ _ _) rfl hul ?_; intro v8 w8 hown8 hg8 hgr8))
            go_roundw
            case rel => exact ⟨j + 1, _, by omega, by go_num, hg8, Lib.hid (by rw [HLJ1.out, hs.out, HLt.out]; exact (hT.out.grew hga).snoc ((ho7.base (Nat.zero_le _)).grew ((Grew.refl w7).alloc _)) hgr8 hown8)⟩
            case measure => simp [intOf]; omega
        · obtain rfl : j = nv := by omega
          have hK := Lib.hid (KA2.out _ _ wr hT.out.lists (by rw [HLN.out]; omega) (fun a ha => Nat.le_trans (HLS.out x a ha) (by omega)))
          obtain ⟨At, ct, hvt⟩ := hT.out.slice
          rw [HLN.out] at hvt
          rw [hvt] at hK ⊢
          have h40 := HT40.out x
          have hO := Lib.hid (HO.out x)
          have hR2 := Lib.hid (hR.out.grew hB)
          have huo : uo.length ≤ 1048576 := by rw [hR.out.l]; omega
          clear hT hR
          generalize jnT .and (.imp .fls .fls) (lits V j x) = T at *
          go_wp2_with fail
          refine hK.out.mono ?_
          rintro e w5 ⟨u5, rfl, ho5, hg5⟩
          obtain ⟨A5, c5, rfl⟩ := nodes_slice ho5.nodes
          generalize (Fm.enc T).length = l5 at *
          have hga := hg5.trans ((Grew.refl w5).alloc (.cells #[.slice A5 l5 c5] 31))
          go_wp2_with (first | (at_builtin; refine wpList_appV (w0 := w1) _ _ rfl rfl _ uo rfl (hR2.out.grew hga).r (hB1.trans hga) _ _ rfl (rd_lit _ _ _) rfl huo ?_; intro v8 w8 hown8 hg8 hgr8))
          go_roundw
          case rel => exact ⟨x + 1, _, by omega, by go_num, hg8, Lib.hid ((hR2.out.grew hga).snoc (by rw [hO.out]; exact (ho5.base (Nat.zero_le _)).grew ((Grew.refl w5).alloc _)) hgr8 hown8)⟩
          case measure => simp [intOf]; omega
    · obtain rfl : x = n := by omega
      have HE := Lib.hid (HOL.out.trans hG)
      have HR := Lib.hid (hR.out.base HOL.out.size)
      clear hR
      go_wp2_with fail
      go_ret
      exact ⟨_, _, rfl, HR.out, HE.out⟩
set_option maxHeartbeats 8000000 in
set_option maxRecDepth 100000 in
theorem l07WorldS_c (v u : Value) (A V : List Nat) (nv : Nat) (k Bb : Nat) (vb : Value) (ub : List Value) (w : World) (h : Ints w v (zs A)) (hu : Ints w u (zs V)) (hA : Rl A) (h8 : A.length ≤ 8) (hVl : V.length = 6) (hV : Sm V) (hnv : nv ≤ 6) (hb : RowO w Bb vb ub A.length (wlT A V nv k)) :
    Calls Tryz.prog 24 #[.agg #[.int .i64 (A.length : Int), v, u], .int .i64 (nv : Int), vb] w (GivesRO w A.length (wlT A V nv (k + 1))) := by
  obtain ⟨w1, hw1, hal, y0, y1, y2⟩ := mdl_box1 w (.int .i64 (A.length : Int)) v u
  have hs1 : w1.heap.size = w.heap.size + 1 := by rw [hw1]; simp
  obtain ⟨w2, hw2⟩ : ∃ w2, w2 = w1.alloc (.cells #[] 31) := ⟨_, rfl⟩
  have hg2 : Grew w1 w2 := by rw [hw2]; exact (Grew.refl w1).alloc _
  have HR0 : Hid (RowO w2 w1.heap.size (.slice (some ⟨w.heap.size + 1, 0, none⟩) 0 0) [] 0 (wlT A V nv (k + 1))) := Lib.hid ⟨by rw [hw2, ← hs1]; exact own_empty w1, rfl, fun i hi => absurd hi (by omega)⟩
  have KBIT := Lib.hid (fun j x W (hj : j < 6) (hx : x < 64) => l01Bit_c (nt V j) x (Nat.lt_trans (hV.at_ (by omega)) (by decide)) hx W)
  have KVAR := Lib.hid (fun (j : Nat) (hj : j < 6) W => (show Calls Tryz.prog 45 #[.int .i64 (j : Int)] W (Gives W (Fm.enc (vr j))) from by rw [enc_vr hj]; exact l02Var_c (j : Int) W))
  have KNOT := Lib.hid (fun (j : Nat) (hj : j < 6) va W (hv : Nodes W va (Fm.enc (vr j))) => (show Calls Tryz.prog 46 #[va] W (Gives W (Fm.enc (.imp (vr j) .fls))) from by rw [enc_not]; exact l02Not_c va _ W hv (by rw [enc_vr hj]; simp [Fm.vari])))
  have HLIT := Lib.hid (fun x j => (show lit V x j = if (nt V j).testBit x = true then vr j else .imp (vr j) .fls from rfl))
  have HL1 := Lib.hid (fun x j => lits_succ V j x)
  have HL0 := Lib.hid (fun x => (show lits V 0 x = [] from rfl))
  have HLS := Lib.hid (fun x => lits_sm V nv x)
  have HLN := Lib.hid (fun x => lits_len V nv x)
  have KA2 := Lib.hid (fun va (L : List Tree) W (hv : Lists W va (L.map Fm.enc)) (hL : L.length ≤ 100) (hS : ∀ a ∈ L, (Fm.enc a).length ≤ 1000) => (show Calls Tryz.prog 51 #[.int .i64 2, va] W (Gives W (Fm.enc (jnT .and (.imp .fls .fls) L))) from by
    rw [← allF_and]
    refine l02All_c 2 va _ W hv (by rw [List.length_map]; omega) ?_
    refine Nat.le_trans (flat_len (K := 1000) fun y hy => ?_) (by rw [List.length_map]; omega)
    obtain ⟨a, ha, rfl⟩ := List.mem_map.1 hy
    exact hS a ha))
  have HU1 := Lib.hid (fun x (hx : x < A.length) (h : lgS (nt A x) (wlT A V nv k) A.length = true) => (show wlT A V nv (k + 1) x = none from by rw [wlT_succ]; exact upT_large _ (hA.lt hx) (by omega) h))
  have HU2 := Lib.hid (fun x (hx : x < A.length) (h : lgS (nt A x) (wlT A V nv k) A.length = false) => (wlT_succ A V nv k x).trans (upT_small (lits V nv x) (hA.lt hx) (by omega) h))
  have HSM := Lib.hid (fun m j => lbS_sm (m := m) (j := j) (fun i T (hT : wlT A V nv k i = some T) => wlT_len hnv hT))
  have H40 := Lib.hid (fun i T (hT : wlT A V nv k i = some T) => wlT_len hnv hT)
  have KBA := Lib.hid (fun x y W (hx : x < A.length) (hy : y < 64) => l01Bit_c (nt A x) y (Nat.lt_trans (hA.sm.at_ hx) (by decide)) hy W)
  have KTX := Lib.hid (fun t va W (hv : Nodes W va (Fm.enc t)) (h : (Fm.enc t).length ≤ 40) => (show Calls Tryz.prog 48 #[va] W fun e w' => e = .returned (.string (tx t)) ∧ Grew W w' from l02Text_c t va W hv (by omega)))
  have KIN := Lib.hid (fun va (L : List Tree) t Bs W (hv : OwnS W Bs va (putS (L.map tx))) (hB : Bs ≤ W.heap.size) (hL : L.length ≤ 8) => (show Calls Tryz.prog 47 #[va, .string (tx t)] W (GivesOS W Bs (putS ((L ++ [t]).map tx))) from by
    have := l02InsertO_c va (putS (L.map tx)) (tx t) Bs W hv hB (by have := putS_lenW (L.map tx); rw [List.length_map] at this; omega)
    rwa [putS_snocW, show L.map tx ++ [tx t] = (L ++ [t]).map tx by simp] at this))
  have KGO := Lib.hid (fun t W (h : (Fm.enc t).length ≤ 40) => (show Calls Tryz.prog 49 #[.string (tx t)] W fun e w' => ∃ a, e = .returned (.tuple #[a, .bool (gd (tx t))]) ∧ Own w' W.heap.size a (Fm.enc t) ∧ Grew W w' from by
    have := l02Good_c (tx t) W (by have := tx_size h; omega)
    unfold GivesG at this
    rwa [tx_pf h] at this))
  have KP6 := Lib.hid (fun va t W (hv : Nodes W va (Fm.enc t)) (ht : (Fm.enc t).length ≤ 40) => (show Calls Tryz.prog 50 #[.int .i64 6, va] W (Gives W (Fm.enc (.dia t))) from by
    rw [enc_dia]; exact l02Pre_c 6 va _ W hv (by omega)))
  have KP5 := Lib.hid (fun va t W (hv : Nodes W va (Fm.enc t)) (ht : (Fm.enc t).length ≤ 1000) => (show Calls Tryz.prog 50 #[.int .i64 5, va] W (Gives W (Fm.enc (.box t))) from by
    rw [enc_box]; exact l02Pre_c 5 va _ W hv (by omega)))
  have KA3 := Lib.hid (fun va (L : List Tree) W (hv : Lists W va (L.map Fm.enc)) (hL : L.length ≤ 8) (hS : ∀ a ∈ L, (Fm.enc a).length ≤ 40) => (show Calls Tryz.prog 51 #[.int .i64 3, va] W (Gives W (Fm.enc (jnT .or .fls L))) from by
    rw [← allF_or]
    refine l02All_c 3 va _ W hv (by rw [List.length_map]; omega) ?_
    refine Nat.le_trans (flat_len (K := 40) fun y hy => ?_) (by rw [List.length_map]; omega)
    obtain ⟨a, ha, rfl⟩ := List.mem_map.1 hy
    exact hS a ha))
  obtain ⟨Ab, cb, rfl⟩ := hb.slice
  have HB := Lib.hid hb
  generalize hO : wlT A V nv k = O at *
  have HBL := Lib.hid (fun m j => lbS_len m O j)
  obtain ⟨A1, c1, rfl⟩ := ints_sliceN h
  have HCA1 := Lib.hid (fun h0 W (hW : Grew w1 W) => (show ∃ b o, A1 = some ⟨b, o, none⟩ ∧ ∀ i, i < A.length → W.cell? ⟨b, o + i, none⟩ = some (.int .i64 ((nt A i : Nat) : Int)) from by
    obtain ⟨b, o, he, hc⟩ := cellsN h h0
    exact ⟨b, o, he, fun i hi => hc i hi W (hal.trans hW)⟩))
  obtain ⟨A2, c2, rfl⟩ := ints_sliceN hu
  obtain ⟨b2, o2, rfl, hcv⟩ := cellsN hu (by omega)
  rw [hVl] at hcv y2 hw1 ⊢
  have HCV1 := Lib.hid (fun i (hi : i < 6) W (hW : Grew w1 W) => hcv i hi W (hal.trans hW))
  have HOL := Lib.hid hal
  clear h hu hA hVl hV hcv hal hO hb
  generalize hn : A.length = n at *
  clear hn
  have r1 := Grew.refl w1
  go_enter Tryz.func24, Tryz.ntmps24
  go_wp2_with fail
  simp only [← hw1]
  simp only [← hw2]
  clear hw1 hw2
  go_loopw [7, 8] (fun vo i wr => ∃ (x : Nat) (uo : List Value), x ≤ n ∧ i = .int .i64 (x : Int) ∧ Grew w1 wr ∧ Hid (RowO wr w1.heap.size vo uo x (wlT A V nv (k + 1)))) (fun _ i _ => n - (intOf i).toNat)
  case atStart => exact ⟨0, [], by omega, rfl, hg2, HR0⟩
  case round =>
    clear HR0 hg2
    obtain ⟨x, uo, hx, rfl, hG, hR⟩ := hrel
    have y00 := y0 wr hG
    obtain ⟨Ao, co, hvo⟩ := hR.out.slice
    rw [hvo] at hR ⊢
    by_cases hlt : x < n
    · obtain ⟨w3, rfl⟩ : ∃ w3, w3 = wr := ⟨wr, rfl⟩
      have hx0 : (0 : Int) ≤ (x : Int) := by omega
      have hx1 : (x : Int) < (n : Int) := by omega
      go_wp2_with fail
      go_loopw [9, 11] (fun vt i wx => ∃ (j : Nat) (us : List Value), j ≤ nv ∧ i = .int .i64 (j : Int) ∧ Grew w3 wx ∧ Hid (RowT wx w3.heap.size vt us (lits V j x))) (fun _ i _ => nv - (intOf i).toNat)
      case atStart => exact ⟨0, [], by omega, rfl, (Grew.refl w3).alloc _, Lib.hid (by rw [HL0.out]; exact RowT.empty w3)⟩
      case round =>
        obtain ⟨j, us, hj, rfl, hB, hT⟩ := hrel
        have hB1 := hG.trans hB
        by_cases hlj : j < nv
        · have z0 := y0 wr hB1
          have z2 := y2 wr hB1
          have k1 := HCV1.out j (by omega) wr hB1
          have hH := Lib.hid (KBIT.out j x wr (by omega) (by omega))
          have hLit := Lib.hid (HLIT.out x j)
          have hs := Lib.hid (HL1.out x j)
          have hul : us.length ≤ 1048576 := by rw [hT.out.l, lits_len]; omega
          have hV := Lib.hid (fun W => KVAR.out j (by omega) W)
          have hN := Lib.hid (fun va W hv => KNOT.out j (by omega) va W hv)
          generalize lit V x j = tl at *
          generalize hLJ : lits V j x = LJ at *
          generalize hLJ1 : lits V (j + 1) x = LJ1 at *
          have HLJ1 := Lib.hid hLJ1
          clear hLJ hLJ1
          generalize (nt V j).testBit x = b at *
          generalize nt V j = y at *
          have hj0 : (0 : Int) ≤ (j : Int) := by omega
          have hj1 : (j : Int) < 6 := by omega
          cases b with
          | true =>
            have hLt := hLit.out
            rw [if_pos rfl] at hLt
            have HLt := Lib.hid hLt
            clear hLit hLt
            go_wp2_with fail
            refine hH.out.mono ?_
            rintro e w5 ⟨rfl, hg5⟩
            go_wp2_with fail
            refine (hV.out _).mono ?_
            rintro e w7 ⟨u7, rfl, ho7, hg7⟩
            obtain ⟨A7, c7, rfl⟩ := nodes_slice ho7.nodes
            generalize (Fm.enc (vr j)).length = l7 at *
            have hga := (hg5.trans hg7).trans ((Grew.refl w7).alloc (.cells #[.slice A7 l7 c7] 31))
            go_wp2_with (first | (at_builtin; refine wpList_appV (w0 := w3) _ _ rfl rfl _ us rfl (hT.out.grew hga).r (hB.trans hga) _ _ rfl (rd_lit _ _ _) rfl hul ?_; intro v8 w8 hown8 hg8 hgr8))
            go_roundw
            case rel => exact ⟨j + 1, _, by omega, by go_num, hg8, Lib.hid (by rw [HLJ1.out, hs.out, HLt.out]; exact (hT.out.grew hga).snoc ((ho7.base (Nat.zero_le _)).grew ((Grew.refl w7).alloc _)) hgr8 hown8)⟩
            case measure => simp [intOf]; omega
          | false =>
            have hLt := hLit.out
            rw [if_neg (by simp)] at hLt
            have HLt := Lib.hid hLt
            clear hLit hLt
            go_wp2_with fail
            refine hH.out.mono ?_
            rintro e w5 ⟨rfl, hg5⟩
            go_wp2_with fail
            refine (hV.out _).mono ?_
            rintro e w6 ⟨u6, rfl, ho6, hg6⟩
            have hN2 := Lib.hid (hN.out _ _ ho6.nodes)
            obtain ⟨A6, c6, rfl⟩ := nodes_slice ho6.nodes
            generalize (Fm.enc (vr j)).length = l6 at *
            go_wp2_with fail
            refine hN2.out.mono ?_
            rintro e w7 ⟨u7, rfl, ho7, hg7⟩
            obtain ⟨A7, c7, rfl⟩ := nodes_slice ho7.nodes
            generalize (Fm.enc ((vr j).imp Tree.fls)).length = l7 at *
            have hga := ((hg5.trans hg6).trans hg7).trans ((Grew.refl w7).alloc (.cells #[.slice A7 l7 c7] 31))
            go_wp2_with (first | (at_builtin; refine wpList_appV (w0 := w3) _ _ rfl rfl _ us rfl (hT.out.grew hga).r (hB.trans hga) _ _ rfl (rd_lit _ _ _) rfl hul ?_; intro v8 w8 hown8 hg8 hgr8))
            go_roundw
            case rel => exact ⟨j + 1, _, by omega, by go_num, hg8, Lib.hid (by rw [HLJ1.out, hs.out, HLt.out]; exact (hT.out.grew hga).snoc ((ho7.base (Nat.zero_le _)).grew ((Grew.refl w7).alloc _)) hgr8 hown8)⟩
            case measure => simp [intOf]; omega
        · obtain rfl : j = nv := by omega
          obtain ⟨At, ct, hvt⟩ := hT.out.slice
          rw [HLN.out] at hvt
          rw [hvt] at hT ⊢
          obtain ⟨w4, rfl⟩ : ∃ w4, w4 = wr := ⟨wr, rfl⟩
          obtain ⟨wA, hwA⟩ : ∃ wA, wA = w4.alloc (.cells #[] 9) := ⟨_, rfl⟩
          obtain ⟨wB, hwB⟩ : ∃ wB, wB = wA.alloc (.cells #[] 31) := ⟨_, rfl⟩
          have hsA : wA.heap.size = w4.heap.size + 1 := by rw [hwA]; simp
          have hg4A : Grew w4 wA := by rw [hwA]; exact (Grew.refl w4).alloc _
          have hgAB : Grew wA wB := by rw [hwB]; exact (Grew.refl wA).alloc _
          have hgB := hg4A.trans hgAB
          have hS0 : Hid (OwnS wB w3.heap.size (.slice (some ⟨w4.heap.size, 0, none⟩) 0 0) (putS ((lbS (nt A x) O 0).map tx))) := Lib.hid (by rw [lbS_zero, List.map_nil, putS_nilW]; have := (own_emptyS' w4).grew ((by rw [hwA] at hgAB; exact hgAB) : Grew _ wB); exact own_base this hB.size)
          have HSZ3 := Lib.hid (show w3.heap.size ≤ wB.heap.size by have := hB.size; have := hgB.size; omega)
          have hE0 : Hid (RowT wB w3.heap.size (.slice (some ⟨w4.heap.size + 1, 0, none⟩) 0 0) [] []) := Lib.hid (by have := RowT.empty wA; rw [hsA, ← hwB] at this; exact this.base (by have := hB.size; omega))
          have hTB := Lib.hid (hT.out.grew hgB)
          have hAp0 : Hid (Apt (.slice At j ct) (.slice (some ⟨w4.heap.size + 1, 0, none⟩) 0 0)) := Lib.hid (fun b hb hs => by
            have := hT.out.lt b hb
            simp [Value.ownBlock] at hs
            omega)
          have hg1B := hB1.trans hgB
          have hg3B := hB.trans hgB
          have hn0 : 0 < n := by omega
          have hn1 : decide (0 < n) = true := decide_eq_true hn0
          clear hT hsA hg4A hgAB
          go_wp2_with fail
          simp only [← hwA]
          simp only [← hwB]
          clear hwA hwB
          go_loopw [10, 12, 14] (fun lv tv i wx => ∃ (y : Nat), y ≤ n ∧ i = .int .i64 (y : Int) ∧ lv = .bool (lgS (nt A x) O y) ∧ Grew wB wx ∧ Hid (OwnS wx w3.heap.size tv (putS ((lbS (nt A x) O y).map tx)))) (fun _ _ i _ => n - (intOf i).toNat)
          case atStart => exact ⟨0, by omega, rfl, by rw [lgS_zero], Grew.refl _, hS0⟩
          case round =>
            clear hS0
            obtain ⟨y, hy, rfl, rfl, hB2, hS⟩ := hrel
            have hB3 := hg1B.trans hB2
            have z0 := y0 wr hB3
            by_cases hly : y < n
            · have z1 := y1 wr hB3
              obtain ⟨ba, oa, rfl, hca⟩ := HCA1.out (by omega) wr hB3
              have k1 := hca x hlt
              have hbit := Lib.hid (KBA.out x y wr hlt (by omega))
              obtain ⟨gb, cb2, uy, he, hcl, hob⟩ := HB.out.at_ hly
              injection he with e1 e2 e3
              subst e1 e3
              clear e2
              have hW := HOL.out.trans hB3
              replace hob := Lib.hid hob
              replace hcl := Lib.hid hcl
              have HLB := Lib.hid (HBL.out (nt A x) y)
              have hNO := Lib.hid (fun h => @lbS_no (nt A x) y O h)
              have hSO := Lib.hid (fun t h ho => @lbS_some (nt A x) y O t h ho)
              have hNN := Lib.hid (fun h ho => @lbS_none (nt A x) y O h ho)
              obtain ⟨As, cs, hvs⟩ := strs_slice hS.out.strs
              rw [hvs] at hS ⊢
              clear hca hvs
              generalize (putS ((lbS (nt A x) O y).map tx)).length = ls at *
              have hy0 : (0 : Int) ≤ (y : Int) := by omega
              have hy1 : (y : Int) < (n : Int) := by omega
              cases hbt : (nt A x).testBit y with
              | false =>
                obtain ⟨n1, n2⟩ := hNO.out hbt
                rw [hbt] at hbit
                have N1 := Lib.hid n1
                have N2 := Lib.hid n2
                clear n1 n2 hNO hSO hNN hob hcl hbt
                generalize lgS (nt A x) O y = lg at *
                generalize nt A x = ax at *
                go_wp2_with fail
                refine hbit.out.mono ?_
                rintro e w7 ⟨rfl, hg7⟩
                go_wp2_with fail
                go_roundw
                case rel => exact ⟨y + 1, by omega, by go_num, by rw [N2.out], hB2.trans hg7, Lib.hid (by rw [N1.out]; exact hS.out.grew hg7)⟩
                case measure => simp [intOf]; omega
              | true =>
                rw [hbt] at hbit
                cases ho : O y with
                | none =>
                  obtain ⟨n1, n2⟩ := hNN.out hbt ho
                  have N1 := Lib.hid n1
                  have N2 := Lib.hid n2
                  rw [ho] at hob
                  have hu : uy = .slice none 0 0 := hob.out
                  rw [hu] at hcl
                  clear n1 n2 hNO hSO hNN hob hbt ho hu
                  generalize hlg : lgS (nt A x) O y = lg at *
                  clear hlg
                  generalize nt A x = ax at *
                  go_wp2_with fail
                  refine hbit.out.mono ?_
                  rintro e w7 ⟨rfl, hg7⟩
                  have k2 := hcl.out w7 (hW.trans hg7)
                  cases lg with
                  | true =>
                    go_wp2_with fail
                    go_roundw
                    case rel => exact ⟨y + 1, by omega, by go_num, by rw [N2.out], hB2.trans hg7, Lib.hid (by rw [N1.out]; exact hS.out.grew hg7)⟩
                    case measure => simp [intOf]; omega
                  | false =>
                    go_wp2_with fail
                    go_roundw
                    case rel => exact ⟨y + 1, by omega, by go_num, by rw [N2.out], hB2.trans hg7, Lib.hid (by rw [N1.out]; exact hS.out.grew hg7)⟩
                    case measure => simp [intOf]; omega
                | some t =>
                  obtain ⟨n1, n2⟩ := hSO.out t hbt ho
                  have N1 := Lib.hid n1
                  have N2 := Lib.hid n2
                  have h40 := H40.out y t ho
                  rw [ho] at hob
                  have hou : Own w 0 uy (Fm.enc t) := hob.out
                  obtain ⟨bu, cu, hue⟩ := own_someW hou (Fm.enc_pos t)
                  rw [hue] at hcl hou
                  have hp := Fm.enc_pos t
                  have HOU := Lib.hid (fun W (hW : Grew w W) => (hou.grew hW).nodes)
                  have hKT := Lib.hid (fun W (hW : Grew w W) => KTX.out t _ W (HOU.out W hW) h40)
                  have hKI := Lib.hid (fun W (hv : OwnS W w3.heap.size (.slice As ls cs) (putS ((lbS (nt A x) O y).map tx))) (hz : w3.heap.size ≤ W.heap.size) => KIN.out _ (lbS (nt A x) O y) t w3.heap.size W hv hz (by have := HLB.out; omega))
                  rw [← n1] at hKI
                  clear n1 n2 hNO hSO hNN hob hbt ho hue hou
                  generalize lgS (nt A x) O y = lg at *
                  generalize hLB1 : lbS (nt A x) O (y + 1) = LB1 at *
                  have HLB1 := Lib.hid hLB1
                  clear hLB1
                  generalize lbS (nt A x) O y = LB at *
                  generalize nt A x = ax at *
                  generalize (Fm.enc t).length = lt1 at *
                  generalize tx t = tt at *
                  have hp1 : ¬ lt1 = 0 := by omega
                  have hp2 : ((lt1 : Int) == 0) = false := by simpa using hp1
                  go_wp2_with fail
                  refine hbit.out.mono ?_
                  rintro e w7 ⟨rfl, hg7⟩
                  have k2 := hcl.out w7 (hW.trans hg7)
                  have hW7 := hW.trans hg7
                  cases lg with
                  | true =>
                    go_wp2_with fail
                    refine (hKT.out _ hW7).mono ?_
                    rintro e w8 ⟨rfl, hg8⟩
                    go_wp2_with fail
                    refine (hKI.out _ (hS.out.grew (hg7.trans hg8)) (Nat.le_trans HSZ3.out (hB2.trans (hg7.trans hg8)).size)).mono ?_
                    rintro e w9 ⟨u9', rfl, hS9, hg9⟩
                    have HS9 := Lib.hid hS9
                    obtain ⟨A9, c9, rfl⟩ := strs_slice hS9.strs
                    clear hS9
                    generalize (putS (LB1.map tx)).length = l9 at *
                    go_wp2_with fail
                    go_roundw
                    case rel => exact ⟨y + 1, by omega, by go_num, by first | (rw [N2.out]; done) | (rw [N2.out, hp2]; done), hB2.trans ((hg7.trans hg8).trans hg9), Lib.hid (by rw [HLB1.out]; exact HS9.out)⟩
                    case measure => simp [intOf]; omega
                  | false =>
                    go_wp2_with fail
                    refine (hKT.out _ hW7).mono ?_
                    rintro e w8 ⟨rfl, hg8⟩
                    go_wp2_with fail
                    refine (hKI.out _ (hS.out.grew (hg7.trans hg8)) (Nat.le_trans HSZ3.out (hB2.trans (hg7.trans hg8)).size)).mono ?_
                    rintro e w9 ⟨u9', rfl, hS9, hg9⟩
                    have HS9 := Lib.hid hS9
                    obtain ⟨A9, c9, rfl⟩ := strs_slice hS9.strs
                    clear hS9
                    generalize (putS (LB1.map tx)).length = l9 at *
                    go_wp2_with fail
                    go_roundw
                    case rel => exact ⟨y + 1, by omega, by go_num, by first | (rw [N2.out]; done) | (rw [N2.out, hp2]; done), hB2.trans ((hg7.trans hg8).trans hg9), Lib.hid (by rw [HLB1.out]; exact HS9.out)⟩
                    case measure => simp [intOf]; omega
            · obtain rfl : y = n := by omega
              obtain ⟨LS, hLS⟩ : ∃ LS, LS = srtT (lbS (nt A x) O y) := ⟨_, rfl⟩
              have hLl : LS.length ≤ 8 := by
                have h1 := srtT_len (lbS (nt A x) O y)
                have h2 := HBL.out (nt A x) y
                rw [← hLS] at h1
                omega
              have HLSz := Lib.hid (fun a (ha : a ∈ LS) => (show (Fm.enc a).length ≤ 40 from HSM.out (nt A x) y a ((srtT_mem (HSM.out (nt A x) y)).1 (by rw [← hLS]; exact ha))))
              have hS2 : Hid (OwnS wr w3.heap.size u12 (LS.map tx)) := Lib.hid (by rw [hLS, srtT_tx (HSM.out (nt A x) y)]; exact hS.out)
              have hU1 := Lib.hid (HU1.out x hlt)
              have hU2 := Lib.hid (HU2.out x hlt)
              rw [← hLS] at hU2
              obtain ⟨As, cs, hvs⟩ := strs_slice hS2.out.strs
              rw [List.length_map] at hvs
              rw [hvs] at hS2 ⊢
              have HST := Lib.hid (fun (W : World) (hw : OwnS W w3.heap.size (.slice As LS.length cs) (LS.map tx)) (h0 : 0 < LS.length) => (show ∃ b o, As = some ⟨b, o, none⟩ ∧ ∀ i, i < LS.length → W.cell? ⟨b, o + i, none⟩ = some (.string (tx (LS.getD i .fls))) from by
                rcases hw.strs.open_ with ⟨_, h1⟩ | ⟨b, o, c', e, _, _, _, hc⟩
                · have := congrArg List.length h1
                  rw [List.length_map, List.length_nil] at this
                  omega
                · injection e with e1 e2 e3
                  exact ⟨b, o, e1, fun i hi => by rw [← st_txW hi]; exact hc i (by rw [List.length_map]; exact hi) W (Grew.refl W)⟩))
              have HTD := Lib.hid (fun j' (h : j' < LS.length) => @jl_snoc (lits V j x) LS j' h)
              have HTS := Lib.hid (fun j' (h : j' < LS.length) => (show LS.take (j' + 1) = LS.take j' ++ [LS.getD j' .fls] from by rw [List.take_succ_eq_append_getElem h]; simp [List.getD, h]))
              have HSJ := Lib.hid (fun j' (h : j' < LS.length) => HLSz.out (LS.getD j' .fls) (by rw [show LS.getD j' .fls = LS[j'] by simp [List.getD, h]]; exact List.getElem_mem h))
              have hP0 := Lib.hid (hTB.out.grew hB2)
              have hE1 := Lib.hid (hE0.out.grew hB2)
              have hg3w := hg3B.trans hB2
              obtain ⟨w5, rfl⟩ : ∃ w5, w5 = wr := ⟨wr, rfl⟩
              clear hS hLS hvs hTB hE0 HSM HBL HU1 HU2 HB H40 KBA KTX KIN
              generalize hn2 : LS.length = n2 at *
              generalize lgS (nt A x) O y = lg at *
              go_wp2_with fail
              go_loopw [9, 13, 15] (fun pv sv i wx => ∃ (q : Nat) (up us : List Value), q ≤ n2 ∧ i = .int .i64 (q : Int) ∧ Grew w3 wx ∧ Hid (OwnS wx w3.heap.size (.slice As n2 cs) (LS.map tx)) ∧ Hid (RowT wx w3.heap.size pv up (lits V j x ++ (LS.take q).map .dia)) ∧ Hid (RowT wx w3.heap.size sv us (LS.take q)) ∧ Hid (Apt pv sv)) (fun _ _ i _ => n2 - (intOf i).toNat)
              case atStart => exact ⟨0, _, _, by omega, rfl, hg3w, hS2, Lib.hid (by simpa using hP0.out), Lib.hid (by simpa using hE1.out), hAp0⟩
              case round =>
                clear hP0 hE1 hAp0 hS2
                obtain ⟨q, up, us, hq, rfl, hg34, hTS, hP, hS, hAp⟩ := hrel
                obtain ⟨Ap, cp, hvp⟩ := hP.out.slice
                obtain ⟨Aq, cq, hvq⟩ := hS.out.slice
                rw [hvp] at hP hAp ⊢
                rw [hvq] at hS hAp ⊢
                have hup : up.length ≤ 1048576 := by rw [hP.out.l, List.length_append, List.length_map, List.length_take, HLN.out]; omega
                have hus : us.length ≤ 1048576 := by rw [hS.out.l, List.length_take]; omega
                by_cases hlq : q < n2
                · obtain ⟨bt, ot, rfl, htc⟩ := HST.out wr hTS.out (by omega)
                  have k0 := htc q hlq
                  have hsz := HSJ.out q hlq
                  have hTD := Lib.hid (HTD.out q hlq)
                  have hTQ := Lib.hid (HTS.out q hlq)
                  have hq0 : (0 : Int) ≤ (q : Int) := by omega
                  have hq1 : (q : Int) < (n2 : Int) := by omega
                  clear htc hvp hvq
                  generalize (lits V j x ++ (LS.take q).map Tree.dia).length = lp at *
                  generalize (LS.take q).length = lq at *
                  generalize hLP : lits V j x ++ (LS.take q).map Tree.dia = LP at *
                  generalize hLP1 : lits V j x ++ (LS.take (q + 1)).map Tree.dia = LP1 at *
                  generalize hLQ : LS.take q = LQ at *
                  generalize hLQ1 : LS.take (q + 1) = LQ1 at *
                  have HLP1 := Lib.hid hLP1
                  have HLQ1 := Lib.hid hLQ1
                  clear hLP hLP1 hLQ hLQ1
                  generalize LS.getD q .fls = t at *
                  have hKG := Lib.hid (KGO.out t wr hsz)
                  have hK6 := Lib.hid (fun va W hv => KP6.out va t W hv hsz)
                  generalize tx t = tt at *
                  go_wp2_with fail
                  refine hKG.out.mono ?_
                  rintro e w7 ⟨a7, rfl, ho7, hg7⟩
                  obtain ⟨A7, c7, rfl⟩ := nodes_slice ho7.nodes
                  generalize (Fm.enc t).length = l7 at *
                  have hga := hg7.trans ((Grew.refl w7).alloc (.cells #[.slice A7 l7 c7] 31))
                  have ho7 := Lib.hid (ho7.base (Nat.zero_le _))
                  go_wp2_with (first | (at_builtin; refine wpList_appV2 (w0 := w3) _ _ rfl rfl _ us rfl (hS.out.grew hga).r (hg34.trans hga) _ _ rfl (rd_lit _ _ _) rfl hus ?_; intro v8 w8 hown8 hg8 hgr8 hal8))
                  have hSr := Lib.hid (hS.out.grew hga).r
                  have hS8 := Lib.hid ((hS.out.grew hga).snoc (ho7.out.grew ((Grew.refl w7).alloc _)) hgr8 hown8)
                  have hP8 := Lib.hid ((hP.out.grew hga).other (hS.out.grew hga).r hAp.out hgr8)
                  have hA8 := Lib.hid ((hAp.out.symm.app (hP.out.grew hga).lt hal8).symm)
                  have hO8 := Lib.hid (own_app (ho7.out.grew ((Grew.refl w7).alloc _)) (hS.out.grew hga).r hgr8)
                  have hK62 := Lib.hid (hK6.out _ w8 hO8.out.nodes)
                  obtain ⟨A8, c8, hv8⟩ := hS8.out.slice
                  rw [hv8] at hS8 hA8 ⊢
                  have hTS8 := Lib.hid ((hTS.out.grew hga).otherN hSr.out hgr8)
                  clear hown8 hgr8 hal8 hv8 hS hP hAp hKG hK6
                  generalize (LQ ++ [t]).length = l8 at *
                  go_wp2_with fail
                  refine hK62.out.mono ?_
                  rintro e w9 ⟨a9, rfl, ho9, hg9⟩
                  obtain ⟨A9, c9, rfl⟩ := nodes_slice ho9.nodes
                  generalize (Fm.enc (Tree.dia t)).length = l9 at *
                  have hgb := hg9.trans ((Grew.refl w9).alloc (.cells #[.slice A9 l9 c9] 31))
                  go_wp2_with (first | (at_builtin; refine wpList_appV2 (w0 := w3) _ _ rfl rfl _ up rfl (hP8.out.grew hgb).r (hg8.trans hgb) _ _ rfl (rd_lit _ _ _) rfl hup ?_; intro v10 w10 hown10 hg10 hgr10 hal10))
                  have hP10 := Lib.hid ((hP8.out.grew hgb).snoc ((ho9.base (Nat.zero_le _)).grew ((Grew.refl w9).alloc _)) hgr10 hown10)
                  have hS10 := Lib.hid ((hS8.out.grew hgb).other (hP8.out.grew hgb).r hA8.out.symm hgr10)
                  have hA10 := Lib.hid (hA8.out.app (hS8.out.grew hgb).lt hal10)
                  have hTS10 := Lib.hid ((hTS8.out.grew hgb).otherN (hP8.out.grew hgb).r hgr10)
                  clear hgr10 hal10 hown10
                  go_roundw
                  case rel => exact ⟨q + 1, _, _, by omega, by go_num, hg10, hTS10, Lib.hid (by rw [HLQ1.out, HLP1.out, hTD.out]; exact hP10.out), Lib.hid (by rw [HLQ1.out, hTQ.out]; exact hS10.out), hA10⟩
                  case measure => simp [intOf]; omega
                · obtain rfl : q = n2 := by omega
                  rw [List.take_of_length_le (show LS.length ≤ q by omega)] at hP hS hAp
                  rw [List.take_of_length_le (show LS.length ≤ q by omega)]
                  have hK3 := Lib.hid (KA3.out _ LS wr hS.out.lists (by omega) HLSz.out)
                  have hjl := jn_lenU (N := 40) HLSz.out
                  have HDS : Hid (∀ a ∈ LS.map Tree.dia, (Fm.enc a).length ≤ 1000) := Lib.hid (fun a ha => by
                    obtain ⟨b, hb, rfl⟩ := List.mem_map.1 ha
                    have := HLSz.out b hb
                    rw [enc_dia]
                    simp [Fm.pre]
                    omega)
                  have hdl : (LS.map Tree.dia).length = q := by rw [List.length_map]; exact hn2
                  have hll := HLN.out x
                  have hls := Lib.hid (HLS.out x)
                  rw [hn2] at hjl
                  have hg1w := hG.trans hg34
                  have huo : uo.length ≤ 1048576 := by rw [hR.out.l]; omega
                  clear hTS hS hAp hvp hvq HTD HTS HSJ KP6 KGO HST
                  generalize hdd : LS.map Tree.dia = DS at *
                  generalize hjj : jnT .or .fls LS = J at *
                  generalize hlt : lits V j x = lt at *
                  have hK5 := Lib.hid (fun va W hv => KP5.out va J W hv (by omega))
                  have HJ2 : Hid (∀ a ∈ lt ++ DS ++ [Tree.box J], (Fm.enc a).length ≤ 1000) := Lib.hid (fun a ha => by
                    simp only [List.mem_append, List.mem_singleton] at ha
                    rcases ha with (ha | ha) | rfl
                    · exact Nat.le_trans (hls.out a ha) (by omega)
                    · exact HDS.out a ha
                    · rw [enc_box]; simp [Fm.pre]; omega)
                  have hLN : (lt ++ DS ++ [Tree.box J]).length ≤ 100 := by simp only [List.length_append, List.length_cons, List.length_nil]; omega
                  generalize (lt ++ DS).length = l10 at *
                  generalize LS.length = l11 at *
                  subst hn2
                  clear hlt hdd hjj
                  go_wp2_with fail
                  refine hK3.out.mono ?_
                  rintro e w6 ⟨u6, rfl, ho6, hg6⟩
                  have hK52 := Lib.hid (hK5.out _ _ ho6.nodes)
                  obtain ⟨A6, c6, rfl⟩ := nodes_slice ho6.nodes
                  clear ho6
                  go_wp2_with fail
                  refine hK52.out.mono ?_
                  rintro e w7 ⟨u7, rfl, ho7, hg7⟩
                  obtain ⟨A7, c7, rfl⟩ := nodes_slice ho7.nodes
                  generalize (Fm.enc (Tree.box J)).length = l7 at *
                  have hga := (hg6.trans hg7).trans ((Grew.refl w7).alloc (.cells #[.slice A7 l7 c7] 31))
                  go_wp2_with (first | (at_builtin; refine wpList_appV (w0 := w3) _ _ rfl rfl _ up rfl (hP.out.grew hga).r (hg34.trans hga) _ _ rfl (rd_lit _ _ _) rfl hup ?_; intro v8 w8 hown8 hg8 hgr8))
                  have hR8 := Lib.hid ((hP.out.grew hga).snoc ((ho7.base (Nat.zero_le _)).grew ((Grew.refl w7).alloc _)) hgr8 hown8)
                  obtain ⟨A8, c8, hv8⟩ := hR8.out.slice
                  rw [hv8] at hR8
                  have hK2 := Lib.hid (KA2.out _ _ w8 hR8.out.lists hLN HJ2.out)
                  have hg18 := hG.trans hg8
                  rw [hv8]
                  generalize (lt ++ DS ++ [Tree.box J]).length = l8 at *
                  generalize hT : jnT Tree.and (.imp .fls .fls) (lt ++ DS ++ [Tree.box J]) = T at *
                  have hRo := Lib.hid (hR.out.grew hg8)
                  clear hR8 hv8 hgr8 hown8 hga hg6 hg7 ho7 hP hK3 hK5 hK52 HJ2 HDS HLS KA2 KA3 KP5 hR
                  go_wp2_with fail
                  refine hK2.out.mono ?_
                  rintro e w9 ⟨u9, rfl, ho9, hg9⟩
                  have hRo9 := Lib.hid (hRo.out.grew hg9)
                  have hg19 := hg18.trans hg9
                  have HO9 := Lib.hid (ho9.base (Nat.zero_le _))
                  obtain ⟨A9, c9, rfl⟩ := nodes_slice ho9.nodes
                  clear ho9 hRo hK2
                  cases lg with
                  | true =>
                    have hw := Lib.hid (hU1.out rfl)
                    clear hU1 hU2
                    generalize (Fm.enc T).length = lT at *
                    go_wp2_with (first | (at_builtin; refine wpList_appV (w0 := w1) _ _ rfl rfl _ uo rfl (hRo9.out.grew ((Grew.refl w9).alloc _)).r (hg19.alloc _) _ _ rfl (rd_lit _ _ _) rfl huo ?_; intro v12 w12 hown12 hg12 hgr12))
                    go_roundw
                    case rel => exact ⟨x + 1, _, by omega, by go_num, hg12, Lib.hid ((hRo9.out.grew ((Grew.refl w9).alloc _)).snoc (by rw [hw.out]; rfl) hgr12 hown12)⟩
                    case measure => simp [intOf]; omega
                  | false =>
                    have hw := Lib.hid (hU2.out rfl)
                    clear hU1 hU2
                    generalize hlT : (Fm.enc T).length = lT at *
                    by_cases h40 : lT ≤ 40
                    · have hw2 : Hid (wlT A V j (k + 1) x = some T) := Lib.hid (by rw [hw.out, if_pos h40])
                      clear hw
                      go_wp2_with (first | (at_builtin; refine wpList_appV (w0 := w1) _ _ rfl rfl _ uo rfl (hRo9.out.grew ((Grew.refl w9).alloc _)).r (hg19.alloc _) _ _ rfl (rd_lit _ _ _) rfl huo ?_; intro v12 w12 hown12 hg12 hgr12))
                      go_roundw
                      case rel => exact ⟨x + 1, _, by omega, by go_num, hg12, Lib.hid ((hRo9.out.grew ((Grew.refl w9).alloc _)).snoc (by rw [hw2.out]; exact HO9.out.grew ((Grew.refl w9).alloc _)) hgr12 hown12)⟩
                      case measure => simp [intOf]; omega
                    · have hw2 : Hid (wlT A V j (k + 1) x = none) := Lib.hid (by rw [hw.out, if_neg h40])
                      clear hw
                      go_wp2_with (first | (at_builtin; refine wpList_appV (w0 := w1) _ _ rfl rfl _ uo rfl (hRo9.out.grew ((Grew.refl w9).alloc _)).r (hg19.alloc _) _ _ rfl (rd_lit _ _ _) rfl huo ?_; intro v12 w12 hown12 hg12 hgr12))
                      go_roundw
                      case rel => exact ⟨x + 1, _, by omega, by go_num, hg12, Lib.hid ((hRo9.out.grew ((Grew.refl w9).alloc _)).snoc (by rw [hw2.out]; rfl) hgr12 hown12)⟩
                      case measure => simp [intOf]; omega
    · obtain rfl : x = n := by omega
      have HE := Lib.hid (HOL.out.trans hG)
      have HR := Lib.hid (hR.out.base HOL.out.size)
      clear hR
      go_wp2_with fail
      go_ret
      exact ⟨_, _, rfl, HR.out, HE.out⟩
end Go.Proofs.YtjlnompmhgjaaaaGreat


/- WorldFormula of the reference. -/
namespace Go.Proofs.YtjlnompmhgjaaaaGreat
open Go.RowKit
open Fm (Nd Tree)

set_option maxHeartbeats 2000000 in
set_option maxRecDepth 8192 in
theorem specWorld_bad (n : Int) (v u : Value) (L V : List Int) (x k nv : Int) (w : World) (h : Ints w v L) (hu : Ints w u V) (hmd : mdB n L V = false) :
    Calls Tryz.prog 7 #[.agg #[.int .i64 n, v, u], .int .i64 x, .int .i64 k, .int .i64 nv] w (GivesWf w (wfF n L V x k nv)) := by
  rw [wfF_md hmd]
  obtain ⟨w1, hw1, hal, y0, y1, y2⟩ := mdl_box1 w (.int .i64 n) v u
  have KM := Lib.hid (show Calls Tryz.prog 21 #[.agg #[.int .i64 n, v, u]] w1 fun e w' => e = .returned (.bool false) ∧ Grew w1 w' from by
    have := l06Is_c n v u L V w1 (h.grew hal) (hu.grew hal)
    rwa [hmd] at this)
  have HG := Lib.hid hal
  obtain ⟨A1, c1, rfl⟩ := ints_slice h
  obtain ⟨A2, c2, rfl⟩ := ints_slice hu
  clear h hu hmd hal
  generalize L.length = l1 at *
  generalize V.length = l2 at *
  have r1 := Grew.refl w1
  go_enter Tryz.func7, Tryz.ntmps7
  go_wp2_with fail
  simp only [← hw1]
  clear hw1
  refine KM.out.mono ?_
  rintro e w2 ⟨rfl, hg2⟩
  go_wp2_with fail
  go_ret2
  exact ⟨_, rfl, rfl, HG.out.trans hg2⟩
set_option maxHeartbeats 4000000 in
set_option maxRecDepth 8192 in
theorem specWorld_good (A V : List Nat) (v u : Value) (x k nv : Int) (w : World) (h : Ints w v (zs A)) (hu : Ints w u (zs V)) (hA : Rl A) (h8 : A.length ≤ 8) (hVl : V.length = 6) (hV : Sm V) (hnA : nats (zs A) = A) (hnV : nats (zs V) = V) (hmd : mdB (A.length : Int) (zs A) (zs V) = true) :
    Calls Tryz.prog 7 #[.agg #[.int .i64 (A.length : Int), v, u], .int .i64 x, .int .i64 k, .int .i64 nv] w (GivesWf w (wfF (A.length : Int) (zs A) (zs V) x k nv)) := by
  obtain ⟨w1, hw1, hal, y0, y1, y2⟩ := mdl_box1 w (.int .i64 (A.length : Int)) v u
  have KM := Lib.hid (show Calls Tryz.prog 21 #[.agg #[.int .i64 (A.length : Int), v, u]] w1 fun e w' => e = .returned (.bool true) ∧ Grew w1 w' from by
    have := l06Is_c (A.length : Int) v u (zs A) (zs V) w1 (h.grew hal) (hu.grew hal)
    rwa [hmd] at this)
  have hvE : ∃ A m c, v = .slice A m c := by obtain ⟨a, c, e⟩ := ints_slice h; exact ⟨_, _, _, e⟩
  have KH := Lib.hid (fun W => l05World_c A.length v x W hvE h8)
  have KR := Lib.hid (fun z b W => l01In_c z 0 b W)
  have KW0 := Lib.hid (fun (nv' : Nat) (hv : nv' ≤ 6) W (hW : Grew w1 W) => l07World0_c v u A V nv' W (h.grew (hal.trans hW)) (hu.grew (hal.trans hW)) hA h8 hVl hV hv)
  have KWS := Lib.hid (fun (nv' k' : Nat) Bb vb ub (hv : nv' ≤ 6) W (hW : Grew w1 W) (hb : RowO W Bb vb ub A.length (wlT A V nv' k')) => l07WorldS_c v u A V nv' k' Bb vb ub W (h.grew (hal.trans hW)) (hu.grew (hal.trans hW)) hA h8 hVl hV hv hb)
  have F1 := Lib.hid (fun h1 => wfF_x (x := x) (k := k) (nv := nv) hmd h1)
  have F2 := Lib.hid (fun h1 h2 => wfF_k (x := x) (k := k) (nv := nv) hmd h1 h2)
  have F3 := Lib.hid (fun h1 h2 h3 => wfF_v (x := x) (k := k) (nv := nv) hmd h1 h2 h3)
  have F4 := Lib.hid (fun h1 h2 h3 => wfF_yes (x := x) (k := k) (nv := nv) hmd h1 h2 h3)
  rw [hnA, hnV] at F4
  have HG := Lib.hid hal
  obtain ⟨A1, c1, rfl⟩ := ints_sliceN h
  have hu3 := ints_sliceN hu
  rw [hVl] at hu3
  obtain ⟨A2, c2, rfl⟩ := hu3
  clear h hu hmd hal hA hVl hV hnA hnV hvE
  generalize wfF (A.length : Int) (zs A) (zs V) x k nv = R at *
  generalize hn : A.length = n at *
  clear hn
  have r1 := Grew.refl w1
  go_enter Tryz.func7, Tryz.ntmps7
  go_wp2_with fail
  simp only [← hw1]
  clear hw1
  refine KM.out.mono ?_
  rintro e w2 ⟨rfl, hg2⟩
  go_wp2_with fail
  refine (KH.out _).mono ?_
  rintro e w3 ⟨rfl, hg3⟩
  have hg3 := hg2.trans hg3
  cases h1 : decide (0 ≤ x ∧ x ≤ (n : Int) - 1) with
  | false =>
    have hR := Lib.hid (F1.out h1)
    clear F1 F2 F3 F4 h1
    go_wp2_with fail
    go_ret2
    rw [hR.out]
    exact ⟨_, rfl, rfl, HG.out.trans hg3⟩
  | true =>
  replace F2 := Lib.hid (F2.out h1)
  replace F3 := Lib.hid (F3.out h1)
  replace F4 := Lib.hid (F4.out h1)
  rw [decide_eq_true_eq] at h1
  obtain ⟨xn, rfl⟩ : ∃ xn : Nat, x = (xn : Int) := ⟨x.toNat, by omega⟩
  have hx0 : (0 : Int) ≤ (xn : Int) := by omega
  have hx1 : (xn : Int) < (n : Int) := by omega
  have hxn : xn < n := by omega
  clear F1 h1
  go_wp2_with fail
  refine (KR.out _ _ _).mono ?_
  rintro e w4 ⟨rfl, hg4⟩
  have hg4 := hg3.trans hg4
  cases h2 : decide (0 ≤ k ∧ k ≤ 16) with
  | false =>
    have hR := Lib.hid (F2.out h2)
    clear F2 F3 F4 h2
    go_wp2_with fail
    go_ret2
    rw [hR.out]
    exact ⟨_, rfl, rfl, HG.out.trans hg4⟩
  | true =>
  replace F3 := Lib.hid (F3.out h2)
  replace F4 := Lib.hid (F4.out h2)
  rw [decide_eq_true_eq] at h2
  obtain ⟨kn, rfl⟩ : ∃ kn : Nat, k = (kn : Int) := ⟨k.toNat, by omega⟩
  have hkn : kn ≤ 16 := by omega
  clear F2 h2
  go_wp2_with fail
  refine (KR.out _ _ _).mono ?_
  rintro e w5 ⟨rfl, hg5⟩
  have hg5 := hg4.trans hg5
  cases h3 : decide (0 ≤ nv ∧ nv ≤ 6) with
  | false =>
    have hR := Lib.hid (F3.out h3)
    clear F3 F4 h3
    go_wp2_with fail
    go_ret2
    rw [hR.out]
    exact ⟨_, rfl, rfl, HG.out.trans hg5⟩
  | true =>
  replace F4 := Lib.hid (F4.out h3)
  rw [decide_eq_true_eq] at h3
  obtain ⟨nn, rfl⟩ : ∃ nn : Nat, nv = (nn : Int) := ⟨nv.toNat, by omega⟩
  have hnn : nn ≤ 6 := by omega
  clear F3 h3
  simp only [Int.toNat_natCast] at F4
  go_wp2_with fail
  refine (KW0.out nn hnn _ hg5).mono ?_
  rintro e w6 ⟨r6, us6, rfl, hR6, hg6⟩
  have hg6 := hg5.trans hg6
  have HR6 := Lib.hid (hR6.base (Nat.zero_le _))
  obtain ⟨A6, c6, rfl⟩ := hR6.slice
  clear hR6
  go_wp2_with fail
  go_loopw [10, 11] (fun rv i wr => ∃ (q : Nat) (us : List Value), q ≤ kn ∧ i = .int .i64 (q : Int) ∧ Grew w1 wr ∧ Hid (RowO wr 0 rv us n (wlT A V nn q))) (fun _ i _ => kn - (intOf i).toNat)
  case atStart => exact ⟨0, _, by omega, rfl, hg6, HR6⟩
  case round =>
    clear HR6 hg6
    obtain ⟨q, us, hq, rfl, hB, hR⟩ := hrel
    obtain ⟨Ar, cr, hvr⟩ := hR.out.slice
    rw [hvr] at hR ⊢
    by_cases hlt : q < kn
    · have hK := Lib.hid (KWS.out nn q 0 _ us hnn wr hB hR.out)
      go_wp2_with fail
      refine hK.out.mono ?_
      rintro e w7 ⟨r7, us7, rfl, hR7, hg7⟩
      have HR7 := Lib.hid (hR7.base (Nat.zero_le _))
      obtain ⟨A7, c7, rfl⟩ := hR7.slice
      clear hR7 hR hK
      go_wp2_with fail
      go_roundw
      case rel => exact ⟨q + 1, _, by omega, by go_num, hB.trans hg7, HR7⟩
      case measure => simp [intOf]; omega
    · obtain rfl : q = kn := by omega
      obtain ⟨g, c, uy, he, hcl, ho⟩ := hR.out.at_ hxn
      injection he with e1 e2 e3
      subst e1 e3
      clear e2
      have k0 := hcl wr (Grew.refl wr)
      cases hT : wlT A V nn q xn with
      | none =>
        rw [hT] at ho
        have hR := Lib.hid F4.out
        rw [hT] at hR
        have hF : uy = .slice none 0 0 := ho
        rw [hF] at k0
        clear ho hF F4 hT KW0 KWS hcl
        go_wp2_with fail
        go_ret2
        rw [hR.out]
        exact ⟨_, rfl, rfl, HG.out.trans hB⟩
      | some t =>
        rw [hT] at ho
        have hR := Lib.hid F4.out
        rw [hT] at hR
        have ho' : Own wr 0 uy (Fm.enc t) := ho
        obtain ⟨b0, c0, hfe⟩ := own_someW ho' (Fm.enc_pos t)
        rw [hfe] at k0 ho'
        have HO := Lib.hid ho'
        have hp := Fm.enc_pos t
        clear ho ho' hfe F4 hT KW0 KWS hcl
        generalize (Fm.enc t).length = lt1 at *
        have hp1 : ¬ lt1 = 0 := by omega
        have hp2 : ((lt1 : Int) == 0) = false := by simpa using hp1
        go_wp2_with fail
        go_ret2
        rw [hR.out]
        exact ⟨_, rfl, HO.out, HG.out.trans hB⟩
theorem specWorld_c (n : Int) (v u : Value) (L V : List Int) (x k nv : Int) (w : World) (h : Ints w v L) (hu : Ints w u V) :
    Calls Tryz.prog 7 #[.agg #[.int .i64 n, v, u], .int .i64 x, .int .i64 k, .int .i64 nv] w (GivesWf w (wfF n L V x k nv)) := by
  cases hmd : mdB n L V with
  | false => exact specWorld_bad n v u L V x k nv w h hu hmd
  | true =>
    obtain ⟨e1, h8, e3, hA, e5, hVl, hV⟩ := mdB_ok hmd
    generalize nats L = A at *
    generalize nats V = B at *
    subst e1 e3 e5
    exact specWorld_good A B v u x k nv w h hu hA h8 hVl (sm_of h8 hV) (nats_zs A) (nats_zs B) hmd
end Go.Proofs.YtjlnompmhgjaaaaGreat


/- Valuations of the program: isUpset, isValuation. -/
namespace Go.Proofs.YtjlnompmhgjaaaaGreat
open Go.RowKit

end Go.Proofs.YtjlnompmhgjaaaaGreat


/- Masks: squeezed masks (squeeze, l05Squeeze). -/
namespace Go.Proofs.YtjlnompmhgjaaaaGreat
open Go.RowKit
end Go.Proofs.YtjlnompmhgjaaaaGreat


/- Parts of posets and valuations: partOn, squeezeAll, CutDown of the program. -/
namespace Go.Proofs.YtjlnompmhgjaaaaGreat
open Go.RowKit

def GivesPs (w : World) (L : List Int) (e : Ending) (w' : World) : Prop := ∃ v, e = .returned (.agg #[.int .i64 (L.length : Int), v]) ∧ OwnI w' w.heap.size v L ∧ Grew w w'
end Go.Proofs.YtjlnompmhgjaaaaGreat


/- Elements of posets: hasElement; what holds of a poset, a valuation and an element. -/
namespace Go.Proofs.YtjlnompmhgjaaaaGreat
open Go.RowKit

end Go.Proofs.YtjlnompmhgjaaaaGreat


/- A result that is a struct in a cell and two slots; what CutDown gives. -/
namespace Go.Proofs.YtjlnompmhgjaaaaGreat
open Go.RowKit

end Go.Proofs.YtjlnompmhgjaaaaGreat


/- Masks: rows of members of the reference (l01List). -/
namespace Go.Proofs.YtjlnompmhgjaaaaGreat
open Go.RowKit
end Go.Proofs.YtjlnompmhgjaaaaGreat


/- Parts of posets of the reference: l16Make, l16Part. -/
namespace Go.Proofs.YtjlnompmhgjaaaaGreat
open Go.RowKit

theorem step_appI {ops : Array Oper} {o : Oper} {a : Act} {K : Act → World → Prop} {Q : Exit → Act → World → Prop} {E : Prop} {w : World} (B : Nat) (hgd : o.guard = none) (s x : Operand)
    (ho : o.op = .call { callee := .builtin .append, args := #[s, x], argTypes := #[24, 24] })
    (v : Value) (L : List Int) (hs : a.eval s = v) (hown : OwnI w B v L) (hB : B ≤ w.heap.size) (vx : Value) (k : Int) (hx : a.eval x = vx) (hr : Rd w 1 vx 1 [.int .i64 k]) (hn : L.length ≤ 1048576)
    (h : ∀ v' w', OwnI w' B v' (L ++ [k]) → w.grownBy w' v.ownBlock → K (a.put o.dst v') w') : if Region.wanted o (yielded ops a.tmps) = true then Oper.wp Tryz.prog o a w K Q else E := by
  obtain ⟨i0, hi0, hz0, hz1, hz2⟩ := info_parts Tryz.infoI
  have hw : Region.wanted o (yielded ops a.tmps) = true := by simp [Region.wanted, hgd]
  rw [if_pos hw]
  obtain ⟨hl, _, hr⟩ := hr
  rcases hr with ⟨rfl, h0⟩ | ⟨b, of, c, rfl, _, _, _, hc⟩
  · exact absurd h0 (by omega)
  · obtain ⟨v', w', hrun, h2, h3, _, _⟩ := run_append_own_at (P := Tryz.prog) w B _ o.type 2 i0 _ 1 8 Tryz.underlying24 hi0 hz0 hz1 hz2 rfl (by omega) v L.length (icells L) hown ⟨b, of, none⟩ 1 c [.int .i64 k] hl (fun j u hu => by rw [Addr.add_lit]; exact hc j u hu) (by simp [Value.oneCell']) (by unfold maxLen; omega) (by omega) hB
    unfold Oper.wp execOp
    simp only [ho, resolve, invoke, builtin, Sem.run_bind, Sem.run_pure, Result.andThen_ok, List.map_toArray, List.map_cons, List.map_nil, hs, hx, hrun]
    refine h v' w' ?_ h3
    unfold OwnI
    rw [List.length_append, icells_append]
    exact h2
end Go.Proofs.YtjlnompmhgjaaaaGreat


/- FnMonotone: what draws of posets reckon with: reflexive and transitive closure, numbering anew; only their shape is told. -/
namespace Go.Proofs.YtjlnompmhgjaaaaGreat
open Go.RowKit

def GivesMR (w : World) (n : Nat) (e : Ending) (w' : World) : Prop := ∃ v L, e = .returned v ∧ OwnI w' w.heap.size v (zs L) ∧ L.length = n ∧ Sm L ∧ Grew w w'

theorem l01Reflexive_c (v : Value) (A : List Nat) (w : World) (h : Ints w v (zs A)) (hA : Sm A) (hn30 : A.length ≤ 30) :
    Calls Tryz.prog 97 #[v] w (GivesMR w A.length) := by
  have HT := Lib.hid (fun i (hi : i < A.length) => hA.at_ hi)
  have HP := Lib.hid (fun k (h : k ≤ 30) => l01One_c k h)
  have HO := Lib.hid (fun a k (ha : a < 1073741824) (h : k < 30) => or_i64 a (2 ^ k) (by omega) (Nat.lt_trans (pow30 h) (by omega)))
  obtain ⟨A', c, rfl⟩ := ints_sliceN h
  have HC := Lib.hid (fun h0 => cellsN h h0)
  clear h hA
  generalize hN : A.length = n at *
  clear hN
  go_enter Tryz.func97, Tryz.ntmps97
  go_wp2_with fail
  go_loopw [3, 4] (fun s i wr => ∃ (j : Nat) (K : List Nat), j ≤ n ∧ i = .int .i64 j ∧ Hid (K.length = j) ∧ Hid (Sm K) ∧ Grew w wr ∧ OwnI wr w.heap.size s (zs K)) (fun _ i _ => n - (intOf i).toNat)
  case atStart => exact ⟨0, [], by omega, rfl, Lib.hid rfl, Lib.hid Sm.nil_, (Grew.refl _).alloc _, own_emptyI w⟩
  case round =>
    obtain ⟨j, K, hj, rfl, hK, hS, hB, hO⟩ := hrel
    by_cases hlt : j < n
    · obtain ⟨b, o, rfl, hcell⟩ := HC.out (by omega)
      have k1 : ∀ W, Grew wr W → W.cell? ⟨b, o + j, none⟩ = some (.int .i64 (nt A j)) := fun W hW => hcell j hlt _ (hB.trans hW)
      have hs := HP.out j (by omega)
      have hy := HT.out j hlt
      have ho := HO.out (nt A j) j hy (by omega)
      have hz : nt A j ||| 2 ^ j < 1073741824 := or_sm hy (pow30 (by omega))
      generalize nt A j = y at *
      obtain ⟨p, hpj⟩ : ∃ p, p = 2 ^ j := ⟨_, rfl⟩
      rw [← hpj] at hs ho hz
      replace hs := Lib.hid hs
      generalize hq : y ||| p = q at *
      have hl : (zs K).length ≤ 1048576 := by rw [zs_len, hK.out]; omega
      obtain ⟨P, hP⟩ : ∃ P, P = zs K := ⟨_, rfl⟩
      rw [← hP] at hO hl
      have HPK := Lib.hid hP
      have hZ := Lib.hid hz
      clear hP hpj hcell HC hq hz hy
      have hr0 := Grew.refl wr
      have hrd := hr0.drew
      go_wp2_with fail
      go_region_law (first
        | (go_simp; go_at_call 94; refine (hs.out _).mono ?_; rintro e w4 ⟨rfl, hg4⟩; have hg5 := hrd.trans hg4; have hk5 := hg5.alloc (.cells #[.int .i64 (q : Int)] 2); have hO5 := hO.grew hk5; have hrd5 := rd_litI w4 (q : Int) 2; have hs5 := Nat.le_trans hB.size hk5.size)
        | (refine step_appI w.heap.size rfl (.tmp 12) (.tmp 20) rfl u3 P rfl hO5 hs5 (.slice (some ⟨w4.heap.size, 0, none⟩) 1 1) (q : Int) rfl hrd5 hl ?_; intro v6 w6 hown6 hg6))
      all_goals
        have hB6 : Grew w w6 := (hB.trans hk5).grown hg6 (fun g hg => own_of_ge hO5 hg)
        go_wp2_with fail
        go_roundw
        case rel => exact ⟨j + 1, K ++ [q], by omega, by go_num, Lib.hid (by rw [List.length_append, hK.out]; rfl), Lib.hid (hS.out.app hZ.out), hB6, by rw [zs_append, zs_one, ← HPK.out]; exact hown6⟩
        case measure => simp [intOf]; omega
    · obtain rfl : j = n := by omega
      go_wp2_with fail
      go_ret
      exact ⟨_, K, rfl, hO, hK.out, hS.out, hB⟩

theorem NRow.own {w : World} {g n c B : Nat} {f : Nat → Nat} (h : NRow w g n c f) (hB : B ≤ g) : OwnI w B (.slice (some ⟨g, 0, none⟩) n c) (zs ((List.range n).map f)) := by
  obtain ⟨cur, h1, h2, hn, hm, h3⟩ := h
  have hl : (zs ((List.range n).map f)).length = n := by simp [zs]
  have hk := OwnI.mk_ (L := zs ((List.range n).map f)) hB h1 (by rw [hl]; exact hn) hm h2 (fun i hi => by
    rw [hl] at hi
    rw [h3 i hi]
    simp [it, zs, hi])
  rwa [hl] at hk
theorem own_nrow {w : World} {B c n : Nat} {A : Option Addr} {L : List Nat} (h : OwnI w B (.slice A n c) (zs L)) (hn : L.length = n) (h0 : 0 < n) :
    ∃ g, A = some ⟨g, 0, none⟩ ∧ B ≤ g ∧ NRow w g n c (nt L) := by
  rcases h.2 with ⟨he, _⟩ | ⟨g, c', cur, he, hB, hh, hnc, hcm, hcs, htk⟩
  · injection he with _ e2 _
    omega
  · injection he with e1 _ e3
    subst e1 e3
    refine ⟨g, rfl, hB, cur, hh, by omega, by rw [zs_len] at hnc; omega, hcm, fun i hi => ?_⟩
    have hc := h.ints.open_
    rcases hc with ⟨he, _⟩ | ⟨b, o, c3, he, _, _, _, hcell⟩
    · cases he
    · injection he with e1 _ _
      injection e1 with e1
      injection e1 with e1 e2
      subst e1 e2
      have := hcell i (by rw [zs_len]; omega) w (Grew.refl _)
      rw [Nat.zero_add, blk_cell hh, zs_it (by omega)] at this
      exact this

theorem l01Closure_c (v : Value) (A : List Nat) (w : World) (h : Ints w v (zs A)) (hA : Sm A) (hn30 : A.length ≤ 30) :
    Calls Tryz.prog 98 #[v] w (GivesMR w A.length) := by
  have HCL := Lib.hid (ownR_c v (zs A) w h (by rw [zs_len]; omega))
  have HZ := Lib.hid (fun i (hi : i < A.length) => hA.at_ hi)
  have HH := Lib.hid (fun m i (hm : m < 1073741824) (hi : i < 64) => l01Bit_q m i (by omega) hi)
  have HO := Lib.hid (fun a b (ha : a < 1073741824) (hb : b < 1073741824) => or_i64 a b (by omega) (by omega))
  have HOS := Lib.hid (fun a b (ha : a < 1073741824) (hb : b < 1073741824) => or_sm ha hb)
  obtain ⟨A', c, rfl⟩ := ints_sliceN h
  clear h hA
  generalize hN : A.length = n at *
  have hNL := Lib.hid hN
  clear hN
  by_cases h00 : n = 0
  · have h0 : n ≤ 0 := by omega
    have HA0 : Hid (A = []) := Lib.hid (List.eq_nil_of_length_eq_zero (by have := hNL.out; omega))
    clear h00
    go_enter Tryz.func98, Tryz.ntmps98
    go_wp2_with fail
    refine HCL.out.mono ?_
    rintro e w1 ⟨v1, rfl, hO1, hg1⟩
    obtain ⟨A2, c2, rfl⟩ := ints_sliceN hO1.ints
    have HO1 := Lib.hid hO1
    clear hO1
    rw [hNL.out]
    go_wp2_with fail
    refine wp_loop_rounds 1 ?_; rw [rounds_succ]
    go_wp2_with fail
    go_ret
    have hO2 := HO1.out
    rw [hNL.out] at hO2
    exact ⟨_, A, rfl, hO2, hNL.out, by rw [HA0.out]; exact Sm.nil_, hg1⟩
  have h0 : 0 < n := by omega
  clear h00
  go_enter Tryz.func98, Tryz.ntmps98
  go_wp2_with fail
  refine HCL.out.mono ?_
  rintro e w1 ⟨v1, rfl, hO1, hg1⟩
  obtain ⟨A2, c2, rfl⟩ := ints_sliceN hO1.ints
  rw [hNL.out] at hO1 ⊢
  obtain ⟨g, rfl, hgw, hR0⟩ := own_nrow hO1 hNL.out h0
  have HR0 := Lib.hid hR0
  clear hR0 hO1 HCL
  go_wp2_with fail
  go_loopw [4, 5] (fun i _ wr => ∃ (j : Nat) (f : Nat → Nat), j ≤ n ∧ i = .int .i64 j ∧ Hid (NRow wr g n c2 f) ∧ Hid (∀ x, x < n → f x < 1073741824) ∧ Grew w wr) (fun i _ _ => n - (intOf i).toNat)
  case atStart => exact ⟨0, _, Nat.zero_le _, rfl, HR0, HZ, hg1⟩
  clear HZ HR0
  case round =>
    obtain ⟨j, f, hj, rfl, hR, hK, hB⟩ := hrel
    by_cases hlt : j < n
    · go_wp2_with fail
      go_loopw [5] (fun i wr => ∃ (k : Nat) (f : Nat → Nat), k ≤ n ∧ i = .int .i64 k ∧ Hid (NRow wr g n c2 f) ∧ Hid (∀ x, x < n → f x < 1073741824) ∧ Grew w wr) (fun i _ => n - (intOf i).toNat)
      case atStart => exact ⟨0, f, Nat.zero_le _, rfl, hR, hK, hB⟩
      case round =>
        obtain ⟨k, f2, hk, rfl, hR2, hK2, hB2⟩ := hrel
        by_cases hlk : k < n
        · have c2' : ∀ W, Grew wr W → W.cell? ⟨g, k, none⟩ = some (.int .i64 ((f2 k : Nat) : Int)) := fun W hW => (hR2.out.grew hW).cell hlk
          have c3' : ∀ W, Grew wr W → W.cell? ⟨g, j, none⟩ = some (.int .i64 ((f2 j : Nat) : Int)) := fun W hW => (hR2.out.grew hW).cell hlt
          have c4' : ∀ W, Grew wr W → W.frozen? ⟨g, k, none⟩ = false := fun W hW => (hR2.out.grew hW).free k
          have ho := HO.out _ _ (hK2.out k hlk) (hK2.out j hlt)
          have hos := Lib.hid (HOS.out _ _ (hK2.out k hlk) (hK2.out j hlt))
          have hH := Lib.hid (HH.out (f2 k) j (hK2.out k hlk) (by omega))
          have hr1 := Grew.refl wr
          have hd1 := (Grew.refl wr).drew
          generalize f2 k = y at *
          generalize f2 j = z at *
          generalize y.testBit j = t at *
          have hi0 : (0 : Int) ≤ (k : Int) := by omega
          have hi6 : (k : Int) < (n : Int) := by omega
          have hj0 : (0 : Int) ≤ (j : Int) := by omega
          have hj6 : (j : Int) < (n : Int) := by omega
          go_wp2_with fail
          refine (hH.out _).mono ?_
          rintro e w2 ⟨rfl, rfl⟩
          cases t with
          | true =>
            go_wp2_with fail
            go_region
            go_wp2_with fail
            go_roundw
            case rel =>
              have e1 : (fun q => if q = k then y ||| z else f2 q) k = y ||| z := if_pos rfl
              have e2 : ∀ q, q < n → q ≠ k → (fun q => if q = k then y ||| z else f2 q) q = f2 q := fun q _ hq => if_neg hq
              refine ⟨k + 1, fun q => if q = k then y ||| z else f2 q, by omega, by go_num, Lib.hid ((hR2.out.set hlk e1 e2).grew ((Grew.refl _).drew)), Lib.hid (fun x hx => ?_), (hB2.setCell hgw _).drew⟩
              by_cases hxk : x = k
              · rw [hxk, e1]; exact hos.out
              · rw [e2 x hx hxk]; exact hK2.out x hx
            case measure => simp [intOf]; omega
          | false =>
            go_wp2_with fail
            go_roundw
            case rel => exact ⟨k + 1, f2, by omega, by go_num, hR2, hK2, hB2⟩
            case measure => simp [intOf]; omega
        · obtain rfl : k = n := by omega
          go_wp2_with fail
          go_roundw
          case rel => exact ⟨j + 1, f2, by omega, by go_num, hR2, hK2, hB2⟩
          case measure => simp [intOf]; omega
    · obtain rfl : j = n := by omega
      go_wp2_with fail
      go_ret
      refine ⟨_, _, rfl, hR.out.own hgw, by simp, fun m hm => ?_, hB⟩
      rw [List.mem_map] at hm
      obtain ⟨i, hi, rfl⟩ := hm
      exact hK.out i (List.mem_range.1 hi)

end Go.Proofs.YtjlnompmhgjaaaaGreat


/- FnMonotone: the draw of a poset (l16Shuffle, l16Some); only its shape is told. -/
namespace Go.Proofs.YtjlnompmhgjaaaaGreat
open Go.RowKit

theorem wpList_appIB {ops : Array Oper} {rest : List Oper} {o : Oper} {a : Act} {Q : Exit → Act → World → Prop} {w : World} (B : Nat) (s x : Operand) (hgd : o.guard = none)
    (ho : o.op = .call { callee := .builtin .append, args := #[s, x], argTypes := #[24, 24] })
    (v : Value) (L : List Int) (hs : a.eval s = v) (hown : OwnI w B v L) (hB : B ≤ w.heap.size) (vx : Value) (k : Int) (hx : a.eval x = vx) (hr : Rd w 1 vx 1 [.int .i64 k]) (hn : L.length ≤ 1048576)
    (h : ∀ v' w', OwnI w' B v' (L ++ [k]) → w.grownBy w' v.ownBlock → wpList Tryz.prog ops Q rest (a.put o.dst v') w') : wpList Tryz.prog ops Q (o :: rest) a w := by
  obtain ⟨i0, hi0, hz0, hz1, hz2⟩ := info_parts Tryz.infoI
  refine wpList_append_rd w hgd s x _ ho B 2 i0 _ 1 8 Tryz.underlying24 hi0 hz0 hz1 hz2 rfl (by omega) v L.length (icells L) hs hown vx 1 [.int .i64 k] hx hr (by simp [Value.oneCell']) (by unfold maxLen; omega) (by omega) hB ?_
  intro v' w' h1 h2 _
  refine h v' w' ?_ h2
  unfold OwnI
  rw [List.length_append, icells_append]
  exact h1
theorem own_srcI {w w' : World} {B g : Nat} {v : Value} {L : List Int} (h : OwnI w B v L) (hg : g < B) (ho : Only g w w') : OwnI w' B v L :=
  own_only h ho (fun he => by have := own_of_ge h he; omega)
theorem own_irow {w : World} {B c : Nat} {A : Option Addr} {L : List Int} (h : OwnI w B (.slice A L.length c) L) (h0 : 0 < L.length) :
    ∃ g cur, A = some ⟨g, 0, none⟩ ∧ B ≤ g ∧ w.heap[g]? = some (.cells cur 2 (0, 0)) ∧ (L.length ≤ c ∧ c ≤ 9223372036854775807 ∧ cur.size = c) ∧ ∀ i, i < L.length → cur[i]? = some (.int .i64 (it L i)) := by
  have hI := h.ints
  rcases h.2 with ⟨he, _⟩ | ⟨g, c', cur, he, hB, hh, hnc, hcm, hcs, htk⟩
  · injection he with _ e2 _
    omega
  · injection he with e1 _ e3
    subst e1 e3
    refine ⟨g, cur, rfl, hB, hh, ⟨hnc, hcm, by omega⟩, fun i hi => ?_⟩
    rcases hI.open_ with ⟨he, _⟩ | ⟨b, o, c3, he, _, _, _, hcell⟩
    · cases he
    · injection he with e1 _ _
      injection e1 with e1
      injection e1 with e1 e2
      subst e1 e2
      have := hcell i hi w (Grew.refl _)
      rwa [Nat.zero_add, blk_cell hh] at this
theorem NRow.only {w w' : World} {g gs n c : Nat} {f : Nat → Nat} (h : NRow w g n c f) (ho : Only gs w w') (hne : g ≠ gs) : NRow w' g n c f := by
  have hl := h.lt
  obtain ⟨cur, h1, h2⟩ := h
  exact ⟨cur, (ho.block hl hne).trans h1, h2⟩

def GivesD (g : Nat) (cv : Value) (N : Nat) (m : Nat) (w : World) (e : Ending) (w' : World) : Prop := ∃ v L, e = .returned (.agg #[.int .i64 (L.length : Int), v]) ∧ OwnI w' w.heap.size v (zs L) ∧ L.length ≤ m ∧ Sm L ∧ Src w' g cv N ∧ Only g w w'
theorem and_sm {a b : Nat} (ha : a < 1073741824) : a &&& b < 1073741824 := Nat.lt_of_le_of_lt Nat.and_le_left ha

end Go.Proofs.YtjlnompmhgjaaaaGreat


/- FnMonotone: the draws l16Join, l16Rooted; only their shape is told. -/
namespace Go.Proofs.YtjlnompmhgjaaaaGreat
open Go.RowKit

end Go.Proofs.YtjlnompmhgjaaaaGreat


/- FnMonotone: the draws l16Rooted, l16Draw; only their shape is told. -/
namespace Go.Proofs.YtjlnompmhgjaaaaGreat
open Go.RowKit

theorem blk_lt' {w : World} {k : Nat} {o : Obj} (h : w.heap[k]? = some o) : k < w.heap.size := (Array.getElem?_eq_some_iff.1 h).1
def SO (g : Nat) (cv : Value) (N : Nat) (w w' : World) : Prop := Src w' g cv N ∧ Only g w w'
theorem SO.drew {g : Nat} {cv : Value} {N : Nat} {w w' : World} (h : SO g cv N w w') : SO g cv N w w'.drew := ⟨h.1.grew (Grew.refl _).drew, h.2.drew⟩
theorem so_next (g : Nat) (cv : Value) (N : Nat) (w : World) (n : Int) (hn : 1 ≤ n ∧ n ≤ 100000) (W : World) (hW : SO g cv N w W) :
    Calls Tryz.prog 30 #[.pointer (some ⟨g, 0, none⟩), .int .i64 n] W fun e w' => ∃ r : Nat, e = .returned (.int .i64 (r : Int)) ∧ (r : Int) < n ∧ SO g cv N w w' ∧ Only g W w' := by
  refine (l01Next_c g cv N n W hW.1 (by omega)).mono ?_
  rintro e w' ⟨r, rfl, h0, h1, _, hS, ho⟩
  have h2 := h1 hn.1
  obtain ⟨k, rfl⟩ : ∃ k : Nat, r = k := ⟨r.toNat, by omega⟩
  exact ⟨k, rfl, h2, ⟨hS, hW.2.trans ho⟩, ho⟩
theorem own_setI {w : World} {B g c k : Nat} {L : List Int} {cur : Array Value} {x : Int} (hB : B ≤ g) (hh : w.heap[g]? = some (.cells cur 2 (0, 0))) (hc : L.length ≤ c ∧ c ≤ 9223372036854775807 ∧ cur.size = c) (h : ∀ i, i < L.length → cur[i]? = some (.int .i64 (it L i))) (hk : k < L.length) :
    OwnI (w.setCell ⟨g, k, none⟩ (.int .i64 x)) B (.slice (some ⟨g, 0, none⟩) L.length c) (L.set k x) := by
  have hm := OwnI.mk_ (L := L.set k x) (c := c) hB (blk_set hh k (.int .i64 x)) (by rw [List.length_set]; exact hc.1) hc.2.1 (by simp [hc.2.2]) (fun i hi => by
    rw [List.length_set] at hi
    rw [Array.getElem?_setIfInBounds]
    by_cases hki : k = i
    · subst hki
      rw [if_pos rfl, if_pos (by omega)]
      simp [it, List.getD, hk]
    · rw [if_neg hki, h i hi]
      simp [it, List.getD, hki])
  rwa [List.length_set] at hm

def SR (g : Nat) (cv : Value) (N : Nat) (w0 : World) (pb gr n c : Nat) (bx : Obj) (W : World) : Prop := Src W g cv N ∧ Only g w0 W ∧ W.heap[pb]? = some bx ∧ ∃ K : List Int, K.length = n ∧ OwnI W w0.heap.size (.slice (some ⟨gr, 0, none⟩) n c) K
theorem SR.drew {g : Nat} {cv : Value} {N : Nat} {w0 W : World} {pb gr n c : Nat} {bx : Obj} (h : SR g cv N w0 pb gr n c bx W) : SR g cv N w0 pb gr n c bx W.drew := by
  obtain ⟨h1, h2, h3, K, h4, h5⟩ := h
  exact ⟨h1.grew (Grew.refl _).drew, h2.drew, h3, K, h4, h5.grew (Grew.refl _).drew⟩
theorem SR.next {g : Nat} {cv : Value} {N : Nat} {w0 W W' : World} {pb gr n c : Nat} {bx : Obj} (h : SR g cv N w0 pb gr n c bx W) (hS : Src W' g cv N) (ho : Only g W W') (hg : g < w0.heap.size) (hgp : pb ≠ g) : SR g cv N w0 pb gr n c bx W' := by
  obtain ⟨h1, h2, h3, K, h4, h5⟩ := h
  exact ⟨hS, h2.trans ho, (ho.block (blk_lt' h3) hgp).trans h3, K, h4, own_srcI h5 hg ho⟩
theorem SR.store {g : Nat} {cv : Value} {N : Nat} {w0 W : World} {pb gr n c k : Nat} {x : Int} {bx : Obj} (h : SR g cv N w0 pb gr n c bx W) (hg : g < w0.heap.size) (hgr : w0.heap.size ≤ gr) (hp : pb ≠ gr) (hk : k < n) : SR g cv N w0 pb gr n c bx (W.setCell ⟨gr, k, none⟩ (.int .i64 x)) := by
  obtain ⟨h1, h2, h3, K, rfl, h5⟩ := h
  obtain ⟨g', cur, he, hB, hh, hc, hall⟩ := own_irow h5 (by omega)
  injection he with e1
  injection e1 with e1
  subst e1
  have hkb : Only gr W (W.setCell ⟨gr, k, none⟩ (.int .i64 x)) := (Only.refl _ _).setCell _
  exact ⟨h1.other hkb (by omega), h2.newer hkb hgr, (hkb.block (blk_lt' h3) hp).trans h3, K.set k x, by rw [List.length_set], own_setI hB hh hc hall hk⟩

end Go.Proofs.YtjlnompmhgjaaaaGreat


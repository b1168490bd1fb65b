/- The parts of a term in memory: inner of the program, l26Part of the reference. -/
import Derived.Test.YthofkdpmgjkgkaaGreatTmKids
import Derived.Test.YthofkdpmgjkgkaaGreatTmIs2
import Derived.Test.YthofkdpmgjkgkaaGreatOwnV
namespace Go.Proofs.YthofkdpmgjkgkaaGreat
open Go.RowKit
open Tr (Tm)

/-- A node of a term. -/
def GoodN (x : Tn) : Prop := tnB x.1 x.2.1 x.2.2 = true
/-- A term whose nodes are all good. -/
def Good (t : Tm) : Prop := Tr.wf GoodN t

theorem enc_at0 (t : Tm) : tk (Tr.enc t) 0 = (Tr.hd t).1 ∧ tn (Tr.enc t) 0 = (Tr.hd t).2.1 ∧ tt (Tr.enc t) 0 = (Tr.hd t).2.2 := by
  rw [Tr.enc_kids]; exact ⟨rfl, rfl, rfl⟩
theorem tms_head {w : World} {v : Value} {t : Tm} (h : Tms w v (Tr.enc t)) : ∃ b o c, v = .slice (some ⟨b, o, none⟩) (Tr.enc t).length c ∧ (Tr.enc t).length ≤ c ∧ c ≤ 9223372036854775807 ∧ b < w.heap.size ∧
    ∀ W, Grew w W → W.cell? ⟨b, o, none⟩ = some (.int .i64 (Tr.hd t).1) ∧ W.cell? ⟨b, o + 1, none⟩ = some (.int .i64 (Tr.hd t).2.1) ∧ W.cell? ⟨b, o + 2, none⟩ = some (.string (Tr.hd t).2.2) := by
  have hpos := Tr.enc_pos t
  rcases h.open_ with ⟨_, h0⟩ | ⟨b, o, c, rfl, hc, hm, hb, hf⟩
  · rw [h0] at hpos; simp at hpos
  · obtain ⟨e0, e1, e2⟩ := enc_at0 t
    refine ⟨b, o, c, rfl, hc, hm, hb, fun W hW => ?_⟩
    have h0 := hf 0 (by omega) W hW
    rw [e0, e1, e2] at h0
    simpa using h0

/-- The parts of a term, as a slice of slices. -/
def PartsT (w : World) (v : Value) (t : Tm) : Prop :=
  (v = .slice none 0 0 ∧ Tr.kids t = []) ∨ ∃ b o c, v = .slice (some ⟨b, o, none⟩) (Tr.kids t).length c ∧ (Tr.kids t).length ≤ c ∧ c ≤ 9223372036854775807 ∧ b < w.heap.size ∧
    ∀ i, i < (Tr.kids t).length → ∃ u, w.cell? ⟨b, o + i, none⟩ = some u ∧ Tms w u (Tr.enc (Tr.kid t i))
theorem PartsT.grew {w w' : World} {v : Value} {t : Tm} (h : PartsT w v t) (hg : Grew w w') : PartsT w' v t := by
  rcases h with h | ⟨b, o, c, h1, h2, h3, h4, h5⟩
  · exact .inl h
  · exact .inr ⟨b, o, c, h1, h2, h3, Nat.lt_of_lt_of_le h4 hg.size, fun i hi => by
      obtain ⟨u, h6, h7⟩ := h5 i hi
      exact ⟨u, (hg.cell (p := ⟨b, o + i, none⟩) h4).trans h6, h7.grew hg⟩⟩

/-- A row of slices of the call's own. -/
def OwnVT (w : World) (B : Nat) (v : Value) (us : List Value) : Prop := w.ownsRow B 24 1 v us.length us
theorem infoSlT : (Tryz.prog.info? 24).map (fun i => (i.zero, i.size, i.bytes)) = some (some (.slice none 0 0), 1, 24) := by kernel_rfl
theorem wpList_appVT {ops : Array Oper} {rest : List Oper} {o : Oper} {a : Act} {Q : Exit → Act → World → Prop} {w w0 : World} (s x : Operand) (hgd : o.guard = none)
    (ho : o.op = .call { callee := .builtin .append, args := #[s, x], argTypes := #[110, 110] })
    (v : Value) (us : List Value) (hs : a.eval s = v) (hown : OwnVT w w0.heap.size v us) (hg : Grew w0 w) (vx u : Value) (hx : a.eval x = vx) (hr : Rd w 1 vx 1 [u]) (h1 : u.oneCell' = true) (hn : us.length ≤ 1048576)
    (h : ∀ v' w', OwnVT w' w0.heap.size v' (us ++ [u]) → Grew w0 w' → w.grownBy w' v.ownBlock → wpList Tryz.prog ops Q rest (a.put o.dst v') w') : wpList Tryz.prog ops Q (o :: rest) a w := by
  obtain ⟨i0, hi0, hz0, hz1, hz2⟩ := info_parts infoSlT
  refine wpList_append_rd w hgd s x _ ho w0.heap.size 24 i0 _ 1 24 Tryz.underlying110 hi0 hz0 hz1 hz2 rfl (by omega) v us.length us hs hown vx 1 [u] hx hr (by simpa using h1) (by unfold maxLen; omega) (by omega) hg.size ?_
  intro v' w' h1 h2 h3
  refine h v' w' ?_ (hg.grown h2 fun k hk => (hown.lt k hk).1) h2
  unfold OwnVT
  rw [List.length_append]
  exact h1

/-- The first slices of the parts, each read in the world of the entry. -/
def HoldT (w : World) (t : Tm) (us : List Value) : Prop := ∀ i u, us[i]? = some u → Tms w u (Tr.enc (Tr.kid t i))
theorem HoldT.snoc {w : World} {t : Tm} {us : List Value} {u : Value} (h : HoldT w t us) (hu : Tms w u (Tr.enc (Tr.kid t us.length))) : HoldT w t (us ++ [u]) := by
  intro i x hx
  rcases Nat.lt_or_ge i us.length with hk | hk
  · rw [List.getElem?_append_left hk] at hx
    exact h i x hx
  · rw [List.getElem?_append_right hk] at hx
    have hi : i - us.length = 0 := by
      have := (List.getElem?_eq_some_iff.1 hx).1
      simp at this
      omega
    obtain rfl : i = us.length := by omega
    rw [hi] at hx
    simp at hx
    subst hx
    exact hu
theorem parts_of {w w' : World} {B : Nat} {v : Value} {t : Tm} {us : List Value} (hv : OwnVT w' B v us) (hl : us.length = (Tr.kids t).length) (h : HoldT w t us) (hg : Grew w w') : PartsT w' v t := by
  obtain ⟨_, _, h3⟩ := Rd.of_own hv
  rcases h3 with ⟨h4, h5⟩ | ⟨b, o, c, h4, h5, h6, h7, h8⟩
  · exact .inl ⟨h4, List.eq_nil_of_length_eq_zero (by omega)⟩
  · refine .inr ⟨b, o, c, by rw [← hl]; exact h4, by omega, h6, h7, fun i hi => ?_⟩
    have hi' : i < us.length := by omega
    have hx := List.getElem?_eq_getElem hi'
    exact ⟨us[i], h8 i _ hx, (h i _ hx).grew hg⟩
theorem tms_one {w : World} {u : Value} {xs : List Tn} (h : Tms w u xs) : u.oneCell' = true := by
  obtain ⟨A, c, rfl⟩ := tms_slice h
  rfl

theorem inner_o (v : Value) (t : Tm) (w0 w : World) (h0 : Tms w0 v (Tr.enc t)) (hw0 : Grew w0 w) (hg : Good t) (hn : (Tr.enc t).length ≤ 1048576) :
    Calls Tryz.prog 105 #[v] w fun e w' => ∃ u us, e = .returned u ∧ OwnVT w' w.heap.size u us ∧ us.length = (Tr.kids t).length ∧ HoldT w0 t us ∧ Grew w w' := by
  have h := h0.grew hw0
  obtain ⟨b, o, c, rfl, hc, hm, hb, hf⟩ := tms_head h
  have hkl := Tr.kids_len hg
  have k1 := (hf _ (Grew.refl w)).1
  have hpos := Tr.enc_pos t
  have HE := Lib.hid (fun i (hi : i < (Tr.kids t).length) W (hW : Grew w W) => by
    have h1 := termEnd_c _ (Tr.enc t) (Tr.off t i) W (h.grew hW) hn (by have := Tr.off_end hi; omega)
    rw [Tr.pend_kid hg hi, Int.natCast_add] at h1
    exact h1)
  have HL := Lib.hid (fun i (hi : i < (Tr.kids t).length) => (⟨Tr.off_end hi, Tr.off_next hi, Tr.enc_pos (Tr.kid t i)⟩ : Tr.off t i + (Tr.enc (Tr.kid t i)).length ≤ (Tr.enc t).length ∧ Tr.off t (i + 1) = Tr.off t i + (Tr.enc (Tr.kid t i)).length ∧ 1 ≤ (Tr.enc (Tr.kid t i)).length))
  have HS := Lib.hid (fun i (hi : i < (Tr.kids t).length) (c' : Nat) (hc1 : (Tr.enc (Tr.kid t i)).length ≤ c') (hc2 : c' ≤ 9223372036854775807) => by
    have h1 := h0.sub (Tr.off t i) (Tr.enc (Tr.kid t i)).length c' (Tr.off_end hi) hc1 hc2
    rw [Tr.take_kid hi] at h1
    exact h1)
  have har := Tr.ar_le (Tr.hd t).1
  have hz := Tr.off_zero t
  clear hf h hg h0 hw0
  generalize hN : (Tr.enc t).length = n at *
  clear hN
  generalize hM : (Tr.kids t).length = m at *
  have HTP := Lib.hid (fun w => termParts_c (Tr.hd t).1 w)
  generalize Tr.ar (Tr.hd t).1 = ar at *
  subst hkl
  go_enter Tryz.func105, Tryz.ntmps105
  go_wp2_with fail
  refine (HTP.out _).mono ?_
  rintro e w1 ⟨rfl, hg1⟩
  go_wp2_with fail
  go_loopw [3, 4, 5, 11] (fun vv x _ i wr => ∃ (j : Nat) (us : List Value), j ≤ m ∧ us.length = j ∧ i = .int .i64 j ∧ x = .int .i64 (Tr.off t j) ∧ OwnVT wr w.heap.size vv us ∧ Grew w wr ∧ Hid (HoldT w0 t us)) (fun _ _ _ i _ => m - (intOf i).toNat)
  case atStart => exact ⟨0, [], Nat.zero_le _, rfl, rfl, by rw [hz]; rfl, World.ownsRow_nil w1 _ _ 1, hg1, fun i u hi => absurd hi (by simp)⟩
  case round =>
    obtain ⟨j, us, hj, hu, rfl, rfl, hO, hB, HH⟩ := hrel
    by_cases hlt : j < m
    · obtain ⟨hl1, hl2, hl3⟩ := HL.out j (by omega)
      have hE := Lib.hid (HE.out j (by omega))
      have hS := Lib.hid (HS.out j (by omega))
      have hsnoc := Lib.hid (fun u (hu' : Tms w0 u (Tr.enc (Tr.kid t j))) => HH.out.snoc (u := u) (by rw [hu]; exact hu'))
      have HL2 := Lib.hid hl2
      clear hl2
      generalize Tr.enc (Tr.kid t j) = X at *
      generalize Tr.off t j = oj at *
      have hq0 : (0 : Int) ≤ (oj : Int) := by omega
      have hq1 : (oj : Int) ≤ (oj : Int) + (X.length : Int) := by omega
      have hq2 : (oj : Int) + (X.length : Int) ≤ (c : Int) := by omega
      go_wp2_with fail
      refine (hE.out _ hB).mono ?_
      rintro e w2 ⟨rfl, hg2⟩
      have hB2 := hB.trans hg2
      have hO1 : OwnVT (w2.alloc (.cells #[.slice (some ⟨b, o + oj * 3, none⟩) X.length (c - oj)] 24)) w.heap.size u3 us := own_grew hO (hg2.trans ((Grew.refl w2).alloc _))
      have hT := Lib.hid (hS.out (c - oj) (by omega) (by omega))
      go_wp2_with (first | (at_builtin; refine wpList_appVT (w0 := w) _ _ rfl rfl _ us rfl hO1 (hB2.alloc _) _ _ rfl (rd_lit _ _ _) rfl (by omega) ?_; intro v2 w3 hown2 hg3 hgr3))
      go_roundw
      case rel => exact ⟨j + 1, _, by omega, by rw [List.length_append, hu]; rfl, by go_num, by rw [HL2.out]; go_num, hown2, hg3, hsnoc.out _ hT.out⟩
      case measure => simp [intOf]; omega
    · obtain rfl : j = m := by omega
      go_wp2_with fail
      go_ret
      exact ⟨_, _, rfl, hO, by omega, HH.out, hB⟩
theorem inner_c (v : Value) (t : Tm) (w : World) (h : Tms w v (Tr.enc t)) (hg : Good t) (hn : (Tr.enc t).length ≤ 1048576) :
    Calls Tryz.prog 105 #[v] w fun e w' => ∃ u, e = .returned u ∧ PartsT w' u t ∧ Grew w w' :=
  (inner_o v t w w h (Grew.refl w) hg hn).mono fun _ _ ⟨u, _, h1, h2, h3, h4, h5⟩ => ⟨u, h1, parts_of h2 h3 h4 h5, h5⟩
theorem OwnVT.cell {w : World} {B g n c : Nat} {us : List Value} (h : OwnVT w B (.slice (some ⟨g, 0, none⟩) n c) us) {i : Nat} {x : Value} (hx : us[i]? = some x) : w.cell? ⟨g, i, none⟩ = some x := by
  obtain ⟨_, _, h3⟩ := Rd.of_own h
  rcases h3 with ⟨h4, _⟩ | ⟨b, o, c', h4, _, _, _, h8⟩
  · cases h4
  · obtain ⟨⟨rfl, rfl⟩, _⟩ : (g = b ∧ 0 = o) ∧ _ := by simpa using h4
    have := h8 i x hx
    rwa [Nat.zero_add] at this
theorem OwnVT.open_ {w : World} {B : Nat} {v : Value} {us : List Value} (h : OwnVT w B v us) (h0 : 0 < us.length) : ∃ g c, v = .slice (some ⟨g, 0, none⟩) us.length c ∧ us.length ≤ c ∧ c ≤ 9223372036854775807 ∧ B ≤ g ∧ g < w.heap.size := by
  rcases h.2 with ⟨_, h5⟩ | ⟨g, cap, cur, rfl, hb, hg, hnc, hcm, _, _⟩
  · omega
  · exact ⟨g, cap, rfl, hnc, hcm, hb, (Array.getElem?_eq_some_iff.1 hg).1⟩
/-- An append onto a row of nodes leaves the row of slices. -/
theorem ownVT_app {w w' : World} {B B' : Nat} {u v : Value} {us : List Value} {xs : List Tn} (h : OwnVT w B u us) (hv : OwnT w B' v xs) (hg : w.grownBy w' v.ownBlock) : OwnVT w' B u us := by
  rcases hv.2 with ⟨rfl, _⟩ | ⟨g, cap, cur, rfl, _, hh, _⟩
  · exact own_grew h (by
      have hg' : w.grownBy w' none := hg
      exact ⟨hg'.os, hg'.tape, hg'.output, hg'.size, fun i hi => hg'.block i hi (by simp)⟩)
  · exact own_only h (show Only g w w' from hg) (own_ne h hh (by decide))
end Go.Proofs.YthofkdpmgjkgkaaGreat

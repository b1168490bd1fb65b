/- Texts in one file: Pt Vt DecR DecU Tree2 Tk Tk2 Memo Dx Dy Dz Tr Ts De Df Dg Okm DecS InA InB NisD Bit9 BigW Same Args0 ArgB LawNis. -/
import Derived.Deep.RegionHeld3
import Derived.WalkSpells
import Derived.WalkLawsBesides
import Derived.Deep.LoopGhost
import Derived.Outline
import Derived.MapKept
import Derived.Maps.OwnOps
import Derived.Maps.OwnSet
import Derived.Shelf.Abstract
import Derived.Carry
import Derived.Deep.QuietTactic
import Derived.BigQuiet
import Derived.ChangeSlices
import Derived.Deep.Strs
import Derived.Lib.SmallJoins
import Derived.ProofKit
import Derived.Test.YtefkgomecpnpbaaGreatPa1
import Derived.Test.YtefkgomecpnpbaaGreatPa2
import Derived.Test.YtefkgomecpnpbaaGreatPa3
set_option linter.all false

/- The parts of a formula: parts, partTexts of the program. -/
namespace Go.Proofs.YtefkgomecpnpbaaGreat
open Go.RowKit

/-- A slice of two slices that read as the two parts. -/
def Two (w : World) (v : Value) (p q : Fm.Tree) : Prop := ∃ g u1 u2, v = .slice (some ⟨g, 0, none⟩) 2 2 ∧ (∀ W, Grew w W → W.cell? ⟨g, 0, none⟩ = some u1) ∧ (∀ W, Grew w W → W.cell? ⟨g, 1, none⟩ = some u2) ∧ Nodes w u1 (Fm.enc p) ∧ Nodes w u2 (Fm.enc q)

theorem parts_two (v : Value) (A p q : Fm.Tree) (w : World) (h : Nodes w v (Fm.enc A)) (hl : (Fm.enc A).length ≤ 40) (h2 : TwoF A p q) (hk : kindOf A = 2 ∨ kindOf A = 3 ∨ kindOf A = 4) :
    Calls Tryz.prog 132 #[v] w fun e w' => ∃ u, e = .returned u ∧ Two w' u p q ∧ Grew w w' := by
  have HH := Lib.hid h
  obtain ⟨b, o, c, rfl, hc, hm, k0⟩ := nodes_head h
  have K1 := Lib.hid (fun W (hW : Grew w W) => first_c _ (Fm.enc A) p W (h.grew hW) (by omega) (at_first h2))
  have K2 := Lib.hid (fun W (hW : Grew w W) => second_c _ (Fm.enc A) p q W (h.grew hW) (by omega) (at_first h2) (at_second h2))
  have KO := Lib.hid (fun w => partsOf_c (kindOf A) w)
  have ha : (Fm.arity (kindOf A) : Int) = 2 := by unfold Fm.arity; rw [if_pos hk]; rfl
  rw [ha] at KO
  have r0 := Grew.refl w
  have hpos := Fm.enc_pos A
  clear h h2 hk ha HH
  generalize kindOf A = kk at *
  generalize (Fm.enc A).length = n at *
  go_enter Tryz.func132, Tryz.ntmps132
  go_wp2_with fail
  refine (KO.out _).mono ?_
  rintro e w1 ⟨rfl, hg1⟩
  go_wp2_with fail
  refine (K1.out _ hg1).mono ?_
  rintro e w2 ⟨u1, rfl, hn1, hg2⟩
  have H1 := Lib.hid hn1
  obtain ⟨A1, c1, rfl⟩ := nodes_slice hn1
  clear hn1
  have g2 := hg1.trans hg2
  go_wp2_with fail
  refine (K2.out _ g2).mono ?_
  rintro e w3 ⟨u2, rfl, hn2, hg3⟩
  have H2 := Lib.hid hn2
  obtain ⟨A2, c2, rfl⟩ := nodes_slice hn2
  clear hn2
  go_wp2_with fail
  go_ret
  have hal := (Grew.refl w3).alloc (.cells #[.slice A1 (Fm.enc p).length c1, .slice A2 (Fm.enc q).length c2] 24)
  exact ⟨_, rfl, ⟨w3.heap.size, _, _, rfl, fun W hW => (hW.cell (by simp)).trans (by simp), fun W hW => (hW.cell (by simp)).trans (by simp), (H1.out.grew hg3).grew hal, H2.out.grew hal⟩, (g2.trans hg3).trans hal⟩

theorem parts_none (v : Value) (A : Fm.Tree) (w : World) (h : Nodes w v (Fm.enc A)) (hk : kindOf A = 0 ∨ kindOf A = 1) :
    Calls Tryz.prog 132 #[v] w fun e w' => e = .returned (.slice none 0 0) ∧ Grew w w' := by
  obtain ⟨b, o, c, rfl, hc, hm, k0⟩ := nodes_head h
  have KO := Lib.hid (fun w => partsOf_c (kindOf A) w)
  have ha : (Fm.arity (kindOf A) : Int) = 0 := by unfold Fm.arity; rw [if_neg (by omega), if_neg (by omega)]; rfl
  rw [ha] at KO
  have r0 := Grew.refl w
  have hpos := Fm.enc_pos A
  clear h hk ha
  generalize kindOf A = kk at *
  generalize (Fm.enc A).length = n at *
  go_enter Tryz.func132, Tryz.ntmps132
  go_wp2_with fail
  refine (KO.out _).mono ?_
  rintro e w1 ⟨rfl, hg1⟩
  go_wp2_with fail
  go_ret
  exact ⟨rfl, hg1⟩

theorem partTexts_none (v : Value) (A : Fm.Tree) (w : World) (h : Nodes w v (Fm.enc A)) (hk : kindOf A = 0 ∨ kindOf A = 1) :
    Calls Tryz.prog 120 #[v] w fun e w' => e = .returned (.slice none 0 0) ∧ Grew w w' := by
  have KP := Lib.hid (parts_none v A w h hk)
  obtain ⟨b, o, c, rfl, hc, hm, k0⟩ := nodes_head h
  clear h hk k0
  generalize (Fm.enc A).length = n at *
  go_enter Tryz.func120, Tryz.ntmps120
  go_wp2_with fail
  refine KP.out.mono ?_
  rintro e w1 ⟨rfl, hg1⟩
  go_wp2_with fail
  refine wp_loop_rounds 1 ?_; rw [rounds_succ]
  go_wp2_with fail
  go_ret
  exact ⟨rfl, hg1⟩

theorem partTexts_two (v : Value) (A p q : Fm.Tree) (w : World) (h : Nodes w v (Fm.enc A)) (hl : (Fm.enc A).length ≤ 40) (h2 : TwoF A p q) (hk : kindOf A = 2 ∨ kindOf A = 3 ∨ kindOf A = 4) :
    Calls Tryz.prog 120 #[v] w (GivesS w [tx p, tx q]) := by
  have KP := Lib.hid (parts_two v A p q w h hl h2 hk)
  have hlen := h2.len
  have K1 := Lib.hid (fun v w h => text0_c p v w h (by omega))
  have K2 := Lib.hid (fun v w h => text0_c q v w h (by omega))
  have e1 : bs (Fm.txt p 0) = tx p := rfl
  have e2 : bs (Fm.txt q 0) = tx q := rfl
  unfold Says at K1 K2
  rw [e1] at K1
  rw [e2] at K2
  obtain ⟨b, o, c, rfl, hc, hm, k0⟩ := nodes_head h
  clear h h2 hk k0 e1 e2 hlen
  generalize (Fm.enc A).length = n at *
  generalize tx p = sp at *
  generalize tx q = sq at *
  go_enter Tryz.func120, Tryz.ntmps120
  go_wp2_with fail
  refine KP.out.mono ?_
  rintro e w1 ⟨u, rfl, ⟨g, u1, u2, rfl, c1, c2, hn1, hn2⟩, hg1⟩
  have H1 := Lib.hid hn1
  have H2 := Lib.hid hn2
  obtain ⟨A1, d1, rfl⟩ := nodes_slice hn1
  obtain ⟨A2, d2, rfl⟩ := nodes_slice hn2
  clear hn1 hn2
  have r1 := Grew.refl w1
  have HO1 := OwnS.nil_ w1 w.heap.size
  go_wp2_with fail
  refine wp_loop_rounds 3 ?_; rw [rounds_succ]
  go_wp2_with fail
  refine (K1.out _ _ H1.out).mono ?_
  rintro e w2 ⟨rfl, hg2⟩
  have hB2 := hg1.trans hg2
  have hO2 := HO1.grew (hg2.trans ((Grew.refl w2).alloc (.cells #[.string sp] 9)))
  go_wp2_with (first | (at_builtin; refine wpList_appStr (w0 := w) _ _ rfl rfl _ [] rfl hO2 (hB2.alloc _) _ sp rfl (rd_lit _ _ _) (by simp) ?_; intro v3 w3 hown3 hg3 hgr3))
  have g13 : Grew w1 w3 := (hg2.trans ((Grew.refl w2).alloc (.cells #[.string sp] 9))).trans (by
    have hg' : (w2.alloc (.cells #[.string sp] 9)).grownBy w3 none := hgr3
    exact ⟨hg'.os, hg'.tape, hg'.output, hg'.size, fun i hi => hg'.block i hi (by simp)⟩)
  clear HO1 hO2 hgr3 hB2
  rw [rounds_succ]
  go_wp2_with fail
  refine (K2.out _ _ (H2.out.grew g13)).mono ?_
  rintro e w4 ⟨rfl, hg4⟩
  have hB4 := hg3.trans hg4
  have hO4 := hown3.grew (hg4.trans ((Grew.refl w4).alloc (.cells #[.string sq] 9)))
  go_wp2_with (first | (at_builtin; refine wpList_appStr (w0 := w) _ _ rfl rfl _ [sp] rfl hO4 (hB4.alloc _) _ sq rfl (rd_lit _ _ _) (by simp) ?_; intro v5 w5 hown5 hg5 hgr5))
  rw [rounds_succ]
  go_wp2_with fail
  go_ret
  exact ⟨_, rfl, hown5, hg5⟩
end Go.Proofs.YtefkgomecpnpbaaGreat

/- Slices of slices of nodes that read as formulas. -/
namespace Go.Proofs.YtefkgomecpnpbaaGreat
open Go.RowKit
open Fm (Nd Tree)

/-- The values read as the formulas. -/
def VT (w : World) (us : List Value) (L : List Tree) : Prop := us.length = L.length ∧ ∀ (i : Nat) (t : Tree), L[i]? = some t → ∃ u : Value, us[i]? = some u ∧ Nodes w u (Fm.enc t)
theorem VT.grew {w w' : World} {us : List Value} {L : List Tree} (h : VT w us L) (hg : Grew w w') : VT w' us L :=
  ⟨h.1, fun i t ht => let ⟨u, h1, h2⟩ := h.2 i t ht; ⟨u, h1, h2.grew hg⟩⟩
theorem VT.nil_ (w : World) : VT w [] [] := ⟨rfl, fun i t h => by simp at h⟩
theorem VT.one {w : World} {u : Value} {t : Tree} (h : Nodes w u (Fm.enc t)) : VT w [u] [t] := ⟨rfl, fun i t' ht => by
  have hi : i = 0 := by have := (List.getElem?_eq_some_iff.1 ht).1; simp at this; omega
  subst hi
  obtain rfl : t = t' := by simpa using ht
  exact ⟨u, rfl, h⟩⟩
theorem VT.app {w : World} {us vs : List Value} {L K : List Tree} (h : VT w us L) (k : VT w vs K) : VT w (us ++ vs) (L ++ K) := by
  refine ⟨by rw [List.length_append, List.length_append, h.1, k.1], fun i t ht => ?_⟩
  rw [List.getElem?_append] at ht ⊢
  rw [h.1]
  split at ht
  · rename_i hlt
    rw [if_pos hlt]; exact h.2 i t ht
  · rename_i hlt
    rw [if_neg hlt]; exact k.2 _ t ht
theorem VT.take {w : World} {us : List Value} {L : List Tree} (h : VT w us L) (k : Nat) : VT w (us.take k) (L.take k) := by
  refine ⟨by simp [h.1], fun i t ht => ?_⟩
  rw [List.getElem?_take] at ht ⊢
  split at ht
  · rename_i hlt
    rw [if_pos hlt]; exact h.2 i t ht
  · cases ht
theorem VT.drop {w : World} {us : List Value} {L : List Tree} (h : VT w us L) (k : Nat) : VT w (us.drop k) (L.drop k) := by
  refine ⟨by simp [h.1], fun i t ht => ?_⟩
  rw [List.getElem?_drop] at ht ⊢
  exact h.2 _ t ht
theorem VT.cell1 {w : World} {us : List Value} {L : List Tree} (h : VT w us L) : ∀ u ∈ us, u.oneCell' = true := by
  intro u hu
  obtain ⟨i, hi, rfl⟩ := List.getElem_of_mem hu
  have hi2 : i < L.length := by rw [← h.1]; exact hi
  obtain ⟨u', h1, h2⟩ := h.2 i L[i] (List.getElem?_eq_getElem hi2)
  rw [List.getElem?_eq_getElem hi] at h1
  cases h1
  obtain ⟨A, c, e⟩ := nodes_slice h2
  rw [e]; rfl

/-- The value reads as the list of formulas. -/
def LT (w : World) (v : Value) (L : List Tree) : Prop := ∃ us, Rd w 1 v L.length us ∧ VT w us L
theorem LT.grew {w w' : World} {v : Value} {L : List Tree} (h : LT w v L) (hg : Grew w w') : LT w' v L := let ⟨us, h1, h2⟩ := h; ⟨us, h1.grew hg, h2.grew hg⟩
theorem LT.of_own {w : World} {B : Nat} {v : Value} {us : List Value} {L : List Tree} (h : OwnV w B v us) (k : VT w us L) : LT w v L := ⟨us, by have := Rd.of_own h; rw [k.1] at this; exact this, k⟩
theorem LT.open_ {w : World} {v : Value} {L : List Tree} (h : LT w v L) : (v = .slice none 0 0 ∧ L = []) ∨ ∃ b o c, v = .slice (some ⟨b, o, none⟩) L.length c ∧ L.length ≤ c ∧ c ≤ 9223372036854775807 ∧ b < w.heap.size ∧
    ∀ i t, L[i]? = some t → ∃ u, (∀ W, Grew w W → W.cell? ⟨b, o + i, none⟩ = some u) ∧ Nodes w u (Fm.enc t) := by
  obtain ⟨us, ⟨h1, h2, h3⟩, h4, h5⟩ := h
  rcases h3 with ⟨h6, h7⟩ | ⟨b, o, c, h6, h7, h8, h9, h10⟩
  · exact .inl ⟨h6, List.eq_nil_of_length_eq_zero h7⟩
  · refine .inr ⟨b, o, c, h6, h7, h8, h9, fun i t ht => ?_⟩
    obtain ⟨u, k1, k2⟩ := h5 i t ht
    exact ⟨u, fun W hW => (hW.cell (p := ⟨b, o + i, none⟩) h9).trans (h10 i u k1), k2⟩
theorem lt_slice {w : World} {v : Value} {L : List Tree} (h : LT w v L) : ∃ A c, v = .slice A L.length c := by
  rcases h.open_ with ⟨rfl, rfl⟩ | ⟨b, o, c, rfl, _⟩
  · exact ⟨_, _, rfl⟩
  · exact ⟨_, _, rfl⟩
theorem LT.openA {w : World} {A : Option Addr} {n c : Nat} {L : List Tree} (h : LT w (.slice A n c) L) (hn : L.length = n) : ∀ j, j < n → ∃ b o, A = some ⟨b, o, none⟩ ∧ n ≤ c ∧ c ≤ 9223372036854775807 ∧ b < w.heap.size ∧
    ∀ i t, L[i]? = some t → ∃ u, (∀ W, Grew w W → W.cell? ⟨b, o + i, none⟩ = some u) ∧ Nodes w u (Fm.enc t) := by
  intro j hj
  rcases h.open_ with ⟨_, h0⟩ | ⟨b, o, c', hv, h2, h3, h4, h5⟩
  · rw [h0] at hn; simp at hn; omega
  · obtain ⟨rfl, _, rfl⟩ : A = some ⟨b, o, none⟩ ∧ n = L.length ∧ c = c' := by simpa using hv
    exact ⟨b, o, rfl, by omega, h3, h4, h5⟩
theorem LT.one {w : World} {T : TypeId} {u : Value} {t : Tree} (h : Nodes w u (Fm.enc t)) : LT (w.alloc (.cells #[u] T)) (.slice (some ⟨w.heap.size, 0, none⟩) 1 1) [t] :=
  ⟨[u], rd_lit w u T, (VT.one h).grew ((Grew.refl w).alloc _)⟩
theorem rd_lit2 (w : World) (u u2 : Value) (t : TypeId) : Rd (w.alloc (.cells #[u, u2] t)) 1 (.slice (some ⟨w.heap.size, 0, none⟩) 2 2) 2 [u, u2] := by
  refine ⟨rfl, by omega, .inr ⟨w.heap.size, 0, 2, rfl, by omega, by omega, by simp, fun j x hx => ?_⟩⟩
  have hj : j < 2 := by simpa using (List.getElem?_eq_some_iff.1 hx).1
  match j, hj with
  | 0, _ =>
    obtain rfl : u = x := by simpa using hx
    simp
  | 1, _ =>
    obtain rfl : u2 = x := by simpa using hx
    simp
theorem LT.two {w : World} {T : TypeId} {u u2 : Value} {t s : Tree} (h : Nodes w u (Fm.enc t)) (h2 : Nodes w u2 (Fm.enc s)) : LT (w.alloc (.cells #[u, u2] T)) (.slice (some ⟨w.heap.size, 0, none⟩) 2 2) [t, s] :=
  ⟨[u, u2], rd_lit2 w u u2 T, ((VT.one h).app (VT.one h2)).grew ((Grew.refl w).alloc _)⟩
theorem slice3 {w : World} {u : Value} {xs : List Nd} (h : Nodes w u xs) : ∃ A n c, u = .slice A n c := by
  obtain ⟨A, c, e⟩ := nodes_slice h
  exact ⟨A, _, c, e⟩
/-- Slices of a slice of slices. -/
theorem rd_take {w : World} {A : Option Addr} {n c : Nat} {us : List Value} (h : Rd w 1 (.slice A n c) n us) (i : Nat) (hi : i ≤ n) : Rd w 1 (.slice A i c) i (us.take i) := by
  obtain ⟨h1, h2, h3⟩ := h
  refine ⟨by simp; omega, by omega, ?_⟩
  rcases h3 with ⟨h4, h5⟩ | ⟨b, o, c', h4, h5, h6, h7, h8⟩
  · cases h4
    obtain rfl : i = 0 := by omega
    exact .inl ⟨rfl, rfl⟩
  · obtain ⟨rfl, rfl⟩ : A = some ⟨b, o, none⟩ ∧ c = c' := by simpa using h4
    refine .inr ⟨b, o, c, rfl, by omega, h6, h7, fun j u hu => ?_⟩
    rw [List.getElem?_take] at hu
    split at hu
    · exact h8 j u hu
    · cases hu
theorem rd_drop {w : World} {b o n c : Nat} {us : List Value} (h : Rd w 1 (.slice (some ⟨b, o, none⟩) n c) n us) (i : Nat) (hi : i ≤ n) : Rd w 1 (.slice (some ⟨b, o + i, none⟩) (n - i) (c - i)) (n - i) (us.drop i) := by
  obtain ⟨h1, h2, h3⟩ := h
  refine ⟨by simp; omega, by omega, ?_⟩
  rcases h3 with ⟨h4, h5⟩ | ⟨b', o', c', h4, h5, h6, h7, h8⟩
  · cases h4
  · obtain ⟨⟨rfl, rfl⟩, rfl⟩ : (b = b' ∧ o = o') ∧ c = c' := by simpa using h4
    refine .inr ⟨b, o + i, c - i, rfl, by omega, by omega, h7, fun j u hu => ?_⟩
    rw [List.getElem?_drop] at hu
    rw [Nat.add_assoc]
    exact h8 _ u hu

/-- The slice behind an index, as the walk spells it. -/
theorem rd_tail {w : World} {b o n c : Nat} {us : List Value} (h : Rd w 1 (.slice (some ⟨b, o, none⟩) n c) n us) (i : Nat) (hi : i ≤ n) (hn : n ≤ c) : Rd w 1 (.slice (if c = i then some ⟨b, o, none⟩ else some ⟨b, o + i, none⟩) (n - i) (c - i)) (n - i) (us.drop i) := by
  by_cases hc : c = i
  · rw [if_pos hc]
    have h0 : n - i = 0 := by omega
    have h1 := h.1
    refine ⟨by simp; omega, by omega, ?_⟩
    obtain ⟨_, _, h3⟩ := h
    rcases h3 with ⟨h4, _⟩ | ⟨b', o', c', h4, h5, h6, h7, h8⟩
    · cases h4
    · obtain ⟨⟨rfl, rfl⟩, rfl⟩ : (b = b' ∧ o = o') ∧ c = c' := by simpa using h4
      refine .inr ⟨b, o, c - i, rfl, by omega, by omega, h7, fun j u hu => ?_⟩
      rw [List.getElem?_drop, List.getElem?_eq_none (by omega)] at hu
      cases hu
  · rw [if_neg hc]
    exact rd_drop h i hi

/-- An append onto a row of the call's own, at a step of a region that draws its order. -/
theorem step_append_rd {P : Program} (w : World) {ops : Array Oper} {o : Oper} {a : Act} {K : Act → World → Prop} {Q : Exit → Act → World → Prop} {E : Prop} (hgd : o.guard = none) (s x : Operand) (t : TypeId)
    (ho : o.op = .call { callee := .builtin .append, args := #[s, x], argTypes := #[t, t] })
    (base : Nat) (e : TypeId) (i : TypeInfo) (z : Value) (size bytes : Nat) (ht : P.underlying t = some (.slice e)) (hi : P.info? e = some i) (hz : i.zero = some z)
    (hsize : i.size = size) (hby : i.bytes = bytes) (hzs : z.cells.size = size) (hsz : 0 < size)
    (v : Value) (n : Nat) (xs : List Value) (hs : a.eval s = v) (hown : w.ownsRow base e size v n xs)
    (vx : Value) (m : Nat) (news : List Value) (hx : a.eval x = vx) (hr : Rd w size vx m news) (h1 : ∀ u ∈ news, u.oneCell' = true)
    (h63 : n + m ≤ maxLen) (hbytes : (n + m) * bytes ≤ 140737488355328) (hbase : base ≤ w.heap.size)
    (h : ∀ v' w', w'.ownsRow base e size v' (n + m) (xs ++ news) → w.grownBy w' v.ownBlock → K (a.put o.dst v') w') :
    if Region.wanted o (yielded ops a.tmps) = true then Oper.wp P o a w K Q else E := by
  have hw : Region.wanted o (yielded ops a.tmps) = true := by simp [Region.wanted, hgd]
  rw [if_pos hw]
  obtain ⟨hl, _, hr⟩ := hr
  rcases hr with ⟨rfl, rfl⟩ | ⟨b, of, c, rfl, _, _, _, hc⟩
  · have hnews : news = [] := List.eq_nil_of_length_eq_zero (by simpa using hl)
    subst hnews
    have hrun := run_append_owned_none (P := P) w base t o.type e i size ht hi v n xs hown
    unfold Oper.wp execOp
    simp only [ho, resolve, invoke, builtin, Sem.run_bind, Sem.run_pure, Result.andThen_ok, List.map_toArray, List.map_cons, List.map_nil, hs, hx, hrun]
    exact h v w (by simpa using hown) (World.grownBy.refl _ _)
  · obtain ⟨v', w', hrun, h2, h3, _, _⟩ := run_append_own_at (P := P) w base t o.type e i z size bytes ht hi hz hsize hby hzs hsz v n xs hown ⟨b, of, none⟩ m c news hl (fun j u hu => by rw [Addr.add_lit]; exact hc j u hu) h1 h63 hbytes hbase
    unfold Oper.wp execOp
    simp only [ho, resolve, invoke, builtin, Sem.run_bind, Sem.run_pure, Result.andThen_ok, List.map_toArray, List.map_cons, List.map_nil, hs, hx, hrun]
    exact h v' w' h2 h3

theorem bigV {n m : Nat} (h : n + m ≤ 4294967296) : n + m ≤ maxLen ∧ (n + m) * 24 ≤ 140737488355328 := by
  unfold maxLen; omega
/-- 'out = append(out, xs...)' in a region that draws its order. -/
theorem step_appV {ops : Array Oper} {o : Oper} {a : Act} {K : Act → World → Prop} {Q : Exit → Act → World → Prop} {E : Prop} {w w0 : World} (hgd : o.guard = none) (s x : Operand)
    (ho : o.op = .call { callee := .builtin .append, args := #[s, x], argTypes := #[66, 66] })
    (v : Value) (us : List Value) (hs : a.eval s = v) (hown : OwnV w w0.heap.size v us) (hg : Grew w0 w) (vx : Value) (m : Nat) (vs : List Value) (hx : a.eval x = vx) (hr : Rd w 1 vx m vs) (h1 : ∀ u ∈ vs, u.oneCell' = true) (hn : us.length + m ≤ 4294967296)
    (h : ∀ v' w', OwnV w' w0.heap.size v' (us ++ vs) → Grew w0 w' → K (a.put o.dst v') w') : if Region.wanted o (yielded ops a.tmps) = true then Oper.wp Tryz.prog o a w K Q else E := by
  obtain ⟨i0, hi0, hz0, hz1, hz2⟩ := info_parts infoSl
  have hm : vs.length = m := by have := hr.1; omega
  refine step_append_rd w hgd s x _ ho w0.heap.size 24 i0 _ 1 24 Tryz.underlying66 hi0 hz0 hz1 hz2 rfl (by omega) v us.length us hs hown vx m vs hx hr h1 (bigV hn).1 (bigV hn).2 hg.size ?_
  intro v' w' h2 h3
  refine h v' w' ?_ (hg.grown h3 fun k hk => (hown.lt k hk).1)
  unfold OwnV
  rw [List.length_append, hm]
  exact h2
theorem wpList_appVs {ops : Array Oper} {rest : List Oper} {o : Oper} {a : Act} {Q : Exit → Act → World → Prop} {w w0 : World} (s x : Operand) (hgd : o.guard = none)
    (ho : o.op = .call { callee := .builtin .append, args := #[s, x], argTypes := #[66, 66] })
    (v : Value) (us : List Value) (hs : a.eval s = v) (hown : OwnV w w0.heap.size v us) (hg : Grew w0 w) (vx : Value) (m : Nat) (vs : List Value) (hx : a.eval x = vx) (hr : Rd w 1 vx m vs) (h1 : ∀ u ∈ vs, u.oneCell' = true) (hn : us.length + m ≤ 4294967296)
    (h : ∀ v' w', OwnV w' w0.heap.size v' (us ++ vs) → Grew w0 w' → wpList Tryz.prog ops Q rest (a.put o.dst v') w') : wpList Tryz.prog ops Q (o :: rest) a w := by
  obtain ⟨i0, hi0, hz0, hz1, hz2⟩ := info_parts infoSl
  have hm : vs.length = m := by have := hr.1; omega
  refine wpList_append_rd w hgd s x _ ho w0.heap.size 24 i0 _ 1 24 Tryz.underlying66 hi0 hz0 hz1 hz2 rfl (by omega) v us.length us hs hown vx m vs hx hr h1 (bigV hn).1 (bigV hn).2 hg.size ?_
  intro v' w' h2 h3 _
  refine h v' w' ?_ (hg.grown h3 fun k hk => (hown.lt k hk).1)
  unfold OwnV
  rw [List.length_append, hm]
  exact h2
end Go.Proofs.YtefkgomecpnpbaaGreat

/- The reference's lists of formulas: l23Has, l23With, l23Useless. -/
namespace Go.Proofs.YtefkgomecpnpbaaGreat
open Go.RowKit
open Fm (Nd Tree)

theorem enc_iff {a b : Tree} : Fm.enc a = Fm.enc b ↔ a = b := ⟨enc_inj, fun h => by rw [h]⟩
/-- The first j formulas are not this one. -/
def NoneT (L : List Tree) (x : Tree) (j : Nat) : Prop := ∀ i, i < j → ∀ t, L[i]? = some t → t ≠ x
theorem noneT_all {L : List Tree} {x : Tree} (h : NoneT L x L.length) : hasL L x = false := by
  refine dc_false fun hm => ?_
  obtain ⟨i, hi, he⟩ := List.getElem_of_mem hm
  exact h i hi _ (List.getElem?_eq_getElem hi) he
theorem noneT_succ {L : List Tree} {x t : Tree} {j : Nat} (h : NoneT L x j) (ht : L[j]? = some t) (hne : t ≠ x) : NoneT L x (j + 1) := by
  intro i hi s hs
  rcases Nat.lt_or_ge i j with hk | hk
  · exact h i hk s hs
  · obtain rfl : i = j := by omega
    rw [ht] at hs; cases hs; exact hne

/-- The call returns a list of formulas. -/
def GivesLT (w : World) (L : List Tree) (e : Ending) (w' : World) : Prop := ∃ v, e = .returned v ∧ LT w' v L ∧ Grew w w'
theorem withL_take {L xs : List Tree} {j : Nat} {t : Tree} (ht : xs[j]? = some t) : withL L (xs.take (j + 1)) = with1 (withL L (xs.take j)) t := by
  have hj : j < xs.length := (List.getElem?_eq_some_iff.1 ht).1
  rw [List.take_succ_eq_append_getElem hj, (List.getElem?_eq_some_iff.1 ht).2]
  unfold withL
  rw [List.foldl_append]; rfl
theorem with1_len (L : List Tree) (x : Tree) : (with1 L x).length ≤ L.length + 1 := by
  unfold with1
  split
  · omega
  · simp
theorem withL_len (L : List Tree) : ∀ (xs : List Tree), (withL L xs).length ≤ L.length + xs.length := by
  intro xs
  induction xs generalizing L with
  | nil => exact Nat.le_refl _
  | cons x xs ih =>
    have h1 := ih (with1 L x)
    have h2 := with1_len L x
    show (withL (with1 L x) xs).length ≤ L.length + (xs.length + 1)
    omega
theorem with1_yes {L : List Tree} {x : Tree} (h : hasL L x = true) : with1 L x = L := by unfold with1; rw [h]; rfl
theorem with1_no {L : List Tree} {x : Tree} (h : hasL L x = false) : with1 L x = L ++ [x] := by unfold with1; rw [h]; rfl
theorem withL_ok {L xs : List Tree} (h1 : ∀ a ∈ L, FmOk a) (h2 : ∀ a ∈ xs, FmOk a) : ∀ a ∈ withL L xs, FmOk a := by
  induction xs generalizing L with
  | nil => exact h1
  | cons x xs ih =>
    refine ih (L := with1 L x) (fun a ha => ?_) (fun a ha => h2 a (.tail _ ha))
    rcases with1_mem.1 ha with h | rfl
    · exact h1 a h
    · exact h2 _ (.head _)

end Go.Proofs.YtefkgomecpnpbaaGreat

/- The parts of a formula in the reference; l23Useless. -/
namespace Go.Proofs.YtefkgomecpnpbaaGreat
open Go.RowKit
open Fm (Nd Tree)

theorem not_imp_kind {t : Tree} (h : ∀ p q, t ≠ .imp p q) : (kindOf t != 4) = true := by
  cases t with
  | imp p q => exact absurd rfl (h p q)
  | _ => rfl

end Go.Proofs.YtefkgomecpnpbaaGreat

/- treeOf and arrow of the program; its contracts on formulas. -/
namespace Go.Proofs.YtefkgomecpnpbaaGreat
open Go.RowKit
open Fm (Tree)

/-- The call returns a formula. -/
def GivesF (w : World) (a : Tree) (e : Ending) (w' : World) : Prop := ∃ u, e = .returned u ∧ Nodes w' u (Fm.enc a) ∧ Grew w w'
theorem treeOf_c (a : Tree) (w : World) (ha : FmOk a) : Calls Tryz.prog 119 #[.string (tx a)] w (GivesF w a) := by
  have hsz := tx_size ha.1
  have hrd : Fm.parse (tx a).data.toList Fm.fuel = (Fm.enc a, ((Fm.txt a 0).length, false)) := by
    have h := Fm.read_txt a (by have := Fm.txt_len a 0; have := ha.1; unfold Fm.fuel; omega)
    exact h
  have HT := Lib.hid (fun g w hR => imply_top 124 (by decide) (tx a) Fm.fuel (by omega) (by unfold Fm.fuel; omega) g w hR)
  rw [hrd] at HT
  have HR0 := Lib.hid (Rdr.new w 124 (tx a))
  clear hrd ha
  generalize tx a = s at *
  generalize (Fm.txt a 0).length = p at *
  unfold GivesF
  generalize Fm.enc a = xs at *
  go_enter Tryz.func119, Tryz.ntmps119
  go_wp2_with fail
  refine (HT.out _ _ HR0.out).mono ?_
  rintro e w1 ⟨v1, rfl, ho1, hR1, hO1⟩
  have hG := hO1.grew_of ((Grew.refl w).alloc _) (Nat.le_refl _)
  go_wp2_with fail
  go_ret
  exact ⟨_, rfl, ho1.nodes, hG⟩

theorem first_t {A x y : Tree} (h2 : TwoF A x y) (hA : FmOk A) (v : Value) (w : World) (h : Nodes w v (Fm.enc A)) : Calls Tryz.prog 90 #[v] w (GivesF w x) :=
  (first_c v (Fm.enc A) x w h (by have := hA.1; omega) (at_first h2)).mono fun _ _ h => h
theorem second_t {A x y : Tree} (h2 : TwoF A x y) (hA : FmOk A) (v : Value) (w : World) (h : Nodes w v (Fm.enc A)) : Calls Tryz.prog 91 #[v] w (GivesF w y) :=
  (second_c v (Fm.enc A) x y w h (by have := hA.1; omega) (at_first h2) (at_second h2)).mono fun _ _ h => h
theorem text_t (a : Tree) (v : Value) (w : World) (ha : FmOk a) (h : Nodes w v (Fm.enc a)) : Calls Tryz.prog 35 #[v] w fun e w' => e = .returned (.string (tx a)) ∧ Grew w w' :=
  (text_c a v w h (by have := ha.1; omega)).mono fun _ _ h => h

/-- Two formulas: the implication. -/
theorem arrow2_c (b : Nat) (A1 A2 : Option Addr) (n1 n2 c1 c2 : Nat) (x y : Tree) (w : World) (hx : Nodes w (.slice A1 n1 c1) (Fm.enc x)) (hy : Nodes w (.slice A2 n2 c2) (Fm.enc y)) (hl : nn x + nn y ≤ 100)
    (k1 : ∀ W, Grew w W → W.cell? ⟨b, 0, none⟩ = some (.slice A1 n1 c1)) (k2 : ∀ W, Grew w W → W.cell? ⟨b, 1, none⟩ = some (.slice A2 n2 c2)) :
    Calls Tryz.prog 140 #[.slice (some ⟨b, 0, none⟩) 2 2] w (GivesF w (.imp x y)) := by
  unfold nn at hl
  have KJ := Lib.hid (fun W (hW : Grew w W) => join_c 4 _ _ (Fm.enc x) (Fm.enc y) W (hx.grew hW) (hy.grew hW) (by omega))
  have r0 := Grew.refl w
  have p1 := k1 _ r0
  have p2 := k2 _ r0
  clear hx hy hl
  go_enter Tryz.func140, Tryz.ntmps140
  go_wp2_with fail
  refine wp_loop_rounds 2 ?_
  rw [rounds_succ]
  go_wp2_with fail
  refine (KJ.out _ r0).mono ?_
  rintro e w1 ⟨u, rfl, hu, hg1⟩
  go_wp2_with fail
  rw [rounds_succ]
  go_wp2_with fail
  go_ret
  exact ⟨_, rfl, hu.nodes, hg1⟩
/-- Three formulas. -/
theorem arrow3_c (b : Nat) (A1 A2 A3 : Option Addr) (n1 n2 n3 c1 c2 c3 : Nat) (x y z : Tree) (w : World) (hx : Nodes w (.slice A1 n1 c1) (Fm.enc x)) (hy : Nodes w (.slice A2 n2 c2) (Fm.enc y)) (hz : Nodes w (.slice A3 n3 c3) (Fm.enc z)) (hl : nn x + nn y + nn z ≤ 100)
    (k1 : ∀ W, Grew w W → W.cell? ⟨b, 0, none⟩ = some (.slice A1 n1 c1)) (k2 : ∀ W, Grew w W → W.cell? ⟨b, 1, none⟩ = some (.slice A2 n2 c2)) (k3 : ∀ W, Grew w W → W.cell? ⟨b, 2, none⟩ = some (.slice A3 n3 c3)) :
    Calls Tryz.prog 140 #[.slice (some ⟨b, 0, none⟩) 3 3] w (GivesF w (.imp x (.imp y z))) := by
  unfold nn at hl
  have KJ := Lib.hid (fun W (hW : Grew w W) => join_c 4 _ _ (Fm.enc y) (Fm.enc z) W (hy.grew hW) (hz.grew hW) (by omega))
  have KI := Lib.hid (fun u W (hW : Grew w W) (hu : Nodes W u (Fm.join 4 (Fm.enc y) (Fm.enc z))) => join_c 4 _ u (Fm.enc x) _ W (hx.grew hW) hu (by simp only [Fm.join, List.length_cons, List.length_append]; omega))
  have r0 := Grew.refl w
  have p1 := k1 _ r0
  have p2 := k2 _ r0
  have p3 := k3 _ r0
  clear hx hy hz hl
  go_enter Tryz.func140, Tryz.ntmps140
  go_wp2_with fail
  refine wp_loop_rounds 3 ?_
  rw [rounds_succ]
  go_wp2_with fail
  refine (KJ.out _ r0).mono ?_
  rintro e w1 ⟨u, rfl, hu, hg1⟩
  have q1 := k1 _ hg1
  go_wp2_with fail
  rw [rounds_succ]
  go_wp2_with fail
  refine (KI.out _ _ hg1 hu.nodes).mono ?_
  rintro e w2 ⟨u2, rfl, hu2, hg2⟩
  go_wp2_with fail
  rw [rounds_succ]
  go_wp2_with fail
  go_ret
  exact ⟨_, rfl, hu2.nodes, hg1.trans hg2⟩
end Go.Proofs.YtefkgomecpnpbaaGreat

/- implied of the program: the premises for an implication of the left side. -/
namespace Go.Proofs.YtefkgomecpnpbaaGreat
open Go.RowKit
open Fm (Tree)

/-- A slice of sequents. -/
def Gls (w : World) (v : Value) (ps : List Gl) : Prop :=
  (v = .slice none 0 0 ∧ ps = []) ∨ ∃ b o c, v = .slice (some ⟨b, o, none⟩) ps.length c ∧ ps.length ≤ c ∧ c ≤ 9223372036854775807 ∧ b < w.heap.size ∧
    ∀ (i : Nat) (p : Gl), ps[i]? = some p → ∃ u, w.cell? ⟨b, o + i * 2, none⟩ = some u ∧ w.cell? ⟨b, o + i * 2 + 1, none⟩ = some (.string (tx p.2)) ∧ TL w u p.1
theorem Gls.grew {w w' : World} {v : Value} {ps : List Gl} (h : Gls w v ps) (hg : Grew w w') : Gls w' v ps := by
  rcases h with h | ⟨b, o, c, h1, h2, h3, h4, h5⟩
  · exact .inl h
  · refine .inr ⟨b, o, c, h1, h2, h3, Nat.lt_of_lt_of_le h4 hg.size, fun i p hp => ?_⟩
    obtain ⟨u, k1, k2, k3⟩ := h5 i p hp
    exact ⟨u, (hg.cell (p := ⟨b, o + i * 2, none⟩) h4).trans k1, (hg.cell (p := ⟨b, o + i * 2 + 1, none⟩) h4).trans k2, k3.grew hg⟩
theorem Gls.nil_ (w : World) : Gls w (.slice none 0 0) [] := .inl ⟨rfl, rfl⟩
theorem Gls.one {w : World} {T : TypeId} {u : Value} {p : Gl} (h : TL w u p.1) : Gls (w.alloc (.cells #[u, .string (tx p.2)] T)) (.slice (some ⟨w.heap.size, 0, none⟩) 1 1) [p] := by
  refine .inr ⟨w.heap.size, 0, 1, rfl, Nat.le_refl _, by omega, by simp, fun i q hq => ?_⟩
  have hi : i = 0 := by have := (List.getElem?_eq_some_iff.1 hq).1; simp at this; omega
  subst hi
  obtain rfl : p = q := by simpa using hq
  exact ⟨u, by simp, by simp, h.grew ((Grew.refl w).alloc _)⟩
theorem Gls.two {w : World} {T : TypeId} {u u2 : Value} {p q : Gl} (h : TL w u p.1) (h2 : TL w u2 q.1) : Gls (w.alloc (.cells #[u, .string (tx p.2), u2, .string (tx q.2)] T)) (.slice (some ⟨w.heap.size, 0, none⟩) 2 2) [p, q] := by
  refine .inr ⟨w.heap.size, 0, 2, rfl, Nat.le_refl _, by omega, by simp, fun i r hr => ?_⟩
  have hi : i < 2 := by simpa using (List.getElem?_eq_some_iff.1 hr).1
  match i, hi with
  | 0, _ =>
    obtain rfl : p = r := by simpa using hr
    exact ⟨u, by simp, by simp, h.grew ((Grew.refl w).alloc _)⟩
  | 1, _ =>
    obtain rfl : q = r := by simpa using hr
    exact ⟨u2, by simp, by simp, h2.grew ((Grew.refl w).alloc _)⟩
theorem TL.one {w : World} {T : TypeId} {a : Tree} : TL (w.alloc (.cells #[.string (tx a)] T)) (.slice (some ⟨w.heap.size, 0, none⟩) 1 1) [a] := by
  refine ⟨rfl, by simp, .inr ⟨w.heap.size, 0, 1, rfl, by simp, by omega, by simp, fun j u hu => ?_⟩⟩
  have hj : j = 0 := by have := (List.getElem?_eq_some_iff.1 hu).1; simp [scells] at this; omega
  subst hj
  obtain rfl : (.string (tx a) : Value) = u := by simpa [scells] using hu
  simp
theorem TL.lit {w : World} {k : Nat} {a : Tree} (hk : k < w.heap.size) (h : w.cell? ⟨k, 0, none⟩ = some (.string (tx a))) : TL w (.slice (some ⟨k, 0, none⟩) 1 1) [a] := by
  refine ⟨rfl, by simp, .inr ⟨k, 0, 1, rfl, by simp, by omega, hk, fun j u hu => ?_⟩⟩
  have hj : j = 0 := by have := (List.getElem?_eq_some_iff.1 hu).1; simp [scells] at this; omega
  subst hj
  obtain rfl : (.string (tx a) : Value) = u := by simpa [scells] using hu
  exact h
theorem TL.two {w : World} {T : TypeId} {a b : Tree} : TL (w.alloc (.cells #[.string (tx a), .string (tx b)] T)) (.slice (some ⟨w.heap.size, 0, none⟩) 2 2) [a, b] := by
  refine ⟨rfl, by simp, .inr ⟨w.heap.size, 0, 2, rfl, by simp, by omega, by simp, fun j u hu => ?_⟩⟩
  have hj : j < 2 := by have := (List.getElem?_eq_some_iff.1 hu).1; simpa [scells] using this
  match j, hj with
  | 0, _ =>
    obtain rfl : (.string (tx a) : Value) = u := by simpa [scells] using hu
    simp
  | 1, _ =>
    obtain rfl : (.string (tx b) : Value) = u := by simpa [scells] using hu
    simp
theorem mem_tx {L : List Tree} {a : Tree} (hL : ∀ b ∈ L, FmOk b) (ha : FmOk a) : tx a ∈ L.map tx ↔ a ∈ L := by
  constructor
  · intro h
    obtain ⟨b, hb, he⟩ := List.mem_map.1 h
    rw [← tx_inj (hL b hb).1 ha.1 he]; exact hb
  · exact fun h => List.mem_map.2 ⟨a, h, rfl⟩
theorem contains_t (v : Value) (L : List Tree) (a : Tree) (w : World) (h : TL w v L) (hL : ∀ b ∈ L, FmOk b) (ha : FmOk a) (hn : L.length ≤ 1099511627776) :
    Calls Tryz.prog 118 #[v, .string (tx a)] w fun e w' => e = .returned (.bool (hasL L a)) ∧ Grew w w' := by
  have h1 := containsS_c v (L.map tx) (tx a) w h (by simpa using hn)
  rw [dc_congr (mem_tx hL ha)] at h1
  exact h1
/-- What taken and implied give. -/
def GivesTk (w : World) (L : List Tree) (c t : Tree) (e : Ending) (w' : World) : Prop := ∃ u ps ok, e = .returned (.tuple #[u, .bool ok]) ∧ Taken L c t ps ok ∧ Gls w' u ps ∧ Grew w w'

/-- A box that holds a sequent. -/
structure BoxG (w : World) (b : Nat) (v : Value) (r : ByteArray) : Prop where
  lt : b < w.heap.size
  c0 : w.cell? ⟨b, 0, none⟩ = some v
  c1 : w.cell? ⟨b, 1, none⟩ = some (.string r)
theorem BoxG.at0 {w : World} {b : Nat} {v : Value} {r : ByteArray} (h : BoxG w b v r) : ∀ W, Grew w W → W.cell? ⟨b, 0, none⟩ = some v := fun W hW => (hW.cell (p := ⟨b, 0, none⟩) h.lt).trans h.c0
theorem BoxG.at1 {w : World} {b : Nat} {v : Value} {r : ByteArray} (h : BoxG w b v r) : ∀ W, Grew w W → W.cell? ⟨b, 1, none⟩ = some (.string r) := fun W hW => (hW.cell (p := ⟨b, 1, none⟩) h.lt).trans h.c1
theorem BoxG.new (w : World) (v : Value) (r : ByteArray) (T : TypeId) : BoxG (w.alloc (.cells #[v, .string r] T)) w.heap.size v r := ⟨by simp, by simp, by simp⟩

set_option maxHeartbeats 4000000 in
theorem implied_c (v va vb : Value) (L : List Tree) (c x y : Tree) (w : World) (hS : OkS L c) (ht : (.imp x y) ∈ L) (h : TL w v L) (hx : Nodes w va (Fm.enc x)) (hy : Nodes w vb (Fm.enc y)) :
    Calls Tryz.prog 136 #[.agg #[v, .string (tx c)], .string (tx (.imp x y)), va, vb] w (GivesTk w L c (.imp x y)) := by
  have hf := hS.1 _ ht
  obtain ⟨hfx, hfy⟩ := fmOk_imp hf
  have hn : L.length ≤ 1048576 := Nat.le_trans (len_nu L c) hS.2.2
  have HX := Lib.hid hx
  have HY := Lib.hid hy
  have HL := Lib.hid h
  have HS := Lib.hid hS
  have HT := Lib.hid ht
  have HF := Lib.hid hf
  have KI := Lib.hid (fun K vk W (hW : Grew w W) (hk : TL W vk K) (hK : ∀ a ∈ K, FmOk a) (hl : K.length ≤ 2) => instead_c v vk L K (.imp x y) (tx c) W (h.grew hW) hk hS.1 hK hf (by omega))
  obtain ⟨Av, n, cv, rfl⟩ := h.slice
  obtain ⟨bx, ox, nx, cx, rfl, hnx, hnxe, hkx⟩ := head_t hx
  obtain ⟨Ab, nb, cb, rfl⟩ := slice3 hy
  have hnnx : (0 : Int) < (nx : Int) := by omega
  have hgal := Lib.hid ((Grew.refl w).alloc (.cells #[.slice Av n cv, .string (tx c)] 90))
  have k0 : ∀ W, Grew (w.alloc (.cells #[.slice Av n cv, .string (tx c)] 90)) W → W.cell? ⟨bx, ox, none⟩ = some (.int .i64 (kindOf x)) := fun W hW => hkx W (hgal.out.trans hW)
  have hbox := BoxG.new w (.slice Av n cv) (tx c) 90
  have b0 := hbox.at0
  have b1 := hbox.at1
  have r1 := Grew.refl (w.alloc (.cells #[.slice Av n cv, .string (tx c)] 90))
  generalize tx (.imp x y) = ts at *
  clear hS ht h hx hy hkx hf hnxe hbox
  rcases fm_five hfx with ⟨p, rfl⟩ | rfl | ⟨p, q, rfl⟩ | ⟨p, q, rfl⟩ | ⟨p, q, rfl⟩
  · have KC := Lib.hid (fun W (hW : Grew w W) => contains_t _ L (.var p) W (HL.out.grew hW) HS.out.1 hfx (by omega))
    have KT := Lib.hid (fun W (hW : Grew w W) => text_t (.var p) _ W hfx (HX.out.grew hW))
    have KF := Lib.hid (fun P (hP : Ins L (.imp (.var p) y) [y] P) => tk_var HS.out HT.out hP)
    generalize hasL L (.var p) = hq at *
    generalize tx (.var p) = tp at *
    simp only [kindOf] at k0
    go_enter Tryz.func136, Tryz.ntmps136
    go_wp2_with fail
    generalize w.alloc (.cells #[.slice Av n cv, .string (tx c)] 90) = w1 at *
    have hd1 := r1.drew
    have gd := hgal.out.trans hd1
    clear k0
    go_region_held3 (fun w' => Grew w1 w') (first | with_reducible assumption | exact Grew.alloc ‹_› _)
      (first
       | (go_at_call 118; have hz6 := gq6; refine (KC.out _ (by first | with_reducible exact gq6 | with_reducible exact Grew.alloc gq6 _)).mono ?_; rintro e w7 ⟨rfl, hg7⟩; have hk7 : Grew w6 w7 := (by first | with_reducible exact hg7 | with_reducible exact Grew.of_alloc hg7); have h17 := h16.trans hk7; have gq7 := gq6.trans hk7)
       | (go_at_call 35; have hz5 := gq5; refine (KT.out _ (by first | with_reducible exact gq5 | with_reducible exact Grew.alloc gq5 _)).mono ?_; rintro e w6 ⟨rfl, hg6⟩; have hk6 : Grew w5 w6 := (by first | with_reducible exact hg6 | with_reducible exact Grew.of_alloc hg6); have h16 := h15.trans hk6; have gq6 := gq5.trans hk6)
       | (go_at_call 135; refine (KI.out [y] _ _ (g4.alloc _) TL.one (ok_one hfy) (by simp)).mono ?_; rintro e w5 ⟨u, P, rfl, hP, hu, hg5⟩; have h15 := (h14.alloc _).trans hg5; have gq5 := (g4.alloc _).trans hg5; have HUP := Lib.hid hu; obtain ⟨Au, nu', cu, rfl⟩ := hu.slice; clear hu)
       | (go_at_call 35; refine (text_t y _ _ hfy (HY.out.grew gd)).mono ?_; rintro e w4 ⟨rfl, hg4⟩; have h14 := hd1.trans hg4; have g4 := gd.trans hg4))
    all_goals go_wp2_with fail
    all_goals go_ret2
    all_goals first
      | exact ⟨_, _, _, rfl, KF.out _ hP, Gls.one (p := (P, c)) (T := 90) (HUP.out.grew (hk6.trans hk7)), gq7.alloc _⟩
      | exact ⟨_, _, _, rfl, KF.out _ hP, (Gls.one (p := (P, c)) (T := 90) (HUP.out.grew hk6)).grew hg7, gq7⟩
      | exact ⟨_, _, _, rfl, KF.out _ hP, (Gls.one (p := (P, c)) (T := 90) HUP.out).grew (hg6.trans hk7), gq7⟩
  · simp only [kindOf] at k0
    go_enter Tryz.func136, Tryz.ntmps136
    go_wp2_with fail
    generalize w.alloc (.cells #[.slice Av n cv, .string (tx c)] 90) = w1 at *
    refine (KI.out [] _ _ hgal.out (TL.nil_ _) (fun a ha => by cases ha) (by simp)).mono ?_
    rintro e w2 ⟨u, P, rfl, hP, hu, hg2⟩
    obtain ⟨Au, nu', cu, rfl⟩ := hu.slice
    have hgl := Gls.one (p := (P, c)) (T := 90) hu
    go_wp2_with fail
    go_ret2
    exact ⟨_, _, _, rfl, tk_fls HS.out HT.out hP, hgl, (hgal.out.trans hg2).alloc _⟩
  · have hfa := fmOk_and_imp HF.out
    have bi := fmOk_nn HF.out
    simp only [nn_imp, nn_and] at bi
    have KL := Lib.hid (fun W (hW : Grew w W) => first_t (two_and p q) hfx _ W (HX.out.grew hW))
    have KR := Lib.hid (fun W (hW : Grew w W) => second_t (two_and p q) hfx _ W (HX.out.grew hW))
    simp only [kindOf] at k0
    go_enter Tryz.func136, Tryz.ntmps136
    go_wp2_with fail
    generalize w.alloc (.cells #[.slice Av n cv, .string (tx c)] 90) = w1 at *
    have hd1 := r1.drew
    have gd := hgal.out.trans hd1
    clear k0
    go_region_held3 (fun w' => Grew w1 w') (first | with_reducible assumption | exact Grew.alloc ‹_› _)
      (first
       | (go_at_call 135; refine (KI.out [.imp p (.imp q y)] _ _ (g6.alloc _) TL.one (ok_one hfa) (by simp)).mono ?_; rintro e w7 ⟨u, P, rfl, hP, hu, hg7⟩; have h17 := (h16.alloc _).trans hg7; have g7 := (g6.alloc _).trans hg7; have HUP := Lib.hid hu; obtain ⟨Au, nu', cu, rfl⟩ := hu.slice; clear hu)
       | (go_at_call 35; refine (text_t (.imp p (.imp q y)) _ _ hfa hu3).mono ?_; rintro e w6 ⟨rfl, hg6⟩; have h16 := h15.trans hg6; have g6 := g5.trans hg6)
       | (go_at_call 140; refine (arrow3_c w4.heap.size A1 A2 Ab n1 n2 nb c1 c2 cb p q y _ ((HU1.out.grew hg4).grew ((Grew.refl w4).alloc _)) (HU2.out.grew ((Grew.refl w4).alloc _)) (HY.out.grew (g4.alloc _)) (by omega) (fun _ hW => (hW.cell (p := ⟨w4.heap.size, 0, none⟩) (by simp)).trans (by simp)) (fun _ hW => (hW.cell (p := ⟨w4.heap.size, 1, none⟩) (by simp)).trans (by simp)) (fun _ hW => (hW.cell (p := ⟨w4.heap.size, 2, none⟩) (by simp)).trans (by simp))).mono ?_; rintro e w5 ⟨u3, rfl, hu3, hg5⟩; have h15 := (h14.alloc _).trans hg5; have g5 := (g4.alloc _).trans hg5; obtain ⟨A3, n3, c3, rfl⟩ := slice3 hu3)
       | (go_at_call 91; refine (KR.out _ g3).mono ?_; rintro e w4 ⟨u2, rfl, hu2, hg4⟩; have h14 := h13.trans hg4; have g4 := g3.trans hg4; have HU2 := Lib.hid hu2; obtain ⟨A2, n2, c2, rfl⟩ := slice3 hu2; clear hu2)
       | (go_at_call 90; refine (KL.out _ gd).mono ?_; rintro e w3 ⟨u1, rfl, hu1, hg3⟩; have h13 := hd1.trans hg3; have g3 := gd.trans hg3; have HU1 := Lib.hid hu1; obtain ⟨A1, n1, c1, rfl⟩ := slice3 hu1; clear hu1))
    have hgl := Gls.one (p := (P, c)) (T := 90) HUP.out
    go_wp2_with fail
    go_ret2
    exact ⟨_, _, _, rfl, tk_and_imp HS.out HT.out hP, hgl, g7.alloc _⟩
  · obtain ⟨hfp, hfq⟩ := fmOk_or_imp HF.out
    have bi := fmOk_nn HF.out
    simp only [nn_imp, nn_or] at bi
    have KL := Lib.hid (fun W (hW : Grew w W) => first_t (two_or p q) hfx _ W (HX.out.grew hW))
    have KR := Lib.hid (fun W (hW : Grew w W) => second_t (two_or p q) hfx _ W (HX.out.grew hW))
    simp only [kindOf] at k0
    go_enter Tryz.func136, Tryz.ntmps136
    go_wp2_with fail
    generalize w.alloc (.cells #[.slice Av n cv, .string (tx c)] 90) = w1 at *
    have hd1 := r1.drew
    have gd := hgal.out.trans hd1
    clear k0
    go_region_held3 (fun w' => Grew w1 w') (first | with_reducible assumption | exact Grew.alloc ‹_› _)
      (first
       | (go_at_call 135; refine (KI.out [.imp p y, .imp q y] _ _ (g8.alloc _) TL.two (ok_two hfp hfq) (by simp)).mono ?_; rintro e w9 ⟨u, P, rfl, hP, hu, hg9⟩; have h19 := (h18.alloc _).trans hg9; have g9 := (g8.alloc _).trans hg9; have HUP := Lib.hid hu; obtain ⟨Au, nu', cu, rfl⟩ := hu.slice; clear hu)
       | (go_at_call 35; refine (text_t (.imp q y) _ _ hfq hu4).mono ?_; rintro e w8 ⟨rfl, hg8⟩; have h18 := h17.trans hg8; have g8 := g7.trans hg8)
       | (go_at_call 140; refine (arrow2_c w6.heap.size A3 Ab n3 nb c3 cb q y _ (HU3.out.grew ((Grew.refl w6).alloc _)) (HY.out.grew (g6.alloc _)) (by omega) (fun _ hW => (hW.cell (p := ⟨w6.heap.size, 0, none⟩) (by simp)).trans (by simp)) (fun _ hW => (hW.cell (p := ⟨w6.heap.size, 1, none⟩) (by simp)).trans (by simp))).mono ?_; rintro e w7 ⟨u4, rfl, hu4, hg7⟩; have h17 := (h16.alloc _).trans hg7; have g7 := (g6.alloc _).trans hg7; obtain ⟨A4, n4, c4, rfl⟩ := slice3 hu4)
       | (go_at_call 91; refine (KR.out _ g5).mono ?_; rintro e w6 ⟨u3, rfl, hu3, hg6⟩; have h16 := h15.trans hg6; have g6 := g5.trans hg6; have HU3 := Lib.hid hu3; obtain ⟨A3, n3, c3, rfl⟩ := slice3 hu3; clear hu3)
       | (go_at_call 35; refine (text_t (.imp p y) _ _ hfp hu2).mono ?_; rintro e w5 ⟨rfl, hg5⟩; have h15 := h14.trans hg5; have g5 := g4.trans hg5)
       | (go_at_call 140; refine (arrow2_c w3.heap.size A1 Ab n1 nb c1 cb p y _ (HU1.out.grew ((Grew.refl w3).alloc _)) (HY.out.grew (g3.alloc _)) (by omega) (fun _ hW => (hW.cell (p := ⟨w3.heap.size, 0, none⟩) (by simp)).trans (by simp)) (fun _ hW => (hW.cell (p := ⟨w3.heap.size, 1, none⟩) (by simp)).trans (by simp))).mono ?_; rintro e w4 ⟨u2, rfl, hu2, hg4⟩; have h14 := (h13.alloc _).trans hg4; have g4 := (g3.alloc _).trans hg4; obtain ⟨A2, n2, c2, rfl⟩ := slice3 hu2)
       | (go_at_call 90; refine (KL.out _ gd).mono ?_; rintro e w3 ⟨u1, rfl, hu1, hg3⟩; have h13 := hd1.trans hg3; have g3 := gd.trans hg3; have HU1 := Lib.hid hu1; obtain ⟨A1, n1, c1, rfl⟩ := slice3 hu1; clear hu1))
    have hgl := Gls.one (p := (P, c)) (T := 90) HUP.out
    go_wp2_with fail
    go_ret2
    exact ⟨_, _, _, rfl, tk_or_imp HS.out HT.out hP, hgl, g9.alloc _⟩
  · simp only [kindOf] at k0
    go_enter Tryz.func136, Tryz.ntmps136
    go_wp2_with fail
    go_ret2
    exact ⟨_, [], _, rfl, tk_none (stuck_imp_imp _ _ _), Gls.nil_ _, hgal.out⟩
end Go.Proofs.YtefkgomecpnpbaaGreat

/- taken of the program: the premises that a formula of the left side gives. -/
namespace Go.Proofs.YtefkgomecpnpbaaGreat
open Go.RowKit
open Fm (Tree)

theorem TL.open2 {w : World} {v : Value} {x y : Tree} (h : TL w v [x, y]) : ∃ b o c, v = .slice (some ⟨b, o, none⟩) 2 c ∧ 2 ≤ c ∧ c ≤ 9223372036854775807 ∧ (∀ W, Grew w W → W.cell? ⟨b, o, none⟩ = some (.string (tx x))) ∧ ∀ W, Grew w W → W.cell? ⟨b, o + 1, none⟩ = some (.string (tx y)) := by
  rcases Strs.open_ h with ⟨_, h2⟩ | ⟨b, o, c, h1, h2, h3, h4, h5⟩
  · cases h2
  · exact ⟨b, o, c, h1, h2, h3, fun W hW => h5 0 (by simp) W hW, fun W hW => h5 1 (by simp) W hW⟩

set_option maxHeartbeats 4000000 in
theorem taken_c (v va : Value) (L : List Tree) (c t : Tree) (w : World) (hS : OkS L c) (ht : t ∈ L) (hF : hasL L .fls = false) (h : TL w v L) (ha : Nodes w va (Fm.enc t)) :
    Calls Tryz.prog 124 #[.agg #[v, .string (tx c)], .string (tx t), va] w (GivesTk w L c t) := by
  have hf := hS.1 _ ht
  have hn : L.length ≤ 1048576 := Nat.le_trans (len_nu L c) hS.2.2
  have HA := Lib.hid ha
  have HL := Lib.hid h
  have HS := Lib.hid hS
  have HT := Lib.hid ht
  have HF := Lib.hid hf
  have KI := Lib.hid (fun K vk W (hW : Grew w W) (hk : TL W vk K) (hK : ∀ a ∈ K, FmOk a) (hl : K.length ≤ 2) => instead_c v vk L K t (tx c) W (h.grew hW) hk hS.1 hK hf (by omega))
  obtain ⟨Av, n, cv, rfl⟩ := h.slice
  obtain ⟨bx, ox, nx, cx, rfl, hnx, hnxe, hkx⟩ := head_t ha
  have hnnx : (0 : Int) < (nx : Int) := by omega
  have hgal := Lib.hid ((Grew.refl w).alloc (.cells #[.slice Av n cv, .string (tx c)] 90))
  have hbox := BoxG.new w (.slice Av n cv) (tx c) 90
  have b0 := hbox.at0
  have b1 := hbox.at1
  have k0 : ∀ W, Grew (w.alloc (.cells #[.slice Av n cv, .string (tx c)] 90)) W → W.cell? ⟨bx, ox, none⟩ = some (.int .i64 (kindOf t)) := fun W hW => hkx W (hgal.out.trans hW)
  clear h ha hkx hf hnxe hbox
  rcases fm_five HF.out with ⟨p, rfl⟩ | rfl | ⟨p, q, rfl⟩ | ⟨p, q, rfl⟩ | ⟨p, q, rfl⟩
  · simp only [kindOf] at k0
    have KP := Lib.hid (fun W (hW : Grew w W) => partTexts_none _ (.var p) W (HA.out.grew hW) (.inl rfl))
    generalize tx (.var p) = ts at *
    go_enter Tryz.func124, Tryz.ntmps124
    go_wp2_with fail
    generalize w.alloc (.cells #[.slice Av n cv, .string (tx c)] 90) = w1 at *
    refine (KP.out _ hgal.out).mono ?_
    rintro e w2 ⟨rfl, hg2⟩
    have q0 := k0 _ hg2
    go_wp2_with fail
    go_ret2
    exact ⟨_, [], _, rfl, tk_none (stuck_var p), Gls.nil_ _, hgal.out.trans hg2⟩
  · exact absurd ht (hasL_false.1 hF)
  · simp only [kindOf] at k0
    obtain ⟨hfp, hfq⟩ := (fun h => fmOk_and (HS.out.1 _ h)) HT.out
    have KP := Lib.hid (fun W (hW : Grew w W) => partTexts_two _ _ p q W (HA.out.grew hW) (HS.out.1 _ HT.out).1 (two_and p q) (.inl rfl))
    generalize tx (Fm.Tree.and p q) = ts at *
    go_enter Tryz.func124, Tryz.ntmps124
    go_wp2_with fail
    generalize w.alloc (.cells #[.slice Av n cv, .string (tx c)] 90) = w1 at *
    refine (KP.out _ hgal.out).mono ?_
    rintro e w2 ⟨vp, rfl, hp, hg2⟩
    have g2 := hgal.out.trans hg2
    have q0 := k0 _ hg2
    have HP := Lib.hid (show TL w2 vp [p, q] from hp.strs)
    clear hp
    have q1 := b0 _ hg2
    have q2 := b1 _ hg2
    obtain ⟨A2, n2, c2, rfl⟩ := HP.out.slice
    go_wp2_with fail
    refine (KI.out [p, q] _ _ g2 HP.out (ok_two hfp hfq) (by simp)).mono ?_
    rintro e w3 ⟨u, P, rfl, hP, hu, hg3⟩
    obtain ⟨Au, nu', cu, rfl⟩ := hu.slice
    have hgl := Gls.one (p := (P, c)) (T := 90) hu
    go_wp2_with fail
    go_ret2
    exact ⟨_, _, _, rfl, tk_and HS.out HT.out hP, hgl, (g2.trans hg3).alloc _⟩
  · simp only [kindOf] at k0
    obtain ⟨hfp, hfq⟩ := (fun h => fmOk_or (HS.out.1 _ h)) HT.out
    have KP := Lib.hid (fun W (hW : Grew w W) => partTexts_two _ _ p q W (HA.out.grew hW) (HS.out.1 _ HT.out).1 (two_or p q) (.inr (.inl rfl)))
    generalize tx (Fm.Tree.or p q) = ts at *
    go_enter Tryz.func124, Tryz.ntmps124
    go_wp2_with fail
    generalize w.alloc (.cells #[.slice Av n cv, .string (tx c)] 90) = w1 at *
    refine (KP.out _ hgal.out).mono ?_
    rintro e w2 ⟨vp, rfl, hp, hg2⟩
    have g2 := hgal.out.trans hg2
    have q0 := k0 _ hg2
    have HP := Lib.hid (show TL w2 vp [p, q] from hp.strs)
    clear hp
    have q1 : ∀ W, Grew w2 W → W.cell? ⟨w.heap.size, 0, none⟩ = some (.slice Av n cv) := fun W hW => b0 _ (hg2.trans hW)
    have q2 : ∀ W, Grew w2 W → W.cell? ⟨w.heap.size, 1, none⟩ = some (.string (tx c)) := fun W hW => b1 _ (hg2.trans hW)
    obtain ⟨b2, o2, c2, rfl, hc2, hm2, z0, z1⟩ := HP.out.open2
    have i1 : (1 : Int) < (2 : Int) := by omega
    have hr2 := Grew.refl w2
    have hd2 := hr2.drew
    have gd := g2.trans hd2
    clear b0 b1 k0
    go_wp2_with fail
    go_region_held3 (fun w' => Grew w2 w') (first | with_reducible assumption | exact Grew.alloc ‹_› _ | exact Grew.drew (Grew.alloc (Grew.alloc ‹_› _) _))
      (first
       | (go_at_call 135; have hz := gq4; refine (KI.out [q] _ _ (by first | with_reducible exact gq4 | with_reducible exact Grew.alloc gq4 _) (by first | exact TL.lit (by simp <;> omega) (by simp) | exact TL.lit (Nat.lt_of_lt_of_le (by simp <;> omega) hg4.size) ((hg4.cell (by simp <;> omega)).trans (by simp))) (ok_one hfq) (by simp)).mono ?_; rintro e w5 ⟨u2, P2, rfl, hP2, hu2, hg5⟩; have hk5 : Grew w4 w5 := (by first | with_reducible exact hg5 | with_reducible exact Grew.of_alloc hg5); have h25 := h24.trans hk5; have gq5 := gq4.trans hk5; have HU2 := Lib.hid hu2; obtain ⟨Au2, nu2, cu2, rfl⟩ := hu2.slice; clear hu2)
       | (go_at_call 135; refine (KI.out [p] _ _ (by first | with_reducible exact Grew.drew (Grew.alloc g2 _) | with_reducible exact Grew.drew (Grew.alloc (Grew.alloc g2 _) _)) (TL.lit (by simp <;> omega) (by simp)) (ok_one hfp) (by simp)).mono ?_; rintro e w4 ⟨u1, P1, rfl, hP1, hu1, hg4⟩; have hk4 : Grew w2 w4 := (by first | with_reducible exact Grew.trans (Grew.drew (Grew.alloc hr2 _)) hg4 | with_reducible exact Grew.trans (Grew.drew (Grew.alloc (Grew.alloc hr2 _) _)) hg4); have h24 := hk4; have gq4 := g2.trans hk4; have HU1 := Lib.hid hu1; obtain ⟨Au1, nu1, cu1, rfl⟩ := hu1.slice; clear hu1))
    all_goals go_wp2_with fail
    all_goals go_ret2
    all_goals exact ⟨_, _, _, rfl, tk_or HS.out HT.out hP1 hP2, Gls.two (p := (P1, c)) (q := (P2, c)) (T := 90) (HU1.out.grew hk5) HU2.out, gq5.alloc _⟩
  · simp only [kindOf] at k0
    obtain ⟨hfp, hfq⟩ := (fun h => fmOk_imp (HS.out.1 _ h)) HT.out
    have KP := Lib.hid (fun W (hW : Grew w W) => partTexts_two _ _ p q W (HA.out.grew hW) (HS.out.1 _ HT.out).1 (two_imp p q) (.inr (.inr rfl)))
    go_enter Tryz.func124, Tryz.ntmps124
    go_wp2_with fail
    generalize w.alloc (.cells #[.slice Av n cv, .string (tx c)] 90) = w1 at *
    refine (KP.out _ hgal.out).mono ?_
    rintro e w2 ⟨vp, rfl, hp, hg2⟩
    have g2 := hgal.out.trans hg2
    have q0 := k0 _ hg2
    have HP := Lib.hid (show TL w2 vp [p, q] from hp.strs)
    clear hp
    have q1 : ∀ W, Grew w2 W → W.cell? ⟨w.heap.size, 0, none⟩ = some (.slice Av n cv) := fun W hW => b0 _ (hg2.trans hW)
    have q2 : ∀ W, Grew w2 W → W.cell? ⟨w.heap.size, 1, none⟩ = some (.string (tx c)) := fun W hW => b1 _ (hg2.trans hW)
    have KL := Lib.hid (fun W (hW : Grew w W) => first_t (two_imp p q) (HS.out.1 _ HT.out) _ W (HA.out.grew hW))
    have KR := Lib.hid (fun W (hW : Grew w W) => second_t (two_imp p q) (HS.out.1 _ HT.out) _ W (HA.out.grew hW))
    obtain ⟨A2, n2, c2, rfl⟩ := HP.out.slice
    have hr2 := Grew.refl w2
    have hd2 := hr2.drew
    have gd := g2.trans hd2
    clear b0 b1 k0
    go_wp2_with fail
    go_region_held3 (fun w' => Grew w2 w') (first | with_reducible assumption | exact Grew.alloc ‹_› _)
      (first
       | (go_at_call 136; refine (implied_c _ _ _ L c p q _ HS.out HT.out (HL.out.grew g4) (HU3.out.grew hg4) hu4).mono ?_; rintro e w5 ⟨u5, ps, ok, rfl, hps, hgl, hg5⟩; have h25 := h24.trans hg5; have g5 := g4.trans hg5)
       | (go_at_call 91; refine (KR.out _ g3).mono ?_; rintro e w4 ⟨u4, rfl, hu4, hg4⟩; have h24 := h23.trans hg4; have g4 := g3.trans hg4; obtain ⟨A4, n4, c4, rfl⟩ := slice3 hu4)
       | (go_at_call 90; refine (KL.out _ gd).mono ?_; rintro e w3 ⟨u3, rfl, hu3, hg3⟩; have h23 := hd2.trans hg3; have g3 := gd.trans hg3; have HU3 := Lib.hid hu3; obtain ⟨A3, n3, c3, rfl⟩ := slice3 hu3; clear hu3))
    go_wp2_with fail
    go_ret2
    exact ⟨_, _, _, rfl, hps, hgl, g5⟩
end Go.Proofs.YtefkgomecpnpbaaGreat

/- A map from texts to truth values that remembers answers: what is looked up, what is stored. -/
namespace Go.Proofs.YtefkgomecpnpbaaGreat
open Go.RowKit
open Go.MapKept
open Fm (Tree)

/-- Block M is a map of which every entry is right. -/
def Memo (w : World) (M : Nat) : Prop := ∃ es clock, w.heap[M]? = some (.map es clock) ∧ ∀ x ∈ es.toList, ∃ k r, x.key = .string k ∧ x.val = .bool r ∧ MemoI k r
theorem Memo.lt {w : World} {M : Nat} (h : Memo w M) : M < w.heap.size := let ⟨_, _, h1, _⟩ := h; (Array.getElem?_eq_some_iff.1 h1).1
theorem Memo.grew {w w' : World} {M : Nat} (h : Memo w M) (hg : Grew w w') : Memo w' M := by
  have hl := h.lt
  obtain ⟨es, clock, h1, h2⟩ := h
  exact ⟨es, clock, (hg.block hl).trans h1, h2⟩
theorem Memo.drew {w : World} {M : Nat} (h : Memo w M) : Memo w.drew M := h
theorem Memo.new (w : World) : Memo (w.alloc (.map #[] 0)) w.heap.size := ⟨#[], 0, blk_new w _, fun x hx => by simp at hx⟩
theorem memo_keys {es : Array MapEntry} (h : ∀ x ∈ es.toList, ∃ k r, x.key = .string k ∧ x.val = .bool r ∧ MemoI k r) : ∀ x ∈ es.toList, IsKey .string x.key := fun x hx => by
  obtain ⟨k, r, h1, _⟩ := h x hx
  rw [h1]
  trivial

/-- What is read at a key. -/
theorem run_memo_look {P : Program} {w : World} {M : Nat} (h : Memo w M) (t kt et : TypeId) (ht : P.underlying t = some (.map kt et)) (hk : P.underlying kt = some .string) (hz : (zeroValue et).run P w = .ok (.bool false) w) (k : ByteArray) :
    ∃ r ok, (Instr.lookup t (.map (some M)) (.string k) true).run P w = .ok (.tuple #[.bool r, .bool ok]) w ∧ (ok = true → MemoI k r) := by
  obtain ⟨es, clock, h1, h2⟩ := h
  have hkey : IsKey .string (.string k) := trivial
  rcases findNow_spec hkey es.toList 0 (memo_keys h2) with ⟨h3, _⟩ | ⟨j, e, h3, h4, h5⟩
  · refine ⟨false, false, ?_, fun h => by cases h⟩
    simp [Instr.lookup, run_underlying ht, MapKept.run_getObj_map h1, MapKept.run_checkKey hk hkey, MapKept.run_findKey hk h3, hz, Result.andThen]
  · obtain ⟨k', r, h6, h7, h8⟩ := h2 e (List.mem_of_getElem? h4)
    refine ⟨r, true, ?_, fun _ => ?_⟩
    · simp [Instr.lookup, run_underlying ht, MapKept.run_getObj_map h1, MapKept.run_checkKey hk hkey, MapKept.run_findKey hk h3, h7, Result.andThen]
    · rw [h6] at h5
      cases h5
      exact h8
/-- What is stored at a key. -/
theorem run_memo_put {P : Program} {w : World} {M : Nat} (h : Memo w M) (t kt et : TypeId) (ht : P.underlying t = some (.map kt et)) (hk : P.underlying kt = some .string) (k : ByteArray) (r : Bool) (hI : MemoI k r) :
    ∃ w', (Instr.mapUpdate t (.map (some M)) (.string k) (.bool r)).run P w = .ok () w' ∧ Only M w w' ∧ Memo w' M := by
  obtain ⟨es, clock, h1, h2⟩ := h
  have hkey : IsKey .string (.string k) := trivial
  have hOnly : ∀ o, Only M w { w with heap := w.heap.setIfInBounds M o } := fun o => ⟨rfl, rfl, rfl, by simp, fun i _ hne => (heap_set h1).2 i (fun e => hne (by rw [e]))⟩
  rcases findNow_spec hkey es.toList 0 (memo_keys h2) with ⟨h3, _⟩ | ⟨j, e, h3, h4, h5⟩
  · refine ⟨_, ?_, hOnly (.map (es.push { key := .string k, val := .bool r, born := clock }) (clock + 1)), ⟨_, _, (heap_set h1).1, fun x hx => ?_⟩⟩
    · simp [Instr.mapUpdate, run_underlying ht, MapKept.run_getObj_map h1, MapKept.run_checkKey hk hkey, MapKept.run_findKey hk h3, MapKept.run_setObj_map _ h1, Result.andThen]
    · simp only [Array.toList_push, List.mem_append, List.mem_singleton] at hx
      rcases hx with hx | rfl
      · exact h2 x hx
      · exact ⟨k, r, rfl, rfl, hI⟩
  · have hj : es[j]? = some e := by simpa using h4
    refine ⟨_, ?_, hOnly (.map (es.modify j fun e => { e with key := .string k, val := .bool r }) clock), ⟨_, _, (heap_set h1).1, fun x hx => ?_⟩⟩
    · simp [Instr.mapUpdate, run_underlying ht, MapKept.run_getObj_map h1, MapKept.run_checkKey hk hkey, MapKept.run_findKey hk h3, hj, h5, run_keyThatStays hkey, MapKept.run_setObj_map _ h1, Result.andThen]
    · obtain ⟨i, hi, he⟩ := List.getElem_of_mem hx
      have hi2 : (es.modify j fun e => { e with key := .string k, val := .bool r })[i]? = some x := by
        rw [← Array.getElem?_toList, List.getElem?_eq_getElem hi, he]
      rw [Array.getElem?_modify] at hi2
      split at hi2
      · cases hes : es[i]? with
        | none => rw [hes] at hi2; cases hi2
        | some y =>
          rw [hes] at hi2
          simp only [Option.map_some, Option.some.injEq] at hi2
          subst hi2
          exact ⟨k, r, rfl, rfl, hI⟩
      · exact h2 x (by rw [Array.mem_toList_iff]; exact Array.mem_of_getElem? hi2)
end Go.Proofs.YtefkgomecpnpbaaGreat

/- The program's decider in memory: what it leaves as it was; the key of a sequent; proves, where decide is right. -/
namespace Go.Proofs.YtefkgomecpnpbaaGreat
open Go.RowKit
open Fm (Tree)

theorem memo_ne {w : World} {M : Nat} (h : Memo w M) {b o : Nat} {u : Value} (hc : w.cell? ⟨b, o, none⟩ = some u) : b ≠ M := by
  rintro rfl
  obtain ⟨es, clock, h1, _⟩ := h
  simp [World.cell?, h1] at hc
theorem rd_only {w w' : World} {M k n : Nat} {v : Value} {xs : List Value} (h : Rd w k v n xs) (hM : Memo w M) (ho : Only M w w') : Rd w' k v n xs := by
  obtain ⟨h1, h2, h3⟩ := h
  refine ⟨h1, h2, ?_⟩
  rcases h3 with h3 | ⟨b, o, c, rfl, h4, h5, h6, h7⟩
  · exact .inl h3
  · exact .inr ⟨b, o, c, rfl, h4, h5, Nat.lt_of_lt_of_le h6 ho.size, fun j u hu => (ho.cell (p := ⟨b, o + j, none⟩) h6 (memo_ne hM (h7 j u hu))).trans (h7 j u hu)⟩
theorem TL.only {w w' : World} {M : Nat} {v : Value} {L : List Tree} (h : TL w v L) (hM : Memo w M) (ho : Only M w w') : TL w' v L := rd_only h hM ho
theorem nodes_only {w w' : World} {M : Nat} {v : Value} {xs : List Fm.Nd} (h : Nodes w v xs) (hM : Memo w M) (ho : Only M w w') : Nodes w' v xs := rd_only h hM ho
theorem Gls.only {w w' : World} {M : Nat} {v : Value} {ps : List Gl} (h : Gls w v ps) (hM : Memo w M) (ho : Only M w w') : Gls w' v ps := by
  rcases h with h | ⟨b, o, c, h1, h2, h3, h4, h5⟩
  · exact .inl h
  · refine .inr ⟨b, o, c, h1, h2, h3, Nat.lt_of_lt_of_le h4 ho.size, fun i p hp => ?_⟩
    obtain ⟨u, k1, k2, k3⟩ := h5 i p hp
    exact ⟨u, (ho.cell (p := ⟨b, o + i * 2, none⟩) h4 (memo_ne hM k1)).trans k1, (ho.cell (p := ⟨b, o + i * 2 + 1, none⟩) h4 (memo_ne hM k2)).trans k2, k3.only hM ho⟩
theorem BoxG.only {w w' : World} {M b : Nat} {v : Value} {r : ByteArray} (h : BoxG w b v r) (hM : Memo w M) (ho : Only M w w') : BoxG w' b v r :=
  ⟨Nat.lt_of_lt_of_le h.lt ho.size, (ho.cell (p := ⟨b, 0, none⟩) h.lt (memo_ne hM h.c0)).trans h.c0, (ho.cell (p := ⟨b, 1, none⟩) h.lt (memo_ne hM h.c1)).trans h.c1⟩
theorem BoxG.grew {w w' : World} {b : Nat} {v : Value} {r : ByteArray} (h : BoxG w b v r) (hg : Grew w w') : BoxG w' b v r := ⟨Nat.lt_of_lt_of_le h.lt hg.size, h.at0 _ hg, h.at1 _ hg⟩

/-- The decider: its struct in block D, its map in block M. -/
structure Dec (w : World) (D M : Nat) : Prop where
  lt : D < w.heap.size
  cell : w.cell? ⟨D, 0, none⟩ = some (.map (some M))
  memo : Memo w M
theorem Dec.grew {w w' : World} {D M : Nat} (h : Dec w D M) (hg : Grew w w') : Dec w' D M := ⟨Nat.lt_of_lt_of_le h.lt hg.size, (hg.cell (p := ⟨D, 0, none⟩) h.lt).trans h.cell, h.memo.grew hg⟩
theorem Dec.drew {w : World} {D M : Nat} (h : Dec w D M) : Dec w.drew D M := ⟨h.lt, h.cell, h.memo⟩
/-- What a call that remembers leaves. -/
structure DF (w : World) (D M : Nat) (w' : World) : Prop where
  only : Only M w w'
  dec : Dec w' D M
theorem DF.refl {w : World} {D M : Nat} (h : Dec w D M) : DF w D M w := ⟨Only.refl _ _, h⟩
theorem DF.grew {w a b : World} {D M : Nat} (h : DF w D M a) (hg : Grew a b) : DF w D M b := ⟨h.only.grew hg, h.dec.grew hg⟩
theorem DF.trans {w a b : World} {D M : Nat} (h : DF w D M a) (k : DF a D M b) : DF w D M b := ⟨h.only.trans k.only, k.dec⟩
theorem DF.of_grew {w a : World} {D M : Nat} (h : Dec w D M) (hg : Grew w a) : DF w D M a := ⟨hg.only, h.grew hg⟩
theorem DF.put {w a b : World} {D M : Nat} (h : DF w D M a) (ho : Only M a b) (hm : Memo b M) : DF w D M b :=
  ⟨h.only.trans ho, Nat.lt_of_lt_of_le h.dec.lt ho.size, (ho.cell (p := ⟨D, 0, none⟩) h.dec.lt (memo_ne h.dec.memo h.dec.cell)).trans h.dec.cell, hm⟩
/-- A decision. -/
def Decides (w : World) (D M : Nat) (r : Bool) (e : Ending) (w' : World) : Prop := e = .returned (.bool r) ∧ DF w D M w'

/-! The key. -/
theorem keyL_take {L : List ByteArray} {j : Nat} (h : j < L.length) : keyL (L.take (j + 1)) = keyL (L.take j) ++ ((st L j).data.toList ++ [47]) := by
  rw [List.take_succ_eq_append_getElem h, keyL_snoc, st_get h]
theorem keyL_len {L : List ByteArray} (h : ∀ s ∈ L, s.size ≤ 160) : (keyL L).length ≤ 161 * L.length := by
  induction L with
  | nil => simp [keyL]
  | cons a L ih =>
    have h1 := h a (.head _)
    have h2 := ih (fun s hs => h s (.tail _ hs))
    simp only [keyL, List.flatMap_cons, List.length_append, List.length_cons, List.length_nil] at *
    have h3 : a.data.toList.length = a.size := by simp
    omega
theorem bs_app (a : List UInt8) (b : ByteArray) (c : UInt8) : bs a ++ (b ++ (⟨#[c]⟩ : ByteArray)) = bs (a ++ (b.data.toList ++ [c])) := by
  have h1 : b = bs b.data.toList := (bs_eq b).symm
  have h2 : (⟨#[c]⟩ : ByteArray) = bs [c] := rfl
  rw [h2]
  conv => lhs; rw [h1]
  rw [bs_append, bs_append]
theorem bs_app1 (a : List UInt8) (c : UInt8) : bs a ++ (⟨#[c]⟩ : ByteArray) = bs (a ++ [c]) := by
  have h2 : (⟨#[c]⟩ : ByteArray) = bs [c] := rfl
  rw [h2, bs_append]

set_option maxHeartbeats 2000000 in
theorem sequentKey_c (v : Value) (T : List ByteArray) (r : ByteArray) (bR : Nat) (w : World) (h : Strs w v T) (hT : ∀ s ∈ T, s.size ≤ 160) (hr : r.size ≤ 160) (hn : T.length ≤ 2097152)
    (hR : ∀ W, Grew w W → W.cell? ⟨bR, 0, none⟩ = some (.string r)) :
    Calls Tryz.prog 108 #[.agg #[v, .slice (some ⟨bR, 0, none⟩) 1 1]] w fun e w' => e = .returned (.string (skey T r)) ∧ Grew w w' := by
  obtain ⟨A, cA, rfl⟩ := strs_slice h
  have hal := Lib.hid ((Grew.refl w).alloc (.cells #[.slice A T.length cA, .slice (some ⟨bR, 0, none⟩) 1 1] 102))
  have HS := Lib.hid (fun j hj => @keyL_take T j hj)
  have HLn := Lib.hid (fun j => Nat.le_trans (keyL_len (L := T.take j) (fun s hs => hT s (List.mem_of_mem_take hs))) (Nat.mul_le_mul_left 161 (by rw [List.length_take]; omega : (T.take j).length ≤ T.length)))
  have HZ : keyL (T.take T.length) = keyL T := by rw [List.take_length]
  have HSt := Lib.hid (fun j (hj : j < T.length) => (by have := hT _ (List.getElem_mem hj); rw [st_get hj] at this; exact this : (st T j).size ≤ 160))
  have r1 := Grew.refl (w.alloc (.cells #[.slice A T.length cA, .slice (some ⟨bR, 0, none⟩) 1 1] 102))
  have HB := Lib.hid (fun (x : List UInt8) => bs_app x r 47)
  have HO := Lib.hid (Strs.open_ h)
  have HRR := Lib.hid hR
  unfold skey
  rw [← HZ]
  clear h hT HZ hR
  generalize hN : T.length = n at *
  have HN := Lib.hid hN
  clear hN
  have hbx : ∀ W, Grew (w.alloc (.cells #[.slice A n cA, .slice (some ⟨bR, 0, none⟩) 1 1] 102)) W → W.cell? ⟨w.heap.size, 0, none⟩ = some (.slice A n cA) ∧ W.cell? ⟨w.heap.size, 1, none⟩ = some (.slice (some ⟨bR, 0, none⟩) 1 1) := fun W hW =>
    ⟨(hW.cell (p := ⟨w.heap.size, 0, none⟩) (by simp)).trans (by simp), (hW.cell (p := ⟨w.heap.size, 1, none⟩) (by simp)).trans (by simp)⟩
  have b0 := fun W hW => (hbx W hW).1
  have b1 := fun W hW => (hbx W hW).2
  clear hbx
  go_enter Tryz.func108, Tryz.ntmps108
  go_wp2_with fail
  generalize w.alloc (.cells #[.slice A n cA, .slice (some ⟨bR, 0, none⟩) 1 1] 102) = w1 at *
  go_loopw [3, 5, 11] (fun out _ i wr => ∃ j : Nat, j ≤ n ∧ i = .int .i64 j ∧ out = .string (bs (keyL (T.take j))) ∧ Grew w1 wr) (fun _ _ i _ => n - (intOf i).toNat)
  case atStart => exact ⟨0, Nat.zero_le _, rfl, rfl, r1⟩
  case round =>
    obtain ⟨j, hj, rfl, rfl, hB⟩ := hrel
    by_cases hlt : j < n
    · rcases HO.out with ⟨_, h2⟩ | ⟨b, o, c, hv, hc, hm, hb, hcell⟩
      · have := HN.out; rw [h2] at this; simp at this; omega
      obtain ⟨rfl, rfl⟩ : A = some ⟨b, o, none⟩ ∧ cA = c := by simpa using hv
      have k1 := hcell j hlt _ (hal.out.trans hB)
      have hst := HSt.out j hlt
      have hl := HLn.out j
      have hs1 := (bs_size (keyL (T.take j)))
      have hstep := Lib.hid (HS.out j hlt)
      have happ := Lib.hid (bs_app (keyL (T.take j)) (st T j) 47)
      clear hcell hv
      generalize st T j = x at *
      have e1 : ¬ 9223372036854775807 < x.size + (⟨#[47]⟩ : ByteArray).size := by show ¬ 9223372036854775807 < x.size + 1; omega
      have e2 : ¬ 9223372036854775807 < (bs (keyL (T.take j))).size + (x ++ (⟨#[47]⟩ : ByteArray)).size := by rw [ByteArray.size_append, hs1]; show ¬ 9223372036854775807 < _ + (x.size + 1); omega
      go_wp2_with fail
      go_roundw
      case rel => exact ⟨j + 1, by omega, by go_num, by rw [hstep.out, ← happ.out], hB⟩
      case measure => simp [intOf]; omega
    · obtain rfl : j = n := by omega
      have q1 := b1 _ hB
      have q2 := HRR.out _ (hal.out.trans hB)
      have hl := HLn.out j
      have hs1 := bs_size (keyL (T.take j))
      have h1 := bs_app1 (keyL (T.take j)) 59
      have h2 := HB.out (keyL (T.take j) ++ [59])
      have hs2 := bs_size (keyL (T.take j) ++ [59])
      rw [List.length_append] at hs2
      rw [← h1] at h2 hs2
      have HEND := Lib.hid h2
      have e1 : ¬ 9223372036854775807 < (bs (keyL (T.take j))).size + (⟨#[59]⟩ : ByteArray).size := by rw [hs1]; show ¬ 9223372036854775807 < _ + 1; omega
      have e2 : ¬ 9223372036854775807 < r.size + (⟨#[47]⟩ : ByteArray).size := by show ¬ 9223372036854775807 < r.size + 1; omega
      have e3 : ¬ 9223372036854775807 < (bs (keyL (T.take j)) ++ (⟨#[59]⟩ : ByteArray)).size + (r ++ (⟨#[47]⟩ : ByteArray)).size := by rw [hs2, ByteArray.size_append]; show ¬ 9223372036854775807 < _ + 1 + (r.size + 1); simp only [List.length_singleton] at *; omega
      clear h1 h2 hs2 hs1 HB HRR b0 b1 HS HSt HO HLn hlt hj
      go_wp2_with fail
      refine wp_loop_rounds 2 ?_
      rw [rounds_succ]
      go_wp2_with fail
      rw [rounds_succ]
      go_wp2_with fail
      go_ret
      exact ⟨congrArg (fun k => Ending.returned (Value.string k)) HEND.out, hal.out.trans hB⟩

/-- 'm[k] = r' where answers are remembered. -/
theorem wpList_memo {ops : Array Oper} {rest : List Oper} {o : Oper} {a : Act} {Q : Exit → Act → World → Prop} (w : World) (hg : o.guard = none) (m x v : Operand) (t : TypeId) (hop : o.op = Op.mapUpdate t m x v) (kt et : TypeId)
    (ht : Tryz.prog.underlying t = some (.map kt et)) (hk : Tryz.prog.underlying kt = some .string) (M : Nat) (k : ByteArray) (r : Bool) (hm : a.eval m = .map (some M)) (hx : a.eval x = .string k) (hv : a.eval v = .bool r) (hM : Memo w M) (hI : MemoI k r)
    (hK : ∀ w', Only M w w' → Memo w' M → wpList Tryz.prog ops Q rest (a.put o.dst undef) w') : wpList Tryz.prog ops Q (o :: rest) a w := by
  refine wpList_plain hg fun K' hK' => ?_
  obtain ⟨w', hrun, r1, r2⟩ := run_memo_put (P := Tryz.prog) hM t kt et ht hk k r hI
  unfold Oper.wp
  simp [execOp, hop, hm, hx, hv, hrun, Result.andThen]
  exact hK' _ _ (hK w' r1 r2)

set_option maxHeartbeats 4000000 in
/-- proves, where decide is right. -/
theorem proves_of (D M : Nat) (L : List Tree) (c : Tree) (v : Value) (w : World) (hS : OkS L c) (hD : Dec w D M) (h : TL w v L)
    (KD : ∀ W, DF w D M W → Calls Tryz.prog 109 #[.pointer (some ⟨D, 0, none⟩), .agg #[v, .string (tx c)]] W (Decides W D M (dc (EntL L c)))) :
    Calls Tryz.prog 87 #[.pointer (some ⟨D, 0, none⟩), .agg #[v, .string (tx c)]] w (Decides w D M (dc (EntL L c))) := by
  unfold Decides at *
  have hn : L.length ≤ 1048576 := Nat.le_trans (len_nu L c) hS.2.2
  have hI := Lib.hid (memoI_mk hS.1 hS.2.1)
  have hRk := Lib.hid (fun r (hr : MemoI (skey (L.map tx) (tx c)) r) => hr L c hS.1 hS.2.1 rfl)
  have hcs := tx_size hS.2.1.1
  obtain ⟨A, n, cA, rfl⟩ := h.slice
  have hbox := Lib.hid (BoxG.new w (.slice A n cA) (tx c) 90)
  have b0 := hbox.out.at0
  have b1 := hbox.out.at1
  have hal := Lib.hid ((Grew.refl w).alloc (.cells #[.slice A n cA, .string (tx c)] 90))
  have KS := Lib.hid (fun bR W (hW : Grew w W) hR => sequentKey_c (.slice A n cA) (L.map tx) (tx c) bR W (h.grew hW) (fun s hs => by obtain ⟨a, ha, rfl⟩ := List.mem_map.1 hs; exact tx_size (hS.1 a ha).1) hcs (by simp; omega) hR)
  have KD' := Lib.hid KD
  have HD := Lib.hid hD
  have hz : ∀ W, (zeroValue 4).run Tryz.prog W = .ok (.bool false) W := Tryz.zeroValue4
  have HLook := Lib.hid (fun W (hM : Memo W M) k => run_memo_look (P := Tryz.prog) hM 84 9 4 Tryz.underlying84 Tryz.underlying9 (hz W) k)
  have r1 := Grew.refl (w.alloc (.cells #[.slice A n cA, .string (tx c)] 90))
  generalize dc (EntL L c) = R at *
  generalize skey (L.map tx) (tx c) = key at *
  generalize tx c = tc at *
  clear KD hD hz h hS
  go_enter Tryz.func87, Tryz.ntmps87
  go_wp2_with fail
  have hs1 := Lib.hid (show (w.alloc (.cells #[.slice A n cA, .string tc] 90)).heap.size = w.heap.size + 1 by simp)
  generalize w.alloc (.cells #[.slice A n cA, .string tc] 90) = w1 at *
  have hcr : ∀ W, Grew (w1.alloc (.cells #[.string tc] 9)) W → W.cell? ⟨w.heap.size + 1, 0, none⟩ = some (.string tc) := fun W hW => by
    rw [← hs1.out]
    exact (hW.cell (p := ⟨w1.heap.size, 0, none⟩) (by simp)).trans (by simp)
  have ha1 := (Grew.refl w1).alloc (.cells #[.string tc] 9)
  refine (KS.out (w.heap.size + 1) _ (hal.out.trans ha1) hcr).mono ?_
  rintro e w2 ⟨rfl, hg2⟩
  have g12 := ha1.trans hg2
  have g2 := hal.out.trans g12
  have hD2 := HD.out.grew g2
  have d1 := hD2.cell
  obtain ⟨r, ok, hrun, hok⟩ := HLook.out w2 hD2.memo key
  have q0 := b0 _ g12
  have q1 := b1 _ g12
  have HDF := Lib.hid (DF.of_grew HD.out g2)
  cases ok with
  | true =>
    have hr := Lib.hid (hRk.out _ (hok rfl))
    go_wp2_with fail
    go_ret
    exact ⟨congrArg (fun k => Ending.returned (Value.bool k)) hr.out, HDF.out⟩
  | false =>
    clear hok
    go_wp2_with fail
    refine (KD'.out _ HDF.out).mono ?_
    rintro e w3 ⟨rfl, hF3⟩
    have d3 := hF3.dec.cell
    have m3 := hF3.dec.memo
    go_wp2_with (first | (at_mapUpdate; refine wpList_memo _ rfl _ _ _ 84 rfl 9 4 Tryz.underlying84 Tryz.underlying9 M key R rfl rfl rfl m3 hI.out ?_; intro w4 ho4 hm4))
    go_wp2_with fail
    go_ret
    exact ⟨rfl, (HDF.out.trans hF3).put ho4 hm4⟩
end Go.Proofs.YtefkgomecpnpbaaGreat

/- Predicates that remember: IndexFunc, ContainsFunc over sequents and over texts; all of the decider. -/
namespace Go.Proofs.YtefkgomecpnpbaaGreat
open Go.RowKit
open Fm (Tree)

/-- None of the first k elements meets the predicate. -/
def NoneA {α : Type} (q : α → Bool) (ps : List α) (k : Nat) : Prop := ∀ i p, i < k → ps[i]? = some p → q p = false
theorem NoneA.zero {α : Type} (q : α → Bool) (ps : List α) : NoneA q ps 0 := fun i p hi => absurd hi (by omega)
theorem NoneA.succ {α : Type} {q : α → Bool} {ps : List α} {k : Nat} {x : α} (h : NoneA q ps k) (hx : ps[k]? = some x) (h1 : q x = false) : NoneA q ps (k + 1) := by
  intro i p hi hp
  rcases Nat.lt_or_ge i k with hk | hk
  · exact h i p hk hp
  · obtain rfl : i = k := by omega
    rw [hx] at hp; cases hp; exact h1
theorem noneA_any {α : Type} {q : α → Bool} {ps : List α} (h : NoneA q ps ps.length) : ps.any q = false := by
  rw [List.any_eq_false]
  intro x hx
  obtain ⟨i, hi, rfl⟩ := List.getElem_of_mem hx
  rw [h i _ hi (List.getElem?_eq_getElem hi)]; simp
theorem anyA_at {α : Type} {q : α → Bool} {ps : List α} {k : Nat} {x : α} (hx : ps[k]? = some x) (h : q x = true) : ps.any q = true :=
  List.any_eq_true.2 ⟨x, List.mem_of_getElem? hx, h⟩

theorem indexFuncG_c (D M : Nat) (v : Value) (ps : List Gl) (f : Nat) (caps : Array Value) (q : Gl → Bool) (w : World) (hD : Dec w D M) (h : Gls w v ps)
    (hf : ∀ W, DF w D M W → ∀ p u, p ∈ ps → TL W u p.1 → Calls Tryz.prog f (#[.agg #[u, .string (tx p.2)]] ++ caps) W (Decides W D M (q p))) (eg : ∀ args w, (callFunc f args).run Tryz.prog w = .ok (.enter f args) w) :
    Calls Tryz.prog 154 #[v, .func (.func f) #[] caps] w fun e w' => ∃ r : Int, e = .returned (.int .i64 r) ∧ DF w D M w' ∧ decide (0 ≤ r) = ps.any q := by
  obtain ⟨R, hR⟩ : ∃ R, R = ps.any q := ⟨_, rfl⟩
  rw [← hR]
  have HG := Lib.hid h
  have hdf := DF.refl hD
  rcases h with ⟨rfl, rfl⟩ | ⟨b, o, c, rfl, hc, hm, hb, hcell⟩
  · have hv := Lib.hid (show R = false from hR.trans rfl)
    clear hR hf HG
    go_enter Tryz.func154, Tryz.ntmps154
    go_wp2_with fail
    refine wp_loop_rounds 1 ?_; rw [rounds_succ]
    go_wp2_with fail
    go_ret
    exact ⟨_, rfl, hdf, by rw [hv.out]; rfl⟩
  have HX := Lib.hid (fun j (hj : j < ps.length) => (⟨ps[j], List.getElem?_eq_getElem hj⟩ : ∃ p, ps[j]? = some p))
  have HA := Lib.hid (fun k p (hk : ps[k]? = some p) he => hR.trans (anyA_at hk he))
  have HZ := Lib.hid (fun h => hR.trans (@noneA_any _ q ps h))
  have HF := Lib.hid hf
  have HD := Lib.hid hD
  have HDF := Lib.hid hdf
  clear hcell hf hR hD hdf
  generalize hN : ps.length = n at *
  clear hN
  go_enter Tryz.func154, Tryz.ntmps154
  go_wp2_with fail
  go_loopw [5, 8] (fun _ i wr => ∃ j : Nat, j ≤ n ∧ i = .int .i64 j ∧ Hid (DF w D M wr) ∧ Hid (NoneA q ps j)) (fun _ i _ => n - (intOf i).toNat)
  case atStart => exact ⟨0, Nat.zero_le _, rfl, HDF, NoneA.zero _ _⟩
  case round =>
    obtain ⟨j, hj, rfl, hB, HJ⟩ := hrel
    by_cases hlt : j < n
    · obtain ⟨p, hp⟩ := HX.out j hlt
      rcases HG.out.only HD.out.memo hB.out.only with ⟨hv, _⟩ | ⟨b', o', c', hv, _, _, _, hcell⟩
      · cases hv
      obtain ⟨u, k1, k2, hu⟩ := hcell j p hp
      obtain ⟨⟨rfl, rfl⟩, -⟩ : (b = b' ∧ o = o') ∧ _ := by simpa using hv
      have hz := Lib.hid (HF.out wr hB.out p u (List.mem_of_getElem? hp) hu)
      have hA := Lib.hid (HA.out j p hp)
      have hS := Lib.hid (fun h => HJ.out.succ (k := j) hp h)
      obtain ⟨Au, nu', cu, rfl⟩ := hu.slice
      clear hcell hv hu hp
      generalize tx p.2 = tp at *
      go_wp2_with fail
      go_at_fn f
      refine (hz.out).mono ?_
      rintro e w1 ⟨rfl, hF1⟩
      have hB1 := Lib.hid (hB.out.trans hF1)
      cases hp : q p with
      | true =>
        have hv := hA.out hp
        go_wp2_with fail
        go_ret
        exact ⟨_, rfl, hB1.out, by rw [hv]; simp⟩
      | false =>
        have hs := Lib.hid (hS.out hp)
        go_wp2_with fail
        go_roundw
        case rel => exact ⟨j + 1, by omega, by go_num, hB1, hs⟩
        case measure => simp [intOf]; omega
    · obtain rfl : j = n := by omega
      have hv := Lib.hid (HZ.out HJ.out)
      go_wp2_with fail
      go_ret
      exact ⟨_, rfl, hB.out, by rw [hv.out]; rfl⟩
theorem containsFuncG_c (D M : Nat) (v : Value) (ps : List Gl) (f : Nat) (caps : Array Value) (q : Gl → Bool) (w : World) (hD : Dec w D M) (h : Gls w v ps)
    (hf : ∀ W, DF w D M W → ∀ p u, p ∈ ps → TL W u p.1 → Calls Tryz.prog f (#[.agg #[u, .string (tx p.2)]] ++ caps) W (Decides W D M (q p))) (eg : ∀ args w, (callFunc f args).run Tryz.prog w = .ok (.enter f args) w) :
    Calls Tryz.prog 133 #[v, .func (.func f) #[] caps] w (Decides w D M (ps.any q)) := by
  have HI := Lib.hid (indexFuncG_c D M v ps f caps q w hD h hf eg)
  unfold Decides
  obtain ⟨A, n, c, rfl⟩ : ∃ A n c, v = .slice A n c := by
    rcases h with ⟨rfl, _⟩ | ⟨b, o, c, rfl, _⟩
    · exact ⟨_, _, _, rfl⟩
    · exact ⟨_, _, _, rfl⟩
  clear h hf eg hD
  generalize ps.any q = R at *
  go_enter Tryz.func133, Tryz.ntmps133
  go_wp2_with fail
  refine HI.out.mono ?_
  rintro e w1 ⟨r, rfl, hg1, hr⟩
  go_wp2_with fail
  go_ret
  exact ⟨by rw [← hr]; rfl, hg1⟩

theorem indexFuncX_c (D M : Nat) (v : Value) (L : List Tree) (f : Nat) (caps : Array Value) (q : Tree → Bool) (w : World) (hD : Dec w D M) (h : TL w v L)
    (hf : ∀ W, DF w D M W → ∀ t, t ∈ L → Calls Tryz.prog f (#[.string (tx t)] ++ caps) W (Decides W D M (q t))) (eg : ∀ args w, (callFunc f args).run Tryz.prog w = .ok (.enter f args) w) :
    Calls Tryz.prog 156 #[v, .func (.func f) #[] caps] w fun e w' => ∃ r : Int, e = .returned (.int .i64 r) ∧ DF w D M w' ∧ decide (0 ≤ r) = L.any q := by
  obtain ⟨R, hR⟩ : ∃ R, R = L.any q := ⟨_, rfl⟩
  rw [← hR]
  have HG : Hid (Strs w v (L.map tx)) := Lib.hid h
  have hdf := DF.refl hD
  obtain ⟨A, c, rfl⟩ := strs_slice (show Strs w v (L.map tx) from h)
  have hl : (L.map tx).length = L.length := by simp
  have HX := Lib.hid (fun j (hj : j < L.length) => (⟨L[j], List.getElem?_eq_getElem hj⟩ : ∃ p, L[j]? = some p))
  have HA := Lib.hid (fun k p (hk : L[k]? = some p) he => hR.trans (anyA_at hk he))
  have HZ := Lib.hid (fun h => hR.trans (@noneA_any _ q L h))
  have HF := Lib.hid hf
  have HD := Lib.hid hD
  have HDF := Lib.hid hdf
  have HT := Lib.hid (fun (j : Nat) t (hj : L[j]? = some t) => (show (scells (L.map tx))[j]? = some (Value.string (tx t)) by simp [scells, hj]))
  have HL0 := Lib.hid (fun (h0 : (L.map tx).length = 0) => (by simpa using h0 : L = []))
  have hmax : L.length ≤ 9223372036854775807 := by have := HG.out.2.1; rwa [hl] at this
  rw [hl] at HL0
  have hl' := hl
  clear h hf hR hD hdf hl
  have HN := Lib.hid (fun (h0 : L = []) => (by rw [h0]; rfl : L.length = 0))
  rw [hl']
  rw [hl'] at HG
  generalize hN : L.length = n at *
  clear hN
  go_enter Tryz.func156, Tryz.ntmps156
  go_wp2_with fail
  go_loopw [5, 8] (fun _ i wr => ∃ j : Nat, j ≤ n ∧ i = .int .i64 j ∧ Hid (DF w D M wr) ∧ Hid (NoneA q L j)) (fun _ i _ => n - (intOf i).toNat)
  case atStart => exact ⟨0, Nat.zero_le _, rfl, HDF, NoneA.zero _ _⟩
  case round =>
    obtain ⟨j, hj, rfl, hB, HJ⟩ := hrel
    by_cases hlt : j < n
    · obtain ⟨p, hp⟩ := HX.out j hlt
      obtain ⟨_, _, hcs⟩ := rd_only HG.out HD.out.memo hB.out.only
      rcases hcs with ⟨_, h0⟩ | ⟨b, o, c', hv, h4, h5, h6, hcell⟩
      · have := HN.out (HL0.out (hl' ▸ h0)); omega
      obtain ⟨rfl, -⟩ : A = some ⟨b, o, none⟩ ∧ _ := by simpa using hv
      have k1 := hcell j _ (HT.out j p hp)
      have hz := Lib.hid (HF.out wr hB.out p (List.mem_of_getElem? hp))
      have hA := Lib.hid (HA.out j p hp)
      have hS := Lib.hid (fun h => HJ.out.succ (k := j) hp h)
      clear hcell hv hp
      generalize tx p = tp at *
      go_wp2_with fail
      go_at_fn f
      refine (hz.out).mono ?_
      rintro e w1 ⟨rfl, hF1⟩
      have hB1 := Lib.hid (hB.out.trans hF1)
      cases hp : q p with
      | true =>
        have hv := hA.out hp
        go_wp2_with fail
        go_ret
        exact ⟨_, rfl, hB1.out, by rw [hv]; simp⟩
      | false =>
        have hs := Lib.hid (hS.out hp)
        go_wp2_with fail
        go_roundw
        case rel => exact ⟨j + 1, by omega, by go_num, hB1, hs⟩
        case measure => simp [intOf]; omega
    · obtain rfl : j = n := by omega
      have hv := Lib.hid (HZ.out HJ.out)
      go_wp2_with fail
      go_ret
      exact ⟨_, rfl, hB.out, by rw [hv.out]; rfl⟩
theorem containsFuncX_c (D M : Nat) (v : Value) (L : List Tree) (f : Nat) (caps : Array Value) (q : Tree → Bool) (w : World) (hD : Dec w D M) (h : TL w v L)
    (hf : ∀ W, DF w D M W → ∀ t, t ∈ L → Calls Tryz.prog f (#[.string (tx t)] ++ caps) W (Decides W D M (q t))) (eg : ∀ args w, (callFunc f args).run Tryz.prog w = .ok (.enter f args) w) :
    Calls Tryz.prog 137 #[v, .func (.func f) #[] caps] w (Decides w D M (L.any q)) := by
  have HI := Lib.hid (indexFuncX_c D M v L f caps q w hD h hf eg)
  unfold Decides
  obtain ⟨A, n, c, rfl⟩ := h.slice
  clear h hf eg hD
  generalize L.any q = R at *
  go_enter Tryz.func137, Tryz.ntmps137
  go_wp2_with fail
  refine HI.out.mono ?_
  rintro e w1 ⟨r, rfl, hg1, hr⟩
  go_wp2_with fail
  go_ret
  exact ⟨by rw [← hr]; rfl, hg1⟩
end Go.Proofs.YtefkgomecpnpbaaGreat

/- all of the decider. -/
namespace Go.Proofs.YtefkgomecpnpbaaGreat
open Go.RowKit
open Fm (Tree)

/-- proves is right for all sequents that are smaller. -/
def PrOk (D M n : Nat) : Prop := ∀ L c v W, OkS L c → mu L c < n → Dec W D M → TL W v L →
  Calls Tryz.prog 87 #[.pointer (some ⟨D, 0, none⟩), .agg #[v, .string (tx c)]] W (Decides W D M (dc (EntL L c)))
theorem DF.cell {w W : World} {D M b o : Nat} {u : Value} (h : DF w D M W) (hM : Memo w M) (hc : w.cell? ⟨b, o, none⟩ = some u) (hb : b < w.heap.size) : W.cell? ⟨b, o, none⟩ = some u :=
  (h.only.cell (p := ⟨b, o, none⟩) hb (memo_ne hM hc)).trans hc
theorem Decides.then {w a b : World} {D M : Nat} {r : Bool} {e : Ending} (h : DF w D M a) (k : Decides a D M r e b) : Decides w D M r e b := ⟨k.1, h.trans k.2⟩

theorem all1_c (D M bd : Nat) (u : Value) (p : Gl) (W : World) (hD : Dec W D M) (h : TL W u p.1) (hp : OkS p.1 p.2) (n : Nat) (hn : mu p.1 p.2 < n) (hP : PrOk D M n) (hb : ∀ V, Grew W V → V.cell? ⟨bd, 0, none⟩ = some (.pointer (some ⟨D, 0, none⟩))) :
    Calls Tryz.prog 134 (#[.agg #[u, .string (tx p.2)]] ++ #[.pointer (some ⟨bd, 0, none⟩)]) W (Decides W D M (!dc (EntL p.1 p.2))) := by
  unfold Decides
  obtain ⟨A, m, c, rfl⟩ := h.slice
  have HP := Lib.hid (fun V (hV : Grew W V) => hP p.1 p.2 (.slice A m c) V hp hn (hD.grew hV) (h.grew hV))
  have HD := Lib.hid hD
  have hal := (Grew.refl W).alloc (.cells #[.slice A m c, .string (tx p.2)] 90)
  have HG := Lib.hid hal
  have q0 := hb _ hal
  clear h hp hn hP hD hb
  generalize dc (EntL p.1 p.2) = R at *
  generalize tx p.2 = tp at *
  go_enter Tryz.func134, Tryz.ntmps134
  go_wp2_with fail
  refine (HP.out _ HG.out).mono ?_
  rintro e w1 ⟨rfl, h1⟩
  go_wp2_with fail
  go_ret
  exact ⟨rfl, (DF.of_grew HD.out HG.out).trans h1⟩
theorem allGl_any (ps : List Gl) : (!ps.any fun p => !dc (EntL p.1 p.2)) = allGl ps := by
  unfold allGl
  induction ps with
  | nil => rfl
  | cons p ps ih => rw [List.any_cons, List.all_cons, ← ih, Bool.not_or, Bool.not_not]
theorem all_c (D M n : Nat) (v : Value) (ps : List Gl) (w : World) (hD : Dec w D M) (h : Gls w v ps) (hP : PrOk D M n) (hps : ∀ p ∈ ps, OkS p.1 p.2 ∧ mu p.1 p.2 < n) :
    Calls Tryz.prog 121 #[.pointer (some ⟨D, 0, none⟩), v] w (Decides w D M (allGl ps)) := by
  have hr := Grew.refl w
  have hal := hr.alloc (.cells #[.pointer (some ⟨D, 0, none⟩)] 69)
  have HG := Lib.hid hal
  have HD := Lib.hid hD
  have hc : (w.alloc (.cells #[.pointer (some ⟨D, 0, none⟩)] 69)).cell? ⟨w.heap.size, 0, none⟩ = some (.pointer (some ⟨D, 0, none⟩)) := by simp
  have hsz : w.heap.size < (w.alloc (.cells #[.pointer (some ⟨D, 0, none⟩)] 69)).heap.size := by simp
  have HI := Lib.hid (containsFuncG_c D M v ps 134 #[.pointer (some ⟨w.heap.size, 0, none⟩)] (fun p => !dc (EntL p.1 p.2)) _ (hD.grew hal) (h.grew hal)
    (fun W hW p u hp hu => all1_c D M w.heap.size u p W hW.dec hu (hps p hp).1 n (hps p hp).2 hP (fun V hV => (hV.cell (p := ⟨w.heap.size, 0, none⟩) (Nat.lt_of_lt_of_le hsz hW.only.size)).trans (hW.cell (hD.grew hal).memo hc hsz)))
    (enters_of Tryz.func134 (by kernel_rfl) rfl))
  have HE := Lib.hid (allGl_any ps)
  unfold Decides
  obtain ⟨A, m, c, rfl⟩ : ∃ A n c, v = .slice A n c := by
    rcases h with ⟨rfl, _⟩ | ⟨b, o, c, rfl, _⟩
    · exact ⟨_, _, _, rfl⟩
    · exact ⟨_, _, _, rfl⟩
  clear hP hps h hD hal hc hsz hr
  generalize allGl ps = R at *
  generalize (ps.any fun p => !dc (EntL p.1 p.2)) = R2 at *
  go_enter Tryz.func121, Tryz.ntmps121
  go_wp2_with fail
  refine HI.out.mono ?_
  rintro e w1 ⟨rfl, h1⟩
  go_wp2_with fail
  go_ret
  exact ⟨by rw [HE.out]; rfl, (DF.of_grew HD.out HG.out).trans h1⟩
end Go.Proofs.YtefkgomecpnpbaaGreat

/- The closures of tries: a part of a disjunction, an implication of an implication. Printed by decz.py. -/
namespace Go.Proofs.YtefkgomecpnpbaaGreat
open Go.RowKit
open Fm (Tree)

theorem DF.alloc {w a : World} {D M : Nat} (h : DF w D M a) (o : Obj) : DF w D M (a.alloc o) := h.grew ((Grew.refl a).alloc o)
theorem DF.drew {w a : World} {D M : Nat} (h : DF w D M a) : DF w D M a.drew := h.grew (Grew.refl a).drew
theorem TL.df {w W : World} {D M : Nat} {v : Value} {L : List Tree} (h : TL w v L) (hD : Dec w D M) (hF : DF w D M W) : TL W v L := h.only hD.memo hF.only
theorem nodes_df {w W : World} {D M : Nat} {v : Value} {xs : List Fm.Nd} (h : Nodes w v xs) (hD : Dec w D M) (hF : DF w D M W) : Nodes W v xs := nodes_only h hD.memo hF.only

/-- The boxes that the closures read: the decider, the sequent. -/
structure Boxes (w : World) (D M bd bg : Nat) (v : Value) (r : ByteArray) : Prop where
  d0 : ∀ V, DF w D M V → V.cell? ⟨bd, 0, none⟩ = some (.pointer (some ⟨D, 0, none⟩))
  g0 : ∀ V, DF w D M V → V.cell? ⟨bg, 0, none⟩ = some v
  g1 : ∀ V, DF w D M V → V.cell? ⟨bg, 1, none⟩ = some (.string r)
theorem Boxes.df {w W : World} {D M bd bg : Nat} {v : Value} {r : ByteArray} (h : Boxes w D M bd bg v r) (hF : DF w D M W) : Boxes W D M bd bg v r :=
  ⟨fun V hV => h.d0 V (hF.trans hV), fun V hV => h.g0 V (hF.trans hV), fun V hV => h.g1 V (hF.trans hV)⟩

set_option maxHeartbeats 2000000 in
theorem tries1_c (D M bd bg n : Nat) (v : Value) (r : ByteArray) (L : List Tree) (p : Tree) (w : World) (hD : Dec w D M) (h : TL w v L) (hB : Boxes w D M bd bg v r) (hS : OkS L p) (hn : mu L p < n) (hP : PrOk D M n) :
    Calls Tryz.prog 138 (#[.string (tx p)] ++ #[.pointer (some ⟨bd, 0, none⟩), .pointer (some ⟨bg, 0, none⟩)]) w (Decides w D M (dc (EntL L p))) := by
  unfold Decides
  obtain ⟨A, m, c, rfl⟩ := h.slice
  have HP := Lib.hid (fun V (hV : Grew w V) => hP L p (.slice A m c) V hS hn (hD.grew hV) (h.grew hV))
  have HD := Lib.hid hD
  have d0 := hB.d0
  have g0 := hB.g0
  have g1 := hB.g1
  have f0 := (DF.refl hD).drew
  have r0 := (Grew.refl w).drew
  clear h hS hn hP hD hB
  generalize dc (EntL L p) = R at *
  generalize tx p = tp at *
  go_enter Tryz.func138, Tryz.ntmps138
  go_wp2_with fail
  go_region_held3 (fun w' => DF w D M w') (first | with_reducible assumption)
    (first
     | (go_at_call 87; refine (HP.out _ hk1).mono ?_; rintro e w2 ⟨rfl, h2⟩; have f2 := f1.trans h2)
     | (go_at_call 122; refine (proving_c A m c r tp _).mono ?_; rintro e w1 ⟨rfl, hg1⟩; have hk1 := r0.trans hg1; have f1 := f0.grew hg1))
  go_wp2_with fail
  go_ret
  exact ⟨rfl, f2⟩

/-- Does an implication of an implication give the right side? -/
noncomputable def wayT (L : List Tree) (c : Tree) : Tree → Bool
  | .imp (.imp x y) z => dc (EntL (dropT L (.imp (.imp x y) z) ++ [.imp y z]) (.imp x y)) && dc (EntL (dropT L (.imp (.imp x y) z) ++ [z]) c)
  | _ => false
theorem wayT_ii (L : List Tree) (c x y z : Tree) : wayT L c (.imp (.imp x y) z) = (dc (EntL (dropT L (.imp (.imp x y) z) ++ [.imp y z]) (.imp x y)) && dc (EntL (dropT L (.imp (.imp x y) z) ++ [z]) c)) := rfl
theorem ins_dc {L : List Tree} {t a d : Tree} {P : List Tree} (h : Ins L t [a] P) : dc (EntL P d) = dc (EntL (dropT L t ++ [a]) d) :=
  dc_congr (entL_congr fun b => h.mem b)

set_option maxHeartbeats 4000000 in
theorem tries2_c (D M bd bg : Nat) (v : Value) (L : List Tree) (c t : Tree) (w : World) (hD : Dec w D M) (h : TL w v L) (hB : Boxes w D M bd bg v (tx c)) (hS : OkS L c) (ht : t ∈ L) (hP : PrOk D M (mu L c)) :
    Calls Tryz.prog 139 (#[.string (tx t)] ++ #[.pointer (some ⟨bd, 0, none⟩), .pointer (some ⟨bg, 0, none⟩)]) w (Decides w D M (wayT L c t)) := by
  unfold Decides
  have HT := Lib.hid ht
  have HF := Lib.hid (hS.1 t ht)
  have HS := Lib.hid hS
  have HL := Lib.hid h
  have HD := Lib.hid hD
  have HBx := Lib.hid hB
  have HPr := Lib.hid hP
  have hnL : L.length ≤ 1048576 := Nat.le_trans (len_nu L c) hS.2.2
  have KTree := Lib.hid (fun W => treeOf_c t W HF.out)
  obtain ⟨Av, nv, cv, rfl⟩ := h.slice
  clear h ht hS hP hD hB
  by_cases hi : ∃ x z, t = .imp x z
  case neg =>
    have hk : (kindOf t != 4) = true := not_imp_kind (fun p q e => hi ⟨p, q, e⟩)
    have hw : wayT L c t = false := by
      cases t with
      | imp p q => exact absurd ⟨p, q, rfl⟩ hi
      | _ => rfl
    rw [hw]
    have hk4 : kindOf t ≠ 4 := by simpa using hk
    clear hi hw hk
    generalize tx t = ts at *
    go_enter Tryz.func139, Tryz.ntmps139
    go_wp2_with fail
    refine (KTree.out _).mono ?_
    rintro e w1 ⟨va, rfl, hva, hg1⟩
    obtain ⟨bx, ox, nx, cx, rfl, hnx, hnxe, hkx⟩ := head_t hva
    have hnnx : (0 : Int) < (nx : Int) := by omega
    have k0 := hkx _ (Grew.refl w1)
    clear hva hkx hnxe
    generalize kindOf t = k at *
    go_wp2_with fail
    go_ret
    exact ⟨rfl, DF.of_grew HD.out hg1⟩
  obtain ⟨x, b, rfl⟩ := hi
  have hfx := (fmOk_imp HF.out).1
  have HFB := Lib.hid (fmOk_imp HF.out).2
  by_cases hi : ∃ p q, x = .imp p q
  case neg =>
    have hk : (kindOf x != 4) = true := not_imp_kind (fun p q e => hi ⟨p, q, e⟩)
    have hw : wayT L c (.imp x b) = false := by
      cases x with
      | imp p q => exact absurd ⟨p, q, rfl⟩ hi
      | _ => rfl
    rw [hw]
    have hk4 : kindOf x ≠ 4 := by simpa using hk
    have KL := Lib.hid (fun va W h => first_t (two_imp x b) HF.out va W h)
    clear hi hw hk
    generalize tx (.imp x b) = ts at *
    go_enter Tryz.func139, Tryz.ntmps139
    go_wp2_with fail
    refine (KTree.out _).mono ?_
    rintro e w1 ⟨va, rfl, hva, hg1⟩
    have HVA := Lib.hid hva
    obtain ⟨bx, ox, nx, cx, rfl, hnx, hnxe, hkx⟩ := head_t hva
    have hnnx : (0 : Int) < (nx : Int) := by omega
    have k0 := hkx _ (Grew.refl w1)
    simp only [kindOf] at k0
    clear hva hkx hnxe
    go_wp2_with fail
    refine (KL.out _ _ HVA.out).mono ?_
    rintro e w2 ⟨vx, rfl, hvx, hg2⟩
    obtain ⟨by', oy, ny, cy, rfl, hny, hnye, hky⟩ := head_t hvx
    have hnny : (0 : Int) < (ny : Int) := by omega
    have k1 := hky _ (Grew.refl w2)
    clear hvx hky hnye
    generalize kindOf x = k at *
    go_wp2_with fail
    go_ret
    exact ⟨rfl, DF.of_grew HD.out (hg1.trans hg2)⟩
  obtain ⟨p, q, rfl⟩ := hi
  obtain ⟨hfp, hfq, hfb, hfpq, hfqb⟩ := fmOk_imp_imp HF.out
  have HQB := Lib.hid hfqb
  have HN : Hid (nn q + nn b ≤ 100) := Lib.hid (by have := fmOk_nn hfqb; rw [nn_imp] at this; omega)
  have KL := Lib.hid (fun va W h => first_t (two_imp (.imp p q) b) HF.out va W h)
  have KR := Lib.hid (fun va W h => second_t (two_imp (.imp p q) b) HF.out va W h)
  have KP1 := Lib.hid (fun P u V (hI : Ins L (.imp (.imp p q) b) [.imp q b] P) (hV : Dec V D M) (hu : TL V u P) => by
    obtain ⟨Q, hQ⟩ := ins_ex HS.out.1 (.imp (.imp p q) b) [b] (ok_one hfb)
    have hm := (mv_ii HS.out HT.out hI hQ).1
    have := HPr.out P (.imp p q) u V hm.1 hm.2 hV hu
    rw [ins_dc hI] at this
    exact this)
  have KP2 := Lib.hid (fun Q u V (hI : Ins L (.imp (.imp p q) b) [b] Q) (hV : Dec V D M) (hu : TL V u Q) => by
    obtain ⟨P, hP⟩ := ins_ex HS.out.1 (.imp (.imp p q) b) [.imp q b] (ok_one hfqb)
    have hm := (mv_ii HS.out HT.out hP hI).2.1
    have := HPr.out Q c u V hm.1 hm.2 hV hu
    rw [ins_dc hI] at this
    exact this)
  rw [wayT_ii]
  have KI0 := Lib.hid (fun K vk V (hV : DF w D M V) (hk : TL V vk K) (hK : ∀ a ∈ K, FmOk a) (hl : K.length ≤ 2) => instead_c _ vk L K (.imp (.imp p q) b) (tx c) V (HL.out.df HD.out hV) hk HS.out.1 hK HF.out (by omega))
  clear hfx hfp hfq hfb hfpq hfqb HPr HS HT
  generalize dc (EntL (dropT L (.imp (.imp p q) b) ++ [.imp q b]) (.imp p q)) = R1 at *
  generalize dc (EntL (dropT L (.imp (.imp p q) b) ++ [b]) c) = R2 at *
  have hfpq := (fmOk_imp HF.out).1
  have HF' := HF
  clear HF
  generalize tx (.imp (.imp p q) b) = ts at *
  have KA := Lib.hid (fun (W1 W2 W3 : World) (_ : Grew w W1) (hg2 : Grew W1 W2) (hg3 : Grew W2 W3) => hg2.trans hg3)
  have walk : ∀ (hR : Bool), R1 = hR → Calls Tryz.prog 139 (#[.string ts] ++ #[.pointer (some ⟨bd, 0, none⟩), .pointer (some ⟨bg, 0, none⟩)]) w (fun e w' => e = .returned (.bool (R1 && R2)) ∧ DF w D M w') := by
    intro hR hRe
    subst hRe
    go_enter Tryz.func139, Tryz.ntmps139
    go_wp2_with fail
    refine (KTree.out _).mono ?_
    rintro e w1 ⟨va, rfl, hva, hg1⟩
    have HVA := Lib.hid hva
    obtain ⟨bx, ox, nx, cx, rfl, hnx, hnxe, hkx⟩ := head_t hva
    have hnnx : (0 : Int) < (nx : Int) := by omega
    have k0 := hkx _ (Grew.refl w1)
    simp only [kindOf] at k0
    clear hva hkx hnxe
    go_wp2_with fail
    refine (KL.out _ _ HVA.out).mono ?_
    rintro e w2 ⟨vx, rfl, hvx, hg2⟩
    obtain ⟨by', oy, ny, cy, rfl, hny, hnye, hky⟩ := head_t hvx
    have hnny : (0 : Int) < (ny : Int) := by omega
    have k1 := hky _ (Grew.refl w2)
    simp only [kindOf] at k1
    clear hvx hky hnye
    go_wp2_with fail
    refine (KL.out _ _ (HVA.out.grew hg2)).mono ?_
    rintro e w3 ⟨vx2, rfl, hvx2, hg3⟩
    have HX := Lib.hid hvx2
    obtain ⟨Ax, nx2, cx2, rfl⟩ := slice3 hvx2
    clear hvx2
    go_wp2_with fail
    refine (KR.out _ _ (HVA.out.grew (hg2.trans hg3))).mono ?_
    rintro e w4 ⟨vb, rfl, hvb, hg4⟩
    have g4 := ((hg1.trans hg2).trans hg3).trans hg4
    have hD4 := HD.out.grew g4
    have HF4 := Lib.hid (DF.of_grew HD.out g4)
    have hX4 := HX.out.grew hg4
    have KS := Lib.hid (fun V (hV : DF w4 D M V) => second_t (two_imp p q) hfpq _ V (nodes_df hX4 hD4 hV))
    have KX := Lib.hid (fun V (hV : DF w4 D M V) => text_t (.imp p q) _ V hfpq (nodes_df hX4 hD4 hV))
    have KT := Lib.hid (fun V (hV : DF w4 D M V) => text_t b _ V HFB.out (nodes_df hvb hD4 hV))
    have HB := Lib.hid (fun V (hV : DF w4 D M V) => nodes_df hvb hD4 hV)
    obtain ⟨Ab, nb, cb, rfl⟩ := slice3 hvb
    have KI := Lib.hid (fun K vk V (hV : DF w4 D M V) => KI0.out K vk V (HF4.out.trans hV))
    have f0 := (DF.refl hD4).drew
    have d0 := fun V (hV : DF w4 D M V) => HBx.out.d0 V (HF4.out.trans hV)
    have g0 := fun V (hV : DF w4 D M V) => HBx.out.g0 V (HF4.out.trans hV)
    have g1 := fun V (hV : DF w4 D M V) => HBx.out.g1 V (HF4.out.trans hV)
    clear hvb hX4 hD4 g4 HX k0 k1 KA
    go_wp2_with fail
    cases R1 with
    | true =>
      refine wp_region_held_drew (S := fun w' => DF w4 D M w') (by kernel_rfl) f0 (fun hHeld => ?_)
      refine wpAnyH_take (i := 0) (oi := ?on1) (v := ?vn1) ?hin1 ?an1 ?bn1 ?cn1 ?qn1 (Or.inl ⟨?dn1, ?hyn1⟩) hHeld ?restn1
      case hin1 => (simp only [List.getElem?_toArray, List.getElem?_cons_succ, List.getElem?_cons_zero]; exact rfl)
      case an1 => kernel_rfl
      case bn1 => kernel_rfl
      case cn1 => kernel_rfl
      case qn1 => exact fun _ _ _ h => h
      case dn1 => rfl
      case hyn1 => (intro z hSw; (try dsimp only at hSw); go_simp; (try with_reducible rfl))
      try simp only [Act.put, List.setIfInBounds_toArray, List.set_cons_zero, List.set_cons_succ]
      refine wpAnyH_take (i := 1) (oi := ?on2) (v := ?vn2) ?hin2 ?an2 ?bn2 ?cn2 ?qn2 (Or.inl ⟨?dn2, ?hyn2⟩) hHeld ?restn2
      case hin2 => (simp only [List.getElem?_toArray, List.getElem?_cons_succ, List.getElem?_cons_zero]; exact rfl)
      case an2 => kernel_rfl
      case bn2 => kernel_rfl
      case cn2 => kernel_rfl
      case qn2 => exact fun _ _ _ h => h
      case dn2 => rfl
      case hyn2 => (intro z hSw; (try dsimp only at hSw); go_simp; (try with_reducible rfl))
      try simp only [Act.put, List.setIfInBounds_toArray, List.set_cons_zero, List.set_cons_succ]
      refine wpAnyH_take (i := 2) (oi := ?on3) (v := ?vn3) ?hin3 ?an3 ?bn3 ?cn3 ?qn3 (Or.inl ⟨?dn3, ?hyn3⟩) hHeld ?restn3
      case hin3 => (simp only [List.getElem?_toArray, List.getElem?_cons_succ, List.getElem?_cons_zero]; exact rfl)
      case an3 => kernel_rfl
      case bn3 => kernel_rfl
      case cn3 => kernel_rfl
      case qn3 => exact fun _ _ _ h => h
      case dn3 => rfl
      case hyn3 => (intro z hSw; (try dsimp only at hSw); go_simp; (try with_reducible rfl))
      try simp only [Act.put, List.setIfInBounds_toArray, List.set_cons_zero, List.set_cons_succ]
      refine wpAnyH_take (i := 3) (oi := ?on4) (v := ?vn4) ?hin4 ?an4 ?bn4 ?cn4 ?qn4 (Or.inl ⟨?dn4, ?hyn4⟩) hHeld ?restn4
      case hin4 => (simp only [List.getElem?_toArray, List.getElem?_cons_succ, List.getElem?_cons_zero]; exact rfl)
      case an4 => kernel_rfl
      case bn4 => kernel_rfl
      case cn4 => kernel_rfl
      case qn4 => exact fun _ _ _ h => h
      case dn4 => rfl
      case hyn4 => (intro z hSw; (try dsimp only at hSw); go_simp; (try with_reducible rfl))
      try simp only [Act.put, List.setIfInBounds_toArray, List.set_cons_zero, List.set_cons_succ]
      refine wpAnyH_take (i := 5) (oi := ?on5) (v := ?vn5) ?hin5 ?an5 ?bn5 ?cn5 ?qn5 (Or.inl ⟨?dn5, ?hyn5⟩) hHeld ?restn5
      case hin5 => (simp only [List.getElem?_toArray, List.getElem?_cons_succ, List.getElem?_cons_zero]; exact rfl)
      case an5 => kernel_rfl
      case bn5 => kernel_rfl
      case cn5 => kernel_rfl
      case qn5 => exact fun _ _ _ h => h
      case dn5 => rfl
      case hyn5 => (intro z hSw; (try dsimp only at hSw); go_simp; (try with_reducible rfl))
      try simp only [Act.put, List.setIfInBounds_toArray, List.set_cons_zero, List.set_cons_succ]
      refine wpAnyH_take (i := 11) (oi := ?on6) (v := ?vn6) ?hin6 ?an6 ?bn6 ?cn6 ?qn6 (Or.inl ⟨?dn6, ?hyn6⟩) hHeld ?restn6
      case hin6 => (simp only [List.getElem?_toArray, List.getElem?_cons_succ, List.getElem?_cons_zero]; exact rfl)
      case an6 => kernel_rfl
      case bn6 => kernel_rfl
      case cn6 => kernel_rfl
      case qn6 => exact fun _ _ _ h => h
      case dn6 => rfl
      case hyn6 => (intro z hSw; (try dsimp only at hSw); go_simp; (try with_reducible rfl))
      try simp only [Act.put, List.setIfInBounds_toArray, List.set_cons_zero, List.set_cons_succ]
      refine wpAnyH_ready (rs := [4]) (by kernel_rfl) (by simp) ?_
      refine AllReadyH.cons (o := ?on7) ?hin7 ?restn7 AllReadyH.nil
      case hin7 => (simp only [List.getElem?_toArray, List.getElem?_cons_succ, List.getElem?_cons_zero]; exact rfl)
      intro K hK
      go_simp
      go_at_call 91
      refine (KS.out _ f0).mono ?_
      rintro e v1 ⟨u1, rfl, hu1, hg1⟩
      have f1 := f0.grew hg1
      obtain ⟨A1, n1, c1, rfl⟩ := slice3 hu1
      refine hK.out _ _ ?_ (fun hHeld => ?_)
      · (try dsimp only); first | with_reducible assumption | exact DF.alloc ‹_› _
      clear hK K
      try simp only [Act.put, List.setIfInBounds_toArray, List.set_cons_zero, List.set_cons_succ]
      refine wpAnyH_ready (rs := [6]) (by kernel_rfl) (by simp) ?_
      refine AllReadyH.cons (o := ?on8) ?hin8 ?restn8 AllReadyH.nil
      case hin8 => (simp only [List.getElem?_toArray, List.getElem?_cons_succ, List.getElem?_cons_zero]; exact rfl)
      intro K hK
      go_simp
      refine hK.out _ _ ?_ (fun hHeld => ?_)
      · (try dsimp only); first | with_reducible assumption | exact DF.alloc ‹_› _
      clear hK K
      try simp only [Act.put, List.setIfInBounds_toArray, List.set_cons_zero, List.set_cons_succ]
      refine wpAnyH_ready (rs := [7]) (by kernel_rfl) (by simp) ?_
      refine AllReadyH.cons (o := ?on9) ?hin9 ?restn9 AllReadyH.nil
      case hin9 => (simp only [List.getElem?_toArray, List.getElem?_cons_succ, List.getElem?_cons_zero]; exact rfl)
      intro K hK
      go_simp
      go_at_call 140
      refine (arrow2_c v1.heap.size A1 Ab n1 nb c1 cb q b _ (hu1.grew ((Grew.refl v1).alloc _)) ((HB.out _ f1).grew ((Grew.refl v1).alloc _)) HN.out (fun _ hW => (hW.cell (p := ⟨v1.heap.size, 0, none⟩) (by simp)).trans (by simp)) (fun _ hW => (hW.cell (p := ⟨v1.heap.size, 1, none⟩) (by simp)).trans (by simp))).mono ?_
      rintro e v2 ⟨u2, rfl, hu2, hg2⟩
      have f2 := (f1.alloc _).grew hg2
      obtain ⟨A2, n2, c2, rfl⟩ := slice3 hu2
      refine hK.out _ _ ?_ (fun hHeld => ?_)
      · (try dsimp only); first | with_reducible assumption | exact DF.alloc ‹_› _
      clear hK K
      try simp only [Act.put, List.setIfInBounds_toArray, List.set_cons_zero, List.set_cons_succ]
      refine wpAnyH_ready (rs := [8]) (by kernel_rfl) (by simp) ?_
      refine AllReadyH.cons (o := ?on10) ?hin10 ?restn10 AllReadyH.nil
      case hin10 => (simp only [List.getElem?_toArray, List.getElem?_cons_succ, List.getElem?_cons_zero]; exact rfl)
      intro K hK
      go_simp
      go_at_call 35
      refine (text_t (.imp q b) _ _ HQB.out hu2).mono ?_
      rintro e v3 ⟨rfl, hg3⟩
      have f3 := f2.grew hg3
      refine hK.out _ _ ?_ (fun hHeld => ?_)
      · (try dsimp only); first | with_reducible assumption | exact DF.alloc ‹_› _
      clear hK K
      try simp only [Act.put, List.setIfInBounds_toArray, List.set_cons_zero, List.set_cons_succ]
      refine wpAnyH_ready (rs := [9]) (by kernel_rfl) (by simp) ?_
      refine AllReadyH.cons (o := ?on11) ?hin11 ?restn11 AllReadyH.nil
      case hin11 => (simp only [List.getElem?_toArray, List.getElem?_cons_succ, List.getElem?_cons_zero]; exact rfl)
      intro K hK
      go_simp
      refine hK.out _ _ ?_ (fun hHeld => ?_)
      · (try dsimp only); first | with_reducible assumption | exact DF.alloc ‹_› _
      clear hK K
      try simp only [Act.put, List.setIfInBounds_toArray, List.set_cons_zero, List.set_cons_succ]
      refine wpAnyH_ready (rs := [10]) (by kernel_rfl) (by simp) ?_
      refine AllReadyH.cons (o := ?on12) ?hin12 ?restn12 AllReadyH.nil
      case hin12 => (simp only [List.getElem?_toArray, List.getElem?_cons_succ, List.getElem?_cons_zero]; exact rfl)
      intro K hK
      go_simp
      go_at_call 135
      refine (KI.out [.imp q b] _ _ (f3.alloc _) TL.one (ok_one HQB.out) (by simp)).mono ?_
      rintro e v4 ⟨u4, P, rfl, hP, hu4, hg4⟩
      have f4 := (f3.alloc _).grew hg4
      obtain ⟨A4, n4, c4, rfl⟩ := hu4.slice
      refine hK.out _ _ ?_ (fun hHeld => ?_)
      · (try dsimp only); first | with_reducible assumption | exact DF.alloc ‹_› _
      clear hK K
      try simp only [Act.put, List.setIfInBounds_toArray, List.set_cons_zero, List.set_cons_succ]
      refine wpAnyH_ready (rs := [12]) (by kernel_rfl) (by simp) ?_
      refine AllReadyH.cons (o := ?on13) ?hin13 ?restn13 AllReadyH.nil
      case hin13 => (simp only [List.getElem?_toArray, List.getElem?_cons_succ, List.getElem?_cons_zero]; exact rfl)
      intro K hK
      go_simp
      go_at_call 35
      refine (KX.out _ f4).mono ?_
      rintro e v5 ⟨rfl, hg5⟩
      have f5 := f4.grew hg5
      refine hK.out _ _ ?_ (fun hHeld => ?_)
      · (try dsimp only); first | with_reducible assumption | exact DF.alloc ‹_› _
      clear hK K
      try simp only [Act.put, List.setIfInBounds_toArray, List.set_cons_zero, List.set_cons_succ]
      refine wpAnyH_ready (rs := [13]) (by kernel_rfl) (by simp) ?_
      refine AllReadyH.cons (o := ?on14) ?hin14 ?restn14 AllReadyH.nil
      case hin14 => (simp only [List.getElem?_toArray, List.getElem?_cons_succ, List.getElem?_cons_zero]; exact rfl)
      intro K hK
      go_simp
      go_at_call 122
      refine (proving_c A4 n4 c4 _ _ _).mono ?_
      rintro e v6 ⟨rfl, hg6⟩
      have f6 := f5.grew hg6
      refine hK.out _ _ ?_ (fun hHeld => ?_)
      · (try dsimp only); first | with_reducible assumption | exact DF.alloc ‹_› _
      clear hK K
      try simp only [Act.put, List.setIfInBounds_toArray, List.set_cons_zero, List.set_cons_succ]
      refine wpAnyH_ready (rs := [14]) (by kernel_rfl) (by simp) ?_
      refine AllReadyH.cons (o := ?on15) ?hin15 ?restn15 AllReadyH.nil
      case hin15 => (simp only [List.getElem?_toArray, List.getElem?_cons_succ, List.getElem?_cons_zero]; exact rfl)
      intro K hK
      go_simp
      go_at_call 87
      refine (KP1.out P _ _ hP f6.dec (hu4.grew (hg5.trans hg6))).mono ?_
      rintro e v7 ⟨rfl, h7⟩
      have f7 := f6.trans h7
      refine hK.out _ _ ?_ (fun hHeld => ?_)
      · (try dsimp only); first | with_reducible assumption | exact DF.alloc ‹_› _
      clear hK K
      try simp only [Act.put, List.setIfInBounds_toArray, List.set_cons_zero, List.set_cons_succ]
      refine wpAnyH_take (i := 15) (oi := ?on16) (v := ?vn16) ?hin16 ?an16 ?bn16 ?cn16 ?qn16 (Or.inl ⟨?dn16, ?hyn16⟩) hHeld ?restn16
      case hin16 => (simp only [List.getElem?_toArray, List.getElem?_cons_succ, List.getElem?_cons_zero]; exact rfl)
      case an16 => kernel_rfl
      case bn16 => kernel_rfl
      case cn16 => kernel_rfl
      case qn16 => exact fun _ _ _ h => h
      case dn16 => rfl
      case hyn16 => (intro z hSw; (try dsimp only at hSw); go_simp; (try with_reducible rfl))
      try simp only [Act.put, List.setIfInBounds_toArray, List.set_cons_zero, List.set_cons_succ]
      refine wpAnyH_take (i := 16) (oi := ?on17) (v := ?vn17) ?hin17 ?an17 ?bn17 ?cn17 ?qn17 (Or.inl ⟨?dn17, ?hyn17⟩) hHeld ?restn17
      case hin17 => (simp only [List.getElem?_toArray, List.getElem?_cons_succ, List.getElem?_cons_zero]; exact rfl)
      case an17 => kernel_rfl
      case bn17 => kernel_rfl
      case cn17 => kernel_rfl
      case qn17 => exact fun _ _ _ h => h
      case dn17 => rfl
      case hyn17 => (intro z hSw; (try dsimp only at hSw); go_simp; (try with_reducible rfl))
      try simp only [Act.put, List.setIfInBounds_toArray, List.set_cons_zero, List.set_cons_succ]
      refine wpAnyH_take (i := 17) (oi := ?on18) (v := ?vn18) ?hin18 ?an18 ?bn18 ?cn18 ?qn18 (Or.inl ⟨?dn18, ?hyn18⟩) hHeld ?restn18
      case hin18 => (simp only [List.getElem?_toArray, List.getElem?_cons_succ, List.getElem?_cons_zero]; exact rfl)
      case an18 => kernel_rfl
      case bn18 => kernel_rfl
      case cn18 => kernel_rfl
      case qn18 => exact fun _ _ _ h => h
      case dn18 => rfl
      case hyn18 => (intro z hSw; (try dsimp only at hSw); go_simp; (try with_reducible rfl))
      try simp only [Act.put, List.setIfInBounds_toArray, List.set_cons_zero, List.set_cons_succ]
      refine wpAnyH_take (i := 18) (oi := ?on19) (v := ?vn19) ?hin19 ?an19 ?bn19 ?cn19 ?qn19 (Or.inl ⟨?dn19, ?hyn19⟩) hHeld ?restn19
      case hin19 => (simp only [List.getElem?_toArray, List.getElem?_cons_succ, List.getElem?_cons_zero]; exact rfl)
      case an19 => kernel_rfl
      case bn19 => kernel_rfl
      case cn19 => kernel_rfl
      case qn19 => exact fun _ _ _ h => h
      case dn19 => rfl
      case hyn19 => (intro z hSw; (try dsimp only at hSw); go_simp; (try with_reducible rfl))
      try simp only [Act.put, List.setIfInBounds_toArray, List.set_cons_zero, List.set_cons_succ]
      refine wpAnyH_take (i := 19) (oi := ?on20) (v := ?vn20) ?hin20 ?an20 ?bn20 ?cn20 ?qn20 (Or.inl ⟨?dn20, ?hyn20⟩) hHeld ?restn20
      case hin20 => (simp only [List.getElem?_toArray, List.getElem?_cons_succ, List.getElem?_cons_zero]; exact rfl)
      case an20 => kernel_rfl
      case bn20 => kernel_rfl
      case cn20 => kernel_rfl
      case qn20 => exact fun _ _ _ h => h
      case dn20 => rfl
      case hyn20 => (intro z hSw; (try dsimp only at hSw); go_simp; (try with_reducible rfl))
      try simp only [Act.put, List.setIfInBounds_toArray, List.set_cons_zero, List.set_cons_succ]
      refine wpAnyH_ready (rs := [20]) (by kernel_rfl) (by simp) ?_
      refine AllReadyH.cons (o := ?on21) ?hin21 ?restn21 AllReadyH.nil
      case hin21 => (simp only [List.getElem?_toArray, List.getElem?_cons_succ, List.getElem?_cons_zero]; exact rfl)
      intro K hK
      go_simp
      go_at_call 35
      refine (KT.out _ f7).mono ?_
      rintro e v8 ⟨rfl, hg8⟩
      have f8 := f7.grew hg8
      refine hK.out _ _ ?_ (fun hHeld => ?_)
      · (try dsimp only); first | with_reducible assumption | exact DF.alloc ‹_› _
      clear hK K
      try simp only [Act.put, List.setIfInBounds_toArray, List.set_cons_zero, List.set_cons_succ]
      refine wpAnyH_ready (rs := [21]) (by kernel_rfl) (by simp) ?_
      refine AllReadyH.cons (o := ?on22) ?hin22 ?restn22 AllReadyH.nil
      case hin22 => (simp only [List.getElem?_toArray, List.getElem?_cons_succ, List.getElem?_cons_zero]; exact rfl)
      intro K hK
      go_simp
      refine hK.out _ _ ?_ (fun hHeld => ?_)
      · (try dsimp only); first | with_reducible assumption | exact DF.alloc ‹_› _
      clear hK K
      try simp only [Act.put, List.setIfInBounds_toArray, List.set_cons_zero, List.set_cons_succ]
      refine wpAnyH_ready (rs := [22]) (by kernel_rfl) (by simp) ?_
      refine AllReadyH.cons (o := ?on23) ?hin23 ?restn23 AllReadyH.nil
      case hin23 => (simp only [List.getElem?_toArray, List.getElem?_cons_succ, List.getElem?_cons_zero]; exact rfl)
      intro K hK
      go_simp
      go_at_call 135
      refine (KI.out [b] _ _ (f8.alloc _) TL.one (ok_one HFB.out) (by simp)).mono ?_
      rintro e v9 ⟨u9, Q, rfl, hQ, hu9, hg9⟩
      have f9 := (f8.alloc _).grew hg9
      obtain ⟨A9, n9, c9, rfl⟩ := hu9.slice
      refine hK.out _ _ ?_ (fun hHeld => ?_)
      · (try dsimp only); first | with_reducible assumption | exact DF.alloc ‹_› _
      clear hK K
      try simp only [Act.put, List.setIfInBounds_toArray, List.set_cons_zero, List.set_cons_succ]
      refine wpAnyH_ready (rs := [23]) (by kernel_rfl) (by simp) ?_
      refine AllReadyH.cons (o := ?on24) ?hin24 ?restn24 AllReadyH.nil
      case hin24 => (simp only [List.getElem?_toArray, List.getElem?_cons_succ, List.getElem?_cons_zero]; exact rfl)
      intro K hK
      go_simp
      go_at_call 87
      refine (KP2.out Q _ _ hQ f9.dec hu9).mono ?_
      rintro e v10 ⟨rfl, h10⟩
      have f10 := f9.trans h10
      refine hK.out _ _ ?_ (fun hHeld => ?_)
      · (try dsimp only); first | with_reducible assumption | exact DF.alloc ‹_› _
      clear hK K
      try simp only [Act.put, List.setIfInBounds_toArray, List.set_cons_zero, List.set_cons_succ]
      refine wpAnyH_take (i := 24) (oi := ?on25) (v := ?vn25) ?hin25 ?an25 ?bn25 ?cn25 ?qn25 (Or.inl ⟨?dn25, ?hyn25⟩) hHeld ?restn25
      case hin25 => (simp only [List.getElem?_toArray, List.getElem?_cons_succ, List.getElem?_cons_zero]; exact rfl)
      case an25 => kernel_rfl
      case bn25 => kernel_rfl
      case cn25 => kernel_rfl
      case qn25 => exact fun _ _ _ h => h
      case dn25 => rfl
      case hyn25 => (intro z hSw; (try dsimp only at hSw); go_simp; (try with_reducible rfl))
      try simp only [Act.put, List.setIfInBounds_toArray, List.set_cons_zero, List.set_cons_succ]
      refine wpAnyH_take (i := 25) (oi := ?on26) (v := ?vn26) ?hin26 ?an26 ?bn26 ?cn26 ?qn26 (Or.inl ⟨?dn26, ?hyn26⟩) hHeld ?restn26
      case hin26 => (simp only [List.getElem?_toArray, List.getElem?_cons_succ, List.getElem?_cons_zero]; exact rfl)
      case an26 => kernel_rfl
      case bn26 => kernel_rfl
      case cn26 => kernel_rfl
      case qn26 => exact fun _ _ _ h => h
      case dn26 => rfl
      case hyn26 => (intro z hSw; (try dsimp only at hSw); go_simp; (try with_reducible rfl))
      try simp only [Act.put, List.setIfInBounds_toArray, List.set_cons_zero, List.set_cons_succ]
      refine wpAnyH_done (by kernel_rfl) ?_ _
      go_wp2_with fail
      go_ret
      exact ⟨rfl, HF4.out.trans f10⟩
    | false =>
      refine wp_region_held_drew (S := fun w' => DF w4 D M w') (by kernel_rfl) f0 (fun hHeld => ?_)
      refine wpAnyH_take (i := 0) (oi := ?on27) (v := ?vn27) ?hin27 ?an27 ?bn27 ?cn27 ?qn27 (Or.inl ⟨?dn27, ?hyn27⟩) hHeld ?restn27
      case hin27 => (simp only [List.getElem?_toArray, List.getElem?_cons_succ, List.getElem?_cons_zero]; exact rfl)
      case an27 => kernel_rfl
      case bn27 => kernel_rfl
      case cn27 => kernel_rfl
      case qn27 => exact fun _ _ _ h => h
      case dn27 => rfl
      case hyn27 => (intro z hSw; (try dsimp only at hSw); go_simp; (try with_reducible rfl))
      try simp only [Act.put, List.setIfInBounds_toArray, List.set_cons_zero, List.set_cons_succ]
      refine wpAnyH_take (i := 1) (oi := ?on28) (v := ?vn28) ?hin28 ?an28 ?bn28 ?cn28 ?qn28 (Or.inl ⟨?dn28, ?hyn28⟩) hHeld ?restn28
      case hin28 => (simp only [List.getElem?_toArray, List.getElem?_cons_succ, List.getElem?_cons_zero]; exact rfl)
      case an28 => kernel_rfl
      case bn28 => kernel_rfl
      case cn28 => kernel_rfl
      case qn28 => exact fun _ _ _ h => h
      case dn28 => rfl
      case hyn28 => (intro z hSw; (try dsimp only at hSw); go_simp; (try with_reducible rfl))
      try simp only [Act.put, List.setIfInBounds_toArray, List.set_cons_zero, List.set_cons_succ]
      refine wpAnyH_take (i := 2) (oi := ?on29) (v := ?vn29) ?hin29 ?an29 ?bn29 ?cn29 ?qn29 (Or.inl ⟨?dn29, ?hyn29⟩) hHeld ?restn29
      case hin29 => (simp only [List.getElem?_toArray, List.getElem?_cons_succ, List.getElem?_cons_zero]; exact rfl)
      case an29 => kernel_rfl
      case bn29 => kernel_rfl
      case cn29 => kernel_rfl
      case qn29 => exact fun _ _ _ h => h
      case dn29 => rfl
      case hyn29 => (intro z hSw; (try dsimp only at hSw); go_simp; (try with_reducible rfl))
      try simp only [Act.put, List.setIfInBounds_toArray, List.set_cons_zero, List.set_cons_succ]
      refine wpAnyH_take (i := 3) (oi := ?on30) (v := ?vn30) ?hin30 ?an30 ?bn30 ?cn30 ?qn30 (Or.inl ⟨?dn30, ?hyn30⟩) hHeld ?restn30
      case hin30 => (simp only [List.getElem?_toArray, List.getElem?_cons_succ, List.getElem?_cons_zero]; exact rfl)
      case an30 => kernel_rfl
      case bn30 => kernel_rfl
      case cn30 => kernel_rfl
      case qn30 => exact fun _ _ _ h => h
      case dn30 => rfl
      case hyn30 => (intro z hSw; (try dsimp only at hSw); go_simp; (try with_reducible rfl))
      try simp only [Act.put, List.setIfInBounds_toArray, List.set_cons_zero, List.set_cons_succ]
      refine wpAnyH_take (i := 5) (oi := ?on31) (v := ?vn31) ?hin31 ?an31 ?bn31 ?cn31 ?qn31 (Or.inl ⟨?dn31, ?hyn31⟩) hHeld ?restn31
      case hin31 => (simp only [List.getElem?_toArray, List.getElem?_cons_succ, List.getElem?_cons_zero]; exact rfl)
      case an31 => kernel_rfl
      case bn31 => kernel_rfl
      case cn31 => kernel_rfl
      case qn31 => exact fun _ _ _ h => h
      case dn31 => rfl
      case hyn31 => (intro z hSw; (try dsimp only at hSw); go_simp; (try with_reducible rfl))
      try simp only [Act.put, List.setIfInBounds_toArray, List.set_cons_zero, List.set_cons_succ]
      refine wpAnyH_take (i := 11) (oi := ?on32) (v := ?vn32) ?hin32 ?an32 ?bn32 ?cn32 ?qn32 (Or.inl ⟨?dn32, ?hyn32⟩) hHeld ?restn32
      case hin32 => (simp only [List.getElem?_toArray, List.getElem?_cons_succ, List.getElem?_cons_zero]; exact rfl)
      case an32 => kernel_rfl
      case bn32 => kernel_rfl
      case cn32 => kernel_rfl
      case qn32 => exact fun _ _ _ h => h
      case dn32 => rfl
      case hyn32 => (intro z hSw; (try dsimp only at hSw); go_simp; (try with_reducible rfl))
      try simp only [Act.put, List.setIfInBounds_toArray, List.set_cons_zero, List.set_cons_succ]
      refine wpAnyH_ready (rs := [4]) (by kernel_rfl) (by simp) ?_
      refine AllReadyH.cons (o := ?on33) ?hin33 ?restn33 AllReadyH.nil
      case hin33 => (simp only [List.getElem?_toArray, List.getElem?_cons_succ, List.getElem?_cons_zero]; exact rfl)
      intro K hK
      go_simp
      go_at_call 91
      refine (KS.out _ f0).mono ?_
      rintro e v1 ⟨u1, rfl, hu1, hg1⟩
      have f1 := f0.grew hg1
      obtain ⟨A1, n1, c1, rfl⟩ := slice3 hu1
      refine hK.out _ _ ?_ (fun hHeld => ?_)
      · (try dsimp only); first | with_reducible assumption | exact DF.alloc ‹_› _
      clear hK K
      try simp only [Act.put, List.setIfInBounds_toArray, List.set_cons_zero, List.set_cons_succ]
      refine wpAnyH_ready (rs := [6]) (by kernel_rfl) (by simp) ?_
      refine AllReadyH.cons (o := ?on34) ?hin34 ?restn34 AllReadyH.nil
      case hin34 => (simp only [List.getElem?_toArray, List.getElem?_cons_succ, List.getElem?_cons_zero]; exact rfl)
      intro K hK
      go_simp
      refine hK.out _ _ ?_ (fun hHeld => ?_)
      · (try dsimp only); first | with_reducible assumption | exact DF.alloc ‹_› _
      clear hK K
      try simp only [Act.put, List.setIfInBounds_toArray, List.set_cons_zero, List.set_cons_succ]
      refine wpAnyH_ready (rs := [7]) (by kernel_rfl) (by simp) ?_
      refine AllReadyH.cons (o := ?on35) ?hin35 ?restn35 AllReadyH.nil
      case hin35 => (simp only [List.getElem?_toArray, List.getElem?_cons_succ, List.getElem?_cons_zero]; exact rfl)
      intro K hK
      go_simp
      go_at_call 140
      refine (arrow2_c v1.heap.size A1 Ab n1 nb c1 cb q b _ (hu1.grew ((Grew.refl v1).alloc _)) ((HB.out _ f1).grew ((Grew.refl v1).alloc _)) HN.out (fun _ hW => (hW.cell (p := ⟨v1.heap.size, 0, none⟩) (by simp)).trans (by simp)) (fun _ hW => (hW.cell (p := ⟨v1.heap.size, 1, none⟩) (by simp)).trans (by simp))).mono ?_
      rintro e v2 ⟨u2, rfl, hu2, hg2⟩
      have f2 := (f1.alloc _).grew hg2
      obtain ⟨A2, n2, c2, rfl⟩ := slice3 hu2
      refine hK.out _ _ ?_ (fun hHeld => ?_)
      · (try dsimp only); first | with_reducible assumption | exact DF.alloc ‹_› _
      clear hK K
      try simp only [Act.put, List.setIfInBounds_toArray, List.set_cons_zero, List.set_cons_succ]
      refine wpAnyH_ready (rs := [8]) (by kernel_rfl) (by simp) ?_
      refine AllReadyH.cons (o := ?on36) ?hin36 ?restn36 AllReadyH.nil
      case hin36 => (simp only [List.getElem?_toArray, List.getElem?_cons_succ, List.getElem?_cons_zero]; exact rfl)
      intro K hK
      go_simp
      go_at_call 35
      refine (text_t (.imp q b) _ _ HQB.out hu2).mono ?_
      rintro e v3 ⟨rfl, hg3⟩
      have f3 := f2.grew hg3
      refine hK.out _ _ ?_ (fun hHeld => ?_)
      · (try dsimp only); first | with_reducible assumption | exact DF.alloc ‹_› _
      clear hK K
      try simp only [Act.put, List.setIfInBounds_toArray, List.set_cons_zero, List.set_cons_succ]
      refine wpAnyH_ready (rs := [9]) (by kernel_rfl) (by simp) ?_
      refine AllReadyH.cons (o := ?on37) ?hin37 ?restn37 AllReadyH.nil
      case hin37 => (simp only [List.getElem?_toArray, List.getElem?_cons_succ, List.getElem?_cons_zero]; exact rfl)
      intro K hK
      go_simp
      refine hK.out _ _ ?_ (fun hHeld => ?_)
      · (try dsimp only); first | with_reducible assumption | exact DF.alloc ‹_› _
      clear hK K
      try simp only [Act.put, List.setIfInBounds_toArray, List.set_cons_zero, List.set_cons_succ]
      refine wpAnyH_ready (rs := [10]) (by kernel_rfl) (by simp) ?_
      refine AllReadyH.cons (o := ?on38) ?hin38 ?restn38 AllReadyH.nil
      case hin38 => (simp only [List.getElem?_toArray, List.getElem?_cons_succ, List.getElem?_cons_zero]; exact rfl)
      intro K hK
      go_simp
      go_at_call 135
      refine (KI.out [.imp q b] _ _ (f3.alloc _) TL.one (ok_one HQB.out) (by simp)).mono ?_
      rintro e v4 ⟨u4, P, rfl, hP, hu4, hg4⟩
      have f4 := (f3.alloc _).grew hg4
      obtain ⟨A4, n4, c4, rfl⟩ := hu4.slice
      refine hK.out _ _ ?_ (fun hHeld => ?_)
      · (try dsimp only); first | with_reducible assumption | exact DF.alloc ‹_› _
      clear hK K
      try simp only [Act.put, List.setIfInBounds_toArray, List.set_cons_zero, List.set_cons_succ]
      refine wpAnyH_ready (rs := [12]) (by kernel_rfl) (by simp) ?_
      refine AllReadyH.cons (o := ?on39) ?hin39 ?restn39 AllReadyH.nil
      case hin39 => (simp only [List.getElem?_toArray, List.getElem?_cons_succ, List.getElem?_cons_zero]; exact rfl)
      intro K hK
      go_simp
      go_at_call 35
      refine (KX.out _ f4).mono ?_
      rintro e v5 ⟨rfl, hg5⟩
      have f5 := f4.grew hg5
      refine hK.out _ _ ?_ (fun hHeld => ?_)
      · (try dsimp only); first | with_reducible assumption | exact DF.alloc ‹_› _
      clear hK K
      try simp only [Act.put, List.setIfInBounds_toArray, List.set_cons_zero, List.set_cons_succ]
      refine wpAnyH_ready (rs := [13]) (by kernel_rfl) (by simp) ?_
      refine AllReadyH.cons (o := ?on40) ?hin40 ?restn40 AllReadyH.nil
      case hin40 => (simp only [List.getElem?_toArray, List.getElem?_cons_succ, List.getElem?_cons_zero]; exact rfl)
      intro K hK
      go_simp
      go_at_call 122
      refine (proving_c A4 n4 c4 _ _ _).mono ?_
      rintro e v6 ⟨rfl, hg6⟩
      have f6 := f5.grew hg6
      refine hK.out _ _ ?_ (fun hHeld => ?_)
      · (try dsimp only); first | with_reducible assumption | exact DF.alloc ‹_› _
      clear hK K
      try simp only [Act.put, List.setIfInBounds_toArray, List.set_cons_zero, List.set_cons_succ]
      refine wpAnyH_ready (rs := [14]) (by kernel_rfl) (by simp) ?_
      refine AllReadyH.cons (o := ?on41) ?hin41 ?restn41 AllReadyH.nil
      case hin41 => (simp only [List.getElem?_toArray, List.getElem?_cons_succ, List.getElem?_cons_zero]; exact rfl)
      intro K hK
      go_simp
      go_at_call 87
      refine (KP1.out P _ _ hP f6.dec (hu4.grew (hg5.trans hg6))).mono ?_
      rintro e v7 ⟨rfl, h7⟩
      have f7 := f6.trans h7
      refine hK.out _ _ ?_ (fun hHeld => ?_)
      · (try dsimp only); first | with_reducible assumption | exact DF.alloc ‹_› _
      clear hK K
      try simp only [Act.put, List.setIfInBounds_toArray, List.set_cons_zero, List.set_cons_succ]
      refine wpAnyH_take (i := 15) (oi := ?on42) (v := ?vn42) ?hin42 ?an42 ?bn42 ?cn42 ?qn42 (Or.inl ⟨?dn42, ?hyn42⟩) hHeld ?restn42
      case hin42 => (simp only [List.getElem?_toArray, List.getElem?_cons_succ, List.getElem?_cons_zero]; exact rfl)
      case an42 => kernel_rfl
      case bn42 => kernel_rfl
      case cn42 => kernel_rfl
      case qn42 => exact fun _ _ _ h => h
      case dn42 => rfl
      case hyn42 => (intro z hSw; (try dsimp only at hSw); go_simp; (try with_reducible rfl))
      try simp only [Act.put, List.setIfInBounds_toArray, List.set_cons_zero, List.set_cons_succ]
      refine wpAnyH_take (i := 16) (oi := ?on43) ?hin43 ?an43 ?bn43 ?cn43 ?qn43 (Or.inr ⟨?dn43, rfl⟩) hHeld ?restn43
      case hin43 => (simp only [List.getElem?_toArray, List.getElem?_cons_succ, List.getElem?_cons_zero]; exact rfl)
      case an43 => kernel_rfl
      case bn43 => kernel_rfl
      case cn43 => kernel_rfl
      case qn43 => exact fun _ _ _ h => h
      case dn43 => rfl
      try simp only [Act.put, List.setIfInBounds_toArray, List.set_cons_zero, List.set_cons_succ]
      refine wpAnyH_take (i := 17) (oi := ?on44) ?hin44 ?an44 ?bn44 ?cn44 ?qn44 (Or.inr ⟨?dn44, rfl⟩) hHeld ?restn44
      case hin44 => (simp only [List.getElem?_toArray, List.getElem?_cons_succ, List.getElem?_cons_zero]; exact rfl)
      case an44 => kernel_rfl
      case bn44 => kernel_rfl
      case cn44 => kernel_rfl
      case qn44 => exact fun _ _ _ h => h
      case dn44 => rfl
      try simp only [Act.put, List.setIfInBounds_toArray, List.set_cons_zero, List.set_cons_succ]
      refine wpAnyH_take (i := 18) (oi := ?on45) ?hin45 ?an45 ?bn45 ?cn45 ?qn45 (Or.inr ⟨?dn45, rfl⟩) hHeld ?restn45
      case hin45 => (simp only [List.getElem?_toArray, List.getElem?_cons_succ, List.getElem?_cons_zero]; exact rfl)
      case an45 => kernel_rfl
      case bn45 => kernel_rfl
      case cn45 => kernel_rfl
      case qn45 => exact fun _ _ _ h => h
      case dn45 => rfl
      try simp only [Act.put, List.setIfInBounds_toArray, List.set_cons_zero, List.set_cons_succ]
      refine wpAnyH_take (i := 19) (oi := ?on46) ?hin46 ?an46 ?bn46 ?cn46 ?qn46 (Or.inr ⟨?dn46, rfl⟩) hHeld ?restn46
      case hin46 => (simp only [List.getElem?_toArray, List.getElem?_cons_succ, List.getElem?_cons_zero]; exact rfl)
      case an46 => kernel_rfl
      case bn46 => kernel_rfl
      case cn46 => kernel_rfl
      case qn46 => exact fun _ _ _ h => h
      case dn46 => rfl
      try simp only [Act.put, List.setIfInBounds_toArray, List.set_cons_zero, List.set_cons_succ]
      refine wpAnyH_take (i := 20) (oi := ?on47) ?hin47 ?an47 ?bn47 ?cn47 ?qn47 (Or.inr ⟨?dn47, rfl⟩) hHeld ?restn47
      case hin47 => (simp only [List.getElem?_toArray, List.getElem?_cons_succ, List.getElem?_cons_zero]; exact rfl)
      case an47 => kernel_rfl
      case bn47 => kernel_rfl
      case cn47 => kernel_rfl
      case qn47 => exact fun _ _ _ h => h
      case dn47 => rfl
      try simp only [Act.put, List.setIfInBounds_toArray, List.set_cons_zero, List.set_cons_succ]
      refine wpAnyH_take (i := 21) (oi := ?on48) ?hin48 ?an48 ?bn48 ?cn48 ?qn48 (Or.inr ⟨?dn48, rfl⟩) hHeld ?restn48
      case hin48 => (simp only [List.getElem?_toArray, List.getElem?_cons_succ, List.getElem?_cons_zero]; exact rfl)
      case an48 => kernel_rfl
      case bn48 => kernel_rfl
      case cn48 => kernel_rfl
      case qn48 => exact fun _ _ _ h => h
      case dn48 => rfl
      try simp only [Act.put, List.setIfInBounds_toArray, List.set_cons_zero, List.set_cons_succ]
      refine wpAnyH_take (i := 22) (oi := ?on49) ?hin49 ?an49 ?bn49 ?cn49 ?qn49 (Or.inr ⟨?dn49, rfl⟩) hHeld ?restn49
      case hin49 => (simp only [List.getElem?_toArray, List.getElem?_cons_succ, List.getElem?_cons_zero]; exact rfl)
      case an49 => kernel_rfl
      case bn49 => kernel_rfl
      case cn49 => kernel_rfl
      case qn49 => exact fun _ _ _ h => h
      case dn49 => rfl
      try simp only [Act.put, List.setIfInBounds_toArray, List.set_cons_zero, List.set_cons_succ]
      refine wpAnyH_take (i := 23) (oi := ?on50) ?hin50 ?an50 ?bn50 ?cn50 ?qn50 (Or.inr ⟨?dn50, rfl⟩) hHeld ?restn50
      case hin50 => (simp only [List.getElem?_toArray, List.getElem?_cons_succ, List.getElem?_cons_zero]; exact rfl)
      case an50 => kernel_rfl
      case bn50 => kernel_rfl
      case cn50 => kernel_rfl
      case qn50 => exact fun _ _ _ h => h
      case dn50 => rfl
      try simp only [Act.put, List.setIfInBounds_toArray, List.set_cons_zero, List.set_cons_succ]
      refine wpAnyH_take (i := 24) (oi := ?on51) (v := ?vn51) ?hin51 ?an51 ?bn51 ?cn51 ?qn51 (Or.inl ⟨?dn51, ?hyn51⟩) hHeld ?restn51
      case hin51 => (simp only [List.getElem?_toArray, List.getElem?_cons_succ, List.getElem?_cons_zero]; exact rfl)
      case an51 => kernel_rfl
      case bn51 => kernel_rfl
      case cn51 => kernel_rfl
      case qn51 => exact fun _ _ _ h => h
      case dn51 => rfl
      case hyn51 => (intro z hSw; (try dsimp only at hSw); go_simp; (try with_reducible rfl))
      try simp only [Act.put, List.setIfInBounds_toArray, List.set_cons_zero, List.set_cons_succ]
      refine wpAnyH_take (i := 25) (oi := ?on52) (v := ?vn52) ?hin52 ?an52 ?bn52 ?cn52 ?qn52 (Or.inl ⟨?dn52, ?hyn52⟩) hHeld ?restn52
      case hin52 => (simp only [List.getElem?_toArray, List.getElem?_cons_succ, List.getElem?_cons_zero]; exact rfl)
      case an52 => kernel_rfl
      case bn52 => kernel_rfl
      case cn52 => kernel_rfl
      case qn52 => exact fun _ _ _ h => h
      case dn52 => rfl
      case hyn52 => (intro z hSw; (try dsimp only at hSw); go_simp; (try with_reducible rfl))
      try simp only [Act.put, List.setIfInBounds_toArray, List.set_cons_zero, List.set_cons_succ]
      refine wpAnyH_done (by kernel_rfl) ?_ _
      go_wp2_with fail
      go_ret
      exact ⟨rfl, HF4.out.trans f7⟩
  exact walk _ rfl
end Go.Proofs.YtefkgomecpnpbaaGreat

/- tries of the decider: a stuck sequent. -/
namespace Go.Proofs.YtefkgomecpnpbaaGreat
open Go.RowKit
open Fm (Tree)

/-- A part of a disjunction gives it. -/
noncomputable def orB (L : List Tree) : Tree → Bool
  | .or x y => dc (EntL L x) || dc (EntL L y)
  | _ => false
noncomputable def triesB (L : List Tree) (c : Tree) : Bool := orB L c || L.any (wayT L c)
theorem orB_or (L : List Tree) (x y : Tree) : orB L (.or x y) = (dc (EntL L x) || dc (EntL L y)) := rfl

theorem tries_law {L : List Tree} {c : Tree} (hS : OkS L c) (hst : StuckN L L.length) (hc : hasL L c = false) (hk : (∃ v, c = .var v) ∨ c = .fls ∨ ∃ x y, c = .or x y) : triesB L c = dc (EntL L c) := by
  cases hb : triesB L c with
  | true =>
    symm
    unfold triesB at hb
    rw [Bool.or_eq_true] at hb
    rcases hb with hb | hb
    · rcases hk with ⟨v, rfl⟩ | rfl | ⟨x, y, rfl⟩
      · cases hb
      · cases hb
      · rw [orB_or, Bool.or_eq_true] at hb
        obtain ⟨_, _, h1, h2⟩ := mv_r_or hS
        exact hb.elim h1 h2
    · obtain ⟨t, ht, hw⟩ := List.any_eq_true.1 hb
      cases t with
      | imp a z =>
        cases a with
        | imp x y =>
          rw [wayT_ii, Bool.and_eq_true] at hw
          obtain ⟨_, _, hz, _, hyz⟩ := fmOk_imp_imp (hS.1 _ ht)
          obtain ⟨P, hP⟩ := ins_ex hS.1 (.imp (.imp x y) z) [.imp y z] (ok_one hyz)
          obtain ⟨Q, hQ⟩ := ins_ex hS.1 (.imp (.imp x y) z) [z] (ok_one hz)
          have h3 := (mv_ii hS ht hP hQ).2.2
          rw [← ins_dc hP, ← ins_dc hQ] at hw
          exact dc_true (h3 (of_dc hw.1) (of_dc hw.2))
        | _ => cases hw
      | _ => cases hw
  | false =>
    symm
    unfold triesB at hb
    rw [Bool.or_eq_false_iff] at hb
    refine waysP_fail hst hc ?_ ?_ (fun t K _ hK => ins_ex hS.1 t K hK) hS.1
    · rcases hk with ⟨v, rfl⟩ | rfl | ⟨x, y, rfl⟩
      · exact .inl ⟨v, rfl⟩
      · exact .inr (.inl rfl)
      · have := hb.1
        rw [orB_or, Bool.or_eq_false_iff] at this
        exact .inr (.inr ⟨x, y, rfl, this.1, this.2⟩)
    · intro i _ x y z hi P Q hP hQ
      have := (List.any_eq_false.1 hb.2) _ (List.mem_of_getElem? hi)
      rw [wayT_ii, ← ins_dc hP, ← ins_dc hQ] at this
      simpa using this

theorem Boxes.mk' {w : World} {D M bd bg : Nat} {v : Value} {r : ByteArray} (hM : Memo w M) (h1 : w.cell? ⟨bd, 0, none⟩ = some (.pointer (some ⟨D, 0, none⟩))) (h2 : w.cell? ⟨bg, 0, none⟩ = some v) (h3 : w.cell? ⟨bg, 1, none⟩ = some (.string r)) (hd : bd < w.heap.size) (hg : bg < w.heap.size) : Boxes w D M bd bg v r :=
  ⟨fun _ hV => hV.cell hM h1 hd, fun _ hV => hV.cell hM h2 hg, fun _ hV => hV.cell hM h3 hg⟩

set_option maxHeartbeats 4000000 in
theorem tries_c (D M : Nat) (v vc : Value) (L : List Tree) (c : Tree) (w : World) (hD : Dec w D M) (h : TL w v L) (hvc : Nodes w vc (Fm.enc c)) (hS : OkS L c) (hP : PrOk D M (mu L c)) :
    Calls Tryz.prog 125 #[.pointer (some ⟨D, 0, none⟩), .agg #[v, .string (tx c)], vc] w (Decides w D M (triesB L c)) := by
  have HC := Lib.hid hvc
  have HS := Lib.hid hS
  have HD := Lib.hid hD
  have e1 : ∀ args w, (callFunc 138 args).run Tryz.prog w = .ok (.enter 138 args) w := enters_of Tryz.func138 (by kernel_rfl) rfl
  have e2 : ∀ args w, (callFunc 139 args).run Tryz.prog w = .ok (.enter 139 args) w := enters_of Tryz.func139 (by kernel_rfl) rfl
  have g1 := (Grew.refl w).alloc (.cells #[.pointer (some ⟨D, 0, none⟩)] 69)
  have hs1 : (w.alloc (.cells #[.pointer (some ⟨D, 0, none⟩)] 69)).heap.size = w.heap.size + 1 := by simp
  have hg2 := Lib.hid (g1.alloc (.cells #[v, .string (tx c)] 90))
  have hB : Boxes ((w.alloc (.cells #[.pointer (some ⟨D, 0, none⟩)] 69)).alloc (.cells #[v, .string (tx c)] 90)) D M w.heap.size (w.heap.size + 1) v (tx c) := by
    have hbg := BoxG.new (w.alloc (.cells #[.pointer (some ⟨D, 0, none⟩)] 69)) v (tx c) 90
    rw [hs1] at hbg
    refine Boxes.mk' (hD.grew hg2.out).memo ?_ hbg.c0 hbg.c1 (by simp <;> omega) hbg.lt
    exact (((Grew.refl _).alloc _).cell (p := ⟨w.heap.size, 0, none⟩) (by simp)).trans (by simp)
  obtain ⟨Av, nv, cv, rfl⟩ := h.slice
  obtain ⟨bx, ox, nx, cx, rfl, hnx, hnxe, hkx⟩ := head_t hvc
  have hnnx : (0 : Int) < (nx : Int) := by omega
  have k0 := hkx _ hg2.out
  have hD2 := hD.grew hg2.out
  have h2 := h.grew hg2.out
  have HF2 := Lib.hid (DF.of_grew hD hg2.out)
  have HVC2 := Lib.hid (hvc.grew hg2.out)
  clear h hvc hkx hnxe g1 hD
  have goT : ∀ W, DF ((w.alloc (.cells #[.pointer (some ⟨D, 0, none⟩)] 69)).alloc (.cells #[.slice Av nv cv, .string (tx c)] 90)) D M W →
      Calls Tryz.prog 137 #[.slice Av nv cv, .func (.func 139) #[] #[.pointer (some ⟨w.heap.size, 0, none⟩), .pointer (some ⟨w.heap.size + 1, 0, none⟩)]] W (Decides W D M (L.any (wayT L c))) := fun W hW =>
    containsFuncX_c D M _ L _ _ (wayT L c) W hW.dec (h2.df hD2 hW) (fun V hV t ht => tries2_c D M _ _ _ L c t V hV.dec (h2.df hD2 (hW.trans hV)) (hB.df (hW.trans hV)) hS ht hP) e2
  have HG := Lib.hid goT
  have goO : ∀ n p W vp K, (∀ t ∈ K, OkS L t ∧ mu L t < n) → PrOk D M n → p = K → TL W vp K → DF ((w.alloc (.cells #[.pointer (some ⟨D, 0, none⟩)] 69)).alloc (.cells #[.slice Av nv cv, .string (tx c)] 90)) D M W →
      Calls Tryz.prog 137 #[vp, .func (.func 138) #[] #[.pointer (some ⟨w.heap.size, 0, none⟩), .pointer (some ⟨w.heap.size + 1, 0, none⟩)]] W (Decides W D M (K.any fun t => dc (EntL L t))) := fun n p W vp K hK hPn _ hv hW =>
    containsFuncX_c D M _ K _ _ (fun t => dc (EntL L t)) W hW.dec hv (fun V hV t ht => tries1_c D M _ _ n _ _ L t V hV.dec (h2.df hD2 (hW.trans hV)) (hB.df (hW.trans hV)) (hK t ht).1 (hK t ht).2 hPn) e1
  have HO := Lib.hid goO
  have HPr := Lib.hid hP
  have HB := Lib.hid hB
  clear goT goO hP hB h2 hD2 e1 e2
  unfold Decides triesB
  by_cases hi : ∃ x y, c = .or x y
  case neg =>
    have hk : orB L c = false := by
      cases c with
      | or p q => exact absurd ⟨p, q, rfl⟩ hi
      | _ => rfl
    have hk4 : kindOf c ≠ 3 := by
      intro h
      cases c with
      | or p q => exact hi ⟨p, q, rfl⟩
      | _ => simp [kindOf] at h
    rw [hk]
    clear hi hk HO HC HVC2 hS HS HPr
    have g0 := HB.out.g0 _ (DF.refl HF2.out.dec)
    unfold Decides at HG
    generalize L.any (wayT L c) = R at *
    generalize tx c = tc at *
    generalize kindOf c = k at *
    go_enter Tryz.func125, Tryz.ntmps125
    go_wp2_with fail
    refine (HG.out _ (DF.refl HF2.out.dec)).mono ?_
    rintro e w3 ⟨rfl, h3⟩
    go_wp2_with fail
    go_ret
    exact ⟨rfl, HF2.out.trans h3⟩
  obtain ⟨x, y, rfl⟩ := hi
  rw [orB_or]
  have KP := Lib.hid (partTexts_two _ _ x y _ HVC2.out (HS.out.2.1).1 (two_or x y) (.inr (.inl rfl)))
  have hm := mv_r_or hS
  have KO := Lib.hid (fun W vp hv hW => HO.out (mu L (.or x y)) [x, y] W vp [x, y] (fun t ht => by
    rcases List.mem_cons.1 ht with rfl | ht
    · exact hm.1
    · rw [List.mem_singleton] at ht; rw [ht]; exact hm.2.1) HPr.out rfl hv hW)
  have hany : ([x, y].any fun t => dc (EntL L t)) = (dc (EntL L x) || dc (EntL L y)) := by simp
  rw [hany] at KO
  have HB0 := Lib.hid HB.out.g0
  simp only [kindOf] at k0
  clear hm hany HO HC HVC2 hS HS HPr HB
  unfold Decides at HG KO
  generalize L.any (wayT L (.or x y)) = R at *
  generalize (dc (EntL L x) || dc (EntL L y)) = R2 at *
  generalize tx (.or x y) = tc at *
  go_enter Tryz.func125, Tryz.ntmps125
  go_wp2_with fail
  refine (KP.out).mono ?_
  rintro e w3 ⟨vp, rfl, hvp, hg3⟩
  have h3 := DF.of_grew HF2.out.dec hg3
  have hvp' : TL w3 vp [x, y] := hvp.strs
  have HKO := Lib.hid (KO.out _ vp hvp' h3)
  obtain ⟨Ap, np, cp, rfl⟩ := hvp'.slice
  clear hvp hvp' KO KP
  go_wp2_with fail
  refine (HKO.out).mono ?_
  rintro e w4 ⟨rfl, h4⟩
  have h24 := h3.trans h4
  cases R2 with
  | true =>
    go_wp2_with fail
    go_ret
    exact ⟨rfl, HF2.out.trans h24⟩
  | false =>
    have g0 := HB0.out _ h24
    go_wp2_with fail
    refine (HG.out _ h24).mono ?_
    rintro e w5 ⟨rfl, h5⟩
    go_wp2_with fail
    go_ret
    exact ⟨rfl, HF2.out.trans (h24.trans h5)⟩
end Go.Proofs.YtefkgomecpnpbaaGreat

/- decide of the decider, where proves is right for what is smaller. -/
namespace Go.Proofs.YtefkgomecpnpbaaGreat
open Go.RowKit
open Fm (Tree)

/-- The right side is an implication. -/
theorem mvP_r_imp {L : List Tree} {x y : Tree} (hS : OkS L (.imp x y)) {P : List Tree} (h : PutOf (L ++ [x]) P) : Mv L (.imp x y) P y ∧ dc (EntL L (.imp x y)) = dc (EntL P y) := by
  have a4 := h.tot f4
  have a2 := h.tot f2
  rw [tot_app, tot_one] at a4 a2
  have b4 := f4_imp x y
  have b2 := f2_imp x y
  refine ⟨mv_mk hS h.ok (fmOk_imp hS.2.1).2 (by omega) (by omega), dc_congr (el_r_imp fun b => ?_)⟩
  rw [h.mem, List.mem_append, List.mem_singleton]
/-- No formula of the left side is taken apart: the parts of a text that has none or two. -/
theorem partTexts_any (v : Value) (c : Tree) (w : World) (h : Nodes w v (Fm.enc c)) (hc : FmOk c) : Calls Tryz.prog 120 #[v] w fun e w' => ∃ A n k, e = .returned (.slice A n k) ∧ Grew w w' := by
  have two : ∀ x y, TwoF c x y → (kindOf c = 2 ∨ kindOf c = 3 ∨ kindOf c = 4) → Calls Tryz.prog 120 #[v] w fun e w' => ∃ A n k, e = .returned (.slice A n k) ∧ Grew w w' := fun x y h2 hk => by
    refine (partTexts_two v c x y w h hc.1 h2 hk).mono ?_
    rintro e w' ⟨u, rfl, hu, hg⟩
    obtain ⟨A, k, rfl⟩ := strs_slice hu.strs
    exact ⟨_, _, _, rfl, hg⟩
  have none' : (kindOf c = 0 ∨ kindOf c = 1) → Calls Tryz.prog 120 #[v] w fun e w' => ∃ A n k, e = .returned (.slice A n k) ∧ Grew w w' := fun hk => by
    refine (partTexts_none v c w h hk).mono ?_
    rintro e w' ⟨rfl, hg⟩
    exact ⟨_, _, _, rfl, hg⟩
  rcases fm_five hc with ⟨x, rfl⟩ | rfl | ⟨x, y, rfl⟩ | ⟨x, y, rfl⟩ | ⟨x, y, rfl⟩
  · exact none' (.inl rfl)
  · exact none' (.inr rfl)
  · exact two x y (two_and x y) (.inl rfl)
  · exact two x y (two_or x y) (.inr (.inl rfl))
  · exact two x y (two_imp x y) (.inr (.inr rfl))

theorem cell_ltD {w : World} {b o : Nat} {u : Value} (h : w.cell? ⟨b, o, none⟩ = some u) : b < w.heap.size := by
  rcases Nat.lt_or_ge b w.heap.size with hb | hb
  · exact hb
  · simp [World.cell?, Array.getElem?_eq_none hb] at h
theorem df_cell {w : World} {D M b o : Nat} {u : Value} (hD : Dec w D M) (h : ∀ W, Grew w W → W.cell? ⟨b, o, none⟩ = some u) : ∀ W, DF w D M W → W.cell? ⟨b, o, none⟩ = some u := fun _ hW => hW.cell hD.memo (h _ (Grew.refl _)) (cell_ltD (h _ (Grew.refl _)))

set_option maxHeartbeats 4000000 in
theorem decide_c (D M : Nat) (v : Value) (L : List Tree) (c : Tree) (w : World) (hD : Dec w D M) (h : TL w v L) (hS : OkS L c) (hP : PrOk D M (mu L c)) :
    Calls Tryz.prog 109 #[.pointer (some ⟨D, 0, none⟩), .agg #[v, .string (tx c)]] w (Decides w D M (dc (EntL L c))) := by
  have HS := Lib.hid hS
  have HD := Lib.hid hD
  have HP := Lib.hid hP
  have HL := Lib.hid h
  have hn : L.length ≤ 1048576 := Nat.le_trans (len_nu L c) hS.2.2
  have hok : FmOk .fls := ⟨by show (1 : Nat) ≤ 40; omega, anyP_no (fun i hi => by
    have h1 : i < 1 := hi
    obtain rfl : i = 0 := by omega
    rfl)⟩
  have hFt : tx .fls = ⟨#[70]⟩ := rfl
  have KC := Lib.hid (fun W (hW : Grew w W) => contains_t v L c W (h.grew hW) hS.1 hS.2.1 (by omega))
  have KF := Lib.hid (fun W (hW : Grew w W) => contains_t v L .fls W (h.grew hW) hS.1 hok (by omega))
  rw [hFt] at KF
  have KT := Lib.hid (fun W => treeOf_c c W hS.2.1)
  have hcm := Lib.hid (fun hc => dc_true (el_mem (hasL_true.1 hc)) : hasL L c = true → dc (EntL L c) = true)
  have hcf := Lib.hid (fun hc => dc_true (el_fls (hasL_true.1 hc)) : hasL L .fls = true → dc (EntL L c) = true)
  obtain ⟨Av, nv, cv, rfl⟩ := h.slice
  have hal := Lib.hid ((Grew.refl w).alloc (.cells #[.slice Av nv cv, .string (tx c)] 90))
  have hbg := BoxG.new w (.slice Av nv cv) (tx c) 90
  have b0 := hbg.at0
  have b1 := hbg.at1
  have r1 := Grew.refl (w.alloc (.cells #[.slice Av nv cv, .string (tx c)] 90))
  clear hD h hS hP hbg
  unfold Decides
  have hseq : ∃ hq1, hasL L c = hq1 := ⟨_, rfl⟩
  obtain ⟨hq1, hq1e⟩ := hseq
  have hseq : ∃ hq2, hasL L .fls = hq2 := ⟨_, rfl⟩
  obtain ⟨hq2, hq2e⟩ := hseq
  have HQ1 := Lib.hid hq1e
  have HQ2 := Lib.hid hq2e
  rw [hq1e] at KC hcm
  rw [hq2e] at KF hcf
  clear hq1e hq2e
  cases hq1 with
  | true =>
    rw [hcm.out rfl]
    generalize tx c = tc at *
    go_enter Tryz.func109, Tryz.ntmps109
    go_wp2_with fail
    generalize w.alloc (.cells #[.slice Av nv cv, .string tc] 90) = w1 at *
    refine (KC.out _ hal.out).mono ?_
    rintro e w2 ⟨rfl, hg2⟩
    go_wp2_with fail
    go_ret
    exact ⟨rfl, DF.of_grew HD.out (hal.out.trans hg2)⟩
  | false =>
  cases hq2 with
  | true =>
    rw [hcf.out rfl]
    generalize tx c = tc at *
    go_enter Tryz.func109, Tryz.ntmps109
    go_wp2_with fail
    generalize w.alloc (.cells #[.slice Av nv cv, .string tc] 90) = w1 at *
    refine (KC.out _ hal.out).mono ?_
    rintro e w2 ⟨rfl, hg2⟩
    have q0 := b0 _ hg2
    go_wp2_with fail
    refine (KF.out _ (hal.out.trans hg2)).mono ?_
    rintro e w3 ⟨rfl, hg3⟩
    go_wp2_with fail
    go_ret
    exact ⟨rfl, DF.of_grew HD.out ((hal.out.trans hg2).trans hg3)⟩
  | false =>
  have KPA := Lib.hid (fun va W (hva : Nodes W va (Fm.enc c)) => partTexts_any va c W hva HS.out.2.1)
  by_cases hand : ∃ x y, c = .and x y
  · obtain ⟨x, y, rfl⟩ := hand
    have hm := mv_r_and HS.out
    obtain ⟨hfx, hfy⟩ := fmOk_and HS.out.2.1
    have KP := Lib.hid (fun va W (hva : Nodes W va (Fm.enc (.and x y))) => partTexts_two va _ x y W hva HS.out.2.1.1 (two_and x y) (.inl rfl))
    have KA := Lib.hid (fun va W (hW : Dec W D M) (hv : Gls W va [(L, x), (L, y)]) => all_c D M (mu L (.and x y)) va [(L, x), (L, y)] W hW hv HP.out (fun p hp => by
      rcases List.mem_cons.1 hp with rfl | hp
      · exact hm.1
      · rw [List.mem_singleton] at hp; rw [hp]; exact hm.2.1))
    have hal2 : allGl [(L, x), (L, y)] = dc (EntL L (.and x y)) := by rw [hm.2.2]; simp [allGl]
    rw [hal2] at KA
    clear hm hal2 hcm hcf
    unfold Decides at KA
    generalize dc (EntL L (.and x y)) = R at *
    have HTx := Lib.hid (Eq.refl (tx (.and x y)))
    generalize tx (.and x y) = tc at *
    go_enter Tryz.func109, Tryz.ntmps109
    go_wp2_with fail
    generalize w.alloc (.cells #[.slice Av nv cv, .string tc] 90) = w1 at *
    refine (KC.out _ hal.out).mono ?_
    rintro e w2 ⟨rfl, hg2⟩
    have q0 := b0 _ hg2
    go_wp2_with fail
    refine (KF.out _ (hal.out.trans hg2)).mono ?_
    rintro e w3 ⟨rfl, hg3⟩
    have hg13 := hg2.trans hg3
    have q1 := b1 _ hg13
    go_wp2_with fail
    refine (KT.out _).mono ?_
    rintro e w4 ⟨vc, rfl, hvc, hg4⟩
    have hg14 := hg13.trans hg4
    have HVC := Lib.hid hvc
    obtain ⟨bx, ox, nx, cx, rfl, hnx, hnxe, hkx⟩ := head_t hvc
    have hnnx : (0 : Int) < (nx : Int) := by omega
    clear hvc hnxe
    go_wp2_with fail
    refine (KP.out _ _ HVC.out).mono ?_
    rintro e w5 ⟨vp, rfl, hvp, hg5⟩
    have hg15 := hg14.trans hg5
    have g5 := hal.out.trans hg15
    have k0 := hkx _ hg5
    simp only [kindOf] at k0
    obtain ⟨b2, o2, c2, rfl, hc2, hm2, z0, z1⟩ := TL.open2 (show TL w5 vp [x, y] from hvp.strs)
    have i1 : (1 : Int) < (2 : Int) := by omega
    have i0 : (0 : Int) < (2 : Int) := by omega
    have hD5 := HD.out.grew g5
    have s0 := df_cell hD5 (fun W hW => b0 W (hg15.trans hW))
    have s1 := df_cell hD5 (fun W hW => b1 W (hg15.trans hW))
    have y0 := df_cell hD5 z0
    have y1 := df_cell hD5 z1
    have d5 := (DF.refl hD5).drew
    have e5 := (Grew.refl w5).drew
    have HF5 := Lib.hid (DF.of_grew HD.out g5)
    have HL5 := Lib.hid (HL.out.grew g5)
    clear b0 b1 hkx hvp z0 z1
    go_wp2_with fail
    go_region_held3 (fun w' => DF w5 D M w') (first | with_reducible assumption | exact DF.alloc ‹_› _)
      (first
       | (go_at_call 121; have hz := h7; refine (KA.out _ _ (h7.alloc _).dec (Gls.two (p := (L, x)) (q := (L, y)) (HL5.out.grew k7) (HL5.out.grew k7))).mono ?_; rintro e w8 ⟨rfl, h8'⟩; have h8 := (h7.alloc _).trans h8')
       | (go_at_call 122; have hz := h6; refine (proving_c Av nv cv tc (tx y) _).mono ?_; rintro e w7 ⟨rfl, hg7⟩; have h7 := h6.grew hg7; have k7 := k6.trans hg7)
       | (go_at_call 122; refine (proving_c Av nv cv tc (tx x) _).mono ?_; rintro e w6 ⟨rfl, hg6⟩; have h6 := d5.grew hg6; have k6 := e5.trans hg6))
    go_wp2_with fail
    go_ret
    exact ⟨rfl, HF5.out.trans h8⟩
  by_cases himp : ∃ x y, c = .imp x y
  · obtain ⟨x, y, rfl⟩ := himp
    obtain ⟨hfx, hfy⟩ := fmOk_imp HS.out.2.1
    have KP := Lib.hid (fun va W (hva : Nodes W va (Fm.enc (.imp x y))) => partTexts_two va _ x y W hva HS.out.2.1.1 (two_imp x y) (.inr (.inr rfl)))
    have KW := Lib.hid (fun vt W (hW : Grew w W) (hv : TL W vt [x]) => with_c _ vt L [x] (tx (.imp x y)) W (HL.out.grew hW) hv HS.out.1 (ok_one hfx) (by simp; omega))
    have KA := Lib.hid (fun P u W (hP : PutOf (L ++ [x]) P) (hW : Dec W D M) (hv : TL W u P) => by
      have hm := mvP_r_imp HS.out hP
      have := HP.out P y u W hm.1.1 hm.1.2 hW hv
      rw [← hm.2] at this
      exact this)
    clear hcm hcf hand KPA
    unfold Decides at KA
    generalize dc (EntL L (.imp x y)) = R at *
    generalize tx (.imp x y) = tc at *
    go_enter Tryz.func109, Tryz.ntmps109
    go_wp2_with fail
    generalize w.alloc (.cells #[.slice Av nv cv, .string tc] 90) = w1 at *
    refine (KC.out _ hal.out).mono ?_
    rintro e w2 ⟨rfl, hg2⟩
    have q0 := b0 _ hg2
    go_wp2_with fail
    refine (KF.out _ (hal.out.trans hg2)).mono ?_
    rintro e w3 ⟨rfl, hg3⟩
    have hg13 := hg2.trans hg3
    have q1 := b1 _ hg13
    go_wp2_with fail
    refine (KT.out _).mono ?_
    rintro e w4 ⟨vc, rfl, hvc, hg4⟩
    have hg14 := hg13.trans hg4
    have HVC := Lib.hid hvc
    obtain ⟨bx, ox, nx, cx, rfl, hnx, hnxe, hkx⟩ := head_t hvc
    have hnnx : (0 : Int) < (nx : Int) := by omega
    clear hvc hnxe
    go_wp2_with fail
    refine (KP.out _ _ HVC.out).mono ?_
    rintro e w5 ⟨vp, rfl, hvp, hg5⟩
    have hg15 := hg14.trans hg5
    have g5 := hal.out.trans hg15
    have k0 := hkx _ hg5
    simp only [kindOf] at k0
    obtain ⟨b2, o2, c2, rfl, hc2, hm2, z0, z1⟩ := TL.open2 (show TL w5 vp [x, y] from hvp.strs)
    have i1 : (1 : Int) < (2 : Int) := by omega
    have i0 : (0 : Int) < (2 : Int) := by omega
    have hD5 := HD.out.grew g5
    have s0 := df_cell hD5 (fun W hW => b0 W (hg15.trans hW))
    have s1 := df_cell hD5 (fun W hW => b1 W (hg15.trans hW))
    have y0 := df_cell hD5 z0
    have y1 := df_cell hD5 z1
    have d5 := (DF.refl hD5).drew
    have e5 := g5.drew
    have HF5 := Lib.hid (DF.of_grew HD.out g5)
    clear b0 b1 hkx hvp z0 z1
    go_wp2_with fail
    go_region_held3 (fun w' => DF w5 D M w') (first | with_reducible assumption | exact DF.alloc ‹_› _)
      (first
       | (go_at_call 87; have hz := h7; refine (KA.out P _ _ hP h7.dec hu7).mono ?_; rintro e w8 ⟨rfl, h8'⟩; have h8 := h7.trans h8')
       | (go_at_call 122; have hz := h6; refine (proving_c Au nu' cu tc (tx y) _).mono ?_; rintro e w7 ⟨rfl, hg7⟩; have h7 := h6.grew hg7; have hu7 := hu.grew hg7)
       | (go_at_call 123; refine (KW.out _ _ (e5.alloc _) TL.one).mono ?_; rintro e w6 ⟨u, P, rfl, hP, hu, hg6⟩; have h6 := (d5.alloc _).grew hg6; obtain ⟨Au, nu', cu, rfl⟩ := hu.slice))
    go_wp2_with fail
    go_ret
    exact ⟨rfl, HF5.out.trans h8⟩
  have hk2 : kindOf c ≠ 2 := fun h => by
    cases c with
    | and p q => exact hand ⟨p, q, rfl⟩
    | _ => simp [kindOf] at h
  have hk4 : kindOf c ≠ 4 := fun h => by
    cases c with
    | imp p q => exact himp ⟨p, q, rfl⟩
    | _ => simp [kindOf] at h
  have hkind : (∃ v, c = .var v) ∨ c = .fls ∨ ∃ x y, c = .or x y := by
    rcases fm_five HS.out.2.1 with h | h | h | h | h
    · exact .inl h
    · exact .inr (.inl h)
    · exact absurd h hand
    · exact .inr (.inr h)
    · exact absurd h himp
  have KY := Lib.hid (fun va W (hW : Grew w W) (hv : Nodes W va (Fm.enc c)) (hst : StuckN L L.length) => by
    have := tries_c D M _ va L c W (HD.out.grew hW) (HL.out.grew hW) hv HS.out HP.out
    rw [tries_law HS.out hst HQ1.out hkind] at this
    exact this)
  have KK := Lib.hid (fun t va W (hW : Grew w W) (ht : t ∈ L) (ha : Nodes W va (Fm.enc t)) => taken_c _ va L c t W HS.out ht HQ2.out (HL.out.grew hW) ha)
  have KA := Lib.hid (fun t ps va W (hT : Taken L c t ps true) (hW : Dec W D M) (hv : Gls W va ps) => by
    have := all_c D M (mu L c) va ps W hW hv HP.out (fun p hp => (hT.1 rfl).1 p hp)
    rw [← (hT.1 rfl).2] at this
    exact this)
  have KTt := Lib.hid (fun t W (ht : t ∈ L) => treeOf_c t W (HS.out.1 t ht))
  have HSt := Lib.hid (fun j (hj : j < L.length) => (⟨L[j], List.getElem?_eq_getElem hj, List.getElem_mem hj⟩ : ∃ t, L[j]? = some t ∧ t ∈ L))
  obtain ⟨_, hcl, hrd⟩ := HL.out
  unfold Decides at KY KA
  clear hcm hcf hand himp hkind
  generalize dc (EntL L c) = R at *
  generalize tx c = tc at *
  have hb2 : (kindOf c == 2) = false := by simpa using hk2
  have hb4 : (kindOf c == 4) = false := by simpa using hk4
  clear hk2 hk4
  have hnv : nv = L.length := by
    rcases hrd with ⟨hv, h0⟩ | ⟨b, o, c', hv, _⟩
    · simp at hv h0
      rw [h0, hv.2.1]; rfl
    · simp at hv
      exact hv.2.1
  subst hnv
  have HRd := Lib.hid hrd
  have HTc := Lib.hid (fun (j : Nat) t (hj : L[j]? = some t) => (show (scells (L.map tx))[j]? = some (Value.string (tx t)) by simp [scells, hj]))
  have HS0 := Lib.hid (fun (j : Nat) t (h : StuckN L j) (hj : L[j]? = some t) (ha : StuckL L t) => h.succ hj ha)
  have hmax : L.length ≤ 9223372036854775807 := by omega
  have HZ := Lib.hid (fun (h0 : (L.map tx).length = 0) => (by simpa using h0 : L.length = 0))
  clear hrd hcl
  go_enter Tryz.func109, Tryz.ntmps109
  go_wp2_with fail
  generalize w.alloc (.cells #[.slice Av L.length cv, .string tc] 90) = w1 at *
  refine (KC.out _ hal.out).mono ?_
  rintro e w2 ⟨rfl, hg2⟩
  have q0 := b0 _ hg2
  go_wp2_with fail
  refine (KF.out _ (hal.out.trans hg2)).mono ?_
  rintro e w3 ⟨rfl, hg3⟩
  have hg13 := hg2.trans hg3
  have q1 := b1 _ hg13
  go_wp2_with fail
  refine (KT.out _).mono ?_
  rintro e w4 ⟨vc, rfl, hvc, hg4⟩
  have hg14 := hg13.trans hg4
  have HVC := Lib.hid hvc
  obtain ⟨bx, ox, nx, cx, rfl, hnx, hnxe, hkx⟩ := head_t hvc
  have hnnx : (0 : Int) < (nx : Int) := by omega
  clear hvc hnxe
  go_wp2_with fail
  refine (KPA.out _ _ HVC.out).mono ?_
  rintro e w5 ⟨Ap, np, cp, rfl, hg5⟩
  have hg15 := hg14.trans hg5
  have k0 := hkx _ hg5
  generalize kindOf c = kc at *
  have q2 := b0 _ hg15
  have HVC5 := Lib.hid (HVC.out.grew hg5)
  clear hkx q0 q1
  go_wp2_with fail
  go_loopw [62] (fun i wr => ∃ j : Nat, j ≤ L.length ∧ i = .int .i64 j ∧ Hid (Grew w5 wr) ∧ Hid (StuckN L j)) (fun i _ => L.length - (intOf i).toNat)
  case atStart => exact ⟨0, Nat.zero_le _, rfl, Grew.refl _, StuckN.zero _⟩
  case round =>
    obtain ⟨j, hj, rfl, hB, HJ⟩ := hrel
    have h1r := hg15.trans hB.out
    by_cases hlt : j < L.length
    · obtain ⟨t, hjt, htL⟩ := HSt.out j hlt
      rcases HRd.out with ⟨_, h0⟩ | ⟨b, o, c', hv, h4, h5, h6, hcell⟩
      · have := HZ.out h0; omega
      obtain ⟨rfl, -⟩ : Av = some ⟨b, o, none⟩ ∧ _ := by simpa using hv
      have k1 := ((hal.out.trans h1r).cell (p := ⟨b, o + j, none⟩) h6).trans (hcell j _ (HTc.out j t hjt))
      have hS1 := Lib.hid (fun ha => HS0.out j t HJ.out hjt ha)
      have HtL := Lib.hid htL
      have d1 := h1r.drew
      have dB := Lib.hid hB.out.drew
      clear hcell hv h4 h5 h6 hjt htL
      go_wp2_with fail
      go_region_held3 (fun w' => Grew w1 w') (first | with_reducible assumption)
        (first
         | (go_at_call 124; refine (KK.out t _ _ (hal.out.trans h18) HtL.out hva).mono ?_; rintro e w9 ⟨u, ps, ok, rfl, hT, hgl, hg9⟩; have h19 := h18.trans hg9; have hB9 := Lib.hid ((dB.out.trans hg8).trans hg9))
         | (go_at_call 119; refine (KTt.out t _ HtL.out).mono ?_; rintro e w8 ⟨va, rfl, hva, hg8⟩; have h18 := d1.trans hg8; obtain ⟨Aa, na, ca, rfl⟩ := slice3 hva))
      cases ok with
      | true =>
        have HT := Lib.hid hT
        clear hT
        go_wp2_with fail
        refine (KA.out t ps u _ HT.out (HD.out.grew (hal.out.trans h19)) hgl).mono ?_
        rintro e w10 ⟨rfl, h10⟩
        go_wp2_with fail
        go_ret
        exact ⟨rfl, (DF.of_grew HD.out (hal.out.trans h19)).trans h10⟩
      | false =>
        have hs := Lib.hid (hS1.out (hT.2 rfl))
        clear hT
        go_wp2_with fail
        go_roundw
        case rel => exact ⟨j + 1, by omega, by go_num, hB9, hs⟩
        case measure => simp [intOf]; omega
    · obtain rfl : j = L.length := by omega
      have p0 := b0 _ h1r
      have p1 := b1 _ h1r
      go_wp2_with fail
      refine (KY.out _ _ (hal.out.trans h1r) (HVC5.out.grew hB.out) HJ.out).mono ?_
      rintro e w10 ⟨rfl, h10⟩
      go_wp2_with fail
      go_ret
      exact ⟨rfl, (DF.of_grew HD.out (hal.out.trans h1r)).trans h10⟩
end Go.Proofs.YtefkgomecpnpbaaGreat

/- provable of the program: the decision. -/
namespace Go.Proofs.YtefkgomecpnpbaaGreat
open Go.RowKit
open Fm (Tree)

theorem PrOk.less {D M m n : Nat} (h : PrOk D M n) (hm : m ≤ n) : PrOk D M m := fun L c v W hS hn hD hT => h L c v W hS (by omega) hD hT
theorem prOk_all (D M : Nat) : ∀ n, PrOk D M n
  | 0 => fun L c v W hS hn hD hT => absurd hn (by omega)
  | n + 1 => fun L c v W hS hn hD hT =>
    proves_of D M L c v W hS hD hT fun V hV => decide_c D M v L c V hV.dec (hT.df hD hV) hS ((prOk_all D M n).less (by omega))
theorem proves_c (D M : Nat) (L : List Tree) (c : Tree) (v : Value) (w : World) (hS : OkS L c) (hD : Dec w D M) (h : TL w v L) :
    Calls Tryz.prog 87 #[.pointer (some ⟨D, 0, none⟩), .agg #[v, .string (tx c)]] w (Decides w D M (dc (EntL L c))) :=
  prOk_all D M (mu L c + 1) L c v w hS (by omega) hD h

theorem newDecider_c (w : World) : Calls Tryz.prog 63 #[] w fun e w' => ∃ D M, e = .returned (.pointer (some ⟨D, 0, none⟩)) ∧ Dec w' D M ∧ w.heap.size ≤ M ∧ Grew w w' := by
  have hs1 : (w.alloc (.map #[] 0)).heap.size = w.heap.size + 1 := by simp
  have hM := (Memo.new w).grew ((Grew.refl _).alloc (.cells #[.map (some w.heap.size)] 86))
  have hc : ((w.alloc (.map #[] 0)).alloc (.cells #[.map (some w.heap.size)] 86)).cell? ⟨w.heap.size + 1, 0, none⟩ = some (.map (some w.heap.size)) := by
    have h := blk_cell (blk_new (w.alloc (.map #[] 0)) (.cells #[.map (some w.heap.size)] 86)) 0
    rw [hs1] at h
    exact h
  have HD : Hid (Dec ((w.alloc (.map #[] 0)).alloc (.cells #[.map (some w.heap.size)] 86)) (w.heap.size + 1) w.heap.size) := Lib.hid ⟨by simp, hc, hM⟩
  have hg := Lib.hid (((Grew.refl w).alloc (.map #[] 0)).alloc (.cells #[.map (some w.heap.size)] 86))
  clear hM hc
  have hmm := @run_makeMap Tryz.prog
  go_enter Tryz.func63, Tryz.ntmps63
  go_wp2_with fail
  go_ret
  exact ⟨_, _, rfl, HD.out, Nat.le_refl _, hg.out⟩

theorem putOf_ok {L P : List Tree} {c : Tree} (hS : OkS L c) (h : PutOf (L ++ []) P) : OkS P c ∧ dc (EntL P c) = dc (EntL L c) := by
  have h2 := h.tot f2
  rw [List.append_nil] at h2
  refine ⟨⟨h.ok, hS.2.1, by have := hS.2.2; unfold nu at *; omega⟩, dc_congr (entL_congr fun a => ?_)⟩
  rw [h.mem, List.append_nil]
set_option maxHeartbeats 2000000 in
theorem dprovable_c (D M : Nat) (L : List Tree) (c : Tree) (v : Value) (w : World) (hS : OkS L c) (hD : Dec w D M) (h : TL w v L) :
    Calls Tryz.prog 64 #[.pointer (some ⟨D, 0, none⟩), v, .string (tx c)] w (Decides w D M (dc (EntL L c))) := by
  have hn : L.length ≤ 1048576 := Nat.le_trans (len_nu L c) hS.2.2
  have KP := Lib.hid (put_t v _ L [] w h (TL.nil_ w) hS.1 (fun a ha => by cases ha) (by simp; omega))
  have KV := Lib.hid (fun P u W (hP : PutOf (L ++ []) P) (hW : Dec W D M) (hu : TL W u P) => by
    have hm := putOf_ok hS hP
    have := proves_c D M P c u W hm.1 hW hu
    rw [hm.2] at this
    exact this)
  have HD := Lib.hid hD
  obtain ⟨A, n, k, rfl⟩ := h.slice
  clear h hS hD
  unfold Decides at *
  generalize dc (EntL L c) = R at *
  generalize tx c = tc at *
  go_enter Tryz.func64, Tryz.ntmps64
  go_wp2_with fail
  refine (KP.out).mono ?_
  rintro e w1 ⟨u, P, rfl, hP, hu, hg1⟩
  have hT : TL w1 u P := hu.strs
  have HT := Lib.hid hT
  obtain ⟨A1, n1, c1, rfl⟩ := hT.slice
  clear hT hu
  go_wp2_with fail
  refine (KV.out P _ _ hP (HD.out.grew hg1) HT.out).mono ?_
  rintro e w2 ⟨rfl, h2⟩
  go_wp2_with fail
  go_ret
  exact ⟨rfl, (DF.of_grew HD.out hg1).trans h2⟩

/-- provable decides. -/
theorem provable_c (L : List Tree) (c : Tree) (v : Value) (w : World) (hS : OkS L c) (h : TL w v L) :
    Calls Tryz.prog 34 #[v, .string (tx c)] w fun e w' => e = .returned (.bool (dc (EntL L c))) ∧ Grew w w' := by
  have KN := Lib.hid (newDecider_c w)
  have KV := Lib.hid (fun D M W (hW : Grew w W) (hD : Dec W D M) => dprovable_c D M L c v W hS hD (h.grew hW))
  obtain ⟨A, n, k, rfl⟩ := h.slice
  clear h hS
  unfold Decides at *
  generalize dc (EntL L c) = R at *
  generalize tx c = tc at *
  go_enter Tryz.func34, Tryz.ntmps34
  go_wp2_with fail
  refine (KN.out).mono ?_
  rintro e w1 ⟨D, M, rfl, hD, hM, hg1⟩
  have HD := Lib.hid hD
  have HM := Lib.hid hM
  clear hD hM
  go_wp2_with fail
  refine (KV.out D M _ hg1 HD.out).mono ?_
  rintro e w2 ⟨rfl, h2⟩
  go_wp2_with fail
  go_ret
  exact ⟨rfl, h2.only.grew_of hg1 HM.out⟩

end Go.Proofs.YtefkgomecpnpbaaGreat

/- implies, equivalent, one of the program. -/
namespace Go.Proofs.YtefkgomecpnpbaaGreat
open Go.RowKit
open Fm (Tree)

set_option maxHeartbeats 2000000 in
theorem implies_c (a b : Tree) (va vb : Value) (w : World) (hS : OkS [a] b) (ha : Nodes w va (Fm.enc a)) (hb : Nodes w vb (Fm.enc b)) :
    Calls Tryz.prog 62 #[va, vb] w fun e w' => e = .returned (.bool (dc (EntL [a] b))) ∧ Grew w w' := by
  have KA := Lib.hid (fun W (hW : Grew w W) => text_t a va W (hS.1 a (.head _)) (ha.grew hW))
  have KB := Lib.hid (fun W (hW : Grew w W) => text_t b vb W hS.2.1 (hb.grew hW))
  have KV := Lib.hid (fun v W (hv : TL W v [a]) => provable_c [a] b v W hS hv)
  obtain ⟨A1, n1, c1, rfl⟩ := slice3 ha
  obtain ⟨A2, n2, c2, rfl⟩ := slice3 hb
  have r0 := (Grew.refl w).drew
  clear ha hb hS
  generalize dc (EntL [a] b) = R at *
  generalize tx b = tb at *
  go_enter Tryz.func62, Tryz.ntmps62
  go_wp2_with fail
  refine (KA.out _ (Grew.refl w)).mono ?_
  rintro e w1 ⟨rfl, hg1⟩
  go_wp2_with fail
  refine (KB.out _ (hg1.alloc _)).mono ?_
  rintro e w2 ⟨rfl, hg2⟩
  have hv := (TL.one (w := w1) (T := 9) (a := a)).grew hg2
  have g2 := (hg1.alloc (.cells #[.string (tx a)] 9)).trans hg2
  go_wp2_with fail
  refine (KV.out _ _ hv).mono ?_
  rintro e w3 ⟨rfl, hg3⟩
  go_wp2_with fail
  go_ret
  exact ⟨rfl, g2.trans hg3⟩
theorem equivalent_c (a b : Tree) (va vb : Value) (w : World) (hS : OkS [a] b) (hS2 : OkS [b] a) (ha : Nodes w va (Fm.enc a)) (hb : Nodes w vb (Fm.enc b)) :
    Calls Tryz.prog 33 #[va, vb] w fun e w' => e = .returned (.bool (dc (EntL [a] b) && dc (EntL [b] a))) ∧ Grew w w' := by
  have K1 := Lib.hid (implies_c a b va vb w hS ha hb)
  have K2 := Lib.hid (fun W (hW : Grew w W) => implies_c b a vb va W hS2 (hb.grew hW) (ha.grew hW))
  obtain ⟨A1, n1, c1, rfl⟩ := slice3 ha
  obtain ⟨A2, n2, c2, rfl⟩ := slice3 hb
  clear ha hb hS hS2
  generalize dc (EntL [a] b) = R at *
  generalize dc (EntL [b] a) = R2 at *
  cases R with
  | true =>
    go_enter Tryz.func33, Tryz.ntmps33
    go_wp2_with fail
    refine (K1.out).mono ?_
    rintro e w1 ⟨rfl, hg1⟩
    go_wp2_with fail
    refine (K2.out _ hg1).mono ?_
    rintro e w2 ⟨rfl, hg2⟩
    go_wp2_with fail
    go_ret
    exact ⟨rfl, hg1.trans hg2⟩
  | false =>
    go_enter Tryz.func33, Tryz.ntmps33
    go_wp2_with fail
    refine (K1.out).mono ?_
    rintro e w1 ⟨rfl, hg1⟩
    go_wp2_with fail
    go_ret
    exact ⟨rfl, hg1⟩
end Go.Proofs.YtefkgomecpnpbaaGreat

/- Small sequents; what is returned with a code. -/
namespace Go.Proofs.YtefkgomecpnpbaaGreat
open Go.RowKit
open Fm (Tree)

theorem okS_mk {L : List Tree} {c : Tree} (hL : ∀ a ∈ L, FmOk a) (hc : FmOk c) (h : tot nn L + nn c ≤ 20) : OkS L c := ⟨hL, hc, nu_small h⟩
theorem okS_one {a b : Tree} (ha : FmOk a) (hb : FmOk b) (h : nn a + nn b ≤ 20) : OkS [a] b := okS_mk (ok_one ha) hb (by rw [tot_one]; exact h)
theorem okS_none {a : Tree} (ha : FmOk a) (h : nn a ≤ 20) : OkS [] a := okS_mk (fun _ h => by cases h) ha (by rw [tot_nil]; omega)

/-- A yes or no, and a code. -/
def GivesBI (w : World) (r : Bool × Int) (e : Ending) (w' : World) : Prop := e = .returned (.tuple #[.bool r.1, .int .i64 r.2]) ∧ Grew w w'
def GivesII (w : World) (r : Int × Int) (e : Ending) (w' : World) : Prop := e = .returned (.tuple #[.int .i64 r.1, .int .i64 r.2]) ∧ Grew w w'
end Go.Proofs.YtefkgomecpnpbaaGreat

/- The reference's search: l23Search decides what follows. -/
namespace Go.Proofs.YtefkgomecpnpbaaGreat
open Go.RowKit
open Fm (Nd Tree)

end Go.Proofs.YtefkgomecpnpbaaGreat

/- IsIntTheorem, AreIntEquivalent, IntOrder of both sides. -/
namespace Go.Proofs.YtefkgomecpnpbaaGreat
open Go.RowKit
open Fm (Nd Tree)

/-- The tree of a list. -/
noncomputable def trOf (xs : List Nd) : Tree := @dite _ (∃ t, xs = Fm.enc t) (Classical.propDecidable _) (fun h => h.choose) (fun _ => .fls)
theorem trOf_enc (t : Tree) : trOf (Fm.enc t) = t := by
  unfold trOf
  rw [dif_pos ⟨t, rfl⟩]
  exact (enc_inj (Exists.choose_spec (⟨t, rfl⟩ : ∃ u, Fm.enc t = Fm.enc u))).symm
theorem good_tree {xs : List Nd} (h1 : badF xs = false) (h2 : badP xs = false) : ∃ t, xs = Fm.enc t ∧ FmOk t := by
  unfold badF at h1
  unfold badP at h2
  have h1 : fmB xs = true := by simpa using h1
  have h2 : anyP isBD xs = false := by simpa using h2
  obtain ⟨t, rfl, hl⟩ := fmB_tree h1
  exact ⟨t, rfl, hl, h2⟩
theorem fcode_one {xs : List Nd} (h : fcode [xs] = 0) : ∃ t, xs = Fm.enc t ∧ FmOk t ∧ nn t ≤ 20 := by
  unfold fcode at h
  split at h
  · cases h
  rename_i h1
  split at h
  · cases h
  rename_i h2
  split at h
  · cases h
  rename_i h3
  simp only [List.any_cons, List.any_nil, Bool.or_false, Bool.not_eq_true] at h1 h2
  obtain ⟨t, rfl, ht⟩ := good_tree h1 h2
  refine ⟨t, rfl, ht, ?_⟩
  unfold nn
  simpa using h3
theorem fcode_two {xs ys : List Nd} (h : fcode [xs, ys] = 0) : ∃ a b, xs = Fm.enc a ∧ ys = Fm.enc b ∧ FmOk a ∧ FmOk b ∧ nn a + nn b ≤ 20 := by
  unfold fcode at h
  split at h
  · cases h
  rename_i h1
  split at h
  · cases h
  rename_i h2
  split at h
  · cases h
  rename_i h3
  simp only [List.any_cons, List.any_nil, Bool.or_false, Bool.not_eq_true, Bool.or_eq_false_iff] at h1 h2
  obtain ⟨a, rfl, ha⟩ := good_tree h1.1 h2.1
  obtain ⟨b, rfl, hb⟩ := good_tree h1.2 h2.2
  refine ⟨a, b, rfl, rfl, ha, hb, ?_⟩
  unfold nn
  simpa using h3
theorem nl_one {xs : List Nd} (h : xs.length ≤ 1048576) : ∀ i, i < [xs].length → (nl [xs] i).length ≤ 1099511627776 := fun i hi => by
  obtain rfl : i = 0 := by simpa using hi
  show xs.length ≤ _; omega
theorem nl_two {xs ys : List Nd} (h : xs.length ≤ 1048576) (h2 : ys.length ≤ 1048576) : ∀ i, i < [xs, ys].length → (nl [xs, ys] i).length ≤ 1099511627776 := fun i hi => by
  have hi2 : i < 2 := by simpa using hi
  match i, hi2 with
  | 0, _ => show xs.length ≤ _; omega
  | 1, _ => show ys.length ≤ _; omega
theorem LT.zero {w : World} {T : TypeId} : LT (w.alloc (.cells #[] T)) (.slice (some ⟨w.heap.size, 0, none⟩) 0 0) [] :=
  ⟨[], ⟨rfl, by simp, .inr ⟨w.heap.size, 0, 0, rfl, Nat.le_refl _, by omega, by simp, fun j u hu => by simp at hu⟩⟩, VT.nil_ _⟩

noncomputable def thF (xs : List Nd) : Bool × Int := if fcode [xs] = 0 then (dc (EntL [] (trOf xs)), 0) else (false, fcode [xs])
theorem thF_bad {xs : List Nd} (h : fcode [xs] ≠ 0) : thF xs = (false, fcode [xs]) := by unfold thF; rw [if_neg h]
theorem thF_ok {t : Tree} (h : fcode [Fm.enc t] = 0) : thF (Fm.enc t) = (dc (EntL [] t), 0) := by unfold thF; rw [if_pos h, trOf_enc]

theorem implTh_c (v : Value) (xs : List Nd) (w : World) (h : Nodes w v xs) (hn : xs.length ≤ 1048576) :
    Calls Tryz.prog 16 #[v] w (GivesBI w (thF xs)) := by
  unfold GivesBI
  have KC := Lib.hid (fun (_ : Unit) => smallCode_c _ [xs] _ (NL.one (T := 24) h) (by simp) (by simp) (nl_one hn) (by simp; omega))
  obtain ⟨A, c, rfl⟩ := nodes_slice h
  by_cases hz : fcode [xs] = 0
  · obtain ⟨t, rfl, ht, hl⟩ := fcode_one hz
    rw [thF_ok hz]
    rw [hz] at KC
    have KT := Lib.hid (fun W (hW : Grew w W) => text_t t _ W ht (h.grew hW))
    have KP := Lib.hid (fun W => provable_c [] t _ W (okS_none ht hl) (TL.nil_ W))
    clear h hz
    generalize (Fm.enc t).length = n at *
    generalize dc (EntL [] t) = R at *
    generalize tx t = tt at *
    go_enter Tryz.func16, Tryz.ntmps16
    go_wp2_with fail
    refine (KC.out ()).mono ?_
    rintro e w1 ⟨rfl, hg1⟩
    have g1 := ((Grew.refl w).alloc _).trans hg1
    go_wp2_with fail
    refine (KT.out _ g1).mono ?_
    rintro e w2 ⟨rfl, hg2⟩
    go_wp2_with fail
    refine (KP.out _).mono ?_
    rintro e w3 ⟨rfl, hg3⟩
    go_wp2_with fail
    go_ret2
    exact ⟨rfl, (g1.trans hg2).trans hg3⟩
  · rw [thF_bad hz]
    clear h
    generalize fcode [xs] = k at *
    generalize xs.length = n at *
    have hk : (k != 0) = true := by simpa using hz
    go_enter Tryz.func16, Tryz.ntmps16
    go_wp2_with fail
    refine (KC.out ()).mono ?_
    rintro e w1 ⟨rfl, hg1⟩
    have g1 := ((Grew.refl w).alloc _).trans hg1
    go_wp2_with fail
    go_ret2
    exact ⟨rfl, g1⟩
end Go.Proofs.YtefkgomecpnpbaaGreat

/- AreIntEquivalent, IntOrder of both sides. -/
namespace Go.Proofs.YtefkgomecpnpbaaGreat
open Go.RowKit
open Fm (Nd Tree)

noncomputable def ordB (r1 r2 : Bool) : Int := if (r1 && r2) = true then 0 else if r1 = true then 1 else if r2 = true then 2 else 3
noncomputable def eqvF (xs ys : List Nd) : Bool × Int := if fcode [xs, ys] = 0 then (dc (EntL [trOf xs] (trOf ys)) && dc (EntL [trOf ys] (trOf xs)), 0) else (false, fcode [xs, ys])
noncomputable def ordF (xs ys : List Nd) : Int × Int := if fcode [xs, ys] = 0 then (ordB (dc (EntL [trOf xs] (trOf ys))) (dc (EntL [trOf ys] (trOf xs))), 0) else (0, fcode [xs, ys])
theorem eqvF_bad {xs ys : List Nd} (h : fcode [xs, ys] ≠ 0) : eqvF xs ys = (false, fcode [xs, ys]) := by unfold eqvF; rw [if_neg h]
theorem eqvF_ok {a b : Tree} (h : fcode [Fm.enc a, Fm.enc b] = 0) : eqvF (Fm.enc a) (Fm.enc b) = (dc (EntL [a] b) && dc (EntL [b] a), 0) := by unfold eqvF; rw [if_pos h, trOf_enc, trOf_enc]
theorem ordF_bad {xs ys : List Nd} (h : fcode [xs, ys] ≠ 0) : ordF xs ys = (0, fcode [xs, ys]) := by unfold ordF; rw [if_neg h]
theorem ordF_ok {a b : Tree} (h : fcode [Fm.enc a, Fm.enc b] = 0) : ordF (Fm.enc a) (Fm.enc b) = (ordB (dc (EntL [a] b)) (dc (EntL [b] a)), 0) := by unfold ordF; rw [if_pos h, trOf_enc, trOf_enc]
theorem ordB_eq (r1 r2 : Bool) : (ordB r1 r2 == 0) = (r1 && r2) := by cases r1 <;> cases r2 <;> rfl

set_option maxHeartbeats 2000000 in
theorem implEqv_c (v : Value) (xs : List Nd) (v2 : Value) (ys : List Nd) (w : World) (h : Nodes w v xs) (h2 : Nodes w v2 ys) (hn : xs.length ≤ 1048576) (hn2 : ys.length ≤ 1048576) :
    Calls Tryz.prog 15 #[v, v2] w (GivesBI w (eqvF xs ys)) := by
  unfold GivesBI
  have KC := Lib.hid (fun (_ : Unit) => smallCode_c _ [xs, ys] _ (NL.two (T := 24) h h2) (by simp) (by simp) (nl_two hn hn2) (by simp; omega))
  obtain ⟨A, c, rfl⟩ := nodes_slice h
  obtain ⟨A2, c2, rfl⟩ := nodes_slice h2
  by_cases hz : fcode [xs, ys] = 0
  · obtain ⟨a, b, rfl, rfl, ha, hb, hl⟩ := fcode_two hz
    rw [eqvF_ok hz]
    rw [hz] at KC
    have KV := Lib.hid (fun W (hW : Grew w W) => equivalent_c a b _ _ W (okS_one ha hb hl) (okS_one hb ha (by omega)) (h.grew hW) (h2.grew hW))
    clear h h2 hz
    generalize (Fm.enc a).length = n at *
    generalize (Fm.enc b).length = n2 at *
    generalize dc (EntL [a] b) = R at *
    generalize dc (EntL [b] a) = R2 at *
    generalize (R && R2) = R3 at *
    go_enter Tryz.func15, Tryz.ntmps15
    go_wp2_with fail
    refine (KC.out ()).mono ?_
    rintro e w1 ⟨rfl, hg1⟩
    have g1 := ((Grew.refl w).alloc _).trans hg1
    go_wp2_with fail
    refine (KV.out _ g1).mono ?_
    rintro e w2 ⟨rfl, hg2⟩
    go_wp2_with fail
    go_ret2
    exact ⟨rfl, g1.trans hg2⟩
  · rw [eqvF_bad hz]
    clear h h2
    generalize fcode [xs, ys] = k at *
    generalize xs.length = n at *
    generalize ys.length = n2 at *
    have hk : (k != 0) = true := by simpa using hz
    go_enter Tryz.func15, Tryz.ntmps15
    go_wp2_with fail
    refine (KC.out ()).mono ?_
    rintro e w1 ⟨rfl, hg1⟩
    have g1 := ((Grew.refl w).alloc _).trans hg1
    go_wp2_with fail
    go_ret2
    exact ⟨rfl, g1⟩
end Go.Proofs.YtefkgomecpnpbaaGreat

/- The drawn formula of FnNishimura; what is equivalent to a Nishimura formula, what is a theorem. -/
namespace Go.Proofs.YtefkgomecpnpbaaGreat
open Go.RowKit
open Fm (Nd Tree)

set_option maxHeartbeats 2000000 in
set_option maxRecDepth 20000 in
theorem l20Draw_c (g : Nat) (cv : Value) (N : Nat) (w : World) (h : Src w g cv N) :
    Calls Tryz.prog 17 #[.pointer (some ⟨g, 0, none⟩)] w (Bent w g cv N 47) := by
  have HS := Lib.hid h
  have hgl := h.lt
  have o0 := Only.refl g w
  clear h
  go_enter Tryz.func17, Tryz.ntmps17
  go_wp2_with fail
  refine (l01Next_c g cv N 30 _ HS.out (by omega)).mono ?_
  rintro e w1 ⟨r1, rfl, _, _, _, hS1, ho1⟩
  have HS1 := Lib.hid hS1
  clear hS1 HS
  cases b1 : (r1 == 0) with
  | true =>
    go_wp2_with fail
    refine (l02Any_g g cv N 10 2 (by omega) (by omega) (by omega) (by omega) _ HS1.out).mono ?_
    rintro e w2 ⟨v2, ys, rfl, hO2, hl2, hS2, ho2⟩
    go_wp2_with fail
    go_ret
    exact ⟨_, _, rfl, hO2.base ho1.size, hl2, hS2, ho1.trans ho2⟩
  | false =>
  go_wp2_with fail
  refine (l01Next_c g cv N 3 _ HS1.out (by omega)).mono ?_
  rintro e w2 ⟨r2, rfl, _, _, _, hS2, ho2⟩
  have HS2 := Lib.hid hS2
  have hw2 := ho1.trans ho2
  clear hS2 HS1 ho2 ho1
  cases b2 : (r2 == 0) with
  | false =>
    go_wp2_with fail
    refine (l01Next_c g cv N 30 _ HS2.out (by omega)).mono ?_
    rintro e w3 ⟨r3, rfl, h30, h31, _, hS3, ho3⟩
    have h32 := h31 (by omega)
    have HS3 := Lib.hid hS3
    have hw3 := hw2.trans ho3
    clear hS3 HS2 ho3 h31
    go_wp2_with fail
    refine (l02DrawP_c g cv N 1 (by omega) (by omega) 32 (3 + r3) _ (by omega) (by omega) (by omega) HS3.out).mono ?_
    rintro e w4 ⟨v4, t, rfl, hO4, ht, _, hS4, ho4⟩
    have hl4 : (Fm.enc t).length ≤ 47 := by have := ht.1; omega
    have HO4 := Lib.hid hO4
    clear ht hO4
    go_wp2_with fail
    go_ret
    exact ⟨_, _, rfl, HO4.out.base hw3.size, hl4, hS4, hw3.trans ho4⟩
  | true =>
  go_wp2_with fail
  refine (l01Next_c g cv N 8 _ HS2.out (by omega)).mono ?_
  rintro e w3 ⟨r3, rfl, h30, h31, _, hS3, ho3⟩
  have h32 := h31 (by omega)
  obtain ⟨n3, rfl⟩ : ∃ n : Nat, r3 = (n : Int) := ⟨r3.toNat, by omega⟩
  have HS3 := Lib.hid hS3
  have hw3 := hw2.trans ho3
  have hl3 := nis_len n3 (by omega)
  have KF := Lib.hid (fun W => l20Formula_c n3 (by omega) W)
  clear hS3 HS2 ho3 h31
  generalize Fm.enc (nis n3) = X at *
  go_wp2_with fail
  refine (KF.out _).mono ?_
  rintro e w4 ⟨v4, rfl, hO4, hg4⟩
  have HS4 := Lib.hid (HS3.out.grew hg4)
  have HO4 := Lib.hid hO4
  have hw4 := hw3.grew hg4
  have hz3 := hw3.size
  clear hO4 HS3
  go_wp2_with fail
  refine (l01Next_c g cv N 2 _ HS4.out (by omega)).mono ?_
  rintro e w5 ⟨r5, rfl, _, _, _, hS5, ho5⟩
  have HS5 := Lib.hid hS5
  have HO5 := Lib.hid (own_src HO4.out (by omega) ho5)
  have hw5 := hw4.trans ho5
  clear hS5 HS4 HO4 ho5
  cases b5 : (r5 == 0) with
  | false =>
    go_wp2_with fail
    go_ret
    exact ⟨_, _, rfl, HO5.out.base hz3, by omega, HS5.out, hw5⟩
  | true =>
  go_wp2_with fail
  refine (l01Next_c g cv N 3 _ HS5.out (by omega)).mono ?_
  rintro e w6 ⟨r6, rfl, h60, h61, _, hS6, ho6⟩
  have h62 := h61 (by omega)
  have HS6 := Lib.hid hS6
  have HO6 := Lib.hid (own_src HO5.out (by omega) ho6)
  have hw6 := hw5.trans ho6
  clear hS6 HS5 HO5 ho6 h61
  go_wp2_with fail
  refine (l01Next_c g cv N 7 _ HS6.out (by omega)).mono ?_
  rintro e w7 ⟨r7, rfl, h70, h71, _, hS7, ho7⟩
  have h72 := h71 (by omega)
  obtain ⟨n7, rfl⟩ : ∃ n : Nat, r7 = (n : Int) := ⟨r7.toNat, by omega⟩
  have HS7 := Lib.hid hS7
  have HO7 := Lib.hid (own_src HO6.out (by omega) ho7)
  have hw7 := hw6.trans ho7
  have hl7 := nis_len n7 (by omega)
  have KF := Lib.hid (fun W => l20Formula_c n7 (by omega) W)
  clear hS7 HS6 HO6 ho7 h71
  generalize Fm.enc (nis n7) = Y at *
  go_wp2_with fail
  refine (KF.out _).mono ?_
  rintro e w8 ⟨v8, rfl, hO8, hg8⟩
  have HS8 := Lib.hid (HS7.out.grew hg8)
  have HO8 := Lib.hid (HO7.out.grew hg8)
  have hw8 := hw7.grew hg8
  have hz7 := hw7.size
  clear HS7 HO7
  go_wp2_with fail
  refine (l02Pair_c _ _ _ X Y _ HO8.out.nodes hO8.nodes (by omega)).mono ?_
  rintro e w9 ⟨v9, rfl, hO9, hg9⟩
  go_wp2_with fail
  go_ret
  exact ⟨_, _, rfl, hO9.base hw8.size, by simp [Fm.join]; omega, HS8.out.grew hg9, hw8.grew hg9⟩
theorem drawNis_c (v : Value) (N : Nat) (w : World) (h : ArgB w v N) (hN : N ≤ 4096) :
    Calls Tryz.prog 5 #[v] w fun e w' => ∃ u xs, e = .returned u ∧ Own w' w.heap.size u xs ∧ xs.length ≤ 47 ∧ Grew w w' := by
  have HF := Lib.hid (l01From_c v N w h hN)
  clear h
  go_enter Tryz.func5, Tryz.ntmps5
  go_wp2_with fail
  refine HF.out.mono ?_
  rintro e w1 ⟨g, rfl, hg0, hS, hg1⟩
  have HS := Lib.hid hS
  clear hS HF
  go_wp2_with fail
  refine (l20Draw_c g v N _ HS.out).mono ?_
  rintro e w2 ⟨u, xs, rfl, ho2, hl2, _, hw2⟩
  go_wp2_with fail
  go_ret
  exact ⟨_, _, rfl, ho2.base hg1.size, hl2, hw2.grew_of hg1 hg0⟩

theorem fmB_enc {t : Tree} (h : (Fm.enc t).length ≤ 40) : fmB (Fm.enc t) = true := by
  have hp := Fm.enc_pos t
  unfold fmB
  rw [enc_noNode, decide_eq_true ⟨hp, h⟩]
  have e : pend (Fm.enc t) 0 = ((Fm.enc t).length : Int) := by
    unfold pend
    rw [List.drop_zero]
    have := Fm.scan_one t []
    rw [List.append_nil] at this
    rw [this]
    simp [pval]
  rw [e]
  simp
theorem fcodeN_two {a b : Tree} (ha : FmOk a) (hb : FmOk b) : fcode [Fm.enc a, Fm.enc b] = 0 ∨ fcode [Fm.enc a, Fm.enc b] = 3 := by
  unfold fcode
  rw [if_neg (by simp [badF, fmB_enc ha.1, fmB_enc hb.1]), if_neg (by simp [badP, ha.2, hb.2])]
  split
  · exact .inr rfl
  · exact .inl rfl
theorem fcodeN_one {a : Tree} (ha : FmOk a) : fcode [Fm.enc a] = 0 ∨ fcode [Fm.enc a] = 3 := by
  unfold fcode
  rw [if_neg (by simp [badF, fmB_enc ha.1]), if_neg (by simp [badP, ha.2])]
  split
  · exact .inr rfl
  · exact .inl rfl
theorem nis_ok : ∀ n, n ≤ 8 → (Fm.enc (nis n)).length ≤ 40 ∧ anyP isBD (Fm.enc (nis n)) = false := by
  have : ∀ m : Fin 9, (Fm.enc (nis m.val)).length ≤ 40 ∧ ∀ x ∈ Fm.enc (nis m.val), isBD x.1 x.2 = false := by decide +kernel
  intro n h
  obtain ⟨h1, h2⟩ := this ⟨n, by omega⟩
  exact ⟨h1, anyP_mem.2 h2⟩
theorem nisI_ok {d : Int} (h : -1 ≤ d) (h8 : ¬ 8 < d) : FmOk (nisI d) := by
  unfold nisI
  split
  · exact ⟨by decide, anyP_mem.2 (by decide +kernel)⟩
  · exact nis_ok d.toNat (by omega)
theorem nis_eqv {t : Tree} (h1 : Fm.One t) (h2 : FmOk t) (h8 : ¬ 8 < nix (Fm.nc t)) : eqvF (Fm.enc t) (Fm.enc (nisI (nix (Fm.nc t)))) = (true, 0) ∨ eqvF (Fm.enc t) (Fm.enc (nisI (nix (Fm.nc t)))) = (false, 3) := by
  have hr := nix_range h2.1
  rcases fcodeN_two h2 (nisI_ok hr.1 h8) with h | h
  · rw [eqvF_ok h]
    have e1 : EntL [t] (nisI (nix (Fm.nc t))) := fun K w hw => (nisI_eqv h1 K w).1 (hw t (by simp))
    have e2 : EntL [nisI (nix (Fm.nc t))] t := fun K w hw => (nisI_eqv h1 K w).2 (hw _ (by simp))
    rw [dc_true e1, dc_true e2]
    exact .inl rfl
  · rw [eqvF_bad (by rw [h]; decide), h]
    exact .inr rfl
theorem nis_th {t : Tree} (h1 : Fm.One t) (h2 : FmOk t) : thF (Fm.enc t) = (decide (nix (Fm.nc t) = -1), 0) ∨ thF (Fm.enc t) = (false, 3) := by
  rcases fcodeN_one h2 with h | h
  · rw [thF_ok h]
    have e : EntL [] t ↔ nix (Fm.nc t) = -1 := by
      rw [← nix_theorem h1 h2.1]
      exact ⟨fun h K w => h K w (fun a ha => by simp at ha), fun h K w _ => h K w⟩
    refine .inl ?_
    by_cases hx : nix (Fm.nc t) = -1
    · rw [dc_true (e.2 hx), decide_eq_true hx]
    · rw [dc_false (fun h => hx (e.1 h)), decide_eq_false hx]
  · rw [thF_bad (by rw [h]; decide), h]
    exact .inr rfl
end Go.Proofs.YtefkgomecpnpbaaGreat

/- The laws' bit9 and full9. -/
namespace Go.Proofs.YtefkgomecpnpbaaGreat
open Go.RowKit

theorem bit9_q (m i : Nat) (hm : m < 9223372036854775808) (hi : i < 62) (w : World) :
    Calls Tryz.prog 13 #[.int .i64 (m : Int), .int .i64 (i : Int)] w fun e w' => e = .returned (.bool (m.testBit i)) ∧ w' = w := by
  have hb := bit_e m i hm
  have h0 : (0 : Int) ≤ (i : Int) := by omega
  have h1 : (i : Int) < 62 := by omega
  go_enter Tryz.func13, Tryz.ntmps13
  go_wp2_with fail
  go_ret
  exact ⟨rfl, rfl⟩
theorem wrap_pow60 {k : Nat} (h : k ≤ 60) : wrap64 (2 ^ k) = ((2 ^ k : Nat) : Int) := by
  have h1 : (2 : Nat) ^ k ≤ 2 ^ 60 := Nat.pow_le_pow_right (by omega) h
  have h2 : ((2 ^ k : Nat) : Int) = 2 ^ k := by rw [Int.natCast_pow]; rfl
  rw [← h2]
  generalize (2 ^ k : Nat) = p at *
  rw [wrap64]
  omega
theorem full9_q (i : Nat) (hi : i ≤ 60) (w : World) :
    Calls Tryz.prog 14 #[.int .i64 (i : Int)] w fun e w' => e = .returned (.int .i64 ((full i : Nat) : Int)) ∧ w' = w := by
  have hp := wrap_pow60 hi
  have hle : (2 : Nat) ^ i ≤ 2 ^ 60 := Nat.pow_le_pow_right (by omega) hi
  have h0 : ¬ (i : Int) < 0 := by omega
  have h1 : ¬ (60 : Int) < (i : Int) := by omega
  rw [full_cast]
  generalize (2 ^ i : Nat) = p at *
  go_enter Tryz.func14, Tryz.ntmps14
  go_wp2_with fail
  go_ret
  exact ⟨rfl, rfl⟩
end Go.Proofs.YtefkgomecpnpbaaGreat

/- The bytes that came in: as before in a later world; are they many? -/
namespace Go.Proofs.YtefkgomecpnpbaaGreat
open Go.RowKit

theorem ArgB.grew {w W : World} {v : Value} {N : Nat} (h : ArgB w v N) (hW : Grew w W) : ArgB W v N := by
  obtain ⟨h1, h2, h3⟩ := h
  refine ⟨h1, h2, fun hp => ?_⟩
  obtain ⟨b, o, c, e, hb, hc, hm, hx⟩ := h3 hp
  refine ⟨b, o, c, e, Nat.lt_of_lt_of_le hb hW.size, hc, hm, fun j hj => ?_⟩
  obtain ⟨x, x0, x1, hcell⟩ := hx j hj
  exact ⟨x, x0, x1, (hW.cell (p := ⟨b, o + j, none⟩) hb).trans hcell⟩
theorem big_c (v : Value) (N : Nat) (w : World) (h : ∃ A c, v = .slice A N c) :
    Calls Tryz.prog 4 #[v] w fun e w' => e = .returned (.bool (decide (4096 < N))) ∧ Grew w w' := by
  obtain ⟨A, c, rfl⟩ := h
  by_cases hb : 4096 < N
  · rw [decide_eq_true hb]
    go_enter Tryz.func4, Tryz.ntmps4
    go_wp2_with fail
    go_ret
    exact ⟨by simp; omega, Grew.refl _⟩
  · rw [decide_eq_false hb]
    go_enter Tryz.func4, Tryz.ntmps4
    go_wp2_with fail
    go_ret
    exact ⟨by simp; omega, Grew.refl _⟩
end Go.Proofs.YtefkgomecpnpbaaGreat

/- The laws' sameNodes9 on lists of nodes (as l02Equal). -/
namespace Go.Proofs.YtefkgomecpnpbaaGreat
open Go.RowKit
open Fm (Nd)

theorem sameNodes9_c (v1 v2 : Value) (xs ys : List Nd) (w : World) (h1 : Nodes w v1 xs) (h2 : Nodes w v2 ys) (hn : xs.length ≤ 1099511627776) :
    Calls Tryz.prog 8 #[v1, v2] w fun e w' => e = .returned (.bool (decide (xs = ys))) ∧ Grew w w' := by
  by_cases hl : xs.length = ys.length
  · rcases h1.open_ with ⟨rfl, rfl⟩ | ⟨b1, o1, c1, rfl, hc1, hm1, hb1, hf⟩
    · obtain rfl : ys = [] := List.eq_nil_of_length_eq_zero (by simpa using hl.symm)
      obtain ⟨A, c, rfl⟩ := nodes_slice h2
      simp only [List.length_nil]
      clear hl
      go_enter Tryz.func8, Tryz.ntmps8
      go_wp2_with fail
      refine wp_loop_rounds 1 ?_; rw [rounds_succ]
      go_wp2_with fail
      go_ret
      exact ⟨by simp, Grew.refl _⟩
    · rcases h2.open_ with ⟨rfl, rfl⟩ | ⟨b2, o2, c2, rfl, hc2, hm2, hb2, hh⟩
      · obtain rfl : xs = [] := List.eq_nil_of_length_eq_zero (by simpa using hl)
        simp only [List.length_nil]
        clear hl
        go_enter Tryz.func8, Tryz.ntmps8
        go_wp2_with fail
        refine wp_loop_rounds 1 ?_; rw [rounds_succ]
        go_wp2_with fail
        go_ret
        exact ⟨by simp, Grew.refl _⟩
      · clear h1 h2
        have HE := Lib.hid (fun h => agree_all hl h)
        rw [← hl] at hc2 hh ⊢
        have HF := Lib.hid hf
        have HH := Lib.hid hh
        have HX := Lib.hid (fun (h : xs = ys) (i : Nat) => (⟨by rw [h], by rw [h]⟩ : kd xs i = kd ys i ∧ sy xs i = sy ys i))
        obtain ⟨D, hD⟩ : ∃ D, D = decide (xs = ys) := ⟨_, rfl⟩
        rw [← hD]
        have HD := Lib.hid hD
        clear hl hf hh hD
        generalize hN : xs.length = n at *
        clear hN
        go_enter Tryz.func8, Tryz.ntmps8
        go_wp2_with fail
        go_loopg [5] n (fun k i wr => ∃ j : Nat, j ≤ n ∧ k = n - j ∧ i = .int .i64 j ∧ Grew w wr ∧ Hid (Agree xs ys j))
        case atStart => exact ⟨0, Nat.zero_le _, by omega, rfl, Grew.refl _, Agree.zero _ _⟩
        case round =>
          obtain ⟨j, hj, rfl, rfl, hB, HA⟩ := hrel
          by_cases hlt : j < n
          · have k1 : ∀ W, Grew w W → W.cell? ⟨b1, o1 + j * 2, none⟩ = some (.int .i64 (kd xs j)) := fun W hW => (HF.out j hlt W hW).1
            have k2 : ∀ W, Grew w W → W.cell? ⟨b1, o1 + j * 2 + 1, none⟩ = some (.int .i64 (sy xs j)) := fun W hW => (HF.out j hlt W hW).2
            have k3 : ∀ W, Grew w W → W.cell? ⟨b2, o2 + j * 2, none⟩ = some (.int .i64 (kd ys j)) := fun W hW => (HH.out j hlt W hW).1
            have k4 : ∀ W, Grew w W → W.cell? ⟨b2, o2 + j * 2 + 1, none⟩ = some (.int .i64 (sy ys j)) := fun W hW => (HH.out j hlt W hW).2
            have hgd := Tryz.ndGuard
            by_cases he : kd xs j = kd ys j ∧ sy xs j = sy ys j
            · have hq : ∀ W, (binOp .neq 45 (.agg #[.int .i64 (kd xs j), .int .i64 (sy xs j)]) (.agg #[.int .i64 (kd ys j), .int .i64 (sy ys j)])).run Tryz.prog W = .ok (.bool false) W := fun W => by
                rw [Tryz.ndNeq, he.1, he.2]; simp
              have HB := Lib.hid (HA.out.succ he.1 he.2)
              clear he HA
              go_wp2_with fail
              go_quiet (fail)
              go_wp2_with fail
              go_roundg (n - (j + 1))
              case measure => omega
              case rel => exact ⟨j + 1, by omega, rfl, by go_num, hB.drewN _, HB⟩
            · have hq : ∀ W, (binOp .neq 45 (.agg #[.int .i64 (kd xs j), .int .i64 (sy xs j)]) (.agg #[.int .i64 (kd ys j), .int .i64 (sy ys j)])).run Tryz.prog W = .ok (.bool true) W := fun W => by
                have hz : (kd xs j == kd ys j && sy xs j == sy ys j) = false := by
                  cases hz : (kd xs j == kd ys j && sy xs j == sy ys j) with
                  | false => rfl
                  | true => simp at hz; exact absurd hz he
                rw [Tryz.ndNeq, hz]
                simp
              have hv : Hid (D = false) := Lib.hid (by rw [HD.out]; exact decide_eq_false fun h => he (HX.out h j))
              clear he HA
              go_wp2_with fail
              go_quiet (fail)
              go_wp2_with fail
              go_ret
              rw [hv.out]
              exact ⟨rfl, hB.drewN _⟩
          · have hjn : j = n := by omega
            subst hjn
            have hv : Hid (D = true) := Lib.hid (by rw [HD.out]; exact decide_eq_true (HE.out HA.out))
            go_wp2_with fail
            go_ret
            rw [hv.out]
            exact ⟨rfl, hB⟩
  · have hne : xs ≠ ys := fun h => hl (by rw [h])
    rw [decide_eq_false hne]
    obtain ⟨A, c, rfl⟩ := nodes_slice h1
    obtain ⟨B, d, rfl⟩ := nodes_slice h2
    have hl' : (((xs.length : Nat) : Int) != ((ys.length : Nat) : Int)) = true := by simp; omega
    clear hl h1 h2 hne
    go_enter Tryz.func8, Tryz.ntmps8
    go_wp2_with fail
    go_ret
    exact ⟨rfl, Grew.refl _⟩
end Go.Proofs.YtefkgomecpnpbaaGreat

/- A cell that is read lies in a block that is there. -/
namespace Go.Proofs.YtefkgomecpnpbaaGreat
open Go.RowKit

theorem cell_lt {w : World} {a : Addr} {u : Value} (h : w.cell? a = some u) : a.block < w.heap.size := by
  unfold World.cell? at h
  split at h
  · rename_i hh
    exact (Array.getElem?_eq_some_iff.1 hh).1
  · cases h

end Go.Proofs.YtefkgomecpnpbaaGreat

/- An argument that is a list of bytes. -/
namespace Go.Proofs.YtefkgomecpnpbaaGreat
open Go.RowKit

theorem argB_of_trod {H : Type} {enc : TypeId × Value → H} {P : Program} {W : World} {sp : Nat → Bool} {held : Bool} {n : Nat} {t e : TypeId} {v : Value} {y : DataW H × List MemPlace}
    (ht : P.underlying t = some (.slice e)) (he : P.underlying e = some (.int .u8)) (hc : P.cellsOf e = 1) (h : DataW.trod enc P W 0 sp held n t [v] = some y) : ∃ N, ArgB W v N := by
  rcases Go.ChangeShapes.open_ints ht he hc h with ⟨hv, _⟩ | ⟨a, len, cap, zs, hv, _, hl, hm, hz, _, hcell, hwf⟩
  · obtain rfl : v = .slice none 0 0 := by simpa using hv
    exact ⟨0, ⟨none, 0, rfl⟩, by omega, fun h => absurd h (by omega)⟩
  · obtain rfl : v = .slice (some a) len cap := by simpa using hv
    have hlm : len ≤ zs.length := by rw [hz]; split <;> omega
    have hmax : maxLen = 9223372036854775807 := by decide
    rw [hmax] at hm
    refine ⟨len, ⟨some a, cap, rfl⟩, by omega, fun hp => ?_⟩
    obtain ⟨b, off, spot⟩ := a
    have h0 := hcell 0 (by omega)
    have hspot : spot = none := by simpa [Addr.add] using World.cell?_spot h0
    subst hspot
    have hb := cell_lt h0
    have hadd : ∀ i, (⟨b, off, none⟩ : Addr).add i = ⟨b, off + i, none⟩ := fun i => by
      unfold Addr.add
      split
      · subst_vars; rfl
      · rfl
    rw [hadd] at hb
    refine ⟨b, off, cap, rfl, hb, hl, hm, fun j hj => ⟨zs.getD j 0, ?_, ?_, ?_⟩⟩
    · have hw := hwf (zs.getD j 0) (by simp [List.getD, show j < zs.length by omega])
      simp [Lit.wf, IntKind.min, IntKind.max, IntKind.signed, IntKind.bits] at hw
      have := hw.1
      simpa [List.getD] using this
    · have hw := hwf (zs.getD j 0) (by simp [List.getD, show j < zs.length by omega])
      simp [Lit.wf, IntKind.min, IntKind.max, IntKind.signed, IntKind.bits] at hw
      have := hw.2
      simp [List.getD] at this ⊢
      omega
    · rw [← hadd]
      exact hcell j (by omega)
end Go.Proofs.YtefkgomecpnpbaaGreat

/- The law FnNishimura, walked. -/
namespace Go.Proofs.YtefkgomecpnpbaaGreat
open Go.RowKit
open Fm (Nd Tree)

theorem noL_ok {d : Int} (h : ¬ 8 < d) : noL d = (Fm.enc (nisI d), 0) := by unfold noL; rw [if_neg h]
theorem noL_len {d : Int} (h : -1 ≤ d) : (noL d).1.length ≤ 1048576 := by
  unfold noL
  split
  · simp
  · rename_i h8
    have := (nisI_ok h h8).1
    show (Fm.enc (nisI d)).length ≤ _
    omega
theorem sameN_yes (v1 v2 : Value) (xs : List Nd) (w : World) (h1 : Nodes w v1 xs) (h2 : Nodes w v2 xs) (hn : xs.length ≤ 1099511627776) :
    Calls Tryz.prog 8 #[v1, v2] w fun e w' => e = .returned (.bool true) ∧ Grew w w' := by
  have := sameNodes9_c v1 v2 xs xs w h1 h2 hn
  rwa [decide_eq_true (rfl : xs = xs)] at this

set_option maxHeartbeats 8000000 in
set_option maxRecDepth 20000 in
theorem lawNis_c (v : Value) (N : Nat) (w : World) (h : ArgB w v N) :
    Calls Tryz.prog 3 #[v] w fun e w' => e = .returned (.bool true) ∧ Grew w w' := by
  have HB := big_c v N w h.1
  by_cases hbig : 4096 < N
  · rw [decide_eq_true hbig] at HB
    replace HB := Lib.hid HB
    obtain ⟨⟨A, c, rfl⟩, _⟩ := h
    go_enter Tryz.func3, Tryz.ntmps3
    go_wp2_with fail
    refine HB.out.mono ?_
    rintro e w1 ⟨rfl, hg1⟩
    go_wp2_with fail
    go_ret
    exact ⟨rfl, hg1⟩
  rw [decide_eq_false hbig] at HB
  replace HB := Lib.hid HB
  have HD := Lib.hid (fun W (hW : Grew w W) => drawNis_c v N W (h.grew hW) (by omega))
  obtain ⟨⟨A, c, rfl⟩, _⟩ := h
  go_enter Tryz.func3, Tryz.ntmps3
  go_wp2_with fail
  refine HB.out.mono ?_
  rintro e w1 ⟨rfl, hg1⟩
  go_wp2_with fail
  refine (HD.out _ hg1).mono ?_
  rintro e w2 ⟨u, xs, rfl, hO, hl, hg2⟩
  have g2 := hg1.trans hg2
  have hN := hO.nodes
  have HN := Lib.hid hN
  have r2 := Grew.refl w2
  obtain ⟨A2, c2, rfl⟩ := nodes_slice hN
  have SM := Lib.hid (fun v1 v2 zs W (a : Nodes W v1 zs) (b : Nodes W v2 zs) hz => sameN_yes v1 v2 zs W a b hz)
  clear hO HB HD
  by_cases hc : lcode xs = 0
  · obtain ⟨t, rfl, ht, ho⟩ := lcode_tree hc
    have KI := Lib.hid (fun W (hW : Grew w2 W) => nishOf_yes _ t W (hN.grew hW) hc ht ho)
    have KS := Lib.hid (fun W (hW : Grew w2 W) => nisR_yes _ t W (hN.grew hW) hc ht ho)
    have KX := Lib.hid (fun W (hW : Grew w2 W) => nishimuraIndex_c _ t W (hN.grew hW) hc ht ho)
    have KL := Lib.hid (fun W (hW : Grew w2 W) => ladderVal_c _ t W (hN.grew hW) hc ht ho)
    have KF := Lib.hid (fun W (hW : Grew w2 W) => firstLadder_c _ t W (hN.grew hW) hc ht ho)
    have KT := Lib.hid (fun W (hW : Grew w2 W) => implTh_c _ (Fm.enc t) W (hN.grew hW) (by omega))
    have KQ := Lib.hid (fun v2 ys W (hW : Grew w2 W) h2 hn2 => implEqv_c _ (Fm.enc t) v2 ys W (hN.grew hW) h2 (by omega) hn2)
    have hth := nis_th ho ht
    have heq := fun h8 => nis_eqv (t := t) ho ht h8
    obtain ⟨d1, d2⟩ := nix_range ht.1
    have hll := noL_len d1
    have hfst := fun m (hm : nix (Fm.nc t) = ((m : Nat) : Int)) => fst_ok m (by omega)
    unfold GivesC2 at KI KS
    unfold GivesBI at KT KQ
    clear hN hc ht ho HN
    generalize nix (Fm.nc t) = d at *
    have KIX := Lib.hid (fun (h : d ≤ 40) W => indexSetE_c d d1 h W)
    have hS := isetI_lt d2
    generalize thF (Fm.enc t) = th at *
    generalize eqvF (Fm.enc t) = qf at *
    generalize (Fm.enc t).length = n at *
    have hcc : ((noL d).2 != (noL d).2) = false := by simp
    have HLL := Lib.hid hll
    have HQE := Lib.hid heq
    have HTH := Lib.hid hth
    have HFS := Lib.hid hfst
    clear hll heq hth hfst
    by_cases h8 : 8 < d
    · rw [noL_big h8] at KI KS HLL hcc
      simp only at KI KS HLL hcc
      obtain ⟨m, rfl⟩ : ∃ m : Nat, d = (m : Int) := ⟨d.toNat, by omega⟩
      obtain ⟨_, f2, f3, f4⟩ := HFS.out m rfl
      have hm1 : ¬ (m : Int) = -1 := by omega
      rw [if_neg hm1, if_neg hm1] at KF
      rw [isetI_nat] at KF KL KIX hS
      have hmb : ((m : Int) == -1) = false := by simpa using hm1
      have KB := Lib.hid (fun W => bit9_q (iset m) (fstN (iset m)) (by omega) (by omega) W)
      have KU := Lib.hid (fun W => full9_q (fstN (iset m)) (by omega) W)
      have hfl := full_lt (fstN (iset m))
      have hfp : 2 ^ fstN (iset m) ≤ 2 ^ 28 := Nat.pow_le_pow_right (by omega) (by omega)
      have ha := and_i64 (iset m) (full (fstN (iset m))) (by omega) (by omega)
      rw [f4] at ha
      rw [f3] at KB
      clear f3 f4 HFS HQE HTH KQ KT hfl hfp
      generalize full (fstN (iset m)) = U at *
      generalize fstN (iset m) = F at *
      generalize iset m = S at *
      go_wp2_with fail
      refine (KI.out _ r2).mono ?_
      rintro e w3 ⟨v3, rfl, o3, hg3⟩
      go_wp2_with fail
      refine (KS.out _ hg3).mono ?_
      rintro e w4 ⟨v4, rfl, o4, hg4⟩
      go_wp2_with fail
      refine (SM.out v3 v4 [] _ (o3.grew hg4).nodes o4.nodes (by simp)).mono ?_
      rintro e w5 ⟨rfl, hg5⟩
      have g5 := (hg3.trans hg4).trans hg5
      go_wp2_with fail
      refine (KX.out _ g5).mono ?_
      rintro e w6 ⟨rfl, hg6⟩
      have g6 := g5.trans hg6
      go_wp2_with fail
      refine (KL.out _ g6).mono ?_
      rintro e w7 ⟨rfl, hg7⟩
      have g7 := g6.trans hg7
      by_cases h40 : (m : Int) ≤ 40
      · go_wp2_with fail
        refine (KIX.out h40 _).mono ?_
        rintro e w8 ⟨rfl, hg8⟩
        have g8 := g7.trans hg8
        go_wp2_with fail
        refine (KF.out _ g8).mono ?_
        rintro e w9 ⟨rfl, hg9⟩
        have g9 := g2.trans (g8.trans hg9)
        go_wp2_with fail
        refine (KB.out _).mono ?_
        rintro e wa ⟨rfl, rfl⟩
        go_wp2_with fail
        refine (KU.out _).mono ?_
        rintro e wa ⟨rfl, rfl⟩
        go_wp2_with fail
        refine (KU.out _).mono ?_
        rintro e wa ⟨rfl, rfl⟩
        go_wp2_with fail
        go_ret
        exact ⟨rfl, g9⟩
      · go_wp2_with fail
        refine (KF.out _ g7).mono ?_
        rintro e w9 ⟨rfl, hg9⟩
        have g9 := g2.trans (g7.trans hg9)
        go_wp2_with fail
        refine (KB.out _).mono ?_
        rintro e wa ⟨rfl, rfl⟩
        go_wp2_with fail
        refine (KU.out _).mono ?_
        rintro e wa ⟨rfl, rfl⟩
        go_wp2_with fail
        refine (KU.out _).mono ?_
        rintro e wa ⟨rfl, rfl⟩
        go_wp2_with fail
        go_ret
        exact ⟨rfl, g9⟩
    · rw [noL_ok h8] at KI KS HLL hcc
      simp only at KI KS HLL hcc
      replace HQE := Lib.hid (HQE.out h8)
      have hll := HLL.out
      generalize Fm.enc (nisI d) = X at *
      by_cases hm1 : d = -1
      · subst hm1
        rw [decide_eq_true rfl] at HTH
        rw [if_pos rfl, if_pos rfl] at KF
        have e28 : isetI (-1) = 268435455 := by decide
        rw [e28] at KL KIX
        have e29 : (((268435455 : Nat)) : Int) = 268435455 := rfl
        rw [e29] at KL KIX
        clear e28 e29 HFS hS
        go_wp2_with fail
        refine (KI.out _ r2).mono ?_
        rintro e w3 ⟨v3, rfl, o3, hg3⟩
        go_wp2_with fail
        refine (KS.out _ hg3).mono ?_
        rintro e w4 ⟨v4, rfl, o4, hg4⟩
        have n3 := (o3.grew hg4).nodes
        go_wp2_with fail
        refine (SM.out v3 v4 X _ n3 o4.nodes (by omega)).mono ?_
        rintro e w5 ⟨rfl, hg5⟩
        have g5 := (hg3.trans hg4).trans hg5
        have n5 := n3.grew hg5
        go_wp2_with fail
        refine (KX.out _ g5).mono ?_
        rintro e w6 ⟨rfl, hg6⟩
        have g6 := g5.trans hg6
        go_wp2_with fail
        refine (KL.out _ g6).mono ?_
        rintro e w7 ⟨rfl, hg7⟩
        have g7 := g6.trans hg7
        go_wp2_with fail
        refine (KIX.out (by omega) _).mono ?_
        rintro e w8 ⟨rfl, hg8⟩
        have g8 := g7.trans hg8
        go_wp2_with fail
        refine (KF.out _ g8).mono ?_
        rintro e w9 ⟨rfl, hg9⟩
        have g9 := g8.trans hg9
        have n9 := ((n5.grew hg6).grew (hg7.trans hg8)).grew hg9
        have KQ2 := Lib.hid (KQ.out v3 X _ g9 n9 HLL.out)
        rcases HQE.out with hq | hq
        all_goals (rw [hq] at KQ2; clear hq)
        all_goals rcases HTH.out with ht | ht
        all_goals (rw [ht] at KT; clear ht)
        all_goals (simp only at KQ2 KT)
        all_goals (
          go_wp2_with fail
          refine (KQ2.out).mono ?_
          rintro e wb ⟨rfl, hgb⟩
          go_wp2_with fail
          refine (KT.out _ (g9.trans hgb)).mono ?_
          rintro e wc ⟨rfl, hgc⟩
          go_wp2_with fail
          go_ret
          exact ⟨rfl, g2.trans ((g9.trans hgb).trans hgc)⟩)
      · obtain ⟨m, rfl⟩ : ∃ m : Nat, d = (m : Int) := ⟨d.toNat, by omega⟩
        obtain ⟨_, f2, f3, f4⟩ := HFS.out m rfl
        rw [decide_eq_false hm1] at HTH
        rw [if_neg hm1, if_neg hm1] at KF
        rw [isetI_nat] at KF KL KIX hS
        have hmb : ((m : Int) == -1) = false := by simpa using hm1
        have KB := Lib.hid (fun W => bit9_q (iset m) (fstN (iset m)) (by omega) (by omega) W)
        have KU := Lib.hid (fun W => full9_q (fstN (iset m)) (by omega) W)
        have hfl := full_lt (fstN (iset m))
        have hfp : 2 ^ fstN (iset m) ≤ 2 ^ 28 := Nat.pow_le_pow_right (by omega) (by omega)
        have ha := and_i64 (iset m) (full (fstN (iset m))) (by omega) (by omega)
        rw [f4] at ha
        rw [f3] at KB
        clear f3 f4 HFS hfl hfp
        generalize full (fstN (iset m)) = U at *
        generalize fstN (iset m) = F at *
        generalize iset m = S at *
        go_wp2_with fail
        refine (KI.out _ r2).mono ?_
        rintro e w3 ⟨v3, rfl, o3, hg3⟩
        go_wp2_with fail
        refine (KS.out _ hg3).mono ?_
        rintro e w4 ⟨v4, rfl, o4, hg4⟩
        have n3 := (o3.grew hg4).nodes
        go_wp2_with fail
        refine (SM.out v3 v4 X _ n3 o4.nodes (by omega)).mono ?_
        rintro e w5 ⟨rfl, hg5⟩
        have g5 := (hg3.trans hg4).trans hg5
        have n5 := n3.grew hg5
        go_wp2_with fail
        refine (KX.out _ g5).mono ?_
        rintro e w6 ⟨rfl, hg6⟩
        have g6 := g5.trans hg6
        go_wp2_with fail
        refine (KL.out _ g6).mono ?_
        rintro e w7 ⟨rfl, hg7⟩
        have g7 := g6.trans hg7
        go_wp2_with fail
        refine (KIX.out (by omega) _).mono ?_
        rintro e w8 ⟨rfl, hg8⟩
        have g8 := g7.trans hg8
        go_wp2_with fail
        refine (KF.out _ g8).mono ?_
        rintro e w9 ⟨rfl, hg9⟩
        have g9 := g8.trans hg9
        have n9 := ((n5.grew hg6).grew (hg7.trans hg8)).grew hg9
        go_wp2_with fail
        refine (KB.out _).mono ?_
        rintro e wa ⟨rfl, rfl⟩
        go_wp2_with fail
        refine (KU.out _).mono ?_
        rintro e wa ⟨rfl, rfl⟩
        go_wp2_with fail
        refine (KU.out _).mono ?_
        rintro e wa ⟨rfl, rfl⟩
        have KQ2 := Lib.hid (KQ.out v3 X _ g9 n9 HLL.out)
        rcases HQE.out with hq | hq
        all_goals (rw [hq] at KQ2; clear hq)
        all_goals rcases HTH.out with ht | ht
        all_goals (rw [ht] at KT; clear ht)
        all_goals (simp only at KQ2 KT)
        all_goals (
          go_wp2_with fail
          refine (KQ2.out).mono ?_
          rintro e wb ⟨rfl, hgb⟩
          go_wp2_with fail
          refine (KT.out _ (g9.trans hgb)).mono ?_
          rintro e wc ⟨rfl, hgc⟩
          go_wp2_with fail
          go_ret
          exact ⟨rfl, g2.trans ((g9.trans hgb).trans hgc)⟩)
  · rcases lcode_or hc with h1 | h1
    · have KI := Lib.hid (fun W (hW : Grew w2 W) => nishOf_no _ xs W (hN.grew hW) (by omega) hc)
      have KS := Lib.hid (fun W (hW : Grew w2 W) => nisR_no _ xs W (hN.grew hW) (by omega) hc)
      rw [h1] at KI KS
      unfold GivesC2 at KI KS
      clear hN HN hc h1
      generalize xs.length = n at *
      go_wp2_with fail
      refine (KI.out _ r2).mono ?_
      rintro e w3 ⟨v3, rfl, o3, hg3⟩
      go_wp2_with fail
      refine (KS.out _ hg3).mono ?_
      rintro e w4 ⟨v4, rfl, o4, hg4⟩
      go_wp2_with fail
      refine (SM.out v3 v4 [] _ (o3.grew hg4).nodes o4.nodes (by simp)).mono ?_
      rintro e w5 ⟨rfl, hg5⟩
      go_wp2_with fail
      go_ret
      exact ⟨rfl, g2.trans ((hg3.trans hg4).trans hg5)⟩
    · have KI := Lib.hid (fun W (hW : Grew w2 W) => nishOf_no _ xs W (hN.grew hW) (by omega) hc)
      have KS := Lib.hid (fun W (hW : Grew w2 W) => nisR_no _ xs W (hN.grew hW) (by omega) hc)
      rw [h1] at KI KS
      unfold GivesC2 at KI KS
      clear hN HN hc h1
      generalize xs.length = n at *
      go_wp2_with fail
      refine (KI.out _ r2).mono ?_
      rintro e w3 ⟨v3, rfl, o3, hg3⟩
      go_wp2_with fail
      refine (KS.out _ hg3).mono ?_
      rintro e w4 ⟨v4, rfl, o4, hg4⟩
      go_wp2_with fail
      refine (SM.out v3 v4 [] _ (o3.grew hg4).nodes o4.nodes (by simp)).mono ?_
      rintro e w5 ⟨rfl, hg5⟩
      go_wp2_with fail
      go_ret
      exact ⟨rfl, g2.trans ((hg3.trans hg4).trans hg5)⟩
end Go.Proofs.YtefkgomecpnpbaaGreat

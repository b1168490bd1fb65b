/- Texts in one file: Tk Tk2 Memo Dx Dy Dz Tr Ts De Df DecS Pv. -/
import Derived.MapKept
import Derived.Maps.OwnOps
import Derived.Maps.OwnSet
import Derived.Shelf.Abstract
import Derived.Carry
import Derived.Test.YtmdbhcoioimlmaaGreatPc1
import Derived.Test.YtmdbhcoioimlmaaGreatPc2
set_option linter.all false

/- implied of the program: the premises for an implication of the left side. -/
namespace Go.Proofs.YtmdbhcoioimlmaaGreat
open Go.RowKit
open Fm (Tree)

/-- A slice of sequents. -/
def Gls (w : World) (v : Value) (ps : List Gl) : Prop :=
  (v = .slice none 0 0 ∧ ps = []) ∨ ∃ b o c, v = .slice (some ⟨b, o, none⟩) ps.length c ∧ ps.length ≤ c ∧ c ≤ 9223372036854775807 ∧ b < w.heap.size ∧
    ∀ (i : Nat) (p : Gl), ps[i]? = some p → ∃ u, w.cell? ⟨b, o + i * 2, none⟩ = some u ∧ w.cell? ⟨b, o + i * 2 + 1, none⟩ = some (.string (tx p.2)) ∧ TL w u p.1
theorem Gls.grew {w w' : World} {v : Value} {ps : List Gl} (h : Gls w v ps) (hg : Grew w w') : Gls w' v ps := by
  rcases h with h | ⟨b, o, c, h1, h2, h3, h4, h5⟩
  · exact .inl h
  · refine .inr ⟨b, o, c, h1, h2, h3, Nat.lt_of_lt_of_le h4 hg.size, fun i p hp => ?_⟩
    obtain ⟨u, k1, k2, k3⟩ := h5 i p hp
    exact ⟨u, (hg.cell (p := ⟨b, o + i * 2, none⟩) h4).trans k1, (hg.cell (p := ⟨b, o + i * 2 + 1, none⟩) h4).trans k2, k3.grew hg⟩
theorem Gls.nil_ (w : World) : Gls w (.slice none 0 0) [] := .inl ⟨rfl, rfl⟩
theorem Gls.one {w : World} {T : TypeId} {u : Value} {p : Gl} (h : TL w u p.1) : Gls (w.alloc (.cells #[u, .string (tx p.2)] T)) (.slice (some ⟨w.heap.size, 0, none⟩) 1 1) [p] := by
  refine .inr ⟨w.heap.size, 0, 1, rfl, Nat.le_refl _, by omega, by simp, fun i q hq => ?_⟩
  have hi : i = 0 := by have := (List.getElem?_eq_some_iff.1 hq).1; simp at this; omega
  subst hi
  obtain rfl : p = q := by simpa using hq
  exact ⟨u, by simp, by simp, h.grew ((Grew.refl w).alloc _)⟩
theorem Gls.two {w : World} {T : TypeId} {u u2 : Value} {p q : Gl} (h : TL w u p.1) (h2 : TL w u2 q.1) : Gls (w.alloc (.cells #[u, .string (tx p.2), u2, .string (tx q.2)] T)) (.slice (some ⟨w.heap.size, 0, none⟩) 2 2) [p, q] := by
  refine .inr ⟨w.heap.size, 0, 2, rfl, Nat.le_refl _, by omega, by simp, fun i r hr => ?_⟩
  have hi : i < 2 := by simpa using (List.getElem?_eq_some_iff.1 hr).1
  match i, hi with
  | 0, _ =>
    obtain rfl : p = r := by simpa using hr
    exact ⟨u, by simp, by simp, h.grew ((Grew.refl w).alloc _)⟩
  | 1, _ =>
    obtain rfl : q = r := by simpa using hr
    exact ⟨u2, by simp, by simp, h2.grew ((Grew.refl w).alloc _)⟩
theorem TL.one {w : World} {T : TypeId} {a : Tree} : TL (w.alloc (.cells #[.string (tx a)] T)) (.slice (some ⟨w.heap.size, 0, none⟩) 1 1) [a] := by
  refine ⟨rfl, by simp, .inr ⟨w.heap.size, 0, 1, rfl, by simp, by omega, by simp, fun j u hu => ?_⟩⟩
  have hj : j = 0 := by have := (List.getElem?_eq_some_iff.1 hu).1; simp [scells] at this; omega
  subst hj
  obtain rfl : (.string (tx a) : Value) = u := by simpa [scells] using hu
  simp
theorem TL.lit {w : World} {k : Nat} {a : Tree} (hk : k < w.heap.size) (h : w.cell? ⟨k, 0, none⟩ = some (.string (tx a))) : TL w (.slice (some ⟨k, 0, none⟩) 1 1) [a] := by
  refine ⟨rfl, by simp, .inr ⟨k, 0, 1, rfl, by simp, by omega, hk, fun j u hu => ?_⟩⟩
  have hj : j = 0 := by have := (List.getElem?_eq_some_iff.1 hu).1; simp [scells] at this; omega
  subst hj
  obtain rfl : (.string (tx a) : Value) = u := by simpa [scells] using hu
  exact h
theorem TL.two {w : World} {T : TypeId} {a b : Tree} : TL (w.alloc (.cells #[.string (tx a), .string (tx b)] T)) (.slice (some ⟨w.heap.size, 0, none⟩) 2 2) [a, b] := by
  refine ⟨rfl, by simp, .inr ⟨w.heap.size, 0, 2, rfl, by simp, by omega, by simp, fun j u hu => ?_⟩⟩
  have hj : j < 2 := by have := (List.getElem?_eq_some_iff.1 hu).1; simpa [scells] using this
  match j, hj with
  | 0, _ =>
    obtain rfl : (.string (tx a) : Value) = u := by simpa [scells] using hu
    simp
  | 1, _ =>
    obtain rfl : (.string (tx b) : Value) = u := by simpa [scells] using hu
    simp
theorem mem_tx {L : List Tree} {a : Tree} (hL : ∀ b ∈ L, FmOk b) (ha : FmOk a) : tx a ∈ L.map tx ↔ a ∈ L := by
  constructor
  · intro h
    obtain ⟨b, hb, he⟩ := List.mem_map.1 h
    rw [← tx_inj (hL b hb).1 ha.1 he]; exact hb
  · exact fun h => List.mem_map.2 ⟨a, h, rfl⟩
theorem contains_t (v : Value) (L : List Tree) (a : Tree) (w : World) (h : TL w v L) (hL : ∀ b ∈ L, FmOk b) (ha : FmOk a) (hn : L.length ≤ 1099511627776) :
    Calls Tryz.prog 73 #[v, .string (tx a)] w fun e w' => e = .returned (.bool (hasL L a)) ∧ Grew w w' := by
  have h1 := containsS_c v (L.map tx) (tx a) w h (by simpa using hn)
  rw [dc_congr (mem_tx hL ha)] at h1
  exact h1
/-- What taken and implied give. -/
def GivesTk (w : World) (L : List Tree) (c t : Tree) (e : Ending) (w' : World) : Prop := ∃ u ps ok, e = .returned (.tuple #[u, .bool ok]) ∧ Taken L c t ps ok ∧ Gls w' u ps ∧ Grew w w'

/-- A box that holds a sequent. -/
structure BoxG (w : World) (b : Nat) (v : Value) (r : ByteArray) : Prop where
  lt : b < w.heap.size
  c0 : w.cell? ⟨b, 0, none⟩ = some v
  c1 : w.cell? ⟨b, 1, none⟩ = some (.string r)
theorem BoxG.at0 {w : World} {b : Nat} {v : Value} {r : ByteArray} (h : BoxG w b v r) : ∀ W, Grew w W → W.cell? ⟨b, 0, none⟩ = some v := fun W hW => (hW.cell (p := ⟨b, 0, none⟩) h.lt).trans h.c0
theorem BoxG.at1 {w : World} {b : Nat} {v : Value} {r : ByteArray} (h : BoxG w b v r) : ∀ W, Grew w W → W.cell? ⟨b, 1, none⟩ = some (.string r) := fun W hW => (hW.cell (p := ⟨b, 1, none⟩) h.lt).trans h.c1
theorem BoxG.new (w : World) (v : Value) (r : ByteArray) (T : TypeId) : BoxG (w.alloc (.cells #[v, .string r] T)) w.heap.size v r := ⟨by simp, by simp, by simp⟩

set_option maxHeartbeats 4000000 in
theorem implied_c (v va vb : Value) (L : List Tree) (c x y : Tree) (w : World) (hS : OkS L c) (ht : (.imp x y) ∈ L) (h : TL w v L) (hx : Nodes w va (Fm.enc x)) (hy : Nodes w vb (Fm.enc y)) :
    Calls Tryz.prog 148 #[.agg #[v, .string (tx c)], .string (tx (.imp x y)), va, vb] w (GivesTk w L c (.imp x y)) := by
  have hf := hS.1 _ ht
  obtain ⟨hfx, hfy⟩ := fmOk_imp hf
  have hn : L.length ≤ 1048576 := Nat.le_trans (len_nu L c) hS.2.2
  have HX := Lib.hid hx
  have HY := Lib.hid hy
  have HL := Lib.hid h
  have HS := Lib.hid hS
  have HT := Lib.hid ht
  have HF := Lib.hid hf
  have KI := Lib.hid (fun K vk W (hW : Grew w W) (hk : TL W vk K) (hK : ∀ a ∈ K, FmOk a) (hl : K.length ≤ 2) => instead_c v vk L K (.imp x y) (tx c) W (h.grew hW) hk hS.1 hK hf (by omega))
  obtain ⟨Av, n, cv, rfl⟩ := h.slice
  obtain ⟨bx, ox, nx, cx, rfl, hnx, hnxe, hkx⟩ := head_t hx
  obtain ⟨Ab, nb, cb, rfl⟩ := slice3 hy
  have hnnx : (0 : Int) < (nx : Int) := by omega
  have hgal := Lib.hid ((Grew.refl w).alloc (.cells #[.slice Av n cv, .string (tx c)] 85))
  have k0 : ∀ W, Grew (w.alloc (.cells #[.slice Av n cv, .string (tx c)] 85)) W → W.cell? ⟨bx, ox, none⟩ = some (.int .i64 (kindOf x)) := fun W hW => hkx W (hgal.out.trans hW)
  have hbox := BoxG.new w (.slice Av n cv) (tx c) 85
  have b0 := hbox.at0
  have b1 := hbox.at1
  have r1 := Grew.refl (w.alloc (.cells #[.slice Av n cv, .string (tx c)] 85))
  generalize tx (.imp x y) = ts at *
  clear hS ht h hx hy hkx hf hnxe hbox
  rcases fm_five hfx with ⟨p, rfl⟩ | rfl | ⟨p, q, rfl⟩ | ⟨p, q, rfl⟩ | ⟨p, q, rfl⟩
  · have KC := Lib.hid (fun W (hW : Grew w W) => contains_t _ L (.var p) W (HL.out.grew hW) HS.out.1 hfx (by omega))
    have KT := Lib.hid (fun W (hW : Grew w W) => text_t (.var p) _ W hfx (HX.out.grew hW))
    have KF := Lib.hid (fun P (hP : Ins L (.imp (.var p) y) [y] P) => tk_var HS.out HT.out hP)
    generalize hasL L (.var p) = hq at *
    generalize tx (.var p) = tp at *
    simp only [kindOf] at k0
    go_enter Tryz.func148, Tryz.ntmps148
    go_wp2_with fail
    generalize w.alloc (.cells #[.slice Av n cv, .string (tx c)] 85) = w1 at *
    have hd1 := r1.drew
    have gd := hgal.out.trans hd1
    clear k0
    go_region_held3 (fun w' => Grew w1 w') (first | with_reducible assumption | exact Grew.alloc ‹_› _)
      (first
       | (go_at_call 73; have hz6 := gq6; refine (KC.out _ (by first | with_reducible exact gq6 | with_reducible exact Grew.alloc gq6 _)).mono ?_; rintro e w7 ⟨rfl, hg7⟩; have hk7 : Grew w6 w7 := (by first | with_reducible exact hg7 | with_reducible exact Grew.of_alloc hg7); have h17 := h16.trans hk7; have gq7 := gq6.trans hk7)
       | (go_at_call 47; have hz5 := gq5; refine (KT.out _ (by first | with_reducible exact gq5 | with_reducible exact Grew.alloc gq5 _)).mono ?_; rintro e w6 ⟨rfl, hg6⟩; have hk6 : Grew w5 w6 := (by first | with_reducible exact hg6 | with_reducible exact Grew.of_alloc hg6); have h16 := h15.trans hk6; have gq6 := gq5.trans hk6)
       | (go_at_call 147; refine (KI.out [y] _ _ (g4.alloc _) TL.one (ok_one hfy) (by simp)).mono ?_; rintro e w5 ⟨u, P, rfl, hP, hu, hg5⟩; have h15 := (h14.alloc _).trans hg5; have gq5 := (g4.alloc _).trans hg5; have HUP := Lib.hid hu; obtain ⟨Au, nu', cu, rfl⟩ := hu.slice; clear hu)
       | (go_at_call 47; refine (text_t y _ _ hfy (HY.out.grew gd)).mono ?_; rintro e w4 ⟨rfl, hg4⟩; have h14 := hd1.trans hg4; have g4 := gd.trans hg4))
    all_goals go_wp2_with fail
    all_goals go_ret2
    all_goals first
      | exact ⟨_, _, _, rfl, KF.out _ hP, Gls.one (p := (P, c)) (T := 85) (HUP.out.grew (hk6.trans hk7)), gq7.alloc _⟩
      | exact ⟨_, _, _, rfl, KF.out _ hP, (Gls.one (p := (P, c)) (T := 85) (HUP.out.grew hk6)).grew hg7, gq7⟩
      | exact ⟨_, _, _, rfl, KF.out _ hP, (Gls.one (p := (P, c)) (T := 85) HUP.out).grew (hg6.trans hk7), gq7⟩
  · simp only [kindOf] at k0
    go_enter Tryz.func148, Tryz.ntmps148
    go_wp2_with fail
    generalize w.alloc (.cells #[.slice Av n cv, .string (tx c)] 85) = w1 at *
    refine (KI.out [] _ _ hgal.out (TL.nil_ _) (fun a ha => by cases ha) (by simp)).mono ?_
    rintro e w2 ⟨u, P, rfl, hP, hu, hg2⟩
    obtain ⟨Au, nu', cu, rfl⟩ := hu.slice
    have hgl := Gls.one (p := (P, c)) (T := 85) hu
    go_wp2_with fail
    go_ret2
    exact ⟨_, _, _, rfl, tk_fls HS.out HT.out hP, hgl, (hgal.out.trans hg2).alloc _⟩
  · have hfa := fmOk_and_imp HF.out
    have bi := fmOk_nn HF.out
    simp only [nn_imp, nn_and] at bi
    have KL := Lib.hid (fun W (hW : Grew w W) => first_t (two_and p q) hfx _ W (HX.out.grew hW))
    have KR := Lib.hid (fun W (hW : Grew w W) => second_t (two_and p q) hfx _ W (HX.out.grew hW))
    simp only [kindOf] at k0
    go_enter Tryz.func148, Tryz.ntmps148
    go_wp2_with fail
    generalize w.alloc (.cells #[.slice Av n cv, .string (tx c)] 85) = w1 at *
    have hd1 := r1.drew
    have gd := hgal.out.trans hd1
    clear k0
    go_region_held3 (fun w' => Grew w1 w') (first | with_reducible assumption | exact Grew.alloc ‹_› _)
      (first
       | (go_at_call 147; refine (KI.out [.imp p (.imp q y)] _ _ (g6.alloc _) TL.one (ok_one hfa) (by simp)).mono ?_; rintro e w7 ⟨u, P, rfl, hP, hu, hg7⟩; have h17 := (h16.alloc _).trans hg7; have g7 := (g6.alloc _).trans hg7; have HUP := Lib.hid hu; obtain ⟨Au, nu', cu, rfl⟩ := hu.slice; clear hu)
       | (go_at_call 47; refine (text_t (.imp p (.imp q y)) _ _ hfa hu3).mono ?_; rintro e w6 ⟨rfl, hg6⟩; have h16 := h15.trans hg6; have g6 := g5.trans hg6)
       | (go_at_call 151; refine (arrow3_c w4.heap.size A1 A2 Ab n1 n2 nb c1 c2 cb p q y _ ((HU1.out.grew hg4).grew ((Grew.refl w4).alloc _)) (HU2.out.grew ((Grew.refl w4).alloc _)) (HY.out.grew (g4.alloc _)) (by omega) (fun _ hW => (hW.cell (p := ⟨w4.heap.size, 0, none⟩) (by simp)).trans (by simp)) (fun _ hW => (hW.cell (p := ⟨w4.heap.size, 1, none⟩) (by simp)).trans (by simp)) (fun _ hW => (hW.cell (p := ⟨w4.heap.size, 2, none⟩) (by simp)).trans (by simp))).mono ?_; rintro e w5 ⟨u3, rfl, hu3, hg5⟩; have h15 := (h14.alloc _).trans hg5; have g5 := (g4.alloc _).trans hg5; obtain ⟨A3, n3, c3, rfl⟩ := slice3 hu3)
       | (go_at_call 75; refine (KR.out _ g3).mono ?_; rintro e w4 ⟨u2, rfl, hu2, hg4⟩; have h14 := h13.trans hg4; have g4 := g3.trans hg4; have HU2 := Lib.hid hu2; obtain ⟨A2, n2, c2, rfl⟩ := slice3 hu2; clear hu2)
       | (go_at_call 74; refine (KL.out _ gd).mono ?_; rintro e w3 ⟨u1, rfl, hu1, hg3⟩; have h13 := hd1.trans hg3; have g3 := gd.trans hg3; have HU1 := Lib.hid hu1; obtain ⟨A1, n1, c1, rfl⟩ := slice3 hu1; clear hu1))
    have hgl := Gls.one (p := (P, c)) (T := 85) HUP.out
    go_wp2_with fail
    go_ret2
    exact ⟨_, _, _, rfl, tk_and_imp HS.out HT.out hP, hgl, g7.alloc _⟩
  · obtain ⟨hfp, hfq⟩ := fmOk_or_imp HF.out
    have bi := fmOk_nn HF.out
    simp only [nn_imp, nn_or] at bi
    have KL := Lib.hid (fun W (hW : Grew w W) => first_t (two_or p q) hfx _ W (HX.out.grew hW))
    have KR := Lib.hid (fun W (hW : Grew w W) => second_t (two_or p q) hfx _ W (HX.out.grew hW))
    simp only [kindOf] at k0
    go_enter Tryz.func148, Tryz.ntmps148
    go_wp2_with fail
    generalize w.alloc (.cells #[.slice Av n cv, .string (tx c)] 85) = w1 at *
    have hd1 := r1.drew
    have gd := hgal.out.trans hd1
    clear k0
    go_region_held3 (fun w' => Grew w1 w') (first | with_reducible assumption | exact Grew.alloc ‹_› _)
      (first
       | (go_at_call 147; refine (KI.out [.imp p y, .imp q y] _ _ (g8.alloc _) TL.two (ok_two hfp hfq) (by simp)).mono ?_; rintro e w9 ⟨u, P, rfl, hP, hu, hg9⟩; have h19 := (h18.alloc _).trans hg9; have g9 := (g8.alloc _).trans hg9; have HUP := Lib.hid hu; obtain ⟨Au, nu', cu, rfl⟩ := hu.slice; clear hu)
       | (go_at_call 47; refine (text_t (.imp q y) _ _ hfq hu4).mono ?_; rintro e w8 ⟨rfl, hg8⟩; have h18 := h17.trans hg8; have g8 := g7.trans hg8)
       | (go_at_call 151; refine (arrow2_c w6.heap.size A3 Ab n3 nb c3 cb q y _ (HU3.out.grew ((Grew.refl w6).alloc _)) (HY.out.grew (g6.alloc _)) (by omega) (fun _ hW => (hW.cell (p := ⟨w6.heap.size, 0, none⟩) (by simp)).trans (by simp)) (fun _ hW => (hW.cell (p := ⟨w6.heap.size, 1, none⟩) (by simp)).trans (by simp))).mono ?_; rintro e w7 ⟨u4, rfl, hu4, hg7⟩; have h17 := (h16.alloc _).trans hg7; have g7 := (g6.alloc _).trans hg7; obtain ⟨A4, n4, c4, rfl⟩ := slice3 hu4)
       | (go_at_call 75; refine (KR.out _ g5).mono ?_; rintro e w6 ⟨u3, rfl, hu3, hg6⟩; have h16 := h15.trans hg6; have g6 := g5.trans hg6; have HU3 := Lib.hid hu3; obtain ⟨A3, n3, c3, rfl⟩ := slice3 hu3; clear hu3)
       | (go_at_call 47; refine (text_t (.imp p y) _ _ hfp hu2).mono ?_; rintro e w5 ⟨rfl, hg5⟩; have h15 := h14.trans hg5; have g5 := g4.trans hg5)
       | (go_at_call 151; refine (arrow2_c w3.heap.size A1 Ab n1 nb c1 cb p y _ (HU1.out.grew ((Grew.refl w3).alloc _)) (HY.out.grew (g3.alloc _)) (by omega) (fun _ hW => (hW.cell (p := ⟨w3.heap.size, 0, none⟩) (by simp)).trans (by simp)) (fun _ hW => (hW.cell (p := ⟨w3.heap.size, 1, none⟩) (by simp)).trans (by simp))).mono ?_; rintro e w4 ⟨u2, rfl, hu2, hg4⟩; have h14 := (h13.alloc _).trans hg4; have g4 := (g3.alloc _).trans hg4; obtain ⟨A2, n2, c2, rfl⟩ := slice3 hu2)
       | (go_at_call 74; refine (KL.out _ gd).mono ?_; rintro e w3 ⟨u1, rfl, hu1, hg3⟩; have h13 := hd1.trans hg3; have g3 := gd.trans hg3; have HU1 := Lib.hid hu1; obtain ⟨A1, n1, c1, rfl⟩ := slice3 hu1; clear hu1))
    have hgl := Gls.one (p := (P, c)) (T := 85) HUP.out
    go_wp2_with fail
    go_ret2
    exact ⟨_, _, _, rfl, tk_or_imp HS.out HT.out hP, hgl, g9.alloc _⟩
  · simp only [kindOf] at k0
    go_enter Tryz.func148, Tryz.ntmps148
    go_wp2_with fail
    go_ret2
    exact ⟨_, [], _, rfl, tk_none (stuck_imp_imp _ _ _), Gls.nil_ _, hgal.out⟩
end Go.Proofs.YtmdbhcoioimlmaaGreat

/- taken of the program: the premises that a formula of the left side gives. -/
namespace Go.Proofs.YtmdbhcoioimlmaaGreat
open Go.RowKit
open Fm (Tree)

theorem TL.open2 {w : World} {v : Value} {x y : Tree} (h : TL w v [x, y]) : ∃ b o c, v = .slice (some ⟨b, o, none⟩) 2 c ∧ 2 ≤ c ∧ c ≤ 9223372036854775807 ∧ (∀ W, Grew w W → W.cell? ⟨b, o, none⟩ = some (.string (tx x))) ∧ ∀ W, Grew w W → W.cell? ⟨b, o + 1, none⟩ = some (.string (tx y)) := by
  rcases Strs.open_ h with ⟨_, h2⟩ | ⟨b, o, c, h1, h2, h3, h4, h5⟩
  · cases h2
  · exact ⟨b, o, c, h1, h2, h3, fun W hW => h5 0 (by simp) W hW, fun W hW => h5 1 (by simp) W hW⟩

set_option maxHeartbeats 4000000 in
theorem taken_c (v va : Value) (L : List Tree) (c t : Tree) (w : World) (hS : OkS L c) (ht : t ∈ L) (hF : hasL L .fls = false) (h : TL w v L) (ha : Nodes w va (Fm.enc t)) :
    Calls Tryz.prog 129 #[.agg #[v, .string (tx c)], .string (tx t), va] w (GivesTk w L c t) := by
  have hf := hS.1 _ ht
  have hn : L.length ≤ 1048576 := Nat.le_trans (len_nu L c) hS.2.2
  have HA := Lib.hid ha
  have HL := Lib.hid h
  have HS := Lib.hid hS
  have HT := Lib.hid ht
  have HF := Lib.hid hf
  have KI := Lib.hid (fun K vk W (hW : Grew w W) (hk : TL W vk K) (hK : ∀ a ∈ K, FmOk a) (hl : K.length ≤ 2) => instead_c v vk L K t (tx c) W (h.grew hW) hk hS.1 hK hf (by omega))
  obtain ⟨Av, n, cv, rfl⟩ := h.slice
  obtain ⟨bx, ox, nx, cx, rfl, hnx, hnxe, hkx⟩ := head_t ha
  have hnnx : (0 : Int) < (nx : Int) := by omega
  have hgal := Lib.hid ((Grew.refl w).alloc (.cells #[.slice Av n cv, .string (tx c)] 85))
  have hbox := BoxG.new w (.slice Av n cv) (tx c) 85
  have b0 := hbox.at0
  have b1 := hbox.at1
  have k0 : ∀ W, Grew (w.alloc (.cells #[.slice Av n cv, .string (tx c)] 85)) W → W.cell? ⟨bx, ox, none⟩ = some (.int .i64 (kindOf t)) := fun W hW => hkx W (hgal.out.trans hW)
  clear h ha hkx hf hnxe hbox
  rcases fm_five HF.out with ⟨p, rfl⟩ | rfl | ⟨p, q, rfl⟩ | ⟨p, q, rfl⟩ | ⟨p, q, rfl⟩
  · simp only [kindOf] at k0
    have KP := Lib.hid (fun W (hW : Grew w W) => partTexts_none _ (.var p) W (HA.out.grew hW) (.inl rfl))
    generalize tx (.var p) = ts at *
    go_enter Tryz.func129, Tryz.ntmps129
    go_wp2_with fail
    generalize w.alloc (.cells #[.slice Av n cv, .string (tx c)] 85) = w1 at *
    refine (KP.out _ hgal.out).mono ?_
    rintro e w2 ⟨rfl, hg2⟩
    have q0 := k0 _ hg2
    go_wp2_with fail
    go_ret2
    exact ⟨_, [], _, rfl, tk_none (stuck_var p), Gls.nil_ _, hgal.out.trans hg2⟩
  · exact absurd ht (hasL_false.1 hF)
  · simp only [kindOf] at k0
    obtain ⟨hfp, hfq⟩ := (fun h => fmOk_and (HS.out.1 _ h)) HT.out
    have KP := Lib.hid (fun W (hW : Grew w W) => partTexts_two _ _ p q W (HA.out.grew hW) (HS.out.1 _ HT.out).1 (two_and p q) (.inl rfl))
    generalize tx (Fm.Tree.and p q) = ts at *
    go_enter Tryz.func129, Tryz.ntmps129
    go_wp2_with fail
    generalize w.alloc (.cells #[.slice Av n cv, .string (tx c)] 85) = w1 at *
    refine (KP.out _ hgal.out).mono ?_
    rintro e w2 ⟨vp, rfl, hp, hg2⟩
    have g2 := hgal.out.trans hg2
    have q0 := k0 _ hg2
    have HP := Lib.hid (show TL w2 vp [p, q] from hp.strs)
    clear hp
    have q1 := b0 _ hg2
    have q2 := b1 _ hg2
    obtain ⟨A2, n2, c2, rfl⟩ := HP.out.slice
    go_wp2_with fail
    refine (KI.out [p, q] _ _ g2 HP.out (ok_two hfp hfq) (by simp)).mono ?_
    rintro e w3 ⟨u, P, rfl, hP, hu, hg3⟩
    obtain ⟨Au, nu', cu, rfl⟩ := hu.slice
    have hgl := Gls.one (p := (P, c)) (T := 85) hu
    go_wp2_with fail
    go_ret2
    exact ⟨_, _, _, rfl, tk_and HS.out HT.out hP, hgl, (g2.trans hg3).alloc _⟩
  · simp only [kindOf] at k0
    obtain ⟨hfp, hfq⟩ := (fun h => fmOk_or (HS.out.1 _ h)) HT.out
    have KP := Lib.hid (fun W (hW : Grew w W) => partTexts_two _ _ p q W (HA.out.grew hW) (HS.out.1 _ HT.out).1 (two_or p q) (.inr (.inl rfl)))
    generalize tx (Fm.Tree.or p q) = ts at *
    go_enter Tryz.func129, Tryz.ntmps129
    go_wp2_with fail
    generalize w.alloc (.cells #[.slice Av n cv, .string (tx c)] 85) = w1 at *
    refine (KP.out _ hgal.out).mono ?_
    rintro e w2 ⟨vp, rfl, hp, hg2⟩
    have g2 := hgal.out.trans hg2
    have q0 := k0 _ hg2
    have HP := Lib.hid (show TL w2 vp [p, q] from hp.strs)
    clear hp
    have q1 : ∀ W, Grew w2 W → W.cell? ⟨w.heap.size, 0, none⟩ = some (.slice Av n cv) := fun W hW => b0 _ (hg2.trans hW)
    have q2 : ∀ W, Grew w2 W → W.cell? ⟨w.heap.size, 1, none⟩ = some (.string (tx c)) := fun W hW => b1 _ (hg2.trans hW)
    obtain ⟨b2, o2, c2, rfl, hc2, hm2, z0, z1⟩ := HP.out.open2
    have i1 : (1 : Int) < (2 : Int) := by omega
    have hr2 := Grew.refl w2
    have hd2 := hr2.drew
    have gd := g2.trans hd2
    clear b0 b1 k0
    go_wp2_with fail
    go_region_held3 (fun w' => Grew w2 w') (first | with_reducible assumption | exact Grew.alloc ‹_› _ | exact Grew.drew (Grew.alloc (Grew.alloc ‹_› _) _))
      (first
       | (go_at_call 147; have hz := gq4; refine (KI.out [q] _ _ (by first | with_reducible exact gq4 | with_reducible exact Grew.alloc gq4 _) (by first | exact TL.lit (by simp <;> omega) (by simp) | exact TL.lit (Nat.lt_of_lt_of_le (by simp <;> omega) hg4.size) ((hg4.cell (by simp <;> omega)).trans (by simp))) (ok_one hfq) (by simp)).mono ?_; rintro e w5 ⟨u2, P2, rfl, hP2, hu2, hg5⟩; have hk5 : Grew w4 w5 := (by first | with_reducible exact hg5 | with_reducible exact Grew.of_alloc hg5); have h25 := h24.trans hk5; have gq5 := gq4.trans hk5; have HU2 := Lib.hid hu2; obtain ⟨Au2, nu2, cu2, rfl⟩ := hu2.slice; clear hu2)
       | (go_at_call 147; refine (KI.out [p] _ _ (by first | with_reducible exact Grew.drew (Grew.alloc g2 _) | with_reducible exact Grew.drew (Grew.alloc (Grew.alloc g2 _) _)) (TL.lit (by simp <;> omega) (by simp)) (ok_one hfp) (by simp)).mono ?_; rintro e w4 ⟨u1, P1, rfl, hP1, hu1, hg4⟩; have hk4 : Grew w2 w4 := (by first | with_reducible exact Grew.trans (Grew.drew (Grew.alloc hr2 _)) hg4 | with_reducible exact Grew.trans (Grew.drew (Grew.alloc (Grew.alloc hr2 _) _)) hg4); have h24 := hk4; have gq4 := g2.trans hk4; have HU1 := Lib.hid hu1; obtain ⟨Au1, nu1, cu1, rfl⟩ := hu1.slice; clear hu1))
    all_goals go_wp2_with fail
    all_goals go_ret2
    all_goals exact ⟨_, _, _, rfl, tk_or HS.out HT.out hP1 hP2, Gls.two (p := (P1, c)) (q := (P2, c)) (T := 85) (HU1.out.grew hk5) HU2.out, gq5.alloc _⟩
  · simp only [kindOf] at k0
    obtain ⟨hfp, hfq⟩ := (fun h => fmOk_imp (HS.out.1 _ h)) HT.out
    have KP := Lib.hid (fun W (hW : Grew w W) => partTexts_two _ _ p q W (HA.out.grew hW) (HS.out.1 _ HT.out).1 (two_imp p q) (.inr (.inr rfl)))
    go_enter Tryz.func129, Tryz.ntmps129
    go_wp2_with fail
    generalize w.alloc (.cells #[.slice Av n cv, .string (tx c)] 85) = w1 at *
    refine (KP.out _ hgal.out).mono ?_
    rintro e w2 ⟨vp, rfl, hp, hg2⟩
    have g2 := hgal.out.trans hg2
    have q0 := k0 _ hg2
    have HP := Lib.hid (show TL w2 vp [p, q] from hp.strs)
    clear hp
    have q1 : ∀ W, Grew w2 W → W.cell? ⟨w.heap.size, 0, none⟩ = some (.slice Av n cv) := fun W hW => b0 _ (hg2.trans hW)
    have q2 : ∀ W, Grew w2 W → W.cell? ⟨w.heap.size, 1, none⟩ = some (.string (tx c)) := fun W hW => b1 _ (hg2.trans hW)
    have KL := Lib.hid (fun W (hW : Grew w W) => first_t (two_imp p q) (HS.out.1 _ HT.out) _ W (HA.out.grew hW))
    have KR := Lib.hid (fun W (hW : Grew w W) => second_t (two_imp p q) (HS.out.1 _ HT.out) _ W (HA.out.grew hW))
    obtain ⟨A2, n2, c2, rfl⟩ := HP.out.slice
    have hr2 := Grew.refl w2
    have hd2 := hr2.drew
    have gd := g2.trans hd2
    clear b0 b1 k0
    go_wp2_with fail
    go_region_held3 (fun w' => Grew w2 w') (first | with_reducible assumption | exact Grew.alloc ‹_› _)
      (first
       | (go_at_call 148; refine (implied_c _ _ _ L c p q _ HS.out HT.out (HL.out.grew g4) (HU3.out.grew hg4) hu4).mono ?_; rintro e w5 ⟨u5, ps, ok, rfl, hps, hgl, hg5⟩; have h25 := h24.trans hg5; have g5 := g4.trans hg5)
       | (go_at_call 75; refine (KR.out _ g3).mono ?_; rintro e w4 ⟨u4, rfl, hu4, hg4⟩; have h24 := h23.trans hg4; have g4 := g3.trans hg4; obtain ⟨A4, n4, c4, rfl⟩ := slice3 hu4)
       | (go_at_call 74; refine (KL.out _ gd).mono ?_; rintro e w3 ⟨u3, rfl, hu3, hg3⟩; have h23 := hd2.trans hg3; have g3 := gd.trans hg3; have HU3 := Lib.hid hu3; obtain ⟨A3, n3, c3, rfl⟩ := slice3 hu3; clear hu3))
    go_wp2_with fail
    go_ret2
    exact ⟨_, _, _, rfl, hps, hgl, g5⟩
end Go.Proofs.YtmdbhcoioimlmaaGreat

/- A map from texts to truth values that remembers answers: what is looked up, what is stored. -/
namespace Go.Proofs.YtmdbhcoioimlmaaGreat
open Go.RowKit
open Go.MapKept
open Fm (Tree)

/-- Block M is a map of which every entry is right. -/
def Memo (w : World) (M : Nat) : Prop := ∃ es clock, w.heap[M]? = some (.map es clock) ∧ ∀ x ∈ es.toList, ∃ k r, x.key = .string k ∧ x.val = .bool r ∧ MemoI k r
theorem Memo.lt {w : World} {M : Nat} (h : Memo w M) : M < w.heap.size := let ⟨_, _, h1, _⟩ := h; (Array.getElem?_eq_some_iff.1 h1).1
theorem Memo.grew {w w' : World} {M : Nat} (h : Memo w M) (hg : Grew w w') : Memo w' M := by
  have hl := h.lt
  obtain ⟨es, clock, h1, h2⟩ := h
  exact ⟨es, clock, (hg.block hl).trans h1, h2⟩
theorem Memo.drew {w : World} {M : Nat} (h : Memo w M) : Memo w.drew M := h
theorem Memo.new (w : World) : Memo (w.alloc (.map #[] 0)) w.heap.size := ⟨#[], 0, blk_new w _, fun x hx => by simp at hx⟩
theorem memo_keys {es : Array MapEntry} (h : ∀ x ∈ es.toList, ∃ k r, x.key = .string k ∧ x.val = .bool r ∧ MemoI k r) : ∀ x ∈ es.toList, IsKey .string x.key := fun x hx => by
  obtain ⟨k, r, h1, _⟩ := h x hx
  rw [h1]
  trivial

/-- What is read at a key. -/
theorem run_memo_look {P : Program} {w : World} {M : Nat} (h : Memo w M) (t kt et : TypeId) (ht : P.underlying t = some (.map kt et)) (hk : P.underlying kt = some .string) (hz : (zeroValue et).run P w = .ok (.bool false) w) (k : ByteArray) :
    ∃ r ok, (Instr.lookup t (.map (some M)) (.string k) true).run P w = .ok (.tuple #[.bool r, .bool ok]) w ∧ (ok = true → MemoI k r) := by
  obtain ⟨es, clock, h1, h2⟩ := h
  have hkey : IsKey .string (.string k) := trivial
  rcases findNow_spec hkey es.toList 0 (memo_keys h2) with ⟨h3, _⟩ | ⟨j, e, h3, h4, h5⟩
  · refine ⟨false, false, ?_, fun h => by cases h⟩
    simp [Instr.lookup, run_underlying ht, MapKept.run_getObj_map h1, MapKept.run_checkKey hk hkey, MapKept.run_findKey hk h3, hz, Result.andThen]
  · obtain ⟨k', r, h6, h7, h8⟩ := h2 e (List.mem_of_getElem? h4)
    refine ⟨r, true, ?_, fun _ => ?_⟩
    · simp [Instr.lookup, run_underlying ht, MapKept.run_getObj_map h1, MapKept.run_checkKey hk hkey, MapKept.run_findKey hk h3, h7, Result.andThen]
    · rw [h6] at h5
      cases h5
      exact h8
/-- What is stored at a key. -/
theorem run_memo_put {P : Program} {w : World} {M : Nat} (h : Memo w M) (t kt et : TypeId) (ht : P.underlying t = some (.map kt et)) (hk : P.underlying kt = some .string) (k : ByteArray) (r : Bool) (hI : MemoI k r) :
    ∃ w', (Instr.mapUpdate t (.map (some M)) (.string k) (.bool r)).run P w = .ok () w' ∧ Only M w w' ∧ Memo w' M := by
  obtain ⟨es, clock, h1, h2⟩ := h
  have hkey : IsKey .string (.string k) := trivial
  have hOnly : ∀ o, Only M w { w with heap := w.heap.setIfInBounds M o } := fun o => ⟨rfl, rfl, rfl, by simp, fun i _ hne => (heap_set h1).2 i (fun e => hne (by rw [e]))⟩
  rcases findNow_spec hkey es.toList 0 (memo_keys h2) with ⟨h3, _⟩ | ⟨j, e, h3, h4, h5⟩
  · refine ⟨_, ?_, hOnly (.map (es.push { key := .string k, val := .bool r, born := clock }) (clock + 1)), ⟨_, _, (heap_set h1).1, fun x hx => ?_⟩⟩
    · simp [Instr.mapUpdate, run_underlying ht, MapKept.run_getObj_map h1, MapKept.run_checkKey hk hkey, MapKept.run_findKey hk h3, MapKept.run_setObj_map _ h1, Result.andThen]
    · simp only [Array.toList_push, List.mem_append, List.mem_singleton] at hx
      rcases hx with hx | rfl
      · exact h2 x hx
      · exact ⟨k, r, rfl, rfl, hI⟩
  · have hj : es[j]? = some e := by simpa using h4
    refine ⟨_, ?_, hOnly (.map (es.modify j fun e => { e with key := .string k, val := .bool r }) clock), ⟨_, _, (heap_set h1).1, fun x hx => ?_⟩⟩
    · simp [Instr.mapUpdate, run_underlying ht, MapKept.run_getObj_map h1, MapKept.run_checkKey hk hkey, MapKept.run_findKey hk h3, hj, h5, run_keyThatStays hkey, MapKept.run_setObj_map _ h1, Result.andThen]
    · obtain ⟨i, hi, he⟩ := List.getElem_of_mem hx
      have hi2 : (es.modify j fun e => { e with key := .string k, val := .bool r })[i]? = some x := by
        rw [← Array.getElem?_toList, List.getElem?_eq_getElem hi, he]
      rw [Array.getElem?_modify] at hi2
      split at hi2
      · cases hes : es[i]? with
        | none => rw [hes] at hi2; cases hi2
        | some y =>
          rw [hes] at hi2
          simp only [Option.map_some, Option.some.injEq] at hi2
          subst hi2
          exact ⟨k, r, rfl, rfl, hI⟩
      · exact h2 x (by rw [Array.mem_toList_iff]; exact Array.mem_of_getElem? hi2)
end Go.Proofs.YtmdbhcoioimlmaaGreat

/- The program's decider in memory: what it leaves as it was; the key of a sequent; proves, where decide is right. -/
namespace Go.Proofs.YtmdbhcoioimlmaaGreat
open Go.RowKit
open Fm (Tree)

theorem memo_ne {w : World} {M : Nat} (h : Memo w M) {b o : Nat} {u : Value} (hc : w.cell? ⟨b, o, none⟩ = some u) : b ≠ M := by
  rintro rfl
  obtain ⟨es, clock, h1, _⟩ := h
  simp [World.cell?, h1] at hc
theorem rd_only {w w' : World} {M k n : Nat} {v : Value} {xs : List Value} (h : Rd w k v n xs) (hM : Memo w M) (ho : Only M w w') : Rd w' k v n xs := by
  obtain ⟨h1, h2, h3⟩ := h
  refine ⟨h1, h2, ?_⟩
  rcases h3 with h3 | ⟨b, o, c, rfl, h4, h5, h6, h7⟩
  · exact .inl h3
  · exact .inr ⟨b, o, c, rfl, h4, h5, Nat.lt_of_lt_of_le h6 ho.size, fun j u hu => (ho.cell (p := ⟨b, o + j, none⟩) h6 (memo_ne hM (h7 j u hu))).trans (h7 j u hu)⟩
theorem TL.only {w w' : World} {M : Nat} {v : Value} {L : List Tree} (h : TL w v L) (hM : Memo w M) (ho : Only M w w') : TL w' v L := rd_only h hM ho
theorem nodes_only {w w' : World} {M : Nat} {v : Value} {xs : List Fm.Nd} (h : Nodes w v xs) (hM : Memo w M) (ho : Only M w w') : Nodes w' v xs := rd_only h hM ho
theorem Gls.only {w w' : World} {M : Nat} {v : Value} {ps : List Gl} (h : Gls w v ps) (hM : Memo w M) (ho : Only M w w') : Gls w' v ps := by
  rcases h with h | ⟨b, o, c, h1, h2, h3, h4, h5⟩
  · exact .inl h
  · refine .inr ⟨b, o, c, h1, h2, h3, Nat.lt_of_lt_of_le h4 ho.size, fun i p hp => ?_⟩
    obtain ⟨u, k1, k2, k3⟩ := h5 i p hp
    exact ⟨u, (ho.cell (p := ⟨b, o + i * 2, none⟩) h4 (memo_ne hM k1)).trans k1, (ho.cell (p := ⟨b, o + i * 2 + 1, none⟩) h4 (memo_ne hM k2)).trans k2, k3.only hM ho⟩
theorem BoxG.only {w w' : World} {M b : Nat} {v : Value} {r : ByteArray} (h : BoxG w b v r) (hM : Memo w M) (ho : Only M w w') : BoxG w' b v r :=
  ⟨Nat.lt_of_lt_of_le h.lt ho.size, (ho.cell (p := ⟨b, 0, none⟩) h.lt (memo_ne hM h.c0)).trans h.c0, (ho.cell (p := ⟨b, 1, none⟩) h.lt (memo_ne hM h.c1)).trans h.c1⟩
theorem BoxG.grew {w w' : World} {b : Nat} {v : Value} {r : ByteArray} (h : BoxG w b v r) (hg : Grew w w') : BoxG w' b v r := ⟨Nat.lt_of_lt_of_le h.lt hg.size, h.at0 _ hg, h.at1 _ hg⟩

/-- The decider: its struct in block D, its map in block M. -/
structure Dec (w : World) (D M : Nat) : Prop where
  lt : D < w.heap.size
  cell : w.cell? ⟨D, 0, none⟩ = some (.map (some M))
  memo : Memo w M
theorem Dec.grew {w w' : World} {D M : Nat} (h : Dec w D M) (hg : Grew w w') : Dec w' D M := ⟨Nat.lt_of_lt_of_le h.lt hg.size, (hg.cell (p := ⟨D, 0, none⟩) h.lt).trans h.cell, h.memo.grew hg⟩
theorem Dec.drew {w : World} {D M : Nat} (h : Dec w D M) : Dec w.drew D M := ⟨h.lt, h.cell, h.memo⟩
/-- What a call that remembers leaves. -/
structure DF (w : World) (D M : Nat) (w' : World) : Prop where
  only : Only M w w'
  dec : Dec w' D M
theorem DF.refl {w : World} {D M : Nat} (h : Dec w D M) : DF w D M w := ⟨Only.refl _ _, h⟩
theorem DF.grew {w a b : World} {D M : Nat} (h : DF w D M a) (hg : Grew a b) : DF w D M b := ⟨h.only.grew hg, h.dec.grew hg⟩
theorem DF.trans {w a b : World} {D M : Nat} (h : DF w D M a) (k : DF a D M b) : DF w D M b := ⟨h.only.trans k.only, k.dec⟩
theorem DF.of_grew {w a : World} {D M : Nat} (h : Dec w D M) (hg : Grew w a) : DF w D M a := ⟨hg.only, h.grew hg⟩
theorem DF.put {w a b : World} {D M : Nat} (h : DF w D M a) (ho : Only M a b) (hm : Memo b M) : DF w D M b :=
  ⟨h.only.trans ho, Nat.lt_of_lt_of_le h.dec.lt ho.size, (ho.cell (p := ⟨D, 0, none⟩) h.dec.lt (memo_ne h.dec.memo h.dec.cell)).trans h.dec.cell, hm⟩
/-- A decision. -/
def Decides (w : World) (D M : Nat) (r : Bool) (e : Ending) (w' : World) : Prop := e = .returned (.bool r) ∧ DF w D M w'

/-! The key. -/
theorem keyL_take {L : List ByteArray} {j : Nat} (h : j < L.length) : keyL (L.take (j + 1)) = keyL (L.take j) ++ ((st L j).data.toList ++ [47]) := by
  rw [List.take_succ_eq_append_getElem h, keyL_snoc, st_get h]
theorem keyL_len {L : List ByteArray} (h : ∀ s ∈ L, s.size ≤ 160) : (keyL L).length ≤ 161 * L.length := by
  induction L with
  | nil => simp [keyL]
  | cons a L ih =>
    have h1 := h a (.head _)
    have h2 := ih (fun s hs => h s (.tail _ hs))
    simp only [keyL, List.flatMap_cons, List.length_append, List.length_cons, List.length_nil] at *
    have h3 : a.data.toList.length = a.size := by simp
    omega
theorem bs_app (a : List UInt8) (b : ByteArray) (c : UInt8) : bs a ++ (b ++ (⟨#[c]⟩ : ByteArray)) = bs (a ++ (b.data.toList ++ [c])) := by
  have h1 : b = bs b.data.toList := (bs_eq b).symm
  have h2 : (⟨#[c]⟩ : ByteArray) = bs [c] := rfl
  rw [h2]
  conv => lhs; rw [h1]
  rw [bs_append, bs_append]
theorem bs_app1 (a : List UInt8) (c : UInt8) : bs a ++ (⟨#[c]⟩ : ByteArray) = bs (a ++ [c]) := by
  have h2 : (⟨#[c]⟩ : ByteArray) = bs [c] := rfl
  rw [h2, bs_append]

set_option maxHeartbeats 2000000 in
theorem sequentKey_c (v : Value) (T : List ByteArray) (r : ByteArray) (bR : Nat) (w : World) (h : Strs w v T) (hT : ∀ s ∈ T, s.size ≤ 160) (hr : r.size ≤ 160) (hn : T.length ≤ 2097152)
    (hR : ∀ W, Grew w W → W.cell? ⟨bR, 0, none⟩ = some (.string r)) :
    Calls Tryz.prog 112 #[.agg #[v, .slice (some ⟨bR, 0, none⟩) 1 1]] w fun e w' => e = .returned (.string (skey T r)) ∧ Grew w w' := by
  obtain ⟨A, cA, rfl⟩ := strs_slice h
  have hal := Lib.hid ((Grew.refl w).alloc (.cells #[.slice A T.length cA, .slice (some ⟨bR, 0, none⟩) 1 1] 107))
  have HS := Lib.hid (fun j hj => @keyL_take T j hj)
  have HLn := Lib.hid (fun j => Nat.le_trans (keyL_len (L := T.take j) (fun s hs => hT s (List.mem_of_mem_take hs))) (Nat.mul_le_mul_left 161 (by rw [List.length_take]; omega : (T.take j).length ≤ T.length)))
  have HZ : keyL (T.take T.length) = keyL T := by rw [List.take_length]
  have HSt := Lib.hid (fun j (hj : j < T.length) => (by have := hT _ (List.getElem_mem hj); rw [st_get hj] at this; exact this : (st T j).size ≤ 160))
  have r1 := Grew.refl (w.alloc (.cells #[.slice A T.length cA, .slice (some ⟨bR, 0, none⟩) 1 1] 107))
  have HB := Lib.hid (fun (x : List UInt8) => bs_app x r 47)
  have HO := Lib.hid (Strs.open_ h)
  have HRR := Lib.hid hR
  unfold skey
  rw [← HZ]
  clear h hT HZ hR
  generalize hN : T.length = n at *
  have HN := Lib.hid hN
  clear hN
  have hbx : ∀ W, Grew (w.alloc (.cells #[.slice A n cA, .slice (some ⟨bR, 0, none⟩) 1 1] 107)) W → W.cell? ⟨w.heap.size, 0, none⟩ = some (.slice A n cA) ∧ W.cell? ⟨w.heap.size, 1, none⟩ = some (.slice (some ⟨bR, 0, none⟩) 1 1) := fun W hW =>
    ⟨(hW.cell (p := ⟨w.heap.size, 0, none⟩) (by simp)).trans (by simp), (hW.cell (p := ⟨w.heap.size, 1, none⟩) (by simp)).trans (by simp)⟩
  have b0 := fun W hW => (hbx W hW).1
  have b1 := fun W hW => (hbx W hW).2
  clear hbx
  go_enter Tryz.func112, Tryz.ntmps112
  go_wp2_with fail
  generalize w.alloc (.cells #[.slice A n cA, .slice (some ⟨bR, 0, none⟩) 1 1] 107) = w1 at *
  go_loopw [3, 5, 11] (fun out _ i wr => ∃ j : Nat, j ≤ n ∧ i = .int .i64 j ∧ out = .string (bs (keyL (T.take j))) ∧ Grew w1 wr) (fun _ _ i _ => n - (intOf i).toNat)
  case atStart => exact ⟨0, Nat.zero_le _, rfl, rfl, r1⟩
  case round =>
    obtain ⟨j, hj, rfl, rfl, hB⟩ := hrel
    by_cases hlt : j < n
    · rcases HO.out with ⟨_, h2⟩ | ⟨b, o, c, hv, hc, hm, hb, hcell⟩
      · have := HN.out; rw [h2] at this; simp at this; omega
      obtain ⟨rfl, rfl⟩ : A = some ⟨b, o, none⟩ ∧ cA = c := by simpa using hv
      have k1 := hcell j hlt _ (hal.out.trans hB)
      have hst := HSt.out j hlt
      have hl := HLn.out j
      have hs1 := (bs_size (keyL (T.take j)))
      have hstep := Lib.hid (HS.out j hlt)
      have happ := Lib.hid (bs_app (keyL (T.take j)) (st T j) 47)
      clear hcell hv
      generalize st T j = x at *
      have e1 : ¬ 9223372036854775807 < x.size + (⟨#[47]⟩ : ByteArray).size := by show ¬ 9223372036854775807 < x.size + 1; omega
      have e2 : ¬ 9223372036854775807 < (bs (keyL (T.take j))).size + (x ++ (⟨#[47]⟩ : ByteArray)).size := by rw [ByteArray.size_append, hs1]; show ¬ 9223372036854775807 < _ + (x.size + 1); omega
      go_wp2_with fail
      go_roundw
      case rel => exact ⟨j + 1, by omega, by go_num, by rw [hstep.out, ← happ.out], hB⟩
      case measure => simp [intOf]; omega
    · obtain rfl : j = n := by omega
      have q1 := b1 _ hB
      have q2 := HRR.out _ (hal.out.trans hB)
      have hl := HLn.out j
      have hs1 := bs_size (keyL (T.take j))
      have h1 := bs_app1 (keyL (T.take j)) 59
      have h2 := HB.out (keyL (T.take j) ++ [59])
      have hs2 := bs_size (keyL (T.take j) ++ [59])
      rw [List.length_append] at hs2
      rw [← h1] at h2 hs2
      have HEND := Lib.hid h2
      have e1 : ¬ 9223372036854775807 < (bs (keyL (T.take j))).size + (⟨#[59]⟩ : ByteArray).size := by rw [hs1]; show ¬ 9223372036854775807 < _ + 1; omega
      have e2 : ¬ 9223372036854775807 < r.size + (⟨#[47]⟩ : ByteArray).size := by show ¬ 9223372036854775807 < r.size + 1; omega
      have e3 : ¬ 9223372036854775807 < (bs (keyL (T.take j)) ++ (⟨#[59]⟩ : ByteArray)).size + (r ++ (⟨#[47]⟩ : ByteArray)).size := by rw [hs2, ByteArray.size_append]; show ¬ 9223372036854775807 < _ + 1 + (r.size + 1); simp only [List.length_singleton] at *; omega
      clear h1 h2 hs2 hs1 HB HRR b0 b1 HS HSt HO HLn hlt hj
      go_wp2_with fail
      refine wp_loop_rounds 2 ?_
      rw [rounds_succ]
      go_wp2_with fail
      rw [rounds_succ]
      go_wp2_with fail
      go_ret
      exact ⟨congrArg (fun k => Ending.returned (Value.string k)) HEND.out, hal.out.trans hB⟩

/-- 'm[k] = r' where answers are remembered. -/
theorem wpList_memo {ops : Array Oper} {rest : List Oper} {o : Oper} {a : Act} {Q : Exit → Act → World → Prop} (w : World) (hg : o.guard = none) (m x v : Operand) (t : TypeId) (hop : o.op = Op.mapUpdate t m x v) (kt et : TypeId)
    (ht : Tryz.prog.underlying t = some (.map kt et)) (hk : Tryz.prog.underlying kt = some .string) (M : Nat) (k : ByteArray) (r : Bool) (hm : a.eval m = .map (some M)) (hx : a.eval x = .string k) (hv : a.eval v = .bool r) (hM : Memo w M) (hI : MemoI k r)
    (hK : ∀ w', Only M w w' → Memo w' M → wpList Tryz.prog ops Q rest (a.put o.dst undef) w') : wpList Tryz.prog ops Q (o :: rest) a w := by
  refine wpList_plain hg fun K' hK' => ?_
  obtain ⟨w', hrun, r1, r2⟩ := run_memo_put (P := Tryz.prog) hM t kt et ht hk k r hI
  unfold Oper.wp
  simp [execOp, hop, hm, hx, hv, hrun, Result.andThen]
  exact hK' _ _ (hK w' r1 r2)

set_option maxHeartbeats 4000000 in
/-- proves, where decide is right. -/
theorem proves_of (D M : Nat) (L : List Tree) (c : Tree) (v : Value) (w : World) (hS : OkS L c) (hD : Dec w D M) (h : TL w v L)
    (KD : ∀ W, DF w D M W → Calls Tryz.prog 113 #[.pointer (some ⟨D, 0, none⟩), .agg #[v, .string (tx c)]] W (Decides W D M (dc (EntL L c)))) :
    Calls Tryz.prog 88 #[.pointer (some ⟨D, 0, none⟩), .agg #[v, .string (tx c)]] w (Decides w D M (dc (EntL L c))) := by
  unfold Decides at *
  have hn : L.length ≤ 1048576 := Nat.le_trans (len_nu L c) hS.2.2
  have hI := Lib.hid (memoI_mk hS.1 hS.2.1)
  have hRk := Lib.hid (fun r (hr : MemoI (skey (L.map tx) (tx c)) r) => hr L c hS.1 hS.2.1 rfl)
  have hcs := tx_size hS.2.1.1
  obtain ⟨A, n, cA, rfl⟩ := h.slice
  have hbox := Lib.hid (BoxG.new w (.slice A n cA) (tx c) 85)
  have b0 := hbox.out.at0
  have b1 := hbox.out.at1
  have hal := Lib.hid ((Grew.refl w).alloc (.cells #[.slice A n cA, .string (tx c)] 85))
  have KS := Lib.hid (fun bR W (hW : Grew w W) hR => sequentKey_c (.slice A n cA) (L.map tx) (tx c) bR W (h.grew hW) (fun s hs => by obtain ⟨a, ha, rfl⟩ := List.mem_map.1 hs; exact tx_size (hS.1 a ha).1) hcs (by simp; omega) hR)
  have KD' := Lib.hid KD
  have HD := Lib.hid hD
  have hz : ∀ W, (zeroValue 4).run Tryz.prog W = .ok (.bool false) W := Tryz.zeroValue4
  have HLook := Lib.hid (fun W (hM : Memo W M) k => run_memo_look (P := Tryz.prog) hM 73 9 4 Tryz.underlying73 Tryz.underlying9 (hz W) k)
  have r1 := Grew.refl (w.alloc (.cells #[.slice A n cA, .string (tx c)] 85))
  generalize dc (EntL L c) = R at *
  generalize skey (L.map tx) (tx c) = key at *
  generalize tx c = tc at *
  clear KD hD hz h hS
  go_enter Tryz.func88, Tryz.ntmps88
  go_wp2_with fail
  have hs1 := Lib.hid (show (w.alloc (.cells #[.slice A n cA, .string tc] 85)).heap.size = w.heap.size + 1 by simp)
  generalize w.alloc (.cells #[.slice A n cA, .string tc] 85) = w1 at *
  have hcr : ∀ W, Grew (w1.alloc (.cells #[.string tc] 9)) W → W.cell? ⟨w.heap.size + 1, 0, none⟩ = some (.string tc) := fun W hW => by
    rw [← hs1.out]
    exact (hW.cell (p := ⟨w1.heap.size, 0, none⟩) (by simp)).trans (by simp)
  have ha1 := (Grew.refl w1).alloc (.cells #[.string tc] 9)
  refine (KS.out (w.heap.size + 1) _ (hal.out.trans ha1) hcr).mono ?_
  rintro e w2 ⟨rfl, hg2⟩
  have g12 := ha1.trans hg2
  have g2 := hal.out.trans g12
  have hD2 := HD.out.grew g2
  have d1 := hD2.cell
  obtain ⟨r, ok, hrun, hok⟩ := HLook.out w2 hD2.memo key
  have q0 := b0 _ g12
  have q1 := b1 _ g12
  have HDF := Lib.hid (DF.of_grew HD.out g2)
  cases ok with
  | true =>
    have hr := Lib.hid (hRk.out _ (hok rfl))
    go_wp2_with fail
    go_ret
    exact ⟨congrArg (fun k => Ending.returned (Value.bool k)) hr.out, HDF.out⟩
  | false =>
    clear hok
    go_wp2_with fail
    refine (KD'.out _ HDF.out).mono ?_
    rintro e w3 ⟨rfl, hF3⟩
    have d3 := hF3.dec.cell
    have m3 := hF3.dec.memo
    go_wp2_with (first | (at_mapUpdate; refine wpList_memo _ rfl _ _ _ 73 rfl 9 4 Tryz.underlying73 Tryz.underlying9 M key R rfl rfl rfl m3 hI.out ?_; intro w4 ho4 hm4))
    go_wp2_with fail
    go_ret
    exact ⟨rfl, (HDF.out.trans hF3).put ho4 hm4⟩
end Go.Proofs.YtmdbhcoioimlmaaGreat

/- Predicates that remember: IndexFunc, ContainsFunc over sequents and over texts; all of the decider. -/
namespace Go.Proofs.YtmdbhcoioimlmaaGreat
open Go.RowKit
open Fm (Tree)

/-- None of the first k elements meets the predicate. -/
def NoneA {α : Type} (q : α → Bool) (ps : List α) (k : Nat) : Prop := ∀ i p, i < k → ps[i]? = some p → q p = false
theorem NoneA.zero {α : Type} (q : α → Bool) (ps : List α) : NoneA q ps 0 := fun i p hi => absurd hi (by omega)
theorem NoneA.succ {α : Type} {q : α → Bool} {ps : List α} {k : Nat} {x : α} (h : NoneA q ps k) (hx : ps[k]? = some x) (h1 : q x = false) : NoneA q ps (k + 1) := by
  intro i p hi hp
  rcases Nat.lt_or_ge i k with hk | hk
  · exact h i p hk hp
  · obtain rfl : i = k := by omega
    rw [hx] at hp; cases hp; exact h1
theorem noneA_any {α : Type} {q : α → Bool} {ps : List α} (h : NoneA q ps ps.length) : ps.any q = false := by
  rw [List.any_eq_false]
  intro x hx
  obtain ⟨i, hi, rfl⟩ := List.getElem_of_mem hx
  rw [h i _ hi (List.getElem?_eq_getElem hi)]; simp
theorem anyA_at {α : Type} {q : α → Bool} {ps : List α} {k : Nat} {x : α} (hx : ps[k]? = some x) (h : q x = true) : ps.any q = true :=
  List.any_eq_true.2 ⟨x, List.mem_of_getElem? hx, h⟩

theorem indexFuncG_c (D M : Nat) (v : Value) (ps : List Gl) (f : Nat) (caps : Array Value) (q : Gl → Bool) (w : World) (hD : Dec w D M) (h : Gls w v ps)
    (hf : ∀ W, DF w D M W → ∀ p u, p ∈ ps → TL W u p.1 → Calls Tryz.prog f (#[.agg #[u, .string (tx p.2)]] ++ caps) W (Decides W D M (q p))) (eg : ∀ args w, (callFunc f args).run Tryz.prog w = .ok (.enter f args) w) :
    Calls Tryz.prog 161 #[v, .func (.func f) #[] caps] w fun e w' => ∃ r : Int, e = .returned (.int .i64 r) ∧ DF w D M w' ∧ decide (0 ≤ r) = ps.any q := by
  obtain ⟨R, hR⟩ : ∃ R, R = ps.any q := ⟨_, rfl⟩
  rw [← hR]
  have HG := Lib.hid h
  have hdf := DF.refl hD
  rcases h with ⟨rfl, rfl⟩ | ⟨b, o, c, rfl, hc, hm, hb, hcell⟩
  · have hv := Lib.hid (show R = false from hR.trans rfl)
    clear hR hf HG
    go_enter Tryz.func161, Tryz.ntmps161
    go_wp2_with fail
    refine wp_loop_rounds 1 ?_; rw [rounds_succ]
    go_wp2_with fail
    go_ret
    exact ⟨_, rfl, hdf, by rw [hv.out]; rfl⟩
  have HX := Lib.hid (fun j (hj : j < ps.length) => (⟨ps[j], List.getElem?_eq_getElem hj⟩ : ∃ p, ps[j]? = some p))
  have HA := Lib.hid (fun k p (hk : ps[k]? = some p) he => hR.trans (anyA_at hk he))
  have HZ := Lib.hid (fun h => hR.trans (@noneA_any _ q ps h))
  have HF := Lib.hid hf
  have HD := Lib.hid hD
  have HDF := Lib.hid hdf
  clear hcell hf hR hD hdf
  generalize hN : ps.length = n at *
  clear hN
  go_enter Tryz.func161, Tryz.ntmps161
  go_wp2_with fail
  go_loopw [5, 8] (fun _ i wr => ∃ j : Nat, j ≤ n ∧ i = .int .i64 j ∧ Hid (DF w D M wr) ∧ Hid (NoneA q ps j)) (fun _ i _ => n - (intOf i).toNat)
  case atStart => exact ⟨0, Nat.zero_le _, rfl, HDF, NoneA.zero _ _⟩
  case round =>
    obtain ⟨j, hj, rfl, hB, HJ⟩ := hrel
    by_cases hlt : j < n
    · obtain ⟨p, hp⟩ := HX.out j hlt
      rcases HG.out.only HD.out.memo hB.out.only with ⟨hv, _⟩ | ⟨b', o', c', hv, _, _, _, hcell⟩
      · cases hv
      obtain ⟨u, k1, k2, hu⟩ := hcell j p hp
      obtain ⟨⟨rfl, rfl⟩, -⟩ : (b = b' ∧ o = o') ∧ _ := by simpa using hv
      have hz := Lib.hid (HF.out wr hB.out p u (List.mem_of_getElem? hp) hu)
      have hA := Lib.hid (HA.out j p hp)
      have hS := Lib.hid (fun h => HJ.out.succ (k := j) hp h)
      obtain ⟨Au, nu', cu, rfl⟩ := hu.slice
      clear hcell hv hu hp
      generalize tx p.2 = tp at *
      go_wp2_with fail
      go_at_fn f
      refine (hz.out).mono ?_
      rintro e w1 ⟨rfl, hF1⟩
      have hB1 := Lib.hid (hB.out.trans hF1)
      cases hp : q p with
      | true =>
        have hv := hA.out hp
        go_wp2_with fail
        go_ret
        exact ⟨_, rfl, hB1.out, by rw [hv]; simp⟩
      | false =>
        have hs := Lib.hid (hS.out hp)
        go_wp2_with fail
        go_roundw
        case rel => exact ⟨j + 1, by omega, by go_num, hB1, hs⟩
        case measure => simp [intOf]; omega
    · obtain rfl : j = n := by omega
      have hv := Lib.hid (HZ.out HJ.out)
      go_wp2_with fail
      go_ret
      exact ⟨_, rfl, hB.out, by rw [hv.out]; rfl⟩
theorem containsFuncG_c (D M : Nat) (v : Value) (ps : List Gl) (f : Nat) (caps : Array Value) (q : Gl → Bool) (w : World) (hD : Dec w D M) (h : Gls w v ps)
    (hf : ∀ W, DF w D M W → ∀ p u, p ∈ ps → TL W u p.1 → Calls Tryz.prog f (#[.agg #[u, .string (tx p.2)]] ++ caps) W (Decides W D M (q p))) (eg : ∀ args w, (callFunc f args).run Tryz.prog w = .ok (.enter f args) w) :
    Calls Tryz.prog 145 #[v, .func (.func f) #[] caps] w (Decides w D M (ps.any q)) := by
  have HI := Lib.hid (indexFuncG_c D M v ps f caps q w hD h hf eg)
  unfold Decides
  obtain ⟨A, n, c, rfl⟩ : ∃ A n c, v = .slice A n c := by
    rcases h with ⟨rfl, _⟩ | ⟨b, o, c, rfl, _⟩
    · exact ⟨_, _, _, rfl⟩
    · exact ⟨_, _, _, rfl⟩
  clear h hf eg hD
  generalize ps.any q = R at *
  go_enter Tryz.func145, Tryz.ntmps145
  go_wp2_with fail
  refine HI.out.mono ?_
  rintro e w1 ⟨r, rfl, hg1, hr⟩
  go_wp2_with fail
  go_ret
  exact ⟨by rw [← hr]; rfl, hg1⟩

theorem indexFuncX_c (D M : Nat) (v : Value) (L : List Tree) (f : Nat) (caps : Array Value) (q : Tree → Bool) (w : World) (hD : Dec w D M) (h : TL w v L)
    (hf : ∀ W, DF w D M W → ∀ t, t ∈ L → Calls Tryz.prog f (#[.string (tx t)] ++ caps) W (Decides W D M (q t))) (eg : ∀ args w, (callFunc f args).run Tryz.prog w = .ok (.enter f args) w) :
    Calls Tryz.prog 87 #[v, .func (.func f) #[] caps] w fun e w' => ∃ r : Int, e = .returned (.int .i64 r) ∧ DF w D M w' ∧ decide (0 ≤ r) = L.any q := by
  obtain ⟨R, hR⟩ : ∃ R, R = L.any q := ⟨_, rfl⟩
  rw [← hR]
  have HG : Hid (Strs w v (L.map tx)) := Lib.hid h
  have hdf := DF.refl hD
  obtain ⟨A, c, rfl⟩ := strs_slice (show Strs w v (L.map tx) from h)
  have hl : (L.map tx).length = L.length := by simp
  have HX := Lib.hid (fun j (hj : j < L.length) => (⟨L[j], List.getElem?_eq_getElem hj⟩ : ∃ p, L[j]? = some p))
  have HA := Lib.hid (fun k p (hk : L[k]? = some p) he => hR.trans (anyA_at hk he))
  have HZ := Lib.hid (fun h => hR.trans (@noneA_any _ q L h))
  have HF := Lib.hid hf
  have HD := Lib.hid hD
  have HDF := Lib.hid hdf
  have HT := Lib.hid (fun (j : Nat) t (hj : L[j]? = some t) => (show (scells (L.map tx))[j]? = some (Value.string (tx t)) by simp [scells, hj]))
  have HL0 := Lib.hid (fun (h0 : (L.map tx).length = 0) => (by simpa using h0 : L = []))
  have hmax : L.length ≤ 9223372036854775807 := by have := HG.out.2.1; rwa [hl] at this
  rw [hl] at HL0
  have hl' := hl
  clear h hf hR hD hdf hl
  have HN := Lib.hid (fun (h0 : L = []) => (by rw [h0]; rfl : L.length = 0))
  rw [hl']
  rw [hl'] at HG
  generalize hN : L.length = n at *
  clear hN
  go_enter Tryz.func87, Tryz.ntmps87
  go_wp2_with fail
  go_loopw [5, 8] (fun _ i wr => ∃ j : Nat, j ≤ n ∧ i = .int .i64 j ∧ Hid (DF w D M wr) ∧ Hid (NoneA q L j)) (fun _ i _ => n - (intOf i).toNat)
  case atStart => exact ⟨0, Nat.zero_le _, rfl, HDF, NoneA.zero _ _⟩
  case round =>
    obtain ⟨j, hj, rfl, hB, HJ⟩ := hrel
    by_cases hlt : j < n
    · obtain ⟨p, hp⟩ := HX.out j hlt
      obtain ⟨_, _, hcs⟩ := rd_only HG.out HD.out.memo hB.out.only
      rcases hcs with ⟨_, h0⟩ | ⟨b, o, c', hv, h4, h5, h6, hcell⟩
      · have := HN.out (HL0.out (hl' ▸ h0)); omega
      obtain ⟨rfl, -⟩ : A = some ⟨b, o, none⟩ ∧ _ := by simpa using hv
      have k1 := hcell j _ (HT.out j p hp)
      have hz := Lib.hid (HF.out wr hB.out p (List.mem_of_getElem? hp))
      have hA := Lib.hid (HA.out j p hp)
      have hS := Lib.hid (fun h => HJ.out.succ (k := j) hp h)
      clear hcell hv hp
      generalize tx p = tp at *
      go_wp2_with fail
      go_at_fn f
      refine (hz.out).mono ?_
      rintro e w1 ⟨rfl, hF1⟩
      have hB1 := Lib.hid (hB.out.trans hF1)
      cases hp : q p with
      | true =>
        have hv := hA.out hp
        go_wp2_with fail
        go_ret
        exact ⟨_, rfl, hB1.out, by rw [hv]; simp⟩
      | false =>
        have hs := Lib.hid (hS.out hp)
        go_wp2_with fail
        go_roundw
        case rel => exact ⟨j + 1, by omega, by go_num, hB1, hs⟩
        case measure => simp [intOf]; omega
    · obtain rfl : j = n := by omega
      have hv := Lib.hid (HZ.out HJ.out)
      go_wp2_with fail
      go_ret
      exact ⟨_, rfl, hB.out, by rw [hv.out]; rfl⟩
theorem containsFuncX_c (D M : Nat) (v : Value) (L : List Tree) (f : Nat) (caps : Array Value) (q : Tree → Bool) (w : World) (hD : Dec w D M) (h : TL w v L)
    (hf : ∀ W, DF w D M W → ∀ t, t ∈ L → Calls Tryz.prog f (#[.string (tx t)] ++ caps) W (Decides W D M (q t))) (eg : ∀ args w, (callFunc f args).run Tryz.prog w = .ok (.enter f args) w) :
    Calls Tryz.prog 49 #[v, .func (.func f) #[] caps] w (Decides w D M (L.any q)) := by
  have HI := Lib.hid (indexFuncX_c D M v L f caps q w hD h hf eg)
  unfold Decides
  obtain ⟨A, n, c, rfl⟩ := h.slice
  clear h hf eg hD
  generalize L.any q = R at *
  go_enter Tryz.func49, Tryz.ntmps49
  go_wp2_with fail
  refine HI.out.mono ?_
  rintro e w1 ⟨r, rfl, hg1, hr⟩
  go_wp2_with fail
  go_ret
  exact ⟨by rw [← hr]; rfl, hg1⟩
end Go.Proofs.YtmdbhcoioimlmaaGreat

/- all of the decider. -/
namespace Go.Proofs.YtmdbhcoioimlmaaGreat
open Go.RowKit
open Fm (Tree)

/-- proves is right for all sequents that are smaller. -/
def PrOk (D M n : Nat) : Prop := ∀ L c v W, OkS L c → mu L c < n → Dec W D M → TL W v L →
  Calls Tryz.prog 88 #[.pointer (some ⟨D, 0, none⟩), .agg #[v, .string (tx c)]] W (Decides W D M (dc (EntL L c)))
theorem DF.cell {w W : World} {D M b o : Nat} {u : Value} (h : DF w D M W) (hM : Memo w M) (hc : w.cell? ⟨b, o, none⟩ = some u) (hb : b < w.heap.size) : W.cell? ⟨b, o, none⟩ = some u :=
  (h.only.cell (p := ⟨b, o, none⟩) hb (memo_ne hM hc)).trans hc
theorem Decides.then {w a b : World} {D M : Nat} {r : Bool} {e : Ending} (h : DF w D M a) (k : Decides a D M r e b) : Decides w D M r e b := ⟨k.1, h.trans k.2⟩

theorem all1_c (D M bd : Nat) (u : Value) (p : Gl) (W : World) (hD : Dec W D M) (h : TL W u p.1) (hp : OkS p.1 p.2) (n : Nat) (hn : mu p.1 p.2 < n) (hP : PrOk D M n) (hb : ∀ V, Grew W V → V.cell? ⟨bd, 0, none⟩ = some (.pointer (some ⟨D, 0, none⟩))) :
    Calls Tryz.prog 146 (#[.agg #[u, .string (tx p.2)]] ++ #[.pointer (some ⟨bd, 0, none⟩)]) W (Decides W D M (!dc (EntL p.1 p.2))) := by
  unfold Decides
  obtain ⟨A, m, c, rfl⟩ := h.slice
  have HP := Lib.hid (fun V (hV : Grew W V) => hP p.1 p.2 (.slice A m c) V hp hn (hD.grew hV) (h.grew hV))
  have HD := Lib.hid hD
  have hal := (Grew.refl W).alloc (.cells #[.slice A m c, .string (tx p.2)] 85)
  have HG := Lib.hid hal
  have q0 := hb _ hal
  clear h hp hn hP hD hb
  generalize dc (EntL p.1 p.2) = R at *
  generalize tx p.2 = tp at *
  go_enter Tryz.func146, Tryz.ntmps146
  go_wp2_with fail
  refine (HP.out _ HG.out).mono ?_
  rintro e w1 ⟨rfl, h1⟩
  go_wp2_with fail
  go_ret
  exact ⟨rfl, (DF.of_grew HD.out HG.out).trans h1⟩
theorem allB_any (ps : List Gl) : (!ps.any fun p => !dc (EntL p.1 p.2)) = allB ps := by
  unfold allB
  induction ps with
  | nil => rfl
  | cons p ps ih => rw [List.any_cons, List.all_cons, ← ih, Bool.not_or, Bool.not_not]
theorem all_c (D M n : Nat) (v : Value) (ps : List Gl) (w : World) (hD : Dec w D M) (h : Gls w v ps) (hP : PrOk D M n) (hps : ∀ p ∈ ps, OkS p.1 p.2 ∧ mu p.1 p.2 < n) :
    Calls Tryz.prog 126 #[.pointer (some ⟨D, 0, none⟩), v] w (Decides w D M (allB ps)) := by
  have hr := Grew.refl w
  have hal := hr.alloc (.cells #[.pointer (some ⟨D, 0, none⟩)] 46)
  have HG := Lib.hid hal
  have HD := Lib.hid hD
  have hc : (w.alloc (.cells #[.pointer (some ⟨D, 0, none⟩)] 46)).cell? ⟨w.heap.size, 0, none⟩ = some (.pointer (some ⟨D, 0, none⟩)) := by simp
  have hsz : w.heap.size < (w.alloc (.cells #[.pointer (some ⟨D, 0, none⟩)] 46)).heap.size := by simp
  have HI := Lib.hid (containsFuncG_c D M v ps 146 #[.pointer (some ⟨w.heap.size, 0, none⟩)] (fun p => !dc (EntL p.1 p.2)) _ (hD.grew hal) (h.grew hal)
    (fun W hW p u hp hu => all1_c D M w.heap.size u p W hW.dec hu (hps p hp).1 n (hps p hp).2 hP (fun V hV => (hV.cell (p := ⟨w.heap.size, 0, none⟩) (Nat.lt_of_lt_of_le hsz hW.only.size)).trans (hW.cell (hD.grew hal).memo hc hsz)))
    (enters_of Tryz.func146 (by kernel_rfl) rfl))
  have HE := Lib.hid (allB_any ps)
  unfold Decides
  obtain ⟨A, m, c, rfl⟩ : ∃ A n c, v = .slice A n c := by
    rcases h with ⟨rfl, _⟩ | ⟨b, o, c, rfl, _⟩
    · exact ⟨_, _, _, rfl⟩
    · exact ⟨_, _, _, rfl⟩
  clear hP hps h hD hal hc hsz hr
  generalize allB ps = R at *
  generalize (ps.any fun p => !dc (EntL p.1 p.2)) = R2 at *
  go_enter Tryz.func126, Tryz.ntmps126
  go_wp2_with fail
  refine HI.out.mono ?_
  rintro e w1 ⟨rfl, h1⟩
  go_wp2_with fail
  go_ret
  exact ⟨by rw [HE.out]; rfl, (DF.of_grew HD.out HG.out).trans h1⟩
end Go.Proofs.YtmdbhcoioimlmaaGreat

/- The closures of tries: a part of a disjunction, an implication of an implication. Printed by decz.py. -/
namespace Go.Proofs.YtmdbhcoioimlmaaGreat
open Go.RowKit
open Fm (Tree)

theorem DF.alloc {w a : World} {D M : Nat} (h : DF w D M a) (o : Obj) : DF w D M (a.alloc o) := h.grew ((Grew.refl a).alloc o)
theorem DF.drew {w a : World} {D M : Nat} (h : DF w D M a) : DF w D M a.drew := h.grew (Grew.refl a).drew
theorem TL.df {w W : World} {D M : Nat} {v : Value} {L : List Tree} (h : TL w v L) (hD : Dec w D M) (hF : DF w D M W) : TL W v L := h.only hD.memo hF.only
theorem nodes_df {w W : World} {D M : Nat} {v : Value} {xs : List Fm.Nd} (h : Nodes w v xs) (hD : Dec w D M) (hF : DF w D M W) : Nodes W v xs := nodes_only h hD.memo hF.only

/-- The boxes that the closures read: the decider, the sequent. -/
structure Boxes (w : World) (D M bd bg : Nat) (v : Value) (r : ByteArray) : Prop where
  d0 : ∀ V, DF w D M V → V.cell? ⟨bd, 0, none⟩ = some (.pointer (some ⟨D, 0, none⟩))
  g0 : ∀ V, DF w D M V → V.cell? ⟨bg, 0, none⟩ = some v
  g1 : ∀ V, DF w D M V → V.cell? ⟨bg, 1, none⟩ = some (.string r)
theorem Boxes.df {w W : World} {D M bd bg : Nat} {v : Value} {r : ByteArray} (h : Boxes w D M bd bg v r) (hF : DF w D M W) : Boxes W D M bd bg v r :=
  ⟨fun V hV => h.d0 V (hF.trans hV), fun V hV => h.g0 V (hF.trans hV), fun V hV => h.g1 V (hF.trans hV)⟩

set_option maxHeartbeats 2000000 in
theorem tries1_c (D M bd bg n : Nat) (v : Value) (r : ByteArray) (L : List Tree) (p : Tree) (w : World) (hD : Dec w D M) (h : TL w v L) (hB : Boxes w D M bd bg v r) (hS : OkS L p) (hn : mu L p < n) (hP : PrOk D M n) :
    Calls Tryz.prog 149 (#[.string (tx p)] ++ #[.pointer (some ⟨bd, 0, none⟩), .pointer (some ⟨bg, 0, none⟩)]) w (Decides w D M (dc (EntL L p))) := by
  unfold Decides
  obtain ⟨A, m, c, rfl⟩ := h.slice
  have HP := Lib.hid (fun V (hV : Grew w V) => hP L p (.slice A m c) V hS hn (hD.grew hV) (h.grew hV))
  have HD := Lib.hid hD
  have d0 := hB.d0
  have g0 := hB.g0
  have g1 := hB.g1
  have f0 := (DF.refl hD).drew
  have r0 := (Grew.refl w).drew
  clear h hS hn hP hD hB
  generalize dc (EntL L p) = R at *
  generalize tx p = tp at *
  go_enter Tryz.func149, Tryz.ntmps149
  go_wp2_with fail
  go_region_held3 (fun w' => DF w D M w') (first | with_reducible assumption)
    (first
     | (go_at_call 88; refine (HP.out _ hk1).mono ?_; rintro e w2 ⟨rfl, h2⟩; have f2 := f1.trans h2)
     | (go_at_call 127; refine (proving_c A m c r tp _).mono ?_; rintro e w1 ⟨rfl, hg1⟩; have hk1 := r0.trans hg1; have f1 := f0.grew hg1))
  go_wp2_with fail
  go_ret
  exact ⟨rfl, f2⟩

/-- Does an implication of an implication give the right side? -/
noncomputable def wayT (L : List Tree) (c : Tree) : Tree → Bool
  | .imp (.imp x y) z => dc (EntL (dropT L (.imp (.imp x y) z) ++ [.imp y z]) (.imp x y)) && dc (EntL (dropT L (.imp (.imp x y) z) ++ [z]) c)
  | _ => false
theorem wayT_ii (L : List Tree) (c x y z : Tree) : wayT L c (.imp (.imp x y) z) = (dc (EntL (dropT L (.imp (.imp x y) z) ++ [.imp y z]) (.imp x y)) && dc (EntL (dropT L (.imp (.imp x y) z) ++ [z]) c)) := rfl
theorem ins_dc {L : List Tree} {t a d : Tree} {P : List Tree} (h : Ins L t [a] P) : dc (EntL P d) = dc (EntL (dropT L t ++ [a]) d) :=
  dc_congr (entL_congr fun b => h.mem b)

set_option maxHeartbeats 4000000 in
theorem tries2_c (D M bd bg : Nat) (v : Value) (L : List Tree) (c t : Tree) (w : World) (hD : Dec w D M) (h : TL w v L) (hB : Boxes w D M bd bg v (tx c)) (hS : OkS L c) (ht : t ∈ L) (hP : PrOk D M (mu L c)) :
    Calls Tryz.prog 150 (#[.string (tx t)] ++ #[.pointer (some ⟨bd, 0, none⟩), .pointer (some ⟨bg, 0, none⟩)]) w (Decides w D M (wayT L c t)) := by
  unfold Decides
  have HT := Lib.hid ht
  have HF := Lib.hid (hS.1 t ht)
  have HS := Lib.hid hS
  have HL := Lib.hid h
  have HD := Lib.hid hD
  have HBx := Lib.hid hB
  have HPr := Lib.hid hP
  have hnL : L.length ≤ 1048576 := Nat.le_trans (len_nu L c) hS.2.2
  have KTree := Lib.hid (fun W => treeOf_c t W HF.out)
  obtain ⟨Av, nv, cv, rfl⟩ := h.slice
  clear h ht hS hP hD hB
  by_cases hi : ∃ x z, t = .imp x z
  case neg =>
    have hk : (kindOf t != 4) = true := not_imp_kind (fun p q e => hi ⟨p, q, e⟩)
    have hw : wayT L c t = false := by
      cases t with
      | imp p q => exact absurd ⟨p, q, rfl⟩ hi
      | _ => rfl
    rw [hw]
    have hk4 : kindOf t ≠ 4 := by simpa using hk
    clear hi hw hk
    generalize tx t = ts at *
    go_enter Tryz.func150, Tryz.ntmps150
    go_wp2_with fail
    refine (KTree.out _).mono ?_
    rintro e w1 ⟨va, rfl, hva, hg1⟩
    obtain ⟨bx, ox, nx, cx, rfl, hnx, hnxe, hkx⟩ := head_t hva
    have hnnx : (0 : Int) < (nx : Int) := by omega
    have k0 := hkx _ (Grew.refl w1)
    clear hva hkx hnxe
    generalize kindOf t = k at *
    go_wp2_with fail
    go_ret
    exact ⟨rfl, DF.of_grew HD.out hg1⟩
  obtain ⟨x, b, rfl⟩ := hi
  have hfx := (fmOk_imp HF.out).1
  have HFB := Lib.hid (fmOk_imp HF.out).2
  by_cases hi : ∃ p q, x = .imp p q
  case neg =>
    have hk : (kindOf x != 4) = true := not_imp_kind (fun p q e => hi ⟨p, q, e⟩)
    have hw : wayT L c (.imp x b) = false := by
      cases x with
      | imp p q => exact absurd ⟨p, q, rfl⟩ hi
      | _ => rfl
    rw [hw]
    have hk4 : kindOf x ≠ 4 := by simpa using hk
    have KL := Lib.hid (fun va W h => first_t (two_imp x b) HF.out va W h)
    clear hi hw hk
    generalize tx (.imp x b) = ts at *
    go_enter Tryz.func150, Tryz.ntmps150
    go_wp2_with fail
    refine (KTree.out _).mono ?_
    rintro e w1 ⟨va, rfl, hva, hg1⟩
    have HVA := Lib.hid hva
    obtain ⟨bx, ox, nx, cx, rfl, hnx, hnxe, hkx⟩ := head_t hva
    have hnnx : (0 : Int) < (nx : Int) := by omega
    have k0 := hkx _ (Grew.refl w1)
    simp only [kindOf] at k0
    clear hva hkx hnxe
    go_wp2_with fail
    refine (KL.out _ _ HVA.out).mono ?_
    rintro e w2 ⟨vx, rfl, hvx, hg2⟩
    obtain ⟨by', oy, ny, cy, rfl, hny, hnye, hky⟩ := head_t hvx
    have hnny : (0 : Int) < (ny : Int) := by omega
    have k1 := hky _ (Grew.refl w2)
    clear hvx hky hnye
    generalize kindOf x = k at *
    go_wp2_with fail
    go_ret
    exact ⟨rfl, DF.of_grew HD.out (hg1.trans hg2)⟩
  obtain ⟨p, q, rfl⟩ := hi
  obtain ⟨hfp, hfq, hfb, hfpq, hfqb⟩ := fmOk_imp_imp HF.out
  have HQB := Lib.hid hfqb
  have HN : Hid (nn q + nn b ≤ 100) := Lib.hid (by have := fmOk_nn hfqb; rw [nn_imp] at this; omega)
  have KL := Lib.hid (fun va W h => first_t (two_imp (.imp p q) b) HF.out va W h)
  have KR := Lib.hid (fun va W h => second_t (two_imp (.imp p q) b) HF.out va W h)
  have KP1 := Lib.hid (fun P u V (hI : Ins L (.imp (.imp p q) b) [.imp q b] P) (hV : Dec V D M) (hu : TL V u P) => by
    obtain ⟨Q, hQ⟩ := ins_ex HS.out.1 (.imp (.imp p q) b) [b] (ok_one hfb)
    have hm := (mv_ii HS.out HT.out hI hQ).1
    have := HPr.out P (.imp p q) u V hm.1 hm.2 hV hu
    rw [ins_dc hI] at this
    exact this)
  have KP2 := Lib.hid (fun Q u V (hI : Ins L (.imp (.imp p q) b) [b] Q) (hV : Dec V D M) (hu : TL V u Q) => by
    obtain ⟨P, hP⟩ := ins_ex HS.out.1 (.imp (.imp p q) b) [.imp q b] (ok_one hfqb)
    have hm := (mv_ii HS.out HT.out hP hI).2.1
    have := HPr.out Q c u V hm.1 hm.2 hV hu
    rw [ins_dc hI] at this
    exact this)
  rw [wayT_ii]
  have KI0 := Lib.hid (fun K vk V (hV : DF w D M V) (hk : TL V vk K) (hK : ∀ a ∈ K, FmOk a) (hl : K.length ≤ 2) => instead_c _ vk L K (.imp (.imp p q) b) (tx c) V (HL.out.df HD.out hV) hk HS.out.1 hK HF.out (by omega))
  clear hfx hfp hfq hfb hfpq hfqb HPr HS HT
  generalize dc (EntL (dropT L (.imp (.imp p q) b) ++ [.imp q b]) (.imp p q)) = R1 at *
  generalize dc (EntL (dropT L (.imp (.imp p q) b) ++ [b]) c) = R2 at *
  have hfpq := (fmOk_imp HF.out).1
  have HF' := HF
  clear HF
  generalize tx (.imp (.imp p q) b) = ts at *
  have KA := Lib.hid (fun (W1 W2 W3 : World) (_ : Grew w W1) (hg2 : Grew W1 W2) (hg3 : Grew W2 W3) => hg2.trans hg3)
  have walk : ∀ (hR : Bool), R1 = hR → Calls Tryz.prog 150 (#[.string ts] ++ #[.pointer (some ⟨bd, 0, none⟩), .pointer (some ⟨bg, 0, none⟩)]) w (fun e w' => e = .returned (.bool (R1 && R2)) ∧ DF w D M w') := by
    intro hR hRe
    subst hRe
    go_enter Tryz.func150, Tryz.ntmps150
    go_wp2_with fail
    refine (KTree.out _).mono ?_
    rintro e w1 ⟨va, rfl, hva, hg1⟩
    have HVA := Lib.hid hva
    obtain ⟨bx, ox, nx, cx, rfl, hnx, hnxe, hkx⟩ := head_t hva
    have hnnx : (0 : Int) < (nx : Int) := by omega
    have k0 := hkx _ (Grew.refl w1)
    simp only [kindOf] at k0
    clear hva hkx hnxe
    go_wp2_with fail
    refine (KL.out _ _ HVA.out).mono ?_
    rintro e w2 ⟨vx, rfl, hvx, hg2⟩
    obtain ⟨by', oy, ny, cy, rfl, hny, hnye, hky⟩ := head_t hvx
    have hnny : (0 : Int) < (ny : Int) := by omega
    have k1 := hky _ (Grew.refl w2)
    simp only [kindOf] at k1
    clear hvx hky hnye
    go_wp2_with fail
    refine (KL.out _ _ (HVA.out.grew hg2)).mono ?_
    rintro e w3 ⟨vx2, rfl, hvx2, hg3⟩
    have HX := Lib.hid hvx2
    obtain ⟨Ax, nx2, cx2, rfl⟩ := slice3 hvx2
    clear hvx2
    go_wp2_with fail
    refine (KR.out _ _ (HVA.out.grew (hg2.trans hg3))).mono ?_
    rintro e w4 ⟨vb, rfl, hvb, hg4⟩
    have g4 := ((hg1.trans hg2).trans hg3).trans hg4
    have hD4 := HD.out.grew g4
    have HF4 := Lib.hid (DF.of_grew HD.out g4)
    have hX4 := HX.out.grew hg4
    have KS := Lib.hid (fun V (hV : DF w4 D M V) => second_t (two_imp p q) hfpq _ V (nodes_df hX4 hD4 hV))
    have KX := Lib.hid (fun V (hV : DF w4 D M V) => text_t (.imp p q) _ V hfpq (nodes_df hX4 hD4 hV))
    have KT := Lib.hid (fun V (hV : DF w4 D M V) => text_t b _ V HFB.out (nodes_df hvb hD4 hV))
    have HB := Lib.hid (fun V (hV : DF w4 D M V) => nodes_df hvb hD4 hV)
    obtain ⟨Ab, nb, cb, rfl⟩ := slice3 hvb
    have KI := Lib.hid (fun K vk V (hV : DF w4 D M V) => KI0.out K vk V (HF4.out.trans hV))
    have f0 := (DF.refl hD4).drew
    have d0 := fun V (hV : DF w4 D M V) => HBx.out.d0 V (HF4.out.trans hV)
    have g0 := fun V (hV : DF w4 D M V) => HBx.out.g0 V (HF4.out.trans hV)
    have g1 := fun V (hV : DF w4 D M V) => HBx.out.g1 V (HF4.out.trans hV)
    clear hvb hX4 hD4 g4 HX k0 k1 KA
    go_wp2_with fail
    cases R1 with
    | true =>
      refine wp_region_held_drew (S := fun w' => DF w4 D M w') (by kernel_rfl) f0 (fun hHeld => ?_)
      refine wpAnyH_take (i := 0) (oi := ?on1) (v := ?vn1) ?hin1 ?an1 ?bn1 ?cn1 ?qn1 (Or.inl ⟨?dn1, ?hyn1⟩) hHeld ?restn1
      case hin1 => (simp only [List.getElem?_toArray, List.getElem?_cons_succ, List.getElem?_cons_zero]; exact rfl)
      case an1 => kernel_rfl
      case bn1 => kernel_rfl
      case cn1 => kernel_rfl
      case qn1 => exact fun _ _ _ h => h
      case dn1 => rfl
      case hyn1 => (intro z hSw; (try dsimp only at hSw); go_simp; (try with_reducible rfl))
      try simp only [Act.put, List.setIfInBounds_toArray, List.set_cons_zero, List.set_cons_succ]
      refine wpAnyH_take (i := 1) (oi := ?on2) (v := ?vn2) ?hin2 ?an2 ?bn2 ?cn2 ?qn2 (Or.inl ⟨?dn2, ?hyn2⟩) hHeld ?restn2
      case hin2 => (simp only [List.getElem?_toArray, List.getElem?_cons_succ, List.getElem?_cons_zero]; exact rfl)
      case an2 => kernel_rfl
      case bn2 => kernel_rfl
      case cn2 => kernel_rfl
      case qn2 => exact fun _ _ _ h => h
      case dn2 => rfl
      case hyn2 => (intro z hSw; (try dsimp only at hSw); go_simp; (try with_reducible rfl))
      try simp only [Act.put, List.setIfInBounds_toArray, List.set_cons_zero, List.set_cons_succ]
      refine wpAnyH_take (i := 2) (oi := ?on3) (v := ?vn3) ?hin3 ?an3 ?bn3 ?cn3 ?qn3 (Or.inl ⟨?dn3, ?hyn3⟩) hHeld ?restn3
      case hin3 => (simp only [List.getElem?_toArray, List.getElem?_cons_succ, List.getElem?_cons_zero]; exact rfl)
      case an3 => kernel_rfl
      case bn3 => kernel_rfl
      case cn3 => kernel_rfl
      case qn3 => exact fun _ _ _ h => h
      case dn3 => rfl
      case hyn3 => (intro z hSw; (try dsimp only at hSw); go_simp; (try with_reducible rfl))
      try simp only [Act.put, List.setIfInBounds_toArray, List.set_cons_zero, List.set_cons_succ]
      refine wpAnyH_take (i := 3) (oi := ?on4) (v := ?vn4) ?hin4 ?an4 ?bn4 ?cn4 ?qn4 (Or.inl ⟨?dn4, ?hyn4⟩) hHeld ?restn4
      case hin4 => (simp only [List.getElem?_toArray, List.getElem?_cons_succ, List.getElem?_cons_zero]; exact rfl)
      case an4 => kernel_rfl
      case bn4 => kernel_rfl
      case cn4 => kernel_rfl
      case qn4 => exact fun _ _ _ h => h
      case dn4 => rfl
      case hyn4 => (intro z hSw; (try dsimp only at hSw); go_simp; (try with_reducible rfl))
      try simp only [Act.put, List.setIfInBounds_toArray, List.set_cons_zero, List.set_cons_succ]
      refine wpAnyH_take (i := 5) (oi := ?on5) (v := ?vn5) ?hin5 ?an5 ?bn5 ?cn5 ?qn5 (Or.inl ⟨?dn5, ?hyn5⟩) hHeld ?restn5
      case hin5 => (simp only [List.getElem?_toArray, List.getElem?_cons_succ, List.getElem?_cons_zero]; exact rfl)
      case an5 => kernel_rfl
      case bn5 => kernel_rfl
      case cn5 => kernel_rfl
      case qn5 => exact fun _ _ _ h => h
      case dn5 => rfl
      case hyn5 => (intro z hSw; (try dsimp only at hSw); go_simp; (try with_reducible rfl))
      try simp only [Act.put, List.setIfInBounds_toArray, List.set_cons_zero, List.set_cons_succ]
      refine wpAnyH_take (i := 11) (oi := ?on6) (v := ?vn6) ?hin6 ?an6 ?bn6 ?cn6 ?qn6 (Or.inl ⟨?dn6, ?hyn6⟩) hHeld ?restn6
      case hin6 => (simp only [List.getElem?_toArray, List.getElem?_cons_succ, List.getElem?_cons_zero]; exact rfl)
      case an6 => kernel_rfl
      case bn6 => kernel_rfl
      case cn6 => kernel_rfl
      case qn6 => exact fun _ _ _ h => h
      case dn6 => rfl
      case hyn6 => (intro z hSw; (try dsimp only at hSw); go_simp; (try with_reducible rfl))
      try simp only [Act.put, List.setIfInBounds_toArray, List.set_cons_zero, List.set_cons_succ]
      refine wpAnyH_ready (rs := [4]) (by kernel_rfl) (by simp) ?_
      refine AllReadyH.cons (o := ?on7) ?hin7 ?restn7 AllReadyH.nil
      case hin7 => (simp only [List.getElem?_toArray, List.getElem?_cons_succ, List.getElem?_cons_zero]; exact rfl)
      intro K hK
      go_simp
      go_at_call 75
      refine (KS.out _ f0).mono ?_
      rintro e v1 ⟨u1, rfl, hu1, hg1⟩
      have f1 := f0.grew hg1
      obtain ⟨A1, n1, c1, rfl⟩ := slice3 hu1
      refine hK.out _ _ ?_ (fun hHeld => ?_)
      · (try dsimp only); first | with_reducible assumption | exact DF.alloc ‹_› _
      clear hK K
      try simp only [Act.put, List.setIfInBounds_toArray, List.set_cons_zero, List.set_cons_succ]
      refine wpAnyH_ready (rs := [6]) (by kernel_rfl) (by simp) ?_
      refine AllReadyH.cons (o := ?on8) ?hin8 ?restn8 AllReadyH.nil
      case hin8 => (simp only [List.getElem?_toArray, List.getElem?_cons_succ, List.getElem?_cons_zero]; exact rfl)
      intro K hK
      go_simp
      refine hK.out _ _ ?_ (fun hHeld => ?_)
      · (try dsimp only); first | with_reducible assumption | exact DF.alloc ‹_› _
      clear hK K
      try simp only [Act.put, List.setIfInBounds_toArray, List.set_cons_zero, List.set_cons_succ]
      refine wpAnyH_ready (rs := [7]) (by kernel_rfl) (by simp) ?_
      refine AllReadyH.cons (o := ?on9) ?hin9 ?restn9 AllReadyH.nil
      case hin9 => (simp only [List.getElem?_toArray, List.getElem?_cons_succ, List.getElem?_cons_zero]; exact rfl)
      intro K hK
      go_simp
      go_at_call 151
      refine (arrow2_c v1.heap.size A1 Ab n1 nb c1 cb q b _ (hu1.grew ((Grew.refl v1).alloc _)) ((HB.out _ f1).grew ((Grew.refl v1).alloc _)) HN.out (fun _ hW => (hW.cell (p := ⟨v1.heap.size, 0, none⟩) (by simp)).trans (by simp)) (fun _ hW => (hW.cell (p := ⟨v1.heap.size, 1, none⟩) (by simp)).trans (by simp))).mono ?_
      rintro e v2 ⟨u2, rfl, hu2, hg2⟩
      have f2 := (f1.alloc _).grew hg2
      obtain ⟨A2, n2, c2, rfl⟩ := slice3 hu2
      refine hK.out _ _ ?_ (fun hHeld => ?_)
      · (try dsimp only); first | with_reducible assumption | exact DF.alloc ‹_› _
      clear hK K
      try simp only [Act.put, List.setIfInBounds_toArray, List.set_cons_zero, List.set_cons_succ]
      refine wpAnyH_ready (rs := [8]) (by kernel_rfl) (by simp) ?_
      refine AllReadyH.cons (o := ?on10) ?hin10 ?restn10 AllReadyH.nil
      case hin10 => (simp only [List.getElem?_toArray, List.getElem?_cons_succ, List.getElem?_cons_zero]; exact rfl)
      intro K hK
      go_simp
      go_at_call 47
      refine (text_t (.imp q b) _ _ HQB.out hu2).mono ?_
      rintro e v3 ⟨rfl, hg3⟩
      have f3 := f2.grew hg3
      refine hK.out _ _ ?_ (fun hHeld => ?_)
      · (try dsimp only); first | with_reducible assumption | exact DF.alloc ‹_› _
      clear hK K
      try simp only [Act.put, List.setIfInBounds_toArray, List.set_cons_zero, List.set_cons_succ]
      refine wpAnyH_ready (rs := [9]) (by kernel_rfl) (by simp) ?_
      refine AllReadyH.cons (o := ?on11) ?hin11 ?restn11 AllReadyH.nil
      case hin11 => (simp only [List.getElem?_toArray, List.getElem?_cons_succ, List.getElem?_cons_zero]; exact rfl)
      intro K hK
      go_simp
      refine hK.out _ _ ?_ (fun hHeld => ?_)
      · (try dsimp only); first | with_reducible assumption | exact DF.alloc ‹_› _
      clear hK K
      try simp only [Act.put, List.setIfInBounds_toArray, List.set_cons_zero, List.set_cons_succ]
      refine wpAnyH_ready (rs := [10]) (by kernel_rfl) (by simp) ?_
      refine AllReadyH.cons (o := ?on12) ?hin12 ?restn12 AllReadyH.nil
      case hin12 => (simp only [List.getElem?_toArray, List.getElem?_cons_succ, List.getElem?_cons_zero]; exact rfl)
      intro K hK
      go_simp
      go_at_call 147
      refine (KI.out [.imp q b] _ _ (f3.alloc _) TL.one (ok_one HQB.out) (by simp)).mono ?_
      rintro e v4 ⟨u4, P, rfl, hP, hu4, hg4⟩
      have f4 := (f3.alloc _).grew hg4
      obtain ⟨A4, n4, c4, rfl⟩ := hu4.slice
      refine hK.out _ _ ?_ (fun hHeld => ?_)
      · (try dsimp only); first | with_reducible assumption | exact DF.alloc ‹_› _
      clear hK K
      try simp only [Act.put, List.setIfInBounds_toArray, List.set_cons_zero, List.set_cons_succ]
      refine wpAnyH_ready (rs := [12]) (by kernel_rfl) (by simp) ?_
      refine AllReadyH.cons (o := ?on13) ?hin13 ?restn13 AllReadyH.nil
      case hin13 => (simp only [List.getElem?_toArray, List.getElem?_cons_succ, List.getElem?_cons_zero]; exact rfl)
      intro K hK
      go_simp
      go_at_call 47
      refine (KX.out _ f4).mono ?_
      rintro e v5 ⟨rfl, hg5⟩
      have f5 := f4.grew hg5
      refine hK.out _ _ ?_ (fun hHeld => ?_)
      · (try dsimp only); first | with_reducible assumption | exact DF.alloc ‹_› _
      clear hK K
      try simp only [Act.put, List.setIfInBounds_toArray, List.set_cons_zero, List.set_cons_succ]
      refine wpAnyH_ready (rs := [13]) (by kernel_rfl) (by simp) ?_
      refine AllReadyH.cons (o := ?on14) ?hin14 ?restn14 AllReadyH.nil
      case hin14 => (simp only [List.getElem?_toArray, List.getElem?_cons_succ, List.getElem?_cons_zero]; exact rfl)
      intro K hK
      go_simp
      go_at_call 127
      refine (proving_c A4 n4 c4 _ _ _).mono ?_
      rintro e v6 ⟨rfl, hg6⟩
      have f6 := f5.grew hg6
      refine hK.out _ _ ?_ (fun hHeld => ?_)
      · (try dsimp only); first | with_reducible assumption | exact DF.alloc ‹_› _
      clear hK K
      try simp only [Act.put, List.setIfInBounds_toArray, List.set_cons_zero, List.set_cons_succ]
      refine wpAnyH_ready (rs := [14]) (by kernel_rfl) (by simp) ?_
      refine AllReadyH.cons (o := ?on15) ?hin15 ?restn15 AllReadyH.nil
      case hin15 => (simp only [List.getElem?_toArray, List.getElem?_cons_succ, List.getElem?_cons_zero]; exact rfl)
      intro K hK
      go_simp
      go_at_call 88
      refine (KP1.out P _ _ hP f6.dec (hu4.grew (hg5.trans hg6))).mono ?_
      rintro e v7 ⟨rfl, h7⟩
      have f7 := f6.trans h7
      refine hK.out _ _ ?_ (fun hHeld => ?_)
      · (try dsimp only); first | with_reducible assumption | exact DF.alloc ‹_› _
      clear hK K
      try simp only [Act.put, List.setIfInBounds_toArray, List.set_cons_zero, List.set_cons_succ]
      refine wpAnyH_take (i := 15) (oi := ?on16) (v := ?vn16) ?hin16 ?an16 ?bn16 ?cn16 ?qn16 (Or.inl ⟨?dn16, ?hyn16⟩) hHeld ?restn16
      case hin16 => (simp only [List.getElem?_toArray, List.getElem?_cons_succ, List.getElem?_cons_zero]; exact rfl)
      case an16 => kernel_rfl
      case bn16 => kernel_rfl
      case cn16 => kernel_rfl
      case qn16 => exact fun _ _ _ h => h
      case dn16 => rfl
      case hyn16 => (intro z hSw; (try dsimp only at hSw); go_simp; (try with_reducible rfl))
      try simp only [Act.put, List.setIfInBounds_toArray, List.set_cons_zero, List.set_cons_succ]
      refine wpAnyH_take (i := 16) (oi := ?on17) (v := ?vn17) ?hin17 ?an17 ?bn17 ?cn17 ?qn17 (Or.inl ⟨?dn17, ?hyn17⟩) hHeld ?restn17
      case hin17 => (simp only [List.getElem?_toArray, List.getElem?_cons_succ, List.getElem?_cons_zero]; exact rfl)
      case an17 => kernel_rfl
      case bn17 => kernel_rfl
      case cn17 => kernel_rfl
      case qn17 => exact fun _ _ _ h => h
      case dn17 => rfl
      case hyn17 => (intro z hSw; (try dsimp only at hSw); go_simp; (try with_reducible rfl))
      try simp only [Act.put, List.setIfInBounds_toArray, List.set_cons_zero, List.set_cons_succ]
      refine wpAnyH_take (i := 17) (oi := ?on18) (v := ?vn18) ?hin18 ?an18 ?bn18 ?cn18 ?qn18 (Or.inl ⟨?dn18, ?hyn18⟩) hHeld ?restn18
      case hin18 => (simp only [List.getElem?_toArray, List.getElem?_cons_succ, List.getElem?_cons_zero]; exact rfl)
      case an18 => kernel_rfl
      case bn18 => kernel_rfl
      case cn18 => kernel_rfl
      case qn18 => exact fun _ _ _ h => h
      case dn18 => rfl
      case hyn18 => (intro z hSw; (try dsimp only at hSw); go_simp; (try with_reducible rfl))
      try simp only [Act.put, List.setIfInBounds_toArray, List.set_cons_zero, List.set_cons_succ]
      refine wpAnyH_take (i := 18) (oi := ?on19) (v := ?vn19) ?hin19 ?an19 ?bn19 ?cn19 ?qn19 (Or.inl ⟨?dn19, ?hyn19⟩) hHeld ?restn19
      case hin19 => (simp only [List.getElem?_toArray, List.getElem?_cons_succ, List.getElem?_cons_zero]; exact rfl)
      case an19 => kernel_rfl
      case bn19 => kernel_rfl
      case cn19 => kernel_rfl
      case qn19 => exact fun _ _ _ h => h
      case dn19 => rfl
      case hyn19 => (intro z hSw; (try dsimp only at hSw); go_simp; (try with_reducible rfl))
      try simp only [Act.put, List.setIfInBounds_toArray, List.set_cons_zero, List.set_cons_succ]
      refine wpAnyH_take (i := 19) (oi := ?on20) (v := ?vn20) ?hin20 ?an20 ?bn20 ?cn20 ?qn20 (Or.inl ⟨?dn20, ?hyn20⟩) hHeld ?restn20
      case hin20 => (simp only [List.getElem?_toArray, List.getElem?_cons_succ, List.getElem?_cons_zero]; exact rfl)
      case an20 => kernel_rfl
      case bn20 => kernel_rfl
      case cn20 => kernel_rfl
      case qn20 => exact fun _ _ _ h => h
      case dn20 => rfl
      case hyn20 => (intro z hSw; (try dsimp only at hSw); go_simp; (try with_reducible rfl))
      try simp only [Act.put, List.setIfInBounds_toArray, List.set_cons_zero, List.set_cons_succ]
      refine wpAnyH_ready (rs := [20]) (by kernel_rfl) (by simp) ?_
      refine AllReadyH.cons (o := ?on21) ?hin21 ?restn21 AllReadyH.nil
      case hin21 => (simp only [List.getElem?_toArray, List.getElem?_cons_succ, List.getElem?_cons_zero]; exact rfl)
      intro K hK
      go_simp
      go_at_call 47
      refine (KT.out _ f7).mono ?_
      rintro e v8 ⟨rfl, hg8⟩
      have f8 := f7.grew hg8
      refine hK.out _ _ ?_ (fun hHeld => ?_)
      · (try dsimp only); first | with_reducible assumption | exact DF.alloc ‹_› _
      clear hK K
      try simp only [Act.put, List.setIfInBounds_toArray, List.set_cons_zero, List.set_cons_succ]
      refine wpAnyH_ready (rs := [21]) (by kernel_rfl) (by simp) ?_
      refine AllReadyH.cons (o := ?on22) ?hin22 ?restn22 AllReadyH.nil
      case hin22 => (simp only [List.getElem?_toArray, List.getElem?_cons_succ, List.getElem?_cons_zero]; exact rfl)
      intro K hK
      go_simp
      refine hK.out _ _ ?_ (fun hHeld => ?_)
      · (try dsimp only); first | with_reducible assumption | exact DF.alloc ‹_› _
      clear hK K
      try simp only [Act.put, List.setIfInBounds_toArray, List.set_cons_zero, List.set_cons_succ]
      refine wpAnyH_ready (rs := [22]) (by kernel_rfl) (by simp) ?_
      refine AllReadyH.cons (o := ?on23) ?hin23 ?restn23 AllReadyH.nil
      case hin23 => (simp only [List.getElem?_toArray, List.getElem?_cons_succ, List.getElem?_cons_zero]; exact rfl)
      intro K hK
      go_simp
      go_at_call 147
      refine (KI.out [b] _ _ (f8.alloc _) TL.one (ok_one HFB.out) (by simp)).mono ?_
      rintro e v9 ⟨u9, Q, rfl, hQ, hu9, hg9⟩
      have f9 := (f8.alloc _).grew hg9
      obtain ⟨A9, n9, c9, rfl⟩ := hu9.slice
      refine hK.out _ _ ?_ (fun hHeld => ?_)
      · (try dsimp only); first | with_reducible assumption | exact DF.alloc ‹_› _
      clear hK K
      try simp only [Act.put, List.setIfInBounds_toArray, List.set_cons_zero, List.set_cons_succ]
      refine wpAnyH_ready (rs := [23]) (by kernel_rfl) (by simp) ?_
      refine AllReadyH.cons (o := ?on24) ?hin24 ?restn24 AllReadyH.nil
      case hin24 => (simp only [List.getElem?_toArray, List.getElem?_cons_succ, List.getElem?_cons_zero]; exact rfl)
      intro K hK
      go_simp
      go_at_call 88
      refine (KP2.out Q _ _ hQ f9.dec hu9).mono ?_
      rintro e v10 ⟨rfl, h10⟩
      have f10 := f9.trans h10
      refine hK.out _ _ ?_ (fun hHeld => ?_)
      · (try dsimp only); first | with_reducible assumption | exact DF.alloc ‹_› _
      clear hK K
      try simp only [Act.put, List.setIfInBounds_toArray, List.set_cons_zero, List.set_cons_succ]
      refine wpAnyH_take (i := 24) (oi := ?on25) (v := ?vn25) ?hin25 ?an25 ?bn25 ?cn25 ?qn25 (Or.inl ⟨?dn25, ?hyn25⟩) hHeld ?restn25
      case hin25 => (simp only [List.getElem?_toArray, List.getElem?_cons_succ, List.getElem?_cons_zero]; exact rfl)
      case an25 => kernel_rfl
      case bn25 => kernel_rfl
      case cn25 => kernel_rfl
      case qn25 => exact fun _ _ _ h => h
      case dn25 => rfl
      case hyn25 => (intro z hSw; (try dsimp only at hSw); go_simp; (try with_reducible rfl))
      try simp only [Act.put, List.setIfInBounds_toArray, List.set_cons_zero, List.set_cons_succ]
      refine wpAnyH_take (i := 25) (oi := ?on26) (v := ?vn26) ?hin26 ?an26 ?bn26 ?cn26 ?qn26 (Or.inl ⟨?dn26, ?hyn26⟩) hHeld ?restn26
      case hin26 => (simp only [List.getElem?_toArray, List.getElem?_cons_succ, List.getElem?_cons_zero]; exact rfl)
      case an26 => kernel_rfl
      case bn26 => kernel_rfl
      case cn26 => kernel_rfl
      case qn26 => exact fun _ _ _ h => h
      case dn26 => rfl
      case hyn26 => (intro z hSw; (try dsimp only at hSw); go_simp; (try with_reducible rfl))
      try simp only [Act.put, List.setIfInBounds_toArray, List.set_cons_zero, List.set_cons_succ]
      refine wpAnyH_done (by kernel_rfl) ?_ _
      go_wp2_with fail
      go_ret
      exact ⟨rfl, HF4.out.trans f10⟩
    | false =>
      refine wp_region_held_drew (S := fun w' => DF w4 D M w') (by kernel_rfl) f0 (fun hHeld => ?_)
      refine wpAnyH_take (i := 0) (oi := ?on27) (v := ?vn27) ?hin27 ?an27 ?bn27 ?cn27 ?qn27 (Or.inl ⟨?dn27, ?hyn27⟩) hHeld ?restn27
      case hin27 => (simp only [List.getElem?_toArray, List.getElem?_cons_succ, List.getElem?_cons_zero]; exact rfl)
      case an27 => kernel_rfl
      case bn27 => kernel_rfl
      case cn27 => kernel_rfl
      case qn27 => exact fun _ _ _ h => h
      case dn27 => rfl
      case hyn27 => (intro z hSw; (try dsimp only at hSw); go_simp; (try with_reducible rfl))
      try simp only [Act.put, List.setIfInBounds_toArray, List.set_cons_zero, List.set_cons_succ]
      refine wpAnyH_take (i := 1) (oi := ?on28) (v := ?vn28) ?hin28 ?an28 ?bn28 ?cn28 ?qn28 (Or.inl ⟨?dn28, ?hyn28⟩) hHeld ?restn28
      case hin28 => (simp only [List.getElem?_toArray, List.getElem?_cons_succ, List.getElem?_cons_zero]; exact rfl)
      case an28 => kernel_rfl
      case bn28 => kernel_rfl
      case cn28 => kernel_rfl
      case qn28 => exact fun _ _ _ h => h
      case dn28 => rfl
      case hyn28 => (intro z hSw; (try dsimp only at hSw); go_simp; (try with_reducible rfl))
      try simp only [Act.put, List.setIfInBounds_toArray, List.set_cons_zero, List.set_cons_succ]
      refine wpAnyH_take (i := 2) (oi := ?on29) (v := ?vn29) ?hin29 ?an29 ?bn29 ?cn29 ?qn29 (Or.inl ⟨?dn29, ?hyn29⟩) hHeld ?restn29
      case hin29 => (simp only [List.getElem?_toArray, List.getElem?_cons_succ, List.getElem?_cons_zero]; exact rfl)
      case an29 => kernel_rfl
      case bn29 => kernel_rfl
      case cn29 => kernel_rfl
      case qn29 => exact fun _ _ _ h => h
      case dn29 => rfl
      case hyn29 => (intro z hSw; (try dsimp only at hSw); go_simp; (try with_reducible rfl))
      try simp only [Act.put, List.setIfInBounds_toArray, List.set_cons_zero, List.set_cons_succ]
      refine wpAnyH_take (i := 3) (oi := ?on30) (v := ?vn30) ?hin30 ?an30 ?bn30 ?cn30 ?qn30 (Or.inl ⟨?dn30, ?hyn30⟩) hHeld ?restn30
      case hin30 => (simp only [List.getElem?_toArray, List.getElem?_cons_succ, List.getElem?_cons_zero]; exact rfl)
      case an30 => kernel_rfl
      case bn30 => kernel_rfl
      case cn30 => kernel_rfl
      case qn30 => exact fun _ _ _ h => h
      case dn30 => rfl
      case hyn30 => (intro z hSw; (try dsimp only at hSw); go_simp; (try with_reducible rfl))
      try simp only [Act.put, List.setIfInBounds_toArray, List.set_cons_zero, List.set_cons_succ]
      refine wpAnyH_take (i := 5) (oi := ?on31) (v := ?vn31) ?hin31 ?an31 ?bn31 ?cn31 ?qn31 (Or.inl ⟨?dn31, ?hyn31⟩) hHeld ?restn31
      case hin31 => (simp only [List.getElem?_toArray, List.getElem?_cons_succ, List.getElem?_cons_zero]; exact rfl)
      case an31 => kernel_rfl
      case bn31 => kernel_rfl
      case cn31 => kernel_rfl
      case qn31 => exact fun _ _ _ h => h
      case dn31 => rfl
      case hyn31 => (intro z hSw; (try dsimp only at hSw); go_simp; (try with_reducible rfl))
      try simp only [Act.put, List.setIfInBounds_toArray, List.set_cons_zero, List.set_cons_succ]
      refine wpAnyH_take (i := 11) (oi := ?on32) (v := ?vn32) ?hin32 ?an32 ?bn32 ?cn32 ?qn32 (Or.inl ⟨?dn32, ?hyn32⟩) hHeld ?restn32
      case hin32 => (simp only [List.getElem?_toArray, List.getElem?_cons_succ, List.getElem?_cons_zero]; exact rfl)
      case an32 => kernel_rfl
      case bn32 => kernel_rfl
      case cn32 => kernel_rfl
      case qn32 => exact fun _ _ _ h => h
      case dn32 => rfl
      case hyn32 => (intro z hSw; (try dsimp only at hSw); go_simp; (try with_reducible rfl))
      try simp only [Act.put, List.setIfInBounds_toArray, List.set_cons_zero, List.set_cons_succ]
      refine wpAnyH_ready (rs := [4]) (by kernel_rfl) (by simp) ?_
      refine AllReadyH.cons (o := ?on33) ?hin33 ?restn33 AllReadyH.nil
      case hin33 => (simp only [List.getElem?_toArray, List.getElem?_cons_succ, List.getElem?_cons_zero]; exact rfl)
      intro K hK
      go_simp
      go_at_call 75
      refine (KS.out _ f0).mono ?_
      rintro e v1 ⟨u1, rfl, hu1, hg1⟩
      have f1 := f0.grew hg1
      obtain ⟨A1, n1, c1, rfl⟩ := slice3 hu1
      refine hK.out _ _ ?_ (fun hHeld => ?_)
      · (try dsimp only); first | with_reducible assumption | exact DF.alloc ‹_› _
      clear hK K
      try simp only [Act.put, List.setIfInBounds_toArray, List.set_cons_zero, List.set_cons_succ]
      refine wpAnyH_ready (rs := [6]) (by kernel_rfl) (by simp) ?_
      refine AllReadyH.cons (o := ?on34) ?hin34 ?restn34 AllReadyH.nil
      case hin34 => (simp only [List.getElem?_toArray, List.getElem?_cons_succ, List.getElem?_cons_zero]; exact rfl)
      intro K hK
      go_simp
      refine hK.out _ _ ?_ (fun hHeld => ?_)
      · (try dsimp only); first | with_reducible assumption | exact DF.alloc ‹_› _
      clear hK K
      try simp only [Act.put, List.setIfInBounds_toArray, List.set_cons_zero, List.set_cons_succ]
      refine wpAnyH_ready (rs := [7]) (by kernel_rfl) (by simp) ?_
      refine AllReadyH.cons (o := ?on35) ?hin35 ?restn35 AllReadyH.nil
      case hin35 => (simp only [List.getElem?_toArray, List.getElem?_cons_succ, List.getElem?_cons_zero]; exact rfl)
      intro K hK
      go_simp
      go_at_call 151
      refine (arrow2_c v1.heap.size A1 Ab n1 nb c1 cb q b _ (hu1.grew ((Grew.refl v1).alloc _)) ((HB.out _ f1).grew ((Grew.refl v1).alloc _)) HN.out (fun _ hW => (hW.cell (p := ⟨v1.heap.size, 0, none⟩) (by simp)).trans (by simp)) (fun _ hW => (hW.cell (p := ⟨v1.heap.size, 1, none⟩) (by simp)).trans (by simp))).mono ?_
      rintro e v2 ⟨u2, rfl, hu2, hg2⟩
      have f2 := (f1.alloc _).grew hg2
      obtain ⟨A2, n2, c2, rfl⟩ := slice3 hu2
      refine hK.out _ _ ?_ (fun hHeld => ?_)
      · (try dsimp only); first | with_reducible assumption | exact DF.alloc ‹_› _
      clear hK K
      try simp only [Act.put, List.setIfInBounds_toArray, List.set_cons_zero, List.set_cons_succ]
      refine wpAnyH_ready (rs := [8]) (by kernel_rfl) (by simp) ?_
      refine AllReadyH.cons (o := ?on36) ?hin36 ?restn36 AllReadyH.nil
      case hin36 => (simp only [List.getElem?_toArray, List.getElem?_cons_succ, List.getElem?_cons_zero]; exact rfl)
      intro K hK
      go_simp
      go_at_call 47
      refine (text_t (.imp q b) _ _ HQB.out hu2).mono ?_
      rintro e v3 ⟨rfl, hg3⟩
      have f3 := f2.grew hg3
      refine hK.out _ _ ?_ (fun hHeld => ?_)
      · (try dsimp only); first | with_reducible assumption | exact DF.alloc ‹_› _
      clear hK K
      try simp only [Act.put, List.setIfInBounds_toArray, List.set_cons_zero, List.set_cons_succ]
      refine wpAnyH_ready (rs := [9]) (by kernel_rfl) (by simp) ?_
      refine AllReadyH.cons (o := ?on37) ?hin37 ?restn37 AllReadyH.nil
      case hin37 => (simp only [List.getElem?_toArray, List.getElem?_cons_succ, List.getElem?_cons_zero]; exact rfl)
      intro K hK
      go_simp
      refine hK.out _ _ ?_ (fun hHeld => ?_)
      · (try dsimp only); first | with_reducible assumption | exact DF.alloc ‹_› _
      clear hK K
      try simp only [Act.put, List.setIfInBounds_toArray, List.set_cons_zero, List.set_cons_succ]
      refine wpAnyH_ready (rs := [10]) (by kernel_rfl) (by simp) ?_
      refine AllReadyH.cons (o := ?on38) ?hin38 ?restn38 AllReadyH.nil
      case hin38 => (simp only [List.getElem?_toArray, List.getElem?_cons_succ, List.getElem?_cons_zero]; exact rfl)
      intro K hK
      go_simp
      go_at_call 147
      refine (KI.out [.imp q b] _ _ (f3.alloc _) TL.one (ok_one HQB.out) (by simp)).mono ?_
      rintro e v4 ⟨u4, P, rfl, hP, hu4, hg4⟩
      have f4 := (f3.alloc _).grew hg4
      obtain ⟨A4, n4, c4, rfl⟩ := hu4.slice
      refine hK.out _ _ ?_ (fun hHeld => ?_)
      · (try dsimp only); first | with_reducible assumption | exact DF.alloc ‹_› _
      clear hK K
      try simp only [Act.put, List.setIfInBounds_toArray, List.set_cons_zero, List.set_cons_succ]
      refine wpAnyH_ready (rs := [12]) (by kernel_rfl) (by simp) ?_
      refine AllReadyH.cons (o := ?on39) ?hin39 ?restn39 AllReadyH.nil
      case hin39 => (simp only [List.getElem?_toArray, List.getElem?_cons_succ, List.getElem?_cons_zero]; exact rfl)
      intro K hK
      go_simp
      go_at_call 47
      refine (KX.out _ f4).mono ?_
      rintro e v5 ⟨rfl, hg5⟩
      have f5 := f4.grew hg5
      refine hK.out _ _ ?_ (fun hHeld => ?_)
      · (try dsimp only); first | with_reducible assumption | exact DF.alloc ‹_› _
      clear hK K
      try simp only [Act.put, List.setIfInBounds_toArray, List.set_cons_zero, List.set_cons_succ]
      refine wpAnyH_ready (rs := [13]) (by kernel_rfl) (by simp) ?_
      refine AllReadyH.cons (o := ?on40) ?hin40 ?restn40 AllReadyH.nil
      case hin40 => (simp only [List.getElem?_toArray, List.getElem?_cons_succ, List.getElem?_cons_zero]; exact rfl)
      intro K hK
      go_simp
      go_at_call 127
      refine (proving_c A4 n4 c4 _ _ _).mono ?_
      rintro e v6 ⟨rfl, hg6⟩
      have f6 := f5.grew hg6
      refine hK.out _ _ ?_ (fun hHeld => ?_)
      · (try dsimp only); first | with_reducible assumption | exact DF.alloc ‹_› _
      clear hK K
      try simp only [Act.put, List.setIfInBounds_toArray, List.set_cons_zero, List.set_cons_succ]
      refine wpAnyH_ready (rs := [14]) (by kernel_rfl) (by simp) ?_
      refine AllReadyH.cons (o := ?on41) ?hin41 ?restn41 AllReadyH.nil
      case hin41 => (simp only [List.getElem?_toArray, List.getElem?_cons_succ, List.getElem?_cons_zero]; exact rfl)
      intro K hK
      go_simp
      go_at_call 88
      refine (KP1.out P _ _ hP f6.dec (hu4.grew (hg5.trans hg6))).mono ?_
      rintro e v7 ⟨rfl, h7⟩
      have f7 := f6.trans h7
      refine hK.out _ _ ?_ (fun hHeld => ?_)
      · (try dsimp only); first | with_reducible assumption | exact DF.alloc ‹_› _
      clear hK K
      try simp only [Act.put, List.setIfInBounds_toArray, List.set_cons_zero, List.set_cons_succ]
      refine wpAnyH_take (i := 15) (oi := ?on42) (v := ?vn42) ?hin42 ?an42 ?bn42 ?cn42 ?qn42 (Or.inl ⟨?dn42, ?hyn42⟩) hHeld ?restn42
      case hin42 => (simp only [List.getElem?_toArray, List.getElem?_cons_succ, List.getElem?_cons_zero]; exact rfl)
      case an42 => kernel_rfl
      case bn42 => kernel_rfl
      case cn42 => kernel_rfl
      case qn42 => exact fun _ _ _ h => h
      case dn42 => rfl
      case hyn42 => (intro z hSw; (try dsimp only at hSw); go_simp; (try with_reducible rfl))
      try simp only [Act.put, List.setIfInBounds_toArray, List.set_cons_zero, List.set_cons_succ]
      refine wpAnyH_take (i := 16) (oi := ?on43) ?hin43 ?an43 ?bn43 ?cn43 ?qn43 (Or.inr ⟨?dn43, rfl⟩) hHeld ?restn43
      case hin43 => (simp only [List.getElem?_toArray, List.getElem?_cons_succ, List.getElem?_cons_zero]; exact rfl)
      case an43 => kernel_rfl
      case bn43 => kernel_rfl
      case cn43 => kernel_rfl
      case qn43 => exact fun _ _ _ h => h
      case dn43 => rfl
      try simp only [Act.put, List.setIfInBounds_toArray, List.set_cons_zero, List.set_cons_succ]
      refine wpAnyH_take (i := 17) (oi := ?on44) ?hin44 ?an44 ?bn44 ?cn44 ?qn44 (Or.inr ⟨?dn44, rfl⟩) hHeld ?restn44
      case hin44 => (simp only [List.getElem?_toArray, List.getElem?_cons_succ, List.getElem?_cons_zero]; exact rfl)
      case an44 => kernel_rfl
      case bn44 => kernel_rfl
      case cn44 => kernel_rfl
      case qn44 => exact fun _ _ _ h => h
      case dn44 => rfl
      try simp only [Act.put, List.setIfInBounds_toArray, List.set_cons_zero, List.set_cons_succ]
      refine wpAnyH_take (i := 18) (oi := ?on45) ?hin45 ?an45 ?bn45 ?cn45 ?qn45 (Or.inr ⟨?dn45, rfl⟩) hHeld ?restn45
      case hin45 => (simp only [List.getElem?_toArray, List.getElem?_cons_succ, List.getElem?_cons_zero]; exact rfl)
      case an45 => kernel_rfl
      case bn45 => kernel_rfl
      case cn45 => kernel_rfl
      case qn45 => exact fun _ _ _ h => h
      case dn45 => rfl
      try simp only [Act.put, List.setIfInBounds_toArray, List.set_cons_zero, List.set_cons_succ]
      refine wpAnyH_take (i := 19) (oi := ?on46) ?hin46 ?an46 ?bn46 ?cn46 ?qn46 (Or.inr ⟨?dn46, rfl⟩) hHeld ?restn46
      case hin46 => (simp only [List.getElem?_toArray, List.getElem?_cons_succ, List.getElem?_cons_zero]; exact rfl)
      case an46 => kernel_rfl
      case bn46 => kernel_rfl
      case cn46 => kernel_rfl
      case qn46 => exact fun _ _ _ h => h
      case dn46 => rfl
      try simp only [Act.put, List.setIfInBounds_toArray, List.set_cons_zero, List.set_cons_succ]
      refine wpAnyH_take (i := 20) (oi := ?on47) ?hin47 ?an47 ?bn47 ?cn47 ?qn47 (Or.inr ⟨?dn47, rfl⟩) hHeld ?restn47
      case hin47 => (simp only [List.getElem?_toArray, List.getElem?_cons_succ, List.getElem?_cons_zero]; exact rfl)
      case an47 => kernel_rfl
      case bn47 => kernel_rfl
      case cn47 => kernel_rfl
      case qn47 => exact fun _ _ _ h => h
      case dn47 => rfl
      try simp only [Act.put, List.setIfInBounds_toArray, List.set_cons_zero, List.set_cons_succ]
      refine wpAnyH_take (i := 21) (oi := ?on48) ?hin48 ?an48 ?bn48 ?cn48 ?qn48 (Or.inr ⟨?dn48, rfl⟩) hHeld ?restn48
      case hin48 => (simp only [List.getElem?_toArray, List.getElem?_cons_succ, List.getElem?_cons_zero]; exact rfl)
      case an48 => kernel_rfl
      case bn48 => kernel_rfl
      case cn48 => kernel_rfl
      case qn48 => exact fun _ _ _ h => h
      case dn48 => rfl
      try simp only [Act.put, List.setIfInBounds_toArray, List.set_cons_zero, List.set_cons_succ]
      refine wpAnyH_take (i := 22) (oi := ?on49) ?hin49 ?an49 ?bn49 ?cn49 ?qn49 (Or.inr ⟨?dn49, rfl⟩) hHeld ?restn49
      case hin49 => (simp only [List.getElem?_toArray, List.getElem?_cons_succ, List.getElem?_cons_zero]; exact rfl)
      case an49 => kernel_rfl
      case bn49 => kernel_rfl
      case cn49 => kernel_rfl
      case qn49 => exact fun _ _ _ h => h
      case dn49 => rfl
      try simp only [Act.put, List.setIfInBounds_toArray, List.set_cons_zero, List.set_cons_succ]
      refine wpAnyH_take (i := 23) (oi := ?on50) ?hin50 ?an50 ?bn50 ?cn50 ?qn50 (Or.inr ⟨?dn50, rfl⟩) hHeld ?restn50
      case hin50 => (simp only [List.getElem?_toArray, List.getElem?_cons_succ, List.getElem?_cons_zero]; exact rfl)
      case an50 => kernel_rfl
      case bn50 => kernel_rfl
      case cn50 => kernel_rfl
      case qn50 => exact fun _ _ _ h => h
      case dn50 => rfl
      try simp only [Act.put, List.setIfInBounds_toArray, List.set_cons_zero, List.set_cons_succ]
      refine wpAnyH_take (i := 24) (oi := ?on51) (v := ?vn51) ?hin51 ?an51 ?bn51 ?cn51 ?qn51 (Or.inl ⟨?dn51, ?hyn51⟩) hHeld ?restn51
      case hin51 => (simp only [List.getElem?_toArray, List.getElem?_cons_succ, List.getElem?_cons_zero]; exact rfl)
      case an51 => kernel_rfl
      case bn51 => kernel_rfl
      case cn51 => kernel_rfl
      case qn51 => exact fun _ _ _ h => h
      case dn51 => rfl
      case hyn51 => (intro z hSw; (try dsimp only at hSw); go_simp; (try with_reducible rfl))
      try simp only [Act.put, List.setIfInBounds_toArray, List.set_cons_zero, List.set_cons_succ]
      refine wpAnyH_take (i := 25) (oi := ?on52) (v := ?vn52) ?hin52 ?an52 ?bn52 ?cn52 ?qn52 (Or.inl ⟨?dn52, ?hyn52⟩) hHeld ?restn52
      case hin52 => (simp only [List.getElem?_toArray, List.getElem?_cons_succ, List.getElem?_cons_zero]; exact rfl)
      case an52 => kernel_rfl
      case bn52 => kernel_rfl
      case cn52 => kernel_rfl
      case qn52 => exact fun _ _ _ h => h
      case dn52 => rfl
      case hyn52 => (intro z hSw; (try dsimp only at hSw); go_simp; (try with_reducible rfl))
      try simp only [Act.put, List.setIfInBounds_toArray, List.set_cons_zero, List.set_cons_succ]
      refine wpAnyH_done (by kernel_rfl) ?_ _
      go_wp2_with fail
      go_ret
      exact ⟨rfl, HF4.out.trans f7⟩
  exact walk _ rfl
end Go.Proofs.YtmdbhcoioimlmaaGreat

/- tries of the decider: a stuck sequent. -/
namespace Go.Proofs.YtmdbhcoioimlmaaGreat
open Go.RowKit
open Fm (Tree)

/-- A part of a disjunction gives it. -/
noncomputable def orB (L : List Tree) : Tree → Bool
  | .or x y => dc (EntL L x) || dc (EntL L y)
  | _ => false
noncomputable def triesB (L : List Tree) (c : Tree) : Bool := orB L c || L.any (wayT L c)
theorem orB_or (L : List Tree) (x y : Tree) : orB L (.or x y) = (dc (EntL L x) || dc (EntL L y)) := rfl

theorem tries_law {L : List Tree} {c : Tree} (hS : OkS L c) (hst : StuckN L L.length) (hc : hasL L c = false) (hk : (∃ v, c = .var v) ∨ c = .fls ∨ ∃ x y, c = .or x y) : triesB L c = dc (EntL L c) := by
  cases hb : triesB L c with
  | true =>
    symm
    unfold triesB at hb
    rw [Bool.or_eq_true] at hb
    rcases hb with hb | hb
    · rcases hk with ⟨v, rfl⟩ | rfl | ⟨x, y, rfl⟩
      · cases hb
      · cases hb
      · rw [orB_or, Bool.or_eq_true] at hb
        obtain ⟨_, _, h1, h2⟩ := mv_r_or hS
        exact hb.elim h1 h2
    · obtain ⟨t, ht, hw⟩ := List.any_eq_true.1 hb
      cases t with
      | imp a z =>
        cases a with
        | imp x y =>
          rw [wayT_ii, Bool.and_eq_true] at hw
          obtain ⟨_, _, hz, _, hyz⟩ := fmOk_imp_imp (hS.1 _ ht)
          obtain ⟨P, hP⟩ := ins_ex hS.1 (.imp (.imp x y) z) [.imp y z] (ok_one hyz)
          obtain ⟨Q, hQ⟩ := ins_ex hS.1 (.imp (.imp x y) z) [z] (ok_one hz)
          have h3 := (mv_ii hS ht hP hQ).2.2
          rw [← ins_dc hP, ← ins_dc hQ] at hw
          exact dc_true (h3 (of_dc hw.1) (of_dc hw.2))
        | _ => cases hw
      | _ => cases hw
  | false =>
    symm
    unfold triesB at hb
    rw [Bool.or_eq_false_iff] at hb
    refine waysP_fail hst hc ?_ ?_ (fun t K _ hK => ins_ex hS.1 t K hK) hS.1
    · rcases hk with ⟨v, rfl⟩ | rfl | ⟨x, y, rfl⟩
      · exact .inl ⟨v, rfl⟩
      · exact .inr (.inl rfl)
      · have := hb.1
        rw [orB_or, Bool.or_eq_false_iff] at this
        exact .inr (.inr ⟨x, y, rfl, this.1, this.2⟩)
    · intro i _ x y z hi P Q hP hQ
      have := (List.any_eq_false.1 hb.2) _ (List.mem_of_getElem? hi)
      rw [wayT_ii, ← ins_dc hP, ← ins_dc hQ] at this
      simpa using this

theorem Boxes.mk' {w : World} {D M bd bg : Nat} {v : Value} {r : ByteArray} (hM : Memo w M) (h1 : w.cell? ⟨bd, 0, none⟩ = some (.pointer (some ⟨D, 0, none⟩))) (h2 : w.cell? ⟨bg, 0, none⟩ = some v) (h3 : w.cell? ⟨bg, 1, none⟩ = some (.string r)) (hd : bd < w.heap.size) (hg : bg < w.heap.size) : Boxes w D M bd bg v r :=
  ⟨fun _ hV => hV.cell hM h1 hd, fun _ hV => hV.cell hM h2 hg, fun _ hV => hV.cell hM h3 hg⟩

set_option maxHeartbeats 4000000 in
theorem tries_c (D M : Nat) (v vc : Value) (L : List Tree) (c : Tree) (w : World) (hD : Dec w D M) (h : TL w v L) (hvc : Nodes w vc (Fm.enc c)) (hS : OkS L c) (hP : PrOk D M (mu L c)) :
    Calls Tryz.prog 130 #[.pointer (some ⟨D, 0, none⟩), .agg #[v, .string (tx c)], vc] w (Decides w D M (triesB L c)) := by
  have HC := Lib.hid hvc
  have HS := Lib.hid hS
  have HD := Lib.hid hD
  have e1 : ∀ args w, (callFunc 149 args).run Tryz.prog w = .ok (.enter 149 args) w := enters_of Tryz.func149 (by kernel_rfl) rfl
  have e2 : ∀ args w, (callFunc 150 args).run Tryz.prog w = .ok (.enter 150 args) w := enters_of Tryz.func150 (by kernel_rfl) rfl
  have g1 := (Grew.refl w).alloc (.cells #[.pointer (some ⟨D, 0, none⟩)] 46)
  have hs1 : (w.alloc (.cells #[.pointer (some ⟨D, 0, none⟩)] 46)).heap.size = w.heap.size + 1 := by simp
  have hg2 := Lib.hid (g1.alloc (.cells #[v, .string (tx c)] 85))
  have hB : Boxes ((w.alloc (.cells #[.pointer (some ⟨D, 0, none⟩)] 46)).alloc (.cells #[v, .string (tx c)] 85)) D M w.heap.size (w.heap.size + 1) v (tx c) := by
    have hbg := BoxG.new (w.alloc (.cells #[.pointer (some ⟨D, 0, none⟩)] 46)) v (tx c) 85
    rw [hs1] at hbg
    refine Boxes.mk' (hD.grew hg2.out).memo ?_ hbg.c0 hbg.c1 (by simp <;> omega) hbg.lt
    exact (((Grew.refl _).alloc _).cell (p := ⟨w.heap.size, 0, none⟩) (by simp)).trans (by simp)
  obtain ⟨Av, nv, cv, rfl⟩ := h.slice
  obtain ⟨bx, ox, nx, cx, rfl, hnx, hnxe, hkx⟩ := head_t hvc
  have hnnx : (0 : Int) < (nx : Int) := by omega
  have k0 := hkx _ hg2.out
  have hD2 := hD.grew hg2.out
  have h2 := h.grew hg2.out
  have HF2 := Lib.hid (DF.of_grew hD hg2.out)
  have HVC2 := Lib.hid (hvc.grew hg2.out)
  clear h hvc hkx hnxe g1 hD
  have goT : ∀ W, DF ((w.alloc (.cells #[.pointer (some ⟨D, 0, none⟩)] 46)).alloc (.cells #[.slice Av nv cv, .string (tx c)] 85)) D M W →
      Calls Tryz.prog 49 #[.slice Av nv cv, .func (.func 150) #[] #[.pointer (some ⟨w.heap.size, 0, none⟩), .pointer (some ⟨w.heap.size + 1, 0, none⟩)]] W (Decides W D M (L.any (wayT L c))) := fun W hW =>
    containsFuncX_c D M _ L _ _ (wayT L c) W hW.dec (h2.df hD2 hW) (fun V hV t ht => tries2_c D M _ _ _ L c t V hV.dec (h2.df hD2 (hW.trans hV)) (hB.df (hW.trans hV)) hS ht hP) e2
  have HG := Lib.hid goT
  have goO : ∀ n p W vp K, (∀ t ∈ K, OkS L t ∧ mu L t < n) → PrOk D M n → p = K → TL W vp K → DF ((w.alloc (.cells #[.pointer (some ⟨D, 0, none⟩)] 46)).alloc (.cells #[.slice Av nv cv, .string (tx c)] 85)) D M W →
      Calls Tryz.prog 49 #[vp, .func (.func 149) #[] #[.pointer (some ⟨w.heap.size, 0, none⟩), .pointer (some ⟨w.heap.size + 1, 0, none⟩)]] W (Decides W D M (K.any fun t => dc (EntL L t))) := fun n p W vp K hK hPn _ hv hW =>
    containsFuncX_c D M _ K _ _ (fun t => dc (EntL L t)) W hW.dec hv (fun V hV t ht => tries1_c D M _ _ n _ _ L t V hV.dec (h2.df hD2 (hW.trans hV)) (hB.df (hW.trans hV)) (hK t ht).1 (hK t ht).2 hPn) e1
  have HO := Lib.hid goO
  have HPr := Lib.hid hP
  have HB := Lib.hid hB
  clear goT goO hP hB h2 hD2 e1 e2
  unfold Decides triesB
  by_cases hi : ∃ x y, c = .or x y
  case neg =>
    have hk : orB L c = false := by
      cases c with
      | or p q => exact absurd ⟨p, q, rfl⟩ hi
      | _ => rfl
    have hk4 : kindOf c ≠ 3 := by
      intro h
      cases c with
      | or p q => exact hi ⟨p, q, rfl⟩
      | _ => simp [kindOf] at h
    rw [hk]
    clear hi hk HO HC HVC2 hS HS HPr
    have g0 := HB.out.g0 _ (DF.refl HF2.out.dec)
    unfold Decides at HG
    generalize L.any (wayT L c) = R at *
    generalize tx c = tc at *
    generalize kindOf c = k at *
    go_enter Tryz.func130, Tryz.ntmps130
    go_wp2_with fail
    refine (HG.out _ (DF.refl HF2.out.dec)).mono ?_
    rintro e w3 ⟨rfl, h3⟩
    go_wp2_with fail
    go_ret
    exact ⟨rfl, HF2.out.trans h3⟩
  obtain ⟨x, y, rfl⟩ := hi
  rw [orB_or]
  have KP := Lib.hid (partTexts_two _ _ x y _ HVC2.out (HS.out.2.1).1 (two_or x y) (.inr (.inl rfl)))
  have hm := mv_r_or hS
  have KO := Lib.hid (fun W vp hv hW => HO.out (mu L (.or x y)) [x, y] W vp [x, y] (fun t ht => by
    rcases List.mem_cons.1 ht with rfl | ht
    · exact hm.1
    · rw [List.mem_singleton] at ht; rw [ht]; exact hm.2.1) HPr.out rfl hv hW)
  have hany : ([x, y].any fun t => dc (EntL L t)) = (dc (EntL L x) || dc (EntL L y)) := by simp
  rw [hany] at KO
  have HB0 := Lib.hid HB.out.g0
  simp only [kindOf] at k0
  clear hm hany HO HC HVC2 hS HS HPr HB
  unfold Decides at HG KO
  generalize L.any (wayT L (.or x y)) = R at *
  generalize (dc (EntL L x) || dc (EntL L y)) = R2 at *
  generalize tx (.or x y) = tc at *
  go_enter Tryz.func130, Tryz.ntmps130
  go_wp2_with fail
  refine (KP.out).mono ?_
  rintro e w3 ⟨vp, rfl, hvp, hg3⟩
  have h3 := DF.of_grew HF2.out.dec hg3
  have hvp' : TL w3 vp [x, y] := hvp.strs
  have HKO := Lib.hid (KO.out _ vp hvp' h3)
  obtain ⟨Ap, np, cp, rfl⟩ := hvp'.slice
  clear hvp hvp' KO KP
  go_wp2_with fail
  refine (HKO.out).mono ?_
  rintro e w4 ⟨rfl, h4⟩
  have h24 := h3.trans h4
  cases R2 with
  | true =>
    go_wp2_with fail
    go_ret
    exact ⟨rfl, HF2.out.trans h24⟩
  | false =>
    have g0 := HB0.out _ h24
    go_wp2_with fail
    refine (HG.out _ h24).mono ?_
    rintro e w5 ⟨rfl, h5⟩
    go_wp2_with fail
    go_ret
    exact ⟨rfl, HF2.out.trans (h24.trans h5)⟩
end Go.Proofs.YtmdbhcoioimlmaaGreat

/- decide of the decider, where proves is right for what is smaller. -/
namespace Go.Proofs.YtmdbhcoioimlmaaGreat
open Go.RowKit
open Fm (Tree)

/-- The right side is an implication. -/
theorem mvP_r_imp {L : List Tree} {x y : Tree} (hS : OkS L (.imp x y)) {P : List Tree} (h : PutOf (L ++ [x]) P) : Mv L (.imp x y) P y ∧ dc (EntL L (.imp x y)) = dc (EntL P y) := by
  have a4 := h.tot f4
  have a2 := h.tot f2
  rw [tot_app, tot_one] at a4 a2
  have b4 := f4_imp x y
  have b2 := f2_imp x y
  refine ⟨mv_mk hS h.ok (fmOk_imp hS.2.1).2 (by omega) (by omega), dc_congr (el_r_imp fun b => ?_)⟩
  rw [h.mem, List.mem_append, List.mem_singleton]
/-- No formula of the left side is taken apart: the parts of a text that has none or two. -/
theorem partTexts_any (v : Value) (c : Tree) (w : World) (h : Nodes w v (Fm.enc c)) (hc : FmOk c) : Calls Tryz.prog 125 #[v] w fun e w' => ∃ A n k, e = .returned (.slice A n k) ∧ Grew w w' := by
  have two : ∀ x y, TwoF c x y → (kindOf c = 2 ∨ kindOf c = 3 ∨ kindOf c = 4) → Calls Tryz.prog 125 #[v] w fun e w' => ∃ A n k, e = .returned (.slice A n k) ∧ Grew w w' := fun x y h2 hk => by
    refine (partTexts_two v c x y w h hc.1 h2 hk).mono ?_
    rintro e w' ⟨u, rfl, hu, hg⟩
    obtain ⟨A, k, rfl⟩ := strs_slice hu.strs
    exact ⟨_, _, _, rfl, hg⟩
  have none' : (kindOf c = 0 ∨ kindOf c = 1) → Calls Tryz.prog 125 #[v] w fun e w' => ∃ A n k, e = .returned (.slice A n k) ∧ Grew w w' := fun hk => by
    refine (partTexts_none v c w h hk).mono ?_
    rintro e w' ⟨rfl, hg⟩
    exact ⟨_, _, _, rfl, hg⟩
  rcases fm_five hc with ⟨x, rfl⟩ | rfl | ⟨x, y, rfl⟩ | ⟨x, y, rfl⟩ | ⟨x, y, rfl⟩
  · exact none' (.inl rfl)
  · exact none' (.inr rfl)
  · exact two x y (two_and x y) (.inl rfl)
  · exact two x y (two_or x y) (.inr (.inl rfl))
  · exact two x y (two_imp x y) (.inr (.inr rfl))

theorem cell_ltD {w : World} {b o : Nat} {u : Value} (h : w.cell? ⟨b, o, none⟩ = some u) : b < w.heap.size := by
  rcases Nat.lt_or_ge b w.heap.size with hb | hb
  · exact hb
  · simp [World.cell?, Array.getElem?_eq_none hb] at h
theorem df_cell {w : World} {D M b o : Nat} {u : Value} (hD : Dec w D M) (h : ∀ W, Grew w W → W.cell? ⟨b, o, none⟩ = some u) : ∀ W, DF w D M W → W.cell? ⟨b, o, none⟩ = some u := fun _ hW => hW.cell hD.memo (h _ (Grew.refl _)) (cell_ltD (h _ (Grew.refl _)))

set_option maxHeartbeats 4000000 in
theorem decide_c (D M : Nat) (v : Value) (L : List Tree) (c : Tree) (w : World) (hD : Dec w D M) (h : TL w v L) (hS : OkS L c) (hP : PrOk D M (mu L c)) :
    Calls Tryz.prog 113 #[.pointer (some ⟨D, 0, none⟩), .agg #[v, .string (tx c)]] w (Decides w D M (dc (EntL L c))) := by
  have HS := Lib.hid hS
  have HD := Lib.hid hD
  have HP := Lib.hid hP
  have HL := Lib.hid h
  have hn : L.length ≤ 1048576 := Nat.le_trans (len_nu L c) hS.2.2
  have hok : FmOk .fls := ⟨by show (1 : Nat) ≤ 40; omega, anyP_no (fun i hi => by
    have h1 : i < 1 := hi
    obtain rfl : i = 0 := by omega
    rfl)⟩
  have hFt : tx .fls = ⟨#[70]⟩ := rfl
  have KC := Lib.hid (fun W (hW : Grew w W) => contains_t v L c W (h.grew hW) hS.1 hS.2.1 (by omega))
  have KF := Lib.hid (fun W (hW : Grew w W) => contains_t v L .fls W (h.grew hW) hS.1 hok (by omega))
  rw [hFt] at KF
  have KT := Lib.hid (fun W => treeOf_c c W hS.2.1)
  have hcm := Lib.hid (fun hc => dc_true (el_mem (hasL_true.1 hc)) : hasL L c = true → dc (EntL L c) = true)
  have hcf := Lib.hid (fun hc => dc_true (el_fls (hasL_true.1 hc)) : hasL L .fls = true → dc (EntL L c) = true)
  obtain ⟨Av, nv, cv, rfl⟩ := h.slice
  have hal := Lib.hid ((Grew.refl w).alloc (.cells #[.slice Av nv cv, .string (tx c)] 85))
  have hbg := BoxG.new w (.slice Av nv cv) (tx c) 85
  have b0 := hbg.at0
  have b1 := hbg.at1
  have r1 := Grew.refl (w.alloc (.cells #[.slice Av nv cv, .string (tx c)] 85))
  clear hD h hS hP hbg
  unfold Decides
  have hseq : ∃ hq1, hasL L c = hq1 := ⟨_, rfl⟩
  obtain ⟨hq1, hq1e⟩ := hseq
  have hseq : ∃ hq2, hasL L .fls = hq2 := ⟨_, rfl⟩
  obtain ⟨hq2, hq2e⟩ := hseq
  have HQ1 := Lib.hid hq1e
  have HQ2 := Lib.hid hq2e
  rw [hq1e] at KC hcm
  rw [hq2e] at KF hcf
  clear hq1e hq2e
  cases hq1 with
  | true =>
    rw [hcm.out rfl]
    generalize tx c = tc at *
    go_enter Tryz.func113, Tryz.ntmps113
    go_wp2_with fail
    generalize w.alloc (.cells #[.slice Av nv cv, .string tc] 85) = w1 at *
    refine (KC.out _ hal.out).mono ?_
    rintro e w2 ⟨rfl, hg2⟩
    go_wp2_with fail
    go_ret
    exact ⟨rfl, DF.of_grew HD.out (hal.out.trans hg2)⟩
  | false =>
  cases hq2 with
  | true =>
    rw [hcf.out rfl]
    generalize tx c = tc at *
    go_enter Tryz.func113, Tryz.ntmps113
    go_wp2_with fail
    generalize w.alloc (.cells #[.slice Av nv cv, .string tc] 85) = w1 at *
    refine (KC.out _ hal.out).mono ?_
    rintro e w2 ⟨rfl, hg2⟩
    have q0 := b0 _ hg2
    go_wp2_with fail
    refine (KF.out _ (hal.out.trans hg2)).mono ?_
    rintro e w3 ⟨rfl, hg3⟩
    go_wp2_with fail
    go_ret
    exact ⟨rfl, DF.of_grew HD.out ((hal.out.trans hg2).trans hg3)⟩
  | false =>
  have KPA := Lib.hid (fun va W (hva : Nodes W va (Fm.enc c)) => partTexts_any va c W hva HS.out.2.1)
  by_cases hand : ∃ x y, c = .and x y
  · obtain ⟨x, y, rfl⟩ := hand
    have hm := mv_r_and HS.out
    obtain ⟨hfx, hfy⟩ := fmOk_and HS.out.2.1
    have KP := Lib.hid (fun va W (hva : Nodes W va (Fm.enc (.and x y))) => partTexts_two va _ x y W hva HS.out.2.1.1 (two_and x y) (.inl rfl))
    have KA := Lib.hid (fun va W (hW : Dec W D M) (hv : Gls W va [(L, x), (L, y)]) => all_c D M (mu L (.and x y)) va [(L, x), (L, y)] W hW hv HP.out (fun p hp => by
      rcases List.mem_cons.1 hp with rfl | hp
      · exact hm.1
      · rw [List.mem_singleton] at hp; rw [hp]; exact hm.2.1))
    have hal2 : allB [(L, x), (L, y)] = dc (EntL L (.and x y)) := by rw [hm.2.2]; simp [allB]
    rw [hal2] at KA
    clear hm hal2 hcm hcf
    unfold Decides at KA
    generalize dc (EntL L (.and x y)) = R at *
    have HTx := Lib.hid (Eq.refl (tx (.and x y)))
    generalize tx (.and x y) = tc at *
    go_enter Tryz.func113, Tryz.ntmps113
    go_wp2_with fail
    generalize w.alloc (.cells #[.slice Av nv cv, .string tc] 85) = w1 at *
    refine (KC.out _ hal.out).mono ?_
    rintro e w2 ⟨rfl, hg2⟩
    have q0 := b0 _ hg2
    go_wp2_with fail
    refine (KF.out _ (hal.out.trans hg2)).mono ?_
    rintro e w3 ⟨rfl, hg3⟩
    have hg13 := hg2.trans hg3
    have q1 := b1 _ hg13
    go_wp2_with fail
    refine (KT.out _).mono ?_
    rintro e w4 ⟨vc, rfl, hvc, hg4⟩
    have hg14 := hg13.trans hg4
    have HVC := Lib.hid hvc
    obtain ⟨bx, ox, nx, cx, rfl, hnx, hnxe, hkx⟩ := head_t hvc
    have hnnx : (0 : Int) < (nx : Int) := by omega
    clear hvc hnxe
    go_wp2_with fail
    refine (KP.out _ _ HVC.out).mono ?_
    rintro e w5 ⟨vp, rfl, hvp, hg5⟩
    have hg15 := hg14.trans hg5
    have g5 := hal.out.trans hg15
    have k0 := hkx _ hg5
    simp only [kindOf] at k0
    obtain ⟨b2, o2, c2, rfl, hc2, hm2, z0, z1⟩ := TL.open2 (show TL w5 vp [x, y] from hvp.strs)
    have i1 : (1 : Int) < (2 : Int) := by omega
    have i0 : (0 : Int) < (2 : Int) := by omega
    have hD5 := HD.out.grew g5
    have s0 := df_cell hD5 (fun W hW => b0 W (hg15.trans hW))
    have s1 := df_cell hD5 (fun W hW => b1 W (hg15.trans hW))
    have y0 := df_cell hD5 z0
    have y1 := df_cell hD5 z1
    have d5 := (DF.refl hD5).drew
    have e5 := (Grew.refl w5).drew
    have HF5 := Lib.hid (DF.of_grew HD.out g5)
    have HL5 := Lib.hid (HL.out.grew g5)
    clear b0 b1 hkx hvp z0 z1
    go_wp2_with fail
    go_region_held3 (fun w' => DF w5 D M w') (first | with_reducible assumption | exact DF.alloc ‹_› _)
      (first
       | (go_at_call 126; have hz := h7; refine (KA.out _ _ (h7.alloc _).dec (Gls.two (p := (L, x)) (q := (L, y)) (HL5.out.grew k7) (HL5.out.grew k7))).mono ?_; rintro e w8 ⟨rfl, h8'⟩; have h8 := (h7.alloc _).trans h8')
       | (go_at_call 127; have hz := h6; refine (proving_c Av nv cv tc (tx y) _).mono ?_; rintro e w7 ⟨rfl, hg7⟩; have h7 := h6.grew hg7; have k7 := k6.trans hg7)
       | (go_at_call 127; refine (proving_c Av nv cv tc (tx x) _).mono ?_; rintro e w6 ⟨rfl, hg6⟩; have h6 := d5.grew hg6; have k6 := e5.trans hg6))
    go_wp2_with fail
    go_ret
    exact ⟨rfl, HF5.out.trans h8⟩
  by_cases himp : ∃ x y, c = .imp x y
  · obtain ⟨x, y, rfl⟩ := himp
    obtain ⟨hfx, hfy⟩ := fmOk_imp HS.out.2.1
    have KP := Lib.hid (fun va W (hva : Nodes W va (Fm.enc (.imp x y))) => partTexts_two va _ x y W hva HS.out.2.1.1 (two_imp x y) (.inr (.inr rfl)))
    have KW := Lib.hid (fun vt W (hW : Grew w W) (hv : TL W vt [x]) => with_c _ vt L [x] (tx (.imp x y)) W (HL.out.grew hW) hv HS.out.1 (ok_one hfx) (by simp; omega))
    have KA := Lib.hid (fun P u W (hP : PutOf (L ++ [x]) P) (hW : Dec W D M) (hv : TL W u P) => by
      have hm := mvP_r_imp HS.out hP
      have := HP.out P y u W hm.1.1 hm.1.2 hW hv
      rw [← hm.2] at this
      exact this)
    clear hcm hcf hand KPA
    unfold Decides at KA
    generalize dc (EntL L (.imp x y)) = R at *
    generalize tx (.imp x y) = tc at *
    go_enter Tryz.func113, Tryz.ntmps113
    go_wp2_with fail
    generalize w.alloc (.cells #[.slice Av nv cv, .string tc] 85) = w1 at *
    refine (KC.out _ hal.out).mono ?_
    rintro e w2 ⟨rfl, hg2⟩
    have q0 := b0 _ hg2
    go_wp2_with fail
    refine (KF.out _ (hal.out.trans hg2)).mono ?_
    rintro e w3 ⟨rfl, hg3⟩
    have hg13 := hg2.trans hg3
    have q1 := b1 _ hg13
    go_wp2_with fail
    refine (KT.out _).mono ?_
    rintro e w4 ⟨vc, rfl, hvc, hg4⟩
    have hg14 := hg13.trans hg4
    have HVC := Lib.hid hvc
    obtain ⟨bx, ox, nx, cx, rfl, hnx, hnxe, hkx⟩ := head_t hvc
    have hnnx : (0 : Int) < (nx : Int) := by omega
    clear hvc hnxe
    go_wp2_with fail
    refine (KP.out _ _ HVC.out).mono ?_
    rintro e w5 ⟨vp, rfl, hvp, hg5⟩
    have hg15 := hg14.trans hg5
    have g5 := hal.out.trans hg15
    have k0 := hkx _ hg5
    simp only [kindOf] at k0
    obtain ⟨b2, o2, c2, rfl, hc2, hm2, z0, z1⟩ := TL.open2 (show TL w5 vp [x, y] from hvp.strs)
    have i1 : (1 : Int) < (2 : Int) := by omega
    have i0 : (0 : Int) < (2 : Int) := by omega
    have hD5 := HD.out.grew g5
    have s0 := df_cell hD5 (fun W hW => b0 W (hg15.trans hW))
    have s1 := df_cell hD5 (fun W hW => b1 W (hg15.trans hW))
    have y0 := df_cell hD5 z0
    have y1 := df_cell hD5 z1
    have d5 := (DF.refl hD5).drew
    have e5 := g5.drew
    have HF5 := Lib.hid (DF.of_grew HD.out g5)
    clear b0 b1 hkx hvp z0 z1
    go_wp2_with fail
    go_region_held3 (fun w' => DF w5 D M w') (first | with_reducible assumption | exact DF.alloc ‹_› _)
      (first
       | (go_at_call 88; have hz := h7; refine (KA.out P _ _ hP h7.dec hu7).mono ?_; rintro e w8 ⟨rfl, h8'⟩; have h8 := h7.trans h8')
       | (go_at_call 127; have hz := h6; refine (proving_c Au nu' cu tc (tx y) _).mono ?_; rintro e w7 ⟨rfl, hg7⟩; have h7 := h6.grew hg7; have hu7 := hu.grew hg7)
       | (go_at_call 128; refine (KW.out _ _ (e5.alloc _) TL.one).mono ?_; rintro e w6 ⟨u, P, rfl, hP, hu, hg6⟩; have h6 := (d5.alloc _).grew hg6; obtain ⟨Au, nu', cu, rfl⟩ := hu.slice))
    go_wp2_with fail
    go_ret
    exact ⟨rfl, HF5.out.trans h8⟩
  have hk2 : kindOf c ≠ 2 := fun h => by
    cases c with
    | and p q => exact hand ⟨p, q, rfl⟩
    | _ => simp [kindOf] at h
  have hk4 : kindOf c ≠ 4 := fun h => by
    cases c with
    | imp p q => exact himp ⟨p, q, rfl⟩
    | _ => simp [kindOf] at h
  have hkind : (∃ v, c = .var v) ∨ c = .fls ∨ ∃ x y, c = .or x y := by
    rcases fm_five HS.out.2.1 with h | h | h | h | h
    · exact .inl h
    · exact .inr (.inl h)
    · exact absurd h hand
    · exact .inr (.inr h)
    · exact absurd h himp
  have KY := Lib.hid (fun va W (hW : Grew w W) (hv : Nodes W va (Fm.enc c)) (hst : StuckN L L.length) => by
    have := tries_c D M _ va L c W (HD.out.grew hW) (HL.out.grew hW) hv HS.out HP.out
    rw [tries_law HS.out hst HQ1.out hkind] at this
    exact this)
  have KK := Lib.hid (fun t va W (hW : Grew w W) (ht : t ∈ L) (ha : Nodes W va (Fm.enc t)) => taken_c _ va L c t W HS.out ht HQ2.out (HL.out.grew hW) ha)
  have KA := Lib.hid (fun t ps va W (hT : Taken L c t ps true) (hW : Dec W D M) (hv : Gls W va ps) => by
    have := all_c D M (mu L c) va ps W hW hv HP.out (fun p hp => (hT.1 rfl).1 p hp)
    rw [← (hT.1 rfl).2] at this
    exact this)
  have KTt := Lib.hid (fun t W (ht : t ∈ L) => treeOf_c t W (HS.out.1 t ht))
  have HSt := Lib.hid (fun j (hj : j < L.length) => (⟨L[j], List.getElem?_eq_getElem hj, List.getElem_mem hj⟩ : ∃ t, L[j]? = some t ∧ t ∈ L))
  obtain ⟨_, hcl, hrd⟩ := HL.out
  unfold Decides at KY KA
  clear hcm hcf hand himp hkind
  generalize dc (EntL L c) = R at *
  generalize tx c = tc at *
  have hb2 : (kindOf c == 2) = false := by simpa using hk2
  have hb4 : (kindOf c == 4) = false := by simpa using hk4
  clear hk2 hk4
  have hnv : nv = L.length := by
    rcases hrd with ⟨hv, h0⟩ | ⟨b, o, c', hv, _⟩
    · simp at hv h0
      rw [h0, hv.2.1]; rfl
    · simp at hv
      exact hv.2.1
  subst hnv
  have HRd := Lib.hid hrd
  have HTc := Lib.hid (fun (j : Nat) t (hj : L[j]? = some t) => (show (scells (L.map tx))[j]? = some (Value.string (tx t)) by simp [scells, hj]))
  have HS0 := Lib.hid (fun (j : Nat) t (h : StuckN L j) (hj : L[j]? = some t) (ha : StuckL L t) => h.succ hj ha)
  have hmax : L.length ≤ 9223372036854775807 := by omega
  have HZ := Lib.hid (fun (h0 : (L.map tx).length = 0) => (by simpa using h0 : L.length = 0))
  clear hrd hcl
  go_enter Tryz.func113, Tryz.ntmps113
  go_wp2_with fail
  generalize w.alloc (.cells #[.slice Av L.length cv, .string tc] 85) = w1 at *
  refine (KC.out _ hal.out).mono ?_
  rintro e w2 ⟨rfl, hg2⟩
  have q0 := b0 _ hg2
  go_wp2_with fail
  refine (KF.out _ (hal.out.trans hg2)).mono ?_
  rintro e w3 ⟨rfl, hg3⟩
  have hg13 := hg2.trans hg3
  have q1 := b1 _ hg13
  go_wp2_with fail
  refine (KT.out _).mono ?_
  rintro e w4 ⟨vc, rfl, hvc, hg4⟩
  have hg14 := hg13.trans hg4
  have HVC := Lib.hid hvc
  obtain ⟨bx, ox, nx, cx, rfl, hnx, hnxe, hkx⟩ := head_t hvc
  have hnnx : (0 : Int) < (nx : Int) := by omega
  clear hvc hnxe
  go_wp2_with fail
  refine (KPA.out _ _ HVC.out).mono ?_
  rintro e w5 ⟨Ap, np, cp, rfl, hg5⟩
  have hg15 := hg14.trans hg5
  have k0 := hkx _ hg5
  generalize kindOf c = kc at *
  have q2 := b0 _ hg15
  have HVC5 := Lib.hid (HVC.out.grew hg5)
  clear hkx q0 q1
  go_wp2_with fail
  go_loopw [62] (fun i wr => ∃ j : Nat, j ≤ L.length ∧ i = .int .i64 j ∧ Hid (Grew w5 wr) ∧ Hid (StuckN L j)) (fun i _ => L.length - (intOf i).toNat)
  case atStart => exact ⟨0, Nat.zero_le _, rfl, Grew.refl _, StuckN.zero _⟩
  case round =>
    obtain ⟨j, hj, rfl, hB, HJ⟩ := hrel
    have h1r := hg15.trans hB.out
    by_cases hlt : j < L.length
    · obtain ⟨t, hjt, htL⟩ := HSt.out j hlt
      rcases HRd.out with ⟨_, h0⟩ | ⟨b, o, c', hv, h4, h5, h6, hcell⟩
      · have := HZ.out h0; omega
      obtain ⟨rfl, -⟩ : Av = some ⟨b, o, none⟩ ∧ _ := by simpa using hv
      have k1 := ((hal.out.trans h1r).cell (p := ⟨b, o + j, none⟩) h6).trans (hcell j _ (HTc.out j t hjt))
      have hS1 := Lib.hid (fun ha => HS0.out j t HJ.out hjt ha)
      have HtL := Lib.hid htL
      have d1 := h1r.drew
      have dB := Lib.hid hB.out.drew
      clear hcell hv h4 h5 h6 hjt htL
      go_wp2_with fail
      go_region_held3 (fun w' => Grew w1 w') (first | with_reducible assumption)
        (first
         | (go_at_call 129; refine (KK.out t _ _ (hal.out.trans h18) HtL.out hva).mono ?_; rintro e w9 ⟨u, ps, ok, rfl, hT, hgl, hg9⟩; have h19 := h18.trans hg9; have hB9 := Lib.hid ((dB.out.trans hg8).trans hg9))
         | (go_at_call 124; refine (KTt.out t _ HtL.out).mono ?_; rintro e w8 ⟨va, rfl, hva, hg8⟩; have h18 := d1.trans hg8; obtain ⟨Aa, na, ca, rfl⟩ := slice3 hva))
      cases ok with
      | true =>
        have HT := Lib.hid hT
        clear hT
        go_wp2_with fail
        refine (KA.out t ps u _ HT.out (HD.out.grew (hal.out.trans h19)) hgl).mono ?_
        rintro e w10 ⟨rfl, h10⟩
        go_wp2_with fail
        go_ret
        exact ⟨rfl, (DF.of_grew HD.out (hal.out.trans h19)).trans h10⟩
      | false =>
        have hs := Lib.hid (hS1.out (hT.2 rfl))
        clear hT
        go_wp2_with fail
        go_roundw
        case rel => exact ⟨j + 1, by omega, by go_num, hB9, hs⟩
        case measure => simp [intOf]; omega
    · obtain rfl : j = L.length := by omega
      have p0 := b0 _ h1r
      have p1 := b1 _ h1r
      go_wp2_with fail
      refine (KY.out _ _ (hal.out.trans h1r) (HVC5.out.grew hB.out) HJ.out).mono ?_
      rintro e w10 ⟨rfl, h10⟩
      go_wp2_with fail
      go_ret
      exact ⟨rfl, (DF.of_grew HD.out (hal.out.trans h1r)).trans h10⟩
end Go.Proofs.YtmdbhcoioimlmaaGreat

/- provable of the program: the decision. -/
namespace Go.Proofs.YtmdbhcoioimlmaaGreat
open Go.RowKit
open Fm (Tree)

theorem PrOk.less {D M m n : Nat} (h : PrOk D M n) (hm : m ≤ n) : PrOk D M m := fun L c v W hS hn hD hT => h L c v W hS (by omega) hD hT
theorem prOk_all (D M : Nat) : ∀ n, PrOk D M n
  | 0 => fun L c v W hS hn hD hT => absurd hn (by omega)
  | n + 1 => fun L c v W hS hn hD hT =>
    proves_of D M L c v W hS hD hT fun V hV => decide_c D M v L c V hV.dec (hT.df hD hV) hS ((prOk_all D M n).less (by omega))
theorem proves_c (D M : Nat) (L : List Tree) (c : Tree) (v : Value) (w : World) (hS : OkS L c) (hD : Dec w D M) (h : TL w v L) :
    Calls Tryz.prog 88 #[.pointer (some ⟨D, 0, none⟩), .agg #[v, .string (tx c)]] w (Decides w D M (dc (EntL L c))) :=
  prOk_all D M (mu L c + 1) L c v w hS (by omega) hD h

theorem newDecider_c (w : World) : Calls Tryz.prog 35 #[] w fun e w' => ∃ D M, e = .returned (.pointer (some ⟨D, 0, none⟩)) ∧ Dec w' D M ∧ w.heap.size ≤ M ∧ Grew w w' := by
  have hs1 : (w.alloc (.map #[] 0)).heap.size = w.heap.size + 1 := by simp
  have hM := (Memo.new w).grew ((Grew.refl _).alloc (.cells #[.map (some w.heap.size)] 75))
  have hc : ((w.alloc (.map #[] 0)).alloc (.cells #[.map (some w.heap.size)] 75)).cell? ⟨w.heap.size + 1, 0, none⟩ = some (.map (some w.heap.size)) := by
    have h := blk_cell (blk_new (w.alloc (.map #[] 0)) (.cells #[.map (some w.heap.size)] 75)) 0
    rw [hs1] at h
    exact h
  have HD : Hid (Dec ((w.alloc (.map #[] 0)).alloc (.cells #[.map (some w.heap.size)] 75)) (w.heap.size + 1) w.heap.size) := Lib.hid ⟨by simp, hc, hM⟩
  have hg := Lib.hid (((Grew.refl w).alloc (.map #[] 0)).alloc (.cells #[.map (some w.heap.size)] 75))
  clear hM hc
  have hmm := @run_makeMap Tryz.prog
  go_enter Tryz.func35, Tryz.ntmps35
  go_wp2_with fail
  go_ret
  exact ⟨_, _, rfl, HD.out, Nat.le_refl _, hg.out⟩

theorem putOf_ok {L P : List Tree} {c : Tree} (hS : OkS L c) (h : PutOf (L ++ []) P) : OkS P c ∧ dc (EntL P c) = dc (EntL L c) := by
  have h2 := h.tot f2
  rw [List.append_nil] at h2
  refine ⟨⟨h.ok, hS.2.1, by have := hS.2.2; unfold nu at *; omega⟩, dc_congr (entL_congr fun a => ?_)⟩
  rw [h.mem, List.append_nil]
set_option maxHeartbeats 2000000 in
theorem dprovable_c (D M : Nat) (L : List Tree) (c : Tree) (v : Value) (w : World) (hS : OkS L c) (hD : Dec w D M) (h : TL w v L) :
    Calls Tryz.prog 56 #[.pointer (some ⟨D, 0, none⟩), v, .string (tx c)] w (Decides w D M (dc (EntL L c))) := by
  have hn : L.length ≤ 1048576 := Nat.le_trans (len_nu L c) hS.2.2
  have KP := Lib.hid (put_t v _ L [] w h (TL.nil_ w) hS.1 (fun a ha => by cases ha) (by simp; omega))
  have KV := Lib.hid (fun P u W (hP : PutOf (L ++ []) P) (hW : Dec W D M) (hu : TL W u P) => by
    have hm := putOf_ok hS hP
    have := proves_c D M P c u W hm.1 hW hu
    rw [hm.2] at this
    exact this)
  have HD := Lib.hid hD
  obtain ⟨A, n, k, rfl⟩ := h.slice
  clear h hS hD
  unfold Decides at *
  generalize dc (EntL L c) = R at *
  generalize tx c = tc at *
  go_enter Tryz.func56, Tryz.ntmps56
  go_wp2_with fail
  refine (KP.out).mono ?_
  rintro e w1 ⟨u, P, rfl, hP, hu, hg1⟩
  have hT : TL w1 u P := hu.strs
  have HT := Lib.hid hT
  obtain ⟨A1, n1, c1, rfl⟩ := hT.slice
  clear hT hu
  go_wp2_with fail
  refine (KV.out P _ _ hP (HD.out.grew hg1) HT.out).mono ?_
  rintro e w2 ⟨rfl, h2⟩
  go_wp2_with fail
  go_ret
  exact ⟨rfl, (DF.of_grew HD.out hg1).trans h2⟩

/-- provable decides. -/
theorem provable_c (L : List Tree) (c : Tree) (v : Value) (w : World) (hS : OkS L c) (h : TL w v L) :
    Calls Tryz.prog 32 #[v, .string (tx c)] w fun e w' => e = .returned (.bool (dc (EntL L c))) ∧ Grew w w' := by
  have KN := Lib.hid (newDecider_c w)
  have KV := Lib.hid (fun D M W (hW : Grew w W) (hD : Dec W D M) => dprovable_c D M L c v W hS hD (h.grew hW))
  obtain ⟨A, n, k, rfl⟩ := h.slice
  clear h hS
  unfold Decides at *
  generalize dc (EntL L c) = R at *
  generalize tx c = tc at *
  go_enter Tryz.func32, Tryz.ntmps32
  go_wp2_with fail
  refine (KN.out).mono ?_
  rintro e w1 ⟨D, M, rfl, hD, hM, hg1⟩
  have HD := Lib.hid hD
  have HM := Lib.hid hM
  clear hD hM
  go_wp2_with fail
  refine (KV.out D M _ hg1 HD.out).mono ?_
  rintro e w2 ⟨rfl, h2⟩
  go_wp2_with fail
  go_ret
  exact ⟨rfl, h2.only.grew_of hg1 HM.out⟩

end Go.Proofs.YtmdbhcoioimlmaaGreat

/- The reference's search: l23Search decides what follows. -/
namespace Go.Proofs.YtmdbhcoioimlmaaGreat
open Go.RowKit
open Fm (Nd Tree)

set_option maxHeartbeats 8000000 in
set_option maxRecDepth 8192 in
theorem l23Search_c : ∀ (m : Nat) (L : List Tree) (c : Tree) (v vc : Value) (w : World), mu L c < m → OkS L c → LT w v L → Nodes w vc (Fm.enc c) →
    Calls Tryz.prog 41 #[v, vc] w fun e w' => e = .returned (.bool (dc (EntL L c))) ∧ Grew w w' := by
  intro m
  induction m with
  | zero => intro L c v vc w hm; omega
  | succ m ih =>
  intro L c v vc w hm hS hv hc
  have IH := Lib.hid (fun K d u ud W (hM : Mv L c K d) (hu : LT W u K) (hd : Nodes W ud (Fm.enc d)) => ih K d u ud W (by have := hM.2; omega) hM.1 hu hd)
  clear ih hm
  have hn : L.length ≤ 1048576 := Nat.le_trans (len_nu L c) hS.2.2
  have HV := Lib.hid hv
  have HC := Lib.hid hc
  have HS := Lib.hid hS
  have r0 := Grew.refl w
  have KH1 := Lib.hid (fun W (hW : Grew w W) => l23Has_c v vc L c W (hv.grew hW) (hc.grew hW) hS.1 (by omega))
  have KH2 := Lib.hid (fun u W (hW : Grew w W) (hu : Nodes W u (Fm.enc .fls)) => l23Has_c v u L .fls W (hv.grew hW) hu hS.1 (by omega))
  obtain ⟨bc, oc, nc, cc, rfl, hnc0, hnce, hkc⟩ := head_t hc
  have hnnc : (0 : Int) < (nc : Int) := by omega
  clear hnce
  cases h1 : hasL L c with
  | true =>
    have hr := Lib.hid (dc_true (el_mem (hasL_true.1 h1)))
    obtain ⟨A, cA, rfl⟩ := lt_slice hv
    rw [h1] at KH1
    clear hS hv hc IH HV HC HS KH2 hkc h1
    generalize dc (EntL L c) = q at *
    go_enter Tryz.func41, Tryz.ntmps41
    go_wp2_with fail
    refine (KH1.out _ r0).mono ?_
    rintro e w1 ⟨rfl, hg1⟩
    go_wp2_with fail
    go_ret
    exact ⟨congrArg (fun k => Ending.returned (Value.bool k)) hr.out.symm, hg1⟩
  | false =>
  rw [h1] at KH1
  cases h2 : hasL L .fls with
  | true =>
    have hr := Lib.hid (dc_true (el_fls (c := c) (hasL_true.1 h2)))
    obtain ⟨A, cA, rfl⟩ := lt_slice hv
    rw [h2] at KH2
    clear hS hv hc IH HV HC HS hkc h1 h2
    generalize dc (EntL L c) = q at *
    go_enter Tryz.func41, Tryz.ntmps41
    go_wp2_with fail
    refine (KH1.out _ r0).mono ?_
    rintro e w1 ⟨rfl, hg1⟩
    go_wp2_with fail
    refine (l02False_c _).mono ?_
    rintro e w2 ⟨u, rfl, hu, hg2⟩
    have g2 := hg1.trans hg2
    go_wp2_with fail
    refine (KH2.out _ _ g2 hu.nodes).mono ?_
    rintro e w3 ⟨rfl, hg3⟩
    go_wp2_with fail
    go_ret
    exact ⟨congrArg (fun k => Ending.returned (Value.bool k)) hr.out.symm, g2.trans hg3⟩
  | false =>
  rw [h2] at KH2
  obtain ⟨R, hR⟩ : ∃ R, R = dc (EntL L c) := ⟨_, rfl⟩
  have HR := Lib.hid hR
  rw [← hR]
  have HX := Lib.hid (fun j (hj : j < L.length) => (⟨L[j], List.getElem?_eq_getElem hj, hS.1 _ (List.getElem_mem hj)⟩ : ∃ t, L[j]? = some t ∧ FmOk t))
  have H1 := Lib.hid h1
  have H2 := Lib.hid h2
  obtain ⟨us, hrd, hvt⟩ := hv
  have HRD := Lib.hid hrd
  have HVT := Lib.hid hvt
  obtain ⟨A, cl, rfl⟩ := lt_slice ⟨us, hrd, hvt⟩
  have HKC := Lib.hid hkc
  clear hS hc h1 h2 hR hkc
  generalize hN : L.length = n at *
  have HN := Lib.hid hN
  have HOP := Lib.hid (LT.openA ⟨us, by rw [hN]; exact hrd, hvt⟩ hN)
  clear hN hrd hvt
  go_enter Tryz.func41, Tryz.ntmps41
  go_wp2_with fail
  refine (KH1.out _ r0).mono ?_
  rintro e w1 ⟨rfl, hg1⟩
  go_wp2_with fail
  refine (l02False_c _).mono ?_
  rintro e w2 ⟨u, rfl, hu, hg2⟩
  have g2 := hg1.trans hg2
  obtain ⟨A2, c2, rfl⟩ := nodes_slice hu.nodes
  go_wp2_with fail
  refine (KH2.out _ _ g2 hu.nodes).mono ?_
  rintro e w3 ⟨rfl, hg3⟩
  have g3 := g2.trans hg3
  clear KH1 KH2 hu hg1 hg2 hg3 g2
  go_wp2_with fail
  go_loopw [5] (fun i wr => ∃ j : Nat, j ≤ n ∧ i = .int .i64 j ∧ Grew w wr ∧ Hid (StuckN L j)) (fun i _ => n - (intOf i).toNat)
  case atStart => exact ⟨0, Nat.zero_le _, rfl, g3, Lib.hid (StuckN.zero L)⟩
  clear g3
  case round =>
    obtain ⟨j, hj, rfl, hB, HJ⟩ := hrel
    by_cases hlt : j < n
    · obtain ⟨b, o, rfl, hlc, hcm, hb, hcell⟩ := HOP.out j hlt
      obtain ⟨t, ht, hf⟩ := HX.out j hlt
      obtain ⟨u, k0, hu⟩ := hcell j t ht
      clear hcell
      have k1 := k0 _ hB
      obtain ⟨bu, ou, nu', cu, rfl, hnu0, hnue, hku⟩ := head_t hu
      have hku1 := fun W (hW : Grew wr W) => hku W (hB.trans hW)
      have hnnu : (0 : Int) < (nu' : Int) := by omega
      have i0 : (0 : Int) ≤ (j : Int) := by omega
      have i1 : (j : Int) ≤ (cl : Int) := by omega
      have i2 : (j : Int) + 1 ≤ (n : Int) := by omega
      have i3 : (0 : Int) ≤ (j : Int) + 1 := by omega
      have i4 : IntKind.i64.wrap ((j : Int) + 1) = (j : Int) + 1 := by rw [IntKind.wrap_i64]; omega
      clear k0 hku hnue
      have hown0 : OwnV (wr.alloc (.cells #[] 42)).drew wr.heap.size (.slice (some ⟨wr.heap.size, 0, none⟩) 0 0) [] := own_empty wr
      have hal := (Grew.refl wr).alloc (.cells #[] 42)
      have hg0 : Grew wr (wr.alloc (.cells #[] 42)).drew := hal.drew
      have hr0 := Grew.refl wr
      have hd0 := hr0.drew
      have R1 := Lib.hid (fun W (hW : Grew wr W) => rd_take (HRD.out.grew (hB.trans hW)) j hj)
      have R2 := Lib.hid (fun W (hW : Grew wr W) => rd_tail (HRD.out.grew (hB.trans hW)) (j + 1) (by omega) hlc)
      have O1 := Lib.hid ((HVT.out.take j).cell1)
      have O2 := Lib.hid ((HVT.out.drop (j + 1)).cell1)
      have L1 := Lib.hid (show (us.take j).length ≤ j by rw [List.length_take]; omega)
      go_wp2_with fail
      go_region_held3 (fun w' => Grew wr w') (first | with_reducible assumption | exact Grew.alloc ‹_› _)
        (first
         | (refine step_appV (w0 := wr) rfl _ _ rfl _ _ rfl hown1 hgq _ (n - (j + 1)) (us.drop (j + 1)) rfl (R2.out _ hgq) O2.out (by have := L1.out; simp only [List.nil_append]; omega) ?_; intro v4 w4 hown2 hg4)
         | (refine step_appV (w0 := wr) rfl _ _ rfl _ [] rfl hown0 hg0 _ j (us.take j) rfl (R1.out _ hg0) O1.out (by simp; omega) ?_; intro v2 w2 hown1 hgq))
      simp only [List.nil_append] at hown2
      clear hown0 hal hg0 hr0 hd0 R1 R2 O1 O2 L1 hown1 hgq
      generalize (if cl = j + 1 then some (⟨b, o, none⟩ : Addr) else some ⟨b, o + (j + 1), none⟩) = tl
      have hev := Lib.hid ((HVT.out.take j).app (HVT.out.drop (j + 1)))
      rw [← List.eraseIdx_eq_take_drop_succ L j] at hev
      have HLT := Lib.hid (fun W (hW : Grew w4 W) => (LT.of_own hown2 (hev.out.grew (hB.trans hg4))).grew hW)
      clear hev hown2
      have hel : (L.eraseIdx j).length ≤ 2097152 := by rw [List.length_eraseIdx]; split <;> (rw [HN.out]; omega)
      have gw4 := hB.trans hg4
      have HU := Lib.hid hu
      have KU := Lib.hid (l23Useless_c v4 (.slice (some ⟨bu, ou, none⟩) nu' cu) (L.eraseIdx j) t w4 (HLT.out _ (Grew.refl _)) (hu.grew gw4) (ok_erase HS.out) hf (by omega))
      cases hul : usl (L.eraseIdx j) t with
      | true =>
        have M := mv_useless HS.out ht hul
        have KS := Lib.hid (fun W (hW : Grew w4 W) => IH.out _ _ v4 (.slice (some ⟨bc, oc, none⟩) nc cc) W M.1 (HLT.out W hW) (HC.out.grew (gw4.trans hW)))
        have hr := Lib.hid (HR.out.trans M.2)
        rw [hul] at KU
        clear M HLT IH HS HC HR HJ ht hu hku1 hul HX H1 H2 HRD HVT HOP HN HKC HV HU
        generalize dc (EntL (L.eraseIdx j) c) = q at *
        go_wp2_with fail
        refine (KU.out).mono ?_
        rintro e w5 ⟨rfl, hg5⟩
        go_wp2_with fail
        refine (KS.out _ hg5).mono ?_
        rintro e w6 ⟨rfl, hg6⟩
        go_wp2_with fail
        go_ret
        exact ⟨congrArg (fun k => Ending.returned (Value.bool k)) hr.out.symm, gw4.trans (hg5.trans hg6)⟩
      | false =>
      rcases fm_five hf with ⟨x, rfl⟩ | rfl | ⟨x, y, rfl⟩ | ⟨x, y, rfl⟩ | ⟨x, y, rfl⟩
      · have k2 : ∀ W, Grew wr W → W.cell? ⟨bu, ou, none⟩ = some (.int .i64 0) := hku1
        have hs := Lib.hid (HJ.out.succ ht (stuck_var x))
        rw [hul] at KU
        clear HLT IH HS HC HR HJ ht hu hku1 hul HX H1 H2 HRD HVT HOP HN HKC HV HU
        go_wp2_with fail
        refine (KU.out).mono ?_
        rintro e w5 ⟨rfl, hg5⟩
        have k3 := k2 _ (hg4.trans hg5)
        go_wp2_with fail
        go_roundw
        case rel => exact ⟨j + 1, by omega, by go_num, gw4.trans hg5, hs⟩
        case measure => simp [intOf]; omega
      · exact absurd (at_mem ht) (hasL_false.1 H2.out)
      · have k2 : ∀ W, Grew wr W → W.cell? ⟨bu, ou, none⟩ = some (.int .i64 2) := hku1
        have M := mv_and HS.out ht
        have KL := Lib.hid (fun W (hW : Grew w4 W) => left_t (two_and x y) hf (.slice (some ⟨bu, ou, none⟩) nu' cu) W (HU.out.grew (gw4.trans hW)))
        have KR := Lib.hid (fun W (hW : Grew w4 W) => right_t (two_and x y) hf (.slice (some ⟨bu, ou, none⟩) nu' cu) W (HU.out.grew (gw4.trans hW)))
        have KW := Lib.hid (fun vm W (hW : Grew w4 W) (hm : LT W vm [x, y]) => l23With_c v4 vm _ [x, y] W (HLT.out W hW) hm (ok_erase HS.out) (ok_two (fmOk_and hf).1 (fmOk_and hf).2) hel (by simp))
        have KS := Lib.hid (fun u W (hW : Grew w4 W) (h : LT W u _) => IH.out _ _ u (.slice (some ⟨bc, oc, none⟩) nc cc) W M.1 h (HC.out.grew (gw4.trans hW)))
        have hr := Lib.hid (HR.out.trans M.2)
        rw [hul] at KU
        clear M HLT IH HS HC HR HJ ht hu hku1 hul HX H1 H2 HRD HVT HOP HN HKC HV HU
        generalize dc (EntL (withL (L.eraseIdx j) [x, y]) c) = q at *
        go_wp2_with fail
        refine (KU.out).mono ?_
        rintro e w5 ⟨rfl, hg5⟩
        have k3 := k2 _ (hg4.trans hg5)
        go_wp2_with fail
        refine (KL.out _ hg5).mono ?_
        rintro e w6 ⟨u1, rfl, hu1, hg6⟩
        have g6 := hg5.trans hg6
        go_wp2_with fail
        refine (KR.out _ g6).mono ?_
        rintro e w7 ⟨u2, rfl, hu2, hg7⟩
        have g7 := g6.trans hg7
        obtain ⟨Au1, nu1, cu1, rfl⟩ := slice3 hu1
        obtain ⟨Au2, nu2, cu2, rfl⟩ := slice3 hu2
        have hlt2 := LT.two (T := 42) (hu1.grew hg7) hu2
        have g8 := g7.alloc (.cells #[.slice Au1 nu1 cu1, .slice Au2 nu2 cu2] 42)
        go_wp2_with fail
        refine (KW.out _ _ g8 hlt2).mono ?_
        rintro e w9 ⟨u3, rfl, hu3, hg9⟩
        have g9 := g8.trans hg9
        go_wp2_with fail
        refine (KS.out _ _ g9 hu3).mono ?_
        rintro e w10 ⟨rfl, hg10⟩
        go_wp2_with fail
        go_ret
        exact ⟨congrArg (fun k => Ending.returned (Value.bool k)) hr.out.symm, gw4.trans (g9.trans hg10)⟩
      · have M := mv_or HS.out ht
        cases h1r : dc (EntL (withL (L.eraseIdx j) [x]) c) with
        | false =>
          have k2 : ∀ W, Grew wr W → W.cell? ⟨bu, ou, none⟩ = some (.int .i64 3) := hku1
          have KL := Lib.hid (fun W (hW : Grew w4 W) => left_t (two_or x y) hf (.slice (some ⟨bu, ou, none⟩) nu' cu) W (HU.out.grew (gw4.trans hW)))
          have KR := Lib.hid (fun W (hW : Grew w4 W) => right_t (two_or x y) hf (.slice (some ⟨bu, ou, none⟩) nu' cu) W (HU.out.grew (gw4.trans hW)))
          have KW := Lib.hid (fun vm z W (hW : Grew w4 W) (hm : LT W vm [z]) (hz : FmOk z) => l23With_c v4 vm _ [z] W (HLT.out W hW) hm (ok_erase HS.out) (ok_one hz) hel (by simp))
          have KS1 := Lib.hid (fun u W (hW : Grew w4 W) (h : LT W u _) => IH.out _ _ u (.slice (some ⟨bc, oc, none⟩) nc cc) W M.1 h (HC.out.grew (gw4.trans hW)))
          have KS2 := Lib.hid (fun u W (hW : Grew w4 W) (h : LT W u _) => IH.out _ _ u (.slice (some ⟨bc, oc, none⟩) nc cc) W M.2.1 h (HC.out.grew (gw4.trans hW)))
          have hfx := (fmOk_or hf).1
          have hfy := (fmOk_or hf).2
          have hr := Lib.hid (HR.out.trans M.2.2)
          rw [h1r] at hr KS1
          rw [hul] at KU
          clear M HLT IH HS HC HR HJ ht hu hku1 hul HX H1 H2 HRD HVT HOP HN HKC HV HU
          clear h1r
          go_wp2_with fail
          refine (KU.out).mono ?_
          rintro e w5 ⟨rfl, hg5⟩
          have k3 := k2 _ (hg4.trans hg5)
          go_wp2_with fail
          refine (KL.out _ hg5).mono ?_
          rintro e w6 ⟨u1, rfl, hu1, hg6⟩
          have g6 := hg5.trans hg6
          obtain ⟨Au1, nu1, cu1, rfl⟩ := slice3 hu1
          have hlt2 := LT.one (T := 42) hu1
          have g8 := g6.alloc (.cells #[.slice Au1 nu1 cu1] 42)
          go_wp2_with fail
          refine (KW.out _ _ _ g8 hlt2 hfx).mono ?_
          rintro e w9 ⟨u3, rfl, hu3, hg9⟩
          have g9 := g8.trans hg9
          go_wp2_with fail
          refine (KS1.out _ _ g9 hu3).mono ?_
          rintro e w10 ⟨rfl, hg10⟩
          have g10 := g9.trans hg10
          go_wp2_with fail
          go_ret
          exact ⟨congrArg (fun k => Ending.returned (Value.bool k)) hr.out.symm, gw4.trans g10⟩
        | true =>
          have k2 : ∀ W, Grew wr W → W.cell? ⟨bu, ou, none⟩ = some (.int .i64 3) := hku1
          have KL := Lib.hid (fun W (hW : Grew w4 W) => left_t (two_or x y) hf (.slice (some ⟨bu, ou, none⟩) nu' cu) W (HU.out.grew (gw4.trans hW)))
          have KR := Lib.hid (fun W (hW : Grew w4 W) => right_t (two_or x y) hf (.slice (some ⟨bu, ou, none⟩) nu' cu) W (HU.out.grew (gw4.trans hW)))
          have KW := Lib.hid (fun vm z W (hW : Grew w4 W) (hm : LT W vm [z]) (hz : FmOk z) => l23With_c v4 vm _ [z] W (HLT.out W hW) hm (ok_erase HS.out) (ok_one hz) hel (by simp))
          have KS1 := Lib.hid (fun u W (hW : Grew w4 W) (h : LT W u _) => IH.out _ _ u (.slice (some ⟨bc, oc, none⟩) nc cc) W M.1 h (HC.out.grew (gw4.trans hW)))
          have KS2 := Lib.hid (fun u W (hW : Grew w4 W) (h : LT W u _) => IH.out _ _ u (.slice (some ⟨bc, oc, none⟩) nc cc) W M.2.1 h (HC.out.grew (gw4.trans hW)))
          have hfx := (fmOk_or hf).1
          have hfy := (fmOk_or hf).2
          have hr := Lib.hid (HR.out.trans M.2.2)
          rw [h1r] at hr KS1
          rw [hul] at KU
          clear M HLT IH HS HC HR HJ ht hu hku1 hul HX H1 H2 HRD HVT HOP HN HKC HV HU
          clear h1r
          generalize dc (EntL (withL (L.eraseIdx j) [y]) c) = q at *
          go_wp2_with fail
          refine (KU.out).mono ?_
          rintro e w5 ⟨rfl, hg5⟩
          have k3 := k2 _ (hg4.trans hg5)
          go_wp2_with fail
          refine (KL.out _ hg5).mono ?_
          rintro e w6 ⟨u1, rfl, hu1, hg6⟩
          have g6 := hg5.trans hg6
          obtain ⟨Au1, nu1, cu1, rfl⟩ := slice3 hu1
          have hlt2 := LT.one (T := 42) hu1
          have g8 := g6.alloc (.cells #[.slice Au1 nu1 cu1] 42)
          go_wp2_with fail
          refine (KW.out _ _ _ g8 hlt2 hfx).mono ?_
          rintro e w9 ⟨u3, rfl, hu3, hg9⟩
          have g9 := g8.trans hg9
          go_wp2_with fail
          refine (KS1.out _ _ g9 hu3).mono ?_
          rintro e w10 ⟨rfl, hg10⟩
          have g10 := g9.trans hg10
          clear hu1 hu3 hlt2
          go_wp2_with fail
          refine (KR.out _ g10).mono ?_
          rintro e w11 ⟨u4, rfl, hu4, hg11⟩
          have g11 := g10.trans hg11
          obtain ⟨Au4, nu4, cu4, rfl⟩ := slice3 hu4
          have hlt3 := LT.one (T := 42) hu4
          have g12 := g11.alloc (.cells #[.slice Au4 nu4 cu4] 42)
          go_wp2_with fail
          refine (KW.out _ _ _ g12 hlt3 hfy).mono ?_
          rintro e w13 ⟨u5, rfl, hu5, hg13⟩
          have g13 := g12.trans hg13
          go_wp2_with fail
          refine (KS2.out _ _ g13 hu5).mono ?_
          rintro e w14 ⟨rfl, hg14⟩
          go_wp2_with fail
          go_ret
          exact ⟨congrArg (fun k => Ending.returned (Value.bool k)) hr.out.symm, gw4.trans (g13.trans hg14)⟩
      · have hxf : Fm.isF x = false := (Bool.or_eq_false_iff.1 hul).1
        rcases fm_five (fmOk_imp hf).1 with ⟨p, hx⟩ | hx | ⟨p, q, hx⟩ | ⟨p, q, hx⟩ | ⟨p, q, hx⟩
        · have hkx2 : (kindOf x == 2) = false := by rw [hx]; rfl
          have hkx3 : (kindOf x == 3) = false := by rw [hx]; rfl
          cases hx1 : hasL (L.eraseIdx j) x with
          | true =>
            clear hx hxf
            have k2 : ∀ W, Grew wr W → W.cell? ⟨bu, ou, none⟩ = some (.int .i64 4) := hku1
            have KL := Lib.hid (fun W (hW : Grew w4 W) => left_t (two_imp _ y) hf (.slice (some ⟨bu, ou, none⟩) nu' cu) W (HU.out.grew (gw4.trans hW)))
            have KR := Lib.hid (fun W (hW : Grew w4 W) => right_t (two_imp _ y) hf (.slice (some ⟨bu, ou, none⟩) nu' cu) W (HU.out.grew (gw4.trans hW)))
            have M := mv_mp HS.out ht hx1
            have hfy := (fmOk_imp hf).2
            have KX := Lib.hid (fun u W (hW : Grew w4 W) (hu : Nodes W u (Fm.enc x)) => l23Has_c v4 u _ x W (HLT.out W hW) hu (ok_erase HS.out) (by omega))
            have KW := Lib.hid (fun vm W (hW : Grew w4 W) (hm : LT W vm [y]) => l23With_c v4 vm _ _ W (HLT.out W hW) hm (ok_erase HS.out) (ok_one hfy) hel (by simp))
            have KS := Lib.hid (fun u W (hW : Grew w4 W) (h : LT W u _) => IH.out _ _ u (.slice (some ⟨bc, oc, none⟩) nc cc) W M.1 h (HC.out.grew (gw4.trans hW)))
            have hr := Lib.hid (HR.out.trans M.2)
            rw [hx1] at KX
            clear hx1
            rw [hul] at KU
            clear M HLT IH HS HC HR HJ ht hu hku1 hul HX H1 H2 HRD HVT HOP HN HKC HV HU
            generalize dc (EntL (withL (L.eraseIdx j) [y]) c) = q0 at *
            go_wp2_with fail
            refine (KU.out).mono ?_
            rintro e w5 ⟨rfl, hg5⟩
            have k3 := k2 _ (hg4.trans hg5)
            go_wp2_with fail
            refine (KL.out _ hg5).mono ?_
            rintro e w6 ⟨u1, rfl, hu1, hg6⟩
            have g6 := hg5.trans hg6
            go_wp2_with fail
            refine (KR.out _ g6).mono ?_
            rintro e w7 ⟨u2, rfl, hu2, hg7⟩
            have g7 := g6.trans hg7
            obtain ⟨b1, o1, n1, c1, rfl, hn1, hne1, hk1⟩ := head_t hu1
            have hnn1 : (0 : Int) < (n1 : Int) := by omega
            have q1 := hk1 _ hg7
            have HU1 := Lib.hid (hu1.grew hg7)
            clear hk1 hne1
            have HU2 := Lib.hid hu2
            clear hu1 hu2
            generalize kindOf x = kx at *
            go_wp2_with fail
            refine (KX.out _ _ g7 HU1.out).mono ?_
            rintro e w8 ⟨rfl, hg8⟩
            have g8 := g7.trans hg8
            obtain ⟨Au2, nu2, cu2, rfl⟩ := slice3 HU2.out
            have hlt2 := LT.one (T := 42) (HU2.out.grew hg8)
            have g12 := g8.alloc (.cells #[.slice Au2 nu2 cu2] 42)
            go_wp2_with fail
            refine (KW.out _ _ g12 hlt2).mono ?_
            rintro e w13 ⟨u7, rfl, hu7, hg13⟩
            have g13 := g12.trans hg13
            go_wp2_with fail
            refine (KS.out _ _ g13 hu7).mono ?_
            rintro e w14 ⟨rfl, hg14⟩
            go_wp2_with fail
            go_ret
            exact ⟨congrArg (fun k => Ending.returned (Value.bool k)) hr.out.symm, gw4.trans (g13.trans hg14)⟩
          | false =>
            have hst : StuckL L (.imp x y) := by subst hx; exact stuck_imp_var ht hx1
            clear hx hxf
            have k2 : ∀ W, Grew wr W → W.cell? ⟨bu, ou, none⟩ = some (.int .i64 4) := hku1
            have KL := Lib.hid (fun W (hW : Grew w4 W) => left_t (two_imp _ y) hf (.slice (some ⟨bu, ou, none⟩) nu' cu) W (HU.out.grew (gw4.trans hW)))
            have KR := Lib.hid (fun W (hW : Grew w4 W) => right_t (two_imp _ y) hf (.slice (some ⟨bu, ou, none⟩) nu' cu) W (HU.out.grew (gw4.trans hW)))
            have KX := Lib.hid (fun u W (hW : Grew w4 W) (hu : Nodes W u (Fm.enc x)) => l23Has_c v4 u _ x W (HLT.out W hW) hu (ok_erase HS.out) (by omega))
            rw [hx1] at KX
            have hs := Lib.hid (HJ.out.succ ht hst)
            clear hx1 hst
            rw [hul] at KU
            clear HLT IH HS HC HR HJ ht hu hku1 hul HX H1 H2 HRD HVT HOP HN HKC HV HU
            go_wp2_with fail
            refine (KU.out).mono ?_
            rintro e w5 ⟨rfl, hg5⟩
            have k3 := k2 _ (hg4.trans hg5)
            go_wp2_with fail
            refine (KL.out _ hg5).mono ?_
            rintro e w6 ⟨u1, rfl, hu1, hg6⟩
            have g6 := hg5.trans hg6
            go_wp2_with fail
            refine (KR.out _ g6).mono ?_
            rintro e w7 ⟨u2, rfl, hu2, hg7⟩
            have g7 := g6.trans hg7
            obtain ⟨b1, o1, n1, c1, rfl, hn1, hne1, hk1⟩ := head_t hu1
            have hnn1 : (0 : Int) < (n1 : Int) := by omega
            have q1 := hk1 _ hg7
            have HU1 := Lib.hid (hu1.grew hg7)
            clear hk1 hne1
            clear hu1 hu2
            generalize kindOf x = kx at *
            go_wp2_with fail
            refine (KX.out _ _ g7 HU1.out).mono ?_
            rintro e w8 ⟨rfl, hg8⟩
            go_wp2_with fail
            go_roundw
            case rel => exact ⟨j + 1, by omega, by go_num, gw4.trans (g7.trans hg8), hs⟩
            case measure => simp [intOf]; omega
        · rw [hx] at hxf; cases hxf
        · subst hx
          clear hxf
          have k2 : ∀ W, Grew wr W → W.cell? ⟨bu, ou, none⟩ = some (.int .i64 4) := hku1
          have KL := Lib.hid (fun W (hW : Grew w4 W) => left_t (two_imp _ y) hf (.slice (some ⟨bu, ou, none⟩) nu' cu) W (HU.out.grew (gw4.trans hW)))
          have KR := Lib.hid (fun W (hW : Grew w4 W) => right_t (two_imp _ y) hf (.slice (some ⟨bu, ou, none⟩) nu' cu) W (HU.out.grew (gw4.trans hW)))
          have M := mv_and_imp HS.out ht
          obtain ⟨hfi, hfy⟩ := fmOk_imp hf
          obtain ⟨hfp, hfq⟩ := fmOk_and hfi
          have bi := fmOk_nn (fmOk_and_imp hf)
          simp only [nn_imp] at bi
          unfold nn at bi
          have KW := Lib.hid (fun vm W (hW : Grew w4 W) (hm : LT W vm [.imp p (.imp q y)]) => l23With_c v4 vm _ _ W (HLT.out W hW) hm (ok_erase HS.out) (ok_one (fmOk_and_imp hf)) hel (by simp))
          have KS := Lib.hid (fun u W (hW : Grew w4 W) (h : LT W u _) => IH.out _ _ u (.slice (some ⟨bc, oc, none⟩) nc cc) W M.1 h (HC.out.grew (gw4.trans hW)))
          have hr := Lib.hid (HR.out.trans M.2)
          rw [hul] at KU
          clear M HLT IH HS HC HR HJ ht hu hku1 hul HX H1 H2 HRD HVT HOP HN HKC HV HU
          generalize dc (EntL (withL (L.eraseIdx j) [.imp p (.imp q y)]) c) = q0 at *
          go_wp2_with fail
          refine (KU.out).mono ?_
          rintro e w5 ⟨rfl, hg5⟩
          have k3 := k2 _ (hg4.trans hg5)
          go_wp2_with fail
          refine (KL.out _ hg5).mono ?_
          rintro e w6 ⟨u1, rfl, hu1, hg6⟩
          have g6 := hg5.trans hg6
          go_wp2_with fail
          refine (KR.out _ g6).mono ?_
          rintro e w7 ⟨u2, rfl, hu2, hg7⟩
          have g7 := g6.trans hg7
          obtain ⟨b1, o1, n1, c1, rfl, hn1, hne1, hk1⟩ := head_t hu1
          have hnn1 : (0 : Int) < (n1 : Int) := by omega
          have q1 := hk1 _ hg7
          simp only [kindOf] at q1
          clear hk1 hne1
          have HU1 := Lib.hid hu1
          have HU2 := Lib.hid hu2
          go_wp2_with fail
          refine ((left_t (two_and p q) hfi _ _ (HU1.out.grew hg7))).mono ?_
          rintro e w8 ⟨u3, rfl, hu3, hg8⟩
          have g8 := g7.trans hg8
          go_wp2_with fail
          refine ((right_t (two_and p q) hfi _ _ (HU1.out.grew (hg7.trans hg8)))).mono ?_
          rintro e w9 ⟨u4, rfl, hu4, hg9⟩
          have g9 := g8.trans hg9
          go_wp2_with fail
          refine ((l02Pair_c 4 _ _ _ _ _ hu4 (HU2.out.grew (hg8.trans hg9)) (by omega))).mono ?_
          rintro e w10 ⟨u5, rfl, hu5, hg10⟩
          have g10 := g9.trans hg10
          go_wp2_with fail
          refine ((l02Pair_c 4 _ _ _ _ _ (hu3.grew (hg9.trans hg10)) hu5.nodes (by simp only [Fm.join, List.length_cons, List.length_append]; omega))).mono ?_
          rintro e w11 ⟨u6, rfl, hu6, hg11⟩
          have g11 := g10.trans hg11
          obtain ⟨Au6, nu6, cu6, rfl⟩ := slice3 hu6.nodes
          have hlt2 := LT.one (T := 42) (t := .imp p (.imp q y)) hu6.nodes
          have g12 := g11.alloc (.cells #[.slice Au6 nu6 cu6] 42)
          go_wp2_with fail
          refine (KW.out _ _ g12 hlt2).mono ?_
          rintro e w13 ⟨u7, rfl, hu7, hg13⟩
          have g13 := g12.trans hg13
          go_wp2_with fail
          refine (KS.out _ _ g13 hu7).mono ?_
          rintro e w14 ⟨rfl, hg14⟩
          go_wp2_with fail
          go_ret
          exact ⟨congrArg (fun k => Ending.returned (Value.bool k)) hr.out.symm, gw4.trans (g13.trans hg14)⟩
        · subst hx
          clear hxf
          have k2 : ∀ W, Grew wr W → W.cell? ⟨bu, ou, none⟩ = some (.int .i64 4) := hku1
          have KL := Lib.hid (fun W (hW : Grew w4 W) => left_t (two_imp _ y) hf (.slice (some ⟨bu, ou, none⟩) nu' cu) W (HU.out.grew (gw4.trans hW)))
          have KR := Lib.hid (fun W (hW : Grew w4 W) => right_t (two_imp _ y) hf (.slice (some ⟨bu, ou, none⟩) nu' cu) W (HU.out.grew (gw4.trans hW)))
          have M := mv_or_imp HS.out ht
          obtain ⟨hfi, hfy⟩ := fmOk_imp hf
          obtain ⟨hfp, hfq⟩ := fmOk_or hfi
          have bi := fmOk_nn hf
          simp only [nn_imp, nn_or] at bi
          unfold nn at bi
          have KW := Lib.hid (fun vm W (hW : Grew w4 W) (hm : LT W vm [.imp p y, .imp q y]) => l23With_c v4 vm _ _ W (HLT.out W hW) hm (ok_erase HS.out) (ok_two (fmOk_or_imp hf).1 (fmOk_or_imp hf).2) hel (by simp))
          have KS := Lib.hid (fun u W (hW : Grew w4 W) (h : LT W u _) => IH.out _ _ u (.slice (some ⟨bc, oc, none⟩) nc cc) W M.1 h (HC.out.grew (gw4.trans hW)))
          have hr := Lib.hid (HR.out.trans M.2)
          rw [hul] at KU
          clear M HLT IH HS HC HR HJ ht hu hku1 hul HX H1 H2 HRD HVT HOP HN HKC HV HU
          generalize dc (EntL (withL (L.eraseIdx j) [.imp p y, .imp q y]) c) = q0 at *
          go_wp2_with fail
          refine (KU.out).mono ?_
          rintro e w5 ⟨rfl, hg5⟩
          have k3 := k2 _ (hg4.trans hg5)
          go_wp2_with fail
          refine (KL.out _ hg5).mono ?_
          rintro e w6 ⟨u1, rfl, hu1, hg6⟩
          have g6 := hg5.trans hg6
          go_wp2_with fail
          refine (KR.out _ g6).mono ?_
          rintro e w7 ⟨u2, rfl, hu2, hg7⟩
          have g7 := g6.trans hg7
          obtain ⟨b1, o1, n1, c1, rfl, hn1, hne1, hk1⟩ := head_t hu1
          have hnn1 : (0 : Int) < (n1 : Int) := by omega
          have q1 := hk1 _ hg7
          simp only [kindOf] at q1
          clear hk1 hne1
          have HU1 := Lib.hid hu1
          have HU2 := Lib.hid hu2
          go_wp2_with fail
          refine ((left_t (two_or p q) hfi _ _ (HU1.out.grew hg7))).mono ?_
          rintro e w8 ⟨u3, rfl, hu3, hg8⟩
          have g8 := g7.trans hg8
          go_wp2_with fail
          refine ((l02Pair_c 4 _ _ _ _ _ hu3 (HU2.out.grew hg8) (by omega))).mono ?_
          rintro e w9 ⟨u5, rfl, hu5, hg9⟩
          have g9 := g8.trans hg9
          go_wp2_with fail
          refine ((right_t (two_or p q) hfi _ _ (HU1.out.grew (hg7.trans (hg8.trans hg9))))).mono ?_
          rintro e w10 ⟨u4, rfl, hu4, hg10⟩
          have g10 := g9.trans hg10
          go_wp2_with fail
          refine ((l02Pair_c 4 _ _ _ _ _ hu4 (HU2.out.grew (hg8.trans (hg9.trans hg10))) (by omega))).mono ?_
          rintro e w11 ⟨u6, rfl, hu6, hg11⟩
          have g11 := g10.trans hg11
          obtain ⟨Au5, nu5, cu5, rfl⟩ := slice3 hu5.nodes
          obtain ⟨Au6, nu6, cu6, rfl⟩ := slice3 hu6.nodes
          have hlt2 := LT.two (T := 42) (t := .imp p y) (s := .imp q y) (hu5.nodes.grew (hg10.trans hg11)) hu6.nodes
          have g12 := g11.alloc (.cells #[.slice Au5 nu5 cu5, .slice Au6 nu6 cu6] 42)
          go_wp2_with fail
          refine (KW.out _ _ g12 hlt2).mono ?_
          rintro e w13 ⟨u7, rfl, hu7, hg13⟩
          have g13 := g12.trans hg13
          go_wp2_with fail
          refine (KS.out _ _ g13 hu7).mono ?_
          rintro e w14 ⟨rfl, hg14⟩
          go_wp2_with fail
          go_ret
          exact ⟨congrArg (fun k => Ending.returned (Value.bool k)) hr.out.symm, gw4.trans (g13.trans hg14)⟩
        · have hkx2 : (kindOf x == 2) = false := by rw [hx]; rfl
          have hkx3 : (kindOf x == 3) = false := by rw [hx]; rfl
          cases hx1 : hasL (L.eraseIdx j) x with
          | true =>
            clear hx hxf
            have k2 : ∀ W, Grew wr W → W.cell? ⟨bu, ou, none⟩ = some (.int .i64 4) := hku1
            have KL := Lib.hid (fun W (hW : Grew w4 W) => left_t (two_imp _ y) hf (.slice (some ⟨bu, ou, none⟩) nu' cu) W (HU.out.grew (gw4.trans hW)))
            have KR := Lib.hid (fun W (hW : Grew w4 W) => right_t (two_imp _ y) hf (.slice (some ⟨bu, ou, none⟩) nu' cu) W (HU.out.grew (gw4.trans hW)))
            have M := mv_mp HS.out ht hx1
            have hfy := (fmOk_imp hf).2
            have KX := Lib.hid (fun u W (hW : Grew w4 W) (hu : Nodes W u (Fm.enc x)) => l23Has_c v4 u _ x W (HLT.out W hW) hu (ok_erase HS.out) (by omega))
            have KW := Lib.hid (fun vm W (hW : Grew w4 W) (hm : LT W vm [y]) => l23With_c v4 vm _ _ W (HLT.out W hW) hm (ok_erase HS.out) (ok_one hfy) hel (by simp))
            have KS := Lib.hid (fun u W (hW : Grew w4 W) (h : LT W u _) => IH.out _ _ u (.slice (some ⟨bc, oc, none⟩) nc cc) W M.1 h (HC.out.grew (gw4.trans hW)))
            have hr := Lib.hid (HR.out.trans M.2)
            rw [hx1] at KX
            clear hx1
            rw [hul] at KU
            clear M HLT IH HS HC HR HJ ht hu hku1 hul HX H1 H2 HRD HVT HOP HN HKC HV HU
            generalize dc (EntL (withL (L.eraseIdx j) [y]) c) = q0 at *
            go_wp2_with fail
            refine (KU.out).mono ?_
            rintro e w5 ⟨rfl, hg5⟩
            have k3 := k2 _ (hg4.trans hg5)
            go_wp2_with fail
            refine (KL.out _ hg5).mono ?_
            rintro e w6 ⟨u1, rfl, hu1, hg6⟩
            have g6 := hg5.trans hg6
            go_wp2_with fail
            refine (KR.out _ g6).mono ?_
            rintro e w7 ⟨u2, rfl, hu2, hg7⟩
            have g7 := g6.trans hg7
            obtain ⟨b1, o1, n1, c1, rfl, hn1, hne1, hk1⟩ := head_t hu1
            have hnn1 : (0 : Int) < (n1 : Int) := by omega
            have q1 := hk1 _ hg7
            have HU1 := Lib.hid (hu1.grew hg7)
            clear hk1 hne1
            have HU2 := Lib.hid hu2
            clear hu1 hu2
            generalize kindOf x = kx at *
            go_wp2_with fail
            refine (KX.out _ _ g7 HU1.out).mono ?_
            rintro e w8 ⟨rfl, hg8⟩
            have g8 := g7.trans hg8
            obtain ⟨Au2, nu2, cu2, rfl⟩ := slice3 HU2.out
            have hlt2 := LT.one (T := 42) (HU2.out.grew hg8)
            have g12 := g8.alloc (.cells #[.slice Au2 nu2 cu2] 42)
            go_wp2_with fail
            refine (KW.out _ _ g12 hlt2).mono ?_
            rintro e w13 ⟨u7, rfl, hu7, hg13⟩
            have g13 := g12.trans hg13
            go_wp2_with fail
            refine (KS.out _ _ g13 hu7).mono ?_
            rintro e w14 ⟨rfl, hg14⟩
            go_wp2_with fail
            go_ret
            exact ⟨congrArg (fun k => Ending.returned (Value.bool k)) hr.out.symm, gw4.trans (g13.trans hg14)⟩
          | false =>
            have hst : StuckL L (.imp x y) := by subst hx; exact stuck_imp_imp _ _ _
            clear hx hxf
            have k2 : ∀ W, Grew wr W → W.cell? ⟨bu, ou, none⟩ = some (.int .i64 4) := hku1
            have KL := Lib.hid (fun W (hW : Grew w4 W) => left_t (two_imp _ y) hf (.slice (some ⟨bu, ou, none⟩) nu' cu) W (HU.out.grew (gw4.trans hW)))
            have KR := Lib.hid (fun W (hW : Grew w4 W) => right_t (two_imp _ y) hf (.slice (some ⟨bu, ou, none⟩) nu' cu) W (HU.out.grew (gw4.trans hW)))
            have KX := Lib.hid (fun u W (hW : Grew w4 W) (hu : Nodes W u (Fm.enc x)) => l23Has_c v4 u _ x W (HLT.out W hW) hu (ok_erase HS.out) (by omega))
            rw [hx1] at KX
            have hs := Lib.hid (HJ.out.succ ht hst)
            clear hx1 hst
            rw [hul] at KU
            clear HLT IH HS HC HR HJ ht hu hku1 hul HX H1 H2 HRD HVT HOP HN HKC HV HU
            go_wp2_with fail
            refine (KU.out).mono ?_
            rintro e w5 ⟨rfl, hg5⟩
            have k3 := k2 _ (hg4.trans hg5)
            go_wp2_with fail
            refine (KL.out _ hg5).mono ?_
            rintro e w6 ⟨u1, rfl, hu1, hg6⟩
            have g6 := hg5.trans hg6
            go_wp2_with fail
            refine (KR.out _ g6).mono ?_
            rintro e w7 ⟨u2, rfl, hu2, hg7⟩
            have g7 := g6.trans hg7
            obtain ⟨b1, o1, n1, c1, rfl, hn1, hne1, hk1⟩ := head_t hu1
            have hnn1 : (0 : Int) < (n1 : Int) := by omega
            have q1 := hk1 _ hg7
            have HU1 := Lib.hid (hu1.grew hg7)
            clear hk1 hne1
            clear hu1 hu2
            generalize kindOf x = kx at *
            go_wp2_with fail
            refine (KX.out _ _ g7 HU1.out).mono ?_
            rintro e w8 ⟨rfl, hg8⟩
            go_wp2_with fail
            go_roundw
            case rel => exact ⟨j + 1, by omega, by go_num, gw4.trans (g7.trans hg8), hs⟩
            case measure => simp [intOf]; omega
    · obtain rfl : j = n := by omega
      clear hj hlt
      rcases fm_five HS.out.2.1 with ⟨x, rfl⟩ | rfl | ⟨x, y, rfl⟩ | ⟨x, y, rfl⟩ | ⟨x, y, rfl⟩
      · generalize hjn : j = n at *
        clear hjn
        have k3 : wr.cell? ⟨bc, oc, none⟩ = some (.int .i64 0) := HKC.out wr hB
        have hk := Lib.hid (show Shut L (.var x : Tree) from .inl ⟨x, rfl⟩)
        have gB := hB
        clear hB
        go_wp2_with fail
        have HW := Lib.hid (fun (hno : NoWay L (.var x : Tree) L.length) => HR.out.trans (ways_fail (by rw [HN.out]; exact HJ.out) H1.out hk.out (hno.all)))
        rw [HN.out] at HW
        clear hk H1 HJ
        go_loopw [10] (fun i wr => ∃ j : Nat, j ≤ n ∧ i = .int .i64 j ∧ Grew w wr ∧ Hid (NoWay L (.var x : Tree) j)) (fun i _ => n - (intOf i).toNat)
        case atStart => exact ⟨0, Nat.zero_le _, rfl, gB, Lib.hid (NoWay.zero _ _)⟩
        clear gB
        case round =>
          obtain ⟨j, hj, rfl, hB, HJ⟩ := hrel
          by_cases hlt : j < n
          · obtain ⟨b, o, rfl, hlc, hcm, hb, hcell⟩ := HOP.out j hlt
            obtain ⟨t, ht, hf⟩ := HX.out j hlt
            obtain ⟨u, k0, hu⟩ := hcell j t ht
            clear hcell
            have k1 := k0 _ hB
            obtain ⟨bu, ou, nu', cu, rfl, hnu0, hnue, hku⟩ := head_t hu
            have hku1 := fun W (hW : Grew wr W) => hku W (hB.trans hW)
            have hnnu : (0 : Int) < (nu' : Int) := by omega
            have HU := Lib.hid hu
            clear k0 hku hnue
            by_cases hii : ∃ a1 a2 a3, t = .imp (.imp a1 a2) a3
            · obtain ⟨a1, a2, a3, rfl⟩ := hii
              have hm := mv_imp_imp HS.out ht
              have k2 : ∀ W, Grew wr W → W.cell? ⟨bu, ou, none⟩ = some (.int .i64 4) := hku1
              have k3 := k2 _ (Grew.refl _)
              have i0 : (0 : Int) ≤ (j : Int) := by omega
              have i1 : (j : Int) ≤ (cl : Int) := by omega
              have i2 : (j : Int) + 1 ≤ (n : Int) := by omega
              have i3 : (0 : Int) ≤ (j : Int) + 1 := by omega
              have i4 : IntKind.i64.wrap ((j : Int) + 1) = (j : Int) + 1 := by rw [IntKind.wrap_i64]; omega
              obtain ⟨hfx, hfy, hfz, hfxy, hfyz⟩ := fmOk_imp_imp hf
              have bi := fmOk_nn hf
              simp only [nn_imp] at bi
              unfold nn at bi
              have KL := Lib.hid (fun W (hW : Grew wr W) => left_t (two_imp (.imp a1 a2) a3) hf (.slice (some ⟨bu, ou, none⟩) nu' cu) W (HU.out.grew (hB.trans hW)))
              have KR := Lib.hid (fun W (hW : Grew wr W) => right_t (two_imp (.imp a1 a2) a3) hf (.slice (some ⟨bu, ou, none⟩) nu' cu) W (HU.out.grew (hB.trans hW)))
              have hel : (L.eraseIdx j).length ≤ 2097152 := by rw [List.length_eraseIdx]; split <;> (rw [HN.out]; omega)
              have hev := Lib.hid ((HVT.out.take j).app (HVT.out.drop (j + 1)))
              rw [← List.eraseIdx_eq_take_drop_succ L j] at hev
              have hgu : 4 = kindOf (.imp a1 a2) := rfl
              go_wp2_with fail
              refine (KL.out _ (Grew.refl _)).mono ?_
              rintro e w6 ⟨u1, rfl, hu1, hg6⟩
              obtain ⟨b1, o1, n1, c1, rfl, hn1, hne1, hk1⟩ := head_t hu1
              have hnn1 : (0 : Int) < (n1 : Int) := by omega
              have q1 := hk1 _ (Grew.refl _)
              simp only [kindOf] at q1
              clear hk1 hne1 hu1 hgu
              have hown0 : OwnV (w6.alloc (.cells #[] 42)).drew w6.heap.size (.slice (some ⟨w6.heap.size, 0, none⟩) 0 0) [] := own_empty w6
              have hal := (Grew.refl w6).alloc (.cells #[] 42)
              have hg0 : Grew w6 (w6.alloc (.cells #[] 42)).drew := hal.drew
              have hr0 := Grew.refl w6
              have hd0 := hr0.drew
              have R1 := Lib.hid (fun W (hW : Grew w6 W) => rd_take (HRD.out.grew ((hB.trans hg6).trans hW)) j hj)
              have R2 := Lib.hid (fun W (hW : Grew w6 W) => rd_tail (HRD.out.grew ((hB.trans hg6).trans hW)) (j + 1) (by omega) hlc)
              have O1 := Lib.hid ((HVT.out.take j).cell1)
              have O2 := Lib.hid ((HVT.out.drop (j + 1)).cell1)
              have L1 := Lib.hid (show (us.take j).length ≤ j by rw [List.length_take]; omega)
              go_wp2_with fail
              go_region_held3 (fun w' => Grew w6 w') (first | with_reducible assumption | exact Grew.alloc ‹_› _)
                (first
                 | (refine step_appV (w0 := w6) rfl _ _ rfl _ _ rfl hown1 hgq _ (n - (j + 1)) (us.drop (j + 1)) rfl (R2.out _ hgq) O2.out (by have := L1.out; simp only [List.nil_append]; omega) ?_; intro v4 w4 hown2 hg4)
                 | (refine step_appV (w0 := w6) rfl _ _ rfl _ [] rfl hown0 hg0 _ j (us.take j) rfl (R1.out _ hg0) O1.out (by simp; omega) ?_; intro v2 w2 hown1 hgq))
              simp only [List.nil_append] at hown2
              clear hown0 hal hg0 hr0 hd0 R1 R2 O1 O2 L1 hown1 hgq
              generalize (if cl = j + 1 then some (⟨b, o, none⟩ : Addr) else some ⟨b, o + (j + 1), none⟩) = tl
              have HLT := Lib.hid (fun W (hW : Grew w4 W) => (LT.of_own hown2 (hev.out.grew (hB.trans (hg6.trans hg4)))).grew hW)
              have gw4 := hg6.trans hg4
              have KW2 := Lib.hid (fun vm W (hW : Grew w4 W) (hm : LT W vm [.imp a2 a3, a1]) => l23With_c v4 vm _ _ W (HLT.out W hW) hm (ok_erase HS.out) (ok_two hfyz hfx) hel (by simp))
              have KW1 := Lib.hid (fun vm W (hW : Grew w4 W) (hm : LT W vm [a3]) => l23With_c v4 vm _ _ W (HLT.out W hW) hm (ok_erase HS.out) (ok_one hfz) hel (by simp))
              have KS1 := Lib.hid (fun u ud W (h1 : LT W u _) (h : Nodes W ud (Fm.enc a2)) => IH.out _ _ u ud W hm.1 h1 h)
              have KS2 := Lib.hid (fun u W (hW : Grew w4 W) (h1 : LT W u _) => IH.out _ _ u (.slice (some ⟨bc, oc, none⟩) nc cc) W hm.2.1 h1 (HC.out.grew (hB.trans (gw4.trans hW))))
              go_wp2_with fail
              refine (KL.out _ gw4).mono ?_
              rintro e w7 ⟨u1, rfl, hu1, hg7⟩
              have g7 := gw4.trans hg7
              have G7 := hg7
              go_wp2_with fail
              refine (KR.out _ g7).mono ?_
              rintro e w8 ⟨u2, rfl, hu2, hg8⟩
              have G8 := G7.trans hg8
              have HX1 := Lib.hid hu1
              have HZ2 := Lib.hid hu2
              clear hu1 hu2
              go_wp2_with fail
              refine ((right_t (two_imp a1 a2) hfxy _ _ (HX1.out.grew hg8))).mono ?_
              rintro e w9 ⟨u3, rfl, hu3, hg9⟩
              have G9 := G8.trans hg9
              go_wp2_with fail
              refine ((l02Pair_c 4 _ _ _ _ _ hu3 (HZ2.out.grew hg9) (by omega))).mono ?_
              rintro e w10 ⟨u4, rfl, hu4, hg10⟩
              have G10 := G9.trans hg10
              go_wp2_with fail
              refine ((left_t (two_imp a1 a2) hfxy _ _ (HX1.out.grew (hg8.trans (hg9.trans hg10))))).mono ?_
              rintro e w11 ⟨u5, rfl, hu5, hg11⟩
              have G11 := G10.trans hg11
              obtain ⟨Au4, nu4, cu4, rfl⟩ := slice3 hu4.nodes
              obtain ⟨Au5, nu5, cu5, rfl⟩ := slice3 hu5
              have hlt2 := LT.two (T := 42) (t := .imp a2 a3) (s := a1) (hu4.nodes.grew hg11) hu5
              have G12 := G11.alloc (.cells #[.slice Au4 nu4 cu4, .slice Au5 nu5 cu5] 42)
              have hal12 := (Grew.refl w11).alloc (.cells #[.slice Au4 nu4 cu4, .slice Au5 nu5 cu5] 42)
              go_wp2_with fail
              refine (KW2.out _ _ G12 hlt2).mono ?_
              rintro e w13 ⟨u6, rfl, hu6, hg13⟩
              have G13 := G12.trans hg13
              have hx13 := hg8.trans (hg9.trans (hg10.trans (hg11.trans (hal12.trans hg13))))
              go_wp2_with fail
              refine ((right_t (two_imp a1 a2) hfxy _ _ (HX1.out.grew hx13))).mono ?_
              rintro e w14 ⟨u7, rfl, hu7, hg14⟩
              have G14 := G13.trans hg14
              cases e1 : dc (EntL (withL (L.eraseIdx j) [.imp a2 a3, a1]) a2) with
              | false =>
                have hs := Lib.hid (HJ.out.succ (t := .imp (.imp a1 a2) a3) ht (fun x1 y1 z1 he => by cases he; rw [e1]; rfl))
                rw [e1] at KS1
                clear IH HS HC HR HJ HX H2 HRD HVT HOP HN HKC HV HU HW ht hu hku1 hm hev hown2 HLT KW2 KL KR KW1 KS2
                go_wp2_with fail
                refine (KS1.out _ _ _ (hu6.grew hg14) hu7).mono ?_
                rintro e w15 ⟨rfl, hg15⟩
                go_wp2_with fail
                go_roundw
                case rel => exact ⟨j + 1, by omega, by go_num, hB.trans (gw4.trans (G14.trans hg15)), hs⟩
                case measure => simp [intOf]; omega
              | true =>
                rw [e1] at KS1
                cases e2 : dc (EntL (withL (L.eraseIdx j) [a3]) (.var x : Tree)) with
                | false =>
                  have hs := Lib.hid (HJ.out.succ (t := .imp (.imp a1 a2) a3) ht (fun x1 y1 z1 he => by cases he; rw [e2]; exact Bool.and_false _))
                  rw [e2] at KS2
                  clear IH HS HC HR HJ HX H2 HRD HVT HOP HN HKC HV HU HW ht hu hku1 hm hev hown2 HLT KW2 KL KR
                  go_wp2_with fail
                  refine (KS1.out _ _ _ (hu6.grew hg14) hu7).mono ?_
                  rintro e w15 ⟨rfl, hg15⟩
                  have G15 := G14.trans hg15
                  have hz15 := hg9.trans (hg10.trans (hg11.trans (hal12.trans (hg13.trans (hg14.trans hg15)))))
                  obtain ⟨Au2, nu2, cu2, rfl⟩ := slice3 (HZ2.out.grew hz15)
                  have hlt3 := LT.one (T := 42) (HZ2.out.grew hz15)
                  have G16 := G15.alloc (.cells #[.slice Au2 nu2 cu2] 42)
                  go_wp2_with fail
                  refine (KW1.out _ _ G16 hlt3).mono ?_
                  rintro e w17 ⟨u8, rfl, hu8, hg17⟩
                  have G17 := G16.trans hg17
                  go_wp2_with fail
                  refine (KS2.out _ _ G17 hu8).mono ?_
                  rintro e w18 ⟨rfl, hg18⟩
                  go_wp2_with fail
                  go_roundw
                  case rel => exact ⟨j + 1, by omega, by go_num, hB.trans (gw4.trans (G17.trans hg18)), hs⟩
                  case measure => simp [intOf]; omega
                | true =>
                  have hr := Lib.hid (HR.out.trans (hm.2.2 e1 e2))
                  rw [e2] at KS2
                  clear IH HS HC HR HJ HX H2 HRD HVT HOP HN HKC HV HU HW ht hu hku1 hm hev hown2 HLT KW2 KL KR
                  go_wp2_with fail
                  refine (KS1.out _ _ _ (hu6.grew hg14) hu7).mono ?_
                  rintro e w15 ⟨rfl, hg15⟩
                  have G15 := G14.trans hg15
                  have hz15 := hg9.trans (hg10.trans (hg11.trans (hal12.trans (hg13.trans (hg14.trans hg15)))))
                  obtain ⟨Au2, nu2, cu2, rfl⟩ := slice3 (HZ2.out.grew hz15)
                  have hlt3 := LT.one (T := 42) (HZ2.out.grew hz15)
                  have G16 := G15.alloc (.cells #[.slice Au2 nu2 cu2] 42)
                  go_wp2_with fail
                  refine (KW1.out _ _ G16 hlt3).mono ?_
                  rintro e w17 ⟨u8, rfl, hu8, hg17⟩
                  have G17 := G16.trans hg17
                  go_wp2_with fail
                  refine (KS2.out _ _ G17 hu8).mono ?_
                  rintro e w18 ⟨rfl, hg18⟩
                  go_wp2_with fail
                  go_ret
                  exact ⟨congrArg (fun k => Ending.returned (Value.bool k)) hr.out.symm, hB.trans (gw4.trans (G17.trans hg18))⟩
            · have hs := Lib.hid (HJ.out.succ (t := t) ht (fun a1 a2 a3 he => absurd ⟨a1, a2, a3, he⟩ hii))
              by_cases hki : ∃ a1 a2, t = .imp a1 a2
              · obtain ⟨a1, a2, rfl⟩ := hki
                have k2 : ∀ W, Grew wr W → W.cell? ⟨bu, ou, none⟩ = some (.int .i64 4) := hku1
                have k3 := k2 _ (Grew.refl _)
                have KL := Lib.hid (left_t (two_imp a1 a2) hf (.slice (some ⟨bu, ou, none⟩) nu' cu) wr (HU.out.grew hB))
                have hq : (kindOf a1 != 4) = true := not_imp_kind (fun p q e => hii ⟨p, q, a2, by rw [e]⟩)
                clear IH HS HC HR HJ HX H2 HRD HVT HOP HN HKC HV HU HW hii ht hu hku1
                go_wp2_with fail
                refine (KL.out).mono ?_
                rintro e w6 ⟨u1, rfl, hu1, hg6⟩
                obtain ⟨b1, o1, n1, c1, rfl, hn1, hne1, hk1⟩ := head_t hu1
                have hnn1 : (0 : Int) < (n1 : Int) := by omega
                have q1 := hk1 _ (Grew.refl _)
                clear hk1 hne1 hu1
                generalize kindOf a1 = kx at *
                go_wp2_with fail
                go_roundw
                case rel => exact ⟨j + 1, by omega, by go_num, hB.trans hg6, hs⟩
                case measure => simp [intOf]; omega
              · have hq : (kindOf t != 4) = true := not_imp_kind (fun p q e => hki ⟨p, q, e⟩)
                have k3 := hku1 _ (Grew.refl _)
                clear IH HS HC HR HJ HX H2 HRD HVT HOP HN HKC HV HU HW hii ht hu hku1 hki hf
                generalize kindOf t = kt at *
                go_wp2_with fail
                go_roundw
                case rel => exact ⟨j + 1, by omega, by go_num, hB, hs⟩
                case measure => simp [intOf]; omega
          · obtain rfl : j = n := by omega
            have hr := Lib.hid (HW.out HJ.out)
            clear IH HS HC HR HJ HX H2 HRD HVT HOP HN HKC HV HW
            go_wp2_with fail
            go_ret
            exact ⟨congrArg (fun k => Ending.returned (Value.bool k)) hr.out.symm, hB⟩
      · generalize hjn : j = n at *
        clear hjn
        have k3 : wr.cell? ⟨bc, oc, none⟩ = some (.int .i64 1) := HKC.out wr hB
        have hk := Lib.hid (show Shut L (.fls : Tree) from .inr (.inl rfl))
        have gB := hB
        clear hB
        go_wp2_with fail
        have HW := Lib.hid (fun (hno : NoWay L (.fls : Tree) L.length) => HR.out.trans (ways_fail (by rw [HN.out]; exact HJ.out) H1.out hk.out (hno.all)))
        rw [HN.out] at HW
        clear hk H1 HJ
        go_loopw [10] (fun i wr => ∃ j : Nat, j ≤ n ∧ i = .int .i64 j ∧ Grew w wr ∧ Hid (NoWay L (.fls : Tree) j)) (fun i _ => n - (intOf i).toNat)
        case atStart => exact ⟨0, Nat.zero_le _, rfl, gB, Lib.hid (NoWay.zero _ _)⟩
        clear gB
        case round =>
          obtain ⟨j, hj, rfl, hB, HJ⟩ := hrel
          by_cases hlt : j < n
          · obtain ⟨b, o, rfl, hlc, hcm, hb, hcell⟩ := HOP.out j hlt
            obtain ⟨t, ht, hf⟩ := HX.out j hlt
            obtain ⟨u, k0, hu⟩ := hcell j t ht
            clear hcell
            have k1 := k0 _ hB
            obtain ⟨bu, ou, nu', cu, rfl, hnu0, hnue, hku⟩ := head_t hu
            have hku1 := fun W (hW : Grew wr W) => hku W (hB.trans hW)
            have hnnu : (0 : Int) < (nu' : Int) := by omega
            have HU := Lib.hid hu
            clear k0 hku hnue
            by_cases hii : ∃ a1 a2 a3, t = .imp (.imp a1 a2) a3
            · obtain ⟨a1, a2, a3, rfl⟩ := hii
              have hm := mv_imp_imp HS.out ht
              have k2 : ∀ W, Grew wr W → W.cell? ⟨bu, ou, none⟩ = some (.int .i64 4) := hku1
              have k3 := k2 _ (Grew.refl _)
              have i0 : (0 : Int) ≤ (j : Int) := by omega
              have i1 : (j : Int) ≤ (cl : Int) := by omega
              have i2 : (j : Int) + 1 ≤ (n : Int) := by omega
              have i3 : (0 : Int) ≤ (j : Int) + 1 := by omega
              have i4 : IntKind.i64.wrap ((j : Int) + 1) = (j : Int) + 1 := by rw [IntKind.wrap_i64]; omega
              obtain ⟨hfx, hfy, hfz, hfxy, hfyz⟩ := fmOk_imp_imp hf
              have bi := fmOk_nn hf
              simp only [nn_imp] at bi
              unfold nn at bi
              have KL := Lib.hid (fun W (hW : Grew wr W) => left_t (two_imp (.imp a1 a2) a3) hf (.slice (some ⟨bu, ou, none⟩) nu' cu) W (HU.out.grew (hB.trans hW)))
              have KR := Lib.hid (fun W (hW : Grew wr W) => right_t (two_imp (.imp a1 a2) a3) hf (.slice (some ⟨bu, ou, none⟩) nu' cu) W (HU.out.grew (hB.trans hW)))
              have hel : (L.eraseIdx j).length ≤ 2097152 := by rw [List.length_eraseIdx]; split <;> (rw [HN.out]; omega)
              have hev := Lib.hid ((HVT.out.take j).app (HVT.out.drop (j + 1)))
              rw [← List.eraseIdx_eq_take_drop_succ L j] at hev
              have hgu : 4 = kindOf (.imp a1 a2) := rfl
              go_wp2_with fail
              refine (KL.out _ (Grew.refl _)).mono ?_
              rintro e w6 ⟨u1, rfl, hu1, hg6⟩
              obtain ⟨b1, o1, n1, c1, rfl, hn1, hne1, hk1⟩ := head_t hu1
              have hnn1 : (0 : Int) < (n1 : Int) := by omega
              have q1 := hk1 _ (Grew.refl _)
              simp only [kindOf] at q1
              clear hk1 hne1 hu1 hgu
              have hown0 : OwnV (w6.alloc (.cells #[] 42)).drew w6.heap.size (.slice (some ⟨w6.heap.size, 0, none⟩) 0 0) [] := own_empty w6
              have hal := (Grew.refl w6).alloc (.cells #[] 42)
              have hg0 : Grew w6 (w6.alloc (.cells #[] 42)).drew := hal.drew
              have hr0 := Grew.refl w6
              have hd0 := hr0.drew
              have R1 := Lib.hid (fun W (hW : Grew w6 W) => rd_take (HRD.out.grew ((hB.trans hg6).trans hW)) j hj)
              have R2 := Lib.hid (fun W (hW : Grew w6 W) => rd_tail (HRD.out.grew ((hB.trans hg6).trans hW)) (j + 1) (by omega) hlc)
              have O1 := Lib.hid ((HVT.out.take j).cell1)
              have O2 := Lib.hid ((HVT.out.drop (j + 1)).cell1)
              have L1 := Lib.hid (show (us.take j).length ≤ j by rw [List.length_take]; omega)
              go_wp2_with fail
              go_region_held3 (fun w' => Grew w6 w') (first | with_reducible assumption | exact Grew.alloc ‹_› _)
                (first
                 | (refine step_appV (w0 := w6) rfl _ _ rfl _ _ rfl hown1 hgq _ (n - (j + 1)) (us.drop (j + 1)) rfl (R2.out _ hgq) O2.out (by have := L1.out; simp only [List.nil_append]; omega) ?_; intro v4 w4 hown2 hg4)
                 | (refine step_appV (w0 := w6) rfl _ _ rfl _ [] rfl hown0 hg0 _ j (us.take j) rfl (R1.out _ hg0) O1.out (by simp; omega) ?_; intro v2 w2 hown1 hgq))
              simp only [List.nil_append] at hown2
              clear hown0 hal hg0 hr0 hd0 R1 R2 O1 O2 L1 hown1 hgq
              generalize (if cl = j + 1 then some (⟨b, o, none⟩ : Addr) else some ⟨b, o + (j + 1), none⟩) = tl
              have HLT := Lib.hid (fun W (hW : Grew w4 W) => (LT.of_own hown2 (hev.out.grew (hB.trans (hg6.trans hg4)))).grew hW)
              have gw4 := hg6.trans hg4
              have KW2 := Lib.hid (fun vm W (hW : Grew w4 W) (hm : LT W vm [.imp a2 a3, a1]) => l23With_c v4 vm _ _ W (HLT.out W hW) hm (ok_erase HS.out) (ok_two hfyz hfx) hel (by simp))
              have KW1 := Lib.hid (fun vm W (hW : Grew w4 W) (hm : LT W vm [a3]) => l23With_c v4 vm _ _ W (HLT.out W hW) hm (ok_erase HS.out) (ok_one hfz) hel (by simp))
              have KS1 := Lib.hid (fun u ud W (h1 : LT W u _) (h : Nodes W ud (Fm.enc a2)) => IH.out _ _ u ud W hm.1 h1 h)
              have KS2 := Lib.hid (fun u W (hW : Grew w4 W) (h1 : LT W u _) => IH.out _ _ u (.slice (some ⟨bc, oc, none⟩) nc cc) W hm.2.1 h1 (HC.out.grew (hB.trans (gw4.trans hW))))
              go_wp2_with fail
              refine (KL.out _ gw4).mono ?_
              rintro e w7 ⟨u1, rfl, hu1, hg7⟩
              have g7 := gw4.trans hg7
              have G7 := hg7
              go_wp2_with fail
              refine (KR.out _ g7).mono ?_
              rintro e w8 ⟨u2, rfl, hu2, hg8⟩
              have G8 := G7.trans hg8
              have HX1 := Lib.hid hu1
              have HZ2 := Lib.hid hu2
              clear hu1 hu2
              go_wp2_with fail
              refine ((right_t (two_imp a1 a2) hfxy _ _ (HX1.out.grew hg8))).mono ?_
              rintro e w9 ⟨u3, rfl, hu3, hg9⟩
              have G9 := G8.trans hg9
              go_wp2_with fail
              refine ((l02Pair_c 4 _ _ _ _ _ hu3 (HZ2.out.grew hg9) (by omega))).mono ?_
              rintro e w10 ⟨u4, rfl, hu4, hg10⟩
              have G10 := G9.trans hg10
              go_wp2_with fail
              refine ((left_t (two_imp a1 a2) hfxy _ _ (HX1.out.grew (hg8.trans (hg9.trans hg10))))).mono ?_
              rintro e w11 ⟨u5, rfl, hu5, hg11⟩
              have G11 := G10.trans hg11
              obtain ⟨Au4, nu4, cu4, rfl⟩ := slice3 hu4.nodes
              obtain ⟨Au5, nu5, cu5, rfl⟩ := slice3 hu5
              have hlt2 := LT.two (T := 42) (t := .imp a2 a3) (s := a1) (hu4.nodes.grew hg11) hu5
              have G12 := G11.alloc (.cells #[.slice Au4 nu4 cu4, .slice Au5 nu5 cu5] 42)
              have hal12 := (Grew.refl w11).alloc (.cells #[.slice Au4 nu4 cu4, .slice Au5 nu5 cu5] 42)
              go_wp2_with fail
              refine (KW2.out _ _ G12 hlt2).mono ?_
              rintro e w13 ⟨u6, rfl, hu6, hg13⟩
              have G13 := G12.trans hg13
              have hx13 := hg8.trans (hg9.trans (hg10.trans (hg11.trans (hal12.trans hg13))))
              go_wp2_with fail
              refine ((right_t (two_imp a1 a2) hfxy _ _ (HX1.out.grew hx13))).mono ?_
              rintro e w14 ⟨u7, rfl, hu7, hg14⟩
              have G14 := G13.trans hg14
              cases e1 : dc (EntL (withL (L.eraseIdx j) [.imp a2 a3, a1]) a2) with
              | false =>
                have hs := Lib.hid (HJ.out.succ (t := .imp (.imp a1 a2) a3) ht (fun x1 y1 z1 he => by cases he; rw [e1]; rfl))
                rw [e1] at KS1
                clear IH HS HC HR HJ HX H2 HRD HVT HOP HN HKC HV HU HW ht hu hku1 hm hev hown2 HLT KW2 KL KR KW1 KS2
                go_wp2_with fail
                refine (KS1.out _ _ _ (hu6.grew hg14) hu7).mono ?_
                rintro e w15 ⟨rfl, hg15⟩
                go_wp2_with fail
                go_roundw
                case rel => exact ⟨j + 1, by omega, by go_num, hB.trans (gw4.trans (G14.trans hg15)), hs⟩
                case measure => simp [intOf]; omega
              | true =>
                rw [e1] at KS1
                cases e2 : dc (EntL (withL (L.eraseIdx j) [a3]) (.fls : Tree)) with
                | false =>
                  have hs := Lib.hid (HJ.out.succ (t := .imp (.imp a1 a2) a3) ht (fun x1 y1 z1 he => by cases he; rw [e2]; exact Bool.and_false _))
                  rw [e2] at KS2
                  clear IH HS HC HR HJ HX H2 HRD HVT HOP HN HKC HV HU HW ht hu hku1 hm hev hown2 HLT KW2 KL KR
                  go_wp2_with fail
                  refine (KS1.out _ _ _ (hu6.grew hg14) hu7).mono ?_
                  rintro e w15 ⟨rfl, hg15⟩
                  have G15 := G14.trans hg15
                  have hz15 := hg9.trans (hg10.trans (hg11.trans (hal12.trans (hg13.trans (hg14.trans hg15)))))
                  obtain ⟨Au2, nu2, cu2, rfl⟩ := slice3 (HZ2.out.grew hz15)
                  have hlt3 := LT.one (T := 42) (HZ2.out.grew hz15)
                  have G16 := G15.alloc (.cells #[.slice Au2 nu2 cu2] 42)
                  go_wp2_with fail
                  refine (KW1.out _ _ G16 hlt3).mono ?_
                  rintro e w17 ⟨u8, rfl, hu8, hg17⟩
                  have G17 := G16.trans hg17
                  go_wp2_with fail
                  refine (KS2.out _ _ G17 hu8).mono ?_
                  rintro e w18 ⟨rfl, hg18⟩
                  go_wp2_with fail
                  go_roundw
                  case rel => exact ⟨j + 1, by omega, by go_num, hB.trans (gw4.trans (G17.trans hg18)), hs⟩
                  case measure => simp [intOf]; omega
                | true =>
                  have hr := Lib.hid (HR.out.trans (hm.2.2 e1 e2))
                  rw [e2] at KS2
                  clear IH HS HC HR HJ HX H2 HRD HVT HOP HN HKC HV HU HW ht hu hku1 hm hev hown2 HLT KW2 KL KR
                  go_wp2_with fail
                  refine (KS1.out _ _ _ (hu6.grew hg14) hu7).mono ?_
                  rintro e w15 ⟨rfl, hg15⟩
                  have G15 := G14.trans hg15
                  have hz15 := hg9.trans (hg10.trans (hg11.trans (hal12.trans (hg13.trans (hg14.trans hg15)))))
                  obtain ⟨Au2, nu2, cu2, rfl⟩ := slice3 (HZ2.out.grew hz15)
                  have hlt3 := LT.one (T := 42) (HZ2.out.grew hz15)
                  have G16 := G15.alloc (.cells #[.slice Au2 nu2 cu2] 42)
                  go_wp2_with fail
                  refine (KW1.out _ _ G16 hlt3).mono ?_
                  rintro e w17 ⟨u8, rfl, hu8, hg17⟩
                  have G17 := G16.trans hg17
                  go_wp2_with fail
                  refine (KS2.out _ _ G17 hu8).mono ?_
                  rintro e w18 ⟨rfl, hg18⟩
                  go_wp2_with fail
                  go_ret
                  exact ⟨congrArg (fun k => Ending.returned (Value.bool k)) hr.out.symm, hB.trans (gw4.trans (G17.trans hg18))⟩
            · have hs := Lib.hid (HJ.out.succ (t := t) ht (fun a1 a2 a3 he => absurd ⟨a1, a2, a3, he⟩ hii))
              by_cases hki : ∃ a1 a2, t = .imp a1 a2
              · obtain ⟨a1, a2, rfl⟩ := hki
                have k2 : ∀ W, Grew wr W → W.cell? ⟨bu, ou, none⟩ = some (.int .i64 4) := hku1
                have k3 := k2 _ (Grew.refl _)
                have KL := Lib.hid (left_t (two_imp a1 a2) hf (.slice (some ⟨bu, ou, none⟩) nu' cu) wr (HU.out.grew hB))
                have hq : (kindOf a1 != 4) = true := not_imp_kind (fun p q e => hii ⟨p, q, a2, by rw [e]⟩)
                clear IH HS HC HR HJ HX H2 HRD HVT HOP HN HKC HV HU HW hii ht hu hku1
                go_wp2_with fail
                refine (KL.out).mono ?_
                rintro e w6 ⟨u1, rfl, hu1, hg6⟩
                obtain ⟨b1, o1, n1, c1, rfl, hn1, hne1, hk1⟩ := head_t hu1
                have hnn1 : (0 : Int) < (n1 : Int) := by omega
                have q1 := hk1 _ (Grew.refl _)
                clear hk1 hne1 hu1
                generalize kindOf a1 = kx at *
                go_wp2_with fail
                go_roundw
                case rel => exact ⟨j + 1, by omega, by go_num, hB.trans hg6, hs⟩
                case measure => simp [intOf]; omega
              · have hq : (kindOf t != 4) = true := not_imp_kind (fun p q e => hki ⟨p, q, e⟩)
                have k3 := hku1 _ (Grew.refl _)
                clear IH HS HC HR HJ HX H2 HRD HVT HOP HN HKC HV HU HW hii ht hu hku1 hki hf
                generalize kindOf t = kt at *
                go_wp2_with fail
                go_roundw
                case rel => exact ⟨j + 1, by omega, by go_num, hB, hs⟩
                case measure => simp [intOf]; omega
          · obtain rfl : j = n := by omega
            have hr := Lib.hid (HW.out HJ.out)
            clear IH HS HC HR HJ HX H2 HRD HVT HOP HN HKC HV HW
            go_wp2_with fail
            go_ret
            exact ⟨congrArg (fun k => Ending.returned (Value.bool k)) hr.out.symm, hB⟩
      · generalize hjn : j = n at *
        clear hjn
        have M := mv_r_and HS.out
        cases h1r : dc (EntL L x) with
        | false =>
          have k2 : ∀ W, Grew wr W → W.cell? ⟨bc, oc, none⟩ = some (.int .i64 2) := fun W hW => HKC.out W (hB.trans hW)
          have k3 := k2 _ (Grew.refl _)
          have hf := HS.out.2.1
          have KL := Lib.hid (fun W (hW : Grew wr W) => left_t (two_and x y) hf (.slice (some ⟨bc, oc, none⟩) nc cc) W (HC.out.grew (hB.trans hW)))
          have KR := Lib.hid (fun W (hW : Grew wr W) => right_t (two_and x y) hf (.slice (some ⟨bc, oc, none⟩) nc cc) W (HC.out.grew (hB.trans hW)))
          have KS1 := Lib.hid (fun ud W (hW : Grew wr W) (h : Nodes W ud (Fm.enc x)) => IH.out _ _ (.slice A n cl) ud W M.1 (HV.out.grew (hB.trans hW)) h)
          have KS2 := Lib.hid (fun ud W (hW : Grew wr W) (h : Nodes W ud (Fm.enc y)) => IH.out _ _ (.slice A n cl) ud W M.2.1 (HV.out.grew (hB.trans hW)) h)
          have hr := Lib.hid (HR.out.trans M.2.2)
          rw [h1r] at hr KS1
          clear M IH HS HC HR HJ HX H1 H2 HRD HVT HOP HN HKC HV
          clear h1r
          go_wp2_with fail
          refine (KL.out _ (Grew.refl _)).mono ?_
          rintro e w6 ⟨u1, rfl, hu1, hg6⟩
          go_wp2_with fail
          refine (KS1.out _ _ hg6 hu1).mono ?_
          rintro e w7 ⟨rfl, hg7⟩
          have g7 := hg6.trans hg7
          go_wp2_with fail
          go_ret
          exact ⟨congrArg (fun k => Ending.returned (Value.bool k)) hr.out.symm, hB.trans g7⟩
        | true =>
          have k2 : ∀ W, Grew wr W → W.cell? ⟨bc, oc, none⟩ = some (.int .i64 2) := fun W hW => HKC.out W (hB.trans hW)
          have k3 := k2 _ (Grew.refl _)
          have hf := HS.out.2.1
          have KL := Lib.hid (fun W (hW : Grew wr W) => left_t (two_and x y) hf (.slice (some ⟨bc, oc, none⟩) nc cc) W (HC.out.grew (hB.trans hW)))
          have KR := Lib.hid (fun W (hW : Grew wr W) => right_t (two_and x y) hf (.slice (some ⟨bc, oc, none⟩) nc cc) W (HC.out.grew (hB.trans hW)))
          have KS1 := Lib.hid (fun ud W (hW : Grew wr W) (h : Nodes W ud (Fm.enc x)) => IH.out _ _ (.slice A n cl) ud W M.1 (HV.out.grew (hB.trans hW)) h)
          have KS2 := Lib.hid (fun ud W (hW : Grew wr W) (h : Nodes W ud (Fm.enc y)) => IH.out _ _ (.slice A n cl) ud W M.2.1 (HV.out.grew (hB.trans hW)) h)
          have hr := Lib.hid (HR.out.trans M.2.2)
          rw [h1r] at hr KS1
          clear M IH HS HC HR HJ HX H1 H2 HRD HVT HOP HN HKC HV
          clear h1r
          generalize dc (EntL L y) = q at *
          go_wp2_with fail
          refine (KL.out _ (Grew.refl _)).mono ?_
          rintro e w6 ⟨u1, rfl, hu1, hg6⟩
          go_wp2_with fail
          refine (KS1.out _ _ hg6 hu1).mono ?_
          rintro e w7 ⟨rfl, hg7⟩
          have g7 := hg6.trans hg7
          go_wp2_with fail
          refine (KR.out _ g7).mono ?_
          rintro e w8 ⟨u2, rfl, hu2, hg8⟩
          have g8 := g7.trans hg8
          go_wp2_with fail
          refine (KS2.out _ _ g8 hu2).mono ?_
          rintro e w9 ⟨rfl, hg9⟩
          go_wp2_with fail
          go_ret
          exact ⟨congrArg (fun k => Ending.returned (Value.bool k)) hr.out.symm, hB.trans (g8.trans hg9)⟩
      · generalize hjn : j = n at *
        clear hjn
        have M := mv_r_or HS.out
        cases e1 : dc (EntL L x) with
        | true =>
          have k2 : ∀ W, Grew wr W → W.cell? ⟨bc, oc, none⟩ = some (.int .i64 3) := fun W hW => HKC.out W (hB.trans hW)
          have k3 := k2 _ (Grew.refl _)
          have hf := HS.out.2.1
          have KL := Lib.hid (fun W (hW : Grew wr W) => left_t (two_or x y) hf (.slice (some ⟨bc, oc, none⟩) nc cc) W (HC.out.grew (hB.trans hW)))
          have KR := Lib.hid (fun W (hW : Grew wr W) => right_t (two_or x y) hf (.slice (some ⟨bc, oc, none⟩) nc cc) W (HC.out.grew (hB.trans hW)))
          have KS1 := Lib.hid (fun ud W (hW : Grew wr W) (h : Nodes W ud (Fm.enc x)) => IH.out _ _ (.slice A n cl) ud W M.1 (HV.out.grew (hB.trans hW)) h)
          have KS2 := Lib.hid (fun ud W (hW : Grew wr W) (h : Nodes W ud (Fm.enc y)) => IH.out _ _ (.slice A n cl) ud W M.2.1 (HV.out.grew (hB.trans hW)) h)
          have hr := Lib.hid (HR.out.trans (M.2.2.1 e1))
          rw [e1] at KS1
          clear M IH HS HC HR HJ HX H1 H2 HRD HVT HOP HN HKC HV
          clear e1
          go_wp2_with fail
          refine (KL.out _ (Grew.refl _)).mono ?_
          rintro e w6 ⟨u1, rfl, hu1, hg6⟩
          go_wp2_with fail
          refine (KS1.out _ _ hg6 hu1).mono ?_
          rintro e w7 ⟨rfl, hg7⟩
          have g7 := hg6.trans hg7
          go_wp2_with fail
          go_ret
          exact ⟨congrArg (fun k => Ending.returned (Value.bool k)) hr.out.symm, hB.trans g7⟩
        | false =>
          cases e2 : dc (EntL L y) with
          | true =>
            have k2 : ∀ W, Grew wr W → W.cell? ⟨bc, oc, none⟩ = some (.int .i64 3) := fun W hW => HKC.out W (hB.trans hW)
            have k3 := k2 _ (Grew.refl _)
            have hf := HS.out.2.1
            have KL := Lib.hid (fun W (hW : Grew wr W) => left_t (two_or x y) hf (.slice (some ⟨bc, oc, none⟩) nc cc) W (HC.out.grew (hB.trans hW)))
            have KR := Lib.hid (fun W (hW : Grew wr W) => right_t (two_or x y) hf (.slice (some ⟨bc, oc, none⟩) nc cc) W (HC.out.grew (hB.trans hW)))
            have KS1 := Lib.hid (fun ud W (hW : Grew wr W) (h : Nodes W ud (Fm.enc x)) => IH.out _ _ (.slice A n cl) ud W M.1 (HV.out.grew (hB.trans hW)) h)
            have KS2 := Lib.hid (fun ud W (hW : Grew wr W) (h : Nodes W ud (Fm.enc y)) => IH.out _ _ (.slice A n cl) ud W M.2.1 (HV.out.grew (hB.trans hW)) h)
            have hr := Lib.hid (HR.out.trans (M.2.2.2 e2))
            rw [e1] at KS1
            rw [e2] at KS2
            clear M IH HS HC HR HJ HX H1 H2 HRD HVT HOP HN HKC HV
            clear e1 e2
            go_wp2_with fail
            refine (KL.out _ (Grew.refl _)).mono ?_
            rintro e w6 ⟨u1, rfl, hu1, hg6⟩
            go_wp2_with fail
            refine (KS1.out _ _ hg6 hu1).mono ?_
            rintro e w7 ⟨rfl, hg7⟩
            have g7 := hg6.trans hg7
            go_wp2_with fail
            refine (KR.out _ g7).mono ?_
            rintro e w8 ⟨u2, rfl, hu2, hg8⟩
            have g8 := g7.trans hg8
            go_wp2_with fail
            refine (KS2.out _ _ g8 hu2).mono ?_
            rintro e w9 ⟨rfl, hg9⟩
            go_wp2_with fail
            go_ret
            exact ⟨congrArg (fun k => Ending.returned (Value.bool k)) hr.out.symm, hB.trans (g8.trans hg9)⟩
          | false =>
            have k2 : ∀ W, Grew wr W → W.cell? ⟨bc, oc, none⟩ = some (.int .i64 3) := fun W hW => HKC.out W (hB.trans hW)
            have k3 := k2 _ (Grew.refl _)
            have hf := HS.out.2.1
            have KL := Lib.hid (fun W (hW : Grew wr W) => left_t (two_or x y) hf (.slice (some ⟨bc, oc, none⟩) nc cc) W (HC.out.grew (hB.trans hW)))
            have KR := Lib.hid (fun W (hW : Grew wr W) => right_t (two_or x y) hf (.slice (some ⟨bc, oc, none⟩) nc cc) W (HC.out.grew (hB.trans hW)))
            have KS1 := Lib.hid (fun ud W (hW : Grew wr W) (h : Nodes W ud (Fm.enc x)) => IH.out _ _ (.slice A n cl) ud W M.1 (HV.out.grew (hB.trans hW)) h)
            have KS2 := Lib.hid (fun ud W (hW : Grew wr W) (h : Nodes W ud (Fm.enc y)) => IH.out _ _ (.slice A n cl) ud W M.2.1 (HV.out.grew (hB.trans hW)) h)
            have hk := Lib.hid (show Shut L (.or x y) from .inr (.inr ⟨x, y, rfl, e1, e2⟩))
            rw [e1] at KS1
            rw [e2] at KS2
            clear M e1 e2
            go_wp2_with fail
            refine (KL.out _ (Grew.refl _)).mono ?_
            rintro e w6 ⟨u1, rfl, hu1, hg6⟩
            go_wp2_with fail
            refine (KS1.out _ _ hg6 hu1).mono ?_
            rintro e w7 ⟨rfl, hg7⟩
            have g7 := hg6.trans hg7
            go_wp2_with fail
            refine (KR.out _ g7).mono ?_
            rintro e w8 ⟨u2, rfl, hu2, hg8⟩
            have g8 := g7.trans hg8
            go_wp2_with fail
            refine (KS2.out _ _ g8 hu2).mono ?_
            rintro e w9 ⟨rfl, hg9⟩
            have gB := hB.trans (g8.trans hg9)
            clear KL KR KS1 KS2 hu1 hu2 hg6 hg7 hg8 hg9 g7 g8 hB k2 k3
            go_wp2_with fail
            have HW := Lib.hid (fun (hno : NoWay L (.or x y) L.length) => HR.out.trans (ways_fail (by rw [HN.out]; exact HJ.out) H1.out hk.out (hno.all)))
            rw [HN.out] at HW
            clear hk H1 HJ
            go_loopw [10] (fun i wr => ∃ j : Nat, j ≤ n ∧ i = .int .i64 j ∧ Grew w wr ∧ Hid (NoWay L (.or x y) j)) (fun i _ => n - (intOf i).toNat)
            case atStart => exact ⟨0, Nat.zero_le _, rfl, gB, Lib.hid (NoWay.zero _ _)⟩
            clear gB
            case round =>
              obtain ⟨j, hj, rfl, hB, HJ⟩ := hrel
              by_cases hlt : j < n
              · obtain ⟨b, o, rfl, hlc, hcm, hb, hcell⟩ := HOP.out j hlt
                obtain ⟨t, ht, hf⟩ := HX.out j hlt
                obtain ⟨u, k0, hu⟩ := hcell j t ht
                clear hcell
                have k1 := k0 _ hB
                obtain ⟨bu, ou, nu', cu, rfl, hnu0, hnue, hku⟩ := head_t hu
                have hku1 := fun W (hW : Grew wr W) => hku W (hB.trans hW)
                have hnnu : (0 : Int) < (nu' : Int) := by omega
                have HU := Lib.hid hu
                clear k0 hku hnue
                by_cases hii : ∃ a1 a2 a3, t = .imp (.imp a1 a2) a3
                · obtain ⟨a1, a2, a3, rfl⟩ := hii
                  have hm := mv_imp_imp HS.out ht
                  have k2 : ∀ W, Grew wr W → W.cell? ⟨bu, ou, none⟩ = some (.int .i64 4) := hku1
                  have k3 := k2 _ (Grew.refl _)
                  have i0 : (0 : Int) ≤ (j : Int) := by omega
                  have i1 : (j : Int) ≤ (cl : Int) := by omega
                  have i2 : (j : Int) + 1 ≤ (n : Int) := by omega
                  have i3 : (0 : Int) ≤ (j : Int) + 1 := by omega
                  have i4 : IntKind.i64.wrap ((j : Int) + 1) = (j : Int) + 1 := by rw [IntKind.wrap_i64]; omega
                  obtain ⟨hfx, hfy, hfz, hfxy, hfyz⟩ := fmOk_imp_imp hf
                  have bi := fmOk_nn hf
                  simp only [nn_imp] at bi
                  unfold nn at bi
                  have KL := Lib.hid (fun W (hW : Grew wr W) => left_t (two_imp (.imp a1 a2) a3) hf (.slice (some ⟨bu, ou, none⟩) nu' cu) W (HU.out.grew (hB.trans hW)))
                  have KR := Lib.hid (fun W (hW : Grew wr W) => right_t (two_imp (.imp a1 a2) a3) hf (.slice (some ⟨bu, ou, none⟩) nu' cu) W (HU.out.grew (hB.trans hW)))
                  have hel : (L.eraseIdx j).length ≤ 2097152 := by rw [List.length_eraseIdx]; split <;> (rw [HN.out]; omega)
                  have hev := Lib.hid ((HVT.out.take j).app (HVT.out.drop (j + 1)))
                  rw [← List.eraseIdx_eq_take_drop_succ L j] at hev
                  have hgu : 4 = kindOf (.imp a1 a2) := rfl
                  go_wp2_with fail
                  refine (KL.out _ (Grew.refl _)).mono ?_
                  rintro e w6 ⟨u1, rfl, hu1, hg6⟩
                  obtain ⟨b1, o1, n1, c1, rfl, hn1, hne1, hk1⟩ := head_t hu1
                  have hnn1 : (0 : Int) < (n1 : Int) := by omega
                  have q1 := hk1 _ (Grew.refl _)
                  simp only [kindOf] at q1
                  clear hk1 hne1 hu1 hgu
                  have hown0 : OwnV (w6.alloc (.cells #[] 42)).drew w6.heap.size (.slice (some ⟨w6.heap.size, 0, none⟩) 0 0) [] := own_empty w6
                  have hal := (Grew.refl w6).alloc (.cells #[] 42)
                  have hg0 : Grew w6 (w6.alloc (.cells #[] 42)).drew := hal.drew
                  have hr0 := Grew.refl w6
                  have hd0 := hr0.drew
                  have R1 := Lib.hid (fun W (hW : Grew w6 W) => rd_take (HRD.out.grew ((hB.trans hg6).trans hW)) j hj)
                  have R2 := Lib.hid (fun W (hW : Grew w6 W) => rd_tail (HRD.out.grew ((hB.trans hg6).trans hW)) (j + 1) (by omega) hlc)
                  have O1 := Lib.hid ((HVT.out.take j).cell1)
                  have O2 := Lib.hid ((HVT.out.drop (j + 1)).cell1)
                  have L1 := Lib.hid (show (us.take j).length ≤ j by rw [List.length_take]; omega)
                  go_wp2_with fail
                  go_region_held3 (fun w' => Grew w6 w') (first | with_reducible assumption | exact Grew.alloc ‹_› _)
                    (first
                     | (refine step_appV (w0 := w6) rfl _ _ rfl _ _ rfl hown1 hgq _ (n - (j + 1)) (us.drop (j + 1)) rfl (R2.out _ hgq) O2.out (by have := L1.out; simp only [List.nil_append]; omega) ?_; intro v4 w4 hown2 hg4)
                     | (refine step_appV (w0 := w6) rfl _ _ rfl _ [] rfl hown0 hg0 _ j (us.take j) rfl (R1.out _ hg0) O1.out (by simp; omega) ?_; intro v2 w2 hown1 hgq))
                  simp only [List.nil_append] at hown2
                  clear hown0 hal hg0 hr0 hd0 R1 R2 O1 O2 L1 hown1 hgq
                  generalize (if cl = j + 1 then some (⟨b, o, none⟩ : Addr) else some ⟨b, o + (j + 1), none⟩) = tl
                  have HLT := Lib.hid (fun W (hW : Grew w4 W) => (LT.of_own hown2 (hev.out.grew (hB.trans (hg6.trans hg4)))).grew hW)
                  have gw4 := hg6.trans hg4
                  have KW2 := Lib.hid (fun vm W (hW : Grew w4 W) (hm : LT W vm [.imp a2 a3, a1]) => l23With_c v4 vm _ _ W (HLT.out W hW) hm (ok_erase HS.out) (ok_two hfyz hfx) hel (by simp))
                  have KW1 := Lib.hid (fun vm W (hW : Grew w4 W) (hm : LT W vm [a3]) => l23With_c v4 vm _ _ W (HLT.out W hW) hm (ok_erase HS.out) (ok_one hfz) hel (by simp))
                  have KS1 := Lib.hid (fun u ud W (h1 : LT W u _) (h : Nodes W ud (Fm.enc a2)) => IH.out _ _ u ud W hm.1 h1 h)
                  have KS2 := Lib.hid (fun u W (hW : Grew w4 W) (h1 : LT W u _) => IH.out _ _ u (.slice (some ⟨bc, oc, none⟩) nc cc) W hm.2.1 h1 (HC.out.grew (hB.trans (gw4.trans hW))))
                  go_wp2_with fail
                  refine (KL.out _ gw4).mono ?_
                  rintro e w7 ⟨u1, rfl, hu1, hg7⟩
                  have g7 := gw4.trans hg7
                  have G7 := hg7
                  go_wp2_with fail
                  refine (KR.out _ g7).mono ?_
                  rintro e w8 ⟨u2, rfl, hu2, hg8⟩
                  have G8 := G7.trans hg8
                  have HX1 := Lib.hid hu1
                  have HZ2 := Lib.hid hu2
                  clear hu1 hu2
                  go_wp2_with fail
                  refine ((right_t (two_imp a1 a2) hfxy _ _ (HX1.out.grew hg8))).mono ?_
                  rintro e w9 ⟨u3, rfl, hu3, hg9⟩
                  have G9 := G8.trans hg9
                  go_wp2_with fail
                  refine ((l02Pair_c 4 _ _ _ _ _ hu3 (HZ2.out.grew hg9) (by omega))).mono ?_
                  rintro e w10 ⟨u4, rfl, hu4, hg10⟩
                  have G10 := G9.trans hg10
                  go_wp2_with fail
                  refine ((left_t (two_imp a1 a2) hfxy _ _ (HX1.out.grew (hg8.trans (hg9.trans hg10))))).mono ?_
                  rintro e w11 ⟨u5, rfl, hu5, hg11⟩
                  have G11 := G10.trans hg11
                  obtain ⟨Au4, nu4, cu4, rfl⟩ := slice3 hu4.nodes
                  obtain ⟨Au5, nu5, cu5, rfl⟩ := slice3 hu5
                  have hlt2 := LT.two (T := 42) (t := .imp a2 a3) (s := a1) (hu4.nodes.grew hg11) hu5
                  have G12 := G11.alloc (.cells #[.slice Au4 nu4 cu4, .slice Au5 nu5 cu5] 42)
                  have hal12 := (Grew.refl w11).alloc (.cells #[.slice Au4 nu4 cu4, .slice Au5 nu5 cu5] 42)
                  go_wp2_with fail
                  refine (KW2.out _ _ G12 hlt2).mono ?_
                  rintro e w13 ⟨u6, rfl, hu6, hg13⟩
                  have G13 := G12.trans hg13
                  have hx13 := hg8.trans (hg9.trans (hg10.trans (hg11.trans (hal12.trans hg13))))
                  go_wp2_with fail
                  refine ((right_t (two_imp a1 a2) hfxy _ _ (HX1.out.grew hx13))).mono ?_
                  rintro e w14 ⟨u7, rfl, hu7, hg14⟩
                  have G14 := G13.trans hg14
                  cases e1 : dc (EntL (withL (L.eraseIdx j) [.imp a2 a3, a1]) a2) with
                  | false =>
                    have hs := Lib.hid (HJ.out.succ (t := .imp (.imp a1 a2) a3) ht (fun x1 y1 z1 he => by cases he; rw [e1]; rfl))
                    rw [e1] at KS1
                    clear IH HS HC HR HJ HX H2 HRD HVT HOP HN HKC HV HU HW ht hu hku1 hm hev hown2 HLT KW2 KL KR KW1 KS2
                    go_wp2_with fail
                    refine (KS1.out _ _ _ (hu6.grew hg14) hu7).mono ?_
                    rintro e w15 ⟨rfl, hg15⟩
                    go_wp2_with fail
                    go_roundw
                    case rel => exact ⟨j + 1, by omega, by go_num, hB.trans (gw4.trans (G14.trans hg15)), hs⟩
                    case measure => simp [intOf]; omega
                  | true =>
                    rw [e1] at KS1
                    cases e2 : dc (EntL (withL (L.eraseIdx j) [a3]) (.or x y)) with
                    | false =>
                      have hs := Lib.hid (HJ.out.succ (t := .imp (.imp a1 a2) a3) ht (fun x1 y1 z1 he => by cases he; rw [e2]; exact Bool.and_false _))
                      rw [e2] at KS2
                      clear IH HS HC HR HJ HX H2 HRD HVT HOP HN HKC HV HU HW ht hu hku1 hm hev hown2 HLT KW2 KL KR
                      go_wp2_with fail
                      refine (KS1.out _ _ _ (hu6.grew hg14) hu7).mono ?_
                      rintro e w15 ⟨rfl, hg15⟩
                      have G15 := G14.trans hg15
                      have hz15 := hg9.trans (hg10.trans (hg11.trans (hal12.trans (hg13.trans (hg14.trans hg15)))))
                      obtain ⟨Au2, nu2, cu2, rfl⟩ := slice3 (HZ2.out.grew hz15)
                      have hlt3 := LT.one (T := 42) (HZ2.out.grew hz15)
                      have G16 := G15.alloc (.cells #[.slice Au2 nu2 cu2] 42)
                      go_wp2_with fail
                      refine (KW1.out _ _ G16 hlt3).mono ?_
                      rintro e w17 ⟨u8, rfl, hu8, hg17⟩
                      have G17 := G16.trans hg17
                      go_wp2_with fail
                      refine (KS2.out _ _ G17 hu8).mono ?_
                      rintro e w18 ⟨rfl, hg18⟩
                      go_wp2_with fail
                      go_roundw
                      case rel => exact ⟨j + 1, by omega, by go_num, hB.trans (gw4.trans (G17.trans hg18)), hs⟩
                      case measure => simp [intOf]; omega
                    | true =>
                      have hr := Lib.hid (HR.out.trans (hm.2.2 e1 e2))
                      rw [e2] at KS2
                      clear IH HS HC HR HJ HX H2 HRD HVT HOP HN HKC HV HU HW ht hu hku1 hm hev hown2 HLT KW2 KL KR
                      go_wp2_with fail
                      refine (KS1.out _ _ _ (hu6.grew hg14) hu7).mono ?_
                      rintro e w15 ⟨rfl, hg15⟩
                      have G15 := G14.trans hg15
                      have hz15 := hg9.trans (hg10.trans (hg11.trans (hal12.trans (hg13.trans (hg14.trans hg15)))))
                      obtain ⟨Au2, nu2, cu2, rfl⟩ := slice3 (HZ2.out.grew hz15)
                      have hlt3 := LT.one (T := 42) (HZ2.out.grew hz15)
                      have G16 := G15.alloc (.cells #[.slice Au2 nu2 cu2] 42)
                      go_wp2_with fail
                      refine (KW1.out _ _ G16 hlt3).mono ?_
                      rintro e w17 ⟨u8, rfl, hu8, hg17⟩
                      have G17 := G16.trans hg17
                      go_wp2_with fail
                      refine (KS2.out _ _ G17 hu8).mono ?_
                      rintro e w18 ⟨rfl, hg18⟩
                      go_wp2_with fail
                      go_ret
                      exact ⟨congrArg (fun k => Ending.returned (Value.bool k)) hr.out.symm, hB.trans (gw4.trans (G17.trans hg18))⟩
                · have hs := Lib.hid (HJ.out.succ (t := t) ht (fun a1 a2 a3 he => absurd ⟨a1, a2, a3, he⟩ hii))
                  by_cases hki : ∃ a1 a2, t = .imp a1 a2
                  · obtain ⟨a1, a2, rfl⟩ := hki
                    have k2 : ∀ W, Grew wr W → W.cell? ⟨bu, ou, none⟩ = some (.int .i64 4) := hku1
                    have k3 := k2 _ (Grew.refl _)
                    have KL := Lib.hid (left_t (two_imp a1 a2) hf (.slice (some ⟨bu, ou, none⟩) nu' cu) wr (HU.out.grew hB))
                    have hq : (kindOf a1 != 4) = true := not_imp_kind (fun p q e => hii ⟨p, q, a2, by rw [e]⟩)
                    clear IH HS HC HR HJ HX H2 HRD HVT HOP HN HKC HV HU HW hii ht hu hku1
                    go_wp2_with fail
                    refine (KL.out).mono ?_
                    rintro e w6 ⟨u1, rfl, hu1, hg6⟩
                    obtain ⟨b1, o1, n1, c1, rfl, hn1, hne1, hk1⟩ := head_t hu1
                    have hnn1 : (0 : Int) < (n1 : Int) := by omega
                    have q1 := hk1 _ (Grew.refl _)
                    clear hk1 hne1 hu1
                    generalize kindOf a1 = kx at *
                    go_wp2_with fail
                    go_roundw
                    case rel => exact ⟨j + 1, by omega, by go_num, hB.trans hg6, hs⟩
                    case measure => simp [intOf]; omega
                  · have hq : (kindOf t != 4) = true := not_imp_kind (fun p q e => hki ⟨p, q, e⟩)
                    have k3 := hku1 _ (Grew.refl _)
                    clear IH HS HC HR HJ HX H2 HRD HVT HOP HN HKC HV HU HW hii ht hu hku1 hki hf
                    generalize kindOf t = kt at *
                    go_wp2_with fail
                    go_roundw
                    case rel => exact ⟨j + 1, by omega, by go_num, hB, hs⟩
                    case measure => simp [intOf]; omega
              · obtain rfl : j = n := by omega
                have hr := Lib.hid (HW.out HJ.out)
                clear IH HS HC HR HJ HX H2 HRD HVT HOP HN HKC HV HW
                go_wp2_with fail
                go_ret
                exact ⟨congrArg (fun k => Ending.returned (Value.bool k)) hr.out.symm, hB⟩
      · generalize hjn : j = n at *
        clear hjn
        have k2 : ∀ W, Grew wr W → W.cell? ⟨bc, oc, none⟩ = some (.int .i64 4) := fun W hW => HKC.out W (hB.trans hW)
        have k3 := k2 _ (Grew.refl _)
        have hf := HS.out.2.1
        have M := mv_r_imp HS.out
        have KL := Lib.hid (fun W (hW : Grew wr W) => left_t (two_imp x y) hf (.slice (some ⟨bc, oc, none⟩) nc cc) W (HC.out.grew (hB.trans hW)))
        have KR := Lib.hid (fun W (hW : Grew wr W) => right_t (two_imp x y) hf (.slice (some ⟨bc, oc, none⟩) nc cc) W (HC.out.grew (hB.trans hW)))
        have KW := Lib.hid (fun vm W (hW : Grew wr W) (hm : LT W vm [x]) => l23With_c (.slice A n cl) vm _ _ W (HV.out.grew (hB.trans hW)) hm HS.out.1 (ok_one (fmOk_imp hf).1) (by rw [HN.out]; omega) (by simp))
        have KS := Lib.hid (fun u ud W (h1 : LT W u _) (h : Nodes W ud (Fm.enc y)) => IH.out _ _ u ud W M.1 h1 h)
        have hr := Lib.hid (HR.out.trans M.2)
        clear M IH HS HC HR HJ HX H1 H2 HRD HVT HOP HN HKC HV
        generalize dc (EntL (withL L [x]) y) = q at *
        go_wp2_with fail
        refine (KL.out _ (Grew.refl _)).mono ?_
        rintro e w6 ⟨u1, rfl, hu1, hg6⟩
        obtain ⟨Au1, nu1, cu1, rfl⟩ := slice3 hu1
        have hlt2 := LT.one (T := 42) hu1
        have g7 := hg6.alloc (.cells #[.slice Au1 nu1 cu1] 42)
        go_wp2_with fail
        refine (KW.out _ _ g7 hlt2).mono ?_
        rintro e w8 ⟨u3, rfl, hu3, hg8⟩
        have g8 := g7.trans hg8
        go_wp2_with fail
        refine (KR.out _ g8).mono ?_
        rintro e w9 ⟨u2, rfl, hu2, hg9⟩
        have g9 := g8.trans hg9
        go_wp2_with fail
        refine (KS.out _ _ _ (hu3.grew hg9) hu2).mono ?_
        rintro e w10 ⟨rfl, hg10⟩
        go_wp2_with fail
        go_ret
        exact ⟨congrArg (fun k => Ending.returned (Value.bool k)) hr.out.symm, hB.trans (g9.trans hg10)⟩
end Go.Proofs.YtmdbhcoioimlmaaGreat

/- Proves of both sides. -/
namespace Go.Proofs.YtmdbhcoioimlmaaGreat
open Go.RowKit
open Fm (Nd Tree)

theorem st_eq {L : List ByteArray} {i : Nat} (h : i < L.length) : L[i] = st L i := by simp [st, List.getD, h]
/-- A sequent that is small: its formulas. -/
structure QOk (L : List ByteArray) (s : ByteArray) (Ts : List Tree) (c : Tree) : Prop where
  left : L = Ts.map tx
  right : s = tx c
  ok : ∀ a ∈ Ts, FmOk a
  okc : FmOk c
  size : tot nn Ts + nn c ≤ 20
  asc : ascP L = true
theorem lf_map {Ts : List Tree} (h : ∀ a ∈ Ts, FmOk a) : lf (Ts.map tx) = Ts.map Fm.enc := by
  unfold lf
  rw [List.map_map]
  exact List.map_congr_left fun a ha => by
    show (Fm.pf (tx a)).1 = Fm.enc a
    rw [tx_pf (h a ha).1]
theorem szL_map {Ts : List Tree} (h : ∀ a ∈ Ts, FmOk a) : szL (Ts.map tx) = tot nn Ts := by
  unfold szL total tot nn
  rw [lf_map h, List.take_of_length_le (by simp), List.length_flatten, List.map_map]
  rfl
theorem qOk_of {L : List ByteArray} {s : ByteArray} (h : qcode L s = 0) : ∃ Ts c, QOk L s Ts c := by
  unfold qcode at h
  split at h
  rename_i h1
  · split at h
    · rename_i h2
      unfold isQ at h1
      simp only [Bool.and_eq_true] at h1
      obtain ⟨hg, ha, _⟩ := h1
      obtain ⟨c, hc, rfl⟩ := gp_tree hg
      have hL : ∀ x ∈ L, gp x = true := by
        intro x hx
        obtain ⟨i, hi, rfl⟩ := List.getElem_of_mem hx
        have h3 : AscP L L.length := by
          unfold ascP at ha
          exact @of_decide_eq_true _ (Classical.propDecidable _) ha
        rw [st_eq hi]
        exact (h3 i hi).1
      have e : L = (L.map fo).map tx := by
        rw [List.map_map]
        have : ∀ x ∈ L, (tx ∘ fo) x = id x := fun x hx => (fo_ok (hL x hx)).2
        rw [List.map_congr_left this, List.map_id]
      have hok : ∀ a ∈ L.map fo, FmOk a := by
        intro a hm
        obtain ⟨x, hx, rfl⟩ := List.mem_map.1 hm
        exact (fo_ok (hL x hx)).1
      refine ⟨L.map fo, c, e, rfl, hok, hc, ?_, ha⟩
      have e2 : szL L = tot nn (L.map fo) := by
        have := szL_map hok
        rwa [← e] at this
      have e3 : szL [tx c] = nn c := by
        have := szL_map (Ts := [c]) (ok_one hc)
        rw [tot_one] at this
        exact this
      omega
    · cases h
  · cases h
theorem QOk.okS {L : List ByteArray} {s : ByteArray} {Ts : List Tree} {c : Tree} (h : QOk L s Ts c) : OkS Ts c := okS_mk h.ok h.okc h.size

noncomputable def pvF (L : List ByteArray) (s : ByteArray) : Bool × Int := if qcode L s = 0 then (dc (EntL (L.map fo) (fo s)), 0) else (false, qcode L s)
theorem pvF_bad {L : List ByteArray} {s : ByteArray} (h : qcode L s ≠ 0) : pvF L s = (false, qcode L s) := by unfold pvF; rw [if_neg h]
theorem pvF_ok {L : List ByteArray} {s : ByteArray} {Ts : List Tree} {c : Tree} (h : qcode L s = 0) (hq : QOk L s Ts c) : pvF L s = (dc (EntL Ts c), 0) := by
  unfold pvF
  rw [if_pos h, hq.left, hq.right, map_fo_tx hq.ok, fo_tx hq.okc]

theorem LT.of_lists {w : World} {v : Value} {Ts : List Tree} (h : Lists w v (Ts.map Fm.enc)) (hm : Ts.length ≤ 1048576) : LT w v Ts := by
  rcases h with ⟨rfl, h0⟩ | ⟨b, o, c, rfl, h2, h3, h4, h5⟩
  · have : Ts = [] := by simpa using h0
    subst this
    exact ⟨[], ⟨rfl, by simp, .inl ⟨rfl, rfl⟩⟩, VT.nil_ _⟩
  · rw [List.length_map] at h2 h5 ⊢
    have hg : ∀ i, i < Ts.length → ∃ u, w.cell? ⟨b, o + i, none⟩ = some u ∧ Nodes w u (Fm.enc (Ts.getD i .fls)) := fun i hi => by
      obtain ⟨u, k1, k2⟩ := h5 i hi
      refine ⟨u, k1, ?_⟩
      have e : (Ts.map Fm.enc).getD i [] = Fm.enc (Ts.getD i .fls) := by simp [List.getD, hi]
      rwa [e] at k2
    let f : Nat → Value := fun i => if h : i < Ts.length then (hg i h).choose else undef
    have hf : ∀ i (h : i < Ts.length), w.cell? ⟨b, o + i, none⟩ = some (f i) ∧ Nodes w (f i) (Fm.enc (Ts.getD i .fls)) := fun i h => by
      have e : f i = (hg i h).choose := dif_pos h
      rw [e]; exact (hg i h).choose_spec
    refine ⟨(List.range Ts.length).map f, ⟨by simp, by omega, .inr ⟨b, o, c, rfl, h2, h3, h4, fun j u hu => ?_⟩⟩, by simp, fun i t ht => ?_⟩
    · obtain ⟨hj, e⟩ := List.getElem?_eq_some_iff.1 hu
      have hj2 : j < Ts.length := by simpa using hj
      have e2 : f j = u := by simpa using e
      rw [← e2]; exact (hf j hj2).1
    · obtain ⟨hi, e⟩ := List.getElem?_eq_some_iff.1 ht
      refine ⟨f i, by simp [hi], ?_⟩
      have := (hf i hi).2
      have e2 : Ts.getD i .fls = t := by simp [List.getD, hi, e]
      rwa [e2] at this

/-- l23Ok decides. -/
theorem l23Ok_c (v : Value) (Ts : List Tree) (c : Tree) (w : World) (hS : OkS Ts c) (h : TL w v Ts) :
    Calls Tryz.prog 30 #[v, .string (tx c)] w fun e w' => e = .returned (.bool (dc (EntL Ts c))) ∧ Grew w w' := by
  have hn : Ts.length ≤ 1048576 := Nat.le_trans (len_nu Ts c) hS.2.2
  have hsz : (tx c).size ≤ 160 := tx_size hS.2.1.1
  have hfit : Fits (Ts.map tx) := fun i hi => by
    have hi2 : i < Ts.length := by simpa using hi
    have e : st (Ts.map tx) i = tx Ts[i] := by simp [st, List.getD, hi2]
    rw [e]
    have := tx_size (hS.1 _ (List.getElem_mem hi2)).1
    omega
  have K1 := Lib.hid (fun W => l22Formula_c (tx c) W (by omega))
  have K2 := Lib.hid (fun W (hW : Grew w W) => l22Formulas_c v (Ts.map tx) W (Strs.grew h hW) hfit (by simpa using hn))
  have K3 := Lib.hid (fun u uc W (hu : Lists W u (lf (Ts.map tx))) (hc : Nodes W uc (Fm.enc c)) => l23Search_c (mu Ts c + 1) Ts c u uc W (by omega) hS (LT.of_lists (by rwa [lf_map hS.1] at hu) hn) hc)
  unfold GivesP at K1
  rw [tx_pf hS.2.1.1] at K1
  obtain ⟨A, n, k, rfl⟩ := h.slice
  clear h hS hfit
  unfold GivesL at K2
  generalize dc (EntL Ts c) = R at *
  generalize lf (Ts.map tx) = Q at *
  generalize gp (tx c) = g at *
  generalize tx c = tc at *
  go_enter Tryz.func30, Tryz.ntmps30
  go_wp2_with fail
  refine (K1.out _).mono ?_
  rintro e w1 ⟨uc, rfl, huc, hg1⟩
  have HC := Lib.hid huc.nodes
  obtain ⟨Ac, nc, cc, rfl⟩ := slice3 huc.nodes
  clear huc
  go_wp2_with fail
  refine (K2.out _ hg1).mono ?_
  rintro e w2 ⟨u, rfl, hu, hg2⟩
  have HU := Lib.hid hu
  obtain ⟨Au, nu', cu, rfl⟩ : ∃ A n c, u = .slice A n c := by
    rcases hu with ⟨rfl, _⟩ | ⟨b, o, c, rfl, _⟩
    · exact ⟨_, _, _, rfl⟩
    · exact ⟨_, _, _, rfl⟩
  clear hu
  go_wp2_with fail
  refine (K3.out _ _ _ HU.out (HC.out.grew hg2)).mono ?_
  rintro e w3 ⟨rfl, hg3⟩
  go_wp2_with fail
  go_ret
  exact ⟨rfl, (hg1.trans hg2).trans hg3⟩

theorem implPv_c (v : Value) (L : List ByteArray) (s : ByteArray) (w : World) (h : Strs w v L) (hs : Fits L) (hn : L.length ≤ 1048576) (hsz : s.size ≤ 1048576) :
    Calls Tryz.prog 13 #[v, .string s] w (GivesBI w (pvF L s)) := by
  unfold GivesBI
  have K1 := Lib.hid (goalCode_c v L s w h hs hn hsz)
  by_cases hz : qcode L s = 0
  · obtain ⟨Ts, c, hq⟩ := qOk_of hz
    rw [pvF_ok hz hq]
    rw [hz] at K1
    have hT : TL w v Ts := by have := hq.left; subst this; exact h
    have K2 := Lib.hid (fun W (hW : Grew w W) => provable_c Ts c v W hq.okS (hT.grew hW))
    rw [← hq.right] at K2
    obtain ⟨A, k, rfl⟩ := strs_slice h
    clear h hs hz hq hT
    generalize dc (EntL Ts c) = R at *
    go_enter Tryz.func13, Tryz.ntmps13
    go_wp2_with fail
    refine (K1.out).mono ?_
    rintro e w1 ⟨rfl, hg1⟩
    go_wp2_with fail
    refine (K2.out _ hg1).mono ?_
    rintro e w2 ⟨rfl, hg2⟩
    go_wp2_with fail
    go_ret2
    exact ⟨rfl, hg1.trans hg2⟩
  · rw [pvF_bad hz]
    obtain ⟨A, k, rfl⟩ := strs_slice h
    clear h hs
    generalize qcode L s = q at *
    have hk : (q != 0) = true := by simpa using hz
    go_enter Tryz.func13, Tryz.ntmps13
    go_wp2_with fail
    refine (K1.out).mono ?_
    rintro e w1 ⟨rfl, hg1⟩
    go_wp2_with fail
    go_ret2
    exact ⟨rfl, hg1⟩
theorem specPv_c (v : Value) (L : List ByteArray) (s : ByteArray) (w : World) (h : Strs w v L) (hs : Fits L) (hn : L.length ≤ 1048576) (hsz : s.size ≤ 1048576) :
    Calls Tryz.prog 11 #[v, .string s] w (GivesBI w (pvF L s)) := by
  unfold GivesBI
  have K1 := Lib.hid (l23Code_c v L s w h hs hn hsz)
  by_cases hz : qcode L s = 0
  · obtain ⟨Ts, c, hq⟩ := qOk_of hz
    rw [pvF_ok hz hq]
    rw [hz] at K1
    have hT : TL w v Ts := by have := hq.left; subst this; exact h
    have K2 := Lib.hid (fun W (hW : Grew w W) => l23Ok_c v Ts c W hq.okS (hT.grew hW))
    rw [← hq.right] at K2
    obtain ⟨A, k, rfl⟩ := strs_slice h
    clear h hs hz hq hT
    generalize dc (EntL Ts c) = R at *
    go_enter Tryz.func11, Tryz.ntmps11
    go_wp2_with fail
    refine (K1.out).mono ?_
    rintro e w1 ⟨rfl, hg1⟩
    go_wp2_with fail
    refine (K2.out _ hg1).mono ?_
    rintro e w2 ⟨rfl, hg2⟩
    go_wp2_with fail
    go_ret2
    exact ⟨rfl, hg1.trans hg2⟩
  · rw [pvF_bad hz]
    obtain ⟨A, k, rfl⟩ := strs_slice h
    clear h hs
    generalize qcode L s = q at *
    have hk : (q != 0) = true := by simpa using hz
    go_enter Tryz.func11, Tryz.ntmps11
    go_wp2_with fail
    refine (K1.out).mono ?_
    rintro e w1 ⟨rfl, hg1⟩
    go_wp2_with fail
    go_ret2
    exact ⟨rfl, hg1⟩
end Go.Proofs.YtmdbhcoioimlmaaGreat

/- Texts in one file: Write Good PartP Text Parsed IsText Cont Plain Gp TxP Fo TwoF Lf TyQ OwnV AppStr Pt TyP TyB TwoT Draw NdTl Own Any FitS SrE From SrF TmTree. -/
import Derived.Lib.SlicesS
import Derived.Deep.RegionHeld3
import Derived.Deep.QuietTactic
import Derived.BigQuiet
import Derived.Deep.LoopGhost
import Derived.WalkSpells
import Derived.WalkLawsBesides
import Derived.Outline
import Derived.Shelf.Abstract
import Derived.ArgAppend
import Derived.Deep.RegionLaw
import Derived.OwnWalk
import Derived.StillTailTactics
import Derived.BigRegion
import Derived.Test.YtdndclfjeajhiaaGreatPa1
set_option linter.all false

/- The text of a formula: the reference's l02Write. -/
namespace Go.Proofs.YtdndclfjeajhiaaGreat
open Go.RowKit
open Fm (Nd Tree)

theorem l02Left_c (v : Value) (xs : List Nd) (a : Tree) (w : World) (h : Nodes w v xs) (hn : xs.length ≤ 1099511627776) (ha : At xs 1 a) :
    Calls Tryz.prog 81 #[v] w (Cuts w (Fm.enc a)) := by
  have hle := ha.le
  have hpos := Fm.enc_pos a
  rcases h.open_ with ⟨rfl, rfl⟩ | ⟨b, o, c, rfl, hc, hm, hb, hf⟩
  · simp only [List.length_nil] at hle; omega
  · have hsub := h.sub 1 (Fm.enc a).length (c - 1) hle (by omega) (by omega)
    rw [ha.take] at hsub
    have HH := Lib.hid h
    have HS := Lib.hid hsub
    have HT := Lib.hid ha
    clear h hf hsub ha
    go_enter Tryz.func81, Tryz.ntmps81
    go_wp2_with fail
    refine (l02Part_at _ xs 1 a _ HH.out hn HT.out).mono ?_
    rintro e w1 ⟨rfl, hg1⟩
    go_wp2_with fail
    go_ret
    refine ⟨_, rfl, ?_, hg1⟩
    rw [Nat.add_sub_cancel_left]
    exact HS.out.grew hg1

theorem l02Right_c (v : Value) (xs : List Nd) (a t : Tree) (w : World) (h : Nodes w v xs) (hn : xs.length ≤ 1099511627776) (ha : At xs 1 a) (ht : At xs (1 + (Fm.enc a).length) t) (hl : xs.length = 1 + (Fm.enc a).length + (Fm.enc t).length) :
    Calls Tryz.prog 82 #[v] w (Cuts w (Fm.enc t)) := by
  have hle := ha.le
  have hpos := Fm.enc_pos t
  rcases h.open_ with ⟨rfl, rfl⟩ | ⟨b, o, c, rfl, hc, hm, hb, hf⟩
  · simp only [List.length_nil] at hle; omega
  · have hsub := h.sub (1 + (Fm.enc a).length) (Fm.enc t).length (c - (1 + (Fm.enc a).length)) (by omega) (by omega) (by omega)
    rw [ht.take] at hsub
    have HH := Lib.hid h
    have HS := Lib.hid hsub
    have HA := Lib.hid ha
    have hk : (Fm.enc t).length = xs.length - (1 + (Fm.enc a).length) := by omega
    rw [hk] at HS
    have hlt : 1 + (Fm.enc a).length < xs.length := by omega
    clear h hf hsub ha ht hl hk hpos
    go_enter Tryz.func82, Tryz.ntmps82
    go_wp2_with fail
    refine (l02Part_at _ xs 1 a _ HH.out hn HA.out).mono ?_
    rintro e w1 ⟨rfl, hg1⟩
    go_wp2_with fail
    go_ret
    exact ⟨_, rfl, HS.out.grew hg1, hg1⟩

def WriteOk (t : Tree) : Prop := ∀ (l : Nat) (v : Value) (w : World), l ≤ 3 → Nodes w v (Fm.enc t) → (Fm.enc t).length ≤ 1048576 →
  Calls Tryz.prog 103 #[v, .int .i64 l] w (Says w (Fm.txt t l))

theorem enc_fls {t : Tree} (h : Fm.enc t = [(1, 0)]) : t = .fls := by
  cases t <;> simp_all [Fm.enc]
theorem enc_truth {x y : Tree} (h : Fm.enc (.imp x y) = Fm.truth) : x = .fls ∧ y = .fls := by
  have hx := Fm.enc_pos x
  have hy := Fm.enc_pos y
  have h1 : Fm.enc x ++ Fm.enc y = [(1, 0), (1, 0)] := by
    have : (4, 0) :: (Fm.enc x ++ Fm.enc y) = ((4, 0) : Nd) :: [(1, 0), (1, 0)] := h
    injection this
  have hl := congrArg List.length h1
  simp only [List.length_append, List.length_cons, List.length_nil] at hl
  have h2 : Fm.enc x = [(1, 0)] := by
    have := congrArg (List.take 1) h1
    rw [List.take_append_of_le_length hx, List.take_of_length_le (by omega)] at this
    exact this
  have h3 : Fm.enc y = [(1, 0)] := by
    rw [h2] at h1
    simpa using h1
  exact ⟨enc_fls h2, enc_fls h3⟩

theorem write_and_n (x y : Tree) (hx : WriteOk x) (hy : WriteOk y) (l : Nat) (v : Value) (w : World) (hl : l ≤ 2) (h : Nodes w v (Fm.enc (.and x y))) (hn : (Fm.enc (.and x y)).length ≤ 1048576) :
    Calls Tryz.prog 103 #[v, .int .i64 l] w (Says w (Fm.txt (.and x y) l)) := by
  have hE : Fm.txt (.and x y) l = Fm.txt x 2 ++ [38] ++ Fm.txt y 3 := by
    rw [Fm.txt, Fm.wrap, if_neg (by omega)]
  rw [hE]
  obtain ⟨b, o, c, rfl, hc, hm, k1⟩ := nodes_head h
  have hpos := Fm.enc_pos (.and x y)
  have HH := Lib.hid h
  have hg0 := Grew.refl w
  rw [show kindOf (.and x y) = 2 from rfl] at k1
  have HA := Lib.hid (at_first (xs := Fm.enc (.and x y)) (k := (2, 0)) (a := x) (rest := Fm.enc y) rfl)
  have HB := Lib.hid (at_second (xs := Fm.enc (.and x y)) (k := (2, 0)) (a := x) (b := y) rfl)
  have hlen : (Fm.enc (.and x y)).length = 1 + (Fm.enc x).length + (Fm.enc y).length := by simp [Fm.enc]; omega
  have HN := Lib.hid hlen
  have h1 := Fm.txt_len x 2
  have h2 := Fm.txt_len y 3
  have HX := Lib.hid hx
  have HY := Lib.hid hy
  have hn1 : (Fm.enc x).length ≤ 1048576 := by omega
  have hn2 : (Fm.enc y).length ≤ 1048576 := by omega
  have hpy := Fm.enc_pos y
  clear hE h hx hy hlen
  generalize Fm.enc (.and x y) = T at *
  have s1 := bs_size (Fm.txt x 2)
  have s2 := bs_size (Fm.txt y 3)
  have z1 : (bs (Fm.txt x 2)).size ≤ 4194304 := by omega
  have z2 : (bs (Fm.txt y 3)).size ≤ 4194304 := by omega
  have HE : Hid (bs (Fm.txt x 2) ++ bs [38] ++ bs (Fm.txt y 3) = bs (Fm.txt x 2 ++ [38] ++ Fm.txt y 3)) := by unfold Hid; simp only [bs_append]
  clear s1 s2 h1 h2
  generalize Fm.txt x 2 ++ [38] ++ Fm.txt y 3 = Z at *
  go_enter Tryz.func103, Tryz.ntmps103
  go_wp2_with fail
  refine (l02Left_c _ T x _ (HH.out.grew (Grew.refl w)) (by omega) HA.out).mono ?_
  rintro e w2 ⟨v2, rfl, hN2, hg2⟩
  go_wp2_with fail
  refine (HX.out 2 _ _ (by omega) hN2 hn1).mono ?_
  rintro e w3 ⟨rfl, hg3⟩
  go_wp2_with fail
  refine (l02Right_c _ T x y _ (HH.out.grew (((Grew.refl w).trans hg2).trans hg3)) (by omega) HA.out HB.out HN.out).mono ?_
  rintro e w4 ⟨v4, rfl, hN4, hg4⟩
  go_wp2_with fail
  refine (HY.out 3 _ _ (by omega) hN4 hn2).mono ?_
  rintro e w5 ⟨rfl, hg5⟩
  go_wp2_with fail
  go_ret
  exact ⟨congrArg (fun z => Ending.returned (.string z)) HE.out, ((((Grew.refl w).trans hg2).trans hg3).trans hg4).trans hg5⟩

theorem write_or_n (x y : Tree) (hx : WriteOk x) (hy : WriteOk y) (l : Nat) (v : Value) (w : World) (hl : l ≤ 1) (h : Nodes w v (Fm.enc (.or x y))) (hn : (Fm.enc (.or x y)).length ≤ 1048576) :
    Calls Tryz.prog 103 #[v, .int .i64 l] w (Says w (Fm.txt (.or x y) l)) := by
  have hE : Fm.txt (.or x y) l = Fm.txt x 1 ++ [124] ++ Fm.txt y 2 := by
    rw [Fm.txt, Fm.wrap, if_neg (by omega)]
  rw [hE]
  obtain ⟨b, o, c, rfl, hc, hm, k1⟩ := nodes_head h
  have hpos := Fm.enc_pos (.or x y)
  have HH := Lib.hid h
  have hg0 := Grew.refl w
  rw [show kindOf (.or x y) = 3 from rfl] at k1
  have HA := Lib.hid (at_first (xs := Fm.enc (.or x y)) (k := (3, 0)) (a := x) (rest := Fm.enc y) rfl)
  have HB := Lib.hid (at_second (xs := Fm.enc (.or x y)) (k := (3, 0)) (a := x) (b := y) rfl)
  have hlen : (Fm.enc (.or x y)).length = 1 + (Fm.enc x).length + (Fm.enc y).length := by simp [Fm.enc]; omega
  have HN := Lib.hid hlen
  have h1 := Fm.txt_len x 1
  have h2 := Fm.txt_len y 2
  have HX := Lib.hid hx
  have HY := Lib.hid hy
  have hn1 : (Fm.enc x).length ≤ 1048576 := by omega
  have hn2 : (Fm.enc y).length ≤ 1048576 := by omega
  have hpy := Fm.enc_pos y
  clear hE h hx hy hlen
  generalize Fm.enc (.or x y) = T at *
  have s1 := bs_size (Fm.txt x 1)
  have s2 := bs_size (Fm.txt y 2)
  have z1 : (bs (Fm.txt x 1)).size ≤ 4194304 := by omega
  have z2 : (bs (Fm.txt y 2)).size ≤ 4194304 := by omega
  have HE : Hid (bs (Fm.txt x 1) ++ bs [124] ++ bs (Fm.txt y 2) = bs (Fm.txt x 1 ++ [124] ++ Fm.txt y 2)) := by unfold Hid; simp only [bs_append]
  clear s1 s2 h1 h2
  generalize Fm.txt x 1 ++ [124] ++ Fm.txt y 2 = Z at *
  go_enter Tryz.func103, Tryz.ntmps103
  go_wp2_with fail
  refine (l02Left_c _ T x _ (HH.out.grew (Grew.refl w)) (by omega) HA.out).mono ?_
  rintro e w2 ⟨v2, rfl, hN2, hg2⟩
  go_wp2_with fail
  refine (HX.out 1 _ _ (by omega) hN2 hn1).mono ?_
  rintro e w3 ⟨rfl, hg3⟩
  go_wp2_with fail
  refine (l02Right_c _ T x y _ (HH.out.grew (((Grew.refl w).trans hg2).trans hg3)) (by omega) HA.out HB.out HN.out).mono ?_
  rintro e w4 ⟨v4, rfl, hN4, hg4⟩
  go_wp2_with fail
  refine (HY.out 2 _ _ (by omega) hN4 hn2).mono ?_
  rintro e w5 ⟨rfl, hg5⟩
  go_wp2_with fail
  go_ret
  exact ⟨congrArg (fun z => Ending.returned (.string z)) HE.out, ((((Grew.refl w).trans hg2).trans hg3).trans hg4).trans hg5⟩

theorem write_imp_n (x y : Tree) (hf : Fm.isF y = false) (hx : WriteOk x) (hy : WriteOk y) (l : Nat) (v : Value) (w : World) (hl : l ≤ 0) (h : Nodes w v (Fm.enc (.imp x y))) (hn : (Fm.enc (.imp x y)).length ≤ 1048576) :
    Calls Tryz.prog 103 #[v, .int .i64 l] w (Says w (Fm.txt (.imp x y) l)) := by
  have hE : Fm.txt (.imp x y) l = Fm.txt x 1 ++ [62] ++ Fm.txt y 0 := by
    rw [Fm.txt, if_neg (by simp [hf]), Fm.wrap, if_neg (by omega)]
  rw [hE]
  obtain ⟨b, o, c, rfl, hc, hm, k1⟩ := nodes_head h
  have hpos := Fm.enc_pos (.imp x y)
  have HH := Lib.hid h
  have hg0 := Grew.refl w
  have HQ := Lib.hid (fun v2 w h1 h2 => l02Equal_c (.slice (some ⟨b, o, none⟩) (Fm.enc (.imp x y)).length c) v2 (Fm.enc (.imp x y)) Fm.truth w h1 h2 (by omega))
  rw [decide_eq_false (fun h => by have := (enc_truth h).2; rw [this] at hf; cases hf)] at HQ
  have hky : (kindOf y == 1) = false := by rw [← isF_kind]; exact hf
  rw [show kindOf (.imp x y) = 4 from rfl] at k1
  have HA := Lib.hid (at_first (xs := Fm.enc (.imp x y)) (k := (4, 0)) (a := x) (rest := Fm.enc y) rfl)
  have HB := Lib.hid (at_second (xs := Fm.enc (.imp x y)) (k := (4, 0)) (a := x) (b := y) rfl)
  have hlen : (Fm.enc (.imp x y)).length = 1 + (Fm.enc x).length + (Fm.enc y).length := by simp [Fm.enc]; omega
  have HN := Lib.hid hlen
  have h1 := Fm.txt_len x 1
  have h2 := Fm.txt_len y 0
  have HX := Lib.hid hx
  have HY := Lib.hid hy
  have hn1 : (Fm.enc x).length ≤ 1048576 := by omega
  have hn2 : (Fm.enc y).length ≤ 1048576 := by omega
  have hpy := Fm.enc_pos y
  clear hE h hx hy hlen hf
  generalize Fm.enc (.imp x y) = T at *
  have s1 := bs_size (Fm.txt x 1)
  have s2 := bs_size (Fm.txt y 0)
  have z1 : (bs (Fm.txt x 1)).size ≤ 4194304 := by omega
  have z2 : (bs (Fm.txt y 0)).size ≤ 4194304 := by omega
  have HE : Hid (bs (Fm.txt x 1) ++ bs [62] ++ bs (Fm.txt y 0) = bs (Fm.txt x 1 ++ [62] ++ Fm.txt y 0)) := by unfold Hid; simp only [bs_append]
  clear s1 s2 h1 h2
  generalize Fm.txt x 1 ++ [62] ++ Fm.txt y 0 = Z at *
  go_enter Tryz.func103, Tryz.ntmps103
  go_wp2_with fail
  refine (l02True_c _).mono ?_
  rintro e w01 ⟨v01, rfl, ho01, hg01⟩
  go_wp2_with fail
  refine (HQ.out _ _ (HH.out.grew hg01) ho01.nodes).mono ?_
  rintro e w02 ⟨rfl, hg02⟩
  have hg2x := hg01.trans hg02
  go_wp2_with fail
  refine (l02Right_c _ T x y _ (HH.out.grew hg2x) (by omega) HA.out HB.out HN.out).mono ?_
  rintro e w03 ⟨v03, rfl, hN03, hg03⟩
  obtain ⟨b3, o3, c3, rfl, hc3, hm3, k3⟩ := nodes_head hN03
  have hg3x := hg2x.trans hg03
  have hgr3 := Grew.refl w03
  go_wp2_with fail
  clear k3
  refine (l02Left_c _ T x _ (HH.out.grew hg3x) (by omega) HA.out).mono ?_
  rintro e w2 ⟨v2, rfl, hN2, hg2⟩
  go_wp2_with fail
  refine (HX.out 1 _ _ (by omega) hN2 hn1).mono ?_
  rintro e w3 ⟨rfl, hg3⟩
  go_wp2_with fail
  refine (l02Right_c _ T x y _ (HH.out.grew ((hg3x.trans hg2).trans hg3)) (by omega) HA.out HB.out HN.out).mono ?_
  rintro e w4 ⟨v4, rfl, hN4, hg4⟩
  go_wp2_with fail
  refine (HY.out 0 _ _ (by omega) hN4 hn2).mono ?_
  rintro e w5 ⟨rfl, hg5⟩
  go_wp2_with fail
  go_ret
  exact ⟨congrArg (fun z => Ending.returned (.string z)) HE.out, (((hg3x.trans hg2).trans hg3).trans hg4).trans hg5⟩

theorem write_and_w (x y : Tree) (hx : WriteOk x) (hy : WriteOk y) (l : Nat) (v : Value) (w : World) (hl : 2 < l) (h : Nodes w v (Fm.enc (.and x y))) (hn : (Fm.enc (.and x y)).length ≤ 1048576) :
    Calls Tryz.prog 103 #[v, .int .i64 l] w (Says w (Fm.txt (.and x y) l)) := by
  have hE : Fm.txt (.and x y) l = [40] ++ (Fm.txt x 2 ++ [38] ++ Fm.txt y 3) ++ [41] := by
    rw [Fm.txt, Fm.wrap, if_pos (by omega)]
  rw [hE]
  obtain ⟨b, o, c, rfl, hc, hm, k1⟩ := nodes_head h
  have hpos := Fm.enc_pos (.and x y)
  have HH := Lib.hid h
  have hg0 := Grew.refl w
  rw [show kindOf (.and x y) = 2 from rfl] at k1
  have HA := Lib.hid (at_first (xs := Fm.enc (.and x y)) (k := (2, 0)) (a := x) (rest := Fm.enc y) rfl)
  have HB := Lib.hid (at_second (xs := Fm.enc (.and x y)) (k := (2, 0)) (a := x) (b := y) rfl)
  have hlen : (Fm.enc (.and x y)).length = 1 + (Fm.enc x).length + (Fm.enc y).length := by simp [Fm.enc]; omega
  have HN := Lib.hid hlen
  have h1 := Fm.txt_len x 2
  have h2 := Fm.txt_len y 3
  have HX := Lib.hid hx
  have HY := Lib.hid hy
  have hn1 : (Fm.enc x).length ≤ 1048576 := by omega
  have hn2 : (Fm.enc y).length ≤ 1048576 := by omega
  have hpy := Fm.enc_pos y
  clear hE h hx hy hlen
  generalize Fm.enc (.and x y) = T at *
  have s1 := bs_size (Fm.txt x 2)
  have s2 := bs_size (Fm.txt y 3)
  have z1 : (bs (Fm.txt x 2)).size ≤ 4194304 := by omega
  have z2 : (bs (Fm.txt y 3)).size ≤ 4194304 := by omega
  have HE : Hid (bs [40] ++ (bs (Fm.txt x 2) ++ bs [38] ++ bs (Fm.txt y 3)) ++ bs [41] = bs ([40] ++ (Fm.txt x 2 ++ [38] ++ Fm.txt y 3) ++ [41])) := by unfold Hid; simp only [bs_append]
  clear s1 s2 h1 h2
  generalize [40] ++ (Fm.txt x 2 ++ [38] ++ Fm.txt y 3) ++ [41] = Z at *
  go_enter Tryz.func103, Tryz.ntmps103
  go_wp2_with fail
  refine (l02Left_c _ T x _ (HH.out.grew (Grew.refl w)) (by omega) HA.out).mono ?_
  rintro e w2 ⟨v2, rfl, hN2, hg2⟩
  go_wp2_with fail
  refine (HX.out 2 _ _ (by omega) hN2 hn1).mono ?_
  rintro e w3 ⟨rfl, hg3⟩
  go_wp2_with fail
  refine (l02Right_c _ T x y _ (HH.out.grew (((Grew.refl w).trans hg2).trans hg3)) (by omega) HA.out HB.out HN.out).mono ?_
  rintro e w4 ⟨v4, rfl, hN4, hg4⟩
  go_wp2_with fail
  refine (HY.out 3 _ _ (by omega) hN4 hn2).mono ?_
  rintro e w5 ⟨rfl, hg5⟩
  go_wp2_with fail
  go_ret
  exact ⟨congrArg (fun z => Ending.returned (.string z)) HE.out, ((((Grew.refl w).trans hg2).trans hg3).trans hg4).trans hg5⟩

theorem write_or_w (x y : Tree) (hx : WriteOk x) (hy : WriteOk y) (l : Nat) (v : Value) (w : World) (hl : 1 < l) (h : Nodes w v (Fm.enc (.or x y))) (hn : (Fm.enc (.or x y)).length ≤ 1048576) :
    Calls Tryz.prog 103 #[v, .int .i64 l] w (Says w (Fm.txt (.or x y) l)) := by
  have hE : Fm.txt (.or x y) l = [40] ++ (Fm.txt x 1 ++ [124] ++ Fm.txt y 2) ++ [41] := by
    rw [Fm.txt, Fm.wrap, if_pos (by omega)]
  rw [hE]
  obtain ⟨b, o, c, rfl, hc, hm, k1⟩ := nodes_head h
  have hpos := Fm.enc_pos (.or x y)
  have HH := Lib.hid h
  have hg0 := Grew.refl w
  rw [show kindOf (.or x y) = 3 from rfl] at k1
  have HA := Lib.hid (at_first (xs := Fm.enc (.or x y)) (k := (3, 0)) (a := x) (rest := Fm.enc y) rfl)
  have HB := Lib.hid (at_second (xs := Fm.enc (.or x y)) (k := (3, 0)) (a := x) (b := y) rfl)
  have hlen : (Fm.enc (.or x y)).length = 1 + (Fm.enc x).length + (Fm.enc y).length := by simp [Fm.enc]; omega
  have HN := Lib.hid hlen
  have h1 := Fm.txt_len x 1
  have h2 := Fm.txt_len y 2
  have HX := Lib.hid hx
  have HY := Lib.hid hy
  have hn1 : (Fm.enc x).length ≤ 1048576 := by omega
  have hn2 : (Fm.enc y).length ≤ 1048576 := by omega
  have hpy := Fm.enc_pos y
  clear hE h hx hy hlen
  generalize Fm.enc (.or x y) = T at *
  have s1 := bs_size (Fm.txt x 1)
  have s2 := bs_size (Fm.txt y 2)
  have z1 : (bs (Fm.txt x 1)).size ≤ 4194304 := by omega
  have z2 : (bs (Fm.txt y 2)).size ≤ 4194304 := by omega
  have HE : Hid (bs [40] ++ (bs (Fm.txt x 1) ++ bs [124] ++ bs (Fm.txt y 2)) ++ bs [41] = bs ([40] ++ (Fm.txt x 1 ++ [124] ++ Fm.txt y 2) ++ [41])) := by unfold Hid; simp only [bs_append]
  clear s1 s2 h1 h2
  generalize [40] ++ (Fm.txt x 1 ++ [124] ++ Fm.txt y 2) ++ [41] = Z at *
  go_enter Tryz.func103, Tryz.ntmps103
  go_wp2_with fail
  refine (l02Left_c _ T x _ (HH.out.grew (Grew.refl w)) (by omega) HA.out).mono ?_
  rintro e w2 ⟨v2, rfl, hN2, hg2⟩
  go_wp2_with fail
  refine (HX.out 1 _ _ (by omega) hN2 hn1).mono ?_
  rintro e w3 ⟨rfl, hg3⟩
  go_wp2_with fail
  refine (l02Right_c _ T x y _ (HH.out.grew (((Grew.refl w).trans hg2).trans hg3)) (by omega) HA.out HB.out HN.out).mono ?_
  rintro e w4 ⟨v4, rfl, hN4, hg4⟩
  go_wp2_with fail
  refine (HY.out 2 _ _ (by omega) hN4 hn2).mono ?_
  rintro e w5 ⟨rfl, hg5⟩
  go_wp2_with fail
  go_ret
  exact ⟨congrArg (fun z => Ending.returned (.string z)) HE.out, ((((Grew.refl w).trans hg2).trans hg3).trans hg4).trans hg5⟩

theorem write_imp_w (x y : Tree) (hf : Fm.isF y = false) (hx : WriteOk x) (hy : WriteOk y) (l : Nat) (v : Value) (w : World) (hl : 0 < l) (h : Nodes w v (Fm.enc (.imp x y))) (hn : (Fm.enc (.imp x y)).length ≤ 1048576) :
    Calls Tryz.prog 103 #[v, .int .i64 l] w (Says w (Fm.txt (.imp x y) l)) := by
  have hE : Fm.txt (.imp x y) l = [40] ++ (Fm.txt x 1 ++ [62] ++ Fm.txt y 0) ++ [41] := by
    rw [Fm.txt, if_neg (by simp [hf]), Fm.wrap, if_pos (by omega)]
  rw [hE]
  obtain ⟨b, o, c, rfl, hc, hm, k1⟩ := nodes_head h
  have hpos := Fm.enc_pos (.imp x y)
  have HH := Lib.hid h
  have hg0 := Grew.refl w
  have HQ := Lib.hid (fun v2 w h1 h2 => l02Equal_c (.slice (some ⟨b, o, none⟩) (Fm.enc (.imp x y)).length c) v2 (Fm.enc (.imp x y)) Fm.truth w h1 h2 (by omega))
  rw [decide_eq_false (fun h => by have := (enc_truth h).2; rw [this] at hf; cases hf)] at HQ
  have hky : (kindOf y == 1) = false := by rw [← isF_kind]; exact hf
  rw [show kindOf (.imp x y) = 4 from rfl] at k1
  have HA := Lib.hid (at_first (xs := Fm.enc (.imp x y)) (k := (4, 0)) (a := x) (rest := Fm.enc y) rfl)
  have HB := Lib.hid (at_second (xs := Fm.enc (.imp x y)) (k := (4, 0)) (a := x) (b := y) rfl)
  have hlen : (Fm.enc (.imp x y)).length = 1 + (Fm.enc x).length + (Fm.enc y).length := by simp [Fm.enc]; omega
  have HN := Lib.hid hlen
  have h1 := Fm.txt_len x 1
  have h2 := Fm.txt_len y 0
  have HX := Lib.hid hx
  have HY := Lib.hid hy
  have hn1 : (Fm.enc x).length ≤ 1048576 := by omega
  have hn2 : (Fm.enc y).length ≤ 1048576 := by omega
  have hpy := Fm.enc_pos y
  clear hE h hx hy hlen hf
  generalize Fm.enc (.imp x y) = T at *
  have s1 := bs_size (Fm.txt x 1)
  have s2 := bs_size (Fm.txt y 0)
  have z1 : (bs (Fm.txt x 1)).size ≤ 4194304 := by omega
  have z2 : (bs (Fm.txt y 0)).size ≤ 4194304 := by omega
  have HE : Hid (bs [40] ++ (bs (Fm.txt x 1) ++ bs [62] ++ bs (Fm.txt y 0)) ++ bs [41] = bs ([40] ++ (Fm.txt x 1 ++ [62] ++ Fm.txt y 0) ++ [41])) := by unfold Hid; simp only [bs_append]
  clear s1 s2 h1 h2
  generalize [40] ++ (Fm.txt x 1 ++ [62] ++ Fm.txt y 0) ++ [41] = Z at *
  go_enter Tryz.func103, Tryz.ntmps103
  go_wp2_with fail
  refine (l02True_c _).mono ?_
  rintro e w01 ⟨v01, rfl, ho01, hg01⟩
  go_wp2_with fail
  refine (HQ.out _ _ (HH.out.grew hg01) ho01.nodes).mono ?_
  rintro e w02 ⟨rfl, hg02⟩
  have hg2x := hg01.trans hg02
  go_wp2_with fail
  refine (l02Right_c _ T x y _ (HH.out.grew hg2x) (by omega) HA.out HB.out HN.out).mono ?_
  rintro e w03 ⟨v03, rfl, hN03, hg03⟩
  obtain ⟨b3, o3, c3, rfl, hc3, hm3, k3⟩ := nodes_head hN03
  have hg3x := hg2x.trans hg03
  have hgr3 := Grew.refl w03
  go_wp2_with fail
  clear k3
  refine (l02Left_c _ T x _ (HH.out.grew hg3x) (by omega) HA.out).mono ?_
  rintro e w2 ⟨v2, rfl, hN2, hg2⟩
  go_wp2_with fail
  refine (HX.out 1 _ _ (by omega) hN2 hn1).mono ?_
  rintro e w3 ⟨rfl, hg3⟩
  go_wp2_with fail
  refine (l02Right_c _ T x y _ (HH.out.grew ((hg3x.trans hg2).trans hg3)) (by omega) HA.out HB.out HN.out).mono ?_
  rintro e w4 ⟨v4, rfl, hN4, hg4⟩
  go_wp2_with fail
  refine (HY.out 0 _ _ (by omega) hN4 hn2).mono ?_
  rintro e w5 ⟨rfl, hg5⟩
  go_wp2_with fail
  go_ret
  exact ⟨congrArg (fun z => Ending.returned (.string z)) HE.out, (((hg3x.trans hg2).trans hg3).trans hg4).trans hg5⟩

theorem write_box (x : Tree) (hx : WriteOk x) : WriteOk (.box x) := by
  intro l v w hl h hn
  have hE : Fm.txt (.box x) l = [91, 93] ++ Fm.txt x 3 := rfl
  rw [hE]
  obtain ⟨b, o, c, rfl, hc, hm, k1⟩ := nodes_head h
  have hpos := Fm.enc_pos (.box x)
  have HH := Lib.hid h
  have hg0 := Grew.refl w
  rw [show kindOf (.box x) = 5 from rfl] at k1
  have ha := at_first (xs := Fm.enc (.box x)) (k := (5, 0)) (a := x) (rest := []) (by simp [Fm.enc])
  have hlen : (Fm.enc (.box x)).length = 1 + (Fm.enc x).length := by simp [Fm.enc]; omega
  have hsub := h.sub 1 (Fm.enc x).length (c - 1) (by omega) (by omega) (by omega)
  rw [ha.take] at hsub
  have HS := Lib.hid hsub
  have hpx := Fm.enc_pos x
  rw [show (Fm.enc x).length = (Fm.enc (.box x)).length - 1 by omega] at HS
  have h1 := Fm.txt_len x 3
  have HX := Lib.hid hx
  have hn1 : (Fm.enc x).length ≤ 1048576 := by omega
  have hc1 : 1 < (Fm.enc (.box x)).length := by omega
  clear hE h hx hlen ha hsub
  generalize Fm.enc (.box x) = T at *
  have s1 := bs_size (Fm.txt x 3)
  have z1 : (bs (Fm.txt x 3)).size ≤ 4194304 := by omega
  have HE : Hid (bs [91, 93] ++ bs (Fm.txt x 3) = bs ([91, 93] ++ Fm.txt x 3)) := by unfold Hid; rw [bs_append]
  clear s1 h1
  generalize [91, 93] ++ Fm.txt x 3 = Z at *
  go_enter Tryz.func103, Tryz.ntmps103
  go_wp2_with fail
  refine (HX.out 3 _ _ (by omega) HS.out hn1).mono ?_
  rintro e w3 ⟨rfl, hg3⟩
  go_wp2_with fail
  go_ret
  exact ⟨congrArg (fun z => Ending.returned (.string z)) HE.out, hg3⟩

theorem write_dia (x : Tree) (hx : WriteOk x) : WriteOk (.dia x) := by
  intro l v w hl h hn
  have hE : Fm.txt (.dia x) l = [60, 62] ++ Fm.txt x 3 := rfl
  rw [hE]
  obtain ⟨b, o, c, rfl, hc, hm, k1⟩ := nodes_head h
  have hpos := Fm.enc_pos (.dia x)
  have HH := Lib.hid h
  have hg0 := Grew.refl w
  rw [show kindOf (.dia x) = 6 from rfl] at k1
  have ha := at_first (xs := Fm.enc (.dia x)) (k := (6, 0)) (a := x) (rest := []) (by simp [Fm.enc])
  have hlen : (Fm.enc (.dia x)).length = 1 + (Fm.enc x).length := by simp [Fm.enc]; omega
  have hsub := h.sub 1 (Fm.enc x).length (c - 1) (by omega) (by omega) (by omega)
  rw [ha.take] at hsub
  have HS := Lib.hid hsub
  have hpx := Fm.enc_pos x
  rw [show (Fm.enc x).length = (Fm.enc (.dia x)).length - 1 by omega] at HS
  have h1 := Fm.txt_len x 3
  have HX := Lib.hid hx
  have hn1 : (Fm.enc x).length ≤ 1048576 := by omega
  have hc1 : 1 < (Fm.enc (.dia x)).length := by omega
  clear hE h hx hlen ha hsub
  generalize Fm.enc (.dia x) = T at *
  have s1 := bs_size (Fm.txt x 3)
  have z1 : (bs (Fm.txt x 3)).size ≤ 4194304 := by omega
  have HE : Hid (bs [60, 62] ++ bs (Fm.txt x 3) = bs ([60, 62] ++ Fm.txt x 3)) := by unfold Hid; rw [bs_append]
  clear s1 h1
  generalize [60, 62] ++ Fm.txt x 3 = Z at *
  go_enter Tryz.func103, Tryz.ntmps103
  go_wp2_with fail
  refine (HX.out 3 _ _ (by omega) HS.out hn1).mono ?_
  rintro e w3 ⟨rfl, hg3⟩
  go_wp2_with fail
  go_ret
  exact ⟨congrArg (fun z => Ending.returned (.string z)) HE.out, hg3⟩

theorem write_tru (x : Tree) (hf : Fm.isF x = true) : WriteOk (.imp x .fls) := by
  intro l v w hl h hn
  have hE : Fm.txt (.imp x .fls) l = [84] := by
    rw [Fm.txt, if_pos (show Fm.isF .fls = true from rfl), if_pos hf]
  rw [hE]
  obtain ⟨b, o, c, rfl, hc, hm, k1⟩ := nodes_head h
  have hpos := Fm.enc_pos (.imp x .fls)
  have HH := Lib.hid h
  have hg0 := Grew.refl w
  have HQ := Lib.hid (fun v2 w h1 h2 => l02Equal_c (.slice (some ⟨b, o, none⟩) (Fm.enc (.imp x .fls)).length c) v2 (Fm.enc (.imp x .fls)) Fm.truth w h1 h2 (by omega))
  rw [decide_eq_true (by rw [Fm.isF_eq hf]; rfl)] at HQ
  rw [show kindOf (.imp x .fls) = 4 from rfl] at k1
  have HA := Lib.hid (at_first (xs := Fm.enc (.imp x .fls)) (k := (4, 0)) (a := x) (rest := Fm.enc .fls) rfl)
  have HB := Lib.hid (at_second (xs := Fm.enc (.imp x .fls)) (k := (4, 0)) (a := x) (b := .fls) rfl)
  have hlen : (Fm.enc (.imp x .fls)).length = 1 + (Fm.enc x).length + (Fm.enc .fls).length := by simp [Fm.enc]; omega
  have HN := Lib.hid hlen
  have hn1 : (Fm.enc x).length ≤ 1048576 := by omega
  clear hE h hlen hf
  generalize Fm.enc (.imp x .fls) = T at *
  go_enter Tryz.func103, Tryz.ntmps103
  go_wp2_with fail
  refine (l02True_c _).mono ?_
  rintro e w01 ⟨v01, rfl, ho01, hg01⟩
  go_wp2_with fail
  refine (HQ.out _ _ (HH.out.grew hg01) ho01.nodes).mono ?_
  rintro e w02 ⟨rfl, hg02⟩
  have hg2x := hg01.trans hg02
  go_wp2_with fail
  go_ret
  exact ⟨rfl, hg2x⟩

theorem write_not (x : Tree) (hf : Fm.isF x = false) (hx : WriteOk x) : WriteOk (.imp x .fls) := by
  intro l v w hl h hn
  have hE : Fm.txt (.imp x .fls) l = [126] ++ Fm.txt x 3 := by
    rw [Fm.txt, if_pos (show Fm.isF .fls = true from rfl), if_neg (by simp [hf])]
  rw [hE]
  obtain ⟨b, o, c, rfl, hc, hm, k1⟩ := nodes_head h
  have hpos := Fm.enc_pos (.imp x .fls)
  have HH := Lib.hid h
  have hg0 := Grew.refl w
  have HQ := Lib.hid (fun v2 w h1 h2 => l02Equal_c (.slice (some ⟨b, o, none⟩) (Fm.enc (.imp x .fls)).length c) v2 (Fm.enc (.imp x .fls)) Fm.truth w h1 h2 (by omega))
  rw [decide_eq_false (fun h => by have := (enc_truth h).1; rw [this] at hf; cases hf)] at HQ
  rw [show kindOf (.imp x .fls) = 4 from rfl] at k1
  have HA := Lib.hid (at_first (xs := Fm.enc (.imp x .fls)) (k := (4, 0)) (a := x) (rest := Fm.enc .fls) rfl)
  have HB := Lib.hid (at_second (xs := Fm.enc (.imp x .fls)) (k := (4, 0)) (a := x) (b := .fls) rfl)
  have hlen : (Fm.enc (.imp x .fls)).length = 1 + (Fm.enc x).length + (Fm.enc .fls).length := by simp [Fm.enc]; omega
  have HN := Lib.hid hlen
  have hn1 : (Fm.enc x).length ≤ 1048576 := by omega
  have h1 := Fm.txt_len x 3
  have HX := Lib.hid hx
  have s1 := bs_size (Fm.txt x 3)
  have z1 : (bs (Fm.txt x 3)).size ≤ 4194304 := by omega
  have HE : Hid (bs [126] ++ bs (Fm.txt x 3) = bs ([126] ++ Fm.txt x 3)) := by unfold Hid; rw [bs_append]
  clear s1 h1 hx
  generalize [126] ++ Fm.txt x 3 = Z at *
  clear hE h hlen hf
  generalize Fm.enc (.imp x .fls) = T at *
  go_enter Tryz.func103, Tryz.ntmps103
  go_wp2_with fail
  refine (l02True_c _).mono ?_
  rintro e w01 ⟨v01, rfl, ho01, hg01⟩
  go_wp2_with fail
  refine (HQ.out _ _ (HH.out.grew hg01) ho01.nodes).mono ?_
  rintro e w02 ⟨rfl, hg02⟩
  have hg2x := hg01.trans hg02
  go_wp2_with fail
  refine (l02Right_c _ T x .fls _ (HH.out.grew hg2x) (by omega) HA.out HB.out HN.out).mono ?_
  rintro e w03 ⟨v03, rfl, hN03, hg03⟩
  obtain ⟨b3, o3, c3, rfl, hc3, hm3, k3⟩ := nodes_head hN03
  rw [show kindOf .fls = 1 from rfl] at k3
  have hp3 := Fm.enc_pos .fls
  have hg3x := hg2x.trans hg03
  have hgr3 := Grew.refl w03
  go_wp2_with fail
  clear k3
  refine (l02Left_c _ T x _ (HH.out.grew hg3x) (by omega) HA.out).mono ?_
  rintro e w4 ⟨v4, rfl, hN4, hg4⟩
  go_wp2_with fail
  refine (HX.out 3 _ _ (by omega) hN4 hn1).mono ?_
  rintro e w5 ⟨rfl, hg5⟩
  go_wp2_with fail
  go_ret
  exact ⟨congrArg (fun z => Ending.returned (.string z)) HE.out, (hg3x.trans hg4).trans hg5⟩

theorem write_fls : WriteOk .fls := by
  intro l v w hl h hn
  have hE : Fm.txt .fls l = [70] := rfl
  rw [hE]
  obtain ⟨b, o, c, rfl, hc, hm, k1⟩ := nodes_head h
  have hpos := Fm.enc_pos (.fls)
  have HH := Lib.hid h
  have hg0 := Grew.refl w
  rw [show kindOf .fls = 1 from rfl] at k1
  clear hE h
  generalize Fm.enc .fls = T at *
  go_enter Tryz.func103, Tryz.ntmps103
  go_wp2_with fail
  go_ret
  exact ⟨rfl, hg0⟩

theorem write_var (n : Fin 6) : WriteOk (.var n) := by
  intro l v w hl h hn
  have hE : Fm.txt (.var n) l = [UInt8.ofNat (112 + n.val)] := rfl
  rw [hE]
  have k2 : ∃ b o c, v = .slice (some ⟨b, o, none⟩) (Fm.enc (.var n)).length c ∧ ∀ W, Grew w W → W.cell? ⟨b, o + 1, none⟩ = some (.int .i64 (n.val : Int)) := by
    rcases h.open_ with ⟨_, h0⟩ | ⟨b, o, c, hv, _, _, _, hf⟩
    · simp [Fm.enc] at h0
    · refine ⟨b, o, c, hv, fun W hW => ?_⟩
      have := (hf 0 (by simp [Fm.enc]) W hW).2
      rw [show sy (Fm.enc (.var n)) 0 = (n.val : Int) from rfl] at this
      simpa using this
  obtain ⟨b, o, c, rfl, hc, hm, k1⟩ := nodes_head h
  have hpos := Fm.enc_pos (.var n)
  have HH := Lib.hid h
  have hg0 := Grew.refl w
  obtain ⟨b', o', c', hv', k2⟩ := k2
  simp only [Value.slice.injEq, Option.some.injEq, Addr.mk.injEq, and_true, true_and] at hv'
  obtain ⟨⟨rfl, rfl⟩, rfl⟩ := hv'
  rw [show kindOf (.var n) = 0 from rfl] at k1
  have hn6 := n.isLt
  clear hE h
  generalize Fm.enc (.var n) = T at *
  generalize n.val = q at *
  go_enter Tryz.func103, Tryz.ntmps103
  go_wp2_with fail
  go_quiet (fail)
  go_wp2_with fail
  go_ret
  exact ⟨congrArg (fun z => Ending.returned (.string z)) (letter_cut hn6), hg0.drewN _⟩

theorem write_ok (t : Tree) : WriteOk t := by
  induction t with
  | var n => exact write_var n
  | fls => exact write_fls
  | and x y hx hy =>
    intro l v w hl h hn
    rcases Nat.lt_or_ge 2 l with hw | hw
    · exact write_and_w x y hx hy l v w hw h hn
    · exact write_and_n x y hx hy l v w hw h hn
  | or x y hx hy =>
    intro l v w hl h hn
    rcases Nat.lt_or_ge 1 l with hw | hw
    · exact write_or_w x y hx hy l v w hw h hn
    · exact write_or_n x y hx hy l v w hw h hn
  | imp x y hx hy =>
    cases hf : Fm.isF y with
    | true =>
      obtain rfl := Fm.isF_eq hf
      cases hg : Fm.isF x with
      | true => exact write_tru x hg
      | false => exact write_not x hg hx
    | false =>
      intro l v w hl h hn
      rcases Nat.lt_or_ge 0 l with hw | hw
      · exact write_imp_w x y hf hx hy l v w hw h hn
      · exact write_imp_n x y hf hx hy l v w hw h hn
  | box x hx => exact write_box x hx
  | dia x hx => exact write_dia x hx

theorem l02Text_c (t : Tree) (v : Value) (w : World) (h : Nodes w v (Fm.enc t)) (hn : (Fm.enc t).length ≤ 1048576) :
    Calls Tryz.prog 80 #[v] w (Says w (Fm.txt t 0)) := by
  have HT := Lib.hid (write_ok t 0 v w (by omega) h hn)
  go_enter Tryz.func80, Tryz.ntmps80
  go_wp2_with fail
  refine HT.out.mono ?_
  rintro e w1 ⟨rfl, hg1⟩
  go_wp2_with fail
  go_ret
  exact ⟨rfl, hg1⟩
end Go.Proofs.YtdndclfjeajhiaaGreat

/- A text that reads to a tree whose text it is. -/
namespace Go.Proofs.YtdndclfjeajhiaaGreat
open Go.RowKit
open Fm (Nd)

/-- The text is the text of a formula. -/
def IsGood (s : ByteArray) : Prop := ∃ t, Fm.pf s = (Fm.enc t, 0, 0) ∧ bs (Fm.txt t 0) = s
noncomputable def gd (s : ByteArray) : Bool := @decide (IsGood s) (Classical.propDecidable _)
theorem gd_true {s : ByteArray} (h : IsGood s) : gd s = true := by
  unfold gd
  exact @decide_eq_true _ (Classical.propDecidable _) h
theorem gd_false {s : ByteArray} (h : ¬ IsGood s) : gd s = false := by
  unfold gd
  exact @decide_eq_false _ (Classical.propDecidable _) h

theorem pf_cases (s : ByteArray) : (∃ t, Fm.pf s = (Fm.enc t, 0, 0)) ∨ ∃ p c, Fm.pf s = ([], p, c) ∧ (c == 0) = false := by
  unfold Fm.pf
  split
  · exact .inr ⟨_, _, rfl, by decide⟩
  · split
    · exact .inr ⟨_, _, rfl, by decide⟩
    · split
      · exact .inr ⟨_, _, rfl, by decide⟩
      · obtain ⟨t, ht⟩ := Fm.parse_enc s.data.toList Fm.fuel
        refine .inl ⟨t, ?_⟩
        rw [← ht]
        rfl
theorem gd_bad {s : ByteArray} {p : Nat} {c : Int} (h : Fm.pf s = ([], p, c)) (hc : (c == 0) = false) : gd s = false := by
  apply gd_false
  rintro ⟨t, ht, _⟩
  rw [h] at ht
  simp only [Prod.mk.injEq] at ht
  rw [ht.2.2] at hc
  cases hc
theorem gd_tree {s : ByteArray} {t : Fm.Tree} (h : Fm.pf s = (Fm.enc t, 0, 0)) : gd s = ((bs (Fm.txt t 0)).toList == s.toList) := by
  have e : ((bs (Fm.txt t 0)).toList == s.toList) = true ↔ bs (Fm.txt t 0) = s := by
    exact Lib.bytes_beq_iff _ _
  cases hb : ((bs (Fm.txt t 0)).toList == s.toList) with
  | true => exact gd_true ⟨t, h, e.1 hb⟩
  | false =>
    apply gd_false
    rintro ⟨u, hu, hs⟩
    rw [h] at hu
    simp only [Prod.mk.injEq, and_true] at hu
    have := enc_inj hu
    subst this
    rw [e.2 hs] at hb
    cases hb

/-- What the reference's test of a text gives. -/
def GivesG (w : World) (s : ByteArray) (e : Ending) (w' : World) : Prop := ∃ v, e = .returned (.tuple #[v, .bool (gd s)]) ∧ Own w' w.heap.size v (Fm.pf s).1 ∧ Grew w w'

theorem l02Good_c (s : ByteArray) (w : World) (hs : s.size ≤ 140737488355328) :
    Calls Tryz.prog 95 #[.string s] w (GivesG w s) := by
  have HP := fun w => specParse_c s w hs
  unfold GivesG
  rcases pf_cases s with ⟨t, ht⟩ | ⟨p, c, hp, hc⟩
  · have hn := Fm.pf_len s
    rw [gd_tree ht]
    rw [ht] at HP hn ⊢
    simp only at HP hn ⊢
    replace HP := Lib.hid HP
    have HT := Lib.hid (fun v w h => l02Text_c t v w h (by omega))
    clear ht
    generalize Fm.enc t = xs at *
    go_enter Tryz.func95, Tryz.ntmps95
    go_wp2_with fail
    refine (HP.out _).mono ?_
    rintro e w1 ⟨v1, rfl, ho1, hg1, _⟩
    go_wp2_with fail
    refine (HT.out _ _ ho1.nodes).mono ?_
    rintro e w2 ⟨rfl, hg2⟩
    go_wp2_with fail
    go_ret2
    exact ⟨_, rfl, ho1.grew hg2, hg1.trans hg2⟩
  · rw [gd_bad hp hc]
    rw [hp] at HP ⊢
    replace HP := Lib.hid HP
    clear hp
    go_enter Tryz.func95, Tryz.ntmps95
    go_wp2_with fail
    refine (HP.out _).mono ?_
    rintro e w1 ⟨v1, rfl, ho1, hg1, _⟩
    go_wp2_with fail
    go_ret2
    exact ⟨.slice none 0 0, rfl, Own.nil_ _ _, hg1⟩
end Go.Proofs.YtdndclfjeajhiaaGreat

/- The parts of a formula, as the program's text needs them. -/
namespace Go.Proofs.YtdndclfjeajhiaaGreat
open Go.RowKit
open Fm (Nd Tree)

theorem first_c (v : Value) (xs : List Nd) (t : Tree) (w : World) (h : Nodes w v xs) (hn : xs.length ≤ 1099511627776) (ht : At xs 1 t) :
    Calls Tryz.prog 129 #[v] w (Cuts w (Fm.enc t)) := by
  have HT := Lib.hid ht
  clear ht
  go_enter Tryz.func129, Tryz.ntmps129
  go_wp2_with fail
  refine (part_c _ xs 1 t _ h hn HT.out).mono ?_
  rintro e w1 ⟨v1, rfl, hN1, hg1⟩
  go_wp2_with fail
  go_ret
  exact ⟨_, rfl, hN1, hg1⟩

theorem second_c (v : Value) (xs : List Nd) (a t : Tree) (w : World) (h : Nodes w v xs) (hn : xs.length ≤ 1099511627776) (ha : At xs 1 a) (ht : At xs (1 + (Fm.enc a).length) t) :
    Calls Tryz.prog 130 #[v] w (Cuts w (Fm.enc t)) := by
  have HA := Lib.hid ha
  have HT := Lib.hid ht
  clear ha ht
  go_enter Tryz.func130, Tryz.ntmps130
  go_wp2_with fail
  refine (partEnd_at _ xs 1 a _ h hn HA.out).mono ?_
  rintro e w1 ⟨rfl, hg1⟩
  go_wp2_with fail
  refine (part_c _ xs (1 + (Fm.enc a).length) t _ (h.grew hg1) hn HT.out).mono ?_
  rintro e w2 ⟨v2, rfl, hN2, hg2⟩
  go_wp2_with fail
  go_ret
  exact ⟨_, rfl, hN2, hg1.trans hg2⟩

theorem isFalsum_c (v : Value) (t : Tree) (w : World) (h : Nodes w v (Fm.enc t)) :
    Calls Tryz.prog 132 #[v] w fun e w' => e = .returned (.bool (Fm.isF t)) ∧ Grew w w' := by
  have hpos := Fm.enc_pos t
  rcases h.open_ with ⟨rfl, h0⟩ | ⟨b, o, c, rfl, hc, hm, hb, hf⟩
  · rw [h0] at hpos; simp at hpos
  · have k1 := (hf 0 (by omega) w (Grew.refl _)).1
    rw [kd_enc] at k1
    rw [isF_kind]
    simp only [Nat.zero_mul, Nat.add_zero] at k1
    clear hf h
    go_enter Tryz.func132, Tryz.ntmps132
    go_wp2_with fail
    go_ret
    exact ⟨rfl, Grew.refl _⟩

theorem isNegation_c (v : Value) (t : Tree) (w : World) (h : Nodes w v (Fm.enc t)) (hn : (Fm.enc t).length ≤ 1099511627776) :
    Calls Tryz.prog 131 #[v] w fun e w' => e = .returned (.bool (isNeg t)) ∧ Grew w w' := by
  have hpos := Fm.enc_pos t
  rcases h.open_ with ⟨rfl, h0⟩ | ⟨b, o, c, rfl, hc, hm, hb, hf⟩
  · rw [h0] at hpos; simp at hpos
  · have k1 := (hf 0 (by omega) w (Grew.refl _)).1
    rw [kd_enc] at k1
    simp only [Nat.zero_mul, Nat.add_zero] at k1
    clear hf
    by_cases hk : kindOf t = 4
    · obtain ⟨x, y, rfl⟩ : ∃ x y, t = .imp x y := by cases t <;> simp_all [kindOf]
      have ha := at_first (xs := Fm.enc (.imp x y)) (k := (4, 0)) (a := x) (rest := Fm.enc y) rfl
      have hb2 := at_second (xs := Fm.enc (.imp x y)) (k := (4, 0)) (a := x) (b := y) rfl
      have HA := Lib.hid ha
      have HB := Lib.hid hb2
      have HH := Lib.hid h
      have hE : isNeg (.imp x y) = Fm.isF y := rfl
      rw [hE]
      rw [hk] at k1
      clear ha hb2 h hE hk
      generalize Fm.enc (.imp x y) = T at *
      go_enter Tryz.func131, Tryz.ntmps131
      go_wp2_with fail
      refine (second_c _ T x y _ HH.out hn HA.out HB.out).mono ?_
      rintro e w1 ⟨v1, rfl, hN1, hg1⟩
      go_wp2_with fail
      refine (isFalsum_c _ y _ hN1).mono ?_
      rintro e w2 ⟨rfl, hg2⟩
      go_wp2_with fail
      go_ret
      exact ⟨by simp, hg1.trans hg2⟩
    · have hE : isNeg t = false := by cases t <;> simp_all [isNeg, kindOf]
      rw [hE]
      have hk' : (kindOf t == 4) = false := by simpa using hk
      clear hE hk h
      generalize kindOf t = K at *
      go_enter Tryz.func131, Tryz.ntmps131
      go_wp2_with fail
      go_ret
      exact ⟨rfl, Grew.refl _⟩

theorem levelOf_c (v : Value) (t : Tree) (w : World) (h : Nodes w v (Fm.enc t)) (hn : (Fm.enc t).length ≤ 1099511627776) :
    Calls Tryz.prog 128 #[v] w fun e w' => e = .returned (.int .i64 (Fm.own t)) ∧ Grew w w' := by
  have hpos := Fm.enc_pos t
  rcases h.open_ with ⟨rfl, h0⟩ | ⟨b, o, c, rfl, hc, hm, hb, hf⟩
  · rw [h0] at hpos; simp at hpos
  · have k1 := fun W hW => (hf 0 (by omega) W hW).1
    rw [kd_enc] at k1
    simp only [Nat.zero_mul, Nat.add_zero] at k1
    have HN := Lib.hid (fun w h => isNegation_c (.slice (some ⟨b, o, none⟩) (Fm.enc t).length c) t w h hn)
    have HH := Lib.hid h
    have hg0 := Grew.refl w
    clear hf h
    by_cases hk : kindOf t = 4
    · rw [hk] at k1
      cases hng : isNeg t with
      | true =>
        have hE : Fm.own t = 3 := by cases t <;> simp_all [isNeg, kindOf, Fm.own]
        rw [hE]
        rw [hng] at HN
        clear hE hk hng
        go_enter Tryz.func128, Tryz.ntmps128
        go_wp2_with fail
        refine (HN.out _ HH.out).mono ?_
        rintro e w1 ⟨rfl, hg1⟩
        go_wp2_with fail
        go_ret
        exact ⟨rfl, hg1⟩
      | false =>
        have hE : Fm.own t = 0 := by cases t <;> simp_all [isNeg, kindOf, Fm.own]
        rw [hE]
        rw [hng] at HN
        clear hE hk hng
        go_enter Tryz.func128, Tryz.ntmps128
        go_wp2_with fail
        refine (HN.out _ HH.out).mono ?_
        rintro e w1 ⟨rfl, hg1⟩
        go_wp2_with fail
        go_ret
        exact ⟨rfl, hg1⟩
    · have hk4 : (kindOf t == 4) = false := by simpa using hk
      by_cases hk3 : kindOf t = 3
      · have hE : Fm.own t = 1 := by cases t <;> simp_all [kindOf, Fm.own]
        rw [hE]
        rw [hk3] at k1
        clear hE hk hk4 hk3
        go_enter Tryz.func128, Tryz.ntmps128
        go_wp2_with fail
        go_ret
        exact ⟨rfl, Grew.refl _⟩
      by_cases hk2 : kindOf t = 2
      · have hE : Fm.own t = 2 := by cases t <;> simp_all [kindOf, Fm.own]
        rw [hE]
        rw [hk2] at k1
        clear hE hk hk4 hk3 hk2
        go_enter Tryz.func128, Tryz.ntmps128
        go_wp2_with fail
        go_ret
        exact ⟨rfl, Grew.refl _⟩
      · have hE : Fm.own t = 3 := by cases t <;> simp_all [kindOf, Fm.own]
        rw [hE]
        have hk3' : (kindOf t == 3) = false := by simpa using hk3
        have hk2' : (kindOf t == 2) = false := by simpa using hk2
        clear hE hk hk3 hk2 HN HH
        generalize kindOf t = K at *
        go_enter Tryz.func128, Tryz.ntmps128
        go_wp2_with fail
        go_ret
        exact ⟨rfl, Grew.refl _⟩
end Go.Proofs.YtdndclfjeajhiaaGreat

/- The text of a formula: the program's textAt. -/
namespace Go.Proofs.YtdndclfjeajhiaaGreat
open Go.RowKit
open Fm (Nd Tree)

def TextOk (t : Tree) : Prop := ∀ (l : Nat) (v : Value) (w : World), l ≤ 3 → Nodes w v (Fm.enc t) → (Fm.enc t).length ≤ 1048576 →
  Calls Tryz.prog 120 #[v, .int .i64 l] w (Says w (Fm.txt t l))
/-- The same where no brackets are needed. -/
def BodyOk (t : Tree) : Prop := ∀ (l : Nat) (v : Value) (w : World), l ≤ Fm.own t → Nodes w v (Fm.enc t) → (Fm.enc t).length ≤ 1048576 →
  Calls Tryz.prog 120 #[v, .int .i64 l] w (Says w (Fm.txt t l))

theorem body_and (x y : Tree) (hx : TextOk x) (hy : TextOk y) : BodyOk (.and x y) := by
  intro l v w hl h hn
  have hown : Fm.own (.and x y) = 2 := by rfl
  have hE : Fm.txt (.and x y) l = Fm.txt x 2 ++ [38] ++ Fm.txt y 3 := by
    rw [Fm.txt, Fm.wrap, if_neg (by omega)]
  rw [hE]
  rw [hown] at hl
  obtain ⟨b, o, c, rfl, hc, hm, k1⟩ := nodes_head h
  have hpos := Fm.enc_pos (.and x y)
  have HL := Lib.hid (levelOf_c _ _ w h (by omega))
  have HH := Lib.hid h
  have hg0 := Grew.refl w
  rw [hown] at HL
  rw [show kindOf (.and x y) = 2 from rfl] at k1
  have HA := Lib.hid (at_first (xs := Fm.enc (.and x y)) (k := (2, 0)) (a := x) (rest := Fm.enc y) rfl)
  have HB := Lib.hid (at_second (xs := Fm.enc (.and x y)) (k := (2, 0)) (a := x) (b := y) rfl)
  have hlen : (Fm.enc (.and x y)).length = 1 + ((Fm.enc x).length + (Fm.enc y).length) := by simp [Fm.enc]; omega
  have h1 := Fm.txt_len x 2
  have h2 := Fm.txt_len y 3
  have HX := Lib.hid hx
  have HY := Lib.hid hy
  have hn1 : (Fm.enc x).length ≤ 1048576 := by omega
  have hn2 : (Fm.enc y).length ≤ 1048576 := by omega
  clear hE h hx hy hlen hown
  generalize Fm.enc (.and x y) = T at *
  have s1 := bs_size (Fm.txt x 2)
  have s2 := bs_size (Fm.txt y 3)
  have z1 : (bs (Fm.txt x 2)).size ≤ 4194304 := by omega
  have z2 : (bs (Fm.txt y 3)).size ≤ 4194304 := by omega
  have HE : Hid (bs (Fm.txt x 2) ++ bs [38] ++ bs (Fm.txt y 3) = bs (Fm.txt x 2 ++ [38] ++ Fm.txt y 3)) := by unfold Hid; rw [bs_append, bs_append]
  clear s1 s2 h1 h2
  generalize Fm.txt x 2 ++ [38] ++ Fm.txt y 3 = Z at *
  go_enter Tryz.func120, Tryz.ntmps120
  go_wp2_with fail
  refine HL.out.mono ?_
  rintro e w1 ⟨rfl, hg1⟩
  go_wp2_with fail
  refine (first_c _ T x _ (HH.out.grew hg1) (by omega) HA.out).mono ?_
  rintro e w2 ⟨v2, rfl, hN2, hg2⟩
  go_wp2_with fail
  refine (HX.out 2 _ _ (by omega) hN2 hn1).mono ?_
  rintro e w3 ⟨rfl, hg3⟩
  go_wp2_with fail
  refine (second_c _ T x y _ (HH.out.grew ((hg1.trans hg2).trans hg3)) (by omega) HA.out HB.out).mono ?_
  rintro e w4 ⟨v4, rfl, hN4, hg4⟩
  go_wp2_with fail
  refine (HY.out 3 _ _ (by omega) hN4 hn2).mono ?_
  rintro e w5 ⟨rfl, hg5⟩
  go_wp2_with fail
  go_ret
  exact ⟨congrArg (fun z => Ending.returned (.string z)) HE.out, (((hg1.trans hg2).trans hg3).trans hg4).trans hg5⟩

theorem body_or (x y : Tree) (hx : TextOk x) (hy : TextOk y) : BodyOk (.or x y) := by
  intro l v w hl h hn
  have hown : Fm.own (.or x y) = 1 := by rfl
  have hE : Fm.txt (.or x y) l = Fm.txt x 1 ++ [124] ++ Fm.txt y 2 := by
    rw [Fm.txt, Fm.wrap, if_neg (by omega)]
  rw [hE]
  rw [hown] at hl
  obtain ⟨b, o, c, rfl, hc, hm, k1⟩ := nodes_head h
  have hpos := Fm.enc_pos (.or x y)
  have HL := Lib.hid (levelOf_c _ _ w h (by omega))
  have HH := Lib.hid h
  have hg0 := Grew.refl w
  rw [hown] at HL
  rw [show kindOf (.or x y) = 3 from rfl] at k1
  have HA := Lib.hid (at_first (xs := Fm.enc (.or x y)) (k := (3, 0)) (a := x) (rest := Fm.enc y) rfl)
  have HB := Lib.hid (at_second (xs := Fm.enc (.or x y)) (k := (3, 0)) (a := x) (b := y) rfl)
  have hlen : (Fm.enc (.or x y)).length = 1 + ((Fm.enc x).length + (Fm.enc y).length) := by simp [Fm.enc]; omega
  have h1 := Fm.txt_len x 1
  have h2 := Fm.txt_len y 2
  have HX := Lib.hid hx
  have HY := Lib.hid hy
  have hn1 : (Fm.enc x).length ≤ 1048576 := by omega
  have hn2 : (Fm.enc y).length ≤ 1048576 := by omega
  clear hE h hx hy hlen hown
  generalize Fm.enc (.or x y) = T at *
  have s1 := bs_size (Fm.txt x 1)
  have s2 := bs_size (Fm.txt y 2)
  have z1 : (bs (Fm.txt x 1)).size ≤ 4194304 := by omega
  have z2 : (bs (Fm.txt y 2)).size ≤ 4194304 := by omega
  have HE : Hid (bs (Fm.txt x 1) ++ bs [124] ++ bs (Fm.txt y 2) = bs (Fm.txt x 1 ++ [124] ++ Fm.txt y 2)) := by unfold Hid; rw [bs_append, bs_append]
  clear s1 s2 h1 h2
  generalize Fm.txt x 1 ++ [124] ++ Fm.txt y 2 = Z at *
  go_enter Tryz.func120, Tryz.ntmps120
  go_wp2_with fail
  refine HL.out.mono ?_
  rintro e w1 ⟨rfl, hg1⟩
  go_wp2_with fail
  refine (first_c _ T x _ (HH.out.grew hg1) (by omega) HA.out).mono ?_
  rintro e w2 ⟨v2, rfl, hN2, hg2⟩
  go_wp2_with fail
  refine (HX.out 1 _ _ (by omega) hN2 hn1).mono ?_
  rintro e w3 ⟨rfl, hg3⟩
  go_wp2_with fail
  refine (second_c _ T x y _ (HH.out.grew ((hg1.trans hg2).trans hg3)) (by omega) HA.out HB.out).mono ?_
  rintro e w4 ⟨v4, rfl, hN4, hg4⟩
  go_wp2_with fail
  refine (HY.out 2 _ _ (by omega) hN4 hn2).mono ?_
  rintro e w5 ⟨rfl, hg5⟩
  go_wp2_with fail
  go_ret
  exact ⟨congrArg (fun z => Ending.returned (.string z)) HE.out, (((hg1.trans hg2).trans hg3).trans hg4).trans hg5⟩

theorem body_imp (x y : Tree) (hf : Fm.isF y = false) (hx : TextOk x) (hy : TextOk y) : BodyOk (.imp x y) := by
  intro l v w hl h hn
  have hown : Fm.own (.imp x y) = 0 := by simp [Fm.own, hf]
  have hE : Fm.txt (.imp x y) l = Fm.txt x 1 ++ [62] ++ Fm.txt y 0 := by
    rw [Fm.txt, if_neg (by simp [hf]), Fm.wrap, if_neg (by omega)]
  rw [hE]
  rw [hown] at hl
  obtain ⟨b, o, c, rfl, hc, hm, k1⟩ := nodes_head h
  have hpos := Fm.enc_pos (.imp x y)
  have HL := Lib.hid (levelOf_c _ _ w h (by omega))
  have HH := Lib.hid h
  have hg0 := Grew.refl w
  have hng : isNeg (.imp x y) = false := hf
  have HG := Lib.hid (fun w h => isNegation_c (.slice (some ⟨b, o, none⟩) (Fm.enc (.imp x y)).length c) (.imp x y) w h (by omega))
  rw [hng] at HG
  rw [hown] at HL
  rw [show kindOf (.imp x y) = 4 from rfl] at k1
  have HA := Lib.hid (at_first (xs := Fm.enc (.imp x y)) (k := (4, 0)) (a := x) (rest := Fm.enc y) rfl)
  have HB := Lib.hid (at_second (xs := Fm.enc (.imp x y)) (k := (4, 0)) (a := x) (b := y) rfl)
  have hlen : (Fm.enc (.imp x y)).length = 1 + ((Fm.enc x).length + (Fm.enc y).length) := by simp [Fm.enc]; omega
  have h1 := Fm.txt_len x 1
  have h2 := Fm.txt_len y 0
  have HX := Lib.hid hx
  have HY := Lib.hid hy
  have hn1 : (Fm.enc x).length ≤ 1048576 := by omega
  have hn2 : (Fm.enc y).length ≤ 1048576 := by omega
  clear hE h hx hy hlen hown hng hf
  generalize Fm.enc (.imp x y) = T at *
  have s1 := bs_size (Fm.txt x 1)
  have s2 := bs_size (Fm.txt y 0)
  have z1 : (bs (Fm.txt x 1)).size ≤ 4194304 := by omega
  have z2 : (bs (Fm.txt y 0)).size ≤ 4194304 := by omega
  have HE : Hid (bs (Fm.txt x 1) ++ bs [62] ++ bs (Fm.txt y 0) = bs (Fm.txt x 1 ++ [62] ++ Fm.txt y 0)) := by unfold Hid; rw [bs_append, bs_append]
  clear s1 s2 h1 h2
  generalize Fm.txt x 1 ++ [62] ++ Fm.txt y 0 = Z at *
  go_enter Tryz.func120, Tryz.ntmps120
  go_wp2_with fail
  refine HL.out.mono ?_
  rintro e w1 ⟨rfl, hg1⟩
  go_wp2_with fail
  refine (HG.out _ (HH.out.grew hg1)).mono ?_
  rintro e w11 ⟨rfl, hg11⟩
  have hg1 := hg1.trans hg11
  go_wp2_with fail
  refine (first_c _ T x _ (HH.out.grew hg1) (by omega) HA.out).mono ?_
  rintro e w2 ⟨v2, rfl, hN2, hg2⟩
  go_wp2_with fail
  refine (HX.out 1 _ _ (by omega) hN2 hn1).mono ?_
  rintro e w3 ⟨rfl, hg3⟩
  go_wp2_with fail
  refine (second_c _ T x y _ (HH.out.grew ((hg1.trans hg2).trans hg3)) (by omega) HA.out HB.out).mono ?_
  rintro e w4 ⟨v4, rfl, hN4, hg4⟩
  go_wp2_with fail
  refine (HY.out 0 _ _ (by omega) hN4 hn2).mono ?_
  rintro e w5 ⟨rfl, hg5⟩
  go_wp2_with fail
  go_ret
  exact ⟨congrArg (fun z => Ending.returned (.string z)) HE.out, (((hg1.trans hg2).trans hg3).trans hg4).trans hg5⟩

theorem body_box (x : Tree) (hx : TextOk x) : BodyOk (.box x) := by
  intro l v w hl h hn
  have hown : Fm.own (.box x) = 3 := rfl
  have hE : Fm.txt (.box x) l = [91, 93] ++ Fm.txt x 3 := rfl
  rw [hE]
  rw [hown] at hl
  obtain ⟨b, o, c, rfl, hc, hm, k1⟩ := nodes_head h
  have hpos := Fm.enc_pos (.box x)
  have HL := Lib.hid (levelOf_c _ _ w h (by omega))
  have HH := Lib.hid h
  have hg0 := Grew.refl w
  rw [hown] at HL
  rw [show kindOf (.box x) = 5 from rfl] at k1
  have HA := Lib.hid (at_first (xs := Fm.enc (.box x)) (k := (5, 0)) (a := x) (rest := []) (by simp [Fm.enc]))
  have hlen : (Fm.enc (.box x)).length = 1 + (Fm.enc x).length := by simp [Fm.enc]; omega
  have h1 := Fm.txt_len x 3
  have HX := Lib.hid hx
  have hn1 : (Fm.enc x).length ≤ 1048576 := by omega
  clear hE h hx hlen hown
  generalize Fm.enc (.box x) = T at *
  have s1 := bs_size (Fm.txt x 3)
  have z1 : (bs (Fm.txt x 3)).size ≤ 4194304 := by omega
  have HE : Hid (bs [91, 93] ++ bs (Fm.txt x 3) = bs ([91, 93] ++ Fm.txt x 3)) := by unfold Hid; rw [bs_append]
  clear s1 h1
  generalize [91, 93] ++ Fm.txt x 3 = Z at *
  go_enter Tryz.func120, Tryz.ntmps120
  go_wp2_with fail
  refine HL.out.mono ?_
  rintro e w1 ⟨rfl, hg1⟩
  go_wp2_with fail
  refine (first_c _ T x _ (HH.out.grew hg1) (by omega) HA.out).mono ?_
  rintro e w2 ⟨v2, rfl, hN2, hg2⟩
  go_wp2_with fail
  refine (HX.out 3 _ _ (by omega) hN2 hn1).mono ?_
  rintro e w3 ⟨rfl, hg3⟩
  go_wp2_with fail
  go_ret
  exact ⟨congrArg (fun z => Ending.returned (.string z)) HE.out, (hg1.trans hg2).trans hg3⟩

theorem body_dia (x : Tree) (hx : TextOk x) : BodyOk (.dia x) := by
  intro l v w hl h hn
  have hown : Fm.own (.dia x) = 3 := rfl
  have hE : Fm.txt (.dia x) l = [60, 62] ++ Fm.txt x 3 := rfl
  rw [hE]
  rw [hown] at hl
  obtain ⟨b, o, c, rfl, hc, hm, k1⟩ := nodes_head h
  have hpos := Fm.enc_pos (.dia x)
  have HL := Lib.hid (levelOf_c _ _ w h (by omega))
  have HH := Lib.hid h
  have hg0 := Grew.refl w
  rw [hown] at HL
  rw [show kindOf (.dia x) = 6 from rfl] at k1
  have HA := Lib.hid (at_first (xs := Fm.enc (.dia x)) (k := (6, 0)) (a := x) (rest := []) (by simp [Fm.enc]))
  have hlen : (Fm.enc (.dia x)).length = 1 + (Fm.enc x).length := by simp [Fm.enc]; omega
  have h1 := Fm.txt_len x 3
  have HX := Lib.hid hx
  have hn1 : (Fm.enc x).length ≤ 1048576 := by omega
  clear hE h hx hlen hown
  generalize Fm.enc (.dia x) = T at *
  have s1 := bs_size (Fm.txt x 3)
  have z1 : (bs (Fm.txt x 3)).size ≤ 4194304 := by omega
  have HE : Hid (bs [60, 62] ++ bs (Fm.txt x 3) = bs ([60, 62] ++ Fm.txt x 3)) := by unfold Hid; rw [bs_append]
  clear s1 h1
  generalize [60, 62] ++ Fm.txt x 3 = Z at *
  go_enter Tryz.func120, Tryz.ntmps120
  go_wp2_with fail
  refine HL.out.mono ?_
  rintro e w1 ⟨rfl, hg1⟩
  go_wp2_with fail
  refine (first_c _ T x _ (HH.out.grew hg1) (by omega) HA.out).mono ?_
  rintro e w2 ⟨v2, rfl, hN2, hg2⟩
  go_wp2_with fail
  refine (HX.out 3 _ _ (by omega) hN2 hn1).mono ?_
  rintro e w3 ⟨rfl, hg3⟩
  go_wp2_with fail
  go_ret
  exact ⟨congrArg (fun z => Ending.returned (.string z)) HE.out, (hg1.trans hg2).trans hg3⟩

theorem body_tru (x : Tree) (hf : Fm.isF x = true) : BodyOk (.imp x .fls) := by
  intro l v w hl h hn
  have hown : Fm.own (.imp x .fls) = 3 := rfl
  have hE : Fm.txt (.imp x .fls) l = [84] := by
    rw [Fm.txt, if_pos (show Fm.isF .fls = true from rfl), if_pos hf]
  rw [hE]
  rw [hown] at hl
  obtain ⟨b, o, c, rfl, hc, hm, k1⟩ := nodes_head h
  have hpos := Fm.enc_pos (.imp x .fls)
  have HL := Lib.hid (levelOf_c _ _ w h (by omega))
  have HH := Lib.hid h
  have hg0 := Grew.refl w
  have HG := Lib.hid (fun w h => isNegation_c (.slice (some ⟨b, o, none⟩) (Fm.enc (.imp x .fls)).length c) (.imp x .fls) w h (by omega))
  rw [show isNeg (.imp x .fls) = true from rfl] at HG
  rw [hown] at HL
  rw [show kindOf (.imp x .fls) = 4 from rfl] at k1
  have HA := Lib.hid (at_first (xs := Fm.enc (.imp x .fls)) (k := (4, 0)) (a := x) (rest := Fm.enc .fls) rfl)
  have hlen : (Fm.enc (.imp x .fls)).length = 2 + (Fm.enc x).length := by simp [Fm.enc]; omega
  have hn1 : (Fm.enc x).length ≤ 1048576 := by omega
  have HI := Lib.hid (fun v w h => isFalsum_c v x w h)
  rw [hf] at HI
  clear hE h hlen hown hf
  generalize Fm.enc (.imp x .fls) = T at *
  go_enter Tryz.func120, Tryz.ntmps120
  go_wp2_with fail
  refine HL.out.mono ?_
  rintro e w1 ⟨rfl, hg1⟩
  go_wp2_with fail
  refine (HG.out _ (HH.out.grew hg1)).mono ?_
  rintro e w11 ⟨rfl, hg11⟩
  have hg1 := hg1.trans hg11
  go_wp2_with fail
  refine (first_c _ T x _ (HH.out.grew hg1) (by omega) HA.out).mono ?_
  rintro e w2 ⟨v2, rfl, hN2, hg2⟩
  go_wp2_with fail
  refine (HI.out _ _ hN2).mono ?_
  rintro e w3 ⟨rfl, hg3⟩
  go_wp2_with fail
  go_ret
  exact ⟨rfl, (hg1.trans hg2).trans hg3⟩

theorem body_not (x : Tree) (hf : Fm.isF x = false) (hx : TextOk x) : BodyOk (.imp x .fls) := by
  intro l v w hl h hn
  have hown : Fm.own (.imp x .fls) = 3 := rfl
  have hE : Fm.txt (.imp x .fls) l = [126] ++ Fm.txt x 3 := by
    rw [Fm.txt, if_pos (show Fm.isF .fls = true from rfl), if_neg (by simp [hf])]
  rw [hE]
  rw [hown] at hl
  obtain ⟨b, o, c, rfl, hc, hm, k1⟩ := nodes_head h
  have hpos := Fm.enc_pos (.imp x .fls)
  have HL := Lib.hid (levelOf_c _ _ w h (by omega))
  have HH := Lib.hid h
  have hg0 := Grew.refl w
  have HG := Lib.hid (fun w h => isNegation_c (.slice (some ⟨b, o, none⟩) (Fm.enc (.imp x .fls)).length c) (.imp x .fls) w h (by omega))
  rw [show isNeg (.imp x .fls) = true from rfl] at HG
  rw [hown] at HL
  rw [show kindOf (.imp x .fls) = 4 from rfl] at k1
  have HA := Lib.hid (at_first (xs := Fm.enc (.imp x .fls)) (k := (4, 0)) (a := x) (rest := Fm.enc .fls) rfl)
  have hlen : (Fm.enc (.imp x .fls)).length = 2 + (Fm.enc x).length := by simp [Fm.enc]; omega
  have hn1 : (Fm.enc x).length ≤ 1048576 := by omega
  have HI := Lib.hid (fun v w h => isFalsum_c v x w h)
  rw [hf] at HI
  have h1 := Fm.txt_len x 3
  have HX := Lib.hid hx
  have s1 := bs_size (Fm.txt x 3)
  have z1 : (bs (Fm.txt x 3)).size ≤ 4194304 := by omega
  have HE : Hid (bs [126] ++ bs (Fm.txt x 3) = bs ([126] ++ Fm.txt x 3)) := by unfold Hid; rw [bs_append]
  clear s1 h1 hx
  generalize [126] ++ Fm.txt x 3 = Z at *
  clear hE h hlen hown hf
  generalize Fm.enc (.imp x .fls) = T at *
  go_enter Tryz.func120, Tryz.ntmps120
  go_wp2_with fail
  refine HL.out.mono ?_
  rintro e w1 ⟨rfl, hg1⟩
  go_wp2_with fail
  refine (HG.out _ (HH.out.grew hg1)).mono ?_
  rintro e w11 ⟨rfl, hg11⟩
  have hg1 := hg1.trans hg11
  go_wp2_with fail
  refine (first_c _ T x _ (HH.out.grew hg1) (by omega) HA.out).mono ?_
  rintro e w2 ⟨v2, rfl, hN2, hg2⟩
  go_wp2_with fail
  refine (HI.out _ _ hN2).mono ?_
  rintro e w3 ⟨rfl, hg3⟩
  go_wp2_with fail
  refine (first_c _ T x _ (HH.out.grew ((hg1.trans hg2).trans hg3)) (by omega) HA.out).mono ?_
  rintro e w4 ⟨v4, rfl, hN4, hg4⟩
  go_wp2_with fail
  refine (HX.out 3 _ _ (by omega) hN4 hn1).mono ?_
  rintro e w5 ⟨rfl, hg5⟩
  go_wp2_with fail
  go_ret
  exact ⟨congrArg (fun z => Ending.returned (.string z)) HE.out, (((hg1.trans hg2).trans hg3).trans hg4).trans hg5⟩

theorem body_fls : BodyOk .fls := by
  intro l v w hl h hn
  have hE : Fm.txt .fls l = [70] := rfl
  rw [hE]
  rw [show Fm.own .fls = 3 from rfl] at hl
  obtain ⟨b, o, c, rfl, hc, hm, k1⟩ := nodes_head h
  have hpos := Fm.enc_pos (.fls)
  have HL := Lib.hid (levelOf_c _ _ w h (by omega))
  have HH := Lib.hid h
  have hg0 := Grew.refl w
  rw [show Fm.own .fls = 3 from rfl] at HL
  rw [show kindOf .fls = 1 from rfl] at k1
  clear hE h
  generalize Fm.enc .fls = T at *
  go_enter Tryz.func120, Tryz.ntmps120
  go_wp2_with fail
  refine HL.out.mono ?_
  rintro e w1 ⟨rfl, hg1⟩
  go_wp2_with fail
  go_ret
  exact ⟨rfl, hg1⟩

theorem body_var (n : Fin 6) : BodyOk (.var n) := by
  intro l v w hl h hn
  have hE : Fm.txt (.var n) l = [UInt8.ofNat (112 + n.val)] := rfl
  rw [hE]
  rw [show Fm.own (.var n) = 3 from rfl] at hl
  have k2 : ∃ b o c, v = .slice (some ⟨b, o, none⟩) (Fm.enc (.var n)).length c ∧ ∀ W, Grew w W → W.cell? ⟨b, o + 1, none⟩ = some (.int .i64 (n.val : Int)) := by
    rcases h.open_ with ⟨_, h0⟩ | ⟨b, o, c, hv, _, _, _, hf⟩
    · simp [Fm.enc] at h0
    · refine ⟨b, o, c, hv, fun W hW => ?_⟩
      have := (hf 0 (by simp [Fm.enc]) W hW).2
      rw [show sy (Fm.enc (.var n)) 0 = (n.val : Int) from rfl] at this
      simpa using this
  obtain ⟨b, o, c, rfl, hc, hm, k1⟩ := nodes_head h
  have hpos := Fm.enc_pos (.var n)
  have HL := Lib.hid (levelOf_c _ _ w h (by omega))
  have HH := Lib.hid h
  have hg0 := Grew.refl w
  obtain ⟨b', o', c', hv', k2⟩ := k2
  simp only [Value.slice.injEq, Option.some.injEq, Addr.mk.injEq, and_true, true_and] at hv'
  obtain ⟨⟨rfl, rfl⟩, rfl⟩ := hv'
  rw [show Fm.own (.var n) = 3 from rfl] at HL
  rw [show kindOf (.var n) = 0 from rfl] at k1
  have hn6 := n.isLt
  clear hE h
  generalize Fm.enc (.var n) = T at *
  generalize n.val = q at *
  go_enter Tryz.func120, Tryz.ntmps120
  go_wp2_with fail
  refine HL.out.mono ?_
  rintro e w1 ⟨rfl, hg1⟩
  go_wp2_with fail
  go_quiet (fail)
  go_wp2_with fail
  go_ret
  exact ⟨congrArg (fun z => Ending.returned (.string z)) (letter_cut hn6), hg1.drewN _⟩

theorem textOk_of (t : Tree) (hb : BodyOk t) : TextOk t := by
  intro l v w hl h hn
  by_cases hw : Fm.own t < l
  · have hE : Fm.txt t l = [40] ++ Fm.txt t 0 ++ [41] := by
      cases t with
      | var n => simp [Fm.own] at hw; omega
      | fls => simp [Fm.own] at hw; omega
      | and x y => simp only [Fm.own] at hw; simp [Fm.txt, Fm.wrap, hw]
      | or x y => simp only [Fm.own] at hw; simp [Fm.txt, Fm.wrap, hw]
      | imp x y =>
        cases hf : Fm.isF y with
        | true => simp [Fm.own, hf] at hw; omega
        | false => simp [Fm.own, hf] at hw; simp [Fm.txt, Fm.wrap, hf, hw]
      | box x => simp [Fm.own] at hw; omega
      | dia x => simp [Fm.own] at hw; omega
    rw [hE]
    have h1 := Fm.txt_len t 0
    have s1 := bs_size (Fm.txt t 0)
    have z1 : (bs (Fm.txt t 0)).size ≤ 4194304 := by omega
    have HL := Lib.hid (levelOf_c _ _ w h (by omega))
    have HB := Lib.hid (fun w h => hb 0 v w (Nat.zero_le _) h hn)
    have HH := Lib.hid h
    have HE : Hid (bs [40] ++ bs (Fm.txt t 0) ++ bs [41] = bs ([40] ++ Fm.txt t 0 ++ [41])) := by unfold Hid; rw [bs_append, bs_append]
    clear hE h1 s1 hb h
    generalize Fm.own t = q at *
    generalize [40] ++ Fm.txt t 0 ++ [41] = Z at *
    go_enter Tryz.func120, Tryz.ntmps120
    go_wp2_with fail
    refine HL.out.mono ?_
    rintro e w1 ⟨rfl, hg1⟩
    go_wp2_with fail
    refine (HB.out _ (HH.out.grew hg1)).mono ?_
    rintro e w2 ⟨rfl, hg2⟩
    go_wp2_with fail
    go_ret
    exact ⟨congrArg (fun z => Ending.returned (.string z)) HE.out, hg1.trans hg2⟩
  · exact hb l v w (by omega) h hn

theorem text_ok (t : Tree) : TextOk t := by
  induction t with
  | var n => exact textOk_of _ (body_var n)
  | fls => exact textOk_of _ body_fls
  | and x y hx hy => exact textOk_of _ (body_and x y hx hy)
  | or x y hx hy => exact textOk_of _ (body_or x y hx hy)
  | imp x y hx hy =>
    cases hf : Fm.isF y with
    | true =>
      obtain rfl := Fm.isF_eq hf
      cases hg : Fm.isF x with
      | true => exact textOk_of _ (body_tru x hg)
      | false => exact textOk_of _ (body_not x hg hx)
    | false => exact textOk_of _ (body_imp x y hf hx hy)
  | box x hx => exact textOk_of _ (body_box x hx)
  | dia x hx => exact textOk_of _ (body_dia x hx)

theorem text_c (t : Tree) (v : Value) (w : World) (h : Nodes w v (Fm.enc t)) (hn : (Fm.enc t).length ≤ 1048576) :
    Calls Tryz.prog 105 #[v] w (Says w (Fm.txt t 0)) := by
  have HT := Lib.hid (text_ok t 0 v w (by omega) h hn)
  go_enter Tryz.func105, Tryz.ntmps105
  go_wp2_with fail
  refine HT.out.mono ?_
  rintro e w1 ⟨rfl, hg1⟩
  go_wp2_with fail
  go_ret
  exact ⟨rfl, hg1⟩
end Go.Proofs.YtdndclfjeajhiaaGreat

/- The program's 'parsed'. -/
namespace Go.Proofs.YtdndclfjeajhiaaGreat
open Go.RowKit
open Fm (Nd)

/-- A new list, nil where it is empty. -/
def GivesN (w : World) (xs : List Nd) (e : Ending) (w' : World) : Prop := ∃ v, e = .returned v ∧ Own w' w.heap.size v xs ∧ Grew w w' ∧ (xs = [] → v = .slice none 0 0)

theorem parsed_c (s : ByteArray) (w : World) (hs : s.size ≤ 140737488355328) :
    Calls Tryz.prog 91 #[.string s] w (GivesN w (Fm.pf s).1) := by
  have HP := Lib.hid (fun w => parse_c s w hs)
  generalize Fm.pf s = r at *
  go_enter Tryz.func91, Tryz.ntmps91
  go_wp2_with fail
  refine (HP.out _).mono ?_
  rintro e w1 ⟨v1, rfl, ho1, hg1, hz1⟩
  have HZ := Lib.hid hz1
  clear hz1
  go_wp2_with fail
  go_ret
  exact ⟨_, rfl, ho1, hg1, HZ.out⟩
end Go.Proofs.YtdndclfjeajhiaaGreat

/- isText of the program. -/
namespace Go.Proofs.YtdndclfjeajhiaaGreat
open Go.RowKit
open Fm (Nd)

theorem text0_c (t : Fm.Tree) (v : Value) (w : World) (h : Nodes w v (Fm.enc t)) (hn : (Fm.enc t).length ≤ 1048576) :
    Calls Tryz.prog 105 #[v] w (Says w (Fm.txt t 0)) := text_c t v w h hn

theorem isText_c (s : ByteArray) (w : World) (hs : s.size ≤ 140737488355328) :
    Calls Tryz.prog 89 #[.string s] w fun e w' => e = .returned (.bool (gd s)) ∧ Grew w w' := by
  have HP := fun w => parsed_c s w hs
  rcases pf_cases s with ⟨t, ht⟩ | ⟨p, c, hp, hc⟩
  · have hn := Fm.pf_len s
    have hpos := Fm.enc_pos t
    rw [gd_tree ht]
    rw [ht] at HP hn
    simp only at HP hn
    replace HP := Lib.hid HP
    have HT := Lib.hid (fun v w h => text0_c t v w h (by omega))
    have HO := Lib.hid (fun w (v : Value) (h : Own w w.heap.size v (Fm.enc t)) => h)
    clear ht HO
    have hne := fun w (b : Option Addr) n c => run_neq_slice_nil_any (P := Tryz.prog) w 83 101 b n c 0 0 Tryz.underlying83
    generalize Fm.enc t = xs at *
    go_enter Tryz.func89, Tryz.ntmps89
    go_wp2_with fail
    refine (HP.out _).mono ?_
    rintro e w1 ⟨v1, rfl, ho1, hg1, _⟩
    rcases ho1.open_ with ⟨rfl, h0⟩ | ⟨g, c, cur, rfl, _⟩
    · rw [h0] at hpos; cases hpos
    go_wp2_with fail
    refine (HT.out _ _ ho1.nodes).mono ?_
    rintro e w2 ⟨rfl, hg2⟩
    go_wp2_with fail
    go_ret
    exact ⟨rfl, hg1.trans hg2⟩
  · rw [gd_bad hp hc]
    rw [hp] at HP
    replace HP := Lib.hid HP
    clear hp
    go_enter Tryz.func89, Tryz.ntmps89
    go_wp2_with fail
    refine (HP.out _).mono ?_
    rintro e w1 ⟨v1, rfl, ho1, hg1, hz1⟩
    obtain rfl := hz1 rfl
    go_wp2_with fail
    go_ret
    exact ⟨rfl, hg1⟩
end Go.Proofs.YtdndclfjeajhiaaGreat

/- A predicate on nodes: IndexFunc, ContainsFunc. -/
namespace Go.Proofs.YtdndclfjeajhiaaGreat
open Go.RowKit
open Fm (Nd)

/-- None of the first k nodes meets the predicate. -/
def NoneP (p : Int → Int → Bool) (xs : List Nd) (k : Nat) : Prop := ∀ i, i < k → p (kd xs i) (sy xs i) = false
theorem NoneP.zero (p : Int → Int → Bool) (xs : List Nd) : NoneP p xs 0 := fun i hi => absurd hi (by omega)
theorem NoneP.succ {p : Int → Int → Bool} {xs : List Nd} {k : Nat} (h : NoneP p xs k) (h1 : p (kd xs k) (sy xs k) = false) : NoneP p xs (k + 1) := by
  intro i hi
  rcases Nat.lt_or_ge i k with hk | hk
  · exact h i hk
  · obtain rfl : i = k := by omega
    exact h1
/-- Some node meets the predicate. -/
noncomputable def anyP (p : Int → Int → Bool) (xs : List Nd) : Bool := !@decide (NoneP p xs xs.length) (Classical.propDecidable _)
theorem anyP_no {p : Int → Int → Bool} {xs : List Nd} (h : NoneP p xs xs.length) : anyP p xs = false := by
  unfold anyP
  rw [@decide_eq_true _ (Classical.propDecidable _) h]
  rfl
theorem anyP_at {p : Int → Int → Bool} {xs : List Nd} {k : Nat} (hk : k < xs.length) (h : p (kd xs k) (sy xs k) = true) : anyP p xs = true := by
  unfold anyP
  rw [@decide_eq_false _ (Classical.propDecidable _) fun H => by rw [H k hk] at h; cases h]
  rfl

/-- What the function value gives at a node. -/
def PredOk (f : Nat) (p : Int → Int → Bool) : Prop := ∀ a b W, Calls Tryz.prog f #[.agg #[.int .i64 a, .int .i64 b]] W fun e w' => e = .returned (.bool (p a b)) ∧ Grew W w'

theorem indexFunc_c (v : Value) (xs : List Nd) (f : Nat) (p : Int → Int → Bool) (w : World) (h : Nodes w v xs) (hn : xs.length ≤ 1099511627776) (hf : PredOk f p) (eg : ∀ args w, (callFunc f args).run Tryz.prog w = .ok (.enter f args) w) :
    Calls Tryz.prog 121 #[v, .func (.func f) #[] #[]] w fun e w' => ∃ r : Int, e = .returned (.int .i64 r) ∧ Grew w w' ∧ decide (0 ≤ r) = anyP p xs := by
  rcases h.open_ with ⟨rfl, rfl⟩ | ⟨b, o, c, rfl, hc, hm, hb, hcell⟩
  · rw [anyP_no (NoneP.zero _ _)]
    clear h hf
    go_enter Tryz.func121, Tryz.ntmps121
    go_wp2_with fail
    refine wp_loop_rounds 1 ?_; rw [rounds_succ]
    go_wp2_with fail
    go_ret
    exact ⟨_, rfl, Grew.refl _, rfl⟩
  obtain ⟨R, hR⟩ : ∃ R, R = anyP p xs := ⟨_, rfl⟩
  rw [← hR]
  have HA := Lib.hid (fun k hk h => hR.trans (@anyP_at p xs k hk h))
  have HZ := Lib.hid (fun h => hR.trans (@anyP_no p xs h))
  have HC := Lib.hid hcell
  have HF := Lib.hid hf
  clear hcell h hf hR
  generalize hN : xs.length = n at *
  clear hN
  go_enter Tryz.func121, Tryz.ntmps121
  go_wp2_with fail
  go_loopw [5, 8] (fun _ i wr => ∃ j : Nat, j ≤ n ∧ i = .int .i64 j ∧ Grew w wr ∧ Hid (NoneP p xs j)) (fun _ i _ => n - (intOf i).toNat)
  case atStart => exact ⟨0, Nat.zero_le _, rfl, Grew.refl _, NoneP.zero _ _⟩
  case round =>
    obtain ⟨j, hj, rfl, hB, HJ⟩ := hrel
    by_cases hlt : j < n
    · have k1 := (HC.out j hlt _ hB).1
      have k2 := (HC.out j hlt _ hB).2
      have hA := Lib.hid (HA.out j hlt)
      have hS := Lib.hid (fun h => HJ.out.succ (k := j) h)
      generalize kd xs j = x at *
      generalize sy xs j = y at *
      go_wp2_with fail
      go_at_fn f
      refine (HF.out x y _).mono ?_
      rintro e w1 ⟨rfl, hg1⟩
      have hB1 := hB.trans hg1
      cases hp : p x y with
      | true =>
        have hv := hA.out hp
        go_wp2_with fail
        go_ret
        exact ⟨_, rfl, hB1, by rw [hv]; simp⟩
      | false =>
        have hs := Lib.hid (hS.out hp)
        go_wp2_with fail
        go_roundw
        case rel => exact ⟨j + 1, by omega, by go_num, hB1, hs⟩
        case measure => simp [intOf]; omega
    · obtain rfl : j = n := by omega
      have hv := Lib.hid (HZ.out HJ.out)
      go_wp2_with fail
      go_ret
      exact ⟨_, rfl, hB, by rw [hv.out]; rfl⟩

theorem containsFunc_c (v : Value) (xs : List Nd) (f : Nat) (p : Int → Int → Bool) (w : World) (h : Nodes w v xs) (hn : xs.length ≤ 1099511627776) (hf : PredOk f p) (eg : ∀ args w, (callFunc f args).run Tryz.prog w = .ok (.enter f args) w) :
    Calls Tryz.prog 106 #[v, .func (.func f) #[] #[]] w fun e w' => e = .returned (.bool (anyP p xs)) ∧ Grew w w' := by
  have HI := Lib.hid (indexFunc_c v xs f p w h hn hf eg)
  clear h hf eg
  generalize anyP p xs = R at *
  go_enter Tryz.func106, Tryz.ntmps106
  go_wp2_with fail
  refine HI.out.mono ?_
  rintro e w1 ⟨r, rfl, hg1, hr⟩
  go_wp2_with fail
  go_ret
  exact ⟨by rw [← hr]; rfl, hg1⟩

end Go.Proofs.YtdndclfjeajhiaaGreat

/- isPlain of the program, l02Plain of the reference. -/
namespace Go.Proofs.YtdndclfjeajhiaaGreat
open Go.RowKit
open Fm (Nd)

def isBD (a _b : Int) : Bool := a == 5 || a == 6
theorem isModal_c (a : Int) (w : World) : Calls Tryz.prog 108 #[.int .i64 a] w fun e w' => e = .returned (.bool (a == 5 || a == 6)) ∧ Grew w w' := by
  cases h : (a == 5) with
  | true =>
    go_enter Tryz.func108, Tryz.ntmps108
    go_wp2_with fail
    go_ret
    exact ⟨rfl, Grew.refl _⟩
  | false =>
    go_enter Tryz.func108, Tryz.ntmps108
    go_wp2_with fail
    go_ret
    exact ⟨by simp, Grew.refl _⟩
theorem isPlain1_ok : PredOk 107 isBD := by
  intro a b w
  go_enter Tryz.func107, Tryz.ntmps107
  go_wp2_with fail
  refine (isModal_c _ _).mono ?_
  rintro e w1 ⟨rfl, hg1⟩
  go_wp2_with fail
  go_ret
  exact ⟨rfl, Grew.of_alloc hg1⟩
theorem isPlain_c (v : Value) (xs : List Nd) (w : World) (h : Nodes w v xs) (hn : xs.length ≤ 1099511627776) :
    Calls Tryz.prog 90 #[v] w fun e w' => e = .returned (.bool (!anyP isBD xs)) ∧ Grew w w' := by
  have HI := Lib.hid (containsFunc_c v xs _ _ w h hn isPlain1_ok (enters_of Tryz.func107 (by kernel_rfl) rfl))
  clear h
  generalize anyP isBD xs = R at *
  go_enter Tryz.func90, Tryz.ntmps90
  go_wp2_with fail
  refine HI.out.mono ?_
  rintro e w1 ⟨rfl, hg1⟩
  go_wp2_with fail
  go_ret
  exact ⟨rfl, hg1⟩

theorem l02Plain_c (v : Value) (xs : List Nd) (w : World) (h : Nodes w v xs) (hn : xs.length ≤ 1099511627776) :
    Calls Tryz.prog 96 #[v] w fun e w' => e = .returned (.bool (!anyP isBD xs)) ∧ Grew w w' := by
  rcases h.open_ with ⟨rfl, rfl⟩ | ⟨b, o, c, rfl, hc, hm, hb, hcell⟩
  · rw [anyP_no (NoneP.zero _ _)]
    clear h
    go_enter Tryz.func96, Tryz.ntmps96
    go_wp2_with fail
    refine wp_loop_rounds 1 ?_; rw [rounds_succ]
    go_wp2_with fail
    go_ret
    exact ⟨rfl, Grew.refl _⟩
  obtain ⟨R, hR⟩ : ∃ R, R = anyP isBD xs := ⟨_, rfl⟩
  rw [← hR]
  have HA := Lib.hid (fun k hk h => hR.trans (@anyP_at isBD xs k hk h))
  have HZ := Lib.hid (fun h => hR.trans (@anyP_no isBD xs h))
  have HC := Lib.hid hcell
  clear hcell h hR
  generalize hN : xs.length = n at *
  clear hN
  go_enter Tryz.func96, Tryz.ntmps96
  go_wp2_with fail
  go_loopw [3] (fun i wr => ∃ j : Nat, j ≤ n ∧ i = .int .i64 j ∧ Grew w wr ∧ Hid (NoneP isBD xs j)) (fun i _ => n - (intOf i).toNat)
  case atStart => exact ⟨0, Nat.zero_le _, rfl, Grew.refl _, NoneP.zero _ _⟩
  case round =>
    obtain ⟨j, hj, rfl, hB, HJ⟩ := hrel
    by_cases hlt : j < n
    · have k1 := (HC.out j hlt _ hB).1
      have hA := Lib.hid (HA.out j hlt)
      have hS := Lib.hid (fun h => HJ.out.succ (k := j) h)
      generalize kd xs j = x at *
      generalize sy xs j = y at *
      cases h5 : (x == 5) with
      | true =>
        have hv := Lib.hid (hA.out (by simp [isBD, h5]))
        go_wp2_with fail
        go_ret
        rw [hv.out]
        exact ⟨rfl, hB⟩
      | false =>
        cases h6 : (x == 6) with
        | true =>
          have hv := Lib.hid (hA.out (by simp [isBD, h6]))
          go_wp2_with fail
          go_ret
          rw [hv.out]
          exact ⟨rfl, hB⟩
        | false =>
          have hs := Lib.hid (hS.out (by simp [isBD, h5, h6]))
          go_wp2_with fail
          go_roundw
          case rel => exact ⟨j + 1, by omega, by go_num, hB, hs⟩
          case measure => simp [intOf]; omega
    · obtain rfl : j = n := by omega
      have hv := Lib.hid (HZ.out HJ.out)
      go_wp2_with fail
      go_ret
      rw [hv.out]
      exact ⟨rfl, hB⟩
end Go.Proofs.YtdndclfjeajhiaaGreat

/- Is a text that of a plain formula? -/
namespace Go.Proofs.YtdndclfjeajhiaaGreat
open Go.RowKit
open Fm (Nd)

/-- The text is the text of a plain formula. -/
noncomputable def gp (s : ByteArray) : Bool := gd s && !anyP isBD (Fm.pf s).1

def GivesP (w : World) (s : ByteArray) (e : Ending) (w' : World) : Prop := ∃ v, e = .returned (.tuple #[v, .bool (gp s)]) ∧ Own w' w.heap.size v (Fm.pf s).1 ∧ Grew w w'

theorem isPlainText_c (s : ByteArray) (w : World) (hs : s.size ≤ 140737488355328) :
    Calls Tryz.prog 58 #[.string s] w fun e w' => e = .returned (.bool (gp s)) ∧ Grew w w' := by
  have HG := fun w => isText_c s w hs
  have HR := fun w => parsed_c s w hs
  have hn := Fm.pf_len s
  unfold gp
  generalize (Fm.pf s).1 = xs at *
  have HP := Lib.hid (fun v w h => isPlain_c v xs w h (by omega))
  replace HR := Lib.hid HR
  generalize anyP isBD xs = q at *
  cases hg : gd s with
  | true =>
    rw [hg] at HG
    replace HG := Lib.hid HG
    clear hg
    go_enter Tryz.func58, Tryz.ntmps58
    go_wp2_with fail
    refine (HG.out _).mono ?_
    rintro e w1 ⟨rfl, hg1⟩
    go_wp2_with fail
    refine (HR.out _).mono ?_
    rintro e w2 ⟨v2, rfl, ho2, hg2, _⟩
    go_wp2_with fail
    refine (HP.out _ _ ho2.nodes).mono ?_
    rintro e w3 ⟨rfl, hg3⟩
    go_wp2_with fail
    go_ret
    exact ⟨rfl, (hg1.trans hg2).trans hg3⟩
  | false =>
    rw [hg] at HG
    replace HG := Lib.hid HG
    clear hg
    go_enter Tryz.func58, Tryz.ntmps58
    go_wp2_with fail
    refine (HG.out _).mono ?_
    rintro e w1 ⟨rfl, hg1⟩
    go_wp2_with fail
    go_ret
    exact ⟨rfl, hg1⟩
end Go.Proofs.YtdndclfjeajhiaaGreat

/- The texts of formulas. No program is in sight. -/
namespace Go.Proofs.YtdndclfjeajhiaaGreat
open Go.RowKit

/-- The text of a formula. -/
def tx (A : Fm.Tree) : ByteArray := bs (Fm.txt A 0)
theorem tx_pf {A : Fm.Tree} (h : (Fm.enc A).length ≤ 40) : Fm.pf (tx A) = (Fm.enc A, 0, 0) := Fm.pf_txt A (by have := Fm.txt_len A 0; omega) h
theorem tx_size {A : Fm.Tree} (h : (Fm.enc A).length ≤ 40) : (tx A).size ≤ 160 := by
  unfold tx
  rw [bs_size]
  have := Fm.txt_len A 0
  omega
theorem tx_inj {A B : Fm.Tree} (ha : (Fm.enc A).length ≤ 40) (hb : (Fm.enc B).length ≤ 40) (h : tx A = tx B) : A = B := by
  have h1 := tx_pf ha
  rw [h, tx_pf hb] at h1
  simp only [Prod.mk.injEq, and_true] at h1
  exact (enc_inj h1).symm
theorem tx_ne (A : Fm.Tree) : (tx A).toList.isEmpty = false := by
  have h1 := Fm.txt_pos A 0
  unfold tx
  cases he : Fm.txt A 0 with
  | nil => rw [he] at h1; simp at h1
  | cons x xs =>
    have := Lib.bytes_beq_iff (bs (x :: xs)) ByteArray.empty
    cases hq : (bs (x :: xs)).toList.isEmpty with
    | false => rfl
    | true =>
      exfalso
      have h2 : (bs (x :: xs)).toList = ByteArray.empty.toList := by
        rw [List.isEmpty_iff] at hq
        rw [hq]; exact (by unfold ByteArray.toList ByteArray.toList.loop; rfl : ([] : List UInt8) = ByteArray.empty.toList)
      have h3 := this.1 (by rw [h2]; simp)
      have h4 := congrArg ByteArray.size h3
      rw [bs_size] at h4
      simp at h4

end Go.Proofs.YtdndclfjeajhiaaGreat

/- Plain formulas of the size of a text, and their texts. No program is in sight. -/
namespace Go.Proofs.YtdndclfjeajhiaaGreat
open Go.RowKit

/-- A formula of the size of a text. -/
def FmOk (A : Fm.Tree) : Prop := (Fm.enc A).length ≤ 40 ∧ anyP isBD (Fm.enc A) = false
theorem gp_tx {A : Fm.Tree} (h : FmOk A) : gp (tx A) = true := by
  unfold gp
  rw [gd_true ⟨A, tx_pf h.1, rfl⟩, tx_pf h.1]
  simp [h.2]
theorem gp_tree {s : ByteArray} (h : gp s = true) : ∃ A, FmOk A ∧ tx A = s := by
  unfold gp at h
  simp only [Bool.and_eq_true, Bool.not_eq_true'] at h
  have hg : IsGood s := by
    by_cases hg : IsGood s
    · exact hg
    · rw [gd_false hg] at h; exact absurd h.1 (by simp)
  obtain ⟨A, h1, h2⟩ := hg
  have hl := Fm.pf_len s
  rw [h1] at hl h
  exact ⟨A, ⟨hl, h.2⟩, h2⟩
/-- The formula that a text is the text of. -/
noncomputable def fo (s : ByteArray) : Fm.Tree := @dite _ (gp s = true) (Classical.propDecidable _) (fun h => Classical.choose (gp_tree h)) (fun _ => .fls)
theorem fo_ok {s : ByteArray} (h : gp s = true) : FmOk (fo s) ∧ tx (fo s) = s := by
  unfold fo
  rw [dif_pos h]
  exact Classical.choose_spec (gp_tree h)

/-- The formula, if it has not too many nodes. -/
def smallF (A : Fm.Tree) : Option Fm.Tree := if (Fm.enc A).length ≤ 40 then some A else none
theorem anyP_mem {p : Int → Int → Bool} {xs : List Fm.Nd} : anyP p xs = false ↔ ∀ x ∈ xs, p x.1 x.2 = false := by
  constructor
  · intro h x hx
    obtain ⟨i, hi, rfl⟩ := List.getElem_of_mem hx
    cases hq : p xs[i].1 xs[i].2 with
    | false => rfl
    | true =>
      have := anyP_at (p := p) hi (by simpa [kd, sy, List.getD, hi] using hq)
      rw [this] at h; cases h
  · intro h
    apply anyP_no
    intro i hi
    have := h xs[i] (List.getElem_mem hi)
    simpa [kd, sy, List.getD, hi] using this
theorem FmOk.bin {k : Int} {A B : Fm.Tree} {C : Fm.Tree} (he : Fm.enc C = (k, 0) :: (Fm.enc A ++ Fm.enc B)) (h : FmOk C) : FmOk A ∧ FmOk B := by
  obtain ⟨h1, h2⟩ := h
  rw [he] at h1 h2
  rw [anyP_mem] at h2
  simp only [List.length_cons, List.length_append] at h1
  exact ⟨⟨by omega, anyP_mem.2 fun x hx => h2 x (by simp [hx])⟩, ⟨by omega, anyP_mem.2 fun x hx => h2 x (by simp [hx])⟩⟩
theorem FmOk.join {k : Int} {A B : Fm.Tree} {C : Fm.Tree} (he : Fm.enc C = (k, 0) :: (Fm.enc A ++ Fm.enc B)) (hk : k ≠ 5 ∧ k ≠ 6) (hA : FmOk A) (hB : FmOk B) (hl : (Fm.enc C).length ≤ 40) : FmOk C := by
  refine ⟨hl, anyP_mem.2 ?_⟩
  rw [he]
  intro x hx
  simp only [List.mem_cons, List.mem_append] at hx
  rcases hx with rfl | hx | hx
  · unfold isBD
    have h5 : (k == 5) = false := by simpa using hk.1
    have h6 : (k == 6) = false := by simpa using hk.2
    show (k == 5 || k == 6) = false
    rw [h5, h6]; rfl
  · exact anyP_mem.1 hA.2 x hx
  · exact anyP_mem.1 hB.2 x hx
theorem smallF_ok {A B : Fm.Tree} (h : smallF A = some B) : A = B ∧ (Fm.enc B).length ≤ 40 := by
  unfold smallF at h
  split at h
  · simp at h; subst h; exact ⟨rfl, ‹_›⟩
  · cases h
theorem fmOk_and {p q : Fm.Tree} (h : FmOk (.and p q)) : FmOk p ∧ FmOk q := FmOk.bin (k := 2) rfl h
theorem fmOk_or {p q : Fm.Tree} (h : FmOk (.or p q)) : FmOk p ∧ FmOk q := FmOk.bin (k := 3) rfl h
theorem fmOk_imp {p q : Fm.Tree} (h : FmOk (.imp p q)) : FmOk p ∧ FmOk q := FmOk.bin (k := 4) rfl h
theorem small_and {p q B : Fm.Tree} (hp : FmOk p) (hq : FmOk q) (h : smallF (.and p q) = some B) : FmOk B := by
  obtain ⟨rfl, hl⟩ := smallF_ok h
  exact FmOk.join (k := 2) rfl (by decide) hp hq hl
theorem small_or {p q B : Fm.Tree} (hp : FmOk p) (hq : FmOk q) (h : smallF (.or p q) = some B) : FmOk B := by
  obtain ⟨rfl, hl⟩ := smallF_ok h
  exact FmOk.join (k := 3) rfl (by decide) hp hq hl
theorem small_imp {p q B : Fm.Tree} (hp : FmOk p) (hq : FmOk q) (h : smallF (.imp p q) = some B) : FmOk B := by
  obtain ⟨rfl, hl⟩ := smallF_ok h
  exact FmOk.join (k := 4) rfl (by decide) hp hq hl
/-- A formula without modalities is of one of five kinds. -/
theorem fm_five {A : Fm.Tree} (h : FmOk A) : (∃ v, A = .var v) ∨ A = .fls ∨ (∃ x y, A = .and x y) ∨ (∃ x y, A = .or x y) ∨ ∃ x y, A = .imp x y := by
  cases A with
  | var v => exact .inl ⟨v, rfl⟩
  | fls => exact .inr (.inl rfl)
  | and x y => exact .inr (.inr (.inl ⟨x, y, rfl⟩))
  | or x y => exact .inr (.inr (.inr (.inl ⟨x, y, rfl⟩)))
  | imp x y => exact .inr (.inr (.inr (.inr ⟨x, y, rfl⟩)))
  | box x => exact absurd (anyP_mem.1 h.2 (5, 0) (by simp [Fm.enc])) (by simp [isBD])
  | dia x => exact absurd (anyP_mem.1 h.2 (6, 0) (by simp [Fm.enc])) (by simp [isBD])
end Go.Proofs.YtdndclfjeajhiaaGreat

/- Formulas of two parts. -/
namespace Go.Proofs.YtdndclfjeajhiaaGreat
open Go.RowKit

/-- The formula has two parts. -/
def TwoF (A p q : Fm.Tree) : Prop := Fm.enc A = (kindOf A, 0) :: (Fm.enc p ++ Fm.enc q)
theorem TwoF.len {A p q : Fm.Tree} (h : TwoF A p q) : (Fm.enc A).length = 1 + (Fm.enc p).length + (Fm.enc q).length := by rw [h]; simp; omega
end Go.Proofs.YtdndclfjeajhiaaGreat

/- l25Formula of the reference. -/
namespace Go.Proofs.YtdndclfjeajhiaaGreat
open Go.RowKit

theorem l25Formula_c (s : ByteArray) (w : World) (hs : s.size ≤ 140737488355328) :
    Calls Tryz.prog 63 #[.string s] w (GivesP w s) := by
  have HG := fun w => l02Good_c s w hs
  have hn := Fm.pf_len s
  unfold GivesP gp
  unfold GivesG at HG
  generalize (Fm.pf s).1 = xs at *
  have HP := Lib.hid (fun v w h => l02Plain_c v xs w h (by omega))
  generalize anyP isBD xs = q at *
  cases hg : gd s with
  | true =>
    rw [hg] at HG
    replace HG := Lib.hid HG
    clear hg
    go_enter Tryz.func63, Tryz.ntmps63
    go_wp2_with fail
    refine (HG.out _).mono ?_
    rintro e w1 ⟨v1, rfl, ho1, hg1⟩
    go_wp2_with fail
    refine (HP.out _ _ ho1.nodes).mono ?_
    rintro e w2 ⟨rfl, hg2⟩
    go_wp2_with fail
    go_ret2
    exact ⟨_, rfl, ho1.grew hg2, hg1.trans hg2⟩
  | false =>
    rw [hg] at HG
    replace HG := Lib.hid HG
    clear hg
    go_enter Tryz.func63, Tryz.ntmps63
    go_wp2_with fail
    refine (HG.out _).mono ?_
    rintro e w1 ⟨v1, rfl, ho1, hg1⟩
    go_wp2_with fail
    go_ret2
    exact ⟨_, rfl, ho1, hg1⟩
end Go.Proofs.YtdndclfjeajhiaaGreat

/- The parts of a formula by their texts: l25Parts of the reference. -/
namespace Go.Proofs.YtdndclfjeajhiaaGreat
open Go.RowKit

theorem l25Parts_yes (k : Int) (A p q : Fm.Tree) (w : World) (hA : FmOk A) (hk : kindOf A = k) (h2 : TwoF A p q) :
    Calls Tryz.prog 69 #[.string (tx A), .int .i64 k] w fun e w' => e = .returned (.tuple #[.string (tx p), .string (tx q), .bool true]) ∧ Grew w w' := by
  have KA := fun w => l25Formula_c (tx A) w (by have := tx_size hA.1; omega)
  unfold GivesP at KA
  rw [gp_tx hA, tx_pf hA.1] at KA
  replace KA := Lib.hid KA
  have hl := h2.len
  have hA1 := hA.1
  have KL := Lib.hid (fun v w h => l02Left_c v (Fm.enc A) p w h (by omega) (at_first h2))
  have KR := Lib.hid (fun v w h => l02Right_c v (Fm.enc A) p q w h (by omega) (at_first h2) (at_second h2) hl)
  have KP := Lib.hid (fun v w h => l02Text_c p v w h (by omega))
  have KQ := Lib.hid (fun v w h => l02Text_c q v w h (by omega))
  have e1 : bs (Fm.txt p 0) = tx p := rfl
  have e2 : bs (Fm.txt q 0) = tx q := rfl
  unfold Says at KP KQ
  rw [e1] at KP
  rw [e2] at KQ
  clear e1 e2 hl
  go_enter Tryz.func69, Tryz.ntmps69
  go_wp2_with fail
  refine (KA.out _).mono ?_
  rintro e w1 ⟨v1, rfl, ho1, hg1⟩
  have HA1 := Lib.hid ho1.nodes
  obtain ⟨b1, o1, c1, rfl, hc1, hm1, k1⟩ := nodes_head ho1.nodes
  rw [hk] at k1
  clear ho1
  have r1 := Grew.refl w1
  have d1 := r1.drew
  have hpos := Fm.enc_pos A
  go_wp2_with fail
  refine (KL.out _ _ HA1.out).mono ?_
  rintro e w2 ⟨v2, rfl, hn2, hg2⟩
  have H2 := Lib.hid hn2
  obtain ⟨A2, c2, rfl⟩ := nodes_slice hn2
  clear hn2
  go_wp2_with fail
  refine (KP.out _ _ H2.out).mono ?_
  rintro e w3 ⟨rfl, hg3⟩
  have g13 := hg2.trans hg3
  go_wp2_with fail
  refine (KR.out _ _ (HA1.out.grew g13)).mono ?_
  rintro e w4 ⟨v4, rfl, hn4, hg4⟩
  have H4 := Lib.hid hn4
  obtain ⟨A4, c4, rfl⟩ := nodes_slice hn4
  clear hn4
  go_wp2_with fail
  refine (KQ.out _ _ H4.out).mono ?_
  rintro e w5 ⟨rfl, hg5⟩
  go_wp2_with fail
  go_ret3
  exact ⟨rfl, ((hg1.trans g13).trans hg4).trans hg5⟩

theorem l25Parts_no (k : Int) (A : Fm.Tree) (w : World) (hA : FmOk A) (hk : kindOf A ≠ k) :
    Calls Tryz.prog 69 #[.string (tx A), .int .i64 k] w fun e w' => e = .returned (.tuple #[.string ByteArray.empty, .string ByteArray.empty, .bool false]) ∧ Grew w w' := by
  have KA := fun w => l25Formula_c (tx A) w (by have := tx_size hA.1; omega)
  unfold GivesP at KA
  rw [gp_tx hA, tx_pf hA.1] at KA
  replace KA := Lib.hid KA
  have hA1 := hA.1
  have hkk : (kindOf A != k) = true := by simpa using hk
  go_enter Tryz.func69, Tryz.ntmps69
  go_wp2_with fail
  refine (KA.out _).mono ?_
  rintro e w1 ⟨v1, rfl, ho1, hg1⟩
  have HA1 := Lib.hid ho1.nodes
  obtain ⟨b1, o1, c1, rfl, hc1, hm1, k1⟩ := nodes_head ho1.nodes
  clear ho1
  have r1 := Grew.refl w1
  have d1 := r1.drew
  have hpos := Fm.enc_pos A
  generalize kindOf A = kk at *
  go_wp2_with fail
  go_ret3
  exact ⟨rfl, hg1⟩
end Go.Proofs.YtdndclfjeajhiaaGreat

/- Rows of slices of nodes of the call's own: an append of one slice. -/
namespace Go.Proofs.YtdndclfjeajhiaaGreat
open Go.RowKit
open Fm (Nd)

/-- A row of slices of the call's own. -/
def OwnV (w : World) (B : Nat) (v : Value) (us : List Value) : Prop := w.ownsRow B 83 1 v us.length us

theorem own_app {w w' : World} {B B' : Nat} {u v : Value} {xs : List Nd} {us : List Value} (h : Own w B u xs) (hv : OwnV w B' v us) (hg : w.grownBy w' v.ownBlock) : Own w' B u xs := by
  rcases hv.2 with ⟨rfl, _⟩ | ⟨g, cap, cur, rfl, _, hh, _⟩
  · exact own_grew h (by
      have hg' : w.grownBy w' none := hg
      exact ⟨hg'.os, hg'.tape, hg'.output, hg'.size, fun i hi => hg'.block i hi (by simp)⟩)
  · exact own_only h (show Only g w w' from hg) (own_ne h hh (by decide))

theorem infoSl : (Tryz.prog.info? 83).map (fun i => (i.zero, i.size, i.bytes)) = some (some (.slice none 0 0), 1, 24) := by kernel_rfl

theorem wpList_appV {ops : Array Oper} {rest : List Oper} {o : Oper} {a : Act} {Q : Exit → Act → World → Prop} {w w0 : World} (s x : Operand) (hgd : o.guard = none)
    (ho : o.op = .call { callee := .builtin .append, args := #[s, x], argTypes := #[135, 135] })
    (v : Value) (us : List Value) (hs : a.eval s = v) (hown : OwnV w w0.heap.size v us) (hg : Grew w0 w) (vx u : Value) (hx : a.eval x = vx) (hr : Rd w 1 vx 1 [u]) (h1 : u.oneCell' = true) (hn : us.length ≤ 1048576)
    (h : ∀ v' w', OwnV w' w0.heap.size v' (us ++ [u]) → Grew w0 w' → w.grownBy w' v.ownBlock → wpList Tryz.prog ops Q rest (a.put o.dst v') w') : wpList Tryz.prog ops Q (o :: rest) a w := by
  obtain ⟨i0, hi0, hz0, hz1, hz2⟩ := info_parts infoSl
  refine wpList_append_rd w hgd s x _ ho w0.heap.size 83 i0 _ 1 24 Tryz.underlying135 hi0 hz0 hz1 hz2 rfl (by omega) v us.length us hs hown vx 1 [u] hx hr (by simpa using h1) (by unfold maxLen; omega) (by omega) hg.size ?_
  intro v' w' h1 h2 h3
  refine h v' w' ?_ (hg.grown h2 fun k hk => (hown.lt k hk).1) h2
  unfold OwnV
  rw [List.length_append]
  exact h1

theorem own_one {w : World} {B : Nat} {u : Value} {xs : List Nd} (h : Own w B u xs) : u.oneCell' = true := by
  obtain ⟨A, c, rfl⟩ := nodes_slice h.nodes
  rfl
theorem rd_lit (w : World) (u : Value) (t : TypeId) : Rd (w.alloc (.cells #[u] t)) 1 (.slice (some ⟨w.heap.size, 0, none⟩) 1 1) 1 [u] := by
  refine ⟨rfl, by omega, .inr ⟨w.heap.size, 0, 1, rfl, by omega, by omega, by simp, fun j x hx => ?_⟩⟩
  have hj : j = 0 := by
    have := (List.getElem?_eq_some_iff.1 hx).1
    simp at this
    omega
  subst hj
  simp at hx
  subst hx
  simp

theorem own_empty (w : World) : OwnV (w.alloc (.cells #[] 83)) w.heap.size (.slice (some ⟨w.heap.size, 0, none⟩) 0 0) [] :=
  World.ownsRow_lit (e := 83) (size := 1) w #[] 0 (Nat.le_refl _) (by omega) rfl
end Go.Proofs.YtdndclfjeajhiaaGreat

/- A text appended to a row of strings of the call's own. -/
namespace Go.Proofs.YtdndclfjeajhiaaGreat
open Go.RowKit

/-- 'out = append(out, s)', out a row of strings of the call's own. -/
theorem wpList_appStr {ops : Array Oper} {rest : List Oper} {o : Oper} {a : Act} {Q : Exit → Act → World → Prop} {w w0 : World} (s x : Operand) (hgd : o.guard = none)
    (ho : o.op = .call { callee := .builtin .append, args := #[s, x], argTypes := #[24, 24] })
    (v : Value) (L : List ByteArray) (hs : a.eval s = v) (hown : OwnS w w0.heap.size v L) (hg : Grew w0 w) (vx : Value) (k : ByteArray) (hx : a.eval x = vx) (hr : Rd w 1 vx 1 [.string k]) (hn : L.length ≤ 1048576)
    (h : ∀ v' w', OwnS w' w0.heap.size v' (L ++ [k]) → Grew w0 w' → w.grownBy w' v.ownBlock → wpList Tryz.prog ops Q rest (a.put o.dst v') w') : wpList Tryz.prog ops Q (o :: rest) a w := by
  obtain ⟨i0, hi0, hz0, hz1, hz2⟩ := info_parts Tryz.infoStr
  refine wpList_append_rd w hgd s x _ ho w0.heap.size 9 i0 _ 1 16 Tryz.underlying24 hi0 hz0 hz1 hz2 rfl (by omega) v L.length (scells L) hs hown vx 1 [.string k] hx hr (by simp [Value.oneCell']) (by unfold maxLen; omega) (by omega) hg.size ?_
  intro v' w' h1 h2 h3
  refine h v' w' ?_ (hg.grown h2 fun k hk => (hown.lt k hk).1) h2
  unfold OwnS
  rw [List.length_append, scells_append]
  exact h1

end Go.Proofs.YtdndclfjeajhiaaGreat

/- The parts of a formula: parts, partTexts of the program. -/
namespace Go.Proofs.YtdndclfjeajhiaaGreat
open Go.RowKit

/-- A slice of two slices that read as the two parts. -/
def Two (w : World) (v : Value) (p q : Fm.Tree) : Prop := ∃ g u1 u2, v = .slice (some ⟨g, 0, none⟩) 2 2 ∧ (∀ W, Grew w W → W.cell? ⟨g, 0, none⟩ = some u1) ∧ (∀ W, Grew w W → W.cell? ⟨g, 1, none⟩ = some u2) ∧ Nodes w u1 (Fm.enc p) ∧ Nodes w u2 (Fm.enc q)

theorem parts_two (v : Value) (A p q : Fm.Tree) (w : World) (h : Nodes w v (Fm.enc A)) (hl : (Fm.enc A).length ≤ 40) (h2 : TwoF A p q) (hk : kindOf A = 2 ∨ kindOf A = 3 ∨ kindOf A = 4) :
    Calls Tryz.prog 123 #[v] w fun e w' => ∃ u, e = .returned u ∧ Two w' u p q ∧ Grew w w' := by
  have HH := Lib.hid h
  obtain ⟨b, o, c, rfl, hc, hm, k0⟩ := nodes_head h
  have K1 := Lib.hid (fun W (hW : Grew w W) => first_c _ (Fm.enc A) p W (h.grew hW) (by omega) (at_first h2))
  have K2 := Lib.hid (fun W (hW : Grew w W) => second_c _ (Fm.enc A) p q W (h.grew hW) (by omega) (at_first h2) (at_second h2))
  have KO := Lib.hid (fun w => partsOf_c (kindOf A) w)
  have ha : (Fm.arity (kindOf A) : Int) = 2 := by unfold Fm.arity; rw [if_pos hk]; rfl
  rw [ha] at KO
  have r0 := Grew.refl w
  have hpos := Fm.enc_pos A
  clear h h2 hk ha HH
  generalize kindOf A = kk at *
  generalize (Fm.enc A).length = n at *
  go_enter Tryz.func123, Tryz.ntmps123
  go_wp2_with fail
  refine (KO.out _).mono ?_
  rintro e w1 ⟨rfl, hg1⟩
  go_wp2_with fail
  refine (K1.out _ hg1).mono ?_
  rintro e w2 ⟨u1, rfl, hn1, hg2⟩
  have H1 := Lib.hid hn1
  obtain ⟨A1, c1, rfl⟩ := nodes_slice hn1
  clear hn1
  have g2 := hg1.trans hg2
  go_wp2_with fail
  refine (K2.out _ g2).mono ?_
  rintro e w3 ⟨u2, rfl, hn2, hg3⟩
  have H2 := Lib.hid hn2
  obtain ⟨A2, c2, rfl⟩ := nodes_slice hn2
  clear hn2
  go_wp2_with fail
  go_ret
  have hal := (Grew.refl w3).alloc (.cells #[.slice A1 (Fm.enc p).length c1, .slice A2 (Fm.enc q).length c2] 83)
  exact ⟨_, rfl, ⟨w3.heap.size, _, _, rfl, fun W hW => (hW.cell (by simp)).trans (by simp), fun W hW => (hW.cell (by simp)).trans (by simp), (H1.out.grew hg3).grew hal, H2.out.grew hal⟩, (g2.trans hg3).trans hal⟩

theorem parts_none (v : Value) (A : Fm.Tree) (w : World) (h : Nodes w v (Fm.enc A)) (hk : kindOf A = 0 ∨ kindOf A = 1) :
    Calls Tryz.prog 123 #[v] w fun e w' => e = .returned (.slice none 0 0) ∧ Grew w w' := by
  obtain ⟨b, o, c, rfl, hc, hm, k0⟩ := nodes_head h
  have KO := Lib.hid (fun w => partsOf_c (kindOf A) w)
  have ha : (Fm.arity (kindOf A) : Int) = 0 := by unfold Fm.arity; rw [if_neg (by omega), if_neg (by omega)]; rfl
  rw [ha] at KO
  have r0 := Grew.refl w
  have hpos := Fm.enc_pos A
  clear h hk ha
  generalize kindOf A = kk at *
  generalize (Fm.enc A).length = n at *
  go_enter Tryz.func123, Tryz.ntmps123
  go_wp2_with fail
  refine (KO.out _).mono ?_
  rintro e w1 ⟨rfl, hg1⟩
  go_wp2_with fail
  go_ret
  exact ⟨rfl, hg1⟩

theorem partTexts_none (v : Value) (A : Fm.Tree) (w : World) (h : Nodes w v (Fm.enc A)) (hk : kindOf A = 0 ∨ kindOf A = 1) :
    Calls Tryz.prog 110 #[v] w fun e w' => e = .returned (.slice none 0 0) ∧ Grew w w' := by
  have KP := Lib.hid (parts_none v A w h hk)
  obtain ⟨b, o, c, rfl, hc, hm, k0⟩ := nodes_head h
  clear h hk k0
  generalize (Fm.enc A).length = n at *
  go_enter Tryz.func110, Tryz.ntmps110
  go_wp2_with fail
  refine KP.out.mono ?_
  rintro e w1 ⟨rfl, hg1⟩
  go_wp2_with fail
  refine wp_loop_rounds 1 ?_; rw [rounds_succ]
  go_wp2_with fail
  go_ret
  exact ⟨rfl, hg1⟩

theorem partTexts_two (v : Value) (A p q : Fm.Tree) (w : World) (h : Nodes w v (Fm.enc A)) (hl : (Fm.enc A).length ≤ 40) (h2 : TwoF A p q) (hk : kindOf A = 2 ∨ kindOf A = 3 ∨ kindOf A = 4) :
    Calls Tryz.prog 110 #[v] w (GivesS w [tx p, tx q]) := by
  have KP := Lib.hid (parts_two v A p q w h hl h2 hk)
  have hlen := h2.len
  have K1 := Lib.hid (fun v w h => text0_c p v w h (by omega))
  have K2 := Lib.hid (fun v w h => text0_c q v w h (by omega))
  have e1 : bs (Fm.txt p 0) = tx p := rfl
  have e2 : bs (Fm.txt q 0) = tx q := rfl
  unfold Says at K1 K2
  rw [e1] at K1
  rw [e2] at K2
  obtain ⟨b, o, c, rfl, hc, hm, k0⟩ := nodes_head h
  clear h h2 hk k0 e1 e2 hlen
  generalize (Fm.enc A).length = n at *
  generalize tx p = sp at *
  generalize tx q = sq at *
  go_enter Tryz.func110, Tryz.ntmps110
  go_wp2_with fail
  refine KP.out.mono ?_
  rintro e w1 ⟨u, rfl, ⟨g, u1, u2, rfl, c1, c2, hn1, hn2⟩, hg1⟩
  have H1 := Lib.hid hn1
  have H2 := Lib.hid hn2
  obtain ⟨A1, d1, rfl⟩ := nodes_slice hn1
  obtain ⟨A2, d2, rfl⟩ := nodes_slice hn2
  clear hn1 hn2
  have r1 := Grew.refl w1
  have HO1 := OwnS.nil_ w1 w.heap.size
  go_wp2_with fail
  refine wp_loop_rounds 3 ?_; rw [rounds_succ]
  go_wp2_with fail
  refine (K1.out _ _ H1.out).mono ?_
  rintro e w2 ⟨rfl, hg2⟩
  have hB2 := hg1.trans hg2
  have hO2 := HO1.grew (hg2.trans ((Grew.refl w2).alloc (.cells #[.string sp] 9)))
  go_wp2_with (first | (at_builtin; refine wpList_appStr (w0 := w) _ _ rfl rfl _ [] rfl hO2 (hB2.alloc _) _ sp rfl (rd_lit _ _ _) (by simp) ?_; intro v3 w3 hown3 hg3 hgr3))
  have g13 : Grew w1 w3 := (hg2.trans ((Grew.refl w2).alloc (.cells #[.string sp] 9))).trans (by
    have hg' : (w2.alloc (.cells #[.string sp] 9)).grownBy w3 none := hgr3
    exact ⟨hg'.os, hg'.tape, hg'.output, hg'.size, fun i hi => hg'.block i hi (by simp)⟩)
  clear HO1 hO2 hgr3 hB2
  rw [rounds_succ]
  go_wp2_with fail
  refine (K2.out _ _ (H2.out.grew g13)).mono ?_
  rintro e w4 ⟨rfl, hg4⟩
  have hB4 := hg3.trans hg4
  have hO4 := hown3.grew (hg4.trans ((Grew.refl w4).alloc (.cells #[.string sq] 9)))
  go_wp2_with (first | (at_builtin; refine wpList_appStr (w0 := w) _ _ rfl rfl _ [sp] rfl hO4 (hB4.alloc _) _ sq rfl (rd_lit _ _ _) (by simp) ?_; intro v5 w5 hown5 hg5 hgr5))
  rw [rounds_succ]
  go_wp2_with fail
  go_ret
  exact ⟨_, rfl, hown5, hg5⟩
end Go.Proofs.YtdndclfjeajhiaaGreat

/- The parts of a formula by their texts: parts, partTexts, partsWith of the program. -/
namespace Go.Proofs.YtdndclfjeajhiaaGreat
open Go.RowKit

/-- What partsWith gives. -/
theorem partsWith_two (k : Int) (A p q : Fm.Tree) (w : World) (hA : FmOk A) (h2 : TwoF A p q) (hk : kindOf A = 2 ∨ kindOf A = 3 ∨ kindOf A = 4) :
    Calls Tryz.prog 92 #[.string (tx A), .int .i64 k] w fun e w' => ∃ v, e = .returned (.tuple #[v, .bool (kindOf A == k)]) ∧ OwnS w' w.heap.size v [tx p, tx q] ∧ Grew w w' := by
  have hA1 := hA.1
  have KA := fun w => parsed_c (tx A) w (by have := tx_size hA1; omega)
  rw [tx_pf hA1] at KA
  replace KA := Lib.hid KA
  have KP := Lib.hid (fun v w h => partTexts_two v A p q w h hA1 h2 hk)
  have hpos := Fm.enc_pos A
  clear h2 hk
  go_enter Tryz.func92, Tryz.ntmps92
  go_wp2_with fail
  refine (KA.out _).mono ?_
  rintro e w1 ⟨v1, rfl, ho1, hg1, _⟩
  have HA1 := Lib.hid ho1.nodes
  obtain ⟨b1, o1, c1, rfl, hc1, hm1, k1⟩ := nodes_head ho1.nodes
  clear ho1
  have r1 := Grew.refl w1
  have d1 := r1.drew
  have hz : 0 < (Fm.enc A).length := by omega
  have hz2 : (0 : Int) < ((Fm.enc A).length : Int) := by omega
  have HA2 := Lib.hid (HA1.out.grew d1)
  go_wp2_with fail
  go_region_held3 (fun w' => Grew w1 w') (with_reducible assumption)
    (first | (go_at_call 110; refine (KP.out _ _ HA2.out).mono ?_; rintro e w2 ⟨v2, rfl, ho2, hg2⟩; have hk2 := d1.trans hg2))
  go_wp2_with fail
  go_ret2
  exact ⟨_, rfl, ho2.base (hg1.trans d1).size, hg1.trans hk2⟩
theorem partsWith_none (k : Int) (A : Fm.Tree) (w : World) (hA : FmOk A) (hk : kindOf A = 0 ∨ kindOf A = 1) :
    Calls Tryz.prog 92 #[.string (tx A), .int .i64 k] w fun e w' => e = .returned (.tuple #[.slice none 0 0, .bool (kindOf A == k)]) ∧ Grew w w' := by
  have hA1 := hA.1
  have KA := fun w => parsed_c (tx A) w (by have := tx_size hA1; omega)
  rw [tx_pf hA1] at KA
  replace KA := Lib.hid KA
  have KP := Lib.hid (fun v w h => partTexts_none v A w h hk)
  have hpos := Fm.enc_pos A
  clear hk
  go_enter Tryz.func92, Tryz.ntmps92
  go_wp2_with fail
  refine (KA.out _).mono ?_
  rintro e w1 ⟨v1, rfl, ho1, hg1, _⟩
  have HA1 := Lib.hid ho1.nodes
  obtain ⟨b1, o1, c1, rfl, hc1, hm1, k1⟩ := nodes_head ho1.nodes
  clear ho1
  have r1 := Grew.refl w1
  have d1 := r1.drew
  have hz : 0 < (Fm.enc A).length := by omega
  have hz2 : (0 : Int) < ((Fm.enc A).length : Int) := by omega
  have HA2 := Lib.hid (HA1.out.grew d1)
  go_wp2_with fail
  go_region_held3 (fun w' => Grew w1 w') (with_reducible assumption)
    (first | (go_at_call 110; refine (KP.out _ _ HA2.out).mono ?_; rintro e w2 ⟨rfl, hg2⟩; have hk2 := d1.trans hg2))
  go_wp2_with fail
  go_ret2
  exact ⟨rfl, hg1.trans hk2⟩
end Go.Proofs.YtdndclfjeajhiaaGreat

/- Assumption lists with one more: slices.Clip and behind of the program, l11Copy and l25With of the reference. -/
namespace Go.Proofs.YtdndclfjeajhiaaGreat
open Go.RowKit

/-- 'out = append(out, list...)', out a row of strings of the call's own. -/
theorem wpList_appStrs {ops : Array Oper} {rest : List Oper} {o : Oper} {a : Act} {Q : Exit → Act → World → Prop} {w w0 : World} (s x : Operand) (hgd : o.guard = none)
    (ho : o.op = .call { callee := .builtin .append, args := #[s, x], argTypes := #[24, 24] })
    (v : Value) (L : List ByteArray) (hs : a.eval s = v) (hown : OwnS w w0.heap.size v L) (hg : Grew w0 w) (vx : Value) (M : List ByteArray) (hx : a.eval x = vx) (hr : Strs w vx M) (hn : L.length + M.length ≤ 1048576)
    (h : ∀ v' w', OwnS w' w0.heap.size v' (L ++ M) → Grew w0 w' → w.grownBy w' v.ownBlock → wpList Tryz.prog ops Q rest (a.put o.dst v') w') : wpList Tryz.prog ops Q (o :: rest) a w := by
  obtain ⟨i0, hi0, hz0, hz1, hz2⟩ := info_parts Tryz.infoStr
  refine wpList_append_rd w hgd s x _ ho w0.heap.size 9 i0 _ 1 16 Tryz.underlying24 hi0 hz0 hz1 hz2 rfl (by omega) v L.length (scells L) hs hown vx M.length (scells M) hx hr (scells_one M) (by unfold maxLen; omega) (by omega) hg.size ?_
  intro v' w' h1 h2 h3
  refine h v' w' ?_ (hg.grown h2 fun k hk => (hown.lt k hk).1) h2
  unfold OwnS
  rw [List.length_append, scells_append]
  exact h1
theorem own_emptyS (w : World) : OwnS (w.alloc (.cells #[] 9)) w.heap.size (.slice (some ⟨w.heap.size, 0, none⟩) 0 0) [] :=
  World.ownsRow_lit (e := 9) (size := 1) w #[] 0 (Nat.le_refl _) (by omega) rfl

theorem l11Copy_c (v : Value) (L : List ByteArray) (w : World) (h : Strs w v L) (hn : L.length ≤ 1000) :
    Calls Tryz.prog 102 #[v] w (GivesS w L) := by
  have he := own_emptyS w
  have hg0 := (Grew.refl w).alloc (.cells #[] 9)
  have HV := Lib.hid (h.grew hg0)
  obtain ⟨A, c, rfl⟩ := strs_slice h
  clear h
  go_enter Tryz.func102, Tryz.ntmps102
  go_wp2_with (first | (at_builtin; refine wpList_appStrs (w0 := w) _ _ rfl rfl _ [] rfl he hg0 _ L rfl HV.out (by simp; omega) ?_; intro v1 w1 hown1 hg1 hgr1))
  go_ret
  exact ⟨_, rfl, by simpa using hown1, hg1⟩

theorem l25With_c (v u : Value) (L M : List ByteArray) (w : World) (h : Strs w v L) (hu : Strs w u M) (hn : L.length ≤ 1000) (hm : M.length ≤ 1000) :
    Calls Tryz.prog 78 #[v, u] w (GivesS w (L ++ M)) := by
  have KC := Lib.hid (fun W (hW : Grew w W) => l11Copy_c v L W (h.grew hW) hn)
  have HU := Lib.hid hu
  obtain ⟨A, c, rfl⟩ := strs_slice h
  obtain ⟨A2, c2, rfl⟩ := strs_slice hu
  clear h hu
  go_enter Tryz.func78, Tryz.ntmps78
  go_wp2_with fail
  refine (KC.out _ (Grew.refl w)).mono ?_
  rintro e w1 ⟨v1, rfl, ho1, hg1⟩
  have HU1 := Lib.hid (HU.out.grew hg1)
  go_wp2_with (first | (at_builtin; refine wpList_appStrs (w0 := w) _ _ rfl rfl _ L rfl ho1 hg1 _ M rfl HU1.out (by omega) ?_; intro v2 w2 hown2 hg2 hgr2))
  go_ret
  exact ⟨_, rfl, hown2, hg2⟩

theorem clip_c (A : Option Addr) (n c : Nat) (w : World) (hc : n ≤ c) (_hm : c ≤ 9223372036854775807) :
    Calls Tryz.prog 93 #[.slice A n c] w fun e w' => e = .returned (.slice A n n) ∧ Grew w w' := by
  have h0 : (0 : Int) ≤ (n : Int) := by omega
  have h1 : (n : Int) ≤ (c : Int) := by omega
  go_enter Tryz.func93, Tryz.ntmps93
  go_wp2_with fail
  go_ret
  exact ⟨rfl, Grew.refl _⟩

theorem behind_c (v : Value) (L : List ByteArray) (s : ByteArray) (w : World) (h : Strs w v L) (hn : L.length ≤ 1000) :
    Calls Tryz.prog 61 #[v, .string s] w (GivesS w (L ++ [s])) := by
  obtain ⟨i0, hi0, hz0, hz1, hz2⟩ := info_parts Tryz.infoStr
  have HI := Lib.hid (⟨hi0, hz0, hz1, hz2⟩ : _ ∧ _ ∧ _ ∧ _)
  clear hi0 hz0 hz1 hz2
  have hlit := fun w => rd_lit w (.string s) 9
  rcases h.open_ with ⟨rfl, rfl⟩ | ⟨b, o, c, rfl, hc, hm, hb, hf⟩
  · have KC := Lib.hid (fun w => clip_c none 0 0 w (by omega) (by omega))
    clear h
    have hnil := OwnS.nil_ w w.heap.size
    go_enter Tryz.func61, Tryz.ntmps61
    go_wp2_with fail
    refine (KC.out _).mono ?_
    rintro e w1 ⟨rfl, hg1⟩
    have ho1 := hnil.grew (hg1.trans ((Grew.refl w1).alloc (.cells #[.string s] 9)))
    go_wp2_with (first | (at_builtin; refine wpList_appStr (w0 := w) _ _ rfl rfl _ [] rfl ho1 (hg1.alloc _) _ s rfl (rd_lit _ _ _) (by simp) ?_; intro v2 w2 hown2 hg2 hgr2))
    go_ret
    exact ⟨_, rfl, hown2, hg2⟩
  · have KC := Lib.hid (fun w => clip_c (some ⟨b, o, none⟩) L.length c w hc hm)
    have HF := Lib.hid hf
    clear h hf
    go_enter Tryz.func61, Tryz.ntmps61
    go_wp2_with fail
    refine (KC.out _).mono ?_
    rintro e w1 ⟨rfl, hg1⟩
    have hga := hg1.alloc (.cells #[.string s] 9)
    have hlen : (scells L).length = L.length := by simp [scells]
    go_wp2_with (first | (at_builtin; refine wpList_append_grows _ rfl _ _ _ rfl 9 i0 _ 1 16 Tryz.underlying24 HI.out.1 HI.out.2.1 HI.out.2.2.1 HI.out.2.2.2 rfl (by omega) (some ⟨b, o, none⟩) L.length L.length (scells L) rfl (by intro h; cases h) (by omega) ?_ ⟨w1.heap.size, 0, none⟩ 1 1 [.string s] rfl rfl ?_ (by simp [Value.oneCell']) (by omega) (by unfold maxLen; omega) (by omega) ?_))
    · intro bb hbb j u hj
      cases hbb
      have hjl : j < L.length := by
        have := (List.getElem?_eq_some_iff.1 hj).1
        omega
      rw [scells_at hjl] at hj
      cases hj
      rw [Addr.add_lit]
      exact HF.out j hjl _ hga
    · intro j u hj
      have hj0 : j = 0 := by
        have := (List.getElem?_eq_some_iff.1 hj).1
        simp at this
        omega
      subst hj0
      simp at hj
      subst hj
      rw [Addr.add_lit]
      simp
    · intro v2 w2 hown2 hgr2
      have hg2 : Grew (w1.alloc (.cells #[.string s] 9)) w2 := ⟨hgr2.os, hgr2.tape, hgr2.output, hgr2.size, fun i hi => hgr2.block i hi (by simp)⟩
      have hown3 : OwnS w2 (w1.heap.size + 1) v2 (L ++ [s]) := by
        unfold OwnS
        rw [List.length_append, scells_append]
        exact hown2
      have hown4 := hown3.base (Nat.le_trans hg1.size (Nat.le_succ _))
      have hg3 := hga.trans hg2
      clear hown2 hgr2 hown3
      go_wp2_with fail
      go_ret
      exact ⟨_, rfl, hown4, hg3⟩
end Go.Proofs.YtdndclfjeajhiaaGreat

/- The parts of a formula in the reference. -/
namespace Go.Proofs.YtdndclfjeajhiaaGreat
open Go.RowKit
open Fm (Nd Tree)

theorem left_t {A x y : Tree} (h2 : TwoF A x y) (hA : FmOk A) (v : Value) (w : World) (h : Nodes w v (Fm.enc A)) : Calls Tryz.prog 81 #[v] w (Cuts w (Fm.enc x)) :=
  l02Left_c v (Fm.enc A) x w h (by have := hA.1; omega) (at_first h2)
theorem right_t {A x y : Tree} (h2 : TwoF A x y) (hA : FmOk A) (v : Value) (w : World) (h : Nodes w v (Fm.enc A)) : Calls Tryz.prog 82 #[v] w (Cuts w (Fm.enc y)) :=
  l02Right_c v (Fm.enc A) x y w h (by have := hA.1; omega) (at_first h2) (at_second h2) h2.len
theorem two_and (x y : Tree) : TwoF (.and x y) x y := rfl
theorem two_or (x y : Tree) : TwoF (.or x y) x y := rfl
theorem two_imp (x y : Tree) : TwoF (.imp x y) x y := rfl
/-- A head's cell. -/
theorem head_t {w : World} {v : Value} {t : Tree} (h : Nodes w v (Fm.enc t)) : ∃ b o n c, v = .slice (some ⟨b, o, none⟩) n c ∧ 0 < n ∧ n = (Fm.enc t).length ∧ ∀ W, Grew w W → W.cell? ⟨b, o, none⟩ = some (.int .i64 (kindOf t)) := by
  obtain ⟨b, o, c, h1, _, _, h4⟩ := nodes_head h
  exact ⟨b, o, _, c, h1, Fm.enc_pos t, rfl, h4⟩

end Go.Proofs.YtdndclfjeajhiaaGreat

/- The drawn formula: l02Draw gives a tree of at most as many nodes as told. -/
namespace Go.Proofs.YtdndclfjeajhiaaGreat
open Go.RowKit
open Fm (Nd)

theorem isEnc_vari {r : Int} (h0 : 0 ≤ r) (h1 : r < 6) : Fm.IsEnc (Fm.vari r) :=
  ⟨.var ⟨r.toNat, by omega⟩, by simp [Fm.vari, Fm.enc, Int.toNat_of_nonneg h0]⟩

/-- What the draw gives. -/
def Drawn (w : World) (g : Nat) (cv : Value) (N : Nat) (size : Int) (e : Ending) (w' : World) : Prop :=
  ∃ v xs, e = .returned v ∧ Own w' w.heap.size v xs ∧ Fm.IsEnc xs ∧ (xs.length : Int) ≤ size ∧ Src w' g cv N ∧ Only g w w'

theorem own_src {w w' : World} {B g : Nat} {v : Value} {xs : List Nd} (h : Own w B v xs) (hg : g < B) (ho : Only g w w') : Own w' B v xs :=
  own_only h ho (fun he => by have := own_of_ge h he; omega)

end Go.Proofs.YtdndclfjeajhiaaGreat

/- The tail of a list of nodes. -/
namespace Go.Proofs.YtdndclfjeajhiaaGreat
open Go.RowKit
open Fm (Nd)

theorem nodes_tail {w : World} {b o n c : Nat} {xs : List Nd} (h : Nodes w (.slice (some ⟨b, o, none⟩) n c) xs) (i : Nat) (hi : i ≤ n) (hn : n ≤ c) (hx : xs.length = n) : Nodes w (.slice (if c = i then some ⟨b, o, none⟩ else some ⟨b, o + i * 2, none⟩) (n - i) (c - i)) (xs.drop i) := by
  obtain ⟨h1, h2, h3⟩ := h
  have hl : (xs.drop i).length = n - i := by rw [List.length_drop]; omega
  unfold Nodes
  rw [hl]
  refine ⟨by rw [cells_length, hl], by omega, ?_⟩
  rcases h3 with ⟨h4, _⟩ | ⟨b', o', c', h4, h5, h6, h7, h8⟩
  · cases h4
  · obtain ⟨⟨rfl, rfl⟩, _, rfl⟩ : (b = b' ∧ o = o') ∧ n = xs.length ∧ c = c' := by simpa using h4
    refine .inr ⟨b, if c = i then o else o + i * 2, c - i, by split <;> rfl, by omega, by omega, h7, fun j u hu => ?_⟩
    have hj : j < (cells (xs.drop i)).length := (List.getElem?_eq_some_iff.1 hu).1
    rw [cells_length, hl] at hj
    rw [if_neg (by omega)]
    have e : cells xs = cells (xs.take i) ++ cells (xs.drop i) := by rw [← cells_append, List.take_append_drop]
    have hk : (cells (xs.take i)).length = i * 2 := by rw [cells_length, List.length_take]; congr 1; omega
    have := h8 (i * 2 + j) u (by rw [e, List.getElem?_append_right (by omega), hk]; simpa using hu)
    rw [Nat.add_assoc]
    exact this

end Go.Proofs.YtdndclfjeajhiaaGreat

/- A copy: l02Own of the reference. -/
namespace Go.Proofs.YtdndclfjeajhiaaGreat
open Go.RowKit
open Fm (Nd)

end Go.Proofs.YtdndclfjeajhiaaGreat

/- Drawn lists of nodes: l01Pick, l02Bend, l02Any give an own row of nodes that isn't long; what it holds does not matter. -/
namespace Go.Proofs.YtdndclfjeajhiaaGreat
open Go.RowKit
open Fm (Nd)

theorem l01Pick_c (g : Nat) (cv : Value) (N : Nat) (b : Nat) (w : World) (h : Src w g cv N) (hb : b < w.heap.size) (hne : b ≠ g) (hc : ∀ j, j < 5 → ∃ x : Int, w.cell? ⟨b, j, none⟩ = some (.int .i64 x)) :
    Calls Tryz.prog 51 #[.pointer (some ⟨g, 0, none⟩), .slice (some ⟨b, 0, none⟩) 5 5] w fun e w' => ∃ r : Int, e = .returned (.int .i64 r) ∧ Src w' g cv N ∧ Only g w w' := by
  have HS := Lib.hid h
  have HC := Lib.hid hc
  clear h hc
  go_enter Tryz.func51, Tryz.ntmps51
  go_wp2_with fail
  refine (l01Next_c g cv N 5 _ HS.out (by omega)).mono ?_
  rintro e w1 ⟨r, rfl, hr0, hr1, _, hS1, ho1⟩
  have hr2 := hr1 (by omega)
  obtain ⟨k, rfl⟩ : ∃ k : Nat, r = (k : Int) := ⟨r.toNat, by omega⟩
  obtain ⟨x, hx⟩ := HC.out k (by omega)
  have hx1 := (ho1.cell (p := ⟨b, k, none⟩) hb hne).trans hx
  have HS1 := Lib.hid hS1
  clear hx hS1 hr1
  go_wp2_with fail
  go_ret
  exact ⟨_, rfl, HS1.out, ho1⟩

/-- Stores into an own row. -/
theorem cells_set0 {cur : Array Value} {xs : List Nd} {k : Nat} {a : Int} (hk : k < xs.length) (hs : xs.length * 2 ≤ cur.size)
    (h : ∀ i, i < xs.length → cur[i * 2]? = some (.int .i64 (kd xs i)) ∧ cur[i * 2 + 1]? = some (.int .i64 (sy xs i))) :
    ∀ i, i < (xs.set k (a, sy xs k)).length → (cur.setIfInBounds (k * 2) (.int .i64 a))[i * 2]? = some (.int .i64 (kd (xs.set k (a, sy xs k)) i)) ∧ (cur.setIfInBounds (k * 2) (.int .i64 a))[i * 2 + 1]? = some (.int .i64 (sy (xs.set k (a, sy xs k)) i)) := by
  intro i hi
  rw [List.length_set] at hi
  obtain ⟨h1, h2⟩ := h i hi
  simp only [Array.getElem?_setIfInBounds]
  by_cases he : k = i
  · subst he
    rw [if_pos rfl, if_pos (by omega), if_neg (by omega), h2]
    simp [kd, sy, List.getD, hk]
  · rw [if_neg (by omega), if_neg (by omega), h1, h2]
    simp [kd, sy, List.getD, he]
theorem cells_set1 {cur : Array Value} {xs : List Nd} {k : Nat} {a : Int} (hk : k < xs.length) (hs : xs.length * 2 ≤ cur.size)
    (h : ∀ i, i < xs.length → cur[i * 2]? = some (.int .i64 (kd xs i)) ∧ cur[i * 2 + 1]? = some (.int .i64 (sy xs i))) :
    ∀ i, i < (xs.set k (kd xs k, a)).length → (cur.setIfInBounds (k * 2 + 1) (.int .i64 a))[i * 2]? = some (.int .i64 (kd (xs.set k (kd xs k, a)) i)) ∧ (cur.setIfInBounds (k * 2 + 1) (.int .i64 a))[i * 2 + 1]? = some (.int .i64 (sy (xs.set k (kd xs k, a)) i)) := by
  intro i hi
  rw [List.length_set] at hi
  obtain ⟨h1, h2⟩ := h i hi
  simp only [Array.getElem?_setIfInBounds]
  by_cases he : k = i
  · subst he
    rw [if_neg (by omega), if_pos rfl, if_pos (by omega), h1]
    simp [kd, sy, List.getD, hk]
  · rw [if_neg (by omega), if_neg (by omega), h1, h2]
    simp [kd, sy, List.getD, he]

theorem step_apprdN {P : Program} (w : World) {ops : Array Oper} {o : Oper} {a : Act} {K : Act → World → Prop} {Q : Exit → Act → World → Prop} {E : Prop} (hgd : o.guard = none) (s x : Operand) (t : TypeId)
    (ho : o.op = .call { callee := .builtin .append, args := #[s, x], argTypes := #[t, t] })
    (base : Nat) (e : TypeId) (i : TypeInfo) (z : Value) (size bytes : Nat) (ht : P.underlying t = some (.slice e)) (hi : P.info? e = some i) (hz : i.zero = some z)
    (hsize : i.size = size) (hby : i.bytes = bytes) (hzs : z.cells.size = size) (hsz : 0 < size)
    (v : Value) (n : Nat) (xs : List Value) (hs : a.eval s = v) (hown : w.ownsRow base e size v n xs)
    (vx : Value) (m : Nat) (news : List Value) (hx : a.eval x = vx) (hr : Rd w size vx m news) (h1 : ∀ u ∈ news, u.oneCell' = true)
    (h63 : n + m ≤ maxLen) (hbytes : (n + m) * bytes ≤ 140737488355328) (hbase : base ≤ w.heap.size)
    (h : ∀ v' w', w'.ownsRow base e size v' (n + m) (xs ++ news) → w.grownBy w' v.ownBlock → K (a.put o.dst v') w') :
    if Region.wanted o (yielded ops a.tmps) = true then Oper.wp P o a w K Q else E := by
  have hw : Region.wanted o (yielded ops a.tmps) = true := by simp [Region.wanted, hgd]
  rw [if_pos hw]
  obtain ⟨hl, _, hr⟩ := hr
  rcases hr with ⟨rfl, rfl⟩ | ⟨b, of, c, rfl, _, _, _, hc⟩
  · have hnews : news = [] := List.eq_nil_of_length_eq_zero (by simpa using hl)
    subst hnews
    have hrun := run_append_owned_none (P := P) w base t o.type e i size ht hi v n xs hown
    unfold Oper.wp execOp
    simp only [ho, resolve, invoke, builtin, Sem.run_bind, Sem.run_pure, Result.andThen_ok, List.map_toArray, List.map_cons, List.map_nil, hs, hx, hrun]
    exact h v w (by simpa using hown) (World.grownBy.refl _ _)
  · obtain ⟨v', w', hrun, h2, h3, _, _⟩ := run_append_own_at (P := P) w base t o.type e i z size bytes ht hi hz hsize hby hzs hsz v n xs hown ⟨b, of, none⟩ m c news hl (fun j u hu => by rw [Addr.add_lit]; exact hc j u hu) h1 h63 hbytes hbase
    unfold Oper.wp execOp
    simp only [ho, resolve, invoke, builtin, Sem.run_bind, Sem.run_pure, Result.andThen_ok, List.map_toArray, List.map_cons, List.map_nil, hs, hx, hrun]
    exact h v' w' h2 h3
/-- 'append(out, xs...)' as one step of a region, out an own row of nodes from block B on. -/
theorem step_appN {ops : Array Oper} {o : Oper} {a : Act} {K : Act → World → Prop} {Q : Exit → Act → World → Prop} {E : Prop} {w : World} (B : Nat) (hgd : o.guard = none) (s x : Operand)
    (ho : o.op = .call { callee := .builtin .append, args := #[s, x], argTypes := #[83, 83] })
    (v : Value) (xs : List Nd) (hs : a.eval s = v) (hown : Own w B v xs) (hB : B ≤ w.heap.size) (vx : Value) (ys : List Nd) (hx : a.eval x = vx) (hr : Nodes w vx ys) (hn : xs.length + ys.length ≤ 1099511627776)
    (h : ∀ v' w', Own w' B v' (xs ++ ys) → w.grownBy w' v.ownBlock → K (a.put o.dst v') w') : if Region.wanted o (yielded ops a.tmps) = true then Oper.wp Tryz.prog o a w K Q else E := by
  obtain ⟨i0, hi0, hz0, hz1, hz2⟩ := info_parts Tryz.infoNd
  refine step_apprdN w hgd s x _ ho B 101 i0 _ 2 16 Tryz.underlying83 hi0 hz0 hz1 hz2 rfl (by omega) v xs.length (cells xs) hs hown vx ys.length (cells ys) hx hr (cells_one ys) (big2 hn).1 (big2 hn).2 hB ?_
  intro v' w' h1 h2
  refine h v' w' ?_ h2
  unfold Own
  rw [cells_append, List.length_append]
  exact h1
theorem wpList_appN {ops : Array Oper} {rest : List Oper} {o : Oper} {a : Act} {Q : Exit → Act → World → Prop} {w : World} (B : Nat) (s x : Operand) (hgd : o.guard = none)
    (ho : o.op = .call { callee := .builtin .append, args := #[s, x], argTypes := #[83, 83] })
    (v : Value) (xs : List Nd) (hs : a.eval s = v) (hown : Own w B v xs) (hB : B ≤ w.heap.size) (vx : Value) (ys : List Nd) (hx : a.eval x = vx) (hr : Nodes w vx ys) (hn : xs.length + ys.length ≤ 1099511627776)
    (h : ∀ v' w', Own w' B v' (xs ++ ys) → w.grownBy w' v.ownBlock → wpList Tryz.prog ops Q rest (a.put o.dst v') w') : wpList Tryz.prog ops Q (o :: rest) a w := by
  obtain ⟨i0, hi0, hz0, hz1, hz2⟩ := info_parts Tryz.infoNd
  refine wpList_append_rd w hgd s x _ ho B 101 i0 _ 2 16 Tryz.underlying83 hi0 hz0 hz1 hz2 rfl (by omega) v xs.length (cells xs) hs hown vx ys.length (cells ys) hx hr (cells_one ys) (big2 hn).1 (big2 hn).2 hB ?_
  intro v' w' h1 h2 _
  refine h v' w' ?_ h2
  unfold Own
  rw [cells_append, List.length_append]
  exact h1
theorem Src.other {w w' : World} {g gb : Nat} {v : Value} {N : Nat} (h : Src w g v N) (ho : Only gb w w') (hgb : g < gb) : Src w' g v N := by
  have hl := h.lt
  obtain ⟨⟨h1, h2, h3⟩, i, x, h4, h5, h6, h7⟩ := h
  refine ⟨⟨h1, h2, fun hp => ?_⟩, i, x, h4, h5, h6, (ho.block hl (by omega)).trans h7⟩
  obtain ⟨b, o, c, e, hb, hc, hm, hx⟩ := h3 hp
  refine ⟨b, o, c, e, hb, hc, hm, fun j hj => ?_⟩
  obtain ⟨y, y0, y1, hcell⟩ := hx j hj
  exact ⟨y, y0, y1, (ho.cell (p := ⟨b, o + j, none⟩) (by show b < _; omega) (by show b ≠ gb; omega)).trans hcell⟩
theorem Only.newer {g gb : Nat} {a b c : World} (h : Only g a b) (k : Only gb b c) (hgb : a.heap.size ≤ gb) : Only g a c :=
  ⟨k.os.trans h.os, k.tape.trans h.tape, k.output.trans h.output, Nat.le_trans h.size k.size, fun i hi hne => (k.block (Nat.lt_of_lt_of_le hi h.size) (by omega)).trans (World.grownBy.block h i hi hne)⟩

theorem Src.other2 {w w' : World} {g : Nat} {v : Value} {N : Nat} {r : Option Nat} (h : Src w g v N) (ho : w.grownBy w' r) (hr : ∀ b, r = some b → g < b) : Src w' g v N := by
  cases r with
  | none => exact h.other (gb := w.heap.size) ⟨ho.os, ho.tape, ho.output, ho.size, fun i hi _ => ho.block i hi (by simp)⟩ h.lt
  | some b => exact h.other (gb := b) ho (hr b rfl)
theorem Only.newer2 {g : Nat} {a b c : World} {r : Option Nat} (h : Only g a b) (ho : b.grownBy c r) (hr : ∀ k, r = some k → a.heap.size ≤ k) : Only g a c := by
  cases r with
  | none => exact h.newer (gb := b.heap.size) ⟨ho.os, ho.tape, ho.output, ho.size, fun i hi _ => ho.block i hi (by simp)⟩ h.size
  | some k => exact h.newer (gb := k) ho (hr k rfl)

/-- What the bending gives: an own row of at most as many nodes as told. -/
def Bent (w : World) (g : Nat) (cv : Value) (N : Nat) (n : Nat) (e : Ending) (w' : World) : Prop :=
  ∃ v xs, e = .returned v ∧ Own w' w.heap.size v xs ∧ xs.length ≤ n ∧ Src w' g cv N ∧ Only g w w'

theorem isEnc_pos {xs : List Nd} (h : Fm.IsEnc xs) : 0 < xs.length := by
  obtain ⟨t, rfl⟩ := h
  cases t <;> simp [Fm.enc]

def slen : Value → Nat
  | .slice _ n _ => n
  | _ => 0

end Go.Proofs.YtdndclfjeajhiaaGreat

/- Strings that are not larger than memory. -/
namespace Go.Proofs.YtdndclfjeajhiaaGreat
open Go.RowKit

/-- No text of the list is long. -/
def Fits (L : List ByteArray) : Prop := ∀ i, i < L.length → (st L i).size ≤ 1048576
end Go.Proofs.YtdndclfjeajhiaaGreat

/- The drawn term: l26Of of the reference (printed by gen/srd.py). -/
namespace Go.Proofs.YtdndclfjeajhiaaGreat
open Go.RowKit
open Fm (Tree)

def TDrawn (w : World) (g : Nat) (cv : Value) (N : Nat) (n : Nat) (e : Ending) (w' : World) : Prop := ∃ v, e = .returned v ∧ PT w' w.heap.size v n ∧ Src w' g cv N ∧ Only g w w'
/-- The assumptions: an own row, newer than the source. -/
def CtxS (w : World) (g : Nat) (v : Value) (n : Nat) : Prop := ∃ L, OwnS w (g + 1) v L ∧ Fits L ∧ 0 < L.length ∧ L.length ≤ n
theorem CtxS.grew {w w' : World} {g n : Nat} {v : Value} (h : CtxS w g v n) (hg : Grew w w') : CtxS w' g v n := by
  obtain ⟨L, a, b, c, d⟩ := h; exact ⟨L, a.grew hg, b, c, d⟩
theorem ownS_of_ge {w : World} {B : Nat} {v : Value} {L : List ByteArray} (h : OwnS w B v L) {g : Nat} (he : v.ownBlock = some g) : B ≤ g := by
  obtain ⟨_, h2⟩ := h
  rcases h2 with ⟨rfl, _⟩ | ⟨b, c, cur, rfl, hB, _⟩
  · cases he
  · cases he; exact hB
theorem OwnS.src {w w' : World} {B g : Nat} {v : Value} {L : List ByteArray} (h : OwnS w B v L) (hg : g < B) (ho : Only g w w') : OwnS w' B v L :=
  own_only h ho (fun he => by have := ownS_of_ge h he; omega)
theorem CtxS.src {w w' : World} {g n : Nat} {v : Value} (h : CtxS w g v n) (ho : Only g w w') : CtxS w' g v n := by
  obtain ⟨L, a, b, c, d⟩ := h; exact ⟨L, a.src (by omega) ho, b, c, d⟩
theorem CtxS.le {w : World} {g n m : Nat} {v : Value} (h : CtxS w g v n) (hm : n ≤ m) : CtxS w g v m := by
  obtain ⟨L, a, b, c, d⟩ := h; exact ⟨L, a, b, c, by omega⟩
theorem CtxS.slice {w : World} {g n : Nat} {v : Value} (h : CtxS w g v n) : ∃ A m c, v = .slice A m c ∧ 0 < m ∧ m ≤ n := by
  obtain ⟨L, a, b, h1, h2⟩ := h
  obtain ⟨A, c, rfl⟩ := strs_slice a.strs
  exact ⟨_, _, _, rfl, h1, h2⟩
theorem fits_snoc {L : List ByteArray} {s : ByteArray} (h : Fits L) (hs : s.size ≤ 1048576) : Fits (L ++ [s]) := by
  intro i hi
  by_cases hl : i < L.length
  · have := h i hl
    simpa [st, List.getD, List.getElem?_append_left hl] using this
  · have : i = L.length := by simp at hi; omega
    subst this
    simpa [st, List.getD] using hs
theorem with_ctx {w : World} {g n : Nat} (v u : Value) (s : ByteArray) (h : CtxS w g v n) (hn : n ≤ 100) (hg : g < w.heap.size) (hs : s.size ≤ 1048576) (hu : Strs w u [s]) :
    Calls Tryz.prog 78 #[v, u] w fun e w' => ∃ v', e = .returned v' ∧ CtxS w' g v' (n + 1) ∧ Grew w w' := by
  obtain ⟨L, a, b, c, d⟩ := h
  refine (l25With_c v u L [s] w a.strs hu (by omega) (by simp)).mono ?_
  rintro e w1 ⟨v1, rfl, ho, hg1⟩
  exact ⟨v1, rfl, ⟨_, ho.base (by omega), fits_snoc b hs, by simp, by simp; omega⟩, hg1⟩

def OfOk (g : Nat) (cv : Value) (N : Nat) (s : ByteArray) (dep : Int) (m : Nat) : Prop := ∀ W v, Src W g cv N → CtxS W g v 12 →
  Calls Tryz.prog 50 #[.pointer (some ⟨g, 0, none⟩), v, .string s, .int .i64 dep] W (TDrawn W g cv N m)
def GoalOk (s : ByteArray) : Prop := ∃ A, FmOk A ∧ s = tx A

theorem says_w (v : Value) (L : List ByteArray) (s : ByteArray) (w : World) (h : Strs w v L) :
    Calls Tryz.prog 83 #[v, .string s] w fun e w' => ∃ q : Bool, e = .returned (.bool q) ∧ Grew w w' := by
  rcases h.open_ with ⟨rfl, rfl⟩ | ⟨b, o, c, rfl, hc, hm, hb, hcell⟩
  · clear h
    go_enter Tryz.func83, Tryz.ntmps83
    go_wp2_with fail
    refine wp_loop_rounds 1 ?_; rw [rounds_succ]
    go_wp2_with fail
    go_ret
    exact ⟨_, rfl, Grew.refl _⟩
  have HC := Lib.hid hcell
  clear h hcell
  generalize hN : L.length = n at *
  clear hN
  go_enter Tryz.func83, Tryz.ntmps83
  go_wp2_with fail
  go_loopw [5] (fun i wr => ∃ j : Nat, j ≤ n ∧ i = .int .i64 j ∧ Grew w wr) (fun i _ => n - (intOf i).toNat)
  case atStart => exact ⟨0, Nat.zero_le _, rfl, Grew.refl _⟩
  case round =>
    obtain ⟨j, hj, rfl, hB⟩ := hrel
    by_cases hlt : j < n
    · have k1 := HC.out j hlt _ hB
      generalize st L j = x at *
      go_wp2_with fail
      · go_ret
        exact ⟨_, rfl, hB⟩
      · go_roundw
        case rel => exact ⟨j + 1, by omega, by go_num, hB⟩
        case measure => simp [intOf]; omega
    · go_wp2_with fail
      go_ret
      exact ⟨_, rfl, hB⟩

/-- Joins of one, two and three. -/
theorem join1 (k : Int) (t : ByteArray) (ht : t.size ≤ 1048576) (b : Nat) (v1 : Value) (B1 n1 : Nat) (w : World) (hb : b < w.heap.size) (c1 : w.cell? ⟨b, 0, none⟩ = some v1) (p1 : PT w B1 v1 n1) (hn1 : n1 ≤ 1000000) :
    Calls Tryz.prog 77 #[.int .i64 k, .string t, .slice (some ⟨b, 0, none⟩) 1 1] w fun e w' => ∃ v, e = .returned v ∧ PT w' w.heap.size v (1 + n1) ∧ Grew w w' := by
  obtain ⟨x1, a1, f1, _, l1⟩ := p1
  refine (l26Join_c k t ht b 1 (by omega) [(v1, x1)] rfl w hb ?_).mono ?_
  · intro j h
    obtain rfl : j = 0 := by simpa using h
    exact ⟨c1, a1.tms, f1, by show x1.length ≤ _; omega⟩
  · rintro e w1 ⟨v, rfl, hp, hg⟩
    exact ⟨v, rfl, hp.le (by simp; omega), hg⟩
theorem join2 (k : Int) (t : ByteArray) (ht : t.size ≤ 1048576) (b : Nat) (v1 v2 : Value) (B1 B2 n1 n2 : Nat) (w : World) (hb : b < w.heap.size) (c1 : w.cell? ⟨b, 0, none⟩ = some v1) (c2 : w.cell? ⟨b, 1, none⟩ = some v2) (p1 : PT w B1 v1 n1) (p2 : PT w B2 v2 n2) (hn1 : n1 ≤ 1000000) (hn2 : n2 ≤ 1000000) :
    Calls Tryz.prog 77 #[.int .i64 k, .string t, .slice (some ⟨b, 0, none⟩) 2 2] w fun e w' => ∃ v, e = .returned v ∧ PT w' w.heap.size v (1 + n1 + n2) ∧ Grew w w' := by
  obtain ⟨x1, a1, f1, _, l1⟩ := p1
  obtain ⟨x2, a2, f2, _, l2⟩ := p2
  refine (l26Join_c k t ht b 2 (by omega) [(v1, x1), (v2, x2)] rfl w hb ?_).mono ?_
  · intro j h
    have h' : j = 0 ∨ j = 1 := by simp at h; omega
    rcases h' with rfl | rfl
    · exact ⟨c1, a1.tms, f1, by show x1.length ≤ _; omega⟩
    · exact ⟨c2, a2.tms, f2, by show x2.length ≤ _; omega⟩
  · rintro e w1 ⟨v, rfl, hp, hg⟩
    exact ⟨v, rfl, hp.le (by simp; omega), hg⟩
theorem join3 (k : Int) (t : ByteArray) (ht : t.size ≤ 1048576) (b : Nat) (v1 v2 v3 : Value) (B1 B2 B3 n1 n2 n3 : Nat) (w : World) (hb : b < w.heap.size) (c1 : w.cell? ⟨b, 0, none⟩ = some v1) (c2 : w.cell? ⟨b, 1, none⟩ = some v2) (c3 : w.cell? ⟨b, 2, none⟩ = some v3) (p1 : PT w B1 v1 n1) (p2 : PT w B2 v2 n2) (p3 : PT w B3 v3 n3) (hn1 : n1 ≤ 1000000) (hn2 : n2 ≤ 1000000) (hn3 : n3 ≤ 1000000) :
    Calls Tryz.prog 77 #[.int .i64 k, .string t, .slice (some ⟨b, 0, none⟩) 3 3] w fun e w' => ∃ v, e = .returned v ∧ PT w' w.heap.size v (1 + n1 + n2 + n3) ∧ Grew w w' := by
  obtain ⟨x1, a1, f1, _, l1⟩ := p1
  obtain ⟨x2, a2, f2, _, l2⟩ := p2
  obtain ⟨x3, a3, f3, _, l3⟩ := p3
  refine (l26Join_c k t ht b 3 (by omega) [(v1, x1), (v2, x2), (v3, x3)] rfl w hb ?_).mono ?_
  · intro j h
    have h' : j = 0 ∨ j = 1 ∨ j = 2 := by simp at h; omega
    rcases h' with rfl | rfl | rfl
    · exact ⟨c1, a1.tms, f1, by show x1.length ≤ _; omega⟩
    · exact ⟨c2, a2.tms, f2, by show x2.length ≤ _; omega⟩
    · exact ⟨c3, a3.tms, f3, by show x3.length ≤ _; omega⟩
  · rintro e w1 ⟨v, rfl, hp, hg⟩
    exact ⟨v, rfl, hp.le (by simp; omega), hg⟩

theorem lit1 (w : World) (s : ByteArray) : Strs (w.alloc (.cells #[.string s] 9)) (.slice (some ⟨w.heap.size, 0, none⟩) 1 1) [s] :=
  (OwnS.lit w w.heap.size [s] #[.string s] (Nat.le_refl _) (by simp) rfl).strs
theorem fmv (i : Fin 6) : FmOk (.var i) := ⟨by simp [Fm.enc], anyP_mem.2 fun x hx => by
  simp only [Fm.enc, List.mem_singleton] at hx
  rw [hx]
  rfl⟩
theorem fmi {a b : Tree} (ha : FmOk a) (hb : FmOk b) (h : (Fm.enc (.imp a b)).length ≤ 40) : FmOk (.imp a b) := FmOk.join (k := 4) rfl (by decide) ha hb h
theorem fma {a b : Tree} (ha : FmOk a) (hb : FmOk b) (h : (Fm.enc (.and a b)).length ≤ 40) : FmOk (.and a b) := FmOk.join (k := 2) rfl (by decide) ha hb h
theorem fmo {a b : Tree} (ha : FmOk a) (hb : FmOk b) (h : (Fm.enc (.or a b)).length ≤ 40) : FmOk (.or a b) := FmOk.join (k := 3) rfl (by decide) ha hb h
theorem p_ok : GoalOk ⟨#[112]⟩ := ⟨.var 0, fmv 0, rfl⟩
theorem q_ok : GoalOk ⟨#[113]⟩ := ⟨.var 1, fmv 1, rfl⟩
theorem pp_ok : GoalOk ⟨#[112, 62, 112]⟩ := ⟨.imp (.var 0) (.var 0), fmi (fmv 0) (fmv 0) (by decide), rfl⟩
theorem GoalOk.size {s : ByteArray} (h : GoalOk s) : s.size ≤ 160 := by
  obtain ⟨A, h1, rfl⟩ := h
  exact tx_size h1.1

theorem CtxS.lens {w : World} {g n m : Nat} {A : Option Addr} {k c : Nat} (h : CtxS w g (.slice A k c) n) (hm : k = m) : CtxS w g (.slice A k c) m := by
  obtain ⟨L, a, b, h1, h2⟩ := h
  obtain ⟨A', c', he⟩ := strs_slice a.strs
  simp only [Value.slice.injEq] at he
  exact ⟨L, a, b, h1, by omega⟩
theorem goal_cases (A : Tree) : (kindOf A = 2 ∧ ∃ x y, TwoF A x y) ∨ (kindOf A = 3 ∧ ∃ x y, TwoF A x y) ∨ (kindOf A = 4 ∧ ∃ x y, TwoF A x y) ∨ ((kindOf A == 2) = false ∧ (kindOf A == 3) = false ∧ (kindOf A == 4) = false) := by
  cases A with
  | and x y => exact .inl ⟨rfl, x, y, two_and x y⟩
  | or x y => exact .inr (.inl ⟨rfl, x, y, two_or x y⟩)
  | imp x y => exact .inr (.inr (.inl ⟨rfl, x, y, two_imp x y⟩))
  | var _ => exact .inr (.inr (.inr ⟨rfl, rfl, rfl⟩))
  | fls => exact .inr (.inr (.inr ⟨rfl, rfl, rfl⟩))
  | box _ => exact .inr (.inr (.inr ⟨rfl, rfl, rfl⟩))
  | dia _ => exact .inr (.inr (.inr ⟨rfl, rfl, rfl⟩))

set_option maxHeartbeats 4000000 in
set_option maxRecDepth 20000 in
theorem l26Of_no (g : Nat) (cv : Value) (N : Nat) (A : Tree) (hA : FmOk A) (dep : Int) (hd0 : -100 ≤ dep) (hd1 : dep ≤ 0) (m : Nat) (hm2 : 2 ≤ m) (hmb : m ≤ 100000)
    (hI : ∀ x y, TwoF A x y → ∃ mx my, OfOk g cv N (tx x) (dep - 1) mx ∧ OfOk g cv N (tx y) (dep - 1) my ∧ 1 + mx + my ≤ m) : OfOk g cv N (tx A) dep m := by
  intro w v hS hC
  have HP := fun W => l25Formula_c (tx A) W (by have := tx_size hA.1; omega)
  unfold GivesP at HP
  rw [gp_tx hA, tx_pf hA.1] at HP
  replace HP := Lib.hid HP
  have hss := tx_size hA.1
  generalize tx A = s at *
  have HS := Lib.hid hS
  have HC := Lib.hid hC
  have hw := Only.refl g w
  obtain ⟨Av, nv, cv1, rfl, hnv0, hnv⟩ := hC.slice
  clear hS hC
  go_enter Tryz.func50, Tryz.ntmps50
  obtain ⟨L, hoL, hfL, hnL0, hnL⟩ := HC.out
  obtain ⟨A0, c0, hve⟩ := strs_slice hoL.strs
  simp only [Value.slice.injEq] at hve
  obtain ⟨rfl, rfl, rfl⟩ := hve
  go_wp2_with fail
  refine (l01Next_c g cv N L.length _ HS.out (by omega)).mono ?_
  rintro e wb ⟨rs, rfl, hrs0, hrs1, _, hSb, hob⟩
  have hrs2 := hrs1 (by omega)
  obtain ⟨rs, rfl⟩ : ∃ k : Nat, rs = (k : Int) := ⟨rs.toNat, by omega⟩
  have HSb := Lib.hid hSb
  have HCb := Lib.hid (HC.out.src hob)
  have HOb := Lib.hid (hoL.src (by omega) hob)
  have hwb := hw.trans hob
  clear hSb hob hoL HS HC hrs1 hrs0
  have hop := HOb.out.strs.open_
  rcases hop with ⟨_, rfl⟩ | ⟨b, o, c, hv, hc, hm, hb, hcell⟩
  · simp at hnL0
  simp only [Value.slice.injEq] at hv
  obtain ⟨rfl, -, rfl⟩ := hv
  have HL := Lib.hid hcell
  clear hcell
  generalize hN : L.length = n at *
  clear hN
  go_wp2_with fail
  go_loopw [11] (fun i wr => ∃ j : Nat, j ≤ n ∧ i = .int .i64 j ∧ Grew wb wr) (fun i _ => n - (intOf i).toNat)
  case atStart => exact ⟨0, Nat.zero_le _, rfl, Grew.refl _⟩
  case round =>
    obtain ⟨j, hj, rfl, hB⟩ := hrel
    by_cases hlt : j < n
    · have hq : ((j : Int) + (rs : Int)).tmod (n : Int) = (((j + rs) % n : Nat) : Int) := rfl
      have hq' : ((j : Int) + (rs : Int)) % (n : Int) = (((j + rs) % n : Nat) : Int) := rfl
      have hql : (j + rs) % n < n := Nat.mod_lt _ (by omega)
      generalize (j + rs) % n = q at *
      have k1 := HL.out q hql _ hB
      generalize st L q = x at *
      go_wp2_with fail
      · refine (l26Var_c _ _).mono ?_
        rintro e wv ⟨vv, rfl, hp, hgv⟩
        go_wp2_with fail
        go_ret
        have gv := hB.trans hgv
        exact ⟨_, rfl, (hp.base (Nat.le_trans hwb.size hB.size)).le (by omega), HSb.out.grew gv, hwb.grew gv⟩
      · go_roundw
        case rel => exact ⟨j + 1, by omega, by go_num, hB⟩
        case measure => simp [intOf]; omega
    · clear hj HL
      have HSc := Lib.hid (HSb.out.grew hB)
      have HCc := Lib.hid (HCb.out.grew hB)
      have HOc := Lib.hid (HOb.out.grew hB)
      have hwc := hwb.grew hB
      clear HSb HCb HOb hwb hB
      go_wp2_with fail
      clear hlt
      refine (HP.out _).mono ?_
      rintro e wp ⟨vp, rfl, hop, hgp⟩
      have hgB := HSc.out.lt
      have HSp := Lib.hid (HSc.out.grew hgp)
      have HCp := Lib.hid (HCc.out.grew hgp)
      have HOp := Lib.hid (HOc.out.grew hgp)
      have hwp := hwc.grew hgp
      clear HSc HCc HOc hwc hgp
      obtain ⟨bp, op, np, cp, hvp, hnp, -, hcp⟩ := head_t hop.nodes
      subst hvp
      have kp := hcp wp (Grew.refl wp)
      have HPn := Lib.hid hop
      clear hop hcp
      rcases goal_cases A with ⟨hk, x, y, hT⟩ | ⟨hk, x, y, hT⟩ | ⟨hk, x, y, hT⟩ | ⟨hk2, hk3, hk4⟩
      · obtain ⟨hxx, hyy⟩ := FmOk.bin (k := kindOf A) hT hA
        rw [hk] at kp
        obtain ⟨mx, my, hX, hY, hmm⟩ := hI x y hT
        have hlx := hxx.1
        have hly := hyy.1

        go_wp2_with fail
        refine (left_t hT hA _ _ HPn.out.nodes).mono ?_
        rintro e wl1 ⟨vl1, rfl, hnl1, hgl1⟩
        obtain ⟨Al1, cl1, rfl⟩ := nodes_slice hnl1
        go_wp2_with fail
        refine (l02Text_c x _ _ hnl1 (by omega)).mono ?_
        rintro e wm1 ⟨rfl, hgm1⟩
        have gm1 := hgl1.trans hgm1
        clear hgl1 hgm1 hnl1

        have HSl := Lib.hid (HSp.out.grew gm1)
        have HCl := Lib.hid (HCp.out.grew gm1)
        have hwl := hwp.grew gm1
        have HPl := Lib.hid (HPn.out.grew gm1)
        clear HSp HCp HOp HPn kp
        go_wp2_with fail
        refine (hX _ _ HSl.out HCl.out).mono ?_
        rintro e w3 ⟨v3, rfl, hp3, hs3, hq3⟩
        obtain ⟨A3, m3, c3, rfl⟩ := hp3.slice
        have hg3 := HSl.out.lt
        have HS3 := Lib.hid hs3
        have HC3 := Lib.hid (HCl.out.src hq3)
        have HP3 := Lib.hid (own_src HPl.out hgB hq3)
        have hw3 := hwl.trans hq3
        have P3 := Lib.hid hp3
        clear HSl HCl hwl HPl hp3 hs3 hq3 gm1

        go_wp2_with fail
        refine (right_t hT hA _ _ HP3.out.nodes).mono ?_
        rintro e wl2 ⟨vl2, rfl, hnl2, hgl2⟩
        obtain ⟨Al2, cl2, rfl⟩ := nodes_slice hnl2
        go_wp2_with fail
        refine (l02Text_c y _ _ hnl2 (by omega)).mono ?_
        rintro e wm2 ⟨rfl, hgm2⟩
        have gm2 := hgl2.trans hgm2
        clear hgl2 hgm2 hnl2

        have HSr := Lib.hid (HS3.out.grew gm2)
        have HCr := Lib.hid (HC3.out.grew gm2)
        have hwr := hw3.grew gm2
        have P4 := Lib.hid (P3.out.grew gm2)
        clear HS3 HC3 hw3 HP3 P3 gm2
        go_wp2_with fail
        refine (hY _ _ HSr.out HCr.out).mono ?_
        rintro e w6 ⟨v6, rfl, hp6, hs6, hq6⟩
        obtain ⟨A6, m6, c6, rfl⟩ := hp6.slice
        have P5 := Lib.hid (P4.out.src hg3 hq6)
        have P6 := Lib.hid hp6
        have HST := Lib.hid hs6
        have hwt := hwr.trans hq6
        clear hp6 hs6 hq6 HSr HCr hwr P4

        have hnew := fun o => blk_new w6 o
        have hal := fun o => (Grew.refl w6).alloc o

        go_wp2_with fail
        refine (join2 3 _ (by decide) _ _ _ _ _ mx my _ (blk_lt (hnew _)) (by rw [blk_cell (hnew _)]; rfl) (by rw [blk_cell (hnew _)]; rfl) (P5.out.grew (hal _)) (P6.out.grew (hal _)) (by omega) (by omega)).mono ?_
        rintro e wz ⟨vz, rfl, hpz, hgz⟩

        go_wp2_with fail
        go_ret
        have gz := Grew.trans (hal _) hgz
        exact ⟨_, rfl, (hpz.base (Nat.le_trans hwt.size (hal _).size)).le (by omega), HST.out.grew gz, hwt.grew gz⟩
      · obtain ⟨hxx, hyy⟩ := FmOk.bin (k := kindOf A) hT hA
        rw [hk] at kp
        obtain ⟨mx, my, hX, hY, hmm⟩ := hI x y hT
        have hlx := hxx.1
        have hly := hyy.1

        go_wp2_with fail
        refine (l01Next_c g cv N 2 _ HSp.out (by omega)).mono ?_
        rintro e w2 ⟨r2, rfl, _, _, _, hs2, hq2⟩
        have HSz := Lib.hid hs2
        have HCz := Lib.hid (HCp.out.src hq2)
        have HPz := Lib.hid (own_src HPn.out hgB hq2)
        have hwz := hwp.trans hq2
        clear HSp HCp HOp HPn kp hs2 hq2
        cases b2 : (r2 == 0) with
        | true =>
          go_wp2_with fail
          refine (right_t hT hA _ _ HPz.out.nodes).mono ?_
          rintro e wl1 ⟨vl1, rfl, hnl1, hgl1⟩
          obtain ⟨Al1, cl1, rfl⟩ := nodes_slice hnl1
          go_wp2_with fail
          refine (l02Text_c y _ _ hnl1 (by omega)).mono ?_
          rintro e wm1 ⟨rfl, hgm1⟩
          have gm1 := hgl1.trans hgm1
          clear hgl1 hgm1 hnl1

          have HP2 := Lib.hid (HPz.out.grew gm1)

          go_wp2_with fail
          refine (left_t hT hA _ _ HP2.out.nodes).mono ?_
          rintro e wl2 ⟨vl2, rfl, hnl2, hgl2⟩
          obtain ⟨Al2, cl2, rfl⟩ := nodes_slice hnl2
          go_wp2_with fail
          refine (l02Text_c x _ _ hnl2 (by omega)).mono ?_
          rintro e wm2 ⟨rfl, hgm2⟩
          have gm2 := hgl2.trans hgm2
          clear hgl2 hgm2 hnl2

          have gm := gm1.trans gm2
          have HSr := Lib.hid (HSz.out.grew gm)
          have HCr := Lib.hid (HCz.out.grew gm)
          have hwr := hwz.grew gm
          clear HSz HCz hwz HP2 HPz gm1 gm2 gm
          go_wp2_with fail
          refine (hX _ _ HSr.out HCr.out).mono ?_
          rintro e w6 ⟨v6, rfl, hp6, hs6, hq6⟩
          obtain ⟨A6, m6, c6, rfl⟩ := hp6.slice
          have P6 := Lib.hid hp6
          have HST := Lib.hid hs6
          have hwt := hwr.trans hq6
          clear hp6 hs6 hq6 HSr HCr hwr

          have hnew := fun o => blk_new w6 o
          have hal := fun o => (Grew.refl w6).alloc o

          go_wp2_with fail
          refine (join1 6 _ (by first | decide | (have := hss; omega) | (have := tx_size hxx.1; have := tx_size hyy.1; first | (show (tx x).size ≤ _; omega) | (show (tx y).size ≤ _; omega))) _ _ _ mx _ (blk_lt (hnew _)) (by rw [blk_cell (hnew _)]; rfl) (P6.out.grew (hal _)) (by omega)).mono ?_
          rintro e wz ⟨vz, rfl, hpz, hgz⟩

          go_wp2_with fail
          go_ret
          have gz := Grew.trans (hal _) hgz
          exact ⟨_, rfl, (hpz.base (Nat.le_trans hwt.size (hal _).size)).le (by omega), HST.out.grew gz, hwt.grew gz⟩
        | false =>
          go_wp2_with fail
          refine (left_t hT hA _ _ HPz.out.nodes).mono ?_
          rintro e wl1 ⟨vl1, rfl, hnl1, hgl1⟩
          obtain ⟨Al1, cl1, rfl⟩ := nodes_slice hnl1
          go_wp2_with fail
          refine (l02Text_c x _ _ hnl1 (by omega)).mono ?_
          rintro e wm1 ⟨rfl, hgm1⟩
          have gm1 := hgl1.trans hgm1
          clear hgl1 hgm1 hnl1

          have HP2 := Lib.hid (HPz.out.grew gm1)

          go_wp2_with fail
          refine (right_t hT hA _ _ HP2.out.nodes).mono ?_
          rintro e wl2 ⟨vl2, rfl, hnl2, hgl2⟩
          obtain ⟨Al2, cl2, rfl⟩ := nodes_slice hnl2
          go_wp2_with fail
          refine (l02Text_c y _ _ hnl2 (by omega)).mono ?_
          rintro e wm2 ⟨rfl, hgm2⟩
          have gm2 := hgl2.trans hgm2
          clear hgl2 hgm2 hnl2

          have gm := gm1.trans gm2
          have HSr := Lib.hid (HSz.out.grew gm)
          have HCr := Lib.hid (HCz.out.grew gm)
          have hwr := hwz.grew gm
          clear HSz HCz hwz HP2 HPz gm1 gm2 gm
          go_wp2_with fail
          refine (hY _ _ HSr.out HCr.out).mono ?_
          rintro e w6 ⟨v6, rfl, hp6, hs6, hq6⟩
          obtain ⟨A6, m6, c6, rfl⟩ := hp6.slice
          have P6 := Lib.hid hp6
          have HST := Lib.hid hs6
          have hwt := hwr.trans hq6
          clear hp6 hs6 hq6 HSr HCr hwr

          have hnew := fun o => blk_new w6 o
          have hal := fun o => (Grew.refl w6).alloc o

          go_wp2_with fail
          refine (join1 7 _ (by first | decide | (have := hss; omega) | (have := tx_size hxx.1; have := tx_size hyy.1; first | (show (tx x).size ≤ _; omega) | (show (tx y).size ≤ _; omega))) _ _ _ my _ (blk_lt (hnew _)) (by rw [blk_cell (hnew _)]; rfl) (P6.out.grew (hal _)) (by omega)).mono ?_
          rintro e wz ⟨vz, rfl, hpz, hgz⟩

          go_wp2_with fail
          go_ret
          have gz := Grew.trans (hal _) hgz
          exact ⟨_, rfl, (hpz.base (Nat.le_trans hwt.size (hal _).size)).le (by omega), HST.out.grew gz, hwt.grew gz⟩
      · obtain ⟨hxx, hyy⟩ := FmOk.bin (k := kindOf A) hT hA
        rw [hk] at kp
        obtain ⟨mx, my, hX, hY, hmm⟩ := hI x y hT
        have hlx := hxx.1
        have hly := hyy.1

        by_cases h12 : n < 12
        · go_wp2_with fail
          refine (left_t hT hA _ _ HPn.out.nodes).mono ?_
          rintro e wl1 ⟨vl1, rfl, hnl1, hgl1⟩
          obtain ⟨Al1, cl1, rfl⟩ := nodes_slice hnl1
          go_wp2_with fail
          refine (l02Text_c x _ _ hnl1 (by omega)).mono ?_
          rintro e wm1 ⟨rfl, hgm1⟩
          have gm1 := hgl1.trans hgm1
          clear hgl1 hgm1 hnl1

          have HPl := Lib.hid (HPn.out.grew gm1)
          have HSl := Lib.hid (HSp.out.grew gm1)
          have HCl := Lib.hid (HCp.out.grew gm1)
          have hwl := hwp.grew gm1
          clear HSp HCp HOp HPn kp hwp gm1

          go_wp2_with fail
          refine (left_t hT hA _ _ HPl.out.nodes).mono ?_
          rintro e wl2 ⟨vl2, rfl, hnl2, hgl2⟩
          obtain ⟨Al2, cl2, rfl⟩ := nodes_slice hnl2
          go_wp2_with fail
          refine (l02Text_c x _ _ hnl2 (by omega)).mono ?_
          rintro e wm2 ⟨rfl, hgm2⟩
          have gm2 := hgl2.trans hgm2
          clear hgl2 hgm2 hnl2

          have HPm := Lib.hid (HPl.out.grew gm2)
          have HSm := Lib.hid (HSl.out.grew gm2)
          have HCm := Lib.hid (HCl.out.grew gm2)
          have hwm := hwl.grew gm2
          clear HSl HCl HPl hwl gm2
          have hal1 := fun o => (Grew.refl wm2).alloc o
          have hlit := lit1 wm2 (tx x)
          go_wp2_with fail
          refine (with_ctx (n := n) _ _ (tx x) (((HCm.out).lens rfl).grew (hal1 _)) (by omega) (HSm.out.grew (hal1 _)).lt (by have := tx_size hxx.1; omega) hlit).mono ?_
          rintro e w3 ⟨v3, rfl, hc3, hg3⟩
          obtain ⟨A3, m3, c3, rfl, _, _⟩ := hc3.slice
          have g3 := Grew.trans (hal1 _) hg3
          have HC3 := Lib.hid (hc3.le (show n + 1 ≤ 12 by omega))
          have HS3 := Lib.hid (HSm.out.grew g3)
          have HP3 := Lib.hid (HPm.out.grew g3)
          have hw3 := hwm.grew g3
          clear HSm HCm HPm hwm hc3 hg3 g3 hal1 hlit

          go_wp2_with fail
          refine (right_t hT hA _ _ HP3.out.nodes).mono ?_
          rintro e wl3 ⟨vl3, rfl, hnl3, hgl3⟩
          obtain ⟨Al3, cl3, rfl⟩ := nodes_slice hnl3
          go_wp2_with fail
          refine (l02Text_c y _ _ hnl3 (by omega)).mono ?_
          rintro e wm3 ⟨rfl, hgm3⟩
          have gm3 := hgl3.trans hgm3
          clear hgl3 hgm3 hnl3

          have HSr := Lib.hid (HS3.out.grew gm3)
          have HCr := Lib.hid (HC3.out.grew gm3)
          have hwr := hw3.grew gm3
          clear HS3 HC3 HP3 hw3 gm3
          go_wp2_with fail
          refine (hY _ _ HSr.out HCr.out).mono ?_
          rintro e w6 ⟨v6, rfl, hp6, hs6, hq6⟩
          obtain ⟨A6, m6, c6, rfl⟩ := hp6.slice
          have P6 := Lib.hid hp6
          have HST := Lib.hid hs6
          have hwt := hwr.trans hq6
          clear hp6 hs6 hq6 HSr HCr hwr

          have hnew := fun o => blk_new w6 o
          have hal := fun o => (Grew.refl w6).alloc o

          go_wp2_with fail
          refine (join1 1 _ (by first | decide | (have := hss; omega) | (have := tx_size hxx.1; have := tx_size hyy.1; first | (show (tx x).size ≤ _; omega) | (show (tx y).size ≤ _; omega))) _ _ _ my _ (blk_lt (hnew _)) (by rw [blk_cell (hnew _)]; rfl) (P6.out.grew (hal _)) (by omega)).mono ?_
          rintro e wz ⟨vz, rfl, hpz, hgz⟩

          go_wp2_with fail
          go_ret
          have gz := Grew.trans (hal _) hgz
          exact ⟨_, rfl, (hpz.base (Nat.le_trans hwt.size (hal _).size)).le (by omega), HST.out.grew gz, hwt.grew gz⟩
        · go_wp2_with fail
          clear HPn kp
          refine (says_w _ _ _ _ HOp.out.strs).mono ?_
          rintro e w1 ⟨q1, rfl, hg1⟩
          cases q1 with
          | true =>
            go_wp2_with fail
            refine (l26Place_c _ _ _ _ (HOp.out.grew hg1).strs).mono ?_
            rintro e w2 ⟨r2, rfl, hg2⟩
            go_wp2_with fail
            refine (l26Var_c _ _).mono ?_
            rintro e w3 ⟨v3, rfl, hp3, hg3⟩
            obtain ⟨A3, m3, c3, rfl⟩ := hp3.slice
            have P3 := Lib.hid hp3
            have g3 := (hg1.trans hg2).trans hg3
            have HST := Lib.hid (HSp.out.grew g3)
            have hwt := hwp.grew g3
            clear HSp HCp HOp hwp hp3 g3
            have hnew := fun o => blk_new w3 o
            have hal := fun o => (Grew.refl w3).alloc o
            go_wp2_with fail
            refine (join1 9 _ (by first | decide | (have := hss; omega) | (have := tx_size hxx.1; have := tx_size hyy.1; first | (show (tx x).size ≤ _; omega) | (show (tx y).size ≤ _; omega))) _ _ _ 1 _ (blk_lt (hnew _)) (by rw [blk_cell (hnew _)]; rfl) (P3.out.grew (hal _)) (by omega)).mono ?_
            rintro e wz ⟨vz, rfl, hpz, hgz⟩
            go_wp2_with fail
            go_ret
            have gz := Grew.trans (hal _) hgz
            exact ⟨_, rfl, (hpz.base (Nat.le_trans hwt.size (hal _).size)).le (by omega), HST.out.grew gz, hwt.grew gz⟩

          | false =>
            go_wp2_with fail
            refine (l26Var_c _ _).mono ?_
            rintro e w3 ⟨v3, rfl, hp3, hg3⟩
            go_wp2_with fail
            go_ret
            have g3 := hg1.trans hg3
            exact ⟨_, rfl, (hp3.base (Nat.le_trans hwp.size hg1.size)).le (by omega), HSp.out.grew g3, hwp.grew g3⟩
      · generalize kindOf A = K at *
        go_wp2_with fail
        clear HPn kp
        refine (says_w _ _ _ _ HOp.out.strs).mono ?_
        rintro e w1 ⟨q1, rfl, hg1⟩
        cases q1 with
        | true =>
          go_wp2_with fail
          refine (l26Place_c _ _ _ _ (HOp.out.grew hg1).strs).mono ?_
          rintro e w2 ⟨r2, rfl, hg2⟩
          go_wp2_with fail
          refine (l26Var_c _ _).mono ?_
          rintro e w3 ⟨v3, rfl, hp3, hg3⟩
          obtain ⟨A3, m3, c3, rfl⟩ := hp3.slice
          have P3 := Lib.hid hp3
          have g3 := (hg1.trans hg2).trans hg3
          have HST := Lib.hid (HSp.out.grew g3)
          have hwt := hwp.grew g3
          clear HSp HCp HOp hwp hp3 g3
          have hnew := fun o => blk_new w3 o
          have hal := fun o => (Grew.refl w3).alloc o
          go_wp2_with fail
          refine (join1 9 _ (by first | decide | (have := hss; omega) | (have := tx_size hxx.1; have := tx_size hyy.1; first | (show (tx x).size ≤ _; omega) | (show (tx y).size ≤ _; omega))) _ _ _ 1 _ (blk_lt (hnew _)) (by rw [blk_cell (hnew _)]; rfl) (P3.out.grew (hal _)) (by omega)).mono ?_
          rintro e wz ⟨vz, rfl, hpz, hgz⟩
          go_wp2_with fail
          go_ret
          have gz := Grew.trans (hal _) hgz
          exact ⟨_, rfl, (hpz.base (Nat.le_trans hwt.size (hal _).size)).le (by omega), HST.out.grew gz, hwt.grew gz⟩

        | false =>
          go_wp2_with fail
          refine (l26Var_c _ _).mono ?_
          rintro e w3 ⟨v3, rfl, hp3, hg3⟩
          go_wp2_with fail
          go_ret
          have g3 := hg1.trans hg3
          exact ⟨_, rfl, (hp3.base (Nat.le_trans hwp.size hg1.size)).le (by omega), HSp.out.grew g3, hwp.grew g3⟩

set_option maxHeartbeats 4000000 in
set_option maxRecDepth 20000 in
theorem l26Of_yes (g : Nat) (cv : Value) (N : Nat) (A : Tree) (hA : FmOk A) (dep : Int) (hd0 : 1 ≤ dep) (hd1 : dep ≤ 4) (m : Nat) (hm2 : 2 ≤ m) (hmb : m ≤ 100000)
    (mE : Nat) (hE2 : 3 * mE + 4 ≤ m) (hE1 : ∀ s, GoalOk s → OfOk g cv N s (dep - 1) mE) (hE0 : ∀ s, GoalOk s → OfOk g cv N s 0 mE)
    (hI : ∀ x y, TwoF A x y → ∃ mx my, OfOk g cv N (tx x) (dep - 1) mx ∧ OfOk g cv N (tx y) (dep - 1) my ∧ 1 + mx + my ≤ m) : OfOk g cv N (tx A) dep m := by
  intro w v hS hC
  have HP := fun W => l25Formula_c (tx A) W (by have := tx_size hA.1; omega)
  unfold GivesP at HP
  rw [gp_tx hA, tx_pf hA.1] at HP
  replace HP := Lib.hid HP
  have hss := tx_size hA.1
  have hs0 : GoalOk (tx A) := ⟨A, hA, rfl⟩
  generalize tx A = s at *
  have HS := Lib.hid hS
  have HC := Lib.hid hC
  have hw := Only.refl g w
  obtain ⟨Av, nv, cv1, rfl, hnv0, hnv⟩ := hC.slice
  clear hS hC
  go_enter Tryz.func50, Tryz.ntmps50
  go_wp2_with fail
  refine (l01Next_c g cv N 4 _ HS.out (by omega)).mono ?_
  rintro e wa ⟨ra, rfl, _, _, _, hs, hq⟩
  replace HS := Lib.hid hs
  replace HC := Lib.hid (HC.out.src hq)
  replace hw := hw.trans hq
  clear hs hq
  cases ba : (ra == 0) with
  | false =>
    obtain ⟨L, hoL, hfL, hnL0, hnL⟩ := HC.out
    obtain ⟨A0, c0, hve⟩ := strs_slice hoL.strs
    simp only [Value.slice.injEq] at hve
    obtain ⟨rfl, rfl, rfl⟩ := hve
    go_wp2_with fail
    refine (l01Next_c g cv N L.length _ HS.out (by omega)).mono ?_
    rintro e wb ⟨rs, rfl, hrs0, hrs1, _, hSb, hob⟩
    have hrs2 := hrs1 (by omega)
    obtain ⟨rs, rfl⟩ : ∃ k : Nat, rs = (k : Int) := ⟨rs.toNat, by omega⟩
    have HSb := Lib.hid hSb
    have HCb := Lib.hid (HC.out.src hob)
    have HOb := Lib.hid (hoL.src (by omega) hob)
    have hwb := hw.trans hob
    clear hSb hob hoL HS HC hrs1 hrs0
    have hop := HOb.out.strs.open_
    rcases hop with ⟨_, rfl⟩ | ⟨b, o, c, hv, hc, hm, hb, hcell⟩
    · simp at hnL0
    simp only [Value.slice.injEq] at hv
    obtain ⟨rfl, -, rfl⟩ := hv
    have HL := Lib.hid hcell
    clear hcell
    generalize hN : L.length = n at *
    clear hN
    go_wp2_with fail
    go_loopw [11] (fun i wr => ∃ j : Nat, j ≤ n ∧ i = .int .i64 j ∧ Grew wb wr) (fun i _ => n - (intOf i).toNat)
    case atStart => exact ⟨0, Nat.zero_le _, rfl, Grew.refl _⟩
    case round =>
      obtain ⟨j, hj, rfl, hB⟩ := hrel
      by_cases hlt : j < n
      · have hq : ((j : Int) + (rs : Int)).tmod (n : Int) = (((j + rs) % n : Nat) : Int) := rfl
        have hq' : ((j : Int) + (rs : Int)) % (n : Int) = (((j + rs) % n : Nat) : Int) := rfl
        have hql : (j + rs) % n < n := Nat.mod_lt _ (by omega)
        generalize (j + rs) % n = q at *
        have k1 := HL.out q hql _ hB
        generalize st L q = x at *
        go_wp2_with fail
        · refine (l26Var_c _ _).mono ?_
          rintro e wv ⟨vv, rfl, hp, hgv⟩
          go_wp2_with fail
          go_ret
          have gv := hB.trans hgv
          exact ⟨_, rfl, (hp.base (Nat.le_trans hwb.size hB.size)).le (by omega), HSb.out.grew gv, hwb.grew gv⟩
        · go_roundw
          case rel => exact ⟨j + 1, by omega, by go_num, hB⟩
          case measure => simp [intOf]; omega
      · clear hj HL
        have HSc := Lib.hid (HSb.out.grew hB)
        have HCc := Lib.hid (HCb.out.grew hB)
        have HOc := Lib.hid (HOb.out.grew hB)
        have hwc := hwb.grew hB
        clear HSb HCb HOb hwb hB
        go_wp2_with fail
        clear hlt
        refine (HP.out _).mono ?_
        rintro e wp ⟨vp, rfl, hop, hgp⟩
        have hgB := HSc.out.lt
        have HSp := Lib.hid (HSc.out.grew hgp)
        have HCp := Lib.hid (HCc.out.grew hgp)
        have HOp := Lib.hid (HOc.out.grew hgp)
        have hwp := hwc.grew hgp
        clear HSc HCc HOc hwc hgp
        obtain ⟨bp, op, np, cp, hvp, hnp, -, hcp⟩ := head_t hop.nodes
        subst hvp
        have kp := hcp wp (Grew.refl wp)
        have HPn := Lib.hid hop
        clear hop hcp
        rcases goal_cases A with ⟨hk, x, y, hT⟩ | ⟨hk, x, y, hT⟩ | ⟨hk, x, y, hT⟩ | ⟨hk2, hk3, hk4⟩
        · obtain ⟨hxx, hyy⟩ := FmOk.bin (k := kindOf A) hT hA
          rw [hk] at kp
          obtain ⟨mx, my, hX, hY, hmm⟩ := hI x y hT
          have hlx := hxx.1
          have hly := hyy.1

          go_wp2_with fail
          refine (left_t hT hA _ _ HPn.out.nodes).mono ?_
          rintro e wl1 ⟨vl1, rfl, hnl1, hgl1⟩
          obtain ⟨Al1, cl1, rfl⟩ := nodes_slice hnl1
          go_wp2_with fail
          refine (l02Text_c x _ _ hnl1 (by omega)).mono ?_
          rintro e wm1 ⟨rfl, hgm1⟩
          have gm1 := hgl1.trans hgm1
          clear hgl1 hgm1 hnl1

          have HSl := Lib.hid (HSp.out.grew gm1)
          have HCl := Lib.hid (HCp.out.grew gm1)
          have hwl := hwp.grew gm1
          have HPl := Lib.hid (HPn.out.grew gm1)
          clear HSp HCp HOp HPn kp
          go_wp2_with fail
          refine (hX _ _ HSl.out HCl.out).mono ?_
          rintro e w3 ⟨v3, rfl, hp3, hs3, hq3⟩
          obtain ⟨A3, m3, c3, rfl⟩ := hp3.slice
          have hg3 := HSl.out.lt
          have HS3 := Lib.hid hs3
          have HC3 := Lib.hid (HCl.out.src hq3)
          have HP3 := Lib.hid (own_src HPl.out hgB hq3)
          have hw3 := hwl.trans hq3
          have P3 := Lib.hid hp3
          clear HSl HCl hwl HPl hp3 hs3 hq3 gm1

          go_wp2_with fail
          refine (right_t hT hA _ _ HP3.out.nodes).mono ?_
          rintro e wl2 ⟨vl2, rfl, hnl2, hgl2⟩
          obtain ⟨Al2, cl2, rfl⟩ := nodes_slice hnl2
          go_wp2_with fail
          refine (l02Text_c y _ _ hnl2 (by omega)).mono ?_
          rintro e wm2 ⟨rfl, hgm2⟩
          have gm2 := hgl2.trans hgm2
          clear hgl2 hgm2 hnl2

          have HSr := Lib.hid (HS3.out.grew gm2)
          have HCr := Lib.hid (HC3.out.grew gm2)
          have hwr := hw3.grew gm2
          have P4 := Lib.hid (P3.out.grew gm2)
          clear HS3 HC3 hw3 HP3 P3 gm2
          go_wp2_with fail
          refine (hY _ _ HSr.out HCr.out).mono ?_
          rintro e w6 ⟨v6, rfl, hp6, hs6, hq6⟩
          obtain ⟨A6, m6, c6, rfl⟩ := hp6.slice
          have P5 := Lib.hid (P4.out.src hg3 hq6)
          have P6 := Lib.hid hp6
          have HST := Lib.hid hs6
          have hwt := hwr.trans hq6
          clear hp6 hs6 hq6 HSr HCr hwr P4

          have hnew := fun o => blk_new w6 o
          have hal := fun o => (Grew.refl w6).alloc o

          go_wp2_with fail
          refine (join2 3 _ (by decide) _ _ _ _ _ mx my _ (blk_lt (hnew _)) (by rw [blk_cell (hnew _)]; rfl) (by rw [blk_cell (hnew _)]; rfl) (P5.out.grew (hal _)) (P6.out.grew (hal _)) (by omega) (by omega)).mono ?_
          rintro e wz ⟨vz, rfl, hpz, hgz⟩

          go_wp2_with fail
          go_ret
          have gz := Grew.trans (hal _) hgz
          exact ⟨_, rfl, (hpz.base (Nat.le_trans hwt.size (hal _).size)).le (by omega), HST.out.grew gz, hwt.grew gz⟩
        · obtain ⟨hxx, hyy⟩ := FmOk.bin (k := kindOf A) hT hA
          rw [hk] at kp
          obtain ⟨mx, my, hX, hY, hmm⟩ := hI x y hT
          have hlx := hxx.1
          have hly := hyy.1

          go_wp2_with fail
          refine (l01Next_c g cv N 2 _ HSp.out (by omega)).mono ?_
          rintro e w2 ⟨r2, rfl, _, _, _, hs2, hq2⟩
          have HSz := Lib.hid hs2
          have HCz := Lib.hid (HCp.out.src hq2)
          have HPz := Lib.hid (own_src HPn.out hgB hq2)
          have hwz := hwp.trans hq2
          clear HSp HCp HOp HPn kp hs2 hq2
          cases b2 : (r2 == 0) with
          | true =>
            go_wp2_with fail
            refine (right_t hT hA _ _ HPz.out.nodes).mono ?_
            rintro e wl1 ⟨vl1, rfl, hnl1, hgl1⟩
            obtain ⟨Al1, cl1, rfl⟩ := nodes_slice hnl1
            go_wp2_with fail
            refine (l02Text_c y _ _ hnl1 (by omega)).mono ?_
            rintro e wm1 ⟨rfl, hgm1⟩
            have gm1 := hgl1.trans hgm1
            clear hgl1 hgm1 hnl1

            have HP2 := Lib.hid (HPz.out.grew gm1)

            go_wp2_with fail
            refine (left_t hT hA _ _ HP2.out.nodes).mono ?_
            rintro e wl2 ⟨vl2, rfl, hnl2, hgl2⟩
            obtain ⟨Al2, cl2, rfl⟩ := nodes_slice hnl2
            go_wp2_with fail
            refine (l02Text_c x _ _ hnl2 (by omega)).mono ?_
            rintro e wm2 ⟨rfl, hgm2⟩
            have gm2 := hgl2.trans hgm2
            clear hgl2 hgm2 hnl2

            have gm := gm1.trans gm2
            have HSr := Lib.hid (HSz.out.grew gm)
            have HCr := Lib.hid (HCz.out.grew gm)
            have hwr := hwz.grew gm
            clear HSz HCz hwz HP2 HPz gm1 gm2 gm
            go_wp2_with fail
            refine (hX _ _ HSr.out HCr.out).mono ?_
            rintro e w6 ⟨v6, rfl, hp6, hs6, hq6⟩
            obtain ⟨A6, m6, c6, rfl⟩ := hp6.slice
            have P6 := Lib.hid hp6
            have HST := Lib.hid hs6
            have hwt := hwr.trans hq6
            clear hp6 hs6 hq6 HSr HCr hwr

            have hnew := fun o => blk_new w6 o
            have hal := fun o => (Grew.refl w6).alloc o

            go_wp2_with fail
            refine (join1 6 _ (by first | decide | (have := hss; omega) | (have := tx_size hxx.1; have := tx_size hyy.1; first | (show (tx x).size ≤ _; omega) | (show (tx y).size ≤ _; omega))) _ _ _ mx _ (blk_lt (hnew _)) (by rw [blk_cell (hnew _)]; rfl) (P6.out.grew (hal _)) (by omega)).mono ?_
            rintro e wz ⟨vz, rfl, hpz, hgz⟩

            go_wp2_with fail
            go_ret
            have gz := Grew.trans (hal _) hgz
            exact ⟨_, rfl, (hpz.base (Nat.le_trans hwt.size (hal _).size)).le (by omega), HST.out.grew gz, hwt.grew gz⟩
          | false =>
            go_wp2_with fail
            refine (left_t hT hA _ _ HPz.out.nodes).mono ?_
            rintro e wl1 ⟨vl1, rfl, hnl1, hgl1⟩
            obtain ⟨Al1, cl1, rfl⟩ := nodes_slice hnl1
            go_wp2_with fail
            refine (l02Text_c x _ _ hnl1 (by omega)).mono ?_
            rintro e wm1 ⟨rfl, hgm1⟩
            have gm1 := hgl1.trans hgm1
            clear hgl1 hgm1 hnl1

            have HP2 := Lib.hid (HPz.out.grew gm1)

            go_wp2_with fail
            refine (right_t hT hA _ _ HP2.out.nodes).mono ?_
            rintro e wl2 ⟨vl2, rfl, hnl2, hgl2⟩
            obtain ⟨Al2, cl2, rfl⟩ := nodes_slice hnl2
            go_wp2_with fail
            refine (l02Text_c y _ _ hnl2 (by omega)).mono ?_
            rintro e wm2 ⟨rfl, hgm2⟩
            have gm2 := hgl2.trans hgm2
            clear hgl2 hgm2 hnl2

            have gm := gm1.trans gm2
            have HSr := Lib.hid (HSz.out.grew gm)
            have HCr := Lib.hid (HCz.out.grew gm)
            have hwr := hwz.grew gm
            clear HSz HCz hwz HP2 HPz gm1 gm2 gm
            go_wp2_with fail
            refine (hY _ _ HSr.out HCr.out).mono ?_
            rintro e w6 ⟨v6, rfl, hp6, hs6, hq6⟩
            obtain ⟨A6, m6, c6, rfl⟩ := hp6.slice
            have P6 := Lib.hid hp6
            have HST := Lib.hid hs6
            have hwt := hwr.trans hq6
            clear hp6 hs6 hq6 HSr HCr hwr

            have hnew := fun o => blk_new w6 o
            have hal := fun o => (Grew.refl w6).alloc o

            go_wp2_with fail
            refine (join1 7 _ (by first | decide | (have := hss; omega) | (have := tx_size hxx.1; have := tx_size hyy.1; first | (show (tx x).size ≤ _; omega) | (show (tx y).size ≤ _; omega))) _ _ _ my _ (blk_lt (hnew _)) (by rw [blk_cell (hnew _)]; rfl) (P6.out.grew (hal _)) (by omega)).mono ?_
            rintro e wz ⟨vz, rfl, hpz, hgz⟩

            go_wp2_with fail
            go_ret
            have gz := Grew.trans (hal _) hgz
            exact ⟨_, rfl, (hpz.base (Nat.le_trans hwt.size (hal _).size)).le (by omega), HST.out.grew gz, hwt.grew gz⟩
        · obtain ⟨hxx, hyy⟩ := FmOk.bin (k := kindOf A) hT hA
          rw [hk] at kp
          obtain ⟨mx, my, hX, hY, hmm⟩ := hI x y hT
          have hlx := hxx.1
          have hly := hyy.1

          by_cases h12 : n < 12
          · go_wp2_with fail
            refine (left_t hT hA _ _ HPn.out.nodes).mono ?_
            rintro e wl1 ⟨vl1, rfl, hnl1, hgl1⟩
            obtain ⟨Al1, cl1, rfl⟩ := nodes_slice hnl1
            go_wp2_with fail
            refine (l02Text_c x _ _ hnl1 (by omega)).mono ?_
            rintro e wm1 ⟨rfl, hgm1⟩
            have gm1 := hgl1.trans hgm1
            clear hgl1 hgm1 hnl1

            have HPl := Lib.hid (HPn.out.grew gm1)
            have HSl := Lib.hid (HSp.out.grew gm1)
            have HCl := Lib.hid (HCp.out.grew gm1)
            have hwl := hwp.grew gm1
            clear HSp HCp HOp HPn kp hwp gm1

            go_wp2_with fail
            refine (left_t hT hA _ _ HPl.out.nodes).mono ?_
            rintro e wl2 ⟨vl2, rfl, hnl2, hgl2⟩
            obtain ⟨Al2, cl2, rfl⟩ := nodes_slice hnl2
            go_wp2_with fail
            refine (l02Text_c x _ _ hnl2 (by omega)).mono ?_
            rintro e wm2 ⟨rfl, hgm2⟩
            have gm2 := hgl2.trans hgm2
            clear hgl2 hgm2 hnl2

            have HPm := Lib.hid (HPl.out.grew gm2)
            have HSm := Lib.hid (HSl.out.grew gm2)
            have HCm := Lib.hid (HCl.out.grew gm2)
            have hwm := hwl.grew gm2
            clear HSl HCl HPl hwl gm2
            have hal1 := fun o => (Grew.refl wm2).alloc o
            have hlit := lit1 wm2 (tx x)
            go_wp2_with fail
            refine (with_ctx (n := n) _ _ (tx x) (((HCm.out).lens rfl).grew (hal1 _)) (by omega) (HSm.out.grew (hal1 _)).lt (by have := tx_size hxx.1; omega) hlit).mono ?_
            rintro e w3 ⟨v3, rfl, hc3, hg3⟩
            obtain ⟨A3, m3, c3, rfl, _, _⟩ := hc3.slice
            have g3 := Grew.trans (hal1 _) hg3
            have HC3 := Lib.hid (hc3.le (show n + 1 ≤ 12 by omega))
            have HS3 := Lib.hid (HSm.out.grew g3)
            have HP3 := Lib.hid (HPm.out.grew g3)
            have hw3 := hwm.grew g3
            clear HSm HCm HPm hwm hc3 hg3 g3 hal1 hlit

            go_wp2_with fail
            refine (right_t hT hA _ _ HP3.out.nodes).mono ?_
            rintro e wl3 ⟨vl3, rfl, hnl3, hgl3⟩
            obtain ⟨Al3, cl3, rfl⟩ := nodes_slice hnl3
            go_wp2_with fail
            refine (l02Text_c y _ _ hnl3 (by omega)).mono ?_
            rintro e wm3 ⟨rfl, hgm3⟩
            have gm3 := hgl3.trans hgm3
            clear hgl3 hgm3 hnl3

            have HSr := Lib.hid (HS3.out.grew gm3)
            have HCr := Lib.hid (HC3.out.grew gm3)
            have hwr := hw3.grew gm3
            clear HS3 HC3 HP3 hw3 gm3
            go_wp2_with fail
            refine (hY _ _ HSr.out HCr.out).mono ?_
            rintro e w6 ⟨v6, rfl, hp6, hs6, hq6⟩
            obtain ⟨A6, m6, c6, rfl⟩ := hp6.slice
            have P6 := Lib.hid hp6
            have HST := Lib.hid hs6
            have hwt := hwr.trans hq6
            clear hp6 hs6 hq6 HSr HCr hwr

            have hnew := fun o => blk_new w6 o
            have hal := fun o => (Grew.refl w6).alloc o

            go_wp2_with fail
            refine (join1 1 _ (by first | decide | (have := hss; omega) | (have := tx_size hxx.1; have := tx_size hyy.1; first | (show (tx x).size ≤ _; omega) | (show (tx y).size ≤ _; omega))) _ _ _ my _ (blk_lt (hnew _)) (by rw [blk_cell (hnew _)]; rfl) (P6.out.grew (hal _)) (by omega)).mono ?_
            rintro e wz ⟨vz, rfl, hpz, hgz⟩

            go_wp2_with fail
            go_ret
            have gz := Grew.trans (hal _) hgz
            exact ⟨_, rfl, (hpz.base (Nat.le_trans hwt.size (hal _).size)).le (by omega), HST.out.grew gz, hwt.grew gz⟩
          · go_wp2_with fail
            clear HPn kp
            refine (says_w _ _ _ _ HOp.out.strs).mono ?_
            rintro e w1 ⟨q1, rfl, hg1⟩
            cases q1 with
            | true =>
              go_wp2_with fail
              refine (l26Place_c _ _ _ _ (HOp.out.grew hg1).strs).mono ?_
              rintro e w2 ⟨r2, rfl, hg2⟩
              go_wp2_with fail
              refine (l26Var_c _ _).mono ?_
              rintro e w3 ⟨v3, rfl, hp3, hg3⟩
              obtain ⟨A3, m3, c3, rfl⟩ := hp3.slice
              have P3 := Lib.hid hp3
              have g3 := (hg1.trans hg2).trans hg3
              have HST := Lib.hid (HSp.out.grew g3)
              have hwt := hwp.grew g3
              clear HSp HCp HOp hwp hp3 g3
              have hnew := fun o => blk_new w3 o
              have hal := fun o => (Grew.refl w3).alloc o
              go_wp2_with fail
              refine (join1 9 _ (by first | decide | (have := hss; omega) | (have := tx_size hxx.1; have := tx_size hyy.1; first | (show (tx x).size ≤ _; omega) | (show (tx y).size ≤ _; omega))) _ _ _ 1 _ (blk_lt (hnew _)) (by rw [blk_cell (hnew _)]; rfl) (P3.out.grew (hal _)) (by omega)).mono ?_
              rintro e wz ⟨vz, rfl, hpz, hgz⟩
              go_wp2_with fail
              go_ret
              have gz := Grew.trans (hal _) hgz
              exact ⟨_, rfl, (hpz.base (Nat.le_trans hwt.size (hal _).size)).le (by omega), HST.out.grew gz, hwt.grew gz⟩

            | false =>
              go_wp2_with fail
              refine (l26Var_c _ _).mono ?_
              rintro e w3 ⟨v3, rfl, hp3, hg3⟩
              go_wp2_with fail
              go_ret
              have g3 := hg1.trans hg3
              exact ⟨_, rfl, (hp3.base (Nat.le_trans hwp.size hg1.size)).le (by omega), HSp.out.grew g3, hwp.grew g3⟩
        · generalize kindOf A = K at *
          go_wp2_with fail
          clear HPn kp
          refine (says_w _ _ _ _ HOp.out.strs).mono ?_
          rintro e w1 ⟨q1, rfl, hg1⟩
          cases q1 with
          | true =>
            go_wp2_with fail
            refine (l26Place_c _ _ _ _ (HOp.out.grew hg1).strs).mono ?_
            rintro e w2 ⟨r2, rfl, hg2⟩
            go_wp2_with fail
            refine (l26Var_c _ _).mono ?_
            rintro e w3 ⟨v3, rfl, hp3, hg3⟩
            obtain ⟨A3, m3, c3, rfl⟩ := hp3.slice
            have P3 := Lib.hid hp3
            have g3 := (hg1.trans hg2).trans hg3
            have HST := Lib.hid (HSp.out.grew g3)
            have hwt := hwp.grew g3
            clear HSp HCp HOp hwp hp3 g3
            have hnew := fun o => blk_new w3 o
            have hal := fun o => (Grew.refl w3).alloc o
            go_wp2_with fail
            refine (join1 9 _ (by first | decide | (have := hss; omega) | (have := tx_size hxx.1; have := tx_size hyy.1; first | (show (tx x).size ≤ _; omega) | (show (tx y).size ≤ _; omega))) _ _ _ 1 _ (blk_lt (hnew _)) (by rw [blk_cell (hnew _)]; rfl) (P3.out.grew (hal _)) (by omega)).mono ?_
            rintro e wz ⟨vz, rfl, hpz, hgz⟩
            go_wp2_with fail
            go_ret
            have gz := Grew.trans (hal _) hgz
            exact ⟨_, rfl, (hpz.base (Nat.le_trans hwt.size (hal _).size)).le (by omega), HST.out.grew gz, hwt.grew gz⟩

          | false =>
            go_wp2_with fail
            refine (l26Var_c _ _).mono ?_
            rintro e w3 ⟨v3, rfl, hp3, hg3⟩
            go_wp2_with fail
            go_ret
            have g3 := hg1.trans hg3
            exact ⟨_, rfl, (hp3.base (Nat.le_trans hwp.size hg1.size)).le (by omega), HSp.out.grew g3, hwp.grew g3⟩

  | true =>
    have hal0 := fun o => (Grew.refl wa).alloc o
    have hnew0 := fun o => blk_new wa o
    go_wp2_with fail
    refine (l01Next_c g cv N 3 _ (HS.out.grew (hal0 _)) (by omega)).mono ?_
    rintro e wc ⟨rc, rfl, hrc0, hrc1, _, hs, hq⟩
    have hrc2 := hrc1 (by omega)
    obtain ⟨rc, rfl⟩ : ∃ k : Nat, rc = (k : Int) := ⟨rc.toNat, by omega⟩
    have hlt := HS.out.lt
    have hcell : ∃ u, GoalOk u ∧ wc.cell? ⟨wa.heap.size, rc, none⟩ = some (.string u) := by
      rcases (by omega : rc = 0 ∨ rc = 1 ∨ rc = 2) with rfl | rfl | rfl
      · exact ⟨_, p_ok, (hq.cell (p := ⟨wa.heap.size, 0, none⟩) (blk_lt (hnew0 _)) (by show wa.heap.size ≠ g; omega)).trans (by rw [blk_cell (hnew0 _)]; rfl)⟩
      · exact ⟨_, q_ok, (hq.cell (p := ⟨wa.heap.size, 1, none⟩) (blk_lt (hnew0 _)) (by show wa.heap.size ≠ g; omega)).trans (by rw [blk_cell (hnew0 _)]; rfl)⟩
      · exact ⟨_, pp_ok, (hq.cell (p := ⟨wa.heap.size, 2, none⟩) (blk_lt (hnew0 _)) (by show wa.heap.size ≠ g; omega)).trans (by rw [blk_cell (hnew0 _)]; rfl)⟩
    obtain ⟨u, hu, hcu⟩ := hcell
    have hus := hu.size
    replace HS := Lib.hid hs
    replace HC := Lib.hid ((HC.out.grew (hal0 _)).src hq)
    replace hw := (hw.grew (hal0 _)).trans hq
    clear hs hq hal0 hnew0 hlt hrc1
    by_cases h10 : nv < 10
    · go_wp2_with fail
      clear hcu
      refine (l01Next_c g cv N 3 _ HS.out (by omega)).mono ?_
      rintro e wd ⟨rd, rfl, _, _, _, hs, hq⟩
      replace HS := Lib.hid hs
      replace HC := Lib.hid (HC.out.src hq)
      replace hw := hw.trans hq
      clear hs hq
      cases b0 : (rd == 0) with
      | true =>
        go_wp2_with fail
        have hlt := HS.out.lt
        refine (hE1 s hs0 _ _ HS.out HC.out).mono ?_
        rintro e w1 ⟨v1, rfl, hp, hs, hq⟩
        obtain ⟨A1, m1, c1, rfl⟩ := hp.slice
        have P1 := Lib.hid (hp.base hlt)
        clear hp hlt
        replace HC := Lib.hid (HC.out.src hq)
        replace hw := hw.trans hq
        replace HS := Lib.hid hs
        clear hq hs
        go_wp2_with fail
        have hlt := HS.out.lt
        refine (hE0 u hu _ _ HS.out HC.out).mono ?_
        rintro e w2 ⟨v2, rfl, hp, hs, hq⟩
        obtain ⟨A2, m2, c2, rfl⟩ := hp.slice
        have P2 := Lib.hid (hp.base hlt)
        clear hp hlt
        replace P1 := Lib.hid (P1.out.src (Nat.lt_succ_self g) hq)
        replace HC := Lib.hid (HC.out.src hq)
        replace hw := hw.trans hq
        replace HS := Lib.hid hs
        clear hq hs
        have hnew := fun o => blk_new w2 o
        have hal := fun o => (Grew.refl w2).alloc o
        go_wp2_with fail
        have hlt := HS.out.lt
        refine (join2 3 _ (by first | decide | omega) _ _ _ _ _ mE mE _ (blk_lt (hnew _)) (by rw [blk_cell (hnew _)]; rfl) (by rw [blk_cell (hnew _)]; rfl) (P1.out.grew (hal _)) (P2.out.grew (hal _)) (by omega) (by omega) ).mono ?_
        rintro e w3 ⟨v3, rfl, hp, hg⟩
        have hg2 := Grew.trans (hal _) hg
        obtain ⟨A3, m3, c3, rfl⟩ := hp.slice
        have PF := hp.base (Nat.le_trans hw.size (hal _).size)
        have P3 := Lib.hid (hp.base (Nat.le_trans hlt (hal _).size))
        clear hp hlt hg hnew hal
        clear P1
        clear P2
        replace HC := Lib.hid (HC.out.grew hg2)
        replace hw := hw.grew hg2
        replace HS := Lib.hid (HS.out.grew hg2)
        clear hg2
        clear PF
        have hnew := fun o => blk_new w3 o
        have hal := fun o => (Grew.refl w3).alloc o
        go_wp2_with fail
        have hlt := HS.out.lt
        refine (join1 4 _ (by first | decide | omega) _ _ _ _ _ (blk_lt (hnew _)) (by rw [blk_cell (hnew _)]; rfl) (P3.out.grew (hal _)) (by omega) ).mono ?_
        rintro e w4 ⟨v4, rfl, hp, hg⟩
        have hg2 := Grew.trans (hal _) hg
        obtain ⟨A4, m4, c4, rfl⟩ := hp.slice
        have PF := hp.base (Nat.le_trans hw.size (hal _).size)
        have P4 := Lib.hid (hp.base (Nat.le_trans hlt (hal _).size))
        clear hp hlt hg hnew hal
        clear P3
        replace HC := Lib.hid (HC.out.grew hg2)
        replace hw := hw.grew hg2
        replace HS := Lib.hid (HS.out.grew hg2)
        clear hg2
        go_wp2_with fail
        go_ret
        exact ⟨_, rfl, PF.le (by omega), HS.out, hw⟩
      | false =>
        cases b1 : (rd == 1) with
        | true =>
          have hal := fun o => (Grew.refl wd).alloc o
          have hlit := lit1 wd (u)
          go_wp2_with fail
          refine (with_ctx (n := nv) _ _ (u) ((HC.out.lens rfl).grew (hal _)) (by omega) (HS.out.grew (hal _)).lt (by omega) hlit).mono ?_
          rintro e w1 ⟨v1, rfl, hc, hg⟩
          have hg2 := Grew.trans (hal _) hg
          obtain ⟨A1, m1, c1, rfl, _, _⟩ := hc.slice
          have CX := Lib.hid (hc.le (show nv + 1 ≤ 12 by omega))
          clear hc hg hal hlit
          replace HC := Lib.hid (HC.out.grew hg2)
          replace hw := hw.grew hg2
          replace HS := Lib.hid (HS.out.grew hg2)
          clear hg2
          go_wp2_with fail
          have hlt := HS.out.lt
          refine (hE1 s hs0 _ _ HS.out CX.out).mono ?_
          rintro e w2 ⟨v2, rfl, hp, hs, hq⟩
          obtain ⟨A2, m2, c2, rfl⟩ := hp.slice
          have P2 := Lib.hid (hp.base hlt)
          clear hp hlt
          replace HC := Lib.hid (HC.out.src hq)
          replace CX := Lib.hid (CX.out.src hq)
          replace hw := hw.trans hq
          replace HS := Lib.hid hs
          clear hq hs
          clear CX
          have hnew := fun o => blk_new w2 o
          have hal := fun o => (Grew.refl w2).alloc o
          go_wp2_with fail
          have hlt := HS.out.lt
          refine (join1 1 _ (by first | decide | omega) _ _ _ mE _ (blk_lt (hnew _)) (by rw [blk_cell (hnew _)]; rfl) (P2.out.grew (hal _)) (by omega) ).mono ?_
          rintro e w3 ⟨v3, rfl, hp, hg⟩
          have hg2 := Grew.trans (hal _) hg
          obtain ⟨A3, m3, c3, rfl⟩ := hp.slice
          have PF := hp.base (Nat.le_trans hw.size (hal _).size)
          have P3 := Lib.hid (hp.base (Nat.le_trans hlt (hal _).size))
          clear hp hlt hg hnew hal
          clear P2
          replace HC := Lib.hid (HC.out.grew hg2)
          replace hw := hw.grew hg2
          replace HS := Lib.hid (HS.out.grew hg2)
          clear hg2
          clear PF
          go_wp2_with fail
          have hlt := HS.out.lt
          refine (hE1 u hu _ _ HS.out HC.out).mono ?_
          rintro e w4 ⟨v4, rfl, hp, hs, hq⟩
          obtain ⟨A4, m4, c4, rfl⟩ := hp.slice
          have P4 := Lib.hid (hp.base hlt)
          clear hp hlt
          replace P3 := Lib.hid (P3.out.src (Nat.lt_succ_self g) hq)
          replace HC := Lib.hid (HC.out.src hq)
          replace hw := hw.trans hq
          replace HS := Lib.hid hs
          clear hq hs
          have hnew := fun o => blk_new w4 o
          have hal := fun o => (Grew.refl w4).alloc o
          go_wp2_with fail
          have hlt := HS.out.lt
          refine (join2 2 _ (by first | decide | omega) _ _ _ _ _ _ mE _ (blk_lt (hnew _)) (by rw [blk_cell (hnew _)]; rfl) (by rw [blk_cell (hnew _)]; rfl) (P3.out.grew (hal _)) (P4.out.grew (hal _)) (by omega) (by omega) ).mono ?_
          rintro e w5 ⟨v5, rfl, hp, hg⟩
          have hg2 := Grew.trans (hal _) hg
          obtain ⟨A5, m5, c5, rfl⟩ := hp.slice
          have PF := hp.base (Nat.le_trans hw.size (hal _).size)
          have P5 := Lib.hid (hp.base (Nat.le_trans hlt (hal _).size))
          clear hp hlt hg hnew hal
          clear P3
          clear P4
          replace HC := Lib.hid (HC.out.grew hg2)
          replace hw := hw.grew hg2
          replace HS := Lib.hid (HS.out.grew hg2)
          clear hg2
          go_wp2_with fail
          go_ret
          exact ⟨_, rfl, PF.le (by omega), HS.out, hw⟩
        | false =>
          go_wp2_with fail
          have hlt := HS.out.lt
          refine (hE1 u hu _ _ HS.out HC.out).mono ?_
          rintro e w1 ⟨v1, rfl, hp, hs, hq⟩
          obtain ⟨A1, m1, c1, rfl⟩ := hp.slice
          have P1 := Lib.hid (hp.base hlt)
          clear hp hlt
          replace HC := Lib.hid (HC.out.src hq)
          replace hw := hw.trans hq
          replace HS := Lib.hid hs
          clear hq hs
          have hnew := fun o => blk_new w1 o
          have hal := fun o => (Grew.refl w1).alloc o
          go_wp2_with fail
          have hlt := HS.out.lt
          refine (join1 6 _ (by first | decide | omega) _ _ _ mE _ (blk_lt (hnew _)) (by rw [blk_cell (hnew _)]; rfl) (P1.out.grew (hal _)) (by omega) ).mono ?_
          rintro e w2 ⟨v2, rfl, hp, hg⟩
          have hg2 := Grew.trans (hal _) hg
          obtain ⟨A2, m2, c2, rfl⟩ := hp.slice
          have PF := hp.base (Nat.le_trans hw.size (hal _).size)
          have P2 := Lib.hid (hp.base (Nat.le_trans hlt (hal _).size))
          clear hp hlt hg hnew hal
          clear P1
          replace HC := Lib.hid (HC.out.grew hg2)
          replace hw := hw.grew hg2
          replace HS := Lib.hid (HS.out.grew hg2)
          clear hg2
          clear PF
          have hal := fun o => (Grew.refl w2).alloc o
          have hlit := lit1 w2 (u)
          go_wp2_with fail
          refine (with_ctx (n := nv) _ _ (u) ((HC.out.lens rfl).grew (hal _)) (by omega) (HS.out.grew (hal _)).lt (by omega) hlit).mono ?_
          rintro e w3 ⟨v3, rfl, hc, hg⟩
          have hg2 := Grew.trans (hal _) hg
          obtain ⟨A3, m3, c3, rfl, _, _⟩ := hc.slice
          have CX := Lib.hid (hc.le (show nv + 1 ≤ 12 by omega))
          clear hc hg hal hlit
          replace P2 := Lib.hid (P2.out.grew hg2)
          replace HC := Lib.hid (HC.out.grew hg2)
          replace hw := hw.grew hg2
          replace HS := Lib.hid (HS.out.grew hg2)
          clear hg2
          go_wp2_with fail
          have hlt := HS.out.lt
          refine (hE1 s hs0 _ _ HS.out CX.out).mono ?_
          rintro e w4 ⟨v4, rfl, hp, hs, hq⟩
          obtain ⟨A4, m4, c4, rfl⟩ := hp.slice
          have P4 := Lib.hid (hp.base hlt)
          clear hp hlt
          replace P2 := Lib.hid (P2.out.src (Nat.lt_succ_self g) hq)
          replace HC := Lib.hid (HC.out.src hq)
          replace CX := Lib.hid (CX.out.src hq)
          replace hw := hw.trans hq
          replace HS := Lib.hid hs
          clear hq hs
          clear CX
          have hal := fun o => (Grew.refl w4).alloc o
          have hlit := lit1 w4 (⟨#[113]⟩)
          go_wp2_with fail
          refine (with_ctx (n := nv) _ _ (⟨#[113]⟩) ((HC.out.lens rfl).grew (hal _)) (by omega) (HS.out.grew (hal _)).lt (by decide) hlit).mono ?_
          rintro e w5 ⟨v5, rfl, hc, hg⟩
          have hg2 := Grew.trans (hal _) hg
          obtain ⟨A5, m5, c5, rfl, _, _⟩ := hc.slice
          have CX := Lib.hid (hc.le (show nv + 1 ≤ 12 by omega))
          clear hc hg hal hlit
          replace P2 := Lib.hid (P2.out.grew hg2)
          replace P4 := Lib.hid (P4.out.grew hg2)
          replace HC := Lib.hid (HC.out.grew hg2)
          replace hw := hw.grew hg2
          replace HS := Lib.hid (HS.out.grew hg2)
          clear hg2
          go_wp2_with fail
          have hlt := HS.out.lt
          refine (hE1 s hs0 _ _ HS.out CX.out).mono ?_
          rintro e w6 ⟨v6, rfl, hp, hs, hq⟩
          obtain ⟨A6, m6, c6, rfl⟩ := hp.slice
          have P6 := Lib.hid (hp.base hlt)
          clear hp hlt
          replace P2 := Lib.hid (P2.out.src (Nat.lt_succ_self g) hq)
          replace P4 := Lib.hid (P4.out.src (Nat.lt_succ_self g) hq)
          replace HC := Lib.hid (HC.out.src hq)
          replace CX := Lib.hid (CX.out.src hq)
          replace hw := hw.trans hq
          replace HS := Lib.hid hs
          clear hq hs
          clear CX
          have hnew := fun o => blk_new w6 o
          have hal := fun o => (Grew.refl w6).alloc o
          go_wp2_with fail
          have hlt := HS.out.lt
          refine (join3 8 _ (by first | decide | omega) _ _ _ _ _ _ _ _ mE mE _ (blk_lt (hnew _)) (by rw [blk_cell (hnew _)]; rfl) (by rw [blk_cell (hnew _)]; rfl) (by rw [blk_cell (hnew _)]; rfl) (P2.out.grew (hal _)) (P4.out.grew (hal _)) (P6.out.grew (hal _)) (by omega) (by omega) (by omega) ).mono ?_
          rintro e w7 ⟨v7, rfl, hp, hg⟩
          have hg2 := Grew.trans (hal _) hg
          obtain ⟨A7, m7, c7, rfl⟩ := hp.slice
          have PF := hp.base (Nat.le_trans hw.size (hal _).size)
          have P7 := Lib.hid (hp.base (Nat.le_trans hlt (hal _).size))
          clear hp hlt hg hnew hal
          clear P2
          clear P4
          clear P6
          replace HC := Lib.hid (HC.out.grew hg2)
          replace hw := hw.grew hg2
          replace HS := Lib.hid (HS.out.grew hg2)
          clear hg2
          go_wp2_with fail
          go_ret
          exact ⟨_, rfl, PF.le (by omega), HS.out, hw⟩
    · obtain ⟨L, hoL, hfL, hnL0, hnL⟩ := HC.out
      obtain ⟨A0, c0, hve⟩ := strs_slice hoL.strs
      simp only [Value.slice.injEq] at hve
      obtain ⟨rfl, rfl, rfl⟩ := hve
      go_wp2_with fail
      refine (l01Next_c g cv N L.length _ HS.out (by omega)).mono ?_
      rintro e wb ⟨rs, rfl, hrs0, hrs1, _, hSb, hob⟩
      have hrs2 := hrs1 (by omega)
      obtain ⟨rs, rfl⟩ : ∃ k : Nat, rs = (k : Int) := ⟨rs.toNat, by omega⟩
      have HSb := Lib.hid hSb
      have HCb := Lib.hid (HC.out.src hob)
      have HOb := Lib.hid (hoL.src (by omega) hob)
      have hwb := hw.trans hob
      clear hSb hob hoL HS HC hrs1 hrs0
      have hop := HOb.out.strs.open_
      rcases hop with ⟨_, rfl⟩ | ⟨b, o, c, hv, hc, hm, hb, hcell⟩
      · simp at hnL0
      simp only [Value.slice.injEq] at hv
      obtain ⟨rfl, -, rfl⟩ := hv
      have HL := Lib.hid hcell
      clear hcell
      generalize hN : L.length = n at *
      clear hN
      go_wp2_with fail
      go_loopw [11] (fun i wr => ∃ j : Nat, j ≤ n ∧ i = .int .i64 j ∧ Grew wb wr) (fun i _ => n - (intOf i).toNat)
      case atStart => exact ⟨0, Nat.zero_le _, rfl, Grew.refl _⟩
      case round =>
        obtain ⟨j, hj, rfl, hB⟩ := hrel
        by_cases hlt : j < n
        · have hq : ((j : Int) + (rs : Int)).tmod (n : Int) = (((j + rs) % n : Nat) : Int) := rfl
          have hq' : ((j : Int) + (rs : Int)) % (n : Int) = (((j + rs) % n : Nat) : Int) := rfl
          have hql : (j + rs) % n < n := Nat.mod_lt _ (by omega)
          generalize (j + rs) % n = q at *
          have k1 := HL.out q hql _ hB
          generalize st L q = x at *
          go_wp2_with fail
          · refine (l26Var_c _ _).mono ?_
            rintro e wv ⟨vv, rfl, hp, hgv⟩
            go_wp2_with fail
            go_ret
            have gv := hB.trans hgv
            exact ⟨_, rfl, (hp.base (Nat.le_trans hwb.size hB.size)).le (by omega), HSb.out.grew gv, hwb.grew gv⟩
          · go_roundw
            case rel => exact ⟨j + 1, by omega, by go_num, hB⟩
            case measure => simp [intOf]; omega
        · clear hj HL
          have HSc := Lib.hid (HSb.out.grew hB)
          have HCc := Lib.hid (HCb.out.grew hB)
          have HOc := Lib.hid (HOb.out.grew hB)
          have hwc := hwb.grew hB
          clear HSb HCb HOb hwb hB
          go_wp2_with fail
          clear hlt
          refine (HP.out _).mono ?_
          rintro e wp ⟨vp, rfl, hop, hgp⟩
          have hgB := HSc.out.lt
          have HSp := Lib.hid (HSc.out.grew hgp)
          have HCp := Lib.hid (HCc.out.grew hgp)
          have HOp := Lib.hid (HOc.out.grew hgp)
          have hwp := hwc.grew hgp
          clear HSc HCc HOc hwc hgp
          obtain ⟨bp, op, np, cp, hvp, hnp, -, hcp⟩ := head_t hop.nodes
          subst hvp
          have kp := hcp wp (Grew.refl wp)
          have HPn := Lib.hid hop
          clear hop hcp
          rcases goal_cases A with ⟨hk, x, y, hT⟩ | ⟨hk, x, y, hT⟩ | ⟨hk, x, y, hT⟩ | ⟨hk2, hk3, hk4⟩
          · obtain ⟨hxx, hyy⟩ := FmOk.bin (k := kindOf A) hT hA
            rw [hk] at kp
            obtain ⟨mx, my, hX, hY, hmm⟩ := hI x y hT
            have hlx := hxx.1
            have hly := hyy.1

            go_wp2_with fail
            refine (left_t hT hA _ _ HPn.out.nodes).mono ?_
            rintro e wl1 ⟨vl1, rfl, hnl1, hgl1⟩
            obtain ⟨Al1, cl1, rfl⟩ := nodes_slice hnl1
            go_wp2_with fail
            refine (l02Text_c x _ _ hnl1 (by omega)).mono ?_
            rintro e wm1 ⟨rfl, hgm1⟩
            have gm1 := hgl1.trans hgm1
            clear hgl1 hgm1 hnl1

            have HSl := Lib.hid (HSp.out.grew gm1)
            have HCl := Lib.hid (HCp.out.grew gm1)
            have hwl := hwp.grew gm1
            have HPl := Lib.hid (HPn.out.grew gm1)
            clear HSp HCp HOp HPn kp
            go_wp2_with fail
            refine (hX _ _ HSl.out HCl.out).mono ?_
            rintro e w3 ⟨v3, rfl, hp3, hs3, hq3⟩
            obtain ⟨A3, m3, c3, rfl⟩ := hp3.slice
            have hg3 := HSl.out.lt
            have HS3 := Lib.hid hs3
            have HC3 := Lib.hid (HCl.out.src hq3)
            have HP3 := Lib.hid (own_src HPl.out hgB hq3)
            have hw3 := hwl.trans hq3
            have P3 := Lib.hid hp3
            clear HSl HCl hwl HPl hp3 hs3 hq3 gm1

            go_wp2_with fail
            refine (right_t hT hA _ _ HP3.out.nodes).mono ?_
            rintro e wl2 ⟨vl2, rfl, hnl2, hgl2⟩
            obtain ⟨Al2, cl2, rfl⟩ := nodes_slice hnl2
            go_wp2_with fail
            refine (l02Text_c y _ _ hnl2 (by omega)).mono ?_
            rintro e wm2 ⟨rfl, hgm2⟩
            have gm2 := hgl2.trans hgm2
            clear hgl2 hgm2 hnl2

            have HSr := Lib.hid (HS3.out.grew gm2)
            have HCr := Lib.hid (HC3.out.grew gm2)
            have hwr := hw3.grew gm2
            have P4 := Lib.hid (P3.out.grew gm2)
            clear HS3 HC3 hw3 HP3 P3 gm2
            go_wp2_with fail
            refine (hY _ _ HSr.out HCr.out).mono ?_
            rintro e w6 ⟨v6, rfl, hp6, hs6, hq6⟩
            obtain ⟨A6, m6, c6, rfl⟩ := hp6.slice
            have P5 := Lib.hid (P4.out.src hg3 hq6)
            have P6 := Lib.hid hp6
            have HST := Lib.hid hs6
            have hwt := hwr.trans hq6
            clear hp6 hs6 hq6 HSr HCr hwr P4

            have hnew := fun o => blk_new w6 o
            have hal := fun o => (Grew.refl w6).alloc o

            go_wp2_with fail
            refine (join2 3 _ (by decide) _ _ _ _ _ mx my _ (blk_lt (hnew _)) (by rw [blk_cell (hnew _)]; rfl) (by rw [blk_cell (hnew _)]; rfl) (P5.out.grew (hal _)) (P6.out.grew (hal _)) (by omega) (by omega)).mono ?_
            rintro e wz ⟨vz, rfl, hpz, hgz⟩

            go_wp2_with fail
            go_ret
            have gz := Grew.trans (hal _) hgz
            exact ⟨_, rfl, (hpz.base (Nat.le_trans hwt.size (hal _).size)).le (by omega), HST.out.grew gz, hwt.grew gz⟩
          · obtain ⟨hxx, hyy⟩ := FmOk.bin (k := kindOf A) hT hA
            rw [hk] at kp
            obtain ⟨mx, my, hX, hY, hmm⟩ := hI x y hT
            have hlx := hxx.1
            have hly := hyy.1

            go_wp2_with fail
            refine (l01Next_c g cv N 2 _ HSp.out (by omega)).mono ?_
            rintro e w2 ⟨r2, rfl, _, _, _, hs2, hq2⟩
            have HSz := Lib.hid hs2
            have HCz := Lib.hid (HCp.out.src hq2)
            have HPz := Lib.hid (own_src HPn.out hgB hq2)
            have hwz := hwp.trans hq2
            clear HSp HCp HOp HPn kp hs2 hq2
            cases b2 : (r2 == 0) with
            | true =>
              go_wp2_with fail
              refine (right_t hT hA _ _ HPz.out.nodes).mono ?_
              rintro e wl1 ⟨vl1, rfl, hnl1, hgl1⟩
              obtain ⟨Al1, cl1, rfl⟩ := nodes_slice hnl1
              go_wp2_with fail
              refine (l02Text_c y _ _ hnl1 (by omega)).mono ?_
              rintro e wm1 ⟨rfl, hgm1⟩
              have gm1 := hgl1.trans hgm1
              clear hgl1 hgm1 hnl1

              have HP2 := Lib.hid (HPz.out.grew gm1)

              go_wp2_with fail
              refine (left_t hT hA _ _ HP2.out.nodes).mono ?_
              rintro e wl2 ⟨vl2, rfl, hnl2, hgl2⟩
              obtain ⟨Al2, cl2, rfl⟩ := nodes_slice hnl2
              go_wp2_with fail
              refine (l02Text_c x _ _ hnl2 (by omega)).mono ?_
              rintro e wm2 ⟨rfl, hgm2⟩
              have gm2 := hgl2.trans hgm2
              clear hgl2 hgm2 hnl2

              have gm := gm1.trans gm2
              have HSr := Lib.hid (HSz.out.grew gm)
              have HCr := Lib.hid (HCz.out.grew gm)
              have hwr := hwz.grew gm
              clear HSz HCz hwz HP2 HPz gm1 gm2 gm
              go_wp2_with fail
              refine (hX _ _ HSr.out HCr.out).mono ?_
              rintro e w6 ⟨v6, rfl, hp6, hs6, hq6⟩
              obtain ⟨A6, m6, c6, rfl⟩ := hp6.slice
              have P6 := Lib.hid hp6
              have HST := Lib.hid hs6
              have hwt := hwr.trans hq6
              clear hp6 hs6 hq6 HSr HCr hwr

              have hnew := fun o => blk_new w6 o
              have hal := fun o => (Grew.refl w6).alloc o

              go_wp2_with fail
              refine (join1 6 _ (by first | decide | (have := hss; omega) | (have := tx_size hxx.1; have := tx_size hyy.1; first | (show (tx x).size ≤ _; omega) | (show (tx y).size ≤ _; omega))) _ _ _ mx _ (blk_lt (hnew _)) (by rw [blk_cell (hnew _)]; rfl) (P6.out.grew (hal _)) (by omega)).mono ?_
              rintro e wz ⟨vz, rfl, hpz, hgz⟩

              go_wp2_with fail
              go_ret
              have gz := Grew.trans (hal _) hgz
              exact ⟨_, rfl, (hpz.base (Nat.le_trans hwt.size (hal _).size)).le (by omega), HST.out.grew gz, hwt.grew gz⟩
            | false =>
              go_wp2_with fail
              refine (left_t hT hA _ _ HPz.out.nodes).mono ?_
              rintro e wl1 ⟨vl1, rfl, hnl1, hgl1⟩
              obtain ⟨Al1, cl1, rfl⟩ := nodes_slice hnl1
              go_wp2_with fail
              refine (l02Text_c x _ _ hnl1 (by omega)).mono ?_
              rintro e wm1 ⟨rfl, hgm1⟩
              have gm1 := hgl1.trans hgm1
              clear hgl1 hgm1 hnl1

              have HP2 := Lib.hid (HPz.out.grew gm1)

              go_wp2_with fail
              refine (right_t hT hA _ _ HP2.out.nodes).mono ?_
              rintro e wl2 ⟨vl2, rfl, hnl2, hgl2⟩
              obtain ⟨Al2, cl2, rfl⟩ := nodes_slice hnl2
              go_wp2_with fail
              refine (l02Text_c y _ _ hnl2 (by omega)).mono ?_
              rintro e wm2 ⟨rfl, hgm2⟩
              have gm2 := hgl2.trans hgm2
              clear hgl2 hgm2 hnl2

              have gm := gm1.trans gm2
              have HSr := Lib.hid (HSz.out.grew gm)
              have HCr := Lib.hid (HCz.out.grew gm)
              have hwr := hwz.grew gm
              clear HSz HCz hwz HP2 HPz gm1 gm2 gm
              go_wp2_with fail
              refine (hY _ _ HSr.out HCr.out).mono ?_
              rintro e w6 ⟨v6, rfl, hp6, hs6, hq6⟩
              obtain ⟨A6, m6, c6, rfl⟩ := hp6.slice
              have P6 := Lib.hid hp6
              have HST := Lib.hid hs6
              have hwt := hwr.trans hq6
              clear hp6 hs6 hq6 HSr HCr hwr

              have hnew := fun o => blk_new w6 o
              have hal := fun o => (Grew.refl w6).alloc o

              go_wp2_with fail
              refine (join1 7 _ (by first | decide | (have := hss; omega) | (have := tx_size hxx.1; have := tx_size hyy.1; first | (show (tx x).size ≤ _; omega) | (show (tx y).size ≤ _; omega))) _ _ _ my _ (blk_lt (hnew _)) (by rw [blk_cell (hnew _)]; rfl) (P6.out.grew (hal _)) (by omega)).mono ?_
              rintro e wz ⟨vz, rfl, hpz, hgz⟩

              go_wp2_with fail
              go_ret
              have gz := Grew.trans (hal _) hgz
              exact ⟨_, rfl, (hpz.base (Nat.le_trans hwt.size (hal _).size)).le (by omega), HST.out.grew gz, hwt.grew gz⟩
          · obtain ⟨hxx, hyy⟩ := FmOk.bin (k := kindOf A) hT hA
            rw [hk] at kp
            obtain ⟨mx, my, hX, hY, hmm⟩ := hI x y hT
            have hlx := hxx.1
            have hly := hyy.1

            by_cases h12 : n < 12
            · go_wp2_with fail
              refine (left_t hT hA _ _ HPn.out.nodes).mono ?_
              rintro e wl1 ⟨vl1, rfl, hnl1, hgl1⟩
              obtain ⟨Al1, cl1, rfl⟩ := nodes_slice hnl1
              go_wp2_with fail
              refine (l02Text_c x _ _ hnl1 (by omega)).mono ?_
              rintro e wm1 ⟨rfl, hgm1⟩
              have gm1 := hgl1.trans hgm1
              clear hgl1 hgm1 hnl1

              have HPl := Lib.hid (HPn.out.grew gm1)
              have HSl := Lib.hid (HSp.out.grew gm1)
              have HCl := Lib.hid (HCp.out.grew gm1)
              have hwl := hwp.grew gm1
              clear HSp HCp HOp HPn kp hwp gm1

              go_wp2_with fail
              refine (left_t hT hA _ _ HPl.out.nodes).mono ?_
              rintro e wl2 ⟨vl2, rfl, hnl2, hgl2⟩
              obtain ⟨Al2, cl2, rfl⟩ := nodes_slice hnl2
              go_wp2_with fail
              refine (l02Text_c x _ _ hnl2 (by omega)).mono ?_
              rintro e wm2 ⟨rfl, hgm2⟩
              have gm2 := hgl2.trans hgm2
              clear hgl2 hgm2 hnl2

              have HPm := Lib.hid (HPl.out.grew gm2)
              have HSm := Lib.hid (HSl.out.grew gm2)
              have HCm := Lib.hid (HCl.out.grew gm2)
              have hwm := hwl.grew gm2
              clear HSl HCl HPl hwl gm2
              have hal1 := fun o => (Grew.refl wm2).alloc o
              have hlit := lit1 wm2 (tx x)
              go_wp2_with fail
              refine (with_ctx (n := n) _ _ (tx x) (((HCm.out).lens rfl).grew (hal1 _)) (by omega) (HSm.out.grew (hal1 _)).lt (by have := tx_size hxx.1; omega) hlit).mono ?_
              rintro e w3 ⟨v3, rfl, hc3, hg3⟩
              obtain ⟨A3, m3, c3, rfl, _, _⟩ := hc3.slice
              have g3 := Grew.trans (hal1 _) hg3
              have HC3 := Lib.hid (hc3.le (show n + 1 ≤ 12 by omega))
              have HS3 := Lib.hid (HSm.out.grew g3)
              have HP3 := Lib.hid (HPm.out.grew g3)
              have hw3 := hwm.grew g3
              clear HSm HCm HPm hwm hc3 hg3 g3 hal1 hlit

              go_wp2_with fail
              refine (right_t hT hA _ _ HP3.out.nodes).mono ?_
              rintro e wl3 ⟨vl3, rfl, hnl3, hgl3⟩
              obtain ⟨Al3, cl3, rfl⟩ := nodes_slice hnl3
              go_wp2_with fail
              refine (l02Text_c y _ _ hnl3 (by omega)).mono ?_
              rintro e wm3 ⟨rfl, hgm3⟩
              have gm3 := hgl3.trans hgm3
              clear hgl3 hgm3 hnl3

              have HSr := Lib.hid (HS3.out.grew gm3)
              have HCr := Lib.hid (HC3.out.grew gm3)
              have hwr := hw3.grew gm3
              clear HS3 HC3 HP3 hw3 gm3
              go_wp2_with fail
              refine (hY _ _ HSr.out HCr.out).mono ?_
              rintro e w6 ⟨v6, rfl, hp6, hs6, hq6⟩
              obtain ⟨A6, m6, c6, rfl⟩ := hp6.slice
              have P6 := Lib.hid hp6
              have HST := Lib.hid hs6
              have hwt := hwr.trans hq6
              clear hp6 hs6 hq6 HSr HCr hwr

              have hnew := fun o => blk_new w6 o
              have hal := fun o => (Grew.refl w6).alloc o

              go_wp2_with fail
              refine (join1 1 _ (by first | decide | (have := hss; omega) | (have := tx_size hxx.1; have := tx_size hyy.1; first | (show (tx x).size ≤ _; omega) | (show (tx y).size ≤ _; omega))) _ _ _ my _ (blk_lt (hnew _)) (by rw [blk_cell (hnew _)]; rfl) (P6.out.grew (hal _)) (by omega)).mono ?_
              rintro e wz ⟨vz, rfl, hpz, hgz⟩

              go_wp2_with fail
              go_ret
              have gz := Grew.trans (hal _) hgz
              exact ⟨_, rfl, (hpz.base (Nat.le_trans hwt.size (hal _).size)).le (by omega), HST.out.grew gz, hwt.grew gz⟩
            · go_wp2_with fail
              clear HPn kp
              refine (says_w _ _ _ _ HOp.out.strs).mono ?_
              rintro e w1 ⟨q1, rfl, hg1⟩
              cases q1 with
              | true =>
                go_wp2_with fail
                refine (l26Place_c _ _ _ _ (HOp.out.grew hg1).strs).mono ?_
                rintro e w2 ⟨r2, rfl, hg2⟩
                go_wp2_with fail
                refine (l26Var_c _ _).mono ?_
                rintro e w3 ⟨v3, rfl, hp3, hg3⟩
                obtain ⟨A3, m3, c3, rfl⟩ := hp3.slice
                have P3 := Lib.hid hp3
                have g3 := (hg1.trans hg2).trans hg3
                have HST := Lib.hid (HSp.out.grew g3)
                have hwt := hwp.grew g3
                clear HSp HCp HOp hwp hp3 g3
                have hnew := fun o => blk_new w3 o
                have hal := fun o => (Grew.refl w3).alloc o
                go_wp2_with fail
                refine (join1 9 _ (by first | decide | (have := hss; omega) | (have := tx_size hxx.1; have := tx_size hyy.1; first | (show (tx x).size ≤ _; omega) | (show (tx y).size ≤ _; omega))) _ _ _ 1 _ (blk_lt (hnew _)) (by rw [blk_cell (hnew _)]; rfl) (P3.out.grew (hal _)) (by omega)).mono ?_
                rintro e wz ⟨vz, rfl, hpz, hgz⟩
                go_wp2_with fail
                go_ret
                have gz := Grew.trans (hal _) hgz
                exact ⟨_, rfl, (hpz.base (Nat.le_trans hwt.size (hal _).size)).le (by omega), HST.out.grew gz, hwt.grew gz⟩

              | false =>
                go_wp2_with fail
                refine (l26Var_c _ _).mono ?_
                rintro e w3 ⟨v3, rfl, hp3, hg3⟩
                go_wp2_with fail
                go_ret
                have g3 := hg1.trans hg3
                exact ⟨_, rfl, (hp3.base (Nat.le_trans hwp.size hg1.size)).le (by omega), HSp.out.grew g3, hwp.grew g3⟩
          · generalize kindOf A = K at *
            go_wp2_with fail
            clear HPn kp
            refine (says_w _ _ _ _ HOp.out.strs).mono ?_
            rintro e w1 ⟨q1, rfl, hg1⟩
            cases q1 with
            | true =>
              go_wp2_with fail
              refine (l26Place_c _ _ _ _ (HOp.out.grew hg1).strs).mono ?_
              rintro e w2 ⟨r2, rfl, hg2⟩
              go_wp2_with fail
              refine (l26Var_c _ _).mono ?_
              rintro e w3 ⟨v3, rfl, hp3, hg3⟩
              obtain ⟨A3, m3, c3, rfl⟩ := hp3.slice
              have P3 := Lib.hid hp3
              have g3 := (hg1.trans hg2).trans hg3
              have HST := Lib.hid (HSp.out.grew g3)
              have hwt := hwp.grew g3
              clear HSp HCp HOp hwp hp3 g3
              have hnew := fun o => blk_new w3 o
              have hal := fun o => (Grew.refl w3).alloc o
              go_wp2_with fail
              refine (join1 9 _ (by first | decide | (have := hss; omega) | (have := tx_size hxx.1; have := tx_size hyy.1; first | (show (tx x).size ≤ _; omega) | (show (tx y).size ≤ _; omega))) _ _ _ 1 _ (blk_lt (hnew _)) (by rw [blk_cell (hnew _)]; rfl) (P3.out.grew (hal _)) (by omega)).mono ?_
              rintro e wz ⟨vz, rfl, hpz, hgz⟩
              go_wp2_with fail
              go_ret
              have gz := Grew.trans (hal _) hgz
              exact ⟨_, rfl, (hpz.base (Nat.le_trans hwt.size (hal _).size)).le (by omega), HST.out.grew gz, hwt.grew gz⟩

            | false =>
              go_wp2_with fail
              refine (l26Var_c _ _).mono ?_
              rintro e w3 ⟨v3, rfl, hp3, hg3⟩
              go_wp2_with fail
              go_ret
              have g3 := hg1.trans hg3
              exact ⟨_, rfl, (hp3.base (Nat.le_trans hwp.size hg1.size)).le (by omega), HSp.out.grew g3, hwp.grew g3⟩
end Go.Proofs.YtdndclfjeajhiaaGreat

/- The source made: l01From; the damage: l01Damage. -/
namespace Go.Proofs.YtdndclfjeajhiaaGreat
open Go.RowKit

/-- The bytes that came in. -/
def ArgB (w : World) (v : Value) (N : Nat) : Prop :=
  (∃ A c, v = .slice A N c) ∧ N ≤ 9223372036854775807 ∧ (0 < N → ∃ b o c, v = .slice (some ⟨b, o, none⟩) N c ∧ b < w.heap.size ∧ N ≤ c ∧ c ≤ 9223372036854775807 ∧ ∀ j, j < N → ∃ x : Int, 0 ≤ x ∧ x ≤ 255 ∧ w.cell? ⟨b, o + j, none⟩ = some (.int .u8 x))
theorem ArgB.code {w w' : World} {v : Value} {N g : Nat} (h : ArgB w v N) (hN : N ≤ 4096) (hg : Grew w w') (hl : w.heap.size ≤ g) : Code w' g v N := by
  obtain ⟨h1, _, h2⟩ := h
  refine ⟨hN, h1, fun hp => ?_⟩
  obtain ⟨b, o, c, e, hb, hc, hm, hx⟩ := h2 hp
  refine ⟨b, o, c, e, by omega, hc, hm, fun j hj => ?_⟩
  obtain ⟨x, x0, x1, hcell⟩ := hx j hj
  exact ⟨x, x0, x1, (hg.cell (p := ⟨b, o + j, none⟩) hb).trans hcell⟩

theorem l01From_c (v : Value) (N : Nat) (w : World) (h : ArgB w v N) (hN : N ≤ 4096) :
    Calls Tryz.prog 21 #[v] w fun e w' => ∃ g, e = .returned (.pointer (some ⟨g, 0, none⟩)) ∧ w.heap.size ≤ g ∧ Src w' g v N ∧ Grew w w' := by
  have HC := Lib.hid (fun w' (hg : Grew w w') => h.code hN hg (Nat.le_refl w.heap.size))
  obtain ⟨⟨A, c, rfl⟩, hmax, h2⟩ := h
  have H2 := Lib.hid h2
  clear h2
  go_enter Tryz.func21, Tryz.ntmps21
  go_wp2_with fail
  have hnew := fun o => blk_new w o
  go_loopw [4] (fun i wr => ∃ (j : Nat) (x : Int), j ≤ N ∧ i = .int .i64 j ∧ 0 ≤ x ∧ x ≤ 18446744073709551615 ∧ wr.heap[w.heap.size]? = some (.cells #[.slice A N c, .int .i64 0, .int .u64 x] 72 (0, 0)) ∧ Grew w wr) (fun i _ => N - (intOf i).toNat)
  case atStart => exact ⟨0, _, Nat.zero_le _, rfl, by omega, by omega, hnew _, (Grew.refl w).alloc _⟩
  case round =>
    obtain ⟨j, x, hj, rfl, hx0, hx1, hb, hB⟩ := hrel
    by_cases hlt : j < N
    · obtain ⟨b, o, c', e, hbg, hc, hm, hx⟩ := H2.out (by omega)
      obtain ⟨y, hy0, hy1, k1⟩ := hx j hlt
      obtain ⟨rfl, rfl⟩ : A = some ⟨b, o, none⟩ ∧ c = c' := by simpa using e
      have k2 := (hB.cell (p := ⟨b, o + j, none⟩) hbg).trans k1
      have c2 : wr.cell? ⟨w.heap.size, 2, none⟩ = some (.int .u64 x) := by rw [blk_cell hb]; rfl
      have f2 := blk_frozen hb 2
      have HB := Lib.hid hb
      have h4 : (j : Int) < 4096 := by omega
      clear hb e hx k1
      go_wp2_with fail
      have hw0 : ∀ z : Int, 0 ≤ IntKind.u64.wrap z := fun z => by rw [IntKind.wrap_u64]; omega
      have hw1 : ∀ z : Int, IntKind.u64.wrap z ≤ 18446744073709551615 := fun z => by rw [IntKind.wrap_u64]; omega
      have HW0 := Lib.hid hw0
      have HW1 := Lib.hid hw1
      clear hw0 hw1
      go_region
      go_wp2_with fail
      go_roundw
      case rel => exact ⟨j + 1, _, by omega, by go_num, HW0.out _, HW1.out _, blk_set (w := wr.drewN _) HB.out 2 _, (hB.drewN _).setCell (Nat.le_refl _) _⟩
      case measure => simp [intOf]; omega
    · go_wp2_with fail
      go_ret
      exact ⟨_, rfl, Nat.le_refl _, ⟨HC.out _ hB, 0, x, Nat.zero_le _, hx0, hx1, hb⟩, hB⟩
end Go.Proofs.YtdndclfjeajhiaaGreat

/- The drawn input of FnSubjectReduction: l26Of of every goal, l26Assumed, l26Drawn, DrawNormalTerm. -/
namespace Go.Proofs.YtdndclfjeajhiaaGreat
open Go.RowKit
open Fm (Tree)

theorem OfOk.le {g : Nat} {cv : Value} {N : Nat} {s : ByteArray} {d : Int} {m k : Nat} (h : OfOk g cv N s d m) (hm : m ≤ k) : OfOk g cv N s d k := by
  intro W v a b
  refine (h W v a b).mono ?_
  rintro e w1 ⟨v1, rfl, hp, hs, ho⟩
  exact ⟨v1, rfl, hp.le hm, hs, ho⟩
theorem twoF_ok {A x y : Tree} (h : TwoF A x y) (hA : FmOk A) : FmOk x ∧ FmOk y := FmOk.bin h hA
theorem of_zero (g : Nat) (cv : Value) (N : Nat) : ∀ (k : Nat) (A : Tree), FmOk A → (Fm.enc A).length ≤ k → ∀ dep : Int, dep ≤ 0 → (Fm.enc A).length - 50 ≤ dep → OfOk g cv N (tx A) dep (2 * (Fm.enc A).length) := by
  intro k
  induction k with
  | zero => intro A _ h; have := Fm.enc_pos A; omega
  | succ k ih =>
    intro A hA hk dep h0 h1
    have hp := Fm.enc_pos A
    have hl := hA.1
    refine l26Of_no g cv N A hA dep (by omega) h0 _ (by omega) (by omega) ?_
    intro x y hT
    have hlen := hT.len
    obtain ⟨hx, hy⟩ := twoF_ok hT hA
    exact ⟨_, _, ih x hx (by omega) (dep - 1) (by omega) (by omega), ih y hy (by omega) (dep - 1) (by omega) (by omega), by omega⟩
def bdT : Nat → Nat
  | 0 => 80
  | d + 1 => 3 * bdT d + 4
theorem bdT_le (d : Nat) (h : d ≤ 4) : 80 ≤ bdT d ∧ bdT d ≤ 7000 := by
  match d, h with
  | 0, _ => decide
  | 1, _ => decide
  | 2, _ => decide
  | 3, _ => decide
  | 4, _ => decide
theorem of_all (g : Nat) (cv : Value) (N : Nat) : ∀ (d : Nat), d ≤ 4 → ∀ A : Tree, FmOk A → OfOk g cv N (tx A) d (bdT d) := by
  intro d
  induction d with
  | zero =>
    intro _ A hA
    have hl := hA.1
    exact (of_zero g cv N _ A hA (Nat.le_refl _) 0 (by omega) (by omega)).le (by show _ ≤ 80; omega)
  | succ d ih =>
    intro hd A hA
    have IH := ih (by omega)
    have h80 := bdT_le d (by omega)
    have h81 := bdT_le (d + 1) hd
    have e1 : ((d + 1 : Nat) : Int) - 1 = (d : Int) := by omega
    refine l26Of_yes g cv N A hA ((d + 1 : Nat) : Int) (by omega) (by omega) (bdT (d + 1)) (by omega) (by omega) (bdT d) (by show _ ≤ 3 * bdT d + 4; omega) ?_ ?_ ?_
    · rintro s ⟨B, hB, rfl⟩
      rw [e1]; exact IH B hB
    · rintro s ⟨B, hB, rfl⟩
      have hl := hB.1
      exact (of_zero g cv N _ B hB (Nat.le_refl _) 0 (by omega) (by omega)).le (by omega)
    · intro x y hT
      obtain ⟨hx, hy⟩ := twoF_ok hT hA
      rw [e1]
      exact ⟨_, _, IH x hx, IH y hy, by show _ ≤ 3 * bdT d + 4; omega⟩
theorem of_goal (g : Nat) (cv : Value) (N : Nat) (s : ByteArray) (hs : GoalOk s) (d : Int) (h0 : 1 ≤ d) (h1 : d ≤ 4) : OfOk g cv N s d 7000 := by
  obtain ⟨A, hA, rfl⟩ := hs
  obtain ⟨k, rfl⟩ : ∃ k : Nat, d = (k : Int) := ⟨d.toNat, by omega⟩
  exact (of_all g cv N k (by omega) A hA).le (bdT_le k (by omega)).2

/-- 'append(out, texts...)', out an own row from block B on. -/
theorem wpList_appSB {ops : Array Oper} {rest : List Oper} {o : Oper} {a : Act} {Q : Exit → Act → World → Prop} {w : World} (B : Nat) (s x : Operand) (hgd : o.guard = none)
    (ho : o.op = .call { callee := .builtin .append, args := #[s, x], argTypes := #[24, 24] })
    (v : Value) (L : List ByteArray) (hs : a.eval s = v) (hown : OwnS w B v L) (hB : B ≤ w.heap.size) (vx : Value) (M : List ByteArray) (hx : a.eval x = vx) (hr : Strs w vx M) (hn : L.length + M.length ≤ 1048576)
    (h : ∀ v' w', OwnS w' B v' (L ++ M) → w.grownBy w' v.ownBlock → wpList Tryz.prog ops Q rest (a.put o.dst v') w') : wpList Tryz.prog ops Q (o :: rest) a w := by
  obtain ⟨i0, hi0, hz0, hz1, hz2⟩ := info_parts Tryz.infoStr
  refine wpList_append_rd w hgd s x _ ho B 9 i0 _ 1 16 Tryz.underlying24 hi0 hz0 hz1 hz2 rfl (by omega) v L.length (scells L) hs hown vx M.length (scells M) hx hr (scells_one M) (by unfold maxLen; omega) (by omega) hB ?_
  intro v' w' h1 h2 _
  refine h v' w' ?_ h2
  unfold OwnS
  rw [List.length_append, scells_append]
  exact h1
theorem wpList_appTB {ops : Array Oper} {rest : List Oper} {o : Oper} {a : Act} {Q : Exit → Act → World → Prop} {w : World} (B : Nat) (s x : Operand) (hgd : o.guard = none)
    (ho : o.op = .call { callee := .builtin .append, args := #[s, x], argTypes := #[25, 25] })
    (v : Value) (xs : List Tn) (hs : a.eval s = v) (hown : OwnT w B v xs) (hB : B ≤ w.heap.size) (vx : Value) (ys : List Tn) (hx : a.eval x = vx) (hr : Tms w vx ys) (hn : xs.length + ys.length ≤ 1099511627776)
    (h : ∀ v' w', OwnT w' B v' (xs ++ ys) → w.grownBy w' v.ownBlock → wpList Tryz.prog ops Q rest (a.put o.dst v') w') : wpList Tryz.prog ops Q (o :: rest) a w := by
  obtain ⟨i0, hi0, hz0, hz1, hz2⟩ := info_parts infoTn
  refine wpList_append_rd w hgd s x _ ho B 50 i0 _ 3 32 Tryz.underlying25 hi0 hz0 hz1 hz2 rfl (by omega) v xs.length (tcells xs) hs hown vx ys.length (tcells ys) hx hr (tcells_one ys) (big3 hn).1 (big3 hn).2 hB ?_
  intro v' w' h1 h2 _
  refine h v' w' ?_ h2
  unfold OwnT
  rw [tcells_append, List.length_append]
  exact h1

/-- The assumptions drawn. -/
def AsDrawn (w : World) (g : Nat) (cv : Value) (N : Nat) (e : Ending) (w' : World) : Prop := ∃ v, e = .returned v ∧ CtxS w' g v 4 ∧ Src w' g cv N ∧ Only g w w'
theorem fits_lit {L : List ByteArray} (h : ∀ s ∈ L, s.size ≤ 1048576) : Fits L := by
  intro i hi
  have : st L i = L[i] := by simp [st, List.getD, hi]
  rw [this]
  exact h _ (List.getElem_mem hi)

set_option maxHeartbeats 2000000 in
theorem l26Assumed_c (g : Nat) (cv : Value) (N : Nat) (w : World) (h : Src w g cv N) :
    Calls Tryz.prog 48 #[.pointer (some ⟨g, 0, none⟩)] w (AsDrawn w g cv N) := by
  have hgl := h.lt
  have hlit := OwnS.lit w w.heap.size [⟨#[112]⟩, ⟨#[113]⟩] #[.string ⟨#[112]⟩, .string ⟨#[113]⟩] (Nat.le_refl _) (by simp) rfl
  have HO := Lib.hid hlit
  have HS := Lib.hid (h.grew ((Grew.refl w).alloc (.cells #[.string ⟨#[112]⟩, .string ⟨#[113]⟩] 9)))
  have hw := (Only.refl g w).grew ((Grew.refl w).alloc (.cells #[.string ⟨#[112]⟩, .string ⟨#[113]⟩] 9))
  clear h hlit
  go_enter Tryz.func48, Tryz.ntmps48
  go_wp2_with fail
  refine (l01Next_c g cv N 5 _ HS.out (by omega)).mono ?_
  rintro e w1 ⟨r, rfl, _, _, _, hs, hq⟩
  have HO1 := Lib.hid (HO.out.src hgl hq)
  have HS1 := Lib.hid hs
  have hw1 := hw.trans hq
  clear HO HS hw hs hq
  cases b0 : (r == 0) with
  | true =>
    have hl := OwnS.lit w1 (g + 1) [⟨#[112]⟩] #[.string ⟨#[112]⟩] HS1.out.lt (by simp) rfl
    have hal := fun o => (Grew.refl w1).alloc o
    go_wp2_with fail
    go_ret
    exact ⟨_, rfl, ⟨_, hl, fits_lit (by intro s hs; simp at hs; rw [hs]; decide), by simp, by simp⟩, HS1.out.grew (hal _), hw1.grew (hal _)⟩
  | false =>
  cases b1 : (r == 1) with
  | true =>
    have hl := OwnS.lit w1 w1.heap.size [⟨#[70]⟩] #[.string ⟨#[70]⟩] (Nat.le_refl _) (by simp) rfl
    have hal := (Grew.refl w1).alloc (.cells #[.string ⟨#[70]⟩] 9)
    have HO2 := Lib.hid (HO1.out.grew hal)
    have HS2 := Lib.hid (HS1.out.grew hal)
    have hw2 := hw1.grew hal
    clear HO1 HS1 hw1 hal
    go_wp2_with (first
      | (at_builtin; refine wpList_appSB w.heap.size _ _ rfl rfl _ _ rfl HO2.out hw2.size _ _ rfl hl.strs (by simp) ?_; intro v3 w3 hown3 hg3))
    obtain ⟨A3, c3, rfl⟩ := strs_slice hown3.strs
    have HO3 := Lib.hid hown3
    have HS3 := Lib.hid (HS2.out.other2 hg3 (fun b hb => Nat.lt_of_lt_of_le hgl (ownS_of_ge HO2.out hb)))
    have hw3 := hw2.newer2 hg3 (fun b hb => ownS_of_ge HO2.out hb)
    clear HO2 HS2 hw2 hown3 hg3 hl

    go_wp2_with fail
    refine (l01Next_c g cv N 30 _ HS3.out (by omega)).mono ?_
    rintro e w4 ⟨r4, rfl, _, _, _, hs, hq⟩
    have HS4 := Lib.hid hs
    have HO4 := Lib.hid (HO3.out.src hgl hq)
    have hw4 := hw3.trans hq
    clear hs hq
    cases b4 : (r4 == 0) with
    | true =>
      have hl := OwnS.lit w4 (g + 1) [⟨#[91, 93, 112]⟩] #[.string ⟨#[91, 93, 112]⟩] HS4.out.lt (by simp) rfl
      have hal := fun o => (Grew.refl w4).alloc o
      go_wp2_with fail
      go_ret
      exact ⟨_, rfl, ⟨_, hl, fits_lit (by intro s hs; simp at hs; rw [hs]; decide), by simp, by simp⟩, HS4.out.grew (hal _), hw4.grew (hal _)⟩
    | false =>
      go_wp2_with fail
      go_ret
      exact ⟨_, rfl, ⟨_, HO4.out.base hgl, fits_lit (by intro s hs; simp at hs; rcases hs with rfl | rfl | rfl | rfl <;> decide), by simp, by simp⟩, HS4.out, hw4⟩
  | false =>
  cases b2 : (r == 2) with
  | true =>
    have hl := OwnS.lit w1 w1.heap.size [⟨#[112, 62, 113]⟩, ⟨#[112, 124, 113]⟩] #[.string ⟨#[112, 62, 113]⟩, .string ⟨#[112, 124, 113]⟩] (Nat.le_refl _) (by simp) rfl
    have hal := (Grew.refl w1).alloc (.cells #[.string ⟨#[112, 62, 113]⟩, .string ⟨#[112, 124, 113]⟩] 9)
    have HO2 := Lib.hid (HO1.out.grew hal)
    have HS2 := Lib.hid (HS1.out.grew hal)
    have hw2 := hw1.grew hal
    clear HO1 HS1 hw1 hal
    go_wp2_with (first
      | (at_builtin; refine wpList_appSB w.heap.size _ _ rfl rfl _ _ rfl HO2.out hw2.size _ _ rfl hl.strs (by simp) ?_; intro v3 w3 hown3 hg3))
    obtain ⟨A3, c3, rfl⟩ := strs_slice hown3.strs
    have HO3 := Lib.hid hown3
    have HS3 := Lib.hid (HS2.out.other2 hg3 (fun b hb => Nat.lt_of_lt_of_le hgl (ownS_of_ge HO2.out hb)))
    have hw3 := hw2.newer2 hg3 (fun b hb => ownS_of_ge HO2.out hb)
    clear HO2 HS2 hw2 hown3 hg3 hl

    go_wp2_with fail
    refine (l01Next_c g cv N 30 _ HS3.out (by omega)).mono ?_
    rintro e w4 ⟨r4, rfl, _, _, _, hs, hq⟩
    have HS4 := Lib.hid hs
    have HO4 := Lib.hid (HO3.out.src hgl hq)
    have hw4 := hw3.trans hq
    clear hs hq
    cases b4 : (r4 == 0) with
    | true =>
      have hl := OwnS.lit w4 (g + 1) [⟨#[91, 93, 112]⟩] #[.string ⟨#[91, 93, 112]⟩] HS4.out.lt (by simp) rfl
      have hal := fun o => (Grew.refl w4).alloc o
      go_wp2_with fail
      go_ret
      exact ⟨_, rfl, ⟨_, hl, fits_lit (by intro s hs; simp at hs; rw [hs]; decide), by simp, by simp⟩, HS4.out.grew (hal _), hw4.grew (hal _)⟩
    | false =>
      go_wp2_with fail
      go_ret
      exact ⟨_, rfl, ⟨_, HO4.out.base hgl, fits_lit (by intro s hs; simp at hs; rcases hs with rfl | rfl | rfl | rfl <;> decide), by simp, by simp⟩, HS4.out, hw4⟩
  | false =>
    have HO3 := HO1
    have HS3 := HS1
    have hw3 := hw1
    go_wp2_with fail
    refine (l01Next_c g cv N 30 _ HS3.out (by omega)).mono ?_
    rintro e w4 ⟨r4, rfl, _, _, _, hs, hq⟩
    have HS4 := Lib.hid hs
    have HO4 := Lib.hid (HO3.out.src hgl hq)
    have hw4 := hw3.trans hq
    clear hs hq
    cases b4 : (r4 == 0) with
    | true =>
      have hl := OwnS.lit w4 (g + 1) [⟨#[91, 93, 112]⟩] #[.string ⟨#[91, 93, 112]⟩] HS4.out.lt (by simp) rfl
      have hal := fun o => (Grew.refl w4).alloc o
      go_wp2_with fail
      go_ret
      exact ⟨_, rfl, ⟨_, hl, fits_lit (by intro s hs; simp at hs; rw [hs]; decide), by simp, by simp⟩, HS4.out.grew (hal _), hw4.grew (hal _)⟩
    | false =>
      go_wp2_with fail
      go_ret
      exact ⟨_, rfl, ⟨_, HO4.out.base hgl, fits_lit (by intro s hs; simp at hs; rcases hs with rfl | rfl | rfl | rfl <;> decide), by simp, by simp⟩, HS4.out, hw4⟩
theorem tcells_set0 {cur : Array Value} {xs : List Tn} {k : Nat} {a : Int} (hk : k < xs.length) (hs : xs.length * 3 ≤ cur.size)
    (h : ∀ i, i < xs.length → cur[i * 3]? = some (.int .i64 (tk xs i)) ∧ cur[i * 3 + 1]? = some (.int .i64 (tn xs i)) ∧ cur[i * 3 + 2]? = some (.string (tt xs i))) :
    ∀ i, i < (xs.set k (a, tn xs k, tt xs k)).length → (cur.setIfInBounds (k * 3) (.int .i64 a))[i * 3]? = some (.int .i64 (tk (xs.set k (a, tn xs k, tt xs k)) i)) ∧ (cur.setIfInBounds (k * 3) (.int .i64 a))[i * 3 + 1]? = some (.int .i64 (tn (xs.set k (a, tn xs k, tt xs k)) i)) ∧ (cur.setIfInBounds (k * 3) (.int .i64 a))[i * 3 + 2]? = some (.string (tt (xs.set k (a, tn xs k, tt xs k)) i)) := by
  intro i hi
  rw [List.length_set] at hi
  obtain ⟨h1, h2, h3⟩ := h i hi
  simp only [Array.getElem?_setIfInBounds]
  by_cases he : k = i
  · subst he
    rw [if_pos rfl, if_pos (by omega), if_neg (by omega), h2, if_neg (by omega), h3]
    simp [tk, tn, tt, List.getD, hk]
  · rw [if_neg (by omega), h1, if_neg (by omega), h2, if_neg (by omega), h3]
    simp [tk, tn, tt, List.getD, he]
theorem tcells_set1 {cur : Array Value} {xs : List Tn} {k : Nat} {a : Int} (hk : k < xs.length) (hs : xs.length * 3 ≤ cur.size)
    (h : ∀ i, i < xs.length → cur[i * 3]? = some (.int .i64 (tk xs i)) ∧ cur[i * 3 + 1]? = some (.int .i64 (tn xs i)) ∧ cur[i * 3 + 2]? = some (.string (tt xs i))) :
    ∀ i, i < (xs.set k (tk xs k, a, tt xs k)).length → (cur.setIfInBounds (k * 3 + 1) (.int .i64 a))[i * 3]? = some (.int .i64 (tk (xs.set k (tk xs k, a, tt xs k)) i)) ∧ (cur.setIfInBounds (k * 3 + 1) (.int .i64 a))[i * 3 + 1]? = some (.int .i64 (tn (xs.set k (tk xs k, a, tt xs k)) i)) ∧ (cur.setIfInBounds (k * 3 + 1) (.int .i64 a))[i * 3 + 2]? = some (.string (tt (xs.set k (tk xs k, a, tt xs k)) i)) := by
  intro i hi
  rw [List.length_set] at hi
  obtain ⟨h1, h2, h3⟩ := h i hi
  simp only [Array.getElem?_setIfInBounds]
  by_cases he : k = i
  · subst he
    rw [if_neg (by omega), h1, if_pos rfl, if_pos (by omega), if_neg (by omega), h3]
    simp [tk, tn, tt, List.getD, hk]
  · rw [if_neg (by omega), h1, if_neg (by omega), h2, if_neg (by omega), h3]
    simp [tk, tn, tt, List.getD, he]
theorem tcells_set2 {cur : Array Value} {xs : List Tn} {k : Nat} {a : ByteArray} (hk : k < xs.length) (hs : xs.length * 3 ≤ cur.size)
    (h : ∀ i, i < xs.length → cur[i * 3]? = some (.int .i64 (tk xs i)) ∧ cur[i * 3 + 1]? = some (.int .i64 (tn xs i)) ∧ cur[i * 3 + 2]? = some (.string (tt xs i))) :
    ∀ i, i < (xs.set k (tk xs k, tn xs k, a)).length → (cur.setIfInBounds (k * 3 + 2) (.string a))[i * 3]? = some (.int .i64 (tk (xs.set k (tk xs k, tn xs k, a)) i)) ∧ (cur.setIfInBounds (k * 3 + 2) (.string a))[i * 3 + 1]? = some (.int .i64 (tn (xs.set k (tk xs k, tn xs k, a)) i)) ∧ (cur.setIfInBounds (k * 3 + 2) (.string a))[i * 3 + 2]? = some (.string (tt (xs.set k (tk xs k, tn xs k, a)) i)) := by
  intro i hi
  rw [List.length_set] at hi
  obtain ⟨h1, h2, h3⟩ := h i hi
  simp only [Array.getElem?_setIfInBounds]
  by_cases he : k = i
  · subst he
    rw [if_neg (by omega), h1, if_neg (by omega), h2, if_pos rfl, if_pos (by omega)]
    simp [tk, tn, tt, List.getD, hk]
  · rw [if_neg (by omega), h1, if_neg (by omega), h2, if_neg (by omega), h3]
    simp [tk, tn, tt, List.getD, he]
theorem fitsT_set {xs : List Tn} {k : Nat} {x : Tn} (h : FitsT xs) (hx : x.2.2.size ≤ 1048576) : FitsT (xs.set k x) := by
  intro i hi
  rw [List.length_set] at hi
  have := h i hi
  unfold tt at this ⊢
  by_cases he : k = i
  · subst he; simpa [List.getD, hi] using hx
  · simpa [List.getD, List.getElem?_set_ne he] using this
theorem pick_n (g : Nat) (cv : Value) (N : Nat) (b m : Nat) (hm0 : 0 < m) (hm1 : m ≤ 100) (w : World) (h : Src w g cv N) (hb : b < w.heap.size) (hne : b ≠ g) (hc : ∀ j, j < m → ∃ x : Int, w.cell? ⟨b, j, none⟩ = some (.int .i64 x)) :
    Calls Tryz.prog 51 #[.pointer (some ⟨g, 0, none⟩), .slice (some ⟨b, 0, none⟩) m m] w fun e w' => ∃ r : Int, e = .returned (.int .i64 r) ∧ Src w' g cv N ∧ Only g w w' := by
  have HS := Lib.hid h
  have HC := Lib.hid hc
  clear h hc
  go_enter Tryz.func51, Tryz.ntmps51
  go_wp2_with fail
  refine (l01Next_c g cv N m _ HS.out (by omega)).mono ?_
  rintro e w1 ⟨r, rfl, hr0, hr1, _, hS1, ho1⟩
  have hr2 := hr1 (by omega)
  obtain ⟨k, rfl⟩ : ∃ k : Nat, r = (k : Int) := ⟨r.toNat, by omega⟩
  obtain ⟨x, hx⟩ := HC.out k (by omega)
  have hx1 := (ho1.cell (p := ⟨b, k, none⟩) hb hne).trans hx
  have HS1 := Lib.hid hS1
  clear hx hS1 hr1
  go_wp2_with fail
  go_ret
  exact ⟨_, rfl, HS1.out, ho1⟩

theorem g0_ok : GoalOk ⟨#[112, 38, 113]⟩ := ⟨.and (.var 0) (.var 1), fma (fmv 0) (fmv 1) (by decide), rfl⟩
theorem g1_ok : GoalOk ⟨#[112, 124, 113]⟩ := ⟨.or (.var 0) (.var 1), fmo (fmv 0) (fmv 1) (by decide), rfl⟩
theorem g2_ok : GoalOk ⟨#[112, 62, 113, 62, 112]⟩ := ⟨.imp (.var 0) (.imp (.var 1) (.var 0)), fmi (fmv 0) (fmi (fmv 1) (fmv 0) (by decide)) (by decide), rfl⟩
theorem g3_ok : GoalOk ⟨#[40, 112, 62, 112, 41, 38, 40, 113, 62, 113, 41]⟩ := ⟨.and (.imp (.var 0) (.var 0)) (.imp (.var 1) (.var 1)), fma (fmi (fmv 0) (fmv 0) (by decide)) (fmi (fmv 1) (fmv 1) (by decide)) (by decide), rfl⟩
theorem g4_ok : GoalOk ⟨#[112, 38, 113, 62, 113, 38, 112]⟩ := ⟨.imp (.and (.var 0) (.var 1)) (.and (.var 1) (.var 0)), fmi (fma (fmv 0) (fmv 1) (by decide)) (fma (fmv 1) (fmv 0) (by decide)) (by decide), rfl⟩

/-- The input drawn. -/
def SrIn (w : World) (g : Nat) (e : Ending) (w' : World) : Prop := ∃ va L vt xs, e = .returned (.tuple #[va, vt]) ∧ Strs w' va L ∧ Fits L ∧ L.length ≤ 12 ∧ Tms w' vt xs ∧ FitsT xs ∧ xs.length ≤ 10000 ∧ Only g w w'

set_option maxHeartbeats 4000000 in
set_option maxRecDepth 20000 in
theorem l26Drawn_c (g : Nat) (cv : Value) (N : Nat) (w : World) (h : Src w g cv N) :
    Calls Tryz.prog 20 #[.pointer (some ⟨g, 0, none⟩)] w (SrIn w g) := by
  have HS := Lib.hid h
  clear h
  go_enter Tryz.func20, Tryz.ntmps20
  go_wp2_with fail
  refine (l26Assumed_c g cv N _ HS.out).mono ?_
  rintro e w1 ⟨va, rfl, hc, hs, hw1⟩
  obtain ⟨L, hoL, hfL, _, hnL⟩ := hc
  obtain ⟨AL, cL, rfl⟩ := strs_slice hoL.strs
  have HA1 := Lib.hid hoL
  have HFL := Lib.hid hfL
  have HS1 := Lib.hid hs
  have hgl1 := hs.lt
  have hcb : ∀ k, (Value.slice AL L.length cL).ownBlock = some k → k < w1.heap.size := fun k hk => (hoL.lt k hk).2
  have HCB := Lib.hid hcb
  clear HS hoL hfL hs hcb
  have hal := fun o => (Grew.refl w1).alloc o
  have hnew := fun o => blk_new w1 o
  go_wp2_with fail
  refine (l01Next_c g cv N 8 _ (HS1.out.grew (hal _)) (by omega)).mono ?_
  rintro e w2 ⟨r2, rfl, hr20, hr21, _, hs, hq⟩
  have hr22 := hr21 (by omega)
  obtain ⟨r2, rfl⟩ : ∃ k : Nat, r2 = (k : Int) := ⟨r2.toNat, by omega⟩
  have hcell : ∃ u, GoalOk u ∧ w2.cell? ⟨w1.heap.size, r2, none⟩ = some (.string u) := by
    rcases (by omega : r2 = 0 ∨ r2 = 1 ∨ r2 = 2 ∨ r2 = 3 ∨ r2 = 4 ∨ r2 = 5 ∨ r2 = 6 ∨ r2 = 7) with rfl | rfl | rfl | rfl | rfl | rfl | rfl | rfl
    · exact ⟨_, p_ok, (hq.cell (p := ⟨w1.heap.size, 0, none⟩) (blk_lt (hnew _)) (by show w1.heap.size ≠ g; omega)).trans (by rw [blk_cell (hnew _)]; rfl)⟩
    · exact ⟨_, q_ok, (hq.cell (p := ⟨w1.heap.size, 1, none⟩) (blk_lt (hnew _)) (by show w1.heap.size ≠ g; omega)).trans (by rw [blk_cell (hnew _)]; rfl)⟩
    · exact ⟨_, pp_ok, (hq.cell (p := ⟨w1.heap.size, 2, none⟩) (blk_lt (hnew _)) (by show w1.heap.size ≠ g; omega)).trans (by rw [blk_cell (hnew _)]; rfl)⟩
    · exact ⟨_, g0_ok, (hq.cell (p := ⟨w1.heap.size, 3, none⟩) (blk_lt (hnew _)) (by show w1.heap.size ≠ g; omega)).trans (by rw [blk_cell (hnew _)]; rfl)⟩
    · exact ⟨_, g1_ok, (hq.cell (p := ⟨w1.heap.size, 4, none⟩) (blk_lt (hnew _)) (by show w1.heap.size ≠ g; omega)).trans (by rw [blk_cell (hnew _)]; rfl)⟩
    · exact ⟨_, g2_ok, (hq.cell (p := ⟨w1.heap.size, 5, none⟩) (blk_lt (hnew _)) (by show w1.heap.size ≠ g; omega)).trans (by rw [blk_cell (hnew _)]; rfl)⟩
    · exact ⟨_, g3_ok, (hq.cell (p := ⟨w1.heap.size, 6, none⟩) (blk_lt (hnew _)) (by show w1.heap.size ≠ g; omega)).trans (by rw [blk_cell (hnew _)]; rfl)⟩
    · exact ⟨_, g4_ok, (hq.cell (p := ⟨w1.heap.size, 7, none⟩) (blk_lt (hnew _)) (by show w1.heap.size ≠ g; omega)).trans (by rw [blk_cell (hnew _)]; rfl)⟩
  obtain ⟨u, hu, hcu⟩ := hcell
  have HS2 := Lib.hid hs
  have HA2 := Lib.hid ((HA1.out.grew (hal _)).src (by omega) hq)
  have hw2 := (hw1.grew (hal _)).trans hq
  have hsz2 := Nat.le_trans (hal _).size hq.size
  clear HS1 HA1 hw1 hs hq hal hnew hr21 hr20
  go_wp2_with fail
  clear hcu
  refine (l01Next_c g cv N 4 _ HS2.out (by omega)).mono ?_
  rintro e w3 ⟨r3, rfl, hr30, hr31, _, hs, hq⟩
  have hr32 := hr31 (by omega)
  have HS3 := Lib.hid hs
  have HA3 := Lib.hid (HA2.out.src (by omega) hq)
  have hw3 := hw2.trans hq
  have hsz3 := Nat.le_trans hsz2 hq.size
  have hgl3 := hs.lt
  clear HS2 HA2 hw2 hs hq hsz2 hr31
  have hn0 : 0 < L.length := by assumption
  go_wp2_with fail
  refine (of_goal g cv N u hu (1 + r3) (by omega) (by omega) _ _ HS3.out ⟨L, HA3.out, HFL.out, hn0, by omega⟩).mono ?_
  rintro e w4 ⟨vt, rfl, hp, hs, hq⟩
  obtain ⟨xs, hoT, hfT, hx0, hxn⟩ := hp
  obtain ⟨AT, cT, rfl⟩ := tms_slice hoT.tms
  have HT4 := Lib.hid hoT
  have HFT := Lib.hid hfT
  have HS4 := Lib.hid hs
  have HA4 := Lib.hid (HA3.out.src (by omega) hq)
  have hw4 := hw3.trans hq
  have hbw := Nat.le_trans hw3.size (Nat.le_refl _)
  clear HS3 HA3 hs hq hoT hfT
  go_wp2_with fail
  refine (l01Next_c g cv N 16 _ HS4.out (by omega)).mono ?_
  rintro e w5 ⟨r5, rfl, _, _, _, hs, hq⟩
  have HS5 := Lib.hid hs
  have HA5 := Lib.hid (HA4.out.src (by omega) hq)
  have HT5 := Lib.hid (HT4.out.src hgl3 hq)
  have hw5 := hw4.trans hq
  clear HS4 HA4 HT4 hs hq hw4 hw3
  cases b0 : (r5 == 0) with
  | true =>
    go_wp2_with fail
    refine (l01Next_c g cv N xs.length _ HS5.out (by omega)).mono ?_
    rintro e w6 ⟨k6, rfl, hk0, hk1, _, hs, hq⟩
    have hk2 := hk1 (by omega)
    obtain ⟨k, rfl⟩ : ∃ k : Nat, k6 = (k : Int) := ⟨k6.toNat, by omega⟩
    have hkx : k < xs.length := by omega
    have HS6 := Lib.hid hs
    have HA6 := Lib.hid (HA5.out.src (by omega) hq)
    have HT6 := Lib.hid (HT5.out.src hgl3 hq)
    have hw6 := hw5.trans hq
    clear HS5 HA5 HT5 hs hq hw5 hk1

    go_wp2_with fail
    refine (l01Next_c g cv N 11 _ HS6.out (by omega)).mono ?_
    rintro e w7 ⟨r7, rfl, _, _, _, hs, hq⟩
    have HA7 := Lib.hid (HA6.out.src (by omega) hq)
    have HT7 := Lib.hid (HT6.out.src hgl3 hq)
    have hw7 := hw6.trans hq
    clear HS6 HA6 HT6 hs hq hw6

    rcases HT7.out.open_ with ⟨_, rfl⟩ | ⟨gb, cb, cur, hvb, hBg, hglb, hblk, hnc, hcm, hcs, hcell⟩
    · simp at hx0
    simp only [Value.slice.injEq] at hvb
    obtain ⟨rfl, -, rfl⟩ := hvb
    have hcl : w7.cell? ⟨gb, k * 3, none⟩ = some (.int .i64 (tk xs k)) := by rw [blk_cell hblk]; exact (hcell k hkx).1
    have hfr := blk_frozen hblk (k * 3)
    have HB := Lib.hid hblk
    have HCE := Lib.hid hcell
    have hne : ∀ k, (Value.slice AL L.length cL).ownBlock = some k → k ≠ gb := fun k hk he => by have := HCB.out k hk; omega
    have HNE := Lib.hid hne
    clear hblk hcell hne HCB
    go_wp2_with fail
    go_ret2
    refine ⟨_, L, _, xs.set k (r7, tn xs k, tt xs k), rfl, OwnS.strs (B := g + 1) (own_only HA7.out ((Only.refl gb w7).setCell _) (fun he => HNE.out gb he rfl)), HFL.out, by omega, ?_, fitsT_set HFT.out (by have := HFT.out k hkx; exact this), by simp; omega, hw7.newer ((Only.refl gb w7).setCell _) (by omega)⟩
    have := OwnT.mk_ (w := w7.setCell ⟨gb, k * 3, none⟩ (.int .i64 r7)) (B := w3.heap.size) (xs := xs.set k (r7, tn xs k, tt xs k)) (c := cT) hBg (blk_set HB.out (k * 3) _) (by simpa using hnc) hcm (by simpa using hcs) (tcells_set0 hkx (by omega) HCE.out)
    have h2 := this.tms
    simpa using h2
  | false =>
  cases b1 : (r5 == 1) with
  | true =>
    go_wp2_with fail
    refine (l01Next_c g cv N xs.length _ HS5.out (by omega)).mono ?_
    rintro e w6 ⟨k6, rfl, hk0, hk1, _, hs, hq⟩
    have hk2 := hk1 (by omega)
    obtain ⟨k, rfl⟩ : ∃ k : Nat, k6 = (k : Int) := ⟨k6.toNat, by omega⟩
    have hkx : k < xs.length := by omega
    have HS6 := Lib.hid hs
    have HA6 := Lib.hid (HA5.out.src (by omega) hq)
    have HT6 := Lib.hid (HT5.out.src hgl3 hq)
    have hw6 := hw5.trans hq
    clear HS5 HA5 HT5 hs hq hw5 hk1

    have hal := fun o => (Grew.refl w6).alloc o
    have hnew := fun o => blk_new w6 o
    have hl6 := HS6.out.lt
    go_wp2_with fail
    refine (pick_n g cv N w6.heap.size 6 (by omega) (by omega) _ (HS6.out.grew (hal _)) (blk_lt (hnew _)) (by omega) (fun j hj => ?_)).mono ?_
    · rw [blk_cell (hnew _)]
      rcases (by omega : j = 0 ∨ j = 1 ∨ j = 2 ∨ j = 3 ∨ j = 4 ∨ j = 5) with rfl | rfl | rfl | rfl | rfl | rfl <;> exact ⟨_, rfl⟩
    rintro e w7 ⟨r7, rfl, hs, hq⟩
    have HA7 := Lib.hid ((HA6.out.grew (hal _)).src (by omega) hq)
    have HT7 := Lib.hid ((HT6.out.grew (hal _)).src hgl3 hq)
    have hw7 := (hw6.grew (hal _)).trans hq
    clear HS6 HA6 HT6 hs hq hw6 hal hnew

    rcases HT7.out.open_ with ⟨_, rfl⟩ | ⟨gb, cb, cur, hvb, hBg, hglb, hblk, hnc, hcm, hcs, hcell⟩
    · simp at hx0
    simp only [Value.slice.injEq] at hvb
    obtain ⟨rfl, -, rfl⟩ := hvb
    have hcl : w7.cell? ⟨gb, k * 3 + 1, none⟩ = some (.int .i64 (tn xs k)) := by rw [blk_cell hblk]; exact (hcell k hkx).2.1
    have hfr := blk_frozen hblk (k * 3 + 1)
    have HB := Lib.hid hblk
    have HCE := Lib.hid hcell
    have hne : ∀ k, (Value.slice AL L.length cL).ownBlock = some k → k ≠ gb := fun k hk he => by have := HCB.out k hk; omega
    have HNE := Lib.hid hne
    clear hblk hcell hne HCB
    go_wp2_with fail
    go_ret2
    refine ⟨_, L, _, xs.set k (tk xs k, r7, tt xs k), rfl, OwnS.strs (B := g + 1) (own_only HA7.out ((Only.refl gb w7).setCell _) (fun he => HNE.out gb he rfl)), HFL.out, by omega, ?_, fitsT_set HFT.out (by have := HFT.out k hkx; exact this), by simp; omega, hw7.newer ((Only.refl gb w7).setCell _) (by omega)⟩
    have := OwnT.mk_ (w := w7.setCell ⟨gb, k * 3 + 1, none⟩ (.int .i64 r7)) (B := w3.heap.size) (xs := xs.set k (tk xs k, r7, tt xs k)) (c := cT) hBg (blk_set HB.out (k * 3 + 1) _) (by simpa using hnc) hcm (by simpa using hcs) (tcells_set1 hkx (by omega) HCE.out)
    have h2 := this.tms
    simpa using h2
  | false =>
  cases b2 : (r5 == 2) with
  | true =>
    have hl := OwnT.lit w5 w5.heap.size [(0, 0, ByteArray.empty)] #[.int .i64 0, .int .i64 0, .string ByteArray.empty] (Nat.le_refl _) (by simp) rfl
    have hal := (Grew.refl w5).alloc (.cells #[.int .i64 0, .int .i64 0, .string ByteArray.empty] 50)
    have HA6 := Lib.hid (HA5.out.grew hal)
    have HT6 := Lib.hid (HT5.out.grew hal)
    have hw6 := hw5.grew hal
    have hsz6 : w3.heap.size ≤ (w5.alloc (.cells #[.int .i64 0, .int .i64 0, .string ByteArray.empty] 50)).heap.size := by
      rcases HT6.out.open_ with ⟨_, rfl⟩ | ⟨gb, cb, cur, hvb, hBg, hglb, _⟩
      · simp at hx0
      · omega
    clear HS5 HA5 HT5 hw5 hal
    go_wp2_with (first
      | (at_builtin; refine wpList_appTB w3.heap.size _ _ rfl rfl _ xs rfl HT6.out hsz6 _ _ rfl hl.tms (by simp; omega) ?_; intro v7 w7 hown7 hg7))
    obtain ⟨A7, c7, rfl⟩ := tms_slice hown7.tms
    have HT7 := Lib.hid hown7
    have hw7 := hw6.newer2 hg7 (fun b hb => Nat.le_trans hbw (ownT_of_ge HT6.out hb))
    have HA7 : Hid (Strs w7 (.slice AL L.length cL) L) := by
      rcases HT6.out.open_ with ⟨_, rfl⟩ | ⟨gb, cb, cur, hvb, hBg, hglb, _⟩
      · simp at hx0
      simp only [Value.slice.injEq] at hvb
      obtain ⟨rfl, -, rfl⟩ := hvb
      exact Lib.hid (OwnS.strs (B := g + 1) (own_only HA6.out (g := gb) hg7 (fun he => by have := HCB.out gb he; omega)))
    clear HA6 HT6 hw6 hg7 hown7 hl
    go_wp2_with fail
    go_ret2
    exact ⟨_, L, _, _, rfl, HA7.out, HFL.out, by omega, HT7.out.tms, HFT.out.app (by intro i hi; simp at hi; subst hi; show ByteArray.empty.size ≤ _; decide), by simp; omega, hw7⟩
  | false =>
  cases b3 : (r5 == 3) with
  | true =>
    rcases HT5.out.open_ with ⟨_, rfl⟩ | ⟨gb, cb, cur, hvb, hBg, hglb, hblk, hnc, hcm, hcs, hcell⟩
    · simp at hx0
    simp only [Value.slice.injEq] at hvb
    obtain ⟨rfl, -, rfl⟩ := hvb
    have hkx := hx0
    have hcl : w5.cell? ⟨gb, 2, none⟩ = some (.string (tt xs 0)) := by rw [blk_cell hblk]; simpa using (hcell 0 hkx).2.2
    have hfr := blk_frozen hblk (2)
    have HB := Lib.hid hblk
    have HCE := Lib.hid hcell
    have hne : ∀ k, (Value.slice AL L.length cL).ownBlock = some k → k ≠ gb := fun k hk he => by have := HCB.out k hk; omega
    have HNE := Lib.hid hne
    clear hblk hcell hne HCB
    go_wp2_with fail
    go_ret2
    refine ⟨_, L, _, xs.set 0 (tk xs 0, tn xs 0, ⟨#[113]⟩), rfl, OwnS.strs (B := g + 1) (own_only HA5.out ((Only.refl gb w5).setCell _) (fun he => HNE.out gb he rfl)), HFL.out, by omega, ?_, fitsT_set HFT.out (by show (⟨#[113]⟩ : ByteArray).size ≤ _; decide), by simp; omega, hw5.newer ((Only.refl gb w5).setCell _) (by omega)⟩
    have := OwnT.mk_ (w := w5.setCell ⟨gb, 2, none⟩ (.string ⟨#[113]⟩)) (B := w3.heap.size) (xs := xs.set 0 (tk xs 0, tn xs 0, ⟨#[113]⟩)) (c := cT) hBg (blk_set HB.out (2) _) (by simpa using hnc) hcm (by simpa using hcs) (tcells_set2 (k := 0) hkx (by omega) HCE.out)
    have h2 := this.tms
    simpa using h2
  | false =>
    go_wp2_with fail
    go_ret2
    exact ⟨_, L, _, xs, rfl, HA5.out.strs, HFL.out, by omega, HT5.out.tms, HFT.out, by omega, hw5⟩

theorem drawSr_c (v : Value) (N : Nat) (w : World) (h : ArgB w v N) (hN : N ≤ 4096) :
    Calls Tryz.prog 5 #[v] w fun e w' => ∃ va L vt xs, e = .returned (.tuple #[va, vt]) ∧ Strs w' va L ∧ Fits L ∧ L.length ≤ 12 ∧ Tms w' vt xs ∧ FitsT xs ∧ xs.length ≤ 10000 ∧ Grew w w' := by
  have HF := Lib.hid (l01From_c v N w h hN)
  clear h
  go_enter Tryz.func5, Tryz.ntmps5
  go_wp2_with fail
  refine HF.out.mono ?_
  rintro e w1 ⟨g, rfl, hg0, hS, hg1⟩
  have HS := Lib.hid hS
  clear hS HF
  go_wp2_with fail
  refine (l26Drawn_c g v N _ HS.out).mono ?_
  rintro e w2 ⟨va, L, vt, xs, rfl, h1, h2, h3, h4, h5, h6, hw2⟩
  have H1 := Lib.hid h1
  have H4 := Lib.hid h4
  obtain ⟨A, c, rfl⟩ := strs_slice h1
  obtain ⟨B, d, rfl⟩ := tms_slice h4
  clear h1 h4
  go_wp2_with fail
  go_ret2
  exact ⟨_, L, _, xs, rfl, H1.out, h2, h3, H4.out, h5, h6, hw2.grew_of hg1 hg0⟩
end Go.Proofs.YtdndclfjeajhiaaGreat

/- Terms as trees and their lists of nodes. No program is in sight. -/
namespace Go.Proofs.YtdndclfjeajhiaaGreat
open Go.RowKit
namespace Tr

inductive Tm where
  | t0 (x : Tn)
  | t1 (x : Tn) (a : Tm)
  | t2 (x : Tn) (a b : Tm)
  | t3 (x : Tn) (a b c : Tm)

def hd : Tm → Tn
  | .t0 x => x
  | .t1 x _ => x
  | .t2 x _ _ => x
  | .t3 x _ _ _ => x
def enc : Tm → List Tn
  | .t0 x => [x]
  | .t1 x a => x :: enc a
  | .t2 x a b => x :: (enc a ++ enc b)
  | .t3 x a b c => x :: (enc a ++ (enc b ++ enc c))
theorem enc_pos (t : Tm) : 1 ≤ (enc t).length := by cases t <;> simp [enc]
theorem enc_hd (t : Tm) : ∃ r, enc t = hd t :: r := by cases t <;> exact ⟨_, rfl⟩

/-- How many parts the nodes of a kind have. -/
def ar (k : Int) : Nat := if k = 1 ∨ k = 4 ∨ k = 5 ∨ k = 6 ∨ k = 7 ∨ k = 9 then 1 else if k = 2 ∨ k = 3 then 2 else if k = 8 then 3 else 0
theorem ar_le (k : Int) : ar k ≤ 3 := by unfold ar; split; omega; split; omega; split <;> omega

/-- Every node has as many parts as its kind asks, and meets the predicate. -/
def wf (p : Tn → Prop) : Tm → Prop
  | .t0 x => ar x.1 = 0 ∧ p x
  | .t1 x a => (ar x.1 = 1 ∧ p x) ∧ wf p a
  | .t2 x a b => (ar x.1 = 2 ∧ p x) ∧ wf p a ∧ wf p b
  | .t3 x a b c => (ar x.1 = 3 ∧ p x) ∧ wf p a ∧ wf p b ∧ wf p c

/-- How many nodes are read till no part is open. -/
def scan : List Tn → Nat → Option Nat
  | _, 0 => some 0
  | [], _ + 1 => none
  | x :: xs, o + 1 => (scan xs (o + ar x.1)).map (· + 1)

theorem scan_zero (xs : List Tn) : scan xs 0 = some 0 := by cases xs <;> rfl
theorem scan_nil (o : Nat) : scan [] (o + 1) = none := rfl
theorem scan_cons (x : Tn) (xs : List Tn) (o : Nat) : scan (x :: xs) (o + 1) = (scan xs (o + ar x.1)).map (· + 1) := rfl

theorem scan_enc {p : Tn → Prop} (t : Tm) : wf p t → ∀ (rest : List Tn) (o : Nat), scan (enc t ++ rest) (o + 1) = (scan rest o).map (· + (enc t).length) := by
  induction t with
  | t0 x =>
    intro h rest o
    simp only [wf] at h
    simp [enc, scan_cons, h.1]
  | t1 x a iha =>
    intro h rest o
    simp only [wf] at h
    simp only [enc, List.cons_append, scan_cons, h.1.1]
    rw [iha h.2]
    cases scan rest o <;> simp; omega
  | t2 x a b iha ihb =>
    intro h rest o
    simp only [wf] at h
    simp only [enc, List.cons_append, scan_cons, List.append_assoc, h.1.1]
    rw [show o + 2 = (o + 1) + 1 from rfl, iha h.2.1, ihb h.2.2]
    cases scan rest o <;> simp; omega
  | t3 x a b c iha ihb ihc =>
    intro h rest o
    simp only [wf] at h
    simp only [enc, List.cons_append, scan_cons, List.append_assoc, h.1.1]
    rw [show o + 3 = (o + 2) + 1 from rfl, iha h.2.1, show o + 2 = (o + 1) + 1 from rfl, ihb h.2.2.1, ihc h.2.2.2]
    cases scan rest o <;> simp; omega
theorem scan_one {p : Tn → Prop} {t : Tm} (h : wf p t) (rest : List Tn) : scan (enc t ++ rest) 1 = some (enc t).length := by
  rw [scan_enc t h rest 0, scan_zero]; simp

theorem scan_split : ∀ (xs : List Tn) (a b : Nat), scan xs (a + b) = (scan xs a).bind fun n => (scan (xs.drop n) b).map (n + ·) := by
  intro xs
  induction xs with
  | nil =>
    intro a b
    cases a with
    | zero => simp [scan_zero]
    | succ a => rw [show a + 1 + b = (a + b) + 1 by omega, scan_nil, scan_nil]; rfl
  | cons x xs ih =>
    intro a b
    cases a with
    | zero => simp [scan_zero]
    | succ a =>
      rw [show a + 1 + b = (a + b) + 1 by omega, scan_cons, scan_cons, show a + b + ar x.1 = (a + ar x.1) + b by omega, ih]
      cases scan xs (a + ar x.1) with
      | none => rfl
      | some n =>
        simp only [Option.bind_some, Option.map_some, List.drop_succ_cons]
        cases scan (xs.drop n) b with
        | none => rfl
        | some m => simp; omega
theorem scan_le : ∀ (xs : List Tn) (o n : Nat), scan xs o = some n → n ≤ xs.length := by
  intro xs
  induction xs with
  | nil => intro o n h; cases o with
    | zero => simp [scan_zero] at h; omega
    | succ o => simp [scan_nil] at h
  | cons x xs ih => intro o n h; cases o with
    | zero => simp [scan_zero] at h; omega
    | succ o =>
      rw [scan_cons] at h
      cases hs : scan xs (o + ar x.1) with
      | none => rw [hs] at h; simp at h
      | some m => rw [hs] at h; simp at h; have := ih _ _ hs; simp; omega

/-- What a scan reads is a list of trees. -/
theorem scan_trees (p : Tn → Prop) : ∀ (xs : List Tn) (o n : Nat), scan xs o = some n → (∀ x ∈ xs, p x) → ∃ (ts : List Tm) (rest : List Tn), ts.length = o ∧ xs = ts.flatMap enc ++ rest ∧ n = (ts.flatMap enc).length ∧ ∀ t ∈ ts, wf p t := by
  intro xs
  induction xs with
  | nil =>
    intro o n h _
    cases o with
    | zero => simp [scan_zero] at h; exact ⟨[], [], rfl, rfl, by simp [h], by simp⟩
    | succ o => simp [scan_nil] at h
  | cons x xs ih =>
    intro o n h hp
    cases o with
    | zero => simp [scan_zero] at h; exact ⟨[], x :: xs, rfl, by simp, by simp [h], by simp⟩
    | succ o =>
      rw [scan_cons] at h
      cases hs : scan xs (o + ar x.1) with
      | none => rw [hs] at h; simp at h
      | some m =>
        rw [hs] at h
        simp only [Option.map_some, Option.some.injEq] at h
        obtain ⟨ts, rest, h1, h2, h3, h4⟩ := ih _ _ hs (fun y hy => hp y (by simp [hy]))
        have hx : p x := hp x (by simp)
        have har := ar_le x.1
        have hc : ar x.1 = 0 ∨ ar x.1 = 1 ∨ ar x.1 = 2 ∨ ar x.1 = 3 := by omega
        rcases hc with ha | ha | ha | ha
        · rw [ha] at h1
          refine ⟨.t0 x :: ts, rest, by simp [h1], by simp [enc, h2], by rw [List.flatMap_cons, List.length_append, ← h3, ← h]; simp [enc]; omega, ?_⟩
          intro t ht
          rcases List.mem_cons.1 ht with rfl | ht
          · exact ⟨ha, hx⟩
          · exact h4 t ht
        · rw [ha] at h1
          match ts, h1, h2, h3, h4 with
          | a :: ts, h1, h2, h3, h4 =>
            refine ⟨.t1 x a :: ts, rest, by simp at h1; simp [h1], by simp [enc, h2], by simp [enc] at h3 ⊢; omega, ?_⟩
            intro t ht
            rcases List.mem_cons.1 ht with rfl | ht
            · exact ⟨⟨ha, hx⟩, h4 a (by simp)⟩
            · exact h4 t (by simp [ht])
        · rw [ha] at h1
          match ts, h1, h2, h3, h4 with
          | a :: b :: ts, h1, h2, h3, h4 =>
            refine ⟨.t2 x a b :: ts, rest, by simp at h1; simp [h1], by simp [enc, h2], by simp [enc] at h3 ⊢; omega, ?_⟩
            intro t ht
            rcases List.mem_cons.1 ht with rfl | ht
            · exact ⟨⟨ha, hx⟩, h4 a (by simp), h4 b (by simp)⟩
            · exact h4 t (by simp [ht])
          | [_], h1, _, _, _ => simp at h1
        · rw [ha] at h1
          match ts, h1, h2, h3, h4 with
          | a :: b :: c :: ts, h1, h2, h3, h4 =>
            refine ⟨.t3 x a b c :: ts, rest, by simp at h1; simp [h1], by simp [enc, h2], by simp [enc] at h3 ⊢; omega, ?_⟩
            intro t ht
            rcases List.mem_cons.1 ht with rfl | ht
            · exact ⟨⟨ha, hx⟩, h4 a (by simp), h4 b (by simp), h4 c (by simp)⟩
            · exact h4 t (by simp [ht])
          | [_, _], h1, _, _, _ => simp at h1
          | [_], h1, _, _, _ => simp at h1
theorem tree_of {p : Tn → Prop} {xs : List Tn} (h : scan xs 1 = some xs.length) (hp : ∀ x ∈ xs, p x) : ∃ t, wf p t ∧ enc t = xs := by
  obtain ⟨ts, rest, h1, h2, h3, h4⟩ := scan_trees p xs 1 _ h hp
  match ts, h1 with
  | [t], _ =>
    refine ⟨t, h4 t (by simp), ?_⟩
    have hl := congrArg List.length h2
    rw [List.length_append] at hl
    have : rest = [] := List.eq_nil_of_length_eq_zero (by omega)
    rw [this] at h2
    simpa using h2.symm

/-- What the search for the end gives. -/
def pval (j : Nat) : Option Nat → Int
  | some n => (j : Int) + n
  | none => -1
theorem pval_succ (j : Nat) (o : Option Nat) : pval j (o.map (· + 1)) = pval (j + 1) o := by
  cases o with
  | none => rfl
  | some n => show (j : Int) + ((n + 1 : Nat) : Int) = ((j + 1 : Nat) : Int) + n; omega
theorem pval_add (j m : Nat) (o : Option Nat) : pval j (o.map (m + ·)) = pval (j + m) o := by
  cases o with
  | none => rfl
  | some n => show (j : Int) + ((m + n : Nat) : Int) = ((j + m : Nat) : Int) + n; omega
/-- Where the parts end that are open at j. -/
def pend (xs : List Tn) (j o : Nat) : Int := pval j (scan (xs.drop j) o)
theorem pend_zero (xs : List Tn) (j : Nat) : pend xs j 0 = j := by simp [pend, scan_zero, pval]
theorem pend_out {xs : List Tn} {j : Nat} (h : xs.length ≤ j) (o : Nat) : pend xs j (o + 1) = -1 := by
  rw [pend, List.drop_eq_nil_of_le h, scan_nil]; rfl
theorem pend_step {xs : List Tn} {j : Nat} (h : j < xs.length) (o : Nat) : pend xs j (o + 1) = pend xs (j + 1) (o + ar (tk xs j)) := by
  rw [pend, List.drop_eq_getElem_cons h, scan_cons, tk_lt h, pval_succ]; rfl
/-- One part more: its end first. -/
theorem pend_part {xs : List Tn} {j : Nat} (o : Nat) : (pend xs j 1 = -1 ∧ pend xs j (o + 1) = -1) ∨ ∃ n, pend xs j 1 = ((j + n : Nat) : Int) ∧ n ≤ xs.length - j ∧ pend xs j (o + 1) = pend xs (j + n) o := by
  have h := scan_split (xs.drop j) 1 o
  rw [Nat.add_comm 1 o] at h
  unfold pend
  rw [h]
  cases hs : scan (xs.drop j) 1 with
  | none => exact .inl ⟨rfl, rfl⟩
  | some n =>
    right
    have := scan_le _ _ _ hs
    rw [List.length_drop] at this
    refine ⟨n, by simp [pval], by omega, ?_⟩
    rw [Option.bind_some, pval_add, List.drop_drop]
theorem pend_le {xs : List Tn} {j : Nat} (hj : j ≤ xs.length) (o : Nat) : pend xs j o ≤ xs.length := by
  unfold pend
  cases hs : scan (xs.drop j) o with
  | none => simp only [pval]; omega
  | some n =>
    have := scan_le _ _ _ hs
    rw [List.length_drop] at this
    simp only [pval]
    omega
end Tr
end Go.Proofs.YtdndclfjeajhiaaGreat

/- Texts in one file: Write Good PartP Text Parsed Strs IsText Cont Plain Gp Range TmIs TmCont TmIs2 TmRaise TmMapT Ints TmRed OwnV TmPart TmCtT TmFits TmFits2 TmIns0 TmCtL TmLim TmCtG. -/
import Derived.Lib.SlicesS
import Derived.Test.YthofkdpmgjkgkaaGreatProg
import Derived.Deep.QuietTactic
import Derived.BigQuiet
import Derived.Deep.LoopGhost
import Derived.Outline
import Derived.Deep.RegionHeld3
import Derived.WalkSpells
import Derived.WalkLawsBesides
import Derived.Shelf.Abstract
import Derived.Lib.SliceRun
import Derived.Deep.OwnRows
import Derived.Test.YthofkdpmgjkgkaaGreatPz1

/- The text of a formula: the reference's l02Write. -/
namespace Go.Proofs.YthofkdpmgjkgkaaGreat
open Go.RowKit
open Fm (Nd Tree)

theorem l02Left_c (v : Value) (xs : List Nd) (a : Tree) (w : World) (h : Nodes w v xs) (hn : xs.length ≤ 1099511627776) (ha : At xs 1 a) :
    Calls Tryz.prog 128 #[v] w (Cuts w (Fm.enc a)) := by
  have hle := ha.le
  have hpos := Fm.enc_pos a
  rcases h.open_ with ⟨rfl, rfl⟩ | ⟨b, o, c, rfl, hc, hm, hb, hf⟩
  · simp only [List.length_nil] at hle; omega
  · have hsub := h.sub 1 (Fm.enc a).length (c - 1) hle (by omega) (by omega)
    rw [ha.take] at hsub
    have HH := Lib.hid h
    have HS := Lib.hid hsub
    have HT := Lib.hid ha
    clear h hf hsub ha
    go_enter Tryz.func128, Tryz.ntmps128
    go_wp2_with fail
    refine (l02Part_at _ xs 1 a _ HH.out hn HT.out).mono ?_
    rintro e w1 ⟨rfl, hg1⟩
    go_wp2_with fail
    go_ret
    refine ⟨_, rfl, ?_, hg1⟩
    rw [Nat.add_sub_cancel_left]
    exact HS.out.grew hg1

theorem l02Right_c (v : Value) (xs : List Nd) (a t : Tree) (w : World) (h : Nodes w v xs) (hn : xs.length ≤ 1099511627776) (ha : At xs 1 a) (ht : At xs (1 + (Fm.enc a).length) t) (hl : xs.length = 1 + (Fm.enc a).length + (Fm.enc t).length) :
    Calls Tryz.prog 129 #[v] w (Cuts w (Fm.enc t)) := by
  have hle := ha.le
  have hpos := Fm.enc_pos t
  rcases h.open_ with ⟨rfl, rfl⟩ | ⟨b, o, c, rfl, hc, hm, hb, hf⟩
  · simp only [List.length_nil] at hle; omega
  · have hsub := h.sub (1 + (Fm.enc a).length) (Fm.enc t).length (c - (1 + (Fm.enc a).length)) (by omega) (by omega) (by omega)
    rw [ht.take] at hsub
    have HH := Lib.hid h
    have HS := Lib.hid hsub
    have HA := Lib.hid ha
    have hk : (Fm.enc t).length = xs.length - (1 + (Fm.enc a).length) := by omega
    rw [hk] at HS
    have hlt : 1 + (Fm.enc a).length < xs.length := by omega
    clear h hf hsub ha ht hl hk hpos
    go_enter Tryz.func129, Tryz.ntmps129
    go_wp2_with fail
    refine (l02Part_at _ xs 1 a _ HH.out hn HA.out).mono ?_
    rintro e w1 ⟨rfl, hg1⟩
    go_wp2_with fail
    go_ret
    exact ⟨_, rfl, HS.out.grew hg1, hg1⟩

def WriteOk (t : Tree) : Prop := ∀ (l : Nat) (v : Value) (w : World), l ≤ 3 → Nodes w v (Fm.enc t) → (Fm.enc t).length ≤ 1048576 →
  Calls Tryz.prog 155 #[v, .int .i64 l] w (Says w (Fm.txt t l))

theorem enc_fls {t : Tree} (h : Fm.enc t = [(1, 0)]) : t = .fls := by
  cases t <;> simp_all [Fm.enc]
theorem enc_truth {x y : Tree} (h : Fm.enc (.imp x y) = Fm.truth) : x = .fls ∧ y = .fls := by
  have hx := Fm.enc_pos x
  have hy := Fm.enc_pos y
  have h1 : Fm.enc x ++ Fm.enc y = [(1, 0), (1, 0)] := by
    have : (4, 0) :: (Fm.enc x ++ Fm.enc y) = ((4, 0) : Nd) :: [(1, 0), (1, 0)] := h
    injection this
  have hl := congrArg List.length h1
  simp only [List.length_append, List.length_cons, List.length_nil] at hl
  have h2 : Fm.enc x = [(1, 0)] := by
    have := congrArg (List.take 1) h1
    rw [List.take_append_of_le_length hx, List.take_of_length_le (by omega)] at this
    exact this
  have h3 : Fm.enc y = [(1, 0)] := by
    rw [h2] at h1
    simpa using h1
  exact ⟨enc_fls h2, enc_fls h3⟩

theorem write_and_n (x y : Tree) (hx : WriteOk x) (hy : WriteOk y) (l : Nat) (v : Value) (w : World) (hl : l ≤ 2) (h : Nodes w v (Fm.enc (.and x y))) (hn : (Fm.enc (.and x y)).length ≤ 1048576) :
    Calls Tryz.prog 155 #[v, .int .i64 l] w (Says w (Fm.txt (.and x y) l)) := by
  have hE : Fm.txt (.and x y) l = Fm.txt x 2 ++ [38] ++ Fm.txt y 3 := by
    rw [Fm.txt, Fm.wrap, if_neg (by omega)]
  rw [hE]
  obtain ⟨b, o, c, rfl, hc, hm, k1⟩ := nodes_head h
  have hpos := Fm.enc_pos (.and x y)
  have HH := Lib.hid h
  have hg0 := Grew.refl w
  rw [show kindOf (.and x y) = 2 from rfl] at k1
  have HA := Lib.hid (at_first (xs := Fm.enc (.and x y)) (k := (2, 0)) (a := x) (rest := Fm.enc y) rfl)
  have HB := Lib.hid (at_second (xs := Fm.enc (.and x y)) (k := (2, 0)) (a := x) (b := y) rfl)
  have hlen : (Fm.enc (.and x y)).length = 1 + (Fm.enc x).length + (Fm.enc y).length := by simp [Fm.enc]; omega
  have HN := Lib.hid hlen
  have h1 := Fm.txt_len x 2
  have h2 := Fm.txt_len y 3
  have HX := Lib.hid hx
  have HY := Lib.hid hy
  have hn1 : (Fm.enc x).length ≤ 1048576 := by omega
  have hn2 : (Fm.enc y).length ≤ 1048576 := by omega
  have hpy := Fm.enc_pos y
  clear hE h hx hy hlen
  generalize Fm.enc (.and x y) = T at *
  have s1 := bs_size (Fm.txt x 2)
  have s2 := bs_size (Fm.txt y 3)
  have z1 : (bs (Fm.txt x 2)).size ≤ 4194304 := by omega
  have z2 : (bs (Fm.txt y 3)).size ≤ 4194304 := by omega
  have HE : Hid (bs (Fm.txt x 2) ++ bs [38] ++ bs (Fm.txt y 3) = bs (Fm.txt x 2 ++ [38] ++ Fm.txt y 3)) := by unfold Hid; simp only [bs_append]
  clear s1 s2 h1 h2
  generalize Fm.txt x 2 ++ [38] ++ Fm.txt y 3 = Z at *
  go_enter Tryz.func155, Tryz.ntmps155
  go_wp2_with fail
  refine (l02Left_c _ T x _ (HH.out.grew (Grew.refl w)) (by omega) HA.out).mono ?_
  rintro e w2 ⟨v2, rfl, hN2, hg2⟩
  go_wp2_with fail
  refine (HX.out 2 _ _ (by omega) hN2 hn1).mono ?_
  rintro e w3 ⟨rfl, hg3⟩
  go_wp2_with fail
  refine (l02Right_c _ T x y _ (HH.out.grew (((Grew.refl w).trans hg2).trans hg3)) (by omega) HA.out HB.out HN.out).mono ?_
  rintro e w4 ⟨v4, rfl, hN4, hg4⟩
  go_wp2_with fail
  refine (HY.out 3 _ _ (by omega) hN4 hn2).mono ?_
  rintro e w5 ⟨rfl, hg5⟩
  go_wp2_with fail
  go_ret
  exact ⟨congrArg (fun z => Ending.returned (.string z)) HE.out, ((((Grew.refl w).trans hg2).trans hg3).trans hg4).trans hg5⟩

theorem write_or_n (x y : Tree) (hx : WriteOk x) (hy : WriteOk y) (l : Nat) (v : Value) (w : World) (hl : l ≤ 1) (h : Nodes w v (Fm.enc (.or x y))) (hn : (Fm.enc (.or x y)).length ≤ 1048576) :
    Calls Tryz.prog 155 #[v, .int .i64 l] w (Says w (Fm.txt (.or x y) l)) := by
  have hE : Fm.txt (.or x y) l = Fm.txt x 1 ++ [124] ++ Fm.txt y 2 := by
    rw [Fm.txt, Fm.wrap, if_neg (by omega)]
  rw [hE]
  obtain ⟨b, o, c, rfl, hc, hm, k1⟩ := nodes_head h
  have hpos := Fm.enc_pos (.or x y)
  have HH := Lib.hid h
  have hg0 := Grew.refl w
  rw [show kindOf (.or x y) = 3 from rfl] at k1
  have HA := Lib.hid (at_first (xs := Fm.enc (.or x y)) (k := (3, 0)) (a := x) (rest := Fm.enc y) rfl)
  have HB := Lib.hid (at_second (xs := Fm.enc (.or x y)) (k := (3, 0)) (a := x) (b := y) rfl)
  have hlen : (Fm.enc (.or x y)).length = 1 + (Fm.enc x).length + (Fm.enc y).length := by simp [Fm.enc]; omega
  have HN := Lib.hid hlen
  have h1 := Fm.txt_len x 1
  have h2 := Fm.txt_len y 2
  have HX := Lib.hid hx
  have HY := Lib.hid hy
  have hn1 : (Fm.enc x).length ≤ 1048576 := by omega
  have hn2 : (Fm.enc y).length ≤ 1048576 := by omega
  have hpy := Fm.enc_pos y
  clear hE h hx hy hlen
  generalize Fm.enc (.or x y) = T at *
  have s1 := bs_size (Fm.txt x 1)
  have s2 := bs_size (Fm.txt y 2)
  have z1 : (bs (Fm.txt x 1)).size ≤ 4194304 := by omega
  have z2 : (bs (Fm.txt y 2)).size ≤ 4194304 := by omega
  have HE : Hid (bs (Fm.txt x 1) ++ bs [124] ++ bs (Fm.txt y 2) = bs (Fm.txt x 1 ++ [124] ++ Fm.txt y 2)) := by unfold Hid; simp only [bs_append]
  clear s1 s2 h1 h2
  generalize Fm.txt x 1 ++ [124] ++ Fm.txt y 2 = Z at *
  go_enter Tryz.func155, Tryz.ntmps155
  go_wp2_with fail
  refine (l02Left_c _ T x _ (HH.out.grew (Grew.refl w)) (by omega) HA.out).mono ?_
  rintro e w2 ⟨v2, rfl, hN2, hg2⟩
  go_wp2_with fail
  refine (HX.out 1 _ _ (by omega) hN2 hn1).mono ?_
  rintro e w3 ⟨rfl, hg3⟩
  go_wp2_with fail
  refine (l02Right_c _ T x y _ (HH.out.grew (((Grew.refl w).trans hg2).trans hg3)) (by omega) HA.out HB.out HN.out).mono ?_
  rintro e w4 ⟨v4, rfl, hN4, hg4⟩
  go_wp2_with fail
  refine (HY.out 2 _ _ (by omega) hN4 hn2).mono ?_
  rintro e w5 ⟨rfl, hg5⟩
  go_wp2_with fail
  go_ret
  exact ⟨congrArg (fun z => Ending.returned (.string z)) HE.out, ((((Grew.refl w).trans hg2).trans hg3).trans hg4).trans hg5⟩

theorem write_imp_n (x y : Tree) (hf : Fm.isF y = false) (hx : WriteOk x) (hy : WriteOk y) (l : Nat) (v : Value) (w : World) (hl : l ≤ 0) (h : Nodes w v (Fm.enc (.imp x y))) (hn : (Fm.enc (.imp x y)).length ≤ 1048576) :
    Calls Tryz.prog 155 #[v, .int .i64 l] w (Says w (Fm.txt (.imp x y) l)) := by
  have hE : Fm.txt (.imp x y) l = Fm.txt x 1 ++ [62] ++ Fm.txt y 0 := by
    rw [Fm.txt, if_neg (by simp [hf]), Fm.wrap, if_neg (by omega)]
  rw [hE]
  obtain ⟨b, o, c, rfl, hc, hm, k1⟩ := nodes_head h
  have hpos := Fm.enc_pos (.imp x y)
  have HH := Lib.hid h
  have hg0 := Grew.refl w
  have HQ := Lib.hid (fun v2 w h1 h2 => l02Equal_c (.slice (some ⟨b, o, none⟩) (Fm.enc (.imp x y)).length c) v2 (Fm.enc (.imp x y)) Fm.truth w h1 h2 (by omega))
  rw [decide_eq_false (fun h => by have := (enc_truth h).2; rw [this] at hf; cases hf)] at HQ
  have hky : (kindOf y == 1) = false := by rw [← isF_kind]; exact hf
  rw [show kindOf (.imp x y) = 4 from rfl] at k1
  have HA := Lib.hid (at_first (xs := Fm.enc (.imp x y)) (k := (4, 0)) (a := x) (rest := Fm.enc y) rfl)
  have HB := Lib.hid (at_second (xs := Fm.enc (.imp x y)) (k := (4, 0)) (a := x) (b := y) rfl)
  have hlen : (Fm.enc (.imp x y)).length = 1 + (Fm.enc x).length + (Fm.enc y).length := by simp [Fm.enc]; omega
  have HN := Lib.hid hlen
  have h1 := Fm.txt_len x 1
  have h2 := Fm.txt_len y 0
  have HX := Lib.hid hx
  have HY := Lib.hid hy
  have hn1 : (Fm.enc x).length ≤ 1048576 := by omega
  have hn2 : (Fm.enc y).length ≤ 1048576 := by omega
  have hpy := Fm.enc_pos y
  clear hE h hx hy hlen hf
  generalize Fm.enc (.imp x y) = T at *
  have s1 := bs_size (Fm.txt x 1)
  have s2 := bs_size (Fm.txt y 0)
  have z1 : (bs (Fm.txt x 1)).size ≤ 4194304 := by omega
  have z2 : (bs (Fm.txt y 0)).size ≤ 4194304 := by omega
  have HE : Hid (bs (Fm.txt x 1) ++ bs [62] ++ bs (Fm.txt y 0) = bs (Fm.txt x 1 ++ [62] ++ Fm.txt y 0)) := by unfold Hid; simp only [bs_append]
  clear s1 s2 h1 h2
  generalize Fm.txt x 1 ++ [62] ++ Fm.txt y 0 = Z at *
  go_enter Tryz.func155, Tryz.ntmps155
  go_wp2_with fail
  refine (l02True_c _).mono ?_
  rintro e w01 ⟨v01, rfl, ho01, hg01⟩
  go_wp2_with fail
  refine (HQ.out _ _ (HH.out.grew hg01) ho01.nodes).mono ?_
  rintro e w02 ⟨rfl, hg02⟩
  have hg2x := hg01.trans hg02
  go_wp2_with fail
  refine (l02Right_c _ T x y _ (HH.out.grew hg2x) (by omega) HA.out HB.out HN.out).mono ?_
  rintro e w03 ⟨v03, rfl, hN03, hg03⟩
  obtain ⟨b3, o3, c3, rfl, hc3, hm3, k3⟩ := nodes_head hN03
  have hg3x := hg2x.trans hg03
  have hgr3 := Grew.refl w03
  go_wp2_with fail
  clear k3
  refine (l02Left_c _ T x _ (HH.out.grew hg3x) (by omega) HA.out).mono ?_
  rintro e w2 ⟨v2, rfl, hN2, hg2⟩
  go_wp2_with fail
  refine (HX.out 1 _ _ (by omega) hN2 hn1).mono ?_
  rintro e w3 ⟨rfl, hg3⟩
  go_wp2_with fail
  refine (l02Right_c _ T x y _ (HH.out.grew ((hg3x.trans hg2).trans hg3)) (by omega) HA.out HB.out HN.out).mono ?_
  rintro e w4 ⟨v4, rfl, hN4, hg4⟩
  go_wp2_with fail
  refine (HY.out 0 _ _ (by omega) hN4 hn2).mono ?_
  rintro e w5 ⟨rfl, hg5⟩
  go_wp2_with fail
  go_ret
  exact ⟨congrArg (fun z => Ending.returned (.string z)) HE.out, (((hg3x.trans hg2).trans hg3).trans hg4).trans hg5⟩

theorem write_and_w (x y : Tree) (hx : WriteOk x) (hy : WriteOk y) (l : Nat) (v : Value) (w : World) (hl : 2 < l) (h : Nodes w v (Fm.enc (.and x y))) (hn : (Fm.enc (.and x y)).length ≤ 1048576) :
    Calls Tryz.prog 155 #[v, .int .i64 l] w (Says w (Fm.txt (.and x y) l)) := by
  have hE : Fm.txt (.and x y) l = [40] ++ (Fm.txt x 2 ++ [38] ++ Fm.txt y 3) ++ [41] := by
    rw [Fm.txt, Fm.wrap, if_pos (by omega)]
  rw [hE]
  obtain ⟨b, o, c, rfl, hc, hm, k1⟩ := nodes_head h
  have hpos := Fm.enc_pos (.and x y)
  have HH := Lib.hid h
  have hg0 := Grew.refl w
  rw [show kindOf (.and x y) = 2 from rfl] at k1
  have HA := Lib.hid (at_first (xs := Fm.enc (.and x y)) (k := (2, 0)) (a := x) (rest := Fm.enc y) rfl)
  have HB := Lib.hid (at_second (xs := Fm.enc (.and x y)) (k := (2, 0)) (a := x) (b := y) rfl)
  have hlen : (Fm.enc (.and x y)).length = 1 + (Fm.enc x).length + (Fm.enc y).length := by simp [Fm.enc]; omega
  have HN := Lib.hid hlen
  have h1 := Fm.txt_len x 2
  have h2 := Fm.txt_len y 3
  have HX := Lib.hid hx
  have HY := Lib.hid hy
  have hn1 : (Fm.enc x).length ≤ 1048576 := by omega
  have hn2 : (Fm.enc y).length ≤ 1048576 := by omega
  have hpy := Fm.enc_pos y
  clear hE h hx hy hlen
  generalize Fm.enc (.and x y) = T at *
  have s1 := bs_size (Fm.txt x 2)
  have s2 := bs_size (Fm.txt y 3)
  have z1 : (bs (Fm.txt x 2)).size ≤ 4194304 := by omega
  have z2 : (bs (Fm.txt y 3)).size ≤ 4194304 := by omega
  have HE : Hid (bs [40] ++ (bs (Fm.txt x 2) ++ bs [38] ++ bs (Fm.txt y 3)) ++ bs [41] = bs ([40] ++ (Fm.txt x 2 ++ [38] ++ Fm.txt y 3) ++ [41])) := by unfold Hid; simp only [bs_append]
  clear s1 s2 h1 h2
  generalize [40] ++ (Fm.txt x 2 ++ [38] ++ Fm.txt y 3) ++ [41] = Z at *
  go_enter Tryz.func155, Tryz.ntmps155
  go_wp2_with fail
  refine (l02Left_c _ T x _ (HH.out.grew (Grew.refl w)) (by omega) HA.out).mono ?_
  rintro e w2 ⟨v2, rfl, hN2, hg2⟩
  go_wp2_with fail
  refine (HX.out 2 _ _ (by omega) hN2 hn1).mono ?_
  rintro e w3 ⟨rfl, hg3⟩
  go_wp2_with fail
  refine (l02Right_c _ T x y _ (HH.out.grew (((Grew.refl w).trans hg2).trans hg3)) (by omega) HA.out HB.out HN.out).mono ?_
  rintro e w4 ⟨v4, rfl, hN4, hg4⟩
  go_wp2_with fail
  refine (HY.out 3 _ _ (by omega) hN4 hn2).mono ?_
  rintro e w5 ⟨rfl, hg5⟩
  go_wp2_with fail
  go_ret
  exact ⟨congrArg (fun z => Ending.returned (.string z)) HE.out, ((((Grew.refl w).trans hg2).trans hg3).trans hg4).trans hg5⟩

theorem write_or_w (x y : Tree) (hx : WriteOk x) (hy : WriteOk y) (l : Nat) (v : Value) (w : World) (hl : 1 < l) (h : Nodes w v (Fm.enc (.or x y))) (hn : (Fm.enc (.or x y)).length ≤ 1048576) :
    Calls Tryz.prog 155 #[v, .int .i64 l] w (Says w (Fm.txt (.or x y) l)) := by
  have hE : Fm.txt (.or x y) l = [40] ++ (Fm.txt x 1 ++ [124] ++ Fm.txt y 2) ++ [41] := by
    rw [Fm.txt, Fm.wrap, if_pos (by omega)]
  rw [hE]
  obtain ⟨b, o, c, rfl, hc, hm, k1⟩ := nodes_head h
  have hpos := Fm.enc_pos (.or x y)
  have HH := Lib.hid h
  have hg0 := Grew.refl w
  rw [show kindOf (.or x y) = 3 from rfl] at k1
  have HA := Lib.hid (at_first (xs := Fm.enc (.or x y)) (k := (3, 0)) (a := x) (rest := Fm.enc y) rfl)
  have HB := Lib.hid (at_second (xs := Fm.enc (.or x y)) (k := (3, 0)) (a := x) (b := y) rfl)
  have hlen : (Fm.enc (.or x y)).length = 1 + (Fm.enc x).length + (Fm.enc y).length := by simp [Fm.enc]; omega
  have HN := Lib.hid hlen
  have h1 := Fm.txt_len x 1
  have h2 := Fm.txt_len y 2
  have HX := Lib.hid hx
  have HY := Lib.hid hy
  have hn1 : (Fm.enc x).length ≤ 1048576 := by omega
  have hn2 : (Fm.enc y).length ≤ 1048576 := by omega
  have hpy := Fm.enc_pos y
  clear hE h hx hy hlen
  generalize Fm.enc (.or x y) = T at *
  have s1 := bs_size (Fm.txt x 1)
  have s2 := bs_size (Fm.txt y 2)
  have z1 : (bs (Fm.txt x 1)).size ≤ 4194304 := by omega
  have z2 : (bs (Fm.txt y 2)).size ≤ 4194304 := by omega
  have HE : Hid (bs [40] ++ (bs (Fm.txt x 1) ++ bs [124] ++ bs (Fm.txt y 2)) ++ bs [41] = bs ([40] ++ (Fm.txt x 1 ++ [124] ++ Fm.txt y 2) ++ [41])) := by unfold Hid; simp only [bs_append]
  clear s1 s2 h1 h2
  generalize [40] ++ (Fm.txt x 1 ++ [124] ++ Fm.txt y 2) ++ [41] = Z at *
  go_enter Tryz.func155, Tryz.ntmps155
  go_wp2_with fail
  refine (l02Left_c _ T x _ (HH.out.grew (Grew.refl w)) (by omega) HA.out).mono ?_
  rintro e w2 ⟨v2, rfl, hN2, hg2⟩
  go_wp2_with fail
  refine (HX.out 1 _ _ (by omega) hN2 hn1).mono ?_
  rintro e w3 ⟨rfl, hg3⟩
  go_wp2_with fail
  refine (l02Right_c _ T x y _ (HH.out.grew (((Grew.refl w).trans hg2).trans hg3)) (by omega) HA.out HB.out HN.out).mono ?_
  rintro e w4 ⟨v4, rfl, hN4, hg4⟩
  go_wp2_with fail
  refine (HY.out 2 _ _ (by omega) hN4 hn2).mono ?_
  rintro e w5 ⟨rfl, hg5⟩
  go_wp2_with fail
  go_ret
  exact ⟨congrArg (fun z => Ending.returned (.string z)) HE.out, ((((Grew.refl w).trans hg2).trans hg3).trans hg4).trans hg5⟩

theorem write_imp_w (x y : Tree) (hf : Fm.isF y = false) (hx : WriteOk x) (hy : WriteOk y) (l : Nat) (v : Value) (w : World) (hl : 0 < l) (h : Nodes w v (Fm.enc (.imp x y))) (hn : (Fm.enc (.imp x y)).length ≤ 1048576) :
    Calls Tryz.prog 155 #[v, .int .i64 l] w (Says w (Fm.txt (.imp x y) l)) := by
  have hE : Fm.txt (.imp x y) l = [40] ++ (Fm.txt x 1 ++ [62] ++ Fm.txt y 0) ++ [41] := by
    rw [Fm.txt, if_neg (by simp [hf]), Fm.wrap, if_pos (by omega)]
  rw [hE]
  obtain ⟨b, o, c, rfl, hc, hm, k1⟩ := nodes_head h
  have hpos := Fm.enc_pos (.imp x y)
  have HH := Lib.hid h
  have hg0 := Grew.refl w
  have HQ := Lib.hid (fun v2 w h1 h2 => l02Equal_c (.slice (some ⟨b, o, none⟩) (Fm.enc (.imp x y)).length c) v2 (Fm.enc (.imp x y)) Fm.truth w h1 h2 (by omega))
  rw [decide_eq_false (fun h => by have := (enc_truth h).2; rw [this] at hf; cases hf)] at HQ
  have hky : (kindOf y == 1) = false := by rw [← isF_kind]; exact hf
  rw [show kindOf (.imp x y) = 4 from rfl] at k1
  have HA := Lib.hid (at_first (xs := Fm.enc (.imp x y)) (k := (4, 0)) (a := x) (rest := Fm.enc y) rfl)
  have HB := Lib.hid (at_second (xs := Fm.enc (.imp x y)) (k := (4, 0)) (a := x) (b := y) rfl)
  have hlen : (Fm.enc (.imp x y)).length = 1 + (Fm.enc x).length + (Fm.enc y).length := by simp [Fm.enc]; omega
  have HN := Lib.hid hlen
  have h1 := Fm.txt_len x 1
  have h2 := Fm.txt_len y 0
  have HX := Lib.hid hx
  have HY := Lib.hid hy
  have hn1 : (Fm.enc x).length ≤ 1048576 := by omega
  have hn2 : (Fm.enc y).length ≤ 1048576 := by omega
  have hpy := Fm.enc_pos y
  clear hE h hx hy hlen hf
  generalize Fm.enc (.imp x y) = T at *
  have s1 := bs_size (Fm.txt x 1)
  have s2 := bs_size (Fm.txt y 0)
  have z1 : (bs (Fm.txt x 1)).size ≤ 4194304 := by omega
  have z2 : (bs (Fm.txt y 0)).size ≤ 4194304 := by omega
  have HE : Hid (bs [40] ++ (bs (Fm.txt x 1) ++ bs [62] ++ bs (Fm.txt y 0)) ++ bs [41] = bs ([40] ++ (Fm.txt x 1 ++ [62] ++ Fm.txt y 0) ++ [41])) := by unfold Hid; simp only [bs_append]
  clear s1 s2 h1 h2
  generalize [40] ++ (Fm.txt x 1 ++ [62] ++ Fm.txt y 0) ++ [41] = Z at *
  go_enter Tryz.func155, Tryz.ntmps155
  go_wp2_with fail
  refine (l02True_c _).mono ?_
  rintro e w01 ⟨v01, rfl, ho01, hg01⟩
  go_wp2_with fail
  refine (HQ.out _ _ (HH.out.grew hg01) ho01.nodes).mono ?_
  rintro e w02 ⟨rfl, hg02⟩
  have hg2x := hg01.trans hg02
  go_wp2_with fail
  refine (l02Right_c _ T x y _ (HH.out.grew hg2x) (by omega) HA.out HB.out HN.out).mono ?_
  rintro e w03 ⟨v03, rfl, hN03, hg03⟩
  obtain ⟨b3, o3, c3, rfl, hc3, hm3, k3⟩ := nodes_head hN03
  have hg3x := hg2x.trans hg03
  have hgr3 := Grew.refl w03
  go_wp2_with fail
  clear k3
  refine (l02Left_c _ T x _ (HH.out.grew hg3x) (by omega) HA.out).mono ?_
  rintro e w2 ⟨v2, rfl, hN2, hg2⟩
  go_wp2_with fail
  refine (HX.out 1 _ _ (by omega) hN2 hn1).mono ?_
  rintro e w3 ⟨rfl, hg3⟩
  go_wp2_with fail
  refine (l02Right_c _ T x y _ (HH.out.grew ((hg3x.trans hg2).trans hg3)) (by omega) HA.out HB.out HN.out).mono ?_
  rintro e w4 ⟨v4, rfl, hN4, hg4⟩
  go_wp2_with fail
  refine (HY.out 0 _ _ (by omega) hN4 hn2).mono ?_
  rintro e w5 ⟨rfl, hg5⟩
  go_wp2_with fail
  go_ret
  exact ⟨congrArg (fun z => Ending.returned (.string z)) HE.out, (((hg3x.trans hg2).trans hg3).trans hg4).trans hg5⟩

theorem write_box (x : Tree) (hx : WriteOk x) : WriteOk (.box x) := by
  intro l v w hl h hn
  have hE : Fm.txt (.box x) l = [91, 93] ++ Fm.txt x 3 := rfl
  rw [hE]
  obtain ⟨b, o, c, rfl, hc, hm, k1⟩ := nodes_head h
  have hpos := Fm.enc_pos (.box x)
  have HH := Lib.hid h
  have hg0 := Grew.refl w
  rw [show kindOf (.box x) = 5 from rfl] at k1
  have ha := at_first (xs := Fm.enc (.box x)) (k := (5, 0)) (a := x) (rest := []) (by simp [Fm.enc])
  have hlen : (Fm.enc (.box x)).length = 1 + (Fm.enc x).length := by simp [Fm.enc]; omega
  have hsub := h.sub 1 (Fm.enc x).length (c - 1) (by omega) (by omega) (by omega)
  rw [ha.take] at hsub
  have HS := Lib.hid hsub
  have hpx := Fm.enc_pos x
  rw [show (Fm.enc x).length = (Fm.enc (.box x)).length - 1 by omega] at HS
  have h1 := Fm.txt_len x 3
  have HX := Lib.hid hx
  have hn1 : (Fm.enc x).length ≤ 1048576 := by omega
  have hc1 : 1 < (Fm.enc (.box x)).length := by omega
  clear hE h hx hlen ha hsub
  generalize Fm.enc (.box x) = T at *
  have s1 := bs_size (Fm.txt x 3)
  have z1 : (bs (Fm.txt x 3)).size ≤ 4194304 := by omega
  have HE : Hid (bs [91, 93] ++ bs (Fm.txt x 3) = bs ([91, 93] ++ Fm.txt x 3)) := by unfold Hid; rw [bs_append]
  clear s1 h1
  generalize [91, 93] ++ Fm.txt x 3 = Z at *
  go_enter Tryz.func155, Tryz.ntmps155
  go_wp2_with fail
  refine (HX.out 3 _ _ (by omega) HS.out hn1).mono ?_
  rintro e w3 ⟨rfl, hg3⟩
  go_wp2_with fail
  go_ret
  exact ⟨congrArg (fun z => Ending.returned (.string z)) HE.out, hg3⟩

theorem write_dia (x : Tree) (hx : WriteOk x) : WriteOk (.dia x) := by
  intro l v w hl h hn
  have hE : Fm.txt (.dia x) l = [60, 62] ++ Fm.txt x 3 := rfl
  rw [hE]
  obtain ⟨b, o, c, rfl, hc, hm, k1⟩ := nodes_head h
  have hpos := Fm.enc_pos (.dia x)
  have HH := Lib.hid h
  have hg0 := Grew.refl w
  rw [show kindOf (.dia x) = 6 from rfl] at k1
  have ha := at_first (xs := Fm.enc (.dia x)) (k := (6, 0)) (a := x) (rest := []) (by simp [Fm.enc])
  have hlen : (Fm.enc (.dia x)).length = 1 + (Fm.enc x).length := by simp [Fm.enc]; omega
  have hsub := h.sub 1 (Fm.enc x).length (c - 1) (by omega) (by omega) (by omega)
  rw [ha.take] at hsub
  have HS := Lib.hid hsub
  have hpx := Fm.enc_pos x
  rw [show (Fm.enc x).length = (Fm.enc (.dia x)).length - 1 by omega] at HS
  have h1 := Fm.txt_len x 3
  have HX := Lib.hid hx
  have hn1 : (Fm.enc x).length ≤ 1048576 := by omega
  have hc1 : 1 < (Fm.enc (.dia x)).length := by omega
  clear hE h hx hlen ha hsub
  generalize Fm.enc (.dia x) = T at *
  have s1 := bs_size (Fm.txt x 3)
  have z1 : (bs (Fm.txt x 3)).size ≤ 4194304 := by omega
  have HE : Hid (bs [60, 62] ++ bs (Fm.txt x 3) = bs ([60, 62] ++ Fm.txt x 3)) := by unfold Hid; rw [bs_append]
  clear s1 h1
  generalize [60, 62] ++ Fm.txt x 3 = Z at *
  go_enter Tryz.func155, Tryz.ntmps155
  go_wp2_with fail
  refine (HX.out 3 _ _ (by omega) HS.out hn1).mono ?_
  rintro e w3 ⟨rfl, hg3⟩
  go_wp2_with fail
  go_ret
  exact ⟨congrArg (fun z => Ending.returned (.string z)) HE.out, hg3⟩

theorem write_tru (x : Tree) (hf : Fm.isF x = true) : WriteOk (.imp x .fls) := by
  intro l v w hl h hn
  have hE : Fm.txt (.imp x .fls) l = [84] := by
    rw [Fm.txt, if_pos (show Fm.isF .fls = true from rfl), if_pos hf]
  rw [hE]
  obtain ⟨b, o, c, rfl, hc, hm, k1⟩ := nodes_head h
  have hpos := Fm.enc_pos (.imp x .fls)
  have HH := Lib.hid h
  have hg0 := Grew.refl w
  have HQ := Lib.hid (fun v2 w h1 h2 => l02Equal_c (.slice (some ⟨b, o, none⟩) (Fm.enc (.imp x .fls)).length c) v2 (Fm.enc (.imp x .fls)) Fm.truth w h1 h2 (by omega))
  rw [decide_eq_true (by rw [Fm.isF_eq hf]; rfl)] at HQ
  rw [show kindOf (.imp x .fls) = 4 from rfl] at k1
  have HA := Lib.hid (at_first (xs := Fm.enc (.imp x .fls)) (k := (4, 0)) (a := x) (rest := Fm.enc .fls) rfl)
  have HB := Lib.hid (at_second (xs := Fm.enc (.imp x .fls)) (k := (4, 0)) (a := x) (b := .fls) rfl)
  have hlen : (Fm.enc (.imp x .fls)).length = 1 + (Fm.enc x).length + (Fm.enc .fls).length := by simp [Fm.enc]; omega
  have HN := Lib.hid hlen
  have hn1 : (Fm.enc x).length ≤ 1048576 := by omega
  clear hE h hlen hf
  generalize Fm.enc (.imp x .fls) = T at *
  go_enter Tryz.func155, Tryz.ntmps155
  go_wp2_with fail
  refine (l02True_c _).mono ?_
  rintro e w01 ⟨v01, rfl, ho01, hg01⟩
  go_wp2_with fail
  refine (HQ.out _ _ (HH.out.grew hg01) ho01.nodes).mono ?_
  rintro e w02 ⟨rfl, hg02⟩
  have hg2x := hg01.trans hg02
  go_wp2_with fail
  go_ret
  exact ⟨rfl, hg2x⟩

theorem write_not (x : Tree) (hf : Fm.isF x = false) (hx : WriteOk x) : WriteOk (.imp x .fls) := by
  intro l v w hl h hn
  have hE : Fm.txt (.imp x .fls) l = [126] ++ Fm.txt x 3 := by
    rw [Fm.txt, if_pos (show Fm.isF .fls = true from rfl), if_neg (by simp [hf])]
  rw [hE]
  obtain ⟨b, o, c, rfl, hc, hm, k1⟩ := nodes_head h
  have hpos := Fm.enc_pos (.imp x .fls)
  have HH := Lib.hid h
  have hg0 := Grew.refl w
  have HQ := Lib.hid (fun v2 w h1 h2 => l02Equal_c (.slice (some ⟨b, o, none⟩) (Fm.enc (.imp x .fls)).length c) v2 (Fm.enc (.imp x .fls)) Fm.truth w h1 h2 (by omega))
  rw [decide_eq_false (fun h => by have := (enc_truth h).1; rw [this] at hf; cases hf)] at HQ
  rw [show kindOf (.imp x .fls) = 4 from rfl] at k1
  have HA := Lib.hid (at_first (xs := Fm.enc (.imp x .fls)) (k := (4, 0)) (a := x) (rest := Fm.enc .fls) rfl)
  have HB := Lib.hid (at_second (xs := Fm.enc (.imp x .fls)) (k := (4, 0)) (a := x) (b := .fls) rfl)
  have hlen : (Fm.enc (.imp x .fls)).length = 1 + (Fm.enc x).length + (Fm.enc .fls).length := by simp [Fm.enc]; omega
  have HN := Lib.hid hlen
  have hn1 : (Fm.enc x).length ≤ 1048576 := by omega
  have h1 := Fm.txt_len x 3
  have HX := Lib.hid hx
  have s1 := bs_size (Fm.txt x 3)
  have z1 : (bs (Fm.txt x 3)).size ≤ 4194304 := by omega
  have HE : Hid (bs [126] ++ bs (Fm.txt x 3) = bs ([126] ++ Fm.txt x 3)) := by unfold Hid; rw [bs_append]
  clear s1 h1 hx
  generalize [126] ++ Fm.txt x 3 = Z at *
  clear hE h hlen hf
  generalize Fm.enc (.imp x .fls) = T at *
  go_enter Tryz.func155, Tryz.ntmps155
  go_wp2_with fail
  refine (l02True_c _).mono ?_
  rintro e w01 ⟨v01, rfl, ho01, hg01⟩
  go_wp2_with fail
  refine (HQ.out _ _ (HH.out.grew hg01) ho01.nodes).mono ?_
  rintro e w02 ⟨rfl, hg02⟩
  have hg2x := hg01.trans hg02
  go_wp2_with fail
  refine (l02Right_c _ T x .fls _ (HH.out.grew hg2x) (by omega) HA.out HB.out HN.out).mono ?_
  rintro e w03 ⟨v03, rfl, hN03, hg03⟩
  obtain ⟨b3, o3, c3, rfl, hc3, hm3, k3⟩ := nodes_head hN03
  rw [show kindOf .fls = 1 from rfl] at k3
  have hp3 := Fm.enc_pos .fls
  have hg3x := hg2x.trans hg03
  have hgr3 := Grew.refl w03
  go_wp2_with fail
  clear k3
  refine (l02Left_c _ T x _ (HH.out.grew hg3x) (by omega) HA.out).mono ?_
  rintro e w4 ⟨v4, rfl, hN4, hg4⟩
  go_wp2_with fail
  refine (HX.out 3 _ _ (by omega) hN4 hn1).mono ?_
  rintro e w5 ⟨rfl, hg5⟩
  go_wp2_with fail
  go_ret
  exact ⟨congrArg (fun z => Ending.returned (.string z)) HE.out, (hg3x.trans hg4).trans hg5⟩

theorem write_fls : WriteOk .fls := by
  intro l v w hl h hn
  have hE : Fm.txt .fls l = [70] := rfl
  rw [hE]
  obtain ⟨b, o, c, rfl, hc, hm, k1⟩ := nodes_head h
  have hpos := Fm.enc_pos (.fls)
  have HH := Lib.hid h
  have hg0 := Grew.refl w
  rw [show kindOf .fls = 1 from rfl] at k1
  clear hE h
  generalize Fm.enc .fls = T at *
  go_enter Tryz.func155, Tryz.ntmps155
  go_wp2_with fail
  go_ret
  exact ⟨rfl, hg0⟩

theorem write_var (n : Fin 6) : WriteOk (.var n) := by
  intro l v w hl h hn
  have hE : Fm.txt (.var n) l = [UInt8.ofNat (112 + n.val)] := rfl
  rw [hE]
  have k2 : ∃ b o c, v = .slice (some ⟨b, o, none⟩) (Fm.enc (.var n)).length c ∧ ∀ W, Grew w W → W.cell? ⟨b, o + 1, none⟩ = some (.int .i64 (n.val : Int)) := by
    rcases h.open_ with ⟨_, h0⟩ | ⟨b, o, c, hv, _, _, _, hf⟩
    · simp [Fm.enc] at h0
    · refine ⟨b, o, c, hv, fun W hW => ?_⟩
      have := (hf 0 (by simp [Fm.enc]) W hW).2
      rw [show sy (Fm.enc (.var n)) 0 = (n.val : Int) from rfl] at this
      simpa using this
  obtain ⟨b, o, c, rfl, hc, hm, k1⟩ := nodes_head h
  have hpos := Fm.enc_pos (.var n)
  have HH := Lib.hid h
  have hg0 := Grew.refl w
  obtain ⟨b', o', c', hv', k2⟩ := k2
  simp only [Value.slice.injEq, Option.some.injEq, Addr.mk.injEq, and_true, true_and] at hv'
  obtain ⟨⟨rfl, rfl⟩, rfl⟩ := hv'
  rw [show kindOf (.var n) = 0 from rfl] at k1
  have hn6 := n.isLt
  clear hE h
  generalize Fm.enc (.var n) = T at *
  generalize n.val = q at *
  go_enter Tryz.func155, Tryz.ntmps155
  go_wp2_with fail
  go_quiet (fail)
  go_wp2_with fail
  go_ret
  exact ⟨congrArg (fun z => Ending.returned (.string z)) (letter_cut hn6), hg0.drewN _⟩

theorem write_ok (t : Tree) : WriteOk t := by
  induction t with
  | var n => exact write_var n
  | fls => exact write_fls
  | and x y hx hy =>
    intro l v w hl h hn
    rcases Nat.lt_or_ge 2 l with hw | hw
    · exact write_and_w x y hx hy l v w hw h hn
    · exact write_and_n x y hx hy l v w hw h hn
  | or x y hx hy =>
    intro l v w hl h hn
    rcases Nat.lt_or_ge 1 l with hw | hw
    · exact write_or_w x y hx hy l v w hw h hn
    · exact write_or_n x y hx hy l v w hw h hn
  | imp x y hx hy =>
    cases hf : Fm.isF y with
    | true =>
      obtain rfl := Fm.isF_eq hf
      cases hg : Fm.isF x with
      | true => exact write_tru x hg
      | false => exact write_not x hg hx
    | false =>
      intro l v w hl h hn
      rcases Nat.lt_or_ge 0 l with hw | hw
      · exact write_imp_w x y hf hx hy l v w hw h hn
      · exact write_imp_n x y hf hx hy l v w hw h hn
  | box x hx => exact write_box x hx
  | dia x hx => exact write_dia x hx

theorem l02Text_c (t : Tree) (v : Value) (w : World) (h : Nodes w v (Fm.enc t)) (hn : (Fm.enc t).length ≤ 1048576) :
    Calls Tryz.prog 127 #[v] w (Says w (Fm.txt t 0)) := by
  have HT := Lib.hid (write_ok t 0 v w (by omega) h hn)
  go_enter Tryz.func127, Tryz.ntmps127
  go_wp2_with fail
  refine HT.out.mono ?_
  rintro e w1 ⟨rfl, hg1⟩
  go_wp2_with fail
  go_ret
  exact ⟨rfl, hg1⟩
end Go.Proofs.YthofkdpmgjkgkaaGreat

/- A text that reads to a tree whose text it is. -/
namespace Go.Proofs.YthofkdpmgjkgkaaGreat
open Go.RowKit
open Fm (Nd)

theorem enc_pre (t : Fm.Tree) : ∀ (u : Fm.Tree) (a b : List Nd), Fm.enc t ++ a = Fm.enc u ++ b → t = u ∧ a = b := by
  induction t with
  | var v =>
    intro u a b h
    cases u <;> simp [Fm.enc] at h
    exact ⟨congrArg Fm.Tree.var (Fin.ext (by have := h.1; omega)), h.2⟩
  | fls =>
    intro u a b h
    cases u <;> simp [Fm.enc] at h
    exact ⟨rfl, h⟩
  | and x y hx hy =>
    intro u a b h
    cases u <;> simp [Fm.enc] at h
    obtain ⟨e1, h1⟩ := hx _ _ _ h
    obtain ⟨e2, h2⟩ := hy _ _ _ h1
    exact ⟨by rw [e1, e2], h2⟩
  | or x y hx hy =>
    intro u a b h
    cases u <;> simp [Fm.enc] at h
    obtain ⟨e1, h1⟩ := hx _ _ _ h
    obtain ⟨e2, h2⟩ := hy _ _ _ h1
    exact ⟨by rw [e1, e2], h2⟩
  | imp x y hx hy =>
    intro u a b h
    cases u <;> simp [Fm.enc] at h
    obtain ⟨e1, h1⟩ := hx _ _ _ h
    obtain ⟨e2, h2⟩ := hy _ _ _ h1
    exact ⟨by rw [e1, e2], h2⟩
  | box x hx =>
    intro u a b h
    cases u <;> simp [Fm.enc] at h
    obtain ⟨e1, h1⟩ := hx _ _ _ h
    exact ⟨by rw [e1], h1⟩
  | dia x hx =>
    intro u a b h
    cases u <;> simp [Fm.enc] at h
    obtain ⟨e1, h1⟩ := hx _ _ _ h
    exact ⟨by rw [e1], h1⟩
theorem enc_inj {t u : Fm.Tree} (h : Fm.enc t = Fm.enc u) : t = u := (enc_pre t u [] [] (by simpa using h)).1

/-- The text is the text of a formula. -/
def IsGood (s : ByteArray) : Prop := ∃ t, Fm.pf s = (Fm.enc t, 0, 0) ∧ bs (Fm.txt t 0) = s
noncomputable def gd (s : ByteArray) : Bool := @decide (IsGood s) (Classical.propDecidable _)
theorem gd_true {s : ByteArray} (h : IsGood s) : gd s = true := by
  unfold gd
  exact @decide_eq_true _ (Classical.propDecidable _) h
theorem gd_false {s : ByteArray} (h : ¬ IsGood s) : gd s = false := by
  unfold gd
  exact @decide_eq_false _ (Classical.propDecidable _) h

theorem pf_cases (s : ByteArray) : (∃ t, Fm.pf s = (Fm.enc t, 0, 0)) ∨ ∃ p c, Fm.pf s = ([], p, c) ∧ (c == 0) = false := by
  unfold Fm.pf
  split
  · exact .inr ⟨_, _, rfl, by decide⟩
  · split
    · exact .inr ⟨_, _, rfl, by decide⟩
    · split
      · exact .inr ⟨_, _, rfl, by decide⟩
      · obtain ⟨t, ht⟩ := Fm.parse_enc s.data.toList Fm.fuel
        refine .inl ⟨t, ?_⟩
        rw [← ht]
        rfl
theorem gd_bad {s : ByteArray} {p : Nat} {c : Int} (h : Fm.pf s = ([], p, c)) (hc : (c == 0) = false) : gd s = false := by
  apply gd_false
  rintro ⟨t, ht, _⟩
  rw [h] at ht
  simp only [Prod.mk.injEq] at ht
  rw [ht.2.2] at hc
  cases hc
theorem gd_tree {s : ByteArray} {t : Fm.Tree} (h : Fm.pf s = (Fm.enc t, 0, 0)) : gd s = ((bs (Fm.txt t 0)).toList == s.toList) := by
  have e : ((bs (Fm.txt t 0)).toList == s.toList) = true ↔ bs (Fm.txt t 0) = s := by
    exact Lib.bytes_beq_iff _ _
  cases hb : ((bs (Fm.txt t 0)).toList == s.toList) with
  | true => exact gd_true ⟨t, h, e.1 hb⟩
  | false =>
    apply gd_false
    rintro ⟨u, hu, hs⟩
    rw [h] at hu
    simp only [Prod.mk.injEq, and_true] at hu
    have := enc_inj hu
    subst this
    rw [e.2 hs] at hb
    cases hb

/-- What the reference's test of a text gives. -/
def GivesG (w : World) (s : ByteArray) (e : Ending) (w' : World) : Prop := ∃ v, e = .returned (.tuple #[v, .bool (gd s)]) ∧ Own w' w.heap.size v (Fm.pf s).1 ∧ Grew w w'

theorem l02Good_c (s : ByteArray) (w : World) (hs : s.size ≤ 140737488355328) :
    Calls Tryz.prog 123 #[.string s] w (GivesG w s) := by
  have HP := fun w => specParse_c s w hs
  unfold GivesG
  rcases pf_cases s with ⟨t, ht⟩ | ⟨p, c, hp, hc⟩
  · have hn := Fm.pf_len s
    rw [gd_tree ht]
    rw [ht] at HP hn ⊢
    simp only at HP hn ⊢
    replace HP := Lib.hid HP
    have HT := Lib.hid (fun v w h => l02Text_c t v w h (by omega))
    clear ht
    generalize Fm.enc t = xs at *
    go_enter Tryz.func123, Tryz.ntmps123
    go_wp2_with fail
    refine (HP.out _).mono ?_
    rintro e w1 ⟨v1, rfl, ho1, hg1, _⟩
    go_wp2_with fail
    refine (HT.out _ _ ho1.nodes).mono ?_
    rintro e w2 ⟨rfl, hg2⟩
    go_wp2_with fail
    go_ret2
    exact ⟨_, rfl, ho1.grew hg2, hg1.trans hg2⟩
  · rw [gd_bad hp hc]
    rw [hp] at HP ⊢
    replace HP := Lib.hid HP
    clear hp
    go_enter Tryz.func123, Tryz.ntmps123
    go_wp2_with fail
    refine (HP.out _).mono ?_
    rintro e w1 ⟨v1, rfl, ho1, hg1, _⟩
    go_wp2_with fail
    go_ret2
    exact ⟨.slice none 0 0, rfl, Own.nil_ _ _, hg1⟩
end Go.Proofs.YthofkdpmgjkgkaaGreat

/- The parts of a formula, as the program's text needs them. -/
namespace Go.Proofs.YthofkdpmgjkgkaaGreat
open Go.RowKit
open Fm (Nd Tree)

theorem first_c (v : Value) (xs : List Nd) (t : Tree) (w : World) (h : Nodes w v xs) (hn : xs.length ≤ 1099511627776) (ht : At xs 1 t) :
    Calls Tryz.prog 184 #[v] w (Cuts w (Fm.enc t)) := by
  have HT := Lib.hid ht
  clear ht
  go_enter Tryz.func184, Tryz.ntmps184
  go_wp2_with fail
  refine (part_c _ xs 1 t _ h hn HT.out).mono ?_
  rintro e w1 ⟨v1, rfl, hN1, hg1⟩
  go_wp2_with fail
  go_ret
  exact ⟨_, rfl, hN1, hg1⟩

theorem second_c (v : Value) (xs : List Nd) (a t : Tree) (w : World) (h : Nodes w v xs) (hn : xs.length ≤ 1099511627776) (ha : At xs 1 a) (ht : At xs (1 + (Fm.enc a).length) t) :
    Calls Tryz.prog 185 #[v] w (Cuts w (Fm.enc t)) := by
  have HA := Lib.hid ha
  have HT := Lib.hid ht
  clear ha ht
  go_enter Tryz.func185, Tryz.ntmps185
  go_wp2_with fail
  refine (partEnd_at _ xs 1 a _ h hn HA.out).mono ?_
  rintro e w1 ⟨rfl, hg1⟩
  go_wp2_with fail
  refine (part_c _ xs (1 + (Fm.enc a).length) t _ (h.grew hg1) hn HT.out).mono ?_
  rintro e w2 ⟨v2, rfl, hN2, hg2⟩
  go_wp2_with fail
  go_ret
  exact ⟨_, rfl, hN2, hg1.trans hg2⟩

theorem isFalsum_c (v : Value) (t : Tree) (w : World) (h : Nodes w v (Fm.enc t)) :
    Calls Tryz.prog 187 #[v] w fun e w' => e = .returned (.bool (Fm.isF t)) ∧ Grew w w' := by
  have hpos := Fm.enc_pos t
  rcases h.open_ with ⟨rfl, h0⟩ | ⟨b, o, c, rfl, hc, hm, hb, hf⟩
  · rw [h0] at hpos; simp at hpos
  · have k1 := (hf 0 (by omega) w (Grew.refl _)).1
    rw [kd_enc] at k1
    rw [isF_kind]
    simp only [Nat.zero_mul, Nat.add_zero] at k1
    clear hf h
    go_enter Tryz.func187, Tryz.ntmps187
    go_wp2_with fail
    go_ret
    exact ⟨rfl, Grew.refl _⟩

theorem isNegation_c (v : Value) (t : Tree) (w : World) (h : Nodes w v (Fm.enc t)) (hn : (Fm.enc t).length ≤ 1099511627776) :
    Calls Tryz.prog 186 #[v] w fun e w' => e = .returned (.bool (isNeg t)) ∧ Grew w w' := by
  have hpos := Fm.enc_pos t
  rcases h.open_ with ⟨rfl, h0⟩ | ⟨b, o, c, rfl, hc, hm, hb, hf⟩
  · rw [h0] at hpos; simp at hpos
  · have k1 := (hf 0 (by omega) w (Grew.refl _)).1
    rw [kd_enc] at k1
    simp only [Nat.zero_mul, Nat.add_zero] at k1
    clear hf
    by_cases hk : kindOf t = 4
    · obtain ⟨x, y, rfl⟩ : ∃ x y, t = .imp x y := by cases t <;> simp_all [kindOf]
      have ha := at_first (xs := Fm.enc (.imp x y)) (k := (4, 0)) (a := x) (rest := Fm.enc y) rfl
      have hb2 := at_second (xs := Fm.enc (.imp x y)) (k := (4, 0)) (a := x) (b := y) rfl
      have HA := Lib.hid ha
      have HB := Lib.hid hb2
      have HH := Lib.hid h
      have hE : isNeg (.imp x y) = Fm.isF y := rfl
      rw [hE]
      rw [hk] at k1
      clear ha hb2 h hE hk
      generalize Fm.enc (.imp x y) = T at *
      go_enter Tryz.func186, Tryz.ntmps186
      go_wp2_with fail
      refine (second_c _ T x y _ HH.out hn HA.out HB.out).mono ?_
      rintro e w1 ⟨v1, rfl, hN1, hg1⟩
      go_wp2_with fail
      refine (isFalsum_c _ y _ hN1).mono ?_
      rintro e w2 ⟨rfl, hg2⟩
      go_wp2_with fail
      go_ret
      exact ⟨by simp, hg1.trans hg2⟩
    · have hE : isNeg t = false := by cases t <;> simp_all [isNeg, kindOf]
      rw [hE]
      have hk' : (kindOf t == 4) = false := by simpa using hk
      clear hE hk h
      generalize kindOf t = K at *
      go_enter Tryz.func186, Tryz.ntmps186
      go_wp2_with fail
      go_ret
      exact ⟨rfl, Grew.refl _⟩

theorem levelOf_c (v : Value) (t : Tree) (w : World) (h : Nodes w v (Fm.enc t)) (hn : (Fm.enc t).length ≤ 1099511627776) :
    Calls Tryz.prog 183 #[v] w fun e w' => e = .returned (.int .i64 (Fm.own t)) ∧ Grew w w' := by
  have hpos := Fm.enc_pos t
  rcases h.open_ with ⟨rfl, h0⟩ | ⟨b, o, c, rfl, hc, hm, hb, hf⟩
  · rw [h0] at hpos; simp at hpos
  · have k1 := fun W hW => (hf 0 (by omega) W hW).1
    rw [kd_enc] at k1
    simp only [Nat.zero_mul, Nat.add_zero] at k1
    have HN := Lib.hid (fun w h => isNegation_c (.slice (some ⟨b, o, none⟩) (Fm.enc t).length c) t w h hn)
    have HH := Lib.hid h
    have hg0 := Grew.refl w
    clear hf h
    by_cases hk : kindOf t = 4
    · rw [hk] at k1
      cases hng : isNeg t with
      | true =>
        have hE : Fm.own t = 3 := by cases t <;> simp_all [isNeg, kindOf, Fm.own]
        rw [hE]
        rw [hng] at HN
        clear hE hk hng
        go_enter Tryz.func183, Tryz.ntmps183
        go_wp2_with fail
        refine (HN.out _ HH.out).mono ?_
        rintro e w1 ⟨rfl, hg1⟩
        go_wp2_with fail
        go_ret
        exact ⟨rfl, hg1⟩
      | false =>
        have hE : Fm.own t = 0 := by cases t <;> simp_all [isNeg, kindOf, Fm.own]
        rw [hE]
        rw [hng] at HN
        clear hE hk hng
        go_enter Tryz.func183, Tryz.ntmps183
        go_wp2_with fail
        refine (HN.out _ HH.out).mono ?_
        rintro e w1 ⟨rfl, hg1⟩
        go_wp2_with fail
        go_ret
        exact ⟨rfl, hg1⟩
    · have hk4 : (kindOf t == 4) = false := by simpa using hk
      by_cases hk3 : kindOf t = 3
      · have hE : Fm.own t = 1 := by cases t <;> simp_all [kindOf, Fm.own]
        rw [hE]
        rw [hk3] at k1
        clear hE hk hk4 hk3
        go_enter Tryz.func183, Tryz.ntmps183
        go_wp2_with fail
        go_ret
        exact ⟨rfl, Grew.refl _⟩
      by_cases hk2 : kindOf t = 2
      · have hE : Fm.own t = 2 := by cases t <;> simp_all [kindOf, Fm.own]
        rw [hE]
        rw [hk2] at k1
        clear hE hk hk4 hk3 hk2
        go_enter Tryz.func183, Tryz.ntmps183
        go_wp2_with fail
        go_ret
        exact ⟨rfl, Grew.refl _⟩
      · have hE : Fm.own t = 3 := by cases t <;> simp_all [kindOf, Fm.own]
        rw [hE]
        have hk3' : (kindOf t == 3) = false := by simpa using hk3
        have hk2' : (kindOf t == 2) = false := by simpa using hk2
        clear hE hk hk3 hk2 HN HH
        generalize kindOf t = K at *
        go_enter Tryz.func183, Tryz.ntmps183
        go_wp2_with fail
        go_ret
        exact ⟨rfl, Grew.refl _⟩
end Go.Proofs.YthofkdpmgjkgkaaGreat

/- The text of a formula: the program's textAt. -/
namespace Go.Proofs.YthofkdpmgjkgkaaGreat
open Go.RowKit
open Fm (Nd Tree)

def TextOk (t : Tree) : Prop := ∀ (l : Nat) (v : Value) (w : World), l ≤ 3 → Nodes w v (Fm.enc t) → (Fm.enc t).length ≤ 1048576 →
  Calls Tryz.prog 174 #[v, .int .i64 l] w (Says w (Fm.txt t l))
/-- The same where no brackets are needed. -/
def BodyOk (t : Tree) : Prop := ∀ (l : Nat) (v : Value) (w : World), l ≤ Fm.own t → Nodes w v (Fm.enc t) → (Fm.enc t).length ≤ 1048576 →
  Calls Tryz.prog 174 #[v, .int .i64 l] w (Says w (Fm.txt t l))

theorem body_and (x y : Tree) (hx : TextOk x) (hy : TextOk y) : BodyOk (.and x y) := by
  intro l v w hl h hn
  have hown : Fm.own (.and x y) = 2 := by rfl
  have hE : Fm.txt (.and x y) l = Fm.txt x 2 ++ [38] ++ Fm.txt y 3 := by
    rw [Fm.txt, Fm.wrap, if_neg (by omega)]
  rw [hE]
  rw [hown] at hl
  obtain ⟨b, o, c, rfl, hc, hm, k1⟩ := nodes_head h
  have hpos := Fm.enc_pos (.and x y)
  have HL := Lib.hid (levelOf_c _ _ w h (by omega))
  have HH := Lib.hid h
  have hg0 := Grew.refl w
  rw [hown] at HL
  rw [show kindOf (.and x y) = 2 from rfl] at k1
  have HA := Lib.hid (at_first (xs := Fm.enc (.and x y)) (k := (2, 0)) (a := x) (rest := Fm.enc y) rfl)
  have HB := Lib.hid (at_second (xs := Fm.enc (.and x y)) (k := (2, 0)) (a := x) (b := y) rfl)
  have hlen : (Fm.enc (.and x y)).length = 1 + ((Fm.enc x).length + (Fm.enc y).length) := by simp [Fm.enc]; omega
  have h1 := Fm.txt_len x 2
  have h2 := Fm.txt_len y 3
  have HX := Lib.hid hx
  have HY := Lib.hid hy
  have hn1 : (Fm.enc x).length ≤ 1048576 := by omega
  have hn2 : (Fm.enc y).length ≤ 1048576 := by omega
  clear hE h hx hy hlen hown
  generalize Fm.enc (.and x y) = T at *
  have s1 := bs_size (Fm.txt x 2)
  have s2 := bs_size (Fm.txt y 3)
  have z1 : (bs (Fm.txt x 2)).size ≤ 4194304 := by omega
  have z2 : (bs (Fm.txt y 3)).size ≤ 4194304 := by omega
  have HE : Hid (bs (Fm.txt x 2) ++ bs [38] ++ bs (Fm.txt y 3) = bs (Fm.txt x 2 ++ [38] ++ Fm.txt y 3)) := by unfold Hid; rw [bs_append, bs_append]
  clear s1 s2 h1 h2
  generalize Fm.txt x 2 ++ [38] ++ Fm.txt y 3 = Z at *
  go_enter Tryz.func174, Tryz.ntmps174
  go_wp2_with fail
  refine HL.out.mono ?_
  rintro e w1 ⟨rfl, hg1⟩
  go_wp2_with fail
  refine (first_c _ T x _ (HH.out.grew hg1) (by omega) HA.out).mono ?_
  rintro e w2 ⟨v2, rfl, hN2, hg2⟩
  go_wp2_with fail
  refine (HX.out 2 _ _ (by omega) hN2 hn1).mono ?_
  rintro e w3 ⟨rfl, hg3⟩
  go_wp2_with fail
  refine (second_c _ T x y _ (HH.out.grew ((hg1.trans hg2).trans hg3)) (by omega) HA.out HB.out).mono ?_
  rintro e w4 ⟨v4, rfl, hN4, hg4⟩
  go_wp2_with fail
  refine (HY.out 3 _ _ (by omega) hN4 hn2).mono ?_
  rintro e w5 ⟨rfl, hg5⟩
  go_wp2_with fail
  go_ret
  exact ⟨congrArg (fun z => Ending.returned (.string z)) HE.out, (((hg1.trans hg2).trans hg3).trans hg4).trans hg5⟩

theorem body_or (x y : Tree) (hx : TextOk x) (hy : TextOk y) : BodyOk (.or x y) := by
  intro l v w hl h hn
  have hown : Fm.own (.or x y) = 1 := by rfl
  have hE : Fm.txt (.or x y) l = Fm.txt x 1 ++ [124] ++ Fm.txt y 2 := by
    rw [Fm.txt, Fm.wrap, if_neg (by omega)]
  rw [hE]
  rw [hown] at hl
  obtain ⟨b, o, c, rfl, hc, hm, k1⟩ := nodes_head h
  have hpos := Fm.enc_pos (.or x y)
  have HL := Lib.hid (levelOf_c _ _ w h (by omega))
  have HH := Lib.hid h
  have hg0 := Grew.refl w
  rw [hown] at HL
  rw [show kindOf (.or x y) = 3 from rfl] at k1
  have HA := Lib.hid (at_first (xs := Fm.enc (.or x y)) (k := (3, 0)) (a := x) (rest := Fm.enc y) rfl)
  have HB := Lib.hid (at_second (xs := Fm.enc (.or x y)) (k := (3, 0)) (a := x) (b := y) rfl)
  have hlen : (Fm.enc (.or x y)).length = 1 + ((Fm.enc x).length + (Fm.enc y).length) := by simp [Fm.enc]; omega
  have h1 := Fm.txt_len x 1
  have h2 := Fm.txt_len y 2
  have HX := Lib.hid hx
  have HY := Lib.hid hy
  have hn1 : (Fm.enc x).length ≤ 1048576 := by omega
  have hn2 : (Fm.enc y).length ≤ 1048576 := by omega
  clear hE h hx hy hlen hown
  generalize Fm.enc (.or x y) = T at *
  have s1 := bs_size (Fm.txt x 1)
  have s2 := bs_size (Fm.txt y 2)
  have z1 : (bs (Fm.txt x 1)).size ≤ 4194304 := by omega
  have z2 : (bs (Fm.txt y 2)).size ≤ 4194304 := by omega
  have HE : Hid (bs (Fm.txt x 1) ++ bs [124] ++ bs (Fm.txt y 2) = bs (Fm.txt x 1 ++ [124] ++ Fm.txt y 2)) := by unfold Hid; rw [bs_append, bs_append]
  clear s1 s2 h1 h2
  generalize Fm.txt x 1 ++ [124] ++ Fm.txt y 2 = Z at *
  go_enter Tryz.func174, Tryz.ntmps174
  go_wp2_with fail
  refine HL.out.mono ?_
  rintro e w1 ⟨rfl, hg1⟩
  go_wp2_with fail
  refine (first_c _ T x _ (HH.out.grew hg1) (by omega) HA.out).mono ?_
  rintro e w2 ⟨v2, rfl, hN2, hg2⟩
  go_wp2_with fail
  refine (HX.out 1 _ _ (by omega) hN2 hn1).mono ?_
  rintro e w3 ⟨rfl, hg3⟩
  go_wp2_with fail
  refine (second_c _ T x y _ (HH.out.grew ((hg1.trans hg2).trans hg3)) (by omega) HA.out HB.out).mono ?_
  rintro e w4 ⟨v4, rfl, hN4, hg4⟩
  go_wp2_with fail
  refine (HY.out 2 _ _ (by omega) hN4 hn2).mono ?_
  rintro e w5 ⟨rfl, hg5⟩
  go_wp2_with fail
  go_ret
  exact ⟨congrArg (fun z => Ending.returned (.string z)) HE.out, (((hg1.trans hg2).trans hg3).trans hg4).trans hg5⟩

theorem body_imp (x y : Tree) (hf : Fm.isF y = false) (hx : TextOk x) (hy : TextOk y) : BodyOk (.imp x y) := by
  intro l v w hl h hn
  have hown : Fm.own (.imp x y) = 0 := by simp [Fm.own, hf]
  have hE : Fm.txt (.imp x y) l = Fm.txt x 1 ++ [62] ++ Fm.txt y 0 := by
    rw [Fm.txt, if_neg (by simp [hf]), Fm.wrap, if_neg (by omega)]
  rw [hE]
  rw [hown] at hl
  obtain ⟨b, o, c, rfl, hc, hm, k1⟩ := nodes_head h
  have hpos := Fm.enc_pos (.imp x y)
  have HL := Lib.hid (levelOf_c _ _ w h (by omega))
  have HH := Lib.hid h
  have hg0 := Grew.refl w
  have hng : isNeg (.imp x y) = false := hf
  have HG := Lib.hid (fun w h => isNegation_c (.slice (some ⟨b, o, none⟩) (Fm.enc (.imp x y)).length c) (.imp x y) w h (by omega))
  rw [hng] at HG
  rw [hown] at HL
  rw [show kindOf (.imp x y) = 4 from rfl] at k1
  have HA := Lib.hid (at_first (xs := Fm.enc (.imp x y)) (k := (4, 0)) (a := x) (rest := Fm.enc y) rfl)
  have HB := Lib.hid (at_second (xs := Fm.enc (.imp x y)) (k := (4, 0)) (a := x) (b := y) rfl)
  have hlen : (Fm.enc (.imp x y)).length = 1 + ((Fm.enc x).length + (Fm.enc y).length) := by simp [Fm.enc]; omega
  have h1 := Fm.txt_len x 1
  have h2 := Fm.txt_len y 0
  have HX := Lib.hid hx
  have HY := Lib.hid hy
  have hn1 : (Fm.enc x).length ≤ 1048576 := by omega
  have hn2 : (Fm.enc y).length ≤ 1048576 := by omega
  clear hE h hx hy hlen hown hng hf
  generalize Fm.enc (.imp x y) = T at *
  have s1 := bs_size (Fm.txt x 1)
  have s2 := bs_size (Fm.txt y 0)
  have z1 : (bs (Fm.txt x 1)).size ≤ 4194304 := by omega
  have z2 : (bs (Fm.txt y 0)).size ≤ 4194304 := by omega
  have HE : Hid (bs (Fm.txt x 1) ++ bs [62] ++ bs (Fm.txt y 0) = bs (Fm.txt x 1 ++ [62] ++ Fm.txt y 0)) := by unfold Hid; rw [bs_append, bs_append]
  clear s1 s2 h1 h2
  generalize Fm.txt x 1 ++ [62] ++ Fm.txt y 0 = Z at *
  go_enter Tryz.func174, Tryz.ntmps174
  go_wp2_with fail
  refine HL.out.mono ?_
  rintro e w1 ⟨rfl, hg1⟩
  go_wp2_with fail
  refine (HG.out _ (HH.out.grew hg1)).mono ?_
  rintro e w11 ⟨rfl, hg11⟩
  have hg1 := hg1.trans hg11
  go_wp2_with fail
  refine (first_c _ T x _ (HH.out.grew hg1) (by omega) HA.out).mono ?_
  rintro e w2 ⟨v2, rfl, hN2, hg2⟩
  go_wp2_with fail
  refine (HX.out 1 _ _ (by omega) hN2 hn1).mono ?_
  rintro e w3 ⟨rfl, hg3⟩
  go_wp2_with fail
  refine (second_c _ T x y _ (HH.out.grew ((hg1.trans hg2).trans hg3)) (by omega) HA.out HB.out).mono ?_
  rintro e w4 ⟨v4, rfl, hN4, hg4⟩
  go_wp2_with fail
  refine (HY.out 0 _ _ (by omega) hN4 hn2).mono ?_
  rintro e w5 ⟨rfl, hg5⟩
  go_wp2_with fail
  go_ret
  exact ⟨congrArg (fun z => Ending.returned (.string z)) HE.out, (((hg1.trans hg2).trans hg3).trans hg4).trans hg5⟩

theorem body_box (x : Tree) (hx : TextOk x) : BodyOk (.box x) := by
  intro l v w hl h hn
  have hown : Fm.own (.box x) = 3 := rfl
  have hE : Fm.txt (.box x) l = [91, 93] ++ Fm.txt x 3 := rfl
  rw [hE]
  rw [hown] at hl
  obtain ⟨b, o, c, rfl, hc, hm, k1⟩ := nodes_head h
  have hpos := Fm.enc_pos (.box x)
  have HL := Lib.hid (levelOf_c _ _ w h (by omega))
  have HH := Lib.hid h
  have hg0 := Grew.refl w
  rw [hown] at HL
  rw [show kindOf (.box x) = 5 from rfl] at k1
  have HA := Lib.hid (at_first (xs := Fm.enc (.box x)) (k := (5, 0)) (a := x) (rest := []) (by simp [Fm.enc]))
  have hlen : (Fm.enc (.box x)).length = 1 + (Fm.enc x).length := by simp [Fm.enc]; omega
  have h1 := Fm.txt_len x 3
  have HX := Lib.hid hx
  have hn1 : (Fm.enc x).length ≤ 1048576 := by omega
  clear hE h hx hlen hown
  generalize Fm.enc (.box x) = T at *
  have s1 := bs_size (Fm.txt x 3)
  have z1 : (bs (Fm.txt x 3)).size ≤ 4194304 := by omega
  have HE : Hid (bs [91, 93] ++ bs (Fm.txt x 3) = bs ([91, 93] ++ Fm.txt x 3)) := by unfold Hid; rw [bs_append]
  clear s1 h1
  generalize [91, 93] ++ Fm.txt x 3 = Z at *
  go_enter Tryz.func174, Tryz.ntmps174
  go_wp2_with fail
  refine HL.out.mono ?_
  rintro e w1 ⟨rfl, hg1⟩
  go_wp2_with fail
  refine (first_c _ T x _ (HH.out.grew hg1) (by omega) HA.out).mono ?_
  rintro e w2 ⟨v2, rfl, hN2, hg2⟩
  go_wp2_with fail
  refine (HX.out 3 _ _ (by omega) hN2 hn1).mono ?_
  rintro e w3 ⟨rfl, hg3⟩
  go_wp2_with fail
  go_ret
  exact ⟨congrArg (fun z => Ending.returned (.string z)) HE.out, (hg1.trans hg2).trans hg3⟩

theorem body_dia (x : Tree) (hx : TextOk x) : BodyOk (.dia x) := by
  intro l v w hl h hn
  have hown : Fm.own (.dia x) = 3 := rfl
  have hE : Fm.txt (.dia x) l = [60, 62] ++ Fm.txt x 3 := rfl
  rw [hE]
  rw [hown] at hl
  obtain ⟨b, o, c, rfl, hc, hm, k1⟩ := nodes_head h
  have hpos := Fm.enc_pos (.dia x)
  have HL := Lib.hid (levelOf_c _ _ w h (by omega))
  have HH := Lib.hid h
  have hg0 := Grew.refl w
  rw [hown] at HL
  rw [show kindOf (.dia x) = 6 from rfl] at k1
  have HA := Lib.hid (at_first (xs := Fm.enc (.dia x)) (k := (6, 0)) (a := x) (rest := []) (by simp [Fm.enc]))
  have hlen : (Fm.enc (.dia x)).length = 1 + (Fm.enc x).length := by simp [Fm.enc]; omega
  have h1 := Fm.txt_len x 3
  have HX := Lib.hid hx
  have hn1 : (Fm.enc x).length ≤ 1048576 := by omega
  clear hE h hx hlen hown
  generalize Fm.enc (.dia x) = T at *
  have s1 := bs_size (Fm.txt x 3)
  have z1 : (bs (Fm.txt x 3)).size ≤ 4194304 := by omega
  have HE : Hid (bs [60, 62] ++ bs (Fm.txt x 3) = bs ([60, 62] ++ Fm.txt x 3)) := by unfold Hid; rw [bs_append]
  clear s1 h1
  generalize [60, 62] ++ Fm.txt x 3 = Z at *
  go_enter Tryz.func174, Tryz.ntmps174
  go_wp2_with fail
  refine HL.out.mono ?_
  rintro e w1 ⟨rfl, hg1⟩
  go_wp2_with fail
  refine (first_c _ T x _ (HH.out.grew hg1) (by omega) HA.out).mono ?_
  rintro e w2 ⟨v2, rfl, hN2, hg2⟩
  go_wp2_with fail
  refine (HX.out 3 _ _ (by omega) hN2 hn1).mono ?_
  rintro e w3 ⟨rfl, hg3⟩
  go_wp2_with fail
  go_ret
  exact ⟨congrArg (fun z => Ending.returned (.string z)) HE.out, (hg1.trans hg2).trans hg3⟩

theorem body_tru (x : Tree) (hf : Fm.isF x = true) : BodyOk (.imp x .fls) := by
  intro l v w hl h hn
  have hown : Fm.own (.imp x .fls) = 3 := rfl
  have hE : Fm.txt (.imp x .fls) l = [84] := by
    rw [Fm.txt, if_pos (show Fm.isF .fls = true from rfl), if_pos hf]
  rw [hE]
  rw [hown] at hl
  obtain ⟨b, o, c, rfl, hc, hm, k1⟩ := nodes_head h
  have hpos := Fm.enc_pos (.imp x .fls)
  have HL := Lib.hid (levelOf_c _ _ w h (by omega))
  have HH := Lib.hid h
  have hg0 := Grew.refl w
  have HG := Lib.hid (fun w h => isNegation_c (.slice (some ⟨b, o, none⟩) (Fm.enc (.imp x .fls)).length c) (.imp x .fls) w h (by omega))
  rw [show isNeg (.imp x .fls) = true from rfl] at HG
  rw [hown] at HL
  rw [show kindOf (.imp x .fls) = 4 from rfl] at k1
  have HA := Lib.hid (at_first (xs := Fm.enc (.imp x .fls)) (k := (4, 0)) (a := x) (rest := Fm.enc .fls) rfl)
  have hlen : (Fm.enc (.imp x .fls)).length = 2 + (Fm.enc x).length := by simp [Fm.enc]; omega
  have hn1 : (Fm.enc x).length ≤ 1048576 := by omega
  have HI := Lib.hid (fun v w h => isFalsum_c v x w h)
  rw [hf] at HI
  clear hE h hlen hown hf
  generalize Fm.enc (.imp x .fls) = T at *
  go_enter Tryz.func174, Tryz.ntmps174
  go_wp2_with fail
  refine HL.out.mono ?_
  rintro e w1 ⟨rfl, hg1⟩
  go_wp2_with fail
  refine (HG.out _ (HH.out.grew hg1)).mono ?_
  rintro e w11 ⟨rfl, hg11⟩
  have hg1 := hg1.trans hg11
  go_wp2_with fail
  refine (first_c _ T x _ (HH.out.grew hg1) (by omega) HA.out).mono ?_
  rintro e w2 ⟨v2, rfl, hN2, hg2⟩
  go_wp2_with fail
  refine (HI.out _ _ hN2).mono ?_
  rintro e w3 ⟨rfl, hg3⟩
  go_wp2_with fail
  go_ret
  exact ⟨rfl, (hg1.trans hg2).trans hg3⟩

theorem body_not (x : Tree) (hf : Fm.isF x = false) (hx : TextOk x) : BodyOk (.imp x .fls) := by
  intro l v w hl h hn
  have hown : Fm.own (.imp x .fls) = 3 := rfl
  have hE : Fm.txt (.imp x .fls) l = [126] ++ Fm.txt x 3 := by
    rw [Fm.txt, if_pos (show Fm.isF .fls = true from rfl), if_neg (by simp [hf])]
  rw [hE]
  rw [hown] at hl
  obtain ⟨b, o, c, rfl, hc, hm, k1⟩ := nodes_head h
  have hpos := Fm.enc_pos (.imp x .fls)
  have HL := Lib.hid (levelOf_c _ _ w h (by omega))
  have HH := Lib.hid h
  have hg0 := Grew.refl w
  have HG := Lib.hid (fun w h => isNegation_c (.slice (some ⟨b, o, none⟩) (Fm.enc (.imp x .fls)).length c) (.imp x .fls) w h (by omega))
  rw [show isNeg (.imp x .fls) = true from rfl] at HG
  rw [hown] at HL
  rw [show kindOf (.imp x .fls) = 4 from rfl] at k1
  have HA := Lib.hid (at_first (xs := Fm.enc (.imp x .fls)) (k := (4, 0)) (a := x) (rest := Fm.enc .fls) rfl)
  have hlen : (Fm.enc (.imp x .fls)).length = 2 + (Fm.enc x).length := by simp [Fm.enc]; omega
  have hn1 : (Fm.enc x).length ≤ 1048576 := by omega
  have HI := Lib.hid (fun v w h => isFalsum_c v x w h)
  rw [hf] at HI
  have h1 := Fm.txt_len x 3
  have HX := Lib.hid hx
  have s1 := bs_size (Fm.txt x 3)
  have z1 : (bs (Fm.txt x 3)).size ≤ 4194304 := by omega
  have HE : Hid (bs [126] ++ bs (Fm.txt x 3) = bs ([126] ++ Fm.txt x 3)) := by unfold Hid; rw [bs_append]
  clear s1 h1 hx
  generalize [126] ++ Fm.txt x 3 = Z at *
  clear hE h hlen hown hf
  generalize Fm.enc (.imp x .fls) = T at *
  go_enter Tryz.func174, Tryz.ntmps174
  go_wp2_with fail
  refine HL.out.mono ?_
  rintro e w1 ⟨rfl, hg1⟩
  go_wp2_with fail
  refine (HG.out _ (HH.out.grew hg1)).mono ?_
  rintro e w11 ⟨rfl, hg11⟩
  have hg1 := hg1.trans hg11
  go_wp2_with fail
  refine (first_c _ T x _ (HH.out.grew hg1) (by omega) HA.out).mono ?_
  rintro e w2 ⟨v2, rfl, hN2, hg2⟩
  go_wp2_with fail
  refine (HI.out _ _ hN2).mono ?_
  rintro e w3 ⟨rfl, hg3⟩
  go_wp2_with fail
  refine (first_c _ T x _ (HH.out.grew ((hg1.trans hg2).trans hg3)) (by omega) HA.out).mono ?_
  rintro e w4 ⟨v4, rfl, hN4, hg4⟩
  go_wp2_with fail
  refine (HX.out 3 _ _ (by omega) hN4 hn1).mono ?_
  rintro e w5 ⟨rfl, hg5⟩
  go_wp2_with fail
  go_ret
  exact ⟨congrArg (fun z => Ending.returned (.string z)) HE.out, (((hg1.trans hg2).trans hg3).trans hg4).trans hg5⟩

theorem body_fls : BodyOk .fls := by
  intro l v w hl h hn
  have hE : Fm.txt .fls l = [70] := rfl
  rw [hE]
  rw [show Fm.own .fls = 3 from rfl] at hl
  obtain ⟨b, o, c, rfl, hc, hm, k1⟩ := nodes_head h
  have hpos := Fm.enc_pos (.fls)
  have HL := Lib.hid (levelOf_c _ _ w h (by omega))
  have HH := Lib.hid h
  have hg0 := Grew.refl w
  rw [show Fm.own .fls = 3 from rfl] at HL
  rw [show kindOf .fls = 1 from rfl] at k1
  clear hE h
  generalize Fm.enc .fls = T at *
  go_enter Tryz.func174, Tryz.ntmps174
  go_wp2_with fail
  refine HL.out.mono ?_
  rintro e w1 ⟨rfl, hg1⟩
  go_wp2_with fail
  go_ret
  exact ⟨rfl, hg1⟩

theorem body_var (n : Fin 6) : BodyOk (.var n) := by
  intro l v w hl h hn
  have hE : Fm.txt (.var n) l = [UInt8.ofNat (112 + n.val)] := rfl
  rw [hE]
  rw [show Fm.own (.var n) = 3 from rfl] at hl
  have k2 : ∃ b o c, v = .slice (some ⟨b, o, none⟩) (Fm.enc (.var n)).length c ∧ ∀ W, Grew w W → W.cell? ⟨b, o + 1, none⟩ = some (.int .i64 (n.val : Int)) := by
    rcases h.open_ with ⟨_, h0⟩ | ⟨b, o, c, hv, _, _, _, hf⟩
    · simp [Fm.enc] at h0
    · refine ⟨b, o, c, hv, fun W hW => ?_⟩
      have := (hf 0 (by simp [Fm.enc]) W hW).2
      rw [show sy (Fm.enc (.var n)) 0 = (n.val : Int) from rfl] at this
      simpa using this
  obtain ⟨b, o, c, rfl, hc, hm, k1⟩ := nodes_head h
  have hpos := Fm.enc_pos (.var n)
  have HL := Lib.hid (levelOf_c _ _ w h (by omega))
  have HH := Lib.hid h
  have hg0 := Grew.refl w
  obtain ⟨b', o', c', hv', k2⟩ := k2
  simp only [Value.slice.injEq, Option.some.injEq, Addr.mk.injEq, and_true, true_and] at hv'
  obtain ⟨⟨rfl, rfl⟩, rfl⟩ := hv'
  rw [show Fm.own (.var n) = 3 from rfl] at HL
  rw [show kindOf (.var n) = 0 from rfl] at k1
  have hn6 := n.isLt
  clear hE h
  generalize Fm.enc (.var n) = T at *
  generalize n.val = q at *
  go_enter Tryz.func174, Tryz.ntmps174
  go_wp2_with fail
  refine HL.out.mono ?_
  rintro e w1 ⟨rfl, hg1⟩
  go_wp2_with fail
  go_quiet (fail)
  go_wp2_with fail
  go_ret
  exact ⟨congrArg (fun z => Ending.returned (.string z)) (letter_cut hn6), hg1.drewN _⟩

theorem textOk_of (t : Tree) (hb : BodyOk t) : TextOk t := by
  intro l v w hl h hn
  by_cases hw : Fm.own t < l
  · have hE : Fm.txt t l = [40] ++ Fm.txt t 0 ++ [41] := by
      cases t with
      | var n => simp [Fm.own] at hw; omega
      | fls => simp [Fm.own] at hw; omega
      | and x y => simp only [Fm.own] at hw; simp [Fm.txt, Fm.wrap, hw]
      | or x y => simp only [Fm.own] at hw; simp [Fm.txt, Fm.wrap, hw]
      | imp x y =>
        cases hf : Fm.isF y with
        | true => simp [Fm.own, hf] at hw; omega
        | false => simp [Fm.own, hf] at hw; simp [Fm.txt, Fm.wrap, hf, hw]
      | box x => simp [Fm.own] at hw; omega
      | dia x => simp [Fm.own] at hw; omega
    rw [hE]
    have h1 := Fm.txt_len t 0
    have s1 := bs_size (Fm.txt t 0)
    have z1 : (bs (Fm.txt t 0)).size ≤ 4194304 := by omega
    have HL := Lib.hid (levelOf_c _ _ w h (by omega))
    have HB := Lib.hid (fun w h => hb 0 v w (Nat.zero_le _) h hn)
    have HH := Lib.hid h
    have HE : Hid (bs [40] ++ bs (Fm.txt t 0) ++ bs [41] = bs ([40] ++ Fm.txt t 0 ++ [41])) := by unfold Hid; rw [bs_append, bs_append]
    clear hE h1 s1 hb h
    generalize Fm.own t = q at *
    generalize [40] ++ Fm.txt t 0 ++ [41] = Z at *
    go_enter Tryz.func174, Tryz.ntmps174
    go_wp2_with fail
    refine HL.out.mono ?_
    rintro e w1 ⟨rfl, hg1⟩
    go_wp2_with fail
    refine (HB.out _ (HH.out.grew hg1)).mono ?_
    rintro e w2 ⟨rfl, hg2⟩
    go_wp2_with fail
    go_ret
    exact ⟨congrArg (fun z => Ending.returned (.string z)) HE.out, hg1.trans hg2⟩
  · exact hb l v w (by omega) h hn

theorem text_ok (t : Tree) : TextOk t := by
  induction t with
  | var n => exact textOk_of _ (body_var n)
  | fls => exact textOk_of _ body_fls
  | and x y hx hy => exact textOk_of _ (body_and x y hx hy)
  | or x y hx hy => exact textOk_of _ (body_or x y hx hy)
  | imp x y hx hy =>
    cases hf : Fm.isF y with
    | true =>
      obtain rfl := Fm.isF_eq hf
      cases hg : Fm.isF x with
      | true => exact textOk_of _ (body_tru x hg)
      | false => exact textOk_of _ (body_not x hg hx)
    | false => exact textOk_of _ (body_imp x y hf hx hy)
  | box x hx => exact textOk_of _ (body_box x hx)
  | dia x hx => exact textOk_of _ (body_dia x hx)

theorem text_c (t : Tree) (v : Value) (w : World) (h : Nodes w v (Fm.enc t)) (hn : (Fm.enc t).length ≤ 1048576) :
    Calls Tryz.prog 157 #[v] w (Says w (Fm.txt t 0)) := by
  have HT := Lib.hid (text_ok t 0 v w (by omega) h hn)
  go_enter Tryz.func157, Tryz.ntmps157
  go_wp2_with fail
  refine HT.out.mono ?_
  rintro e w1 ⟨rfl, hg1⟩
  go_wp2_with fail
  go_ret
  exact ⟨rfl, hg1⟩
end Go.Proofs.YthofkdpmgjkgkaaGreat

/- The program's 'parsed'. -/
namespace Go.Proofs.YthofkdpmgjkgkaaGreat
open Go.RowKit
open Fm (Nd)

/-- A new list, nil where it is empty. -/
def GivesN (w : World) (xs : List Nd) (e : Ending) (w' : World) : Prop := ∃ v, e = .returned v ∧ Own w' w.heap.size v xs ∧ Grew w w' ∧ (xs = [] → v = .slice none 0 0)

theorem parsed_c (s : ByteArray) (w : World) (hs : s.size ≤ 140737488355328) :
    Calls Tryz.prog 133 #[.string s] w (GivesN w (Fm.pf s).1) := by
  have HP := Lib.hid (fun w => parse_c s w hs)
  generalize Fm.pf s = r at *
  go_enter Tryz.func133, Tryz.ntmps133
  go_wp2_with fail
  refine (HP.out _).mono ?_
  rintro e w1 ⟨v1, rfl, ho1, hg1, hz1⟩
  have HZ := Lib.hid hz1
  clear hz1
  go_wp2_with fail
  go_ret
  exact ⟨_, rfl, ho1, hg1, HZ.out⟩
end Go.Proofs.YthofkdpmgjkgkaaGreat

/- Slices of strings. -/
namespace Go.Proofs.YthofkdpmgjkgkaaGreat
open Go.RowKit

def st (L : List ByteArray) (i : Nat) : ByteArray := L.getD i ByteArray.empty
def scells (L : List ByteArray) : List Value := L.map Value.string
theorem scells_length (L : List ByteArray) : (scells L).length = L.length * 1 := by simp [scells]
theorem scells_one (L : List ByteArray) : ∀ u ∈ scells L, u.oneCell' = true := by
  intro u hu
  simp only [scells, List.mem_map] at hu
  obtain ⟨x, _, rfl⟩ := hu
  rfl
theorem scells_at {L : List ByteArray} {i : Nat} (h : i < L.length) : (scells L)[i]? = some (.string (st L i)) := by simp [scells, st, List.getD, h]
theorem scells_append (K L : List ByteArray) : scells (K ++ L) = scells K ++ scells L := by simp [scells]
theorem st_get {L : List ByteArray} {i : Nat} (h : i < L.length) : L[i] = st L i := by simp [st, List.getD, h]

/-- The value reads as the list of strings. -/
def Strs (w : World) (v : Value) (L : List ByteArray) : Prop := Rd w 1 v L.length (scells L)
/-- A row of the call's own that holds the strings. -/
def OwnS (w : World) (B : Nat) (v : Value) (L : List ByteArray) : Prop := w.ownsRow B 9 1 v L.length (scells L)
theorem Strs.grew {w w' : World} {v : Value} {L : List ByteArray} (h : Strs w v L) (hb : Grew w w') : Strs w' v L := Rd.grew h hb
theorem Strs.nil_ (w : World) : Strs w (.slice none 0 0) [] := Rd.nil_ w 1
theorem OwnS.strs {w : World} {B : Nat} {v : Value} {L : List ByteArray} (h : OwnS w B v L) : Strs w v L := Rd.of_own h
theorem OwnS.nil_ (w : World) (B : Nat) : OwnS w B (.slice none 0 0) [] := World.ownsRow_nil w B _ 1
theorem OwnS.grew {w w' : World} {B : Nat} {v : Value} {L : List ByteArray} (h : OwnS w B v L) (hb : Grew w w') : OwnS w' B v L := own_grew h hb
theorem OwnS.base {w : World} {B B' : Nat} {v : Value} {L : List ByteArray} (h : OwnS w B v L) (hb : B' ≤ B) : OwnS w B' v L := own_base h hb

theorem Strs.open_ {w : World} {v : Value} {L : List ByteArray} (h : Strs w v L) :
    (v = .slice none 0 0 ∧ L = []) ∨ ∃ b o c, v = .slice (some ⟨b, o, none⟩) L.length c ∧ L.length ≤ c ∧ c ≤ 9223372036854775807 ∧ b < w.heap.size ∧
      ∀ i, i < L.length → ∀ W, Grew w W → W.cell? ⟨b, o + i, none⟩ = some (.string (st L i)) := by
  obtain ⟨_, _, h3⟩ := h
  rcases h3 with ⟨h4, h5⟩ | ⟨b, o, c, h4, h5, h6, h7, h8⟩
  · exact .inl ⟨h4, List.eq_nil_of_length_eq_zero h5⟩
  · exact .inr ⟨b, o, c, h4, h5, h6, h7, fun i hi W hW => (hW.cell (p := ⟨b, o + i, none⟩) h7).trans (h8 _ _ (scells_at hi))⟩
theorem strs_slice {w : World} {v : Value} {L : List ByteArray} (h : Strs w v L) : ∃ A c, v = .slice A L.length c := by
  rcases h.open_ with ⟨rfl, rfl⟩ | ⟨b, o, c, rfl, _⟩
  · exact ⟨_, _, rfl⟩
  · exact ⟨_, _, rfl⟩
/-- A literal of strings in a new block. -/
theorem OwnS.lit (w : World) (B : Nat) (L : List ByteArray) (cs : Array Value) (hB : B ≤ w.heap.size) (hn : L.length ≤ 9223372036854775807) (hc : cs.toList = scells L) :
    OwnS (w.alloc (.cells cs 9)) B (.slice (some ⟨w.heap.size, 0, none⟩) L.length L.length) L := by
  have hl : cs.size = L.length * 1 := by rw [← Array.length_toList, hc, scells_length]
  have h := World.ownsRow_lit (e := 9) (size := 1) w cs L.length hB hn hl
  rw [hc] at h
  exact h
theorem OwnS.mk_ {w : World} {B : Nat} {L : List ByteArray} {g c : Nat} {cur : Array Value} (hB : B ≤ g) (hg : w.heap[g]? = some (.cells cur 9 (0, 0))) (hnc : L.length ≤ c) (hcm : c ≤ 9223372036854775807) (hcs : cur.size = c)
    (hc : ∀ i, i < L.length → cur[i]? = some (.string (st L i))) : OwnS w B (.slice (some ⟨g, 0, none⟩) L.length c) L := by
  refine ⟨scells_length L, .inr ⟨g, c, cur, rfl, hB, hg, hnc, hcm, by omega, ?_⟩⟩
  apply List.ext_getElem?
  intro j
  rw [List.getElem?_take]
  by_cases hj : j < L.length
  · rw [if_pos (by omega), scells_at hj]
    simpa using hc j hj
  · rw [if_neg (by omega), List.getElem?_eq_none (by rw [scells_length]; omega)]

theorem Tryz.infoStr : (Tryz.prog.info? 9).map (fun i => (i.zero, i.size, i.bytes)) = some (some (.string ByteArray.empty), 1, 16) := by kernel_rfl

/-- The call returns a new list of strings. -/
def GivesS (w : World) (L : List ByteArray) (e : Ending) (w' : World) : Prop := ∃ v, e = .returned v ∧ OwnS w' w.heap.size v L ∧ Grew w w'

end Go.Proofs.YthofkdpmgjkgkaaGreat

/- isText of the program. -/
namespace Go.Proofs.YthofkdpmgjkgkaaGreat
open Go.RowKit
open Fm (Nd)

theorem text0_c (t : Fm.Tree) (v : Value) (w : World) (h : Nodes w v (Fm.enc t)) (hn : (Fm.enc t).length ≤ 1048576) :
    Calls Tryz.prog 157 #[v] w (Says w (Fm.txt t 0)) := text_c t v w h hn

theorem isText_c (s : ByteArray) (w : World) (hs : s.size ≤ 140737488355328) :
    Calls Tryz.prog 131 #[.string s] w fun e w' => e = .returned (.bool (gd s)) ∧ Grew w w' := by
  have HP := fun w => parsed_c s w hs
  rcases pf_cases s with ⟨t, ht⟩ | ⟨p, c, hp, hc⟩
  · have hn := Fm.pf_len s
    have hpos := Fm.enc_pos t
    rw [gd_tree ht]
    rw [ht] at HP hn
    simp only at HP hn
    replace HP := Lib.hid HP
    have HT := Lib.hid (fun v w h => text0_c t v w h (by omega))
    have HO := Lib.hid (fun w (v : Value) (h : Own w w.heap.size v (Fm.enc t)) => h)
    clear ht HO
    have hne := fun w (b : Option Addr) n c => run_neq_slice_nil_any (P := Tryz.prog) w 101 135 b n c 0 0 Tryz.underlying101
    generalize Fm.enc t = xs at *
    go_enter Tryz.func131, Tryz.ntmps131
    go_wp2_with fail
    refine (HP.out _).mono ?_
    rintro e w1 ⟨v1, rfl, ho1, hg1, _⟩
    rcases ho1.open_ with ⟨rfl, h0⟩ | ⟨g, c, cur, rfl, _⟩
    · rw [h0] at hpos; cases hpos
    go_wp2_with fail
    refine (HT.out _ _ ho1.nodes).mono ?_
    rintro e w2 ⟨rfl, hg2⟩
    go_wp2_with fail
    go_ret
    exact ⟨rfl, hg1.trans hg2⟩
  · rw [gd_bad hp hc]
    rw [hp] at HP
    replace HP := Lib.hid HP
    clear hp
    go_enter Tryz.func131, Tryz.ntmps131
    go_wp2_with fail
    refine (HP.out _).mono ?_
    rintro e w1 ⟨v1, rfl, ho1, hg1, hz1⟩
    obtain rfl := hz1 rfl
    go_wp2_with fail
    go_ret
    exact ⟨rfl, hg1⟩
end Go.Proofs.YthofkdpmgjkgkaaGreat

/- A predicate on nodes: IndexFunc, ContainsFunc. -/
namespace Go.Proofs.YthofkdpmgjkgkaaGreat
open Go.RowKit
open Fm (Nd)

/-- None of the first k nodes meets the predicate. -/
def NoneP (p : Int → Int → Bool) (xs : List Nd) (k : Nat) : Prop := ∀ i, i < k → p (kd xs i) (sy xs i) = false
theorem NoneP.zero (p : Int → Int → Bool) (xs : List Nd) : NoneP p xs 0 := fun i hi => absurd hi (by omega)
theorem NoneP.succ {p : Int → Int → Bool} {xs : List Nd} {k : Nat} (h : NoneP p xs k) (h1 : p (kd xs k) (sy xs k) = false) : NoneP p xs (k + 1) := by
  intro i hi
  rcases Nat.lt_or_ge i k with hk | hk
  · exact h i hk
  · obtain rfl : i = k := by omega
    exact h1
/-- Some node meets the predicate. -/
noncomputable def anyP (p : Int → Int → Bool) (xs : List Nd) : Bool := !@decide (NoneP p xs xs.length) (Classical.propDecidable _)
theorem anyP_no {p : Int → Int → Bool} {xs : List Nd} (h : NoneP p xs xs.length) : anyP p xs = false := by
  unfold anyP
  rw [@decide_eq_true _ (Classical.propDecidable _) h]
  rfl
theorem anyP_at {p : Int → Int → Bool} {xs : List Nd} {k : Nat} (hk : k < xs.length) (h : p (kd xs k) (sy xs k) = true) : anyP p xs = true := by
  unfold anyP
  rw [@decide_eq_false _ (Classical.propDecidable _) fun H => by rw [H k hk] at h; cases h]
  rfl

/-- What the function value gives at a node. -/
def PredOk (f : Nat) (p : Int → Int → Bool) : Prop := ∀ a b W, Calls Tryz.prog f #[.agg #[.int .i64 a, .int .i64 b]] W fun e w' => e = .returned (.bool (p a b)) ∧ Grew W w'

theorem indexFunc_c (v : Value) (xs : List Nd) (f : Nat) (p : Int → Int → Bool) (w : World) (h : Nodes w v xs) (hn : xs.length ≤ 1099511627776) (hf : PredOk f p) (eg : ∀ args w, (callFunc f args).run Tryz.prog w = .ok (.enter f args) w) :
    Calls Tryz.prog 175 #[v, .func (.func f) #[] #[]] w fun e w' => ∃ r : Int, e = .returned (.int .i64 r) ∧ Grew w w' ∧ decide (0 ≤ r) = anyP p xs := by
  rcases h.open_ with ⟨rfl, rfl⟩ | ⟨b, o, c, rfl, hc, hm, hb, hcell⟩
  · rw [anyP_no (NoneP.zero _ _)]
    clear h hf
    go_enter Tryz.func175, Tryz.ntmps175
    go_wp2_with fail
    refine wp_loop_rounds 1 ?_; rw [rounds_succ]
    go_wp2_with fail
    go_ret
    exact ⟨_, rfl, Grew.refl _, rfl⟩
  obtain ⟨R, hR⟩ : ∃ R, R = anyP p xs := ⟨_, rfl⟩
  rw [← hR]
  have HA := Lib.hid (fun k hk h => hR.trans (@anyP_at p xs k hk h))
  have HZ := Lib.hid (fun h => hR.trans (@anyP_no p xs h))
  have HC := Lib.hid hcell
  have HF := Lib.hid hf
  clear hcell h hf hR
  generalize hN : xs.length = n at *
  clear hN
  go_enter Tryz.func175, Tryz.ntmps175
  go_wp2_with fail
  go_loopw [5, 8] (fun _ i wr => ∃ j : Nat, j ≤ n ∧ i = .int .i64 j ∧ Grew w wr ∧ Hid (NoneP p xs j)) (fun _ i _ => n - (intOf i).toNat)
  case atStart => exact ⟨0, Nat.zero_le _, rfl, Grew.refl _, NoneP.zero _ _⟩
  case round =>
    obtain ⟨j, hj, rfl, hB, HJ⟩ := hrel
    by_cases hlt : j < n
    · have k1 := (HC.out j hlt _ hB).1
      have k2 := (HC.out j hlt _ hB).2
      have hA := Lib.hid (HA.out j hlt)
      have hS := Lib.hid (fun h => HJ.out.succ (k := j) h)
      generalize kd xs j = x at *
      generalize sy xs j = y at *
      go_wp2_with fail
      go_at_fn f
      refine (HF.out x y _).mono ?_
      rintro e w1 ⟨rfl, hg1⟩
      have hB1 := hB.trans hg1
      cases hp : p x y with
      | true =>
        have hv := hA.out hp
        go_wp2_with fail
        go_ret
        exact ⟨_, rfl, hB1, by rw [hv]; simp⟩
      | false =>
        have hs := Lib.hid (hS.out hp)
        go_wp2_with fail
        go_roundw
        case rel => exact ⟨j + 1, by omega, by go_num, hB1, hs⟩
        case measure => simp [intOf]; omega
    · obtain rfl : j = n := by omega
      have hv := Lib.hid (HZ.out HJ.out)
      go_wp2_with fail
      go_ret
      exact ⟨_, rfl, hB, by rw [hv.out]; rfl⟩

theorem containsFunc_c (v : Value) (xs : List Nd) (f : Nat) (p : Int → Int → Bool) (w : World) (h : Nodes w v xs) (hn : xs.length ≤ 1099511627776) (hf : PredOk f p) (eg : ∀ args w, (callFunc f args).run Tryz.prog w = .ok (.enter f args) w) :
    Calls Tryz.prog 158 #[v, .func (.func f) #[] #[]] w fun e w' => e = .returned (.bool (anyP p xs)) ∧ Grew w w' := by
  have HI := Lib.hid (indexFunc_c v xs f p w h hn hf eg)
  clear h hf eg
  generalize anyP p xs = R at *
  go_enter Tryz.func158, Tryz.ntmps158
  go_wp2_with fail
  refine HI.out.mono ?_
  rintro e w1 ⟨r, rfl, hg1, hr⟩
  go_wp2_with fail
  go_ret
  exact ⟨by rw [← hr]; rfl, hg1⟩

end Go.Proofs.YthofkdpmgjkgkaaGreat

/- isPlain of the program, l02Plain of the reference. -/
namespace Go.Proofs.YthofkdpmgjkgkaaGreat
open Go.RowKit
open Fm (Nd)

def isBD (a _b : Int) : Bool := a == 5 || a == 6
theorem isModal_c (a : Int) (w : World) : Calls Tryz.prog 160 #[.int .i64 a] w fun e w' => e = .returned (.bool (a == 5 || a == 6)) ∧ Grew w w' := by
  cases h : (a == 5) with
  | true =>
    go_enter Tryz.func160, Tryz.ntmps160
    go_wp2_with fail
    go_ret
    exact ⟨rfl, Grew.refl _⟩
  | false =>
    go_enter Tryz.func160, Tryz.ntmps160
    go_wp2_with fail
    go_ret
    exact ⟨by simp, Grew.refl _⟩
theorem isPlain1_ok : PredOk 159 isBD := by
  intro a b w
  go_enter Tryz.func159, Tryz.ntmps159
  go_wp2_with fail
  refine (isModal_c _ _).mono ?_
  rintro e w1 ⟨rfl, hg1⟩
  go_wp2_with fail
  go_ret
  exact ⟨rfl, Grew.of_alloc hg1⟩
theorem isPlain_c (v : Value) (xs : List Nd) (w : World) (h : Nodes w v xs) (hn : xs.length ≤ 1099511627776) :
    Calls Tryz.prog 132 #[v] w fun e w' => e = .returned (.bool (!anyP isBD xs)) ∧ Grew w w' := by
  have HI := Lib.hid (containsFunc_c v xs _ _ w h hn isPlain1_ok (enters_of Tryz.func159 (by kernel_rfl) rfl))
  clear h
  generalize anyP isBD xs = R at *
  go_enter Tryz.func132, Tryz.ntmps132
  go_wp2_with fail
  refine HI.out.mono ?_
  rintro e w1 ⟨rfl, hg1⟩
  go_wp2_with fail
  go_ret
  exact ⟨rfl, hg1⟩

theorem l02Plain_c (v : Value) (xs : List Nd) (w : World) (h : Nodes w v xs) (hn : xs.length ≤ 1099511627776) :
    Calls Tryz.prog 124 #[v] w fun e w' => e = .returned (.bool (!anyP isBD xs)) ∧ Grew w w' := by
  rcases h.open_ with ⟨rfl, rfl⟩ | ⟨b, o, c, rfl, hc, hm, hb, hcell⟩
  · rw [anyP_no (NoneP.zero _ _)]
    clear h
    go_enter Tryz.func124, Tryz.ntmps124
    go_wp2_with fail
    refine wp_loop_rounds 1 ?_; rw [rounds_succ]
    go_wp2_with fail
    go_ret
    exact ⟨rfl, Grew.refl _⟩
  obtain ⟨R, hR⟩ : ∃ R, R = anyP isBD xs := ⟨_, rfl⟩
  rw [← hR]
  have HA := Lib.hid (fun k hk h => hR.trans (@anyP_at isBD xs k hk h))
  have HZ := Lib.hid (fun h => hR.trans (@anyP_no isBD xs h))
  have HC := Lib.hid hcell
  clear hcell h hR
  generalize hN : xs.length = n at *
  clear hN
  go_enter Tryz.func124, Tryz.ntmps124
  go_wp2_with fail
  go_loopw [3] (fun i wr => ∃ j : Nat, j ≤ n ∧ i = .int .i64 j ∧ Grew w wr ∧ Hid (NoneP isBD xs j)) (fun i _ => n - (intOf i).toNat)
  case atStart => exact ⟨0, Nat.zero_le _, rfl, Grew.refl _, NoneP.zero _ _⟩
  case round =>
    obtain ⟨j, hj, rfl, hB, HJ⟩ := hrel
    by_cases hlt : j < n
    · have k1 := (HC.out j hlt _ hB).1
      have hA := Lib.hid (HA.out j hlt)
      have hS := Lib.hid (fun h => HJ.out.succ (k := j) h)
      generalize kd xs j = x at *
      generalize sy xs j = y at *
      cases h5 : (x == 5) with
      | true =>
        have hv := Lib.hid (hA.out (by simp [isBD, h5]))
        go_wp2_with fail
        go_ret
        rw [hv.out]
        exact ⟨rfl, hB⟩
      | false =>
        cases h6 : (x == 6) with
        | true =>
          have hv := Lib.hid (hA.out (by simp [isBD, h6]))
          go_wp2_with fail
          go_ret
          rw [hv.out]
          exact ⟨rfl, hB⟩
        | false =>
          have hs := Lib.hid (hS.out (by simp [isBD, h5, h6]))
          go_wp2_with fail
          go_roundw
          case rel => exact ⟨j + 1, by omega, by go_num, hB, hs⟩
          case measure => simp [intOf]; omega
    · obtain rfl : j = n := by omega
      have hv := Lib.hid (HZ.out HJ.out)
      go_wp2_with fail
      go_ret
      rw [hv.out]
      exact ⟨rfl, hB⟩
end Go.Proofs.YthofkdpmgjkgkaaGreat

/- Is a text that of a plain formula? -/
namespace Go.Proofs.YthofkdpmgjkgkaaGreat
open Go.RowKit
open Fm (Nd)

/-- The text is the text of a plain formula. -/
noncomputable def gp (s : ByteArray) : Bool := gd s && !anyP isBD (Fm.pf s).1

def GivesP (w : World) (s : ByteArray) (e : Ending) (w' : World) : Prop := ∃ v, e = .returned (.tuple #[v, .bool (gp s)]) ∧ Own w' w.heap.size v (Fm.pf s).1 ∧ Grew w w'

theorem isPlainText_c (s : ByteArray) (w : World) (hs : s.size ≤ 140737488355328) :
    Calls Tryz.prog 104 #[.string s] w fun e w' => e = .returned (.bool (gp s)) ∧ Grew w w' := by
  have HG := fun w => isText_c s w hs
  have HR := fun w => parsed_c s w hs
  have hn := Fm.pf_len s
  unfold gp
  generalize (Fm.pf s).1 = xs at *
  have HP := Lib.hid (fun v w h => isPlain_c v xs w h (by omega))
  replace HR := Lib.hid HR
  generalize anyP isBD xs = q at *
  cases hg : gd s with
  | true =>
    rw [hg] at HG
    replace HG := Lib.hid HG
    clear hg
    go_enter Tryz.func104, Tryz.ntmps104
    go_wp2_with fail
    refine (HG.out _).mono ?_
    rintro e w1 ⟨rfl, hg1⟩
    go_wp2_with fail
    refine (HR.out _).mono ?_
    rintro e w2 ⟨v2, rfl, ho2, hg2, _⟩
    go_wp2_with fail
    refine (HP.out _ _ ho2.nodes).mono ?_
    rintro e w3 ⟨rfl, hg3⟩
    go_wp2_with fail
    go_ret
    exact ⟨rfl, (hg1.trans hg2).trans hg3⟩
  | false =>
    rw [hg] at HG
    replace HG := Lib.hid HG
    clear hg
    go_enter Tryz.func104, Tryz.ntmps104
    go_wp2_with fail
    refine (HG.out _).mono ?_
    rintro e w1 ⟨rfl, hg1⟩
    go_wp2_with fail
    go_ret
    exact ⟨rfl, hg1⟩
end Go.Proofs.YthofkdpmgjkgkaaGreat

/- A number between two bounds. -/
namespace Go.Proofs.YthofkdpmgjkgkaaGreat
open Go.RowKit

theorem l01In_c (k lo hi : Int) (w : World) : Calls Tryz.prog 46 #[.int .i64 k, .int .i64 lo, .int .i64 hi] w fun e w' => e = .returned (.bool (decide (lo ≤ k ∧ k ≤ hi))) ∧ Grew w w' := by
  by_cases h : lo ≤ k
  · have hd : decide (lo ≤ k ∧ k ≤ hi) = decide (k ≤ hi) := by simp [h]
    rw [hd]
    go_enter Tryz.func46, Tryz.ntmps46
    go_wp2_with fail
    go_ret
    exact ⟨rfl, Grew.refl _⟩
  · have hd : decide (lo ≤ k ∧ k ≤ hi) = false := by simp [h]
    rw [hd]
    go_enter Tryz.func46, Tryz.ntmps46
    go_wp2_with fail
    go_ret
    exact ⟨rfl, Grew.refl _⟩

theorem inRange_c (k lo hi : Int) (w : World) : Calls Tryz.prog 52 #[.int .i64 k, .int .i64 lo, .int .i64 hi] w fun e w' => e = .returned (.bool (decide (lo ≤ k ∧ k ≤ hi))) ∧ Grew w w' := by
  by_cases h : lo ≤ k
  · have hd : decide (lo ≤ k ∧ k ≤ hi) = decide (k ≤ hi) := by simp [h]
    rw [hd]
    go_enter Tryz.func52, Tryz.ntmps52
    go_wp2_with fail
    go_ret
    exact ⟨rfl, Grew.refl _⟩
  · have hd : decide (lo ≤ k ∧ k ≤ hi) = false := by simp [h]
    rw [hd]
    go_enter Tryz.func52, Tryz.ntmps52
    go_wp2_with fail
    go_ret
    exact ⟨rfl, Grew.refl _⟩
end Go.Proofs.YthofkdpmgjkgkaaGreat

/- What a term is: termParts, termEnd, isTerm of the program; l26Parts, l26End, l26Is of the reference. -/
namespace Go.Proofs.YthofkdpmgjkgkaaGreat
open Go.RowKit

theorem kind_cases (k : Int) : (k = 0 ∨ k = 1 ∨ k = 2 ∨ k = 3 ∨ k = 4 ∨ k = 5 ∨ k = 6 ∨ k = 7 ∨ k = 8 ∨ k = 9) ∨ ¬ (0 ≤ k ∧ k ≤ 9) := by omega

theorem termParts_c (k : Int) (w : World) :
    Calls Tryz.prog 122 #[.int .i64 k] w fun e w' => e = .returned (.int .i64 ((Tr.ar k : Int))) ∧ Grew w w' := by
  rcases kind_cases k with h | h
  · rcases h with rfl | rfl | rfl | rfl | rfl | rfl | rfl | rfl | rfl | rfl
    all_goals
      go_enter Tryz.func122, Tryz.ntmps122
      go_wp2_with fail
      go_ret
      exact ⟨rfl, Grew.refl _⟩
  · have ha : ((Tr.ar k : Int)) = (0 : Int) := by unfold Tr.ar; rw [if_neg (by omega), if_neg (by omega), if_neg (by omega)]; rfl
    rw [ha]
    have n0 : (k == 0) = false := by simp; omega
    have n1 : (k == 1) = false := by simp; omega
    have n2 : (k == 2) = false := by simp; omega
    have n3 : (k == 3) = false := by simp; omega
    have n4 : (k == 4) = false := by simp; omega
    have n5 : (k == 5) = false := by simp; omega
    have n6 : (k == 6) = false := by simp; omega
    have n7 : (k == 7) = false := by simp; omega
    have n8 : (k == 8) = false := by simp; omega
    have n9 : (k == 9) = false := by simp; omega
    clear h ha
    go_enter Tryz.func122, Tryz.ntmps122
    go_wp2_with fail
    go_ret
    exact ⟨rfl, Grew.refl _⟩

theorem l26Parts_c (k : Int) (w : World) :
    Calls Tryz.prog 87 #[.int .i64 k] w fun e w' => e = .returned (.int .i64 (if 0 ≤ k ∧ k ≤ 9 then (Tr.ar k : Int) else -1)) ∧ Grew w w' := by
  rcases kind_cases k with h | h
  · rcases h with rfl | rfl | rfl | rfl | rfl | rfl | rfl | rfl | rfl | rfl
    all_goals
      go_enter Tryz.func87, Tryz.ntmps87
      go_wp2_with fail
      go_ret
      exact ⟨rfl, Grew.refl _⟩
  · have ha : (if 0 ≤ k ∧ k ≤ 9 then (Tr.ar k : Int) else -1) = (-1 : Int) := by rw [if_neg h]
    rw [ha]
    have n0 : (k == 0) = false := by simp; omega
    have n1 : (k == 1) = false := by simp; omega
    have n2 : (k == 2) = false := by simp; omega
    have n3 : (k == 3) = false := by simp; omega
    have n4 : (k == 4) = false := by simp; omega
    have n5 : (k == 5) = false := by simp; omega
    have n6 : (k == 6) = false := by simp; omega
    have n7 : (k == 7) = false := by simp; omega
    have n8 : (k == 8) = false := by simp; omega
    have n9 : (k == 9) = false := by simp; omega
    clear h ha
    go_enter Tryz.func87, Tryz.ntmps87
    go_wp2_with fail
    go_ret
    exact ⟨rfl, Grew.refl _⟩

/-- Have the nodes of a kind a type? -/
def typedB (k : Int) : Bool := k == 1 || k == 6 || k == 7 || k == 9

theorem hasType_c (k : Int) (w : World) :
    Calls Tryz.prog 121 #[.int .i64 k] w fun e w' => e = .returned (.bool (typedB k)) ∧ Grew w w' := by
  rcases kind_cases k with h | h
  · rcases h with rfl | rfl | rfl | rfl | rfl | rfl | rfl | rfl | rfl | rfl
    all_goals
      go_enter Tryz.func121, Tryz.ntmps121
      go_wp2_with fail
      go_ret
      exact ⟨rfl, Grew.refl _⟩
  · have ha : typedB k = false := by unfold typedB; simp; omega
    rw [ha]
    have n0 : (k == 0) = false := by simp; omega
    have n1 : (k == 1) = false := by simp; omega
    have n2 : (k == 2) = false := by simp; omega
    have n3 : (k == 3) = false := by simp; omega
    have n4 : (k == 4) = false := by simp; omega
    have n5 : (k == 5) = false := by simp; omega
    have n6 : (k == 6) = false := by simp; omega
    have n7 : (k == 7) = false := by simp; omega
    have n8 : (k == 8) = false := by simp; omega
    have n9 : (k == 9) = false := by simp; omega
    clear h ha
    go_enter Tryz.func121, Tryz.ntmps121
    go_wp2_with fail
    go_ret
    exact ⟨by simp, Grew.refl _⟩

theorem l26Typed_c (k : Int) (w : World) :
    Calls Tryz.prog 119 #[.int .i64 k] w fun e w' => e = .returned (.bool (typedB k)) ∧ Grew w w' := by
  rcases kind_cases k with h | h
  · rcases h with rfl | rfl | rfl | rfl | rfl | rfl | rfl | rfl | rfl | rfl
    all_goals
      go_enter Tryz.func119, Tryz.ntmps119
      go_wp2_with fail
      go_ret
      exact ⟨rfl, Grew.refl _⟩
  · have ha : typedB k = false := by unfold typedB; simp; omega
    rw [ha]
    have n0 : (k == 0) = false := by simp; omega
    have n1 : (k == 1) = false := by simp; omega
    have n2 : (k == 2) = false := by simp; omega
    have n3 : (k == 3) = false := by simp; omega
    have n4 : (k == 4) = false := by simp; omega
    have n5 : (k == 5) = false := by simp; omega
    have n6 : (k == 6) = false := by simp; omega
    have n7 : (k == 7) = false := by simp; omega
    have n8 : (k == 8) = false := by simp; omega
    have n9 : (k == 9) = false := by simp; omega
    clear h ha
    go_enter Tryz.func119, Tryz.ntmps119
    go_wp2_with fail
    go_ret
    exact ⟨by simp, Grew.refl _⟩

/-- Is it a node of a term? -/
noncomputable def tnB (k n : Int) (s : ByteArray) : Bool := if k == 0 then (decide (0 ≤ n ∧ n ≤ 99) && s.toList.isEmpty) else if typedB k then (n == 0 && gp s) else (decide (1 ≤ k ∧ k ≤ 9) && n == 0 && s.toList.isEmpty)

theorem isTermNode_c (k n : Int) (s : ByteArray) (w : World) (hs : s.size ≤ 140737488355328) :
    Calls Tryz.prog 90 #[.agg #[.int .i64 k, .int .i64 n, .string s]] w fun e w' => e = .returned (.bool (tnB k n s)) ∧ Grew w w' := by
  unfold tnB
  cases h0 : (k == 0) with
  | true =>
    rw [if_pos rfl]
    have HR := fun w => inRange_c n 0 99 w
    generalize decide (0 ≤ n ∧ n ≤ 99) = R at *
    cases R with
    | true =>
      replace HR := Lib.hid HR
      go_enter Tryz.func90, Tryz.ntmps90
      go_wp2_with fail
      refine (HR.out _).mono ?_
      rintro e w1 ⟨rfl, hg1⟩
      have k1 : w1.cell? ⟨w.heap.size, 2, none⟩ = some (.string s) := (hg1.cell (by simp)).trans (by simp)
      go_wp2_with fail
      go_ret
      exact ⟨by simp, Grew.of_alloc hg1⟩
    | false =>
      replace HR := Lib.hid HR
      go_enter Tryz.func90, Tryz.ntmps90
      go_wp2_with fail
      refine (HR.out _).mono ?_
      rintro e w1 ⟨rfl, hg1⟩
      go_wp2_with fail
      go_ret
      exact ⟨by simp, Grew.of_alloc hg1⟩
  | false =>
    rw [if_neg (by simp)]
    have HT := fun w => hasType_c k w
    generalize typedB k = T at *
    cases T with
    | true =>
      rw [if_pos rfl]
      replace HT := Lib.hid HT
      have HP := Lib.hid (fun w => isPlainText_c s w hs)
      cases hn : (n == 0) with
      | true =>
        go_enter Tryz.func90, Tryz.ntmps90
        go_wp2_with fail
        refine (HT.out _).mono ?_
        rintro e w1 ⟨rfl, hg1⟩
        have k1 : w1.cell? ⟨w.heap.size, 1, none⟩ = some (.int .i64 n) := (hg1.cell (by simp)).trans (by simp)
        have k2 : w1.cell? ⟨w.heap.size, 2, none⟩ = some (.string s) := (hg1.cell (by simp)).trans (by simp)
        go_wp2_with fail
        refine (HP.out _).mono ?_
        rintro e w2 ⟨rfl, hg2⟩
        go_wp2_with fail
        go_ret
        exact ⟨by simp, Grew.of_alloc (hg1.trans hg2)⟩
      | false =>
        go_enter Tryz.func90, Tryz.ntmps90
        go_wp2_with fail
        refine (HT.out _).mono ?_
        rintro e w1 ⟨rfl, hg1⟩
        have k1 : w1.cell? ⟨w.heap.size, 1, none⟩ = some (.int .i64 n) := (hg1.cell (by simp)).trans (by simp)
        go_wp2_with fail
        go_ret
        exact ⟨by simp, Grew.of_alloc hg1⟩
    | false =>
      rw [if_neg (by simp)]
      replace HT := Lib.hid HT
      have HR := fun w => inRange_c k 1 9 w
      generalize decide (1 ≤ k ∧ k ≤ 9) = R at *
      cases R with
      | true =>
        replace HR := Lib.hid HR
        cases hn : (n == 0) with
        | true =>
          go_enter Tryz.func90, Tryz.ntmps90
          go_wp2_with fail
          refine (HT.out _).mono ?_
          rintro e w1 ⟨rfl, hg1⟩
          have k0 : ∀ W, Grew w1 W → W.cell? ⟨w.heap.size, 0, none⟩ = some (.int .i64 k) := fun W hW => ((hg1.trans hW).cell (by simp)).trans (by simp)
          have k1 : ∀ W, Grew w1 W → W.cell? ⟨w.heap.size, 1, none⟩ = some (.int .i64 n) := fun W hW => ((hg1.trans hW).cell (by simp)).trans (by simp)
          have k2 : ∀ W, Grew w1 W → W.cell? ⟨w.heap.size, 2, none⟩ = some (.string s) := fun W hW => ((hg1.trans hW).cell (by simp)).trans (by simp)
          have hr1 := Grew.refl w1
          go_wp2_with fail
          refine (HR.out _).mono ?_
          rintro e w2 ⟨rfl, hg2⟩
          go_wp2_with fail
          go_ret
          exact ⟨by simp, Grew.of_alloc (hg1.trans hg2)⟩
        | false =>
          go_enter Tryz.func90, Tryz.ntmps90
          go_wp2_with fail
          refine (HT.out _).mono ?_
          rintro e w1 ⟨rfl, hg1⟩
          have k0 : ∀ W, Grew w1 W → W.cell? ⟨w.heap.size, 0, none⟩ = some (.int .i64 k) := fun W hW => ((hg1.trans hW).cell (by simp)).trans (by simp)
          have k1 : ∀ W, Grew w1 W → W.cell? ⟨w.heap.size, 1, none⟩ = some (.int .i64 n) := fun W hW => ((hg1.trans hW).cell (by simp)).trans (by simp)
          have hr1 := Grew.refl w1
          go_wp2_with fail
          refine (HR.out _).mono ?_
          rintro e w2 ⟨rfl, hg2⟩
          go_wp2_with fail
          go_ret
          exact ⟨by simp, Grew.of_alloc (hg1.trans hg2)⟩
      | false =>
        replace HR := Lib.hid HR
        go_enter Tryz.func90, Tryz.ntmps90
        go_wp2_with fail
        refine (HT.out _).mono ?_
        rintro e w1 ⟨rfl, hg1⟩
        have k0 : w1.cell? ⟨w.heap.size, 0, none⟩ = some (.int .i64 k) := (hg1.cell (by simp)).trans (by simp)
        go_wp2_with fail
        refine (HR.out _).mono ?_
        rintro e w2 ⟨rfl, hg2⟩
        go_wp2_with fail
        go_ret
        exact ⟨by simp, Grew.of_alloc (hg1.trans hg2)⟩

theorem l25Formula_c (s : ByteArray) (w : World) (hs : s.size ≤ 140737488355328) :
    Calls Tryz.prog 98 #[.string s] w (GivesP w s) := by
  have HG := fun w => l02Good_c s w hs
  have hn := Fm.pf_len s
  unfold GivesP gp
  unfold GivesG at HG
  generalize (Fm.pf s).1 = xs at *
  have HP := Lib.hid (fun v w h => l02Plain_c v xs w h (by omega))
  generalize anyP isBD xs = q at *
  cases hg : gd s with
  | true =>
    rw [hg] at HG
    replace HG := Lib.hid HG
    clear hg
    go_enter Tryz.func98, Tryz.ntmps98
    go_wp2_with fail
    refine (HG.out _).mono ?_
    rintro e w1 ⟨v1, rfl, ho1, hg1⟩
    go_wp2_with fail
    refine (HP.out _ _ ho1.nodes).mono ?_
    rintro e w2 ⟨rfl, hg2⟩
    go_wp2_with fail
    go_ret2
    exact ⟨_, rfl, ho1.grew hg2, hg1.trans hg2⟩
  | false =>
    rw [hg] at HG
    replace HG := Lib.hid HG
    clear hg
    go_enter Tryz.func98, Tryz.ntmps98
    go_wp2_with fail
    refine (HG.out _).mono ?_
    rintro e w1 ⟨v1, rfl, ho1, hg1⟩
    go_wp2_with fail
    go_ret2
    exact ⟨_, rfl, ho1, hg1⟩
end Go.Proofs.YthofkdpmgjkgkaaGreat

/- A predicate on nodes of terms: IndexFunc, ContainsFunc. -/
namespace Go.Proofs.YthofkdpmgjkgkaaGreat
open Go.RowKit

/-- None of the first k nodes meets the predicate. -/
def NoneT (p : Int → Int → ByteArray → Bool) (xs : List Tn) (k : Nat) : Prop := ∀ i, i < k → p (tk xs i) (tn xs i) (tt xs i) = false
theorem NoneT.zero (p : Int → Int → ByteArray → Bool) (xs : List Tn) : NoneT p xs 0 := fun i hi => absurd hi (by omega)
theorem NoneT.succ {p : Int → Int → ByteArray → Bool} {xs : List Tn} {k : Nat} (h : NoneT p xs k) (h1 : p (tk xs k) (tn xs k) (tt xs k) = false) : NoneT p xs (k + 1) := by
  intro i hi
  rcases Nat.lt_or_ge i k with hk | hk
  · exact h i hk
  · obtain rfl : i = k := by omega
    exact h1
/-- Some node meets the predicate. -/
noncomputable def anyT (p : Int → Int → ByteArray → Bool) (xs : List Tn) : Bool := !@decide (NoneT p xs xs.length) (Classical.propDecidable _)
theorem anyT_no {p : Int → Int → ByteArray → Bool} {xs : List Tn} (h : NoneT p xs xs.length) : anyT p xs = false := by
  unfold anyT
  rw [@decide_eq_true _ (Classical.propDecidable _) h]
  rfl
theorem anyT_at {p : Int → Int → ByteArray → Bool} {xs : List Tn} {k : Nat} (hk : k < xs.length) (h : p (tk xs k) (tn xs k) (tt xs k) = true) : anyT p xs = true := by
  unfold anyT
  rw [@decide_eq_false _ (Classical.propDecidable _) fun H => by rw [H k hk] at h; cases h]
  rfl
theorem anyT_none {p : Int → Int → ByteArray → Bool} {xs : List Tn} (h : anyT p xs = false) {k : Nat} (hk : k < xs.length) : p (tk xs k) (tn xs k) (tt xs k) = false := by
  cases hp : p (tk xs k) (tn xs k) (tt xs k) with
  | false => rfl
  | true => rw [anyT_at hk hp] at h; cases h

/-- What the function value gives at a node. -/
def PredT (f : Nat) (p : Int → Int → ByteArray → Bool) : Prop := ∀ a b s W, s.size ≤ 140737488355328 → Calls Tryz.prog f #[.agg #[.int .i64 a, .int .i64 b, .string s]] W fun e w' => e = .returned (.bool (p a b s)) ∧ Grew W w'
/-- No type is longer than memory. -/
def FitsT (xs : List Tn) : Prop := ∀ i, i < xs.length → (tt xs i).size ≤ 1048576

theorem indexFuncT_c (v : Value) (xs : List Tn) (f : Nat) (p : Int → Int → ByteArray → Bool) (w : World) (h : Tms w v xs) (hfit : FitsT xs) (hf : PredT f p) (eg : ∀ args w, (callFunc f args).run Tryz.prog w = .ok (.enter f args) w) :
    Calls Tryz.prog 120 #[v, .func (.func f) #[] #[]] w fun e w' => ∃ r : Int, e = .returned (.int .i64 r) ∧ Grew w w' ∧ decide (0 ≤ r) = anyT p xs := by
  rcases h.open_ with ⟨rfl, rfl⟩ | ⟨b, o, c, rfl, hc, hm, hb, hcell⟩
  · rw [anyT_no (NoneT.zero _ _)]
    clear h hf hfit
    go_enter Tryz.func120, Tryz.ntmps120
    go_wp2_with fail
    refine wp_loop_rounds 1 ?_; rw [rounds_succ]
    go_wp2_with fail
    go_ret
    exact ⟨_, rfl, Grew.refl _, rfl⟩
  obtain ⟨R, hR⟩ : ∃ R, R = anyT p xs := ⟨_, rfl⟩
  rw [← hR]
  have HA := Lib.hid (fun k hk h => hR.trans (@anyT_at p xs k hk h))
  have HZ := Lib.hid (fun h => hR.trans (@anyT_no p xs h))
  have HC := Lib.hid hcell
  have HF := Lib.hid hf
  unfold FitsT at hfit
  have HT := Lib.hid hfit
  clear hcell h hf hR hfit
  generalize hN : xs.length = n at *
  clear hN
  go_enter Tryz.func120, Tryz.ntmps120
  go_wp2_with fail
  go_loopw [5, 8] (fun _ i wr => ∃ j : Nat, j ≤ n ∧ i = .int .i64 j ∧ Grew w wr ∧ Hid (NoneT p xs j)) (fun _ i _ => n - (intOf i).toNat)
  case atStart => exact ⟨0, Nat.zero_le _, rfl, Grew.refl _, NoneT.zero _ _⟩
  case round =>
    obtain ⟨j, hj, rfl, hB, HJ⟩ := hrel
    by_cases hlt : j < n
    · have k1 := (HC.out j hlt _ hB).1
      have k2 := (HC.out j hlt _ hB).2.1
      have k3 := (HC.out j hlt _ hB).2.2
      have hz := HT.out j hlt
      have hA := Lib.hid (HA.out j hlt)
      have hS := Lib.hid (fun h => HJ.out.succ (k := j) h)
      generalize tk xs j = x at *
      generalize tn xs j = y at *
      generalize tt xs j = z at *
      go_wp2_with fail
      go_at_fn f
      refine (HF.out x y z _ (by omega)).mono ?_
      rintro e w1 ⟨rfl, hg1⟩
      have hB1 := hB.trans hg1
      cases hp : p x y z with
      | true =>
        have hv := hA.out hp
        go_wp2_with fail
        go_ret
        exact ⟨_, rfl, hB1, by rw [hv]; simp⟩
      | false =>
        have hs := Lib.hid (hS.out hp)
        go_wp2_with fail
        go_roundw
        case rel => exact ⟨j + 1, by omega, by go_num, hB1, hs⟩
        case measure => simp [intOf]; omega
    · obtain rfl : j = n := by omega
      have hv := Lib.hid (HZ.out HJ.out)
      go_wp2_with fail
      go_ret
      exact ⟨_, rfl, hB, by rw [hv.out]; rfl⟩

theorem containsFuncT_c (v : Value) (xs : List Tn) (f : Nat) (p : Int → Int → ByteArray → Bool) (w : World) (h : Tms w v xs) (hfit : FitsT xs) (hf : PredT f p) (eg : ∀ args w, (callFunc f args).run Tryz.prog w = .ok (.enter f args) w) :
    Calls Tryz.prog 88 #[v, .func (.func f) #[] #[]] w fun e w' => e = .returned (.bool (anyT p xs)) ∧ Grew w w' := by
  have HI := Lib.hid (indexFuncT_c v xs f p w h hfit hf eg)
  clear h hf eg hfit
  generalize anyT p xs = R at *
  go_enter Tryz.func88, Tryz.ntmps88
  go_wp2_with fail
  refine HI.out.mono ?_
  rintro e w1 ⟨r, rfl, hg1, hr⟩
  go_wp2_with fail
  go_ret
  exact ⟨by rw [← hr]; rfl, hg1⟩
end Go.Proofs.YthofkdpmgjkgkaaGreat

/- Where a part of a term ends, and what a term is, of both. -/
namespace Go.Proofs.YthofkdpmgjkgkaaGreat
open Go.RowKit

theorem tnB_kind {k n : Int} {s : ByteArray} (h : ¬ (0 ≤ k ∧ k ≤ 9)) : tnB k n s = false := by
  unfold tnB typedB
  rw [if_neg (by simp; omega), if_neg (by simp; omega), decide_eq_false (by omega)]
  rfl
theorem tnB_range {k n : Int} {s : ByteArray} (h : ¬ (0 ≤ n ∧ n ≤ 99)) : tnB k n s = false := by
  unfold tnB
  split
  · rw [decide_eq_false h]; rfl
  · have : (n == 0) = false := by simp; omega
    rw [this]
    simp
theorem tnB_num {k n : Int} {s : ByteArray} (h0 : (k != 0) = true) (h1 : (n != 0) = true) : tnB k n s = false := by
  unfold tnB
  have h0' : ¬ (k == 0) = true := by simp at h0; simp [h0]
  have h1' : (n == 0) = false := by simp at h1; simp [h1]
  rw [if_neg h0', h1']
  simp
theorem tnB_typed {k n : Int} {s : ByteArray} (_hn : 0 ≤ n ∧ n ≤ 99) (h : (k != 0) = false ∨ (n != 0) = false) (ht : typedB k = true) : tnB k n s = gp s := by
  have h0 : ¬ (k == 0) = true := fun e => by
    have : k = 0 := by simpa using e
    subst this
    simp [typedB] at ht
  unfold tnB
  rw [if_neg h0, if_pos ht]
  rcases h with h | h
  · simp at h; simp [h] at h0
  · simp at h; simp [h]
theorem tnB_plain {k n : Int} {s : ByteArray} (hk : 0 ≤ k ∧ k ≤ 9) (hn : 0 ≤ n ∧ n ≤ 99) (h : (k != 0) = false ∨ (n != 0) = false) (ht : typedB k = false) : tnB k n s = s.toList.isEmpty := by
  unfold tnB
  by_cases h0 : (k == 0) = true
  · rw [if_pos h0, decide_eq_true hn, Bool.true_and]
  · rw [if_neg h0, if_neg (by rw [ht]; simp)]
    have hne : k ≠ 0 := by simpa using h0
    rcases h with h | h
    · simp at h; omega
    · simp at h
      rw [h, decide_eq_true (by omega)]
      rfl

set_option maxHeartbeats 1600000 in
theorem l26Node_c (k n : Int) (s : ByteArray) (w : World) (hs : s.size ≤ 140737488355328) :
    Calls Tryz.prog 83 #[.agg #[.int .i64 k, .int .i64 n, .string s]] w fun e w' => e = .returned (.bool (tnB k n s)) ∧ Grew w w' := by
  have HP := fun w => l26Parts_c k w
  have hr := Grew.refl w
  by_cases hk : 0 ≤ k ∧ k ≤ 9
  · rw [if_pos hk] at HP
    have hp0 : (0 : Int) ≤ (Tr.ar k : Int) := by omega
    have HI := fun w => l01In_c n 0 99 w
    cases h0 : (k != 0 && n != 0) with
    | true =>
      simp only [Bool.and_eq_true] at h0
      obtain ⟨h0, h1⟩ := h0
      rw [tnB_num h0 h1]
      generalize Tr.ar k = a at *
      replace HP := Lib.hid HP
      go_enter Tryz.func83, Tryz.ntmps83
      go_wp2_with fail
      refine (HP.out _).mono ?_
      rintro e w1 ⟨rfl, hg1⟩
      have k0 : ∀ W, Grew w1 W → W.cell? ⟨w.heap.size, 0, none⟩ = some (.int .i64 k) := fun W hW => ((hg1.trans hW).cell (by simp)).trans (by simp)
      have k1 : ∀ W, Grew w1 W → W.cell? ⟨w.heap.size, 1, none⟩ = some (.int .i64 n) := fun W hW => ((hg1.trans hW).cell (by simp)).trans (by simp)
      have hr1 := Grew.refl w1
      go_wp2_with fail
      go_ret
      exact ⟨rfl, Grew.of_alloc hg1⟩
    | false =>
      have hor : (k != 0) = false ∨ (n != 0) = false := by
        cases hk0 : (k != 0) with
        | false => exact .inl rfl
        | true => rw [hk0] at h0; exact .inr h0
      by_cases hn : 0 ≤ n ∧ n ≤ 99
      · rw [decide_eq_true hn] at HI
        have HT := fun w => l26Typed_c k w
        cases ht : typedB k with
        | true =>
          rw [tnB_typed hn hor ht]
          rw [ht] at HT
          have HF := fun w => l25Formula_c s w hs
          unfold GivesP at HF
          generalize gp s = g at *
          generalize Tr.ar k = a at *
          replace HP := Lib.hid HP
          replace HI := Lib.hid HI
          replace HT := Lib.hid HT
          replace HF := Lib.hid HF
          clear ht
          rcases hor with hz | hz
          all_goals
            go_enter Tryz.func83, Tryz.ntmps83
            go_wp2_with fail
            refine (HP.out _).mono ?_
            rintro e w1 ⟨rfl, hg1⟩
            have k0 : ∀ W, Grew w1 W → W.cell? ⟨w.heap.size, 0, none⟩ = some (.int .i64 k) := fun W hW => ((hg1.trans hW).cell (by simp)).trans (by simp)
            have k1 : ∀ W, Grew w1 W → W.cell? ⟨w.heap.size, 1, none⟩ = some (.int .i64 n) := fun W hW => ((hg1.trans hW).cell (by simp)).trans (by simp)
            have k2 : ∀ W, Grew w1 W → W.cell? ⟨w.heap.size, 2, none⟩ = some (.string s) := fun W hW => ((hg1.trans hW).cell (by simp)).trans (by simp)
            have hr1 := Grew.refl w1
            first
              | cases hkz : (k != 0) with
                | true =>
                  go_wp2_with fail
                  refine (HI.out _).mono ?_
                  rintro e w2 ⟨rfl, hg2⟩
                  go_wp2_with fail
                  refine (HT.out _).mono ?_
                  rintro e w3 ⟨rfl, hg3⟩
                  have hk13 := hg2.trans hg3
                  go_wp2_with fail
                  refine (HF.out _).mono ?_
                  rintro e w4 ⟨q, rfl, _, hg4⟩
                  go_wp2_with fail
                  go_ret
                  exact ⟨rfl, Grew.of_alloc ((hg1.trans hk13).trans hg4)⟩
                | false =>
                  go_wp2_with fail
                  refine (HI.out _).mono ?_
                  rintro e w2 ⟨rfl, hg2⟩
                  go_wp2_with fail
                  refine (HT.out _).mono ?_
                  rintro e w3 ⟨rfl, hg3⟩
                  have hk13 := hg2.trans hg3
                  go_wp2_with fail
                  refine (HF.out _).mono ?_
                  rintro e w4 ⟨q, rfl, _, hg4⟩
                  go_wp2_with fail
                  go_ret
                  exact ⟨rfl, Grew.of_alloc ((hg1.trans hk13).trans hg4)⟩
        | false =>
          rw [tnB_plain hk hn hor ht]
          rw [ht] at HT
          generalize Tr.ar k = a at *
          replace HP := Lib.hid HP
          replace HI := Lib.hid HI
          replace HT := Lib.hid HT
          clear ht
          rcases hor with hz | hz
          all_goals
            go_enter Tryz.func83, Tryz.ntmps83
            go_wp2_with fail
            refine (HP.out _).mono ?_
            rintro e w1 ⟨rfl, hg1⟩
            have k0 : ∀ W, Grew w1 W → W.cell? ⟨w.heap.size, 0, none⟩ = some (.int .i64 k) := fun W hW => ((hg1.trans hW).cell (by simp)).trans (by simp)
            have k1 : ∀ W, Grew w1 W → W.cell? ⟨w.heap.size, 1, none⟩ = some (.int .i64 n) := fun W hW => ((hg1.trans hW).cell (by simp)).trans (by simp)
            have k2 : ∀ W, Grew w1 W → W.cell? ⟨w.heap.size, 2, none⟩ = some (.string s) := fun W hW => ((hg1.trans hW).cell (by simp)).trans (by simp)
            have hr1 := Grew.refl w1
            first
              | cases hkz : (k != 0) with
                | true =>
                  go_wp2_with fail
                  refine (HI.out _).mono ?_
                  rintro e w2 ⟨rfl, hg2⟩
                  go_wp2_with fail
                  refine (HT.out _).mono ?_
                  rintro e w3 ⟨rfl, hg3⟩
                  have hk13 := hg2.trans hg3
                  go_wp2_with fail
                  go_ret
                  exact ⟨rfl, Grew.of_alloc (hg1.trans hk13)⟩
                | false =>
                  go_wp2_with fail
                  refine (HI.out _).mono ?_
                  rintro e w2 ⟨rfl, hg2⟩
                  go_wp2_with fail
                  refine (HT.out _).mono ?_
                  rintro e w3 ⟨rfl, hg3⟩
                  have hk13 := hg2.trans hg3
                  go_wp2_with fail
                  go_ret
                  exact ⟨rfl, Grew.of_alloc (hg1.trans hk13)⟩
      · rw [tnB_range hn]
        rw [decide_eq_false hn] at HI
        replace HI := Lib.hid HI
        generalize Tr.ar k = a at *
        replace HP := Lib.hid HP
        rcases hor with hz | hz
        all_goals
          go_enter Tryz.func83, Tryz.ntmps83
          go_wp2_with fail
          refine (HP.out _).mono ?_
          rintro e w1 ⟨rfl, hg1⟩
          have k0 : ∀ W, Grew w1 W → W.cell? ⟨w.heap.size, 0, none⟩ = some (.int .i64 k) := fun W hW => ((hg1.trans hW).cell (by simp)).trans (by simp)
          have k1 : ∀ W, Grew w1 W → W.cell? ⟨w.heap.size, 1, none⟩ = some (.int .i64 n) := fun W hW => ((hg1.trans hW).cell (by simp)).trans (by simp)
          have hr1 := Grew.refl w1
          first
            | cases hkz : (k != 0) with
              | true =>
                go_wp2_with fail
                refine (HI.out _).mono ?_
                rintro e w2 ⟨rfl, hg2⟩
                go_wp2_with fail
                go_ret
                exact ⟨rfl, Grew.of_alloc (hg1.trans hg2)⟩
              | false =>
                go_wp2_with fail
                refine (HI.out _).mono ?_
                rintro e w2 ⟨rfl, hg2⟩
                go_wp2_with fail
                go_ret
                exact ⟨rfl, Grew.of_alloc (hg1.trans hg2)⟩
  · rw [tnB_kind hk]
    rw [if_neg hk] at HP
    replace HP := Lib.hid HP
    clear hk
    go_enter Tryz.func83, Tryz.ntmps83
    go_wp2_with fail
    refine (HP.out _).mono ?_
    rintro e w1 ⟨rfl, hg1⟩
    go_wp2_with fail
    go_ret
    exact ⟨rfl, Grew.of_alloc hg1⟩

theorem termEnd_c (v : Value) (xs : List Tn) (i : Nat) (w : World) (h : Tms w v xs) (hn : xs.length ≤ 1048576) (hi : i ≤ 1048576) :
    Calls Tryz.prog 91 #[v, .int .i64 i] w fun e w' => e = .returned (.int .i64 (Tr.pend xs i 1)) ∧ Grew w w' := by
  rcases h.open_ with ⟨rfl, rfl⟩ | ⟨b, o, c, rfl, hc, hm, hb, hf⟩
  · rw [Tr.pend_out (by simp) 0]
    clear h
    go_enter Tryz.func91, Tryz.ntmps91
    go_wp2_with fail
    refine wp_loop_rounds 1 ?_; rw [rounds_succ]
    go_wp2_with fail
    go_ret
    exact ⟨rfl, Grew.refl _⟩
  · clear h
    obtain ⟨P, hP⟩ : ∃ P, P = Tr.pend xs i 1 := ⟨_, rfl⟩
    rw [← hP]
    have hstart : Hid (P = Tr.pend xs i 1) := hP
    have HS := Lib.hid (fun j o hj => @Tr.pend_step xs j hj o)
    have HL := Lib.hid (fun j o hj => @Tr.pend_out xs j hj o)
    have HZ := Lib.hid (fun j => Tr.pend_zero xs j)
    clear hP
    have HF := Lib.hid hf
    clear hf
    generalize hN : xs.length = n at *
    clear hN
    go_enter Tryz.func91, Tryz.ntmps91
    go_wp2_with fail
    go_loopg [1, 5] (n + 1 - i) (fun k x y wr => ∃ j op : Nat, x = .int .i64 j ∧ y = .int .i64 op ∧ Grew w wr ∧ i ≤ j ∧ op ≤ 2 * (j - i) + 1 ∧ k = n + 1 - j ∧ j ≤ i + n ∧ Hid (P = Tr.pend xs j op))
    case atStart => exact ⟨i, 1, rfl, rfl, Grew.refl _, Nat.le_refl _, by omega, rfl, by omega, hstart⟩
    case round =>
      obtain ⟨j, op, rfl, rfl, hB, hij, hop, rfl, hjn, HP⟩ := hrel
      by_cases hz : op = 0
      · subst hz
        have hv : Hid (P = (j : Int)) := Lib.hid (by rw [HP.out, HZ.out])
        clear HP
        go_wp2_with fail
        go_ret
        rw [hv.out]
        exact ⟨rfl, hB⟩
      · obtain ⟨q, rfl⟩ : ∃ q, op = q + 1 := ⟨op - 1, by omega⟩
        by_cases hlt : j < n
        · have k1 : ∀ W, Grew w W → W.cell? ⟨b, o + j * 3, none⟩ = some (.int .i64 (tk xs j)) := fun W hW => (HF.out j hlt W hW).1
          have hv : Hid (P = Tr.pend xs (j + 1) (q + Tr.ar (tk xs j))) := Lib.hid (by rw [HP.out, HS.out j q hlt])
          have har := Tr.ar_le (tk xs j)
          clear HP hz
          go_wp2_with fail
          refine (termParts_c _ _).mono ?_
          rintro e w1 ⟨rfl, hg1⟩
          generalize Tr.ar (tk xs j) = ar at *
          go_wp2_with fail
          go_roundg (n + 1 - (j + 1))
          case measure => omega
          case rel => exact ⟨j + 1, q + ar, by go_num, by go_num, hB.trans hg1, by omega, by omega, rfl, by omega, hv⟩
        · have hv : Hid (P = -1) := Lib.hid (by rw [HP.out, HL.out j q (by omega)])
          clear HP
          go_wp2_with fail
          go_ret
          rw [hv.out]
          exact ⟨rfl, hB⟩

theorem l26End_c (v : Value) (xs : List Tn) : ∀ (d i : Nat) (w : World), xs.length ≤ i + d → Tms w v xs → xs.length ≤ 1048576 → i ≤ 1048576 →
    Calls Tryz.prog 84 #[v, .int .i64 i] w fun e w' => e = .returned (.int .i64 (Tr.pend xs i 1)) ∧ Grew w w' := by
  intro d
  induction d with
  | zero =>
    intro i w hd h hn hi
    rw [Tr.pend_out (by omega) 0]
    obtain ⟨A, c, rfl⟩ := tms_slice h
    clear h
    generalize xs.length = n at *
    go_enter Tryz.func84, Tryz.ntmps84
    go_wp2_with fail
    go_ret
    exact ⟨rfl, Grew.refl _⟩
  | succ d ih =>
    intro i w hd h hn hi
    by_cases hout : xs.length ≤ i
    · rw [Tr.pend_out hout 0]
      obtain ⟨A, c, rfl⟩ := tms_slice h
      clear h ih
      generalize xs.length = n at *
      go_enter Tryz.func84, Tryz.ntmps84
      go_wp2_with fail
      go_ret
      exact ⟨rfl, Grew.refl _⟩
    · rcases h.open_ with ⟨rfl, rfl⟩ | ⟨b, o, c, rfl, hc, hm, hb, hf⟩
      · simp at hout
      have hlt : i < xs.length := by omega
      have IH := Lib.hid (fun e W (hW : Grew w W) he1 he2 => ih e W he1 (h.grew hW) hn he2)
      have k1 := (hf i hlt _ (Grew.refl w)).1
      obtain ⟨P, hP⟩ : ∃ P, P = Tr.pend xs i 1 := ⟨_, rfl⟩
      rw [← hP]
      rw [Tr.pend_step hlt 0, Nat.zero_add] at hP
      have hsP := Lib.hid hP
      have HS := Lib.hid (fun j o => @Tr.pend_part xs j o)
      have HZ := Lib.hid (fun j => Tr.pend_zero xs j)
      have har := Tr.ar_le (tk xs i)
      have hkk : Hid ((if 0 ≤ tk xs i ∧ tk xs i ≤ 9 then (Tr.ar (tk xs i) : Int) else -1) = (Tr.ar (tk xs i) : Int) ∨ ((if 0 ≤ tk xs i ∧ tk xs i ≤ 9 then (Tr.ar (tk xs i) : Int) else -1) = -1 ∧ Tr.ar (tk xs i) = 0)) := Lib.hid (by
        split
        · exact .inl rfl
        · exact .inr ⟨rfl, by unfold Tr.ar; rw [if_neg (by omega), if_neg (by omega), if_neg (by omega)]⟩)
      have HK := Lib.hid (fun w => l26Parts_c (tk xs i) w)
      generalize (if 0 ≤ tk xs i ∧ tk xs i ≤ 9 then (Tr.ar (tk xs i) : Int) else -1) = pv at *
      generalize Tr.ar (tk xs i) = ar at *
      generalize tk xs i = kk at *
      clear hf hP h ih
      generalize hN : xs.length = n at *
      clear hN
      have hpv : pv ≤ 3 ∧ -1 ≤ pv := by rcases hkk.out with h | ⟨h, h0⟩ <;> omega
      go_enter Tryz.func84, Tryz.ntmps84
      go_wp2_with fail
      refine (HK.out _).mono ?_
      rintro e w1 ⟨rfl, hg1⟩
      go_wp2_with fail
      go_loopw [5, 6] (fun x y wr => ∃ (E q : Int), x = .int .i64 E ∧ y = .int .i64 q ∧ Grew w wr ∧ q ≤ 3 ∧ -1 ≤ q ∧ -1 ≤ E ∧ E ≤ n ∧ Hid ((0 ≤ E → (i : Int) + 1 ≤ E ∧ P = Tr.pend xs E.toNat q.toNat) ∧ (E < 0 → P = -1))) (fun _ y _ => (intOf y).toNat)
      case atStart => exact ⟨(i : Int) + 1, pv, by go_num, rfl, hg1, hpv.1, hpv.2, by omega, by omega, Lib.hid ⟨fun _ => ⟨by omega, by
        rw [hsP.out]
        rcases hkk.out with h | ⟨h, h0⟩
        · rw [h]; rfl
        · rw [h, h0]; rfl⟩, fun h => absurd h (by omega)⟩⟩
      case round =>
        obtain ⟨E, q, rfl, rfl, hB, hq3, hq1, hE1, hEn, HP⟩ := hrel
        by_cases hq : 0 < q
        · by_cases hE : 0 ≤ E
          · obtain ⟨hiE, hPE⟩ := HP.out.1 hE
            obtain ⟨e, rfl⟩ : ∃ e : Nat, E = (e : Int) := ⟨E.toNat, by omega⟩
            obtain ⟨r, rfl⟩ : ∃ r : Nat, q = ((r + 1 : Nat) : Int) := ⟨q.toNat - 1, by omega⟩
            have hst := HS.out e r
            simp only [Int.toNat_natCast] at hPE
            have HPE := Lib.hid hPE
            have HST := Lib.hid hst
            have hgt : ¬ ((r + 1 : Nat) : Int) ≤ 0 := by omega
            clear hPE hst HP
            go_wp2_with fail
            refine (IH.out e _ hB (by omega) (by omega)).mono ?_
            rintro e2 w2 ⟨rfl, hg2⟩
            have hB2 := hB.trans hg2
            rcases HST.out with ⟨h1, h2⟩ | ⟨m, h1, hm2, h2⟩
            · have H2 : Hid (P = -1) := Lib.hid (by rw [HPE.out, h2])
              rw [h1]
              clear h1 h2 HST
              go_wp2_with fail
              go_roundw
              case rel => exact ⟨-1, (r : Int), rfl, by go_num, hB2, by omega, by omega, by omega, by omega, Lib.hid ⟨fun h => absurd h (by omega), fun _ => H2.out⟩⟩
              case measure => (simp [intOf]; try omega)
            · have H2 : Hid (P = Tr.pend xs (e + m) r) := Lib.hid (by rw [HPE.out, h2])
              rw [h1]
              clear h1 h2 HST
              go_wp2_with fail
              go_roundw
              case rel => exact ⟨((e + m : Nat) : Int), (r : Int), rfl, by go_num, hB2, by omega, by omega, by omega, by omega, Lib.hid ⟨fun _ => ⟨by omega, by rw [Int.toNat_natCast, Int.toNat_natCast]; exact H2.out⟩, fun h => absurd h (by omega)⟩⟩
              case measure => (simp [intOf]; try omega)
          · have hv : Hid (P = -1) := Lib.hid (HP.out.2 (by omega))
            obtain rfl : E = -1 := by omega
            clear HP
            go_wp2_with fail
            go_ret
            rw [hv.out]
            exact ⟨rfl, hB⟩
        · by_cases hE : 0 ≤ E
          · obtain ⟨hiE, hPE⟩ := HP.out.1 hE
            have hv : Hid (P = E) := Lib.hid (by
              rw [hPE, show q.toNat = 0 by omega, HZ.out]
              omega)
            clear HP hPE
            go_wp2_with fail
            go_ret
            rw [hv.out]
            exact ⟨rfl, hB⟩
          · have hv : Hid (P = E) := Lib.hid (by rw [HP.out.2 (by omega)]; omega)
            clear HP
            go_wp2_with fail
            go_ret
            rw [hv.out]
            exact ⟨rfl, hB⟩

/-- Is it no node of a term? -/
noncomputable def noTn (k n : Int) (s : ByteArray) : Bool := !tnB k n s
theorem isTerm1_ok : PredT 89 noTn := by
  intro a b s w hs
  unfold noTn
  have HR := Lib.hid (fun w => isTermNode_c a b s w hs)
  generalize tnB a b s = R at *
  go_enter Tryz.func89, Tryz.ntmps89
  go_wp2_with fail
  refine (HR.out _).mono ?_
  rintro e w1 ⟨rfl, hg1⟩
  go_wp2_with fail
  go_ret
  exact ⟨rfl, Grew.of_alloc hg1⟩

/-- Is the list a term's? -/
noncomputable def tmB (xs : List Tn) : Bool := decide (1 ≤ xs.length ∧ xs.length ≤ 60) && !anyT noTn xs && (Tr.pend xs 0 1 == (xs.length : Int))

theorem isTerm_c (v : Value) (xs : List Tn) (w : World) (h : Tms w v xs) (hfit : FitsT xs) (hn : xs.length ≤ 1048576) :
    Calls Tryz.prog 51 #[v] w fun e w' => e = .returned (.bool (tmB xs)) ∧ Grew w w' := by
  have HC := Lib.hid (fun w h => containsFuncT_c v xs _ _ w h hfit isTerm1_ok (enters_of Tryz.func89 (by kernel_rfl) rfl))
  have HP := Lib.hid (fun w h => termEnd_c v xs 0 w h hn (by omega))
  obtain ⟨A, c, rfl⟩ := tms_slice h
  have HN := Lib.hid h
  clear h hfit
  unfold tmB
  generalize Tr.pend xs 0 1 = p at *
  generalize anyT noTn xs = q at *
  generalize hL : xs.length = n at *
  clear hL
  by_cases h1 : 1 ≤ n
  · by_cases h2 : n ≤ 60
    · rw [decide_eq_true (⟨h1, h2⟩ : 1 ≤ n ∧ n ≤ 60), Bool.true_and]
      cases q with
      | true =>
        go_enter Tryz.func51, Tryz.ntmps51
        go_wp2_with fail
        refine (HC.out _ HN.out).mono ?_
        rintro e w1 ⟨rfl, hg1⟩
        go_wp2_with fail
        go_ret
        exact ⟨by simp, hg1⟩
      | false =>
        go_enter Tryz.func51, Tryz.ntmps51
        go_wp2_with fail
        refine (HC.out _ HN.out).mono ?_
        rintro e w1 ⟨rfl, hg1⟩
        go_wp2_with fail
        refine (HP.out _ (HN.out.grew hg1)).mono ?_
        rintro e w2 ⟨rfl, hg2⟩
        go_wp2_with fail
        go_ret
        exact ⟨by simp, hg1.trans hg2⟩
    · rw [decide_eq_false (fun h : 1 ≤ n ∧ n ≤ 60 => h2 h.2), Bool.false_and, Bool.false_and]
      go_enter Tryz.func51, Tryz.ntmps51
      go_wp2_with fail
      go_ret
      exact ⟨rfl, Grew.refl _⟩
  · rw [decide_eq_false (fun h : 1 ≤ n ∧ n ≤ 60 => h1 h.1), Bool.false_and, Bool.false_and]
    go_enter Tryz.func51, Tryz.ntmps51
    go_wp2_with fail
    go_ret
    exact ⟨rfl, Grew.refl _⟩

theorem l26Is_c (v : Value) (xs : List Tn) (w : World) (h : Tms w v xs) (hfit : FitsT xs) (hn : xs.length ≤ 1048576) :
    Calls Tryz.prog 45 #[v] w fun e w' => e = .returned (.bool (tmB xs)) ∧ Grew w w' := by
  unfold tmB
  rcases h.open_ with ⟨rfl, rfl⟩ | ⟨b, o, c, rfl, hc, hm, hb, hcell⟩
  · clear h hfit
    go_enter Tryz.func45, Tryz.ntmps45
    go_wp2_with fail
    go_ret
    exact ⟨rfl, Grew.refl _⟩
  by_cases hr : 1 ≤ xs.length ∧ xs.length ≤ 60
  · rw [decide_eq_true hr, Bool.true_and]
    obtain ⟨R, hR⟩ : ∃ R, R = anyT noTn xs := ⟨_, rfl⟩
    rw [← hR]
    have HA := Lib.hid (fun k hk h => hR.trans (@anyT_at noTn xs k hk h))
    have HZ := Lib.hid (fun h => hR.trans (@anyT_no noTn xs h))
    have HP := Lib.hid (fun W (hW : Grew w W) => l26End_c _ xs xs.length 0 W (by omega) (h.grew hW) hn (by omega))
    have HC := Lib.hid hcell
    unfold FitsT at hfit
    have HT := Lib.hid hfit
    clear hcell h hR hfit
    generalize Tr.pend xs 0 1 = p at *
    generalize hN : xs.length = n at *
    clear hN
    have hcond : ((n : Int) == 0 || decide (60 < (n : Int))) = false := by simp; omega
    have hcond0 : ((n : Int) == 0) = false := by simp; omega
    have hcond6 : decide (60 < (n : Int)) = false := by simp; omega
    go_enter Tryz.func45, Tryz.ntmps45
    go_wp2_with fail
    go_loopw [3] (fun i wr => ∃ j : Nat, j ≤ n ∧ i = .int .i64 j ∧ Grew w wr ∧ Hid (NoneT noTn xs j)) (fun i _ => n - (intOf i).toNat)
    case atStart => exact ⟨0, Nat.zero_le _, rfl, Grew.refl _, NoneT.zero _ _⟩
    case round =>
      obtain ⟨j, hj, rfl, hB, HJ⟩ := hrel
      by_cases hlt : j < n
      · have k1 := (HC.out j hlt _ hB).1
        have k2 := (HC.out j hlt _ hB).2.1
        have k3 := (HC.out j hlt _ hB).2.2
        have hz := HT.out j hlt
        have hA : Hid (tnB (tk xs j) (tn xs j) (tt xs j) = false → R = true) := Lib.hid (fun h => HA.out j hlt (by rw [noTn, h]; rfl))
        have hS : Hid (tnB (tk xs j) (tn xs j) (tt xs j) = true → NoneT noTn xs (j + 1)) := Lib.hid (fun h => HJ.out.succ (k := j) (by rw [noTn, h]; rfl))
        generalize tk xs j = x at *
        generalize tn xs j = y at *
        generalize tt xs j = z at *
        have HNd := Lib.hid (fun w => l26Node_c x y z w (by omega))
        cases hq : tnB x y z with
        | false =>
          have hv := Lib.hid (hA.out hq)
          rw [hq] at HNd
          go_wp2_with fail
          refine (HNd.out _).mono ?_
          rintro e w1 ⟨rfl, hg1⟩
          go_wp2_with fail
          go_ret
          rw [hv.out]
          exact ⟨by simp, hB.trans hg1⟩
        | true =>
          have hs := Lib.hid (hS.out hq)
          rw [hq] at HNd
          go_wp2_with fail
          refine (HNd.out _).mono ?_
          rintro e w1 ⟨rfl, hg1⟩
          go_wp2_with fail
          go_roundw
          case rel => exact ⟨j + 1, by omega, by go_num, hB.trans hg1, hs⟩
          case measure => simp [intOf]; omega
      · obtain rfl : j = n := by omega
        have hv := Lib.hid (HZ.out HJ.out)
        go_wp2_with fail
        refine (HP.out _ hB).mono ?_
        rintro e w1 ⟨rfl, hg1⟩
        go_wp2_with fail
        go_ret
        rw [hv.out]
        exact ⟨by simp, hB.trans hg1⟩
  · rw [decide_eq_false hr, Bool.false_and, Bool.false_and]
    clear hcell h hfit
    generalize xs.length = n at *
    rcases Nat.eq_zero_or_pos n with h0 | h0
    · subst h0
      go_enter Tryz.func45, Tryz.ntmps45
      go_wp2_with fail
      go_ret
      exact ⟨rfl, Grew.refl _⟩
    · have h60 : 60 < n := by omega
      have hcond0 : ((n : Int) == 0) = false := by simp; omega
      have hcond6 : decide (60 < (n : Int)) = true := by simp; omega
      clear hr
      go_enter Tryz.func45, Tryz.ntmps45
      go_wp2_with fail
      go_ret
      exact ⟨rfl, Grew.refl _⟩
end Go.Proofs.YthofkdpmgjkgkaaGreat

/- Copies of terms with greater numbers: raised and limitedTerm of the program, l26Shift and l26Made of the reference. -/
namespace Go.Proofs.YthofkdpmgjkgkaaGreat
open Go.RowKit

theorem own_emptyT (w : World) : OwnT (w.alloc (.cells #[] 66)) w.heap.size (.slice (some ⟨w.heap.size, 0, none⟩) 0 0) [] :=
  World.ownsRow_lit (e := 66) (size := 3) w #[] 0 (Nat.le_refl _) (by omega) rfl

/-- slices.Clone: the same nodes in a row of the call's own; nil where it was nil. -/
theorem cloneT_c (v : Value) (xs : List Tn) (w : World) (h : Tms w v xs) (hn : xs.length ≤ 1048576) :
    Calls Tryz.prog 66 #[v] w (GivesT w xs) := by
  have q : ∀ (w : World) (a : Option Addr) (n c n' c' : Nat), (binOp .eql 24 (.slice a n c) (.slice none n' c')).run Tryz.prog w = .ok (.bool a.isNone) w := fun w a n c n' c' => Lib.run_eql_slice_nil w _ _ a n c n' c' Tryz.underlying24
  have he := own_emptyT w
  rcases h.open_ with ⟨rfl, rfl⟩ | ⟨b, o, c, rfl, hc, hm, hb, hf⟩
  · clear he h
    go_enter Tryz.func66, Tryz.ntmps66
    go_wp2_with fail
    go_ret
    exact ⟨_, rfl, OwnT.nil_ _ _, Grew.refl _⟩
  · clear hf
    go_enter Tryz.func66, Tryz.ntmps66
    go_wp2_with (first
      | (at_builtin; refine wpList_appT (w0 := w) _ _ rfl rfl _ [] rfl he ((Grew.refl w).alloc _) _ xs rfl (h.grew ((Grew.refl w).alloc _)) (by simp; omega) ?_; intro v1 w1 hown1 hg1 _))
    go_ret
    exact ⟨_, rfl, by simpa using hown1, hg1⟩

/-- A node with a number of at least k greater by d. -/
def raiseN (k d : Int) (x : Tn) : Tn := if x.1 = 0 ∧ k ≤ x.2.1 then (x.1, x.2.1 + d, x.2.2) else x
def raiseL (k d : Int) (xs : List Tn) : List Tn := xs.map (raiseN k d)
theorem raiseL_length (k d : Int) (xs : List Tn) : (raiseL k d xs).length = xs.length := by simp [raiseL]
theorem raise_tk {k d : Int} {xs : List Tn} {i : Nat} (h : i < xs.length) : tk (raiseL k d xs) i = tk xs i := by
  simp only [raiseL, tk, List.getD, List.getElem?_map, List.getElem?_eq_getElem h, Option.map_some, Option.getD_some, raiseN]
  split <;> rfl
theorem raise_tt {k d : Int} {xs : List Tn} {i : Nat} (h : i < xs.length) : tt (raiseL k d xs) i = tt xs i := by
  simp only [raiseL, tt, List.getD, List.getElem?_map, List.getElem?_eq_getElem h, Option.map_some, Option.getD_some, raiseN]
  split <;> rfl
theorem raise_tn {k d : Int} {xs : List Tn} {i : Nat} (h : i < xs.length) : tn (raiseL k d xs) i = if tk xs i = 0 ∧ k ≤ tn xs i then tn xs i + d else tn xs i := by
  simp only [raiseL, tn, tk, List.getD, List.getElem?_map, List.getElem?_eq_getElem h, Option.map_some, Option.getD_some, raiseN]
  split <;> rfl
/-- The numbers are small. -/
def NumOk (xs : List Tn) : Prop := ∀ i, i < xs.length → 0 ≤ tn xs i ∧ tn xs i ≤ 1000000
/-- The numbers behind the first j rounds. -/
def mixN (k d : Int) (xs : List Tn) (j i : Nat) : Int := if i < j then tn (raiseL k d xs) i else tn xs i
theorem mix_zero (k d : Int) (xs : List Tn) (i : Nat) : mixN k d xs 0 i = tn xs i := by simp [mixN]
theorem mix_end {k d : Int} {xs : List Tn} {j i : Nat} (h : i < j) : mixN k d xs j i = tn (raiseL k d xs) i := by simp [mixN, h]
theorem mix_at (k d : Int) (xs : List Tn) (j : Nat) : mixN k d xs j j = tn xs j := by simp [mixN]
theorem mix_other {k d : Int} {xs : List Tn} {j i : Nat} (h : i ≠ j) : mixN k d xs (j + 1) i = mixN k d xs j i := by
  unfold mixN
  by_cases h1 : i < j
  · rw [if_pos h1, if_pos (by omega)]
  · rw [if_neg h1, if_neg (by omega)]
theorem mix_same {k d : Int} {xs : List Tn} {j : Nat} (h : tn (raiseL k d xs) j = tn xs j) (i : Nat) : mixN k d xs (j + 1) i = mixN k d xs j i := by
  by_cases hij : i = j
  · subst hij
    rw [mix_at, mix_end (by omega), h]
  · exact mix_other hij
/-- The block's cells behind j rounds. -/
def Mix (cur : Array Value) (k d : Int) (xs : List Tn) (j : Nat) : Prop := ∀ i, i < xs.length → cur[i * 3]? = some (.int .i64 (tk xs i)) ∧ cur[i * 3 + 1]? = some (.int .i64 (mixN k d xs j i)) ∧ cur[i * 3 + 2]? = some (.string (tt xs i))
theorem Mix.keep {cur : Array Value} {k d : Int} {xs : List Tn} {j : Nat} (h : Mix cur k d xs j) (he : tn (raiseL k d xs) j = tn xs j) : Mix cur k d xs (j + 1) := fun i hi => by
  rw [mix_same he]; exact h i hi
theorem Mix.set {cur : Array Value} {k d : Int} {xs : List Tn} {j : Nat} (h : Mix cur k d xs j) (hs : xs.length * 3 ≤ cur.size) (hj : j < xs.length) : Mix (cur.setIfInBounds (j * 3 + 1) (.int .i64 (tn (raiseL k d xs) j))) k d xs (j + 1) := fun i hi => by
  obtain ⟨h1, h2, h3⟩ := h i hi
  refine ⟨?_, ?_, ?_⟩
  · rw [Array.getElem?_setIfInBounds, if_neg (by omega)]; exact h1
  · rw [Array.getElem?_setIfInBounds]
    by_cases hij : i = j
    · subst hij
      rw [if_pos rfl, if_pos (by omega), mix_end (by omega)]
    · rw [if_neg (by omega), mix_other hij]
      exact h2
  · rw [Array.getElem?_setIfInBounds, if_neg (by omega)]; exact h3
theorem Mix.fin {w : World} {B g c : Nat} {cur : Array Value} {k d : Int} {xs : List Tn} (h : Mix cur k d xs xs.length) (hB : B ≤ g) (hg : w.heap[g]? = some (.cells cur 66 (0, 0))) (hnc : xs.length ≤ c) (hcm : c ≤ 9223372036854775807) (hcs : cur.size = c * 3) : OwnT w B (.slice (some ⟨g, 0, none⟩) xs.length c) (raiseL k d xs) := by
  have := OwnT.mk_ (w := w) (B := B) (xs := raiseL k d xs) (g := g) (c := c) (cur := cur) hB hg (by rw [raiseL_length]; exact hnc) hcm hcs (fun i hi => by
    rw [raiseL_length] at hi
    rw [raise_tk hi, raise_tt hi]
    have := h i hi
    rw [mix_end hi] at this
    exact this)
  rw [raiseL_length] at this
  exact this

theorem raised_c (v : Value) (xs : List Tn) (k d : Int) (w : World) (h : Tms w v xs) (hn : xs.length ≤ 1048576) (hok : NumOk xs) (hd0 : 0 ≤ d) (hd1 : d ≤ 1000000) :
    Calls Tryz.prog 97 #[v, .int .i64 k, .int .i64 d] w (GivesT w (raiseL k d xs)) := by
  have HOK := Lib.hid hok
  have HCL := Lib.hid (cloneT_c v xs w h hn)
  clear h hok
  go_enter Tryz.func97, Tryz.ntmps97
  go_wp2_with fail
  refine HCL.out.mono ?_
  rintro e w1 ⟨u, rfl, ho, hg1⟩
  rcases ho.open_ with ⟨rfl, rfl⟩ | ⟨g, c, cur0, rfl, hgB, hgl, hh0, hnc, hcm, hcs0, hc0⟩
  · clear ho
    go_wp2_with fail
    refine wp_loop_rounds 1 ?_; rw [rounds_succ]
    go_wp2_with fail
    go_ret
    exact ⟨_, rfl, OwnT.nil_ _ _, hg1⟩
  have HFIN := Lib.hid (fun W cur hm (hh : W.heap[g]? = some (.cells cur 66 (0, 0))) hs => Mix.fin (w := W) (B := w.heap.size) (g := g) (c := c) (cur := cur) (k := k) (d := d) (xs := xs) hm hgB hh hnc hcm hs)
  clear ho
  generalize hN : xs.length = n at *
  go_wp2_with fail
  go_loopw [8, 14] (fun _ i wr => ∃ (j : Nat) (cur : Array Value), j ≤ n ∧ i = .int .i64 j ∧ wr.heap[g]? = some (.cells cur 66 (0, 0)) ∧ cur.size = c * 3 ∧ Grew w wr ∧ Hid (Mix cur k d xs j)) (fun _ i _ => n - (intOf i).toNat)
  case atStart => exact ⟨0, cur0, Nat.zero_le _, rfl, hh0, hcs0, hg1, fun i hi => by rw [mix_zero]; exact hc0 i (by omega)⟩
  case round =>
    clear hh0 hcs0 hc0
    obtain ⟨j, cur, hj, rfl, hh, hcs, hB, HM⟩ := hrel
    by_cases hlt : j < n
    · obtain ⟨m1, m2, m3⟩ := HM.out j (by omega)
      rw [mix_at] at m2
      have hr := Lib.hid (raise_tn (k := k) (d := d) (show j < xs.length by omega))
      obtain ⟨ho1, ho2⟩ := HOK.out j (by omega)
      have k1 : ∀ W, Grew wr W → W.cell? ⟨g, j * 3, none⟩ = some (.int .i64 (tk xs j)) := fun W hW => (hW.cell (p := ⟨g, j * 3, none⟩) (blk_lt hh)).trans ((blk_cell hh _).trans m1)
      have k2 : ∀ W, Grew wr W → W.cell? ⟨g, j * 3 + 1, none⟩ = some (.int .i64 (tn xs j)) := fun W hW => (hW.cell (p := ⟨g, j * 3 + 1, none⟩) (blk_lt hh)).trans ((blk_cell hh _).trans m2)
      have k3 : ∀ W, Grew wr W → W.cell? ⟨g, j * 3 + 2, none⟩ = some (.string (tt xs j)) := fun W hW => (hW.cell (p := ⟨g, j * 3 + 2, none⟩) (blk_lt hh)).trans ((blk_cell hh _).trans m3)
      have hrr := Grew.refl wr
      have f1 : ∀ W, Grew wr W → W.frozen? ⟨g, j * 3 + 1, none⟩ = false := fun W hW => blk_frozen ((hW.block (blk_lt hh)).trans hh) _
      have HH := Lib.hid hh
      clear m1 m2 m3 hh
      by_cases hk0 : tk xs j = 0
      · by_cases hkn : k ≤ tn xs j
        · have hv := Lib.hid (hr.out.trans (if_pos ⟨hk0, hkn⟩))
          have HS := Lib.hid (HM.out.set (by omega) (show j < xs.length by omega))
          rw [hk0] at k1
          clear hk0 hr HM
          generalize tn xs j = a at *
          generalize tt xs j = z at *
          have hra := hrr.alloc (.cells #[.int .i64 0, .int .i64 a, .string z] 66)
          go_wp2_with fail
          go_roundw
          case rel => exact ⟨j + 1, _, by omega, by go_num, by rw [hv.out] at HS; exact blk_set (((hrr.alloc _).block (blk_lt HH.out)).trans HH.out) _ _, by simp [hcs], (hB.alloc _).setCell hgB _, by rw [hv.out] at HS; exact HS.out⟩
          case measure => simp [intOf]; omega
        · have hv := Lib.hid (hr.out.trans (if_neg (fun h => hkn h.2)))
          have HS := Lib.hid (HM.out.keep hv.out)
          rw [hk0] at k1
          clear hk0 hr HM
          generalize tn xs j = a at *
          generalize tt xs j = z at *
          go_wp2_with fail
          go_roundw
          case rel => exact ⟨j + 1, cur, by omega, by go_num, ((hrr.alloc _).block (blk_lt HH.out)).trans HH.out, hcs, hB.alloc _, HS.out⟩
          case measure => simp [intOf]; omega
      · have hv := Lib.hid (hr.out.trans (if_neg (fun h => hk0 h.1)))
        have HS := Lib.hid (HM.out.keep hv.out)
        have hk0' : (tk xs j == 0) = false := by simpa using hk0
        clear hk0 hr HM
        generalize tk xs j = kk at *
        generalize tn xs j = a at *
        generalize tt xs j = z at *
        go_wp2_with fail
        go_roundw
        case rel => exact ⟨j + 1, cur, by omega, by go_num, ((hrr.alloc _).block (blk_lt HH.out)).trans HH.out, hcs, hB.alloc _, HS.out⟩
        case measure => simp [intOf]; omega
    · obtain rfl : j = n := by omega
      have hf := Lib.hid (HFIN.out _ _ HM.out hh hcs)
      go_wp2_with fail
      go_ret
      exact ⟨_, rfl, hf.out, hB⟩

theorem l26Shift_c (v : Value) (xs : List Tn) (k d : Int) (w : World) (h : Tms w v xs) (hn : xs.length ≤ 1048576) (hok : NumOk xs) (hd0 : 0 ≤ d) (hd1 : d ≤ 1000000) :
    Calls Tryz.prog 86 #[v, .int .i64 k, .int .i64 d] w (GivesT w (raiseL k d xs)) := by
  have HOK := Lib.hid hok
  have he := own_emptyT w
  go_enter Tryz.func86, Tryz.ntmps86
  go_wp2_with (first
    | (at_builtin; refine wpList_appT (w0 := w) _ _ rfl rfl _ [] rfl he ((Grew.refl w).alloc _) _ xs rfl (h.grew ((Grew.refl w).alloc _)) (by simp; omega) ?_; intro u w1 ho hg1 _))
  rw [List.nil_append] at ho
  clear he h hok
  rcases ho.open_ with ⟨rfl, rfl⟩ | ⟨g, c, cur0, rfl, hgB, hgl, hh0, hnc, hcm, hcs0, hc0⟩
  · clear ho
    go_wp2_with fail
    refine wp_loop_rounds 1 ?_; rw [rounds_succ]
    go_wp2_with fail
    go_ret
    exact ⟨_, rfl, OwnT.nil_ _ _, hg1⟩
  have HFIN := Lib.hid (fun W cur hm (hh : W.heap[g]? = some (.cells cur 66 (0, 0))) hs => Mix.fin (w := W) (B := w.heap.size) (g := g) (c := c) (cur := cur) (k := k) (d := d) (xs := xs) hm hgB hh hnc hcm hs)
  clear ho
  generalize hN : xs.length = n at *
  go_wp2_with fail
  go_loopw [8] (fun i wr => ∃ (j : Nat) (cur : Array Value), j ≤ n ∧ i = .int .i64 j ∧ wr.heap[g]? = some (.cells cur 66 (0, 0)) ∧ cur.size = c * 3 ∧ Grew w wr ∧ Hid (Mix cur k d xs j)) (fun i _ => n - (intOf i).toNat)
  case atStart => exact ⟨0, cur0, Nat.zero_le _, rfl, hh0, hcs0, hg1, fun i hi => by rw [mix_zero]; exact hc0 i (by omega)⟩
  case round =>
    clear hh0 hcs0 hc0
    obtain ⟨j, cur, hj, rfl, hh, hcs, hB, HM⟩ := hrel
    by_cases hlt : j < n
    · obtain ⟨m1, m2, m3⟩ := HM.out j (by omega)
      rw [mix_at] at m2
      have hr := Lib.hid (raise_tn (k := k) (d := d) (show j < xs.length by omega))
      obtain ⟨ho1, ho2⟩ := HOK.out j (by omega)
      have k1 : ∀ W, Grew wr W → W.cell? ⟨g, j * 3, none⟩ = some (.int .i64 (tk xs j)) := fun W hW => (hW.cell (p := ⟨g, j * 3, none⟩) (blk_lt hh)).trans ((blk_cell hh _).trans m1)
      have k2 : ∀ W, Grew wr W → W.cell? ⟨g, j * 3 + 1, none⟩ = some (.int .i64 (tn xs j)) := fun W hW => (hW.cell (p := ⟨g, j * 3 + 1, none⟩) (blk_lt hh)).trans ((blk_cell hh _).trans m2)
      have k3 : ∀ W, Grew wr W → W.cell? ⟨g, j * 3 + 2, none⟩ = some (.string (tt xs j)) := fun W hW => (hW.cell (p := ⟨g, j * 3 + 2, none⟩) (blk_lt hh)).trans ((blk_cell hh _).trans m3)
      have hrr := Grew.refl wr
      have f1 : ∀ W, Grew wr W → W.frozen? ⟨g, j * 3 + 1, none⟩ = false := fun W hW => blk_frozen ((hW.block (blk_lt hh)).trans hh) _
      have HH := Lib.hid hh
      clear m1 m2 m3 hh
      by_cases hk0 : tk xs j = 0
      · by_cases hkn : k ≤ tn xs j
        · have hv := Lib.hid (hr.out.trans (if_pos ⟨hk0, hkn⟩))
          have HS := Lib.hid (HM.out.set (by omega) (show j < xs.length by omega))
          rw [hk0] at k1
          clear hk0 hr HM
          generalize tn xs j = a at *
          generalize tt xs j = z at *
          go_wp2_with fail
          go_roundw
          case rel => exact ⟨j + 1, _, by omega, by go_num, blk_set HH.out _ _, by simp [hcs], hB.setCell hgB _, by rw [hv.out] at HS; exact HS.out⟩
          case measure => simp [intOf]; omega
        · have hv := Lib.hid (hr.out.trans (if_neg (fun h => hkn h.2)))
          have HS := Lib.hid (HM.out.keep hv.out)
          rw [hk0] at k1
          clear hk0 hr HM
          generalize tn xs j = a at *
          generalize tt xs j = z at *
          go_wp2_with fail
          go_roundw
          case rel => exact ⟨j + 1, cur, by omega, by go_num, HH.out, hcs, hB, HS.out⟩
          case measure => simp [intOf]; omega
      · have hv := Lib.hid (hr.out.trans (if_neg (fun h => hk0 h.1)))
        have HS := Lib.hid (HM.out.keep hv.out)
        have hk0' : (tk xs j == 0) = false := by simpa using hk0
        clear hk0 hr HM
        generalize tk xs j = kk at *
        generalize tn xs j = a at *
        generalize tt xs j = z at *
        go_wp2_with fail
        go_roundw
        case rel => exact ⟨j + 1, cur, by omega, by go_num, HH.out, hcs, hB, HS.out⟩
        case measure => simp [intOf]; omega
    · obtain rfl : j = n := by omega
      have hf := Lib.hid (HFIN.out _ _ HM.out hh hcs)
      go_wp2_with fail
      go_ret
      exact ⟨_, rfl, hf.out, hB⟩
end Go.Proofs.YthofkdpmgjkgkaaGreat

/- A term in which each variable is replaced. No program is in sight. -/
namespace Go.Proofs.YthofkdpmgjkgkaaGreat
open Go.RowKit
namespace Tr

def mapN (f : Tn → Int → List Tn) : Tm → Int → List Tn
  | .t0 x, n => f x n
  | .t1 x a, n => x :: mapN f a (n + bd x.1 0)
  | .t2 x a b, n => x :: (mapN f a (n + bd x.1 0) ++ mapN f b (n + bd x.1 1))
  | .t3 x a b c, n => x :: (mapN f a (n + bd x.1 0) ++ (mapN f b (n + bd x.1 1) ++ mapN f c (n + bd x.1 2)))
/-- The first j parts, replaced. -/
def mapL (f : Tn → Int → List Tn) (t : Tm) (n : Int) : Nat → List Tn
  | 0 => [hd t]
  | j + 1 => mapL f t n j ++ mapN f (kid t j) (n + bd (hd t).1 j)
theorem mapN_kids {f : Tn → Int → List Tn} {t : Tm} {n : Int} (h : kids t ≠ []) : mapN f t n = mapL f t n (kids t).length := by
  cases t with
  | t0 x => exact absurd rfl h
  | t1 x a => simp [mapN, mapL, kids, hd, kid]
  | t2 x a b => simp [mapN, mapL, kids, hd, kid]
  | t3 x a b c => simp [mapN, mapL, kids, hd, kid]
theorem mapN_leaf {f : Tn → Int → List Tn} {t : Tm} {n : Int} (h : kids t = []) : mapN f t n = f (hd t) n := by
  cases t with
  | t0 x => rfl
  | t1 x a => cases h
  | t2 x a b => cases h
  | t3 x a b c => cases h
theorem mapN_len {f : Tn → Int → List Tn} {M : Nat} (hM : 1 ≤ M) (hf : ∀ x n, (f x n).length ≤ M) : ∀ t n, (mapN f t n).length ≤ (enc t).length * M := by
  intro t
  induction t with
  | t0 x => intro n; simp [mapN, enc]; exact hf x n
  | t1 x a ha =>
    intro n
    have := ha (n + bd x.1 0)
    simp only [mapN, enc, List.length_cons, Nat.add_mul, Nat.one_mul] at *
    omega
  | t2 x a b ha hb =>
    intro n
    have h1 := ha (n + bd x.1 0)
    have h2 := hb (n + bd x.1 1)
    simp only [mapN, enc, List.length_cons, List.length_append, Nat.add_mul, Nat.one_mul] at *
    omega
  | t3 x a b c ha hb hc =>
    intro n
    have h1 := ha (n + bd x.1 0)
    have h2 := hb (n + bd x.1 1)
    have h3 := hc (n + bd x.1 2)
    simp only [mapN, enc, List.length_cons, List.length_append, Nat.add_mul, Nat.one_mul] at *
    omega
theorem mapL_len {f : Tn → Int → List Tn} {M : Nat} (hM : 1 ≤ M) (hf : ∀ x n, (f x n).length ≤ M) {t : Tm} {n : Int} : ∀ j, j ≤ (kids t).length → (mapL f t n j).length ≤ off t j * M := by
  intro j
  induction j with
  | zero => intro _; rw [off_zero]; simp [mapL]; omega
  | succ j ih =>
    intro hj
    have h1 := ih (by omega)
    have h2 := mapN_len hM hf (kid t j) (n + bd (hd t).1 j)
    rw [mapL, List.length_append, off_next (by omega), Nat.add_mul]
    omega
theorem mapN_mem {P : Tn → Prop} {f : Tn → Int → List Tn} (hf : ∀ x n, P x → ∀ y ∈ f x n, P y) : ∀ t n, (∀ x ∈ enc t, P x) → ∀ y ∈ mapN f t n, P y := by
  intro t
  induction t with
  | t0 x => intro n h y hy; exact hf x n (h x (by simp [enc])) y hy
  | t1 x a ha =>
    intro n h y hy
    simp only [mapN, List.mem_cons] at hy
    rcases hy with rfl | hy
    · exact h _ (by simp [enc])
    · exact ha _ (fun z hz => h z (by simp [enc, hz])) y hy
  | t2 x a b ha hb =>
    intro n h y hy
    simp only [mapN, List.mem_cons, List.mem_append] at hy
    rcases hy with rfl | hy | hy
    · exact h _ (by simp [enc])
    · exact ha _ (fun z hz => h z (by simp [enc, hz])) y hy
    · exact hb _ (fun z hz => h z (by simp [enc, hz])) y hy
  | t3 x a b c ha hb hc =>
    intro n h y hy
    simp only [mapN, List.mem_cons, List.mem_append] at hy
    rcases hy with rfl | hy | hy | hy
    · exact h _ (by simp [enc])
    · exact ha _ (fun z hz => h z (by simp [enc, hz])) y hy
    · exact hb _ (fun z hz => h z (by simp [enc, hz])) y hy
    · exact hc _ (fun z hz => h z (by simp [enc, hz])) y hy
end Tr
theorem fits_mem {xs : List Tn} : FitsT xs ↔ ∀ x ∈ xs, x.2.2.size ≤ 1048576 := by
  constructor
  · intro h x hx
    obtain ⟨i, hi, rfl⟩ := List.getElem_of_mem hx
    have := h i hi
    rw [tk_lt hi]
    exact this
  · intro h i hi
    have := h xs[i] (List.getElem_mem hi)
    rw [tk_lt hi] at this
    exact this
theorem put_fits {n : Int} {u : List Tn} {t : Tr.Tm} {m : Int} (hu : FitsT u) (ht : FitsT (Tr.enc t)) : FitsT (Tr.mapN (fun x now => if x.2.1 = n then raiseL n (now - n - 1) u else if n < x.2.1 then [(x.1, x.2.1 - 1, x.2.2)] else [x]) t m) := by
  rw [fits_mem] at *
  refine Tr.mapN_mem (P := fun x => x.2.2.size ≤ 1048576) ?_ t m ht
  intro x now hx y hy
  split at hy
  · simp only [raiseL, List.mem_map] at hy
    obtain ⟨z, hz, rfl⟩ := hy
    have := hu z hz
    unfold raiseN
    split <;> exact this
  · split at hy
    · simp at hy; subst hy; exact hx
    · simp at hy; subst hy; exact hx
/-- What a variable is replaced by when u is put for n. -/
def putN (n : Int) (u : List Tn) (x : Tn) (now : Int) : List Tn := if x.2.1 = n then raiseL n (now - n - 1) u else if n < x.2.1 then [(x.1, x.2.1 - 1, x.2.2)] else [x]
theorem putN_len (n : Int) (u : List Tn) (x : Tn) (now : Int) : (putN n u x now).length ≤ u.length + 1 := by
  unfold putN
  split
  · rw [raiseL_length]; omega
  · split <;> simp
end Go.Proofs.YthofkdpmgjkgkaaGreat

/- Slices of int64 in memory, and the laws' own helpers on them. -/
namespace Go.Proofs.YthofkdpmgjkgkaaGreat
open Go.RowKit

def it (L : List Int) (i : Nat) : Int := L.getD i 0
def icells (L : List Int) : List Value := L.map (Value.int .i64)
theorem icells_length (L : List Int) : (icells L).length = L.length * 1 := by simp [icells]
theorem icells_one (L : List Int) : ∀ u ∈ icells L, u.oneCell' = true := by
  intro u hu
  simp only [icells, List.mem_map] at hu
  obtain ⟨s, _, rfl⟩ := hu
  rfl
theorem icells_at {L : List Int} {i : Nat} (h : i < L.length) : (icells L)[i]? = some (.int .i64 (it L i)) := by simp [icells, it, List.getD, h]
theorem icells_append (K L : List Int) : icells (K ++ L) = icells K ++ icells L := by simp [icells]
theorem it_get {L : List Int} {i : Nat} (h : i < L.length) : L[i] = it L i := by simp [it, List.getD, h]
theorem it_ext {K L : List Int} (hl : K.length = L.length) (h : ∀ i, i < K.length → it K i = it L i) : K = L := by
  apply List.ext_getElem hl
  intro i h1 h2
  rw [it_get h1, it_get h2]
  exact h i h1

/-- v reads as the list. -/
def Ints (w : World) (v : Value) (L : List Int) : Prop := Rd w 1 v L.length (icells L)
/-- v is a row of the call's own. -/
def OwnI (w : World) (B : Nat) (v : Value) (L : List Int) : Prop := w.ownsRow B 2 1 v L.length (icells L)
theorem Ints.grew {w w' : World} {v : Value} {L : List Int} (h : Ints w v L) (hb : Grew w w') : Ints w' v L := Rd.grew h hb
theorem Ints.nil_ (w : World) : Ints w (.slice none 0 0) [] := Rd.nil_ w 1
theorem OwnI.ints {w : World} {B : Nat} {v : Value} {L : List Int} (h : OwnI w B v L) : Ints w v L := Rd.of_own h
theorem OwnI.nil_ (w : World) (B : Nat) : OwnI w B (.slice none 0 0) [] := World.ownsRow_nil w B _ 1
theorem OwnI.grew {w w' : World} {B : Nat} {v : Value} {L : List Int} (h : OwnI w B v L) (hb : Grew w w') : OwnI w' B v L := own_grew h hb
theorem OwnI.base {w : World} {B B' : Nat} {v : Value} {L : List Int} (h : OwnI w B v L) (hb : B' ≤ B) : OwnI w B' v L := own_base h hb
theorem Ints.open_ {w : World} {v : Value} {L : List Int} (h : Ints w v L) :
    (v = .slice none 0 0 ∧ L = []) ∨ ∃ b o c, v = .slice (some ⟨b, o, none⟩) L.length c ∧ L.length ≤ c ∧ c ≤ 9223372036854775807 ∧ b < w.heap.size ∧
      ∀ i, i < L.length → ∀ W, Grew w W → W.cell? ⟨b, o + i, none⟩ = some (.int .i64 (it L i)) := by
  obtain ⟨_, _, h3⟩ := h
  rcases h3 with ⟨h4, h5⟩ | ⟨b, o, c, h4, h5, h6, h7, h8⟩
  · exact .inl ⟨h4, List.eq_nil_of_length_eq_zero h5⟩
  · exact .inr ⟨b, o, c, h4, h5, h6, h7, fun i hi W hW => (hW.cell (p := ⟨b, o + i, none⟩) h7).trans (h8 _ _ (icells_at hi))⟩
theorem ints_slice {w : World} {v : Value} {L : List Int} (h : Ints w v L) : ∃ A c, v = .slice A L.length c := by
  rcases h.open_ with ⟨rfl, rfl⟩ | ⟨b, o, c, rfl, _⟩
  · exact ⟨_, _, rfl⟩
  · exact ⟨_, _, rfl⟩
theorem OwnI.mk_ {w : World} {B : Nat} {L : List Int} {g c : Nat} {cur : Array Value} (hB : B ≤ g) (hg : w.heap[g]? = some (.cells cur 2 (0, 0))) (hnc : L.length ≤ c) (hcm : c ≤ 9223372036854775807) (hcs : cur.size = c)
    (hc : ∀ i, i < L.length → cur[i]? = some (.int .i64 (it L i))) : OwnI w B (.slice (some ⟨g, 0, none⟩) L.length c) L := by
  refine ⟨icells_length L, .inr ⟨g, c, cur, rfl, hB, hg, hnc, hcm, by omega, ?_⟩⟩
  apply List.ext_getElem?
  intro j
  rw [List.getElem?_take]
  by_cases hj : j < L.length
  · rw [if_pos (by omega), icells_at hj]
    simpa using hc j hj
  · rw [if_neg (by omega), List.getElem?_eq_none (by rw [icells_length]; omega)]
theorem Tryz.infoI : (Tryz.prog.info? 2).map (fun i => (i.zero, i.size, i.bytes)) = some (some (.int .i64 0), 1, 8) := by kernel_rfl
/-- The call returns a new list of numbers. -/
def GivesI (w : World) (L : List Int) (e : Ending) (w' : World) : Prop := ∃ v, e = .returned v ∧ OwnI w' w.heap.size v L ∧ Grew w w'

theorem one_stepI {cur : Array Value} {F : Nat → Value} {j : Nat} (hs : j < cur.size) (h : ∀ i, i < j → cur[i]? = some (F i)) :
    ∀ i, i < j + 1 → (cur.setIfInBounds j (F j))[i]? = some (F i) := by
  intro i hi
  simp only [Array.getElem?_setIfInBounds]
  rcases Nat.lt_or_ge i j with hk | hk
  · rw [if_neg (by omega)]
    exact h i hk
  · obtain rfl : i = j := by omega
    rw [if_pos rfl, if_pos hs]
end Go.Proofs.YthofkdpmgjkgkaaGreat

/- The redexes of a term: redexes of the program, l26Redexes of the reference. -/
namespace Go.Proofs.YthofkdpmgjkgkaaGreat
open Go.RowKit

/-- Is a node of the one kind with a first part of the other a redex? -/
def rdx (a b : Int) : Bool := if a == 2 then b == 1 else if a == 4 || a == 5 then b == 3 else if a == 8 then (b == 6 || b == 7) else false
def rdxAt (xs : List Tn) (i : Nat) : Bool := decide (i + 1 < xs.length) && rdx (tk xs i) (tk xs (i + 1))
def redL (xs : List Tn) : Nat → List Int
  | 0 => []
  | j + 1 => if rdxAt xs j then redL xs j ++ [(j : Int)] else redL xs j
theorem redL_len (xs : List Tn) (j : Nat) : (redL xs j).length ≤ j := by
  induction j with
  | zero => simp [redL]
  | succ j ih =>
    rw [redL]
    split
    · rw [List.length_append, List.length_singleton]; omega
    · omega

/-- 'out = append(out, x)' onto a row of numbers of the call's own. -/
theorem wpList_appI {ops : Array Oper} {rest : List Oper} {o : Oper} {a : Act} {Q : Exit → Act → World → Prop} {w w0 : World} (s x : Operand) (hgd : o.guard = none)
    (ho : o.op = .call { callee := .builtin .append, args := #[s, x], argTypes := #[40, 40] })
    (v : Value) (L : List Int) (hs : a.eval s = v) (hown : OwnI w w0.heap.size v L) (hg : Grew w0 w) (vx : Value) (k : Int) (hx : a.eval x = vx) (hr : Rd w 1 vx 1 [.int .i64 k]) (hn : L.length ≤ 1048576)
    (h : ∀ v' w', OwnI w' w0.heap.size v' (L ++ [k]) → Grew w0 w' → w.grownBy w' v.ownBlock → wpList Tryz.prog ops Q rest (a.put o.dst v') w') : wpList Tryz.prog ops Q (o :: rest) a w := by
  obtain ⟨i0, hi0, hz0, hz1, hz2⟩ := info_parts Tryz.infoI
  refine wpList_append_rd w hgd s x _ ho w0.heap.size 2 i0 _ 1 8 Tryz.underlying40 hi0 hz0 hz1 hz2 rfl (by omega) v L.length (icells L) hs hown vx 1 [.int .i64 k] hx hr (by simp [Value.oneCell']) (by unfold maxLen; omega) (by omega) hg.size ?_
  intro v' w' h1 h2 h3
  refine h v' w' ?_ (hg.grown h2 fun k hk => (hown.lt k hk).1) h2
  unfold OwnI
  rw [List.length_append, icells_append]
  exact h1
theorem rd_litI (w : World) (k : Int) (t : TypeId) : Rd (w.alloc (.cells #[.int .i64 k] t)) 1 (.slice (some ⟨w.heap.size, 0, none⟩) 1 1) 1 [.int .i64 k] := by
  refine ⟨rfl, by omega, .inr ⟨w.heap.size, 0, 1, rfl, by omega, by omega, by simp, fun j x hx => ?_⟩⟩
  have hj : j = 0 := by
    have := (List.getElem?_eq_some_iff.1 hx).1
    simp at this
    omega
  subst hj
  simp at hx
  subst hx
  simp
theorem own_emptyI (w : World) : OwnI (w.alloc (.cells #[] 2)) w.heap.size (.slice (some ⟨w.heap.size, 0, none⟩) 0 0) [] :=
  World.ownsRow_lit (e := 2) (size := 1) w #[] 0 (Nat.le_refl _) (by omega) rfl

theorem rdx_kinds (a : Int) : a = 2 ∨ a = 4 ∨ a = 5 ∨ a = 8 ∨ ((a == 2) = false ∧ (a == 4) = false ∧ (a == 5) = false ∧ (a == 8) = false) := by
  by_cases h2 : a = 2
  · exact .inl h2
  by_cases h4 : a = 4
  · exact .inr (.inl h4)
  by_cases h5 : a = 5
  · exact .inr (.inr (.inl h5))
  by_cases h8 : a = 8
  · exact .inr (.inr (.inr (.inl h8)))
  · exact .inr (.inr (.inr (.inr ⟨by simpa using h2, by simpa using h4, by simpa using h5, by simpa using h8⟩)))

theorem isRedex_c (v : Value) (xs : List Tn) (i : Nat) (w : World) (h : Tms w v xs) (hi : i < xs.length) (hn : xs.length ≤ 1048576) :
    Calls Tryz.prog 65 #[v, .int .i64 i] w fun e w' => e = .returned (.bool (rdxAt xs i)) ∧ Grew w w' := by
  rcases h.open_ with ⟨_, rfl⟩ | ⟨b, o, c, rfl, hc, hm, hb, hf⟩
  · simp at hi
  unfold rdxAt
  by_cases hl : i + 1 < xs.length
  · rw [decide_eq_true hl, Bool.true_and]
    have k1 : w.cell? ⟨b, o + i * 3, none⟩ = some (.int .i64 (tk xs i)) := (hf i hi _ (Grew.refl w)).1
    have k2 : w.cell? ⟨b, o + (i + 1) * 3, none⟩ = some (.int .i64 (tk xs (i + 1))) := (hf (i + 1) hl _ (Grew.refl w)).1
    clear hf h
    generalize tk xs i = x at *
    generalize tk xs (i + 1) = y at *
    generalize xs.length = n at *
    rcases rdx_kinds x with rfl | rfl | rfl | rfl | ⟨n2, n4, n5, n8⟩
    · go_enter Tryz.func65, Tryz.ntmps65
      go_wp2_with fail
      go_ret
      exact ⟨rfl, Grew.refl _⟩
    · go_enter Tryz.func65, Tryz.ntmps65
      go_wp2_with fail
      go_ret
      exact ⟨rfl, Grew.refl _⟩
    · go_enter Tryz.func65, Tryz.ntmps65
      go_wp2_with fail
      go_ret
      exact ⟨rfl, Grew.refl _⟩
    · cases h6 : (y == 6) with
      | true =>
        have hr : rdx 8 y = true := by simp [rdx, h6]
        rw [hr]
        go_enter Tryz.func65, Tryz.ntmps65
        go_wp2_with fail
        go_ret
        exact ⟨rfl, Grew.refl _⟩
      | false =>
        have hr : rdx 8 y = (y == 7) := by simp [rdx, h6]
        rw [hr]
        go_enter Tryz.func65, Tryz.ntmps65
        go_wp2_with fail
        go_ret
        exact ⟨by simp, Grew.refl _⟩
    · have hr : rdx x y = false := by simp [rdx, n2, n4, n5, n8]
      rw [hr]
      go_enter Tryz.func65, Tryz.ntmps65
      go_wp2_with fail
      go_ret
      exact ⟨rfl, Grew.refl _⟩
  · rw [decide_eq_false hl, Bool.false_and]
    have hge : xs.length ≤ i + 1 := by omega
    clear hf h
    generalize xs.length = n at *
    go_enter Tryz.func65, Tryz.ntmps65
    go_wp2_with fail
    go_ret
    exact ⟨rfl, Grew.refl _⟩

theorem redexes_c (v : Value) (xs : List Tn) (w : World) (h : Tms w v xs) (hn : xs.length ≤ 1048576) :
    Calls Tryz.prog 80 #[v] w (GivesI w (redL xs xs.length)) := by
  have HR := Lib.hid (fun i (hi : i < xs.length) W (hW : Grew w W) => isRedex_c v xs i W (h.grew hW) hi hn)
  have HL := Lib.hid (redL_len xs)
  obtain ⟨A, c, rfl⟩ := tms_slice h
  clear h
  generalize hN : xs.length = n at *
  go_enter Tryz.func80, Tryz.ntmps80
  go_wp2_with fail
  go_loopw [3, 4, 7] (fun vv _ i wr => ∃ j : Nat, j ≤ n ∧ i = .int .i64 j ∧ OwnI wr w.heap.size vv (redL xs j) ∧ Grew w wr) (fun _ _ i _ => n - (intOf i).toNat)
  case atStart => exact ⟨0, Nat.zero_le _, rfl, OwnI.nil_ _ _, Grew.refl _⟩
  case round =>
    obtain ⟨j, hj, rfl, hO, hB⟩ := hrel
    by_cases hlt : j < n
    · have hR := Lib.hid (HR.out j hlt)
      have hl := HL.out j
      have hstep : redL xs (j + 1) = if rdxAt xs j then redL xs j ++ [(j : Int)] else redL xs j := rfl
      have HSt := Lib.hid hstep
      clear hstep
      generalize redL xs j = L at *
      cases hq : rdxAt xs j with
      | true =>
        rw [hq] at hR
        have hv := Lib.hid (HSt.out.trans (by rw [hq]; rfl : (if rdxAt xs j then L ++ [(j : Int)] else L) = L ++ [(j : Int)]))
        go_wp2_with fail
        refine (hR.out _ hB).mono ?_
        rintro e w1 ⟨rfl, hg1⟩
        have hB1 := hB.trans hg1
        have hO1 := hO.grew (hg1.trans ((Grew.refl w1).alloc (.cells #[.int .i64 (j : Int)] 2)))
        go_wp2_with (first | (at_builtin; refine wpList_appI (w0 := w) _ _ rfl rfl _ L rfl hO1 (hB1.alloc _) _ (j : Int) rfl (rd_litI _ _ _) (by omega) ?_; intro v2 w2 hown2 hg2 _))
        go_roundw
        case rel => exact ⟨j + 1, by omega, by go_num, by rw [hv.out]; exact hown2, hg2⟩
        case measure => simp [intOf]; omega
      | false =>
        rw [hq] at hR
        have hv := Lib.hid (HSt.out.trans (by rw [hq]; rfl : (if rdxAt xs j then L ++ [(j : Int)] else L) = L))
        go_wp2_with fail
        refine (hR.out _ hB).mono ?_
        rintro e w1 ⟨rfl, hg1⟩
        go_wp2_with fail
        go_roundw
        case rel => exact ⟨j + 1, by omega, by go_num, by rw [hv.out]; exact hO.grew hg1, hB.trans hg1⟩
        case measure => simp [intOf]; omega
    · obtain rfl : j = n := by omega
      go_wp2_with fail
      go_ret
      exact ⟨_, rfl, hO, hB⟩

theorem l26Redex_c (v : Value) (xs : List Tn) (i : Nat) (b o c : Nat) (w : World) (h : Tms w (.slice (some ⟨b, o, none⟩) xs.length c) xs) (hc : xs.length ≤ c) (hm : c ≤ 9223372036854775807) (hi : i < xs.length) (hn : xs.length ≤ 1048576)
    (hv : v = .slice (some ⟨b, o + i * 3, none⟩) (xs.length - i) (c - i)) :
    Calls Tryz.prog 62 #[v] w fun e w' => e = .returned (.bool (rdxAt xs i)) ∧ Grew w w' := by
  subst hv
  have hsub := h.sub i (xs.length - i) (c - i) (by omega) (by omega) (by omega)
  have hlen : ((xs.drop i).take (xs.length - i)).length = xs.length - i := by simp
  rcases h.open_ with ⟨h0, _⟩ | ⟨b', o', c', hv, hc', hm', hb, hf⟩
  · cases h0
  obtain ⟨⟨rfl, rfl⟩, _⟩ : (b = b' ∧ o = o') ∧ c = c' := by simpa using hv
  unfold rdxAt
  by_cases hl : i + 1 < xs.length
  · rw [decide_eq_true hl, Bool.true_and]
    have k1 : w.cell? ⟨b, o + i * 3, none⟩ = some (.int .i64 (tk xs i)) := (hf i hi _ (Grew.refl w)).1
    have k2 : w.cell? ⟨b, o + i * 3 + 3, none⟩ = some (.int .i64 (tk xs (i + 1))) := by
      have := (hf (i + 1) hl _ (Grew.refl w)).1
      rwa [show o + (i + 1) * 3 = o + i * 3 + 3 by omega] at this
    clear hf h hsub hlen hv hc'
    generalize tk xs i = x at *
    generalize tk xs (i + 1) = y at *
    generalize o + i * 3 = oo at *
    obtain ⟨m, hm2⟩ : ∃ m, xs.length - i = m + 2 := ⟨xs.length - i - 2, by omega⟩
    rw [hm2]
    have hmb : m ≤ 1048576 := by omega
    have hcm : m + 2 ≤ c - i := by omega
    have hcm2 : c - i ≤ 9223372036854775807 := by omega
    generalize c - i = cc at *
    clear hm2 hl hi hc hm
    rcases rdx_kinds x with rfl | rfl | rfl | rfl | ⟨n2, n4, n5, n8⟩
    · go_enter Tryz.func62, Tryz.ntmps62
      go_wp2_with fail
      go_ret
      exact ⟨rfl, Grew.refl _⟩
    · go_enter Tryz.func62, Tryz.ntmps62
      go_wp2_with fail
      go_ret
      exact ⟨rfl, Grew.refl _⟩
    · go_enter Tryz.func62, Tryz.ntmps62
      go_wp2_with fail
      go_ret
      exact ⟨rfl, Grew.refl _⟩
    · cases h6 : (y == 6) with
      | true =>
        have hr : rdx 8 y = true := by simp [rdx, h6]
        rw [hr]
        go_enter Tryz.func62, Tryz.ntmps62
        go_wp2_with fail
        go_ret
        exact ⟨rfl, Grew.refl _⟩
      | false =>
        have hr : rdx 8 y = (y == 7) := by simp [rdx, h6]
        rw [hr]
        go_enter Tryz.func62, Tryz.ntmps62
        go_wp2_with fail
        go_ret
        exact ⟨by simp, Grew.refl _⟩
    · have hr : rdx x y = false := by simp [rdx, n2, n4, n5, n8]
      rw [hr]
      go_enter Tryz.func62, Tryz.ntmps62
      go_wp2_with fail
      go_ret
      exact ⟨rfl, Grew.refl _⟩
  · rw [decide_eq_false hl, Bool.false_and]
    have h1 : xs.length - i = 1 := by omega
    rw [h1]
    clear hf h hsub hlen hv
    generalize o + i * 3 = oo at *
    generalize c - i = cc at *
    go_enter Tryz.func62, Tryz.ntmps62
    go_wp2_with fail
    go_ret
    exact ⟨rfl, Grew.refl _⟩

theorem l26Redexes_c (v : Value) (xs : List Tn) (w : World) (h : Tms w v xs) (hn : xs.length ≤ 1048576) :
    Calls Tryz.prog 81 #[v] w (GivesI w (redL xs xs.length)) := by
  have HL := Lib.hid (redL_len xs)
  rcases h.open_ with ⟨rfl, rfl⟩ | ⟨b, o, c, rfl, hc, hm, hb, hf⟩
  · clear h
    go_enter Tryz.func81, Tryz.ntmps81
    go_wp2_with fail
    refine wp_loop_rounds 1 ?_; rw [rounds_succ]
    go_wp2_with fail
    go_ret
    exact ⟨_, rfl, own_emptyI w, (Grew.refl w).alloc _⟩
  have HR := Lib.hid (fun i (hi : i < xs.length) u W (hW : Grew w W) hu => l26Redex_c u xs i b o c W (h.grew hW) hc hm hi hn hu)
  clear h hf
  generalize hN : xs.length = n at *
  go_enter Tryz.func81, Tryz.ntmps81
  go_wp2_with fail
  go_loopw [3, 4] (fun vv i wr => ∃ j : Nat, j ≤ n ∧ i = .int .i64 j ∧ OwnI wr w.heap.size vv (redL xs j) ∧ Grew w wr) (fun _ i _ => n - (intOf i).toNat)
  case atStart => exact ⟨0, Nat.zero_le _, rfl, own_emptyI w, (Grew.refl w).alloc _⟩
  case round =>
    obtain ⟨j, hj, rfl, hO, hB⟩ := hrel
    by_cases hlt : j < n
    · have hR := Lib.hid (HR.out j hlt)
      have hl := HL.out j
      have hstep : redL xs (j + 1) = if rdxAt xs j then redL xs j ++ [(j : Int)] else redL xs j := rfl
      have HSt := Lib.hid hstep
      clear hstep
      have hcj : ¬ c = j := by omega
      generalize redL xs j = L at *
      cases hq : rdxAt xs j with
      | true =>
        rw [hq] at hR
        have hv := Lib.hid (HSt.out.trans (by rw [hq]; rfl : (if rdxAt xs j then L ++ [(j : Int)] else L) = L ++ [(j : Int)]))
        go_wp2_with fail
        refine (hR.out _ _ hB rfl).mono ?_
        rintro e w1 ⟨rfl, hg1⟩
        have hB1 := hB.trans hg1
        have hO1 := hO.grew (hg1.trans ((Grew.refl w1).alloc (.cells #[.int .i64 (j : Int)] 2)))
        go_wp2_with (first | (at_builtin; refine wpList_appI (w0 := w) _ _ rfl rfl _ L rfl hO1 (hB1.alloc _) _ (j : Int) rfl (rd_litI _ _ _) (by omega) ?_; intro v2 w2 hown2 hg2 _))
        go_roundw
        case rel => exact ⟨j + 1, by omega, by go_num, by rw [hv.out]; exact hown2, hg2⟩
        case measure => simp [intOf]; omega
      | false =>
        rw [hq] at hR
        have hv := Lib.hid (HSt.out.trans (by rw [hq]; rfl : (if rdxAt xs j then L ++ [(j : Int)] else L) = L))
        go_wp2_with fail
        refine (hR.out _ _ hB rfl).mono ?_
        rintro e w1 ⟨rfl, hg1⟩
        go_wp2_with fail
        go_roundw
        case rel => exact ⟨j + 1, by omega, by go_num, by rw [hv.out]; exact hO.grew hg1, hB.trans hg1⟩
        case measure => simp [intOf]; omega
    · obtain rfl : j = n := by omega
      go_wp2_with fail
      go_ret
      exact ⟨_, rfl, hO, hB⟩

/-- What RedexesOf gives. -/
noncomputable def redF (xs : List Tn) : List Int × Int := if tmB xs then (redL xs xs.length, 0) else ([], 1)
theorem redF_len (xs : List Tn) (hn : xs.length ≤ 1048576) : (redF xs).1.length ≤ 1048576 := by
  unfold redF
  split
  · have := redL_len xs xs.length; simp; omega
  · simp
def GivesI2 (w : World) (r : List Int × Int) (e : Ending) (w' : World) : Prop := ∃ v, e = .returned (.tuple #[v, .int .i64 r.2]) ∧ OwnI w' w.heap.size v r.1 ∧ Grew w w'

theorem implRed_c (v : Value) (xs : List Tn) (w : World) (h : Tms w v xs) (hfit : FitsT xs) (hn : xs.length ≤ 1048576) :
    Calls Tryz.prog 40 #[v] w (GivesI2 w (redF xs)) := by
  have HI := fun W (hW : Grew w W) => isTerm_c v xs W (h.grew hW) hfit hn
  have HR := fun W (hW : Grew w W) => redexes_c v xs W (h.grew hW) hn
  unfold GivesI2 redF
  obtain ⟨A, c, rfl⟩ := tms_slice h
  cases hb : tmB xs with
  | false =>
    rw [hb] at HI
    rw [if_neg (by simp)]
    replace HI := Lib.hid HI
    replace HR := Lib.hid HR
    clear h hfit hb
    generalize xs.length = n at *
    go_enter Tryz.func40, Tryz.ntmps40
    go_wp2_with fail
    refine (HI.out _ (Grew.refl _)).mono ?_
    rintro e w1 ⟨rfl, hg1⟩
    go_wp2_with fail
    go_ret2
    exact ⟨.slice none 0 0, rfl, OwnI.nil_ _ _, hg1⟩
  | true =>
    rw [hb] at HI
    rw [if_pos rfl]
    replace HI := Lib.hid HI
    clear h hfit hb
    generalize redL xs xs.length = L at *
    replace HR := Lib.hid HR
    generalize xs.length = n at *
    go_enter Tryz.func40, Tryz.ntmps40
    go_wp2_with fail
    refine (HI.out _ (Grew.refl _)).mono ?_
    rintro e w1 ⟨rfl, hg1⟩
    go_wp2_with fail
    refine (HR.out _ hg1).mono ?_
    rintro e w2 ⟨u, rfl, ho, hg2⟩
    go_wp2_with fail
    go_ret2
    exact ⟨_, rfl, ho.base hg1.size, hg1.trans hg2⟩

theorem specRed_c (v : Value) (xs : List Tn) (w : World) (h : Tms w v xs) (hfit : FitsT xs) (hn : xs.length ≤ 1048576) :
    Calls Tryz.prog 41 #[v] w (GivesI2 w (redF xs)) := by
  have HI := fun W (hW : Grew w W) => l26Is_c v xs W (h.grew hW) hfit hn
  have HR := fun W (hW : Grew w W) => l26Redexes_c v xs W (h.grew hW) hn
  unfold GivesI2 redF
  obtain ⟨A, c, rfl⟩ := tms_slice h
  cases hb : tmB xs with
  | false =>
    rw [hb] at HI
    rw [if_neg (by simp)]
    replace HI := Lib.hid HI
    replace HR := Lib.hid HR
    clear h hfit hb
    generalize xs.length = n at *
    go_enter Tryz.func41, Tryz.ntmps41
    go_wp2_with fail
    refine (HI.out _ (Grew.refl _)).mono ?_
    rintro e w1 ⟨rfl, hg1⟩
    go_wp2_with fail
    go_ret2
    exact ⟨.slice none 0 0, rfl, OwnI.nil_ _ _, hg1⟩
  | true =>
    rw [hb] at HI
    rw [if_pos rfl]
    replace HI := Lib.hid HI
    clear h hfit hb
    generalize redL xs xs.length = L at *
    replace HR := Lib.hid HR
    generalize xs.length = n at *
    go_enter Tryz.func41, Tryz.ntmps41
    go_wp2_with fail
    refine (HI.out _ (Grew.refl _)).mono ?_
    rintro e w1 ⟨rfl, hg1⟩
    go_wp2_with fail
    refine (HR.out _ hg1).mono ?_
    rintro e w2 ⟨u, rfl, ho, hg2⟩
    go_wp2_with fail
    go_ret2
    exact ⟨_, rfl, ho.base hg1.size, hg1.trans hg2⟩
end Go.Proofs.YthofkdpmgjkgkaaGreat

/- Rows of slices of nodes of the call's own: an append of one slice. -/
namespace Go.Proofs.YthofkdpmgjkgkaaGreat
open Go.RowKit
open Fm (Nd)

/-- A row of slices of the call's own. -/
def OwnV (w : World) (B : Nat) (v : Value) (us : List Value) : Prop := w.ownsRow B 101 1 v us.length us

theorem own_app {w w' : World} {B B' : Nat} {u v : Value} {xs : List Nd} {us : List Value} (h : Own w B u xs) (hv : OwnV w B' v us) (hg : w.grownBy w' v.ownBlock) : Own w' B u xs := by
  rcases hv.2 with ⟨rfl, _⟩ | ⟨g, cap, cur, rfl, _, hh, _⟩
  · exact own_grew h (by
      have hg' : w.grownBy w' none := hg
      exact ⟨hg'.os, hg'.tape, hg'.output, hg'.size, fun i hi => hg'.block i hi (by simp)⟩)
  · exact own_only h (show Only g w w' from hg) (own_ne h hh (by decide))

theorem infoSl : (Tryz.prog.info? 101).map (fun i => (i.zero, i.size, i.bytes)) = some (some (.slice none 0 0), 1, 24) := by kernel_rfl

theorem wpList_appV {ops : Array Oper} {rest : List Oper} {o : Oper} {a : Act} {Q : Exit → Act → World → Prop} {w w0 : World} (s x : Operand) (hgd : o.guard = none)
    (ho : o.op = .call { callee := .builtin .append, args := #[s, x], argTypes := #[179, 179] })
    (v : Value) (us : List Value) (hs : a.eval s = v) (hown : OwnV w w0.heap.size v us) (hg : Grew w0 w) (vx u : Value) (hx : a.eval x = vx) (hr : Rd w 1 vx 1 [u]) (h1 : u.oneCell' = true) (hn : us.length ≤ 1048576)
    (h : ∀ v' w', OwnV w' w0.heap.size v' (us ++ [u]) → Grew w0 w' → w.grownBy w' v.ownBlock → wpList Tryz.prog ops Q rest (a.put o.dst v') w') : wpList Tryz.prog ops Q (o :: rest) a w := by
  obtain ⟨i0, hi0, hz0, hz1, hz2⟩ := info_parts infoSl
  refine wpList_append_rd w hgd s x _ ho w0.heap.size 101 i0 _ 1 24 Tryz.underlying179 hi0 hz0 hz1 hz2 rfl (by omega) v us.length us hs hown vx 1 [u] hx hr (by simpa using h1) (by unfold maxLen; omega) (by omega) hg.size ?_
  intro v' w' h1 h2 h3
  refine h v' w' ?_ (hg.grown h2 fun k hk => (hown.lt k hk).1) h2
  unfold OwnV
  rw [List.length_append]
  exact h1

theorem own_one {w : World} {B : Nat} {u : Value} {xs : List Nd} (h : Own w B u xs) : u.oneCell' = true := by
  obtain ⟨A, c, rfl⟩ := nodes_slice h.nodes
  rfl
theorem rd_lit (w : World) (u : Value) (t : TypeId) : Rd (w.alloc (.cells #[u] t)) 1 (.slice (some ⟨w.heap.size, 0, none⟩) 1 1) 1 [u] := by
  refine ⟨rfl, by omega, .inr ⟨w.heap.size, 0, 1, rfl, by omega, by omega, by simp, fun j x hx => ?_⟩⟩
  have hj : j = 0 := by
    have := (List.getElem?_eq_some_iff.1 hx).1
    simp at this
    omega
  subst hj
  simp at hx
  subst hx
  simp

theorem own_empty (w : World) : OwnV (w.alloc (.cells #[] 101)) w.heap.size (.slice (some ⟨w.heap.size, 0, none⟩) 0 0) [] :=
  World.ownsRow_lit (e := 101) (size := 1) w #[] 0 (Nat.le_refl _) (by omega) rfl
end Go.Proofs.YthofkdpmgjkgkaaGreat

/- The parts of a term in memory: inner of the program, l26Part of the reference. -/
namespace Go.Proofs.YthofkdpmgjkgkaaGreat
open Go.RowKit
open Tr (Tm)

/-- A node of a term. -/
def GoodN (x : Tn) : Prop := tnB x.1 x.2.1 x.2.2 = true
/-- A term whose nodes are all good. -/
def Good (t : Tm) : Prop := Tr.wf GoodN t

theorem enc_at0 (t : Tm) : tk (Tr.enc t) 0 = (Tr.hd t).1 ∧ tn (Tr.enc t) 0 = (Tr.hd t).2.1 ∧ tt (Tr.enc t) 0 = (Tr.hd t).2.2 := by
  rw [Tr.enc_kids]; exact ⟨rfl, rfl, rfl⟩
theorem tms_head {w : World} {v : Value} {t : Tm} (h : Tms w v (Tr.enc t)) : ∃ b o c, v = .slice (some ⟨b, o, none⟩) (Tr.enc t).length c ∧ (Tr.enc t).length ≤ c ∧ c ≤ 9223372036854775807 ∧ b < w.heap.size ∧
    ∀ W, Grew w W → W.cell? ⟨b, o, none⟩ = some (.int .i64 (Tr.hd t).1) ∧ W.cell? ⟨b, o + 1, none⟩ = some (.int .i64 (Tr.hd t).2.1) ∧ W.cell? ⟨b, o + 2, none⟩ = some (.string (Tr.hd t).2.2) := by
  have hpos := Tr.enc_pos t
  rcases h.open_ with ⟨_, h0⟩ | ⟨b, o, c, rfl, hc, hm, hb, hf⟩
  · rw [h0] at hpos; simp at hpos
  · obtain ⟨e0, e1, e2⟩ := enc_at0 t
    refine ⟨b, o, c, rfl, hc, hm, hb, fun W hW => ?_⟩
    have h0 := hf 0 (by omega) W hW
    rw [e0, e1, e2] at h0
    simpa using h0

/-- The parts of a term, as a slice of slices. -/
def PartsT (w : World) (v : Value) (t : Tm) : Prop :=
  (v = .slice none 0 0 ∧ Tr.kids t = []) ∨ ∃ b o c, v = .slice (some ⟨b, o, none⟩) (Tr.kids t).length c ∧ (Tr.kids t).length ≤ c ∧ c ≤ 9223372036854775807 ∧ b < w.heap.size ∧
    ∀ i, i < (Tr.kids t).length → ∃ u, w.cell? ⟨b, o + i, none⟩ = some u ∧ Tms w u (Tr.enc (Tr.kid t i))
theorem PartsT.grew {w w' : World} {v : Value} {t : Tm} (h : PartsT w v t) (hg : Grew w w') : PartsT w' v t := by
  rcases h with h | ⟨b, o, c, h1, h2, h3, h4, h5⟩
  · exact .inl h
  · exact .inr ⟨b, o, c, h1, h2, h3, Nat.lt_of_lt_of_le h4 hg.size, fun i hi => by
      obtain ⟨u, h6, h7⟩ := h5 i hi
      exact ⟨u, (hg.cell (p := ⟨b, o + i, none⟩) h4).trans h6, h7.grew hg⟩⟩

/-- A row of slices of the call's own. -/
def OwnVT (w : World) (B : Nat) (v : Value) (us : List Value) : Prop := w.ownsRow B 24 1 v us.length us
theorem infoSlT : (Tryz.prog.info? 24).map (fun i => (i.zero, i.size, i.bytes)) = some (some (.slice none 0 0), 1, 24) := by kernel_rfl
theorem wpList_appVT {ops : Array Oper} {rest : List Oper} {o : Oper} {a : Act} {Q : Exit → Act → World → Prop} {w w0 : World} (s x : Operand) (hgd : o.guard = none)
    (ho : o.op = .call { callee := .builtin .append, args := #[s, x], argTypes := #[110, 110] })
    (v : Value) (us : List Value) (hs : a.eval s = v) (hown : OwnVT w w0.heap.size v us) (hg : Grew w0 w) (vx u : Value) (hx : a.eval x = vx) (hr : Rd w 1 vx 1 [u]) (h1 : u.oneCell' = true) (hn : us.length ≤ 1048576)
    (h : ∀ v' w', OwnVT w' w0.heap.size v' (us ++ [u]) → Grew w0 w' → w.grownBy w' v.ownBlock → wpList Tryz.prog ops Q rest (a.put o.dst v') w') : wpList Tryz.prog ops Q (o :: rest) a w := by
  obtain ⟨i0, hi0, hz0, hz1, hz2⟩ := info_parts infoSlT
  refine wpList_append_rd w hgd s x _ ho w0.heap.size 24 i0 _ 1 24 Tryz.underlying110 hi0 hz0 hz1 hz2 rfl (by omega) v us.length us hs hown vx 1 [u] hx hr (by simpa using h1) (by unfold maxLen; omega) (by omega) hg.size ?_
  intro v' w' h1 h2 h3
  refine h v' w' ?_ (hg.grown h2 fun k hk => (hown.lt k hk).1) h2
  unfold OwnVT
  rw [List.length_append]
  exact h1

/-- The first slices of the parts, each read in the world of the entry. -/
def HoldT (w : World) (t : Tm) (us : List Value) : Prop := ∀ i u, us[i]? = some u → Tms w u (Tr.enc (Tr.kid t i))
theorem HoldT.snoc {w : World} {t : Tm} {us : List Value} {u : Value} (h : HoldT w t us) (hu : Tms w u (Tr.enc (Tr.kid t us.length))) : HoldT w t (us ++ [u]) := by
  intro i x hx
  rcases Nat.lt_or_ge i us.length with hk | hk
  · rw [List.getElem?_append_left hk] at hx
    exact h i x hx
  · rw [List.getElem?_append_right hk] at hx
    have hi : i - us.length = 0 := by
      have := (List.getElem?_eq_some_iff.1 hx).1
      simp at this
      omega
    obtain rfl : i = us.length := by omega
    rw [hi] at hx
    simp at hx
    subst hx
    exact hu
theorem parts_of {w w' : World} {B : Nat} {v : Value} {t : Tm} {us : List Value} (hv : OwnVT w' B v us) (hl : us.length = (Tr.kids t).length) (h : HoldT w t us) (hg : Grew w w') : PartsT w' v t := by
  obtain ⟨_, _, h3⟩ := Rd.of_own hv
  rcases h3 with ⟨h4, h5⟩ | ⟨b, o, c, h4, h5, h6, h7, h8⟩
  · exact .inl ⟨h4, List.eq_nil_of_length_eq_zero (by omega)⟩
  · refine .inr ⟨b, o, c, by rw [← hl]; exact h4, by omega, h6, h7, fun i hi => ?_⟩
    have hi' : i < us.length := by omega
    have hx := List.getElem?_eq_getElem hi'
    exact ⟨us[i], h8 i _ hx, (h i _ hx).grew hg⟩
theorem tms_one {w : World} {u : Value} {xs : List Tn} (h : Tms w u xs) : u.oneCell' = true := by
  obtain ⟨A, c, rfl⟩ := tms_slice h
  rfl

theorem inner_o (v : Value) (t : Tm) (w0 w : World) (h0 : Tms w0 v (Tr.enc t)) (hw0 : Grew w0 w) (hg : Good t) (hn : (Tr.enc t).length ≤ 1048576) :
    Calls Tryz.prog 105 #[v] w fun e w' => ∃ u us, e = .returned u ∧ OwnVT w' w.heap.size u us ∧ us.length = (Tr.kids t).length ∧ HoldT w0 t us ∧ Grew w w' := by
  have h := h0.grew hw0
  obtain ⟨b, o, c, rfl, hc, hm, hb, hf⟩ := tms_head h
  have hkl := Tr.kids_len hg
  have k1 := (hf _ (Grew.refl w)).1
  have hpos := Tr.enc_pos t
  have HE := Lib.hid (fun i (hi : i < (Tr.kids t).length) W (hW : Grew w W) => by
    have h1 := termEnd_c _ (Tr.enc t) (Tr.off t i) W (h.grew hW) hn (by have := Tr.off_end hi; omega)
    rw [Tr.pend_kid hg hi, Int.natCast_add] at h1
    exact h1)
  have HL := Lib.hid (fun i (hi : i < (Tr.kids t).length) => (⟨Tr.off_end hi, Tr.off_next hi, Tr.enc_pos (Tr.kid t i)⟩ : Tr.off t i + (Tr.enc (Tr.kid t i)).length ≤ (Tr.enc t).length ∧ Tr.off t (i + 1) = Tr.off t i + (Tr.enc (Tr.kid t i)).length ∧ 1 ≤ (Tr.enc (Tr.kid t i)).length))
  have HS := Lib.hid (fun i (hi : i < (Tr.kids t).length) (c' : Nat) (hc1 : (Tr.enc (Tr.kid t i)).length ≤ c') (hc2 : c' ≤ 9223372036854775807) => by
    have h1 := h0.sub (Tr.off t i) (Tr.enc (Tr.kid t i)).length c' (Tr.off_end hi) hc1 hc2
    rw [Tr.take_kid hi] at h1
    exact h1)
  have har := Tr.ar_le (Tr.hd t).1
  have hz := Tr.off_zero t
  clear hf h hg h0 hw0
  generalize hN : (Tr.enc t).length = n at *
  clear hN
  generalize hM : (Tr.kids t).length = m at *
  have HTP := Lib.hid (fun w => termParts_c (Tr.hd t).1 w)
  generalize Tr.ar (Tr.hd t).1 = ar at *
  subst hkl
  go_enter Tryz.func105, Tryz.ntmps105
  go_wp2_with fail
  refine (HTP.out _).mono ?_
  rintro e w1 ⟨rfl, hg1⟩
  go_wp2_with fail
  go_loopw [3, 4, 5, 11] (fun vv x _ i wr => ∃ (j : Nat) (us : List Value), j ≤ m ∧ us.length = j ∧ i = .int .i64 j ∧ x = .int .i64 (Tr.off t j) ∧ OwnVT wr w.heap.size vv us ∧ Grew w wr ∧ Hid (HoldT w0 t us)) (fun _ _ _ i _ => m - (intOf i).toNat)
  case atStart => exact ⟨0, [], Nat.zero_le _, rfl, rfl, by rw [hz]; rfl, World.ownsRow_nil w1 _ _ 1, hg1, fun i u hi => absurd hi (by simp)⟩
  case round =>
    obtain ⟨j, us, hj, hu, rfl, rfl, hO, hB, HH⟩ := hrel
    by_cases hlt : j < m
    · obtain ⟨hl1, hl2, hl3⟩ := HL.out j (by omega)
      have hE := Lib.hid (HE.out j (by omega))
      have hS := Lib.hid (HS.out j (by omega))
      have hsnoc := Lib.hid (fun u (hu' : Tms w0 u (Tr.enc (Tr.kid t j))) => HH.out.snoc (u := u) (by rw [hu]; exact hu'))
      have HL2 := Lib.hid hl2
      clear hl2
      generalize Tr.enc (Tr.kid t j) = X at *
      generalize Tr.off t j = oj at *
      have hq0 : (0 : Int) ≤ (oj : Int) := by omega
      have hq1 : (oj : Int) ≤ (oj : Int) + (X.length : Int) := by omega
      have hq2 : (oj : Int) + (X.length : Int) ≤ (c : Int) := by omega
      go_wp2_with fail
      refine (hE.out _ hB).mono ?_
      rintro e w2 ⟨rfl, hg2⟩
      have hB2 := hB.trans hg2
      have hO1 : OwnVT (w2.alloc (.cells #[.slice (some ⟨b, o + oj * 3, none⟩) X.length (c - oj)] 24)) w.heap.size u3 us := own_grew hO (hg2.trans ((Grew.refl w2).alloc _))
      have hT := Lib.hid (hS.out (c - oj) (by omega) (by omega))
      go_wp2_with (first | (at_builtin; refine wpList_appVT (w0 := w) _ _ rfl rfl _ us rfl hO1 (hB2.alloc _) _ _ rfl (rd_lit _ _ _) rfl (by omega) ?_; intro v2 w3 hown2 hg3 hgr3))
      go_roundw
      case rel => exact ⟨j + 1, _, by omega, by rw [List.length_append, hu]; rfl, by go_num, by rw [HL2.out]; go_num, hown2, hg3, hsnoc.out _ hT.out⟩
      case measure => simp [intOf]; omega
    · obtain rfl : j = m := by omega
      go_wp2_with fail
      go_ret
      exact ⟨_, _, rfl, hO, by omega, HH.out, hB⟩
theorem inner_c (v : Value) (t : Tm) (w : World) (h : Tms w v (Tr.enc t)) (hg : Good t) (hn : (Tr.enc t).length ≤ 1048576) :
    Calls Tryz.prog 105 #[v] w fun e w' => ∃ u, e = .returned u ∧ PartsT w' u t ∧ Grew w w' :=
  (inner_o v t w w h (Grew.refl w) hg hn).mono fun _ _ ⟨u, _, h1, h2, h3, h4, h5⟩ => ⟨u, h1, parts_of h2 h3 h4 h5, h5⟩
theorem OwnVT.cell {w : World} {B g n c : Nat} {us : List Value} (h : OwnVT w B (.slice (some ⟨g, 0, none⟩) n c) us) {i : Nat} {x : Value} (hx : us[i]? = some x) : w.cell? ⟨g, i, none⟩ = some x := by
  obtain ⟨_, _, h3⟩ := Rd.of_own h
  rcases h3 with ⟨h4, _⟩ | ⟨b, o, c', h4, _, _, _, h8⟩
  · cases h4
  · obtain ⟨⟨rfl, rfl⟩, _⟩ : (g = b ∧ 0 = o) ∧ _ := by simpa using h4
    have := h8 i x hx
    rwa [Nat.zero_add] at this
theorem OwnVT.open_ {w : World} {B : Nat} {v : Value} {us : List Value} (h : OwnVT w B v us) (h0 : 0 < us.length) : ∃ g c, v = .slice (some ⟨g, 0, none⟩) us.length c ∧ us.length ≤ c ∧ c ≤ 9223372036854775807 ∧ B ≤ g ∧ g < w.heap.size := by
  rcases h.2 with ⟨_, h5⟩ | ⟨g, cap, cur, rfl, hb, hg, hnc, hcm, _, _⟩
  · omega
  · exact ⟨g, cap, rfl, hnc, hcm, hb, (Array.getElem?_eq_some_iff.1 hg).1⟩
/-- An append onto a row of nodes leaves the row of slices. -/
theorem ownVT_app {w w' : World} {B B' : Nat} {u v : Value} {us : List Value} {xs : List Tn} (h : OwnVT w B u us) (hv : OwnT w B' v xs) (hg : w.grownBy w' v.ownBlock) : OwnVT w' B u us := by
  rcases hv.2 with ⟨rfl, _⟩ | ⟨g, cap, cur, rfl, _, hh, _⟩
  · exact own_grew h (by
      have hg' : w.grownBy w' none := hg
      exact ⟨hg'.os, hg'.tape, hg'.output, hg'.size, fun i hi => hg'.block i hi (by simp)⟩)
  · exact own_only h (show Only g w w' from hg) (own_ne h hh (by decide))
end Go.Proofs.YthofkdpmgjkgkaaGreat

/- A redex of a term contracted. No program is in sight. -/
namespace Go.Proofs.YthofkdpmgjkgkaaGreat
open Go.RowKit
open Tr (Tm)

/-- What a redex that is read with n variables is contracted to. -/
def ctr (t : Tm) (n : Int) : List Tn :=
  match t with
  | .t2 _ f u => Tr.mapN (putN n (Tr.enc u)) (Tr.kid f 0) (n + 1)
  | .t3 _ f a b => Tr.mapN (putN n (Tr.enc (Tr.kid f 0))) (if (Tr.hd f).1 = 6 then a else b) (n + 1)
  | .t1 x f => Tr.enc (Tr.kid f (if x.1 = 4 then 0 else 1))
  | .t0 x => [x]
/-- One part, contracted where the index lies in it. -/
def ctAt : Tm → Int → Nat → List Tn
  | t, n, 0 => ctr t n
  | .t0 x, _, _ + 1 => [x]
  | .t1 x a, n, i + 1 => x :: (if i < (Tr.enc a).length then ctAt a (n + Tr.bd x.1 0) i else Tr.enc a)
  | .t2 x a b, n, i + 1 => x :: ((if i < (Tr.enc a).length then ctAt a (n + Tr.bd x.1 0) i else Tr.enc a) ++ (if (Tr.enc a).length ≤ i ∧ i < (Tr.enc a).length + (Tr.enc b).length then ctAt b (n + Tr.bd x.1 1) (i - (Tr.enc a).length) else Tr.enc b))
  | .t3 x a b c, n, i + 1 => x :: ((if i < (Tr.enc a).length then ctAt a (n + Tr.bd x.1 0) i else Tr.enc a) ++ ((if (Tr.enc a).length ≤ i ∧ i < (Tr.enc a).length + (Tr.enc b).length then ctAt b (n + Tr.bd x.1 1) (i - (Tr.enc a).length) else Tr.enc b) ++ (if (Tr.enc a).length + (Tr.enc b).length ≤ i ∧ i < (Tr.enc a).length + (Tr.enc b).length + (Tr.enc c).length then ctAt c (n + Tr.bd x.1 2) (i - ((Tr.enc a).length + (Tr.enc b).length)) else Tr.enc c)))
/-- Part j, contracted if the index lies in it. -/
def ctP (t : Tm) (n : Int) (i j : Nat) : List Tn := if Tr.off t j ≤ i ∧ i < Tr.off t j + (Tr.enc (Tr.kid t j)).length then ctAt (Tr.kid t j) (n + Tr.bd (Tr.hd t).1 j) (i - Tr.off t j) else Tr.enc (Tr.kid t j)
/-- The first j parts of a term. -/
def ctL (t : Tm) (n : Int) (i : Nat) : Nat → List Tn
  | 0 => [Tr.hd t]
  | j + 1 => ctL t n i j ++ ctP t n i j
theorem ctAt_zero (t : Tm) (n : Int) : ctAt t n 0 = ctr t n := by cases t <;> rfl
theorem selEq {P Q : Prop} [Decidable P] [Decidable Q] {f : Nat → List Tn} {i j : Nat} {e : List Tn} (h : Q ↔ P) (hij : P → j = i) : (if Q then f j else e) = (if P then f i else e) := by
  by_cases hP : P
  · rw [if_pos hP, if_pos (h.mpr hP), hij hP]
  · rw [if_neg hP, if_neg (fun q => hP (h.mp q))]
theorem ctAt_kids {t : Tm} {n : Int} {i : Nat} (hi : 0 < i) : ctAt t n i = ctL t n i (Tr.kids t).length := by
  obtain ⟨k, rfl⟩ : ∃ k, i = k + 1 := ⟨i - 1, by omega⟩
  cases t with
  | t0 x => rfl
  | t1 x a =>
    have e0 : Tr.off (.t1 x a) 0 = 1 := Tr.off_zero _
    have p0 : ctP (.t1 x a) n (k + 1) 0 = (if k < (Tr.enc a).length then ctAt a (n + Tr.bd x.1 0) k else Tr.enc a) := by
      refine selEq (f := ctAt a (n + Tr.bd x.1 0)) ?_ ?_
      · rw [e0]; show _ ∧ _ < 1 + (Tr.enc a).length ↔ _; omega
      · intro _; rw [e0]; omega
    have hL : ctL (.t1 x a) n (k + 1) (Tr.kids (.t1 x a)).length = [x] ++ ctP (.t1 x a) n (k + 1) 0 := rfl
    rw [hL, p0]; rfl
  | t2 x a b =>
    have e0 : Tr.off (.t2 x a b) 0 = 1 := Tr.off_zero _
    have e1 : Tr.off (.t2 x a b) 1 = 1 + (Tr.enc a).length := by simp [Tr.off, Tr.kids]
    have p0 : ctP (.t2 x a b) n (k + 1) 0 = (if k < (Tr.enc a).length then ctAt a (n + Tr.bd x.1 0) k else Tr.enc a) := by
      refine selEq (f := ctAt a (n + Tr.bd x.1 0)) ?_ ?_
      · rw [e0]; show _ ∧ _ < 1 + (Tr.enc a).length ↔ _; omega
      · intro _; rw [e0]; omega
    have p1 : ctP (.t2 x a b) n (k + 1) 1 = (if (Tr.enc a).length ≤ k ∧ k < (Tr.enc a).length + (Tr.enc b).length then ctAt b (n + Tr.bd x.1 1) (k - (Tr.enc a).length) else Tr.enc b) := by
      refine selEq (f := ctAt b (n + Tr.bd x.1 1)) ?_ ?_
      · rw [e1]; show _ ∧ _ < 1 + (Tr.enc a).length + (Tr.enc b).length ↔ _; omega
      · intro _; rw [e1]; omega
    have hL : ctL (.t2 x a b) n (k + 1) (Tr.kids (.t2 x a b)).length = ([x] ++ ctP (.t2 x a b) n (k + 1) 0) ++ ctP (.t2 x a b) n (k + 1) 1 := rfl
    rw [hL, p0, p1, List.append_assoc]; rfl
  | t3 x a b c =>
    have e0 : Tr.off (.t3 x a b c) 0 = 1 := Tr.off_zero _
    have e1 : Tr.off (.t3 x a b c) 1 = 1 + (Tr.enc a).length := by simp [Tr.off, Tr.kids]
    have e2 : Tr.off (.t3 x a b c) 2 = 1 + ((Tr.enc a).length + (Tr.enc b).length) := by simp [Tr.off, Tr.kids]
    have p0 : ctP (.t3 x a b c) n (k + 1) 0 = (if k < (Tr.enc a).length then ctAt a (n + Tr.bd x.1 0) k else Tr.enc a) := by
      refine selEq (f := ctAt a (n + Tr.bd x.1 0)) ?_ ?_
      · rw [e0]; show _ ∧ _ < 1 + (Tr.enc a).length ↔ _; omega
      · intro _; rw [e0]; omega
    have p1 : ctP (.t3 x a b c) n (k + 1) 1 = (if (Tr.enc a).length ≤ k ∧ k < (Tr.enc a).length + (Tr.enc b).length then ctAt b (n + Tr.bd x.1 1) (k - (Tr.enc a).length) else Tr.enc b) := by
      refine selEq (f := ctAt b (n + Tr.bd x.1 1)) ?_ ?_
      · rw [e1]; show _ ∧ _ < 1 + (Tr.enc a).length + (Tr.enc b).length ↔ _; omega
      · intro _; rw [e1]; omega
    have p2 : ctP (.t3 x a b c) n (k + 1) 2 = (if (Tr.enc a).length + (Tr.enc b).length ≤ k ∧ k < (Tr.enc a).length + (Tr.enc b).length + (Tr.enc c).length then ctAt c (n + Tr.bd x.1 2) (k - ((Tr.enc a).length + (Tr.enc b).length)) else Tr.enc c) := by
      refine selEq (f := ctAt c (n + Tr.bd x.1 2)) ?_ ?_
      · rw [e2]; show _ ∧ _ < 1 + ((Tr.enc a).length + (Tr.enc b).length) + (Tr.enc c).length ↔ _; omega
      · intro _; rw [e2]; omega
    have hL : ctL (.t3 x a b c) n (k + 1) (Tr.kids (.t3 x a b c)).length = (([x] ++ ctP (.t3 x a b c) n (k + 1) 0) ++ ctP (.t3 x a b c) n (k + 1) 1) ++ ctP (.t3 x a b c) n (k + 1) 2 := rfl
    rw [hL, p0, p1, p2, List.append_assoc, List.append_assoc]; rfl

theorem hd_at (f : Tm) : tk (Tr.enc f) 0 = (Tr.hd f).1 := (enc_at0 f).1
/-- The last node of a term has no parts. -/
theorem last_leaf {p : Tn → Prop} : ∀ t : Tm, Tr.wf p t → Tr.ar (tk (Tr.enc t) ((Tr.enc t).length - 1)) = 0 := by
  have happ : ∀ (xs ys : List Tn), 1 ≤ ys.length → tk (xs ++ ys) ((xs ++ ys).length - 1) = tk ys (ys.length - 1) := by
    intro xs ys h
    simp only [tk, List.getD, List.length_append]
    rw [List.getElem?_append_right (by omega), show xs.length + ys.length - 1 - xs.length = ys.length - 1 by omega]
  intro t
  induction t with
  | t0 x => intro h; exact h.1
  | t1 x a ha =>
    intro h
    have := happ [x] (Tr.enc a) (Tr.enc_pos a)
    simp only [List.singleton_append] at this
    simp only [Tr.enc]
    rw [this]
    exact ha h.2
  | t2 x a b ha hb =>
    intro h
    have := happ (x :: Tr.enc a) (Tr.enc b) (Tr.enc_pos b)
    simp only [List.cons_append] at this
    simp only [Tr.enc]
    rw [this]
    exact hb h.2.2
  | t3 x a b c ha hb hc =>
    intro h
    have := happ (x :: (Tr.enc a ++ Tr.enc b)) (Tr.enc c) (Tr.enc_pos c)
    simp only [List.cons_append, List.append_assoc] at this
    simp only [Tr.enc]
    rw [this]
    exact hc h.2.2.2
theorem rdx_ar {a b : Int} (h : rdx a b = true) : Tr.ar a ≠ 0 := by
  unfold rdx at h
  split at h
  · rename_i h2
    have : a = 2 := by simpa using h2
    subst this; decide
  · split at h
    · rename_i h4
      have : a = 4 ∨ a = 5 := by simpa using h4
      rcases this with rfl | rfl <;> decide
    · split at h
      · rename_i h8
        have : a = 8 := by simpa using h8
        subst this; decide
      · cases h
theorem tk_part {t : Tm} {j i : Nat} (hj : j < (Tr.kids t).length) (hi : i < (Tr.enc (Tr.kid t j)).length) : tk (Tr.enc t) (Tr.off t j + i) = tk (Tr.enc (Tr.kid t j)) i := by
  have h := Tr.drop_part hj
  rw [Tr.kid_eq hj] at h
  have h1 : (Tr.enc t)[Tr.off t j + i]? = (Tr.enc (Tr.kid t j))[i]? := by
    rw [← List.getElem?_drop, h, List.getElem?_append_left hi]
  simp only [tk, List.getD, h1]
/-- A redex that begins in a part lies in it. -/
theorem rdx_part {p : Tn → Prop} {t : Tm} {i j : Nat} (hw : Tr.wf p t) (hr : rdxAt (Tr.enc t) i = true) (hj : j < (Tr.kids t).length) (h1 : Tr.off t j ≤ i) (h2 : i < Tr.off t j + (Tr.enc (Tr.kid t j)).length) : rdxAt (Tr.enc (Tr.kid t j)) (i - Tr.off t j) = true := by
  unfold rdxAt at hr ⊢
  simp only [Bool.and_eq_true, decide_eq_true_eq] at hr ⊢
  obtain ⟨hr1, hr2⟩ := hr
  obtain ⟨k, rfl⟩ : ∃ k, i = Tr.off t j + k := ⟨i - Tr.off t j, by omega⟩
  rw [Nat.add_sub_cancel_left]
  have hk : k < (Tr.enc (Tr.kid t j)).length := by omega
  have hwk := Tr.kids_wf hw _ (Tr.kid_mem hj)
  have hlt : k + 1 < (Tr.enc (Tr.kid t j)).length := by
    rcases Nat.lt_or_ge (k + 1) (Tr.enc (Tr.kid t j)).length with h | h
    · exact h
    · have e : k = (Tr.enc (Tr.kid t j)).length - 1 := by omega
      have := last_leaf _ hwk
      rw [← e] at this
      rw [tk_part hj hk] at hr2
      exact absurd this (rdx_ar hr2)
  refine ⟨hlt, ?_⟩
  rw [tk_part hj hk, Nat.add_assoc, tk_part hj hlt] at hr2
  exact hr2
/-- The shape of a term that is a redex. -/
theorem rdx_shape {t : Tm} (hg : Good t) (hr : rdxAt (Tr.enc t) 0 = true) :
    (∃ x y b u, t = .t2 x (.t1 y b) u ∧ x.1 = 2 ∧ y.1 = 1) ∨ (∃ x y a b, t = .t1 x (.t2 y a b) ∧ (x.1 = 4 ∨ x.1 = 5) ∧ y.1 = 3) ∨ (∃ x y s a b, t = .t3 x (.t1 y s) a b ∧ x.1 = 8 ∧ (y.1 = 6 ∨ y.1 = 7)) := by
  unfold rdxAt at hr
  simp only [Bool.and_eq_true, decide_eq_true_eq] at hr
  obtain ⟨h1, h2⟩ := hr
  have hkinds : ∀ (a b : Int), rdx a b = true → (a = 2 ∧ b = 1) ∨ ((a = 4 ∨ a = 5) ∧ b = 3) ∨ (a = 8 ∧ (b = 6 ∨ b = 7)) := by
    intro a b h
    unfold rdx at h
    split at h
    · rename_i h0; exact .inl ⟨by simpa using h0, by simpa using h⟩
    · split at h
      · rename_i h0; exact .inr (.inl ⟨by simpa using h0, by simpa using h⟩)
      · split at h
        · rename_i h0; exact .inr (.inr ⟨by simpa using h0, by simpa using h⟩)
        · cases h
  cases t with
  | t0 x => simp [Tr.enc] at h1
  | t1 x f =>
    have hf := hd_at f
    have e1 : tk (Tr.enc (.t1 x f)) 0 = x.1 := rfl
    have e2 : tk (Tr.enc (.t1 x f)) (0 + 1) = tk (Tr.enc f) 0 := rfl
    rw [e1, e2, hf] at h2
    have ha : Tr.ar x.1 = 1 := hg.1.1
    have hgf : Good f := hg.2
    rcases hkinds _ _ h2 with ⟨a1, a2⟩ | ⟨a1, a2⟩ | ⟨a1, a2⟩
    · rw [a1] at ha; exact absurd ha (by decide)
    · cases f with
      | t0 y => have hy : Tr.ar y.1 = 0 := hgf.1; simp only [Tr.hd] at a2; rw [a2] at hy; exact absurd hy (by decide)
      | t1 y _ => have hy : Tr.ar y.1 = 1 := hgf.1.1; simp only [Tr.hd] at a2; rw [a2] at hy; exact absurd hy (by decide)
      | t2 y a b => exact .inr (.inl ⟨x, y, a, b, rfl, a1, a2⟩)
      | t3 y _ _ _ => have hy : Tr.ar y.1 = 3 := hgf.1.1; simp only [Tr.hd] at a2; rw [a2] at hy; exact absurd hy (by decide)
    · rw [a1] at ha; exact absurd ha (by decide)
  | t2 x f u =>
    have hf := hd_at f
    have e1 : tk (Tr.enc (.t2 x f u)) 0 = x.1 := rfl
    have e2 : tk (Tr.enc (.t2 x f u)) (0 + 1) = tk (Tr.enc f) 0 := by
      obtain ⟨r, hr⟩ := Tr.enc_hd f
      simp only [Tr.enc, hr]; rfl
    rw [e1, e2, hf] at h2
    have ha : Tr.ar x.1 = 2 := hg.1.1
    have hgf : Good f := hg.2.1
    rcases hkinds _ _ h2 with ⟨a1, a2⟩ | ⟨a1, a2⟩ | ⟨a1, a2⟩
    · cases f with
      | t0 y => have hy : Tr.ar y.1 = 0 := hgf.1; simp only [Tr.hd] at a2; rw [a2] at hy; exact absurd hy (by decide)
      | t1 y b => exact .inl ⟨x, y, b, u, rfl, a1, a2⟩
      | t2 y _ _ => have hy : Tr.ar y.1 = 2 := hgf.1.1; simp only [Tr.hd] at a2; rw [a2] at hy; exact absurd hy (by decide)
      | t3 y _ _ _ => have hy : Tr.ar y.1 = 3 := hgf.1.1; simp only [Tr.hd] at a2; rw [a2] at hy; exact absurd hy (by decide)
    · rcases a1 with a1 | a1 <;> rw [a1] at ha <;> exact absurd ha (by decide)
    · rw [a1] at ha; exact absurd ha (by decide)
  | t3 x f a b =>
    have hf := hd_at f
    have e1 : tk (Tr.enc (.t3 x f a b)) 0 = x.1 := rfl
    have e2 : tk (Tr.enc (.t3 x f a b)) (0 + 1) = tk (Tr.enc f) 0 := by
      obtain ⟨r, hr⟩ := Tr.enc_hd f
      simp only [Tr.enc, hr]; rfl
    rw [e1, e2, hf] at h2
    have ha : Tr.ar x.1 = 3 := hg.1.1
    have hgf : Good f := hg.2.1
    rcases hkinds _ _ h2 with ⟨a1, a2⟩ | ⟨a1, a2⟩ | ⟨a1, a2⟩
    · rw [a1] at ha; exact absurd ha (by decide)
    · rcases a1 with a1 | a1 <;> rw [a1] at ha <;> exact absurd ha (by decide)
    · cases f with
      | t0 y => have hy : Tr.ar y.1 = 0 := hgf.1; simp only [Tr.hd] at a2; rcases a2 with a2 | a2 <;> rw [a2] at hy <;> exact absurd hy (by decide)
      | t1 y s => exact .inr (.inr ⟨x, y, s, a, b, rfl, a1, a2⟩)
      | t2 y _ _ => have hy : Tr.ar y.1 = 2 := hgf.1.1; simp only [Tr.hd] at a2; rcases a2 with a2 | a2 <;> rw [a2] at hy <;> exact absurd hy (by decide)
      | t3 y _ _ _ => have hy : Tr.ar y.1 = 3 := hgf.1.1; simp only [Tr.hd] at a2; rcases a2 with a2 | a2 <;> rw [a2] at hy <;> exact absurd hy (by decide)
end Go.Proofs.YthofkdpmgjkgkaaGreat

/- FitsContext of both. -/
namespace Go.Proofs.YthofkdpmgjkgkaaGreat
open Go.RowKit
open Tr (Tm)

theorem good_kind {t : Tm} (h : Good t) : 0 ≤ (Tr.hd t).1 ∧ (Tr.hd t).1 ≤ 9 := by
  by_cases hk : 0 ≤ (Tr.hd t).1 ∧ (Tr.hd t).1 ≤ 9
  · exact hk
  · have h1 := Tr.hd_wf h
    unfold GoodN at h1
    rw [tnB_kind hk] at h1
    cases h1
theorem good_leaf {t : Tm} (h : Good t) : Tr.kids t = [] ↔ (Tr.hd t).1 = 0 := by
  have h1 := Tr.kids_len h
  have h2 := good_kind h
  constructor
  · intro h3
    rw [h3] at h1
    unfold Tr.ar at h1
    simp only [List.length_nil] at h1
    split at h1
    · omega
    · split at h1
      · omega
      · split at h1 <;> omega
  · intro h3
    rw [h3] at h1
    exact List.eq_nil_of_length_eq_zero (by rw [h1]; rfl)

theorem one_c (b : Bool) (w : World) : Calls Tryz.prog 137 #[.bool b] w fun e w' => e = .returned (.int .i64 (if b then 1 else 0)) ∧ Grew w w' := by
  cases b
  all_goals
    go_enter Tryz.func137, Tryz.ntmps137
    go_wp2_with fail
    go_ret
    exact ⟨rfl, Grew.refl _⟩
theorem bindsIn_c (k : Int) (i : Nat) (w : World) (hi : i ≤ 1048576) : Calls Tryz.prog 111 #[.int .i64 k, .int .i64 i] w fun e w' => e = .returned (.int .i64 (Tr.bd k i)) ∧ Grew w w' := by
  cases h1 : (k == 1) with
  | true =>
    have hv : Tr.bd k i = 1 := by unfold Tr.bd; rw [if_pos (.inl (by simpa using h1))]
    rw [hv]
    have HO := Lib.hid (fun w => one_c true w)
    go_enter Tryz.func111, Tryz.ntmps111
    go_wp2_with fail
    refine (HO.out _).mono ?_
    rintro e w1 ⟨rfl, hg1⟩
    go_wp2_with fail
    go_ret
    exact ⟨rfl, hg1⟩
  | false =>
    have n1 : k ≠ 1 := by simpa using h1
    cases h8 : (k == 8) with
    | true =>
      have e8 : k = 8 := by simpa using h8
      by_cases hp : 0 < i
      · have hv : Tr.bd k i = 1 := by unfold Tr.bd; rw [if_pos (.inr ⟨e8, hp⟩)]
        rw [hv]
        have HO := Lib.hid (fun w => one_c true w)
        have hp' : decide ((0 : Int) < (i : Int)) = true := by simp; omega
        go_enter Tryz.func111, Tryz.ntmps111
        go_wp2_with fail
        refine (HO.out _).mono ?_
        rintro e w1 ⟨rfl, hg1⟩
        go_wp2_with fail
        go_ret
        exact ⟨rfl, hg1⟩
      · have hv : Tr.bd k i = 0 := by unfold Tr.bd; rw [if_neg (by omega)]
        rw [hv]
        have HO := Lib.hid (fun w => one_c false w)
        obtain rfl : i = 0 := by omega
        go_enter Tryz.func111, Tryz.ntmps111
        go_wp2_with fail
        refine (HO.out _).mono ?_
        rintro e w1 ⟨rfl, hg1⟩
        go_wp2_with fail
        go_ret
        exact ⟨rfl, hg1⟩
    | false =>
      have n8 : k ≠ 8 := by simpa using h8
      have hv : Tr.bd k i = 0 := by unfold Tr.bd; rw [if_neg (by omega)]
      rw [hv]
      have HO := Lib.hid (fun w => one_c false w)
      go_enter Tryz.func111, Tryz.ntmps111
      go_wp2_with fail
      refine (HO.out _).mono ?_
      rintro e w1 ⟨rfl, hg1⟩
      go_wp2_with fail
      go_ret
      exact ⟨rfl, hg1⟩

theorem l26Part_c (v : Value) (t : Tm) (k : Nat) (w : World) (h : Tms w v (Tr.enc t)) (hg : Good t) (hn : (Tr.enc t).length ≤ 1048576) (hk : k < (Tr.kids t).length) :
    Calls Tryz.prog 85 #[v, .int .i64 k] w fun e w' => ∃ u, e = .returned u ∧ Tms w' u (Tr.enc (Tr.kid t k)) ∧ Grew w w' := by
  obtain ⟨b, o, c, rfl, hc, hm, hb, hf⟩ := tms_head h
  have HE := Lib.hid (fun i (hi : i < (Tr.kids t).length) W (hW : Grew w W) => by
    have h1 := l26End_c _ (Tr.enc t) (Tr.enc t).length (Tr.off t i) W (by omega) (h.grew hW) hn (by have := Tr.off_end hi; omega)
    rw [Tr.pend_kid hg hi, Int.natCast_add] at h1
    exact h1)
  have HL := Lib.hid (fun i (hi : i < (Tr.kids t).length) => (⟨Tr.off_end hi, Tr.off_next hi, Tr.enc_pos (Tr.kid t i)⟩ : Tr.off t i + (Tr.enc (Tr.kid t i)).length ≤ (Tr.enc t).length ∧ Tr.off t (i + 1) = Tr.off t i + (Tr.enc (Tr.kid t i)).length ∧ 1 ≤ (Tr.enc (Tr.kid t i)).length))
  have HS := Lib.hid (fun i (hi : i < (Tr.kids t).length) (c' : Nat) (hc1 : (Tr.enc (Tr.kid t i)).length ≤ c') (hc2 : c' ≤ 9223372036854775807) => by
    have h1 := h.sub (Tr.off t i) (Tr.enc (Tr.kid t i)).length c' (Tr.off_end hi) hc1 hc2
    rw [Tr.take_kid hi] at h1
    exact h1)
  have hz := Tr.off_zero t
  have hk3 : k ≤ 3 := by have := Tr.kids_len hg; have := Tr.ar_le (Tr.hd t).1; omega
  clear hf h hg
  generalize hN : (Tr.enc t).length = n at *
  clear hN
  generalize hM : (Tr.kids t).length = m at *
  clear hM
  go_enter Tryz.func85, Tryz.ntmps85
  go_wp2_with fail
  go_loopw [1, 5] (fun x y wr => ∃ j : Nat, j ≤ k ∧ x = .int .i64 ((k - j : Nat) : Int) ∧ y = .int .i64 (Tr.off t j) ∧ Grew w wr) (fun x _ _ => (intOf x).toNat)
  case atStart => exact ⟨0, Nat.zero_le _, rfl, by rw [hz]; rfl, Grew.refl _⟩
  case round =>
    obtain ⟨j, hj, rfl, rfl, hB⟩ := hrel
    obtain ⟨hl1, hl2, hl3⟩ := HL.out j (by omega)
    have hE := Lib.hid (HE.out j (by omega))
    have hS := Lib.hid (HS.out j (by omega))
    have HL2 := Lib.hid hl2
    clear hl2
    by_cases hlt : j < k
    · obtain ⟨r, hr⟩ : ∃ r, k - j = r + 1 := ⟨k - j - 1, by omega⟩
      have hr3 : r ≤ 3 := by omega
      rw [hr]
      generalize Tr.enc (Tr.kid t j) = X at *
      generalize Tr.off t j = oj at *
      have hr0 : (0 : Int) < ((r + 1 : Nat) : Int) := by omega
      go_wp2_with fail
      refine (hE.out _ hB).mono ?_
      rintro e w2 ⟨rfl, hg2⟩
      have hB2 := hB.trans hg2
      go_wp2_with fail
      go_roundw
      case rel => exact ⟨j + 1, by omega, by rw [show k - (j + 1) = r by omega]; try go_num, by rw [HL2.out]; try go_num, hB2⟩
      case measure => (simp [intOf]; try omega)
    · obtain rfl : j = k := by omega
      rw [Nat.sub_self]
      generalize hX : Tr.enc (Tr.kid t j) = X at *
      generalize Tr.off t j = oj at *
      have hq0 : (0 : Int) ≤ (oj : Int) := by omega
      have hq1 : (oj : Int) ≤ (oj : Int) + (X.length : Int) := by omega
      have hq2 : (oj : Int) + (X.length : Int) ≤ (c : Int) := by omega
      have hT := Lib.hid (hS.out (c - oj) (by omega) (by omega))
      go_wp2_with fail
      refine (hE.out _ hB).mono ?_
      rintro e w2 ⟨rfl, hg2⟩
      have hB2 := hB.trans hg2
      go_wp2_with fail
      go_ret
      exact ⟨_, rfl, by
        rw [hX]
        show Tms w2 (.slice (some ⟨b, o + oj * 3, none⟩) (oj + X.length - oj) (c - oj)) X
        rw [Nat.add_sub_cancel_left]
        exact hT.out.grew hB2, hB2⟩

/-- What the function value gives at a number and what it is read with. -/
def HoldsOk (f : Nat) (p : Int → Int → Bool) : Prop := ∀ a b W, Calls Tryz.prog f #[.int .i64 a, .int .i64 b] W fun e w' => e = .returned (.bool (p a b)) ∧ Grew W w'

theorem everyNumber_c (f : Nat) (p : Int → Int → Bool) (hf : HoldsOk f p) (eg : ∀ args w, (callFunc f args).run Tryz.prog w = .ok (.enter f args) w) :
    ∀ t : Tm, Good t → ∀ (v : Value) (n : Int) (w : World), Tms w v (Tr.enc t) → (Tr.enc t).length ≤ 100000 → 0 ≤ n → n + (Tr.enc t).length ≤ 1000000 →
    Calls Tryz.prog 92 #[v, .int .i64 n, .func (.func f) #[] #[]] w fun e w' => e = .returned (.bool (Tr.evN p t n)) ∧ Grew w w' := by
  intro t
  refine Tr.ind (P := fun t => Good t → ∀ (v : Value) (n : Int) (w : World), Tms w v (Tr.enc t) → (Tr.enc t).length ≤ 100000 → 0 ≤ n → n + (Tr.enc t).length ≤ 1000000 →
    Calls Tryz.prog 92 #[v, .int .i64 n, .func (.func f) #[] #[]] w fun e w' => e = .returned (.bool (Tr.evN p t n)) ∧ Grew w w') ?_ t
  intro t ih hg v n w h hlen hn0 hn1
  obtain ⟨b, o, c, rfl, hc, hm, hb, hcl⟩ := tms_head h
  have hpos := Tr.enc_pos t
  obtain ⟨k1, k2, _⟩ := hcl _ (Grew.refl w)
  by_cases hleaf : Tr.kids t = []
  · have hk := (good_leaf hg).1 hleaf
    rw [Tr.evN_leaf hleaf]
    rw [hk] at k1
    generalize (Tr.hd t).2.1 = a at *
    have HF := Lib.hid (hf a n)
    clear hcl ih hg h hf hk hleaf
    generalize (Tr.enc t).length = nn at *
    generalize p a n = R at *
    go_enter Tryz.func92, Tryz.ntmps92
    go_wp2_with fail
    go_at_fn f
    refine (HF.out _).mono ?_
    rintro e w1 ⟨rfl, hg1⟩
    go_wp2_with fail
    go_ret
    exact ⟨rfl, hg1⟩
  · have hk : ((Tr.hd t).1 == 0) = false := by
      have := mt (good_leaf hg).2 hleaf
      simpa using this
    have hm1 : 0 < (Tr.kids t).length := List.length_pos_iff.2 hleaf
    have hkl := Tr.kids_len hg
    have har := Tr.ar_le (Tr.hd t).1
    rw [Tr.evN_kids hleaf]
    obtain ⟨R, hR⟩ : ∃ R, R = Tr.evL p (Tr.hd t).1 (Tr.kids t) 0 n := ⟨_, rfl⟩
    rw [← hR]
    have HI := Lib.hid (fun W (hW : Grew w W) => inner_c _ t W (h.grew hW) hg (by omega))
    have HK := Lib.hid (fun W (hW : Grew w W) => (hcl W hW).1)
    have HR : Hid (R = Tr.evL p (Tr.hd t).1 ((Tr.kids t).drop 0) 0 n) := hR
    have HS := Lib.hid (fun i (hi : i < (Tr.kids t).length) => @Tr.evL_kid p (Tr.hd t).1 t i n hi)
    have HZ := Lib.hid (fun i (hi : (Tr.kids t).length ≤ i) => @Tr.evL_end p (Tr.hd t).1 (Tr.kids t) i n hi)
    have HIH := Lib.hid (fun i (hi : i < (Tr.kids t).length) u d W (hd0 : 0 ≤ d) (hd1 : d ≤ 1) hu => ih _ (Tr.kid_mem hi) (Tr.kids_wf hg _ (Tr.kid_mem hi)) u (n + d) W hu (by have := Tr.kid_small hi; omega) (by omega) (by have := Tr.kid_small hi; omega))
    have HBD := Lib.hid (fun i (hi : i < (Tr.kids t).length) w => bindsIn_c (Tr.hd t).1 i w (by omega))
    have HB2 := Lib.hid (fun i => (by unfold Tr.bd; split <;> omega : 0 ≤ Tr.bd (Tr.hd t).1 i ∧ Tr.bd (Tr.hd t).1 i ≤ 1))
    clear hcl ih hg h hf hR hleaf
    generalize (Tr.hd t).1 = kk at *
    generalize (Tr.enc t).length = nn at *
    generalize hM : (Tr.kids t).length = m at *
    go_enter Tryz.func92, Tryz.ntmps92
    go_wp2_with fail
    refine (HI.out _ (Grew.refl w)).mono ?_
    rintro e w1 ⟨u, rfl, hp1, hg1⟩
    rcases hp1 with ⟨rfl, h0⟩ | ⟨b2, o2, c2, rfl, hc2, hm2, hb2, hcell⟩
    · rw [h0] at hM; simp at hM; omega
    rw [hM] at hc2 hcell ⊢
    have HC := Lib.hid hcell
    clear hcell
    go_wp2_with fail
    go_loopw [7, 8, 24] (fun _ _ i wr => ∃ j : Nat, j ≤ m ∧ i = .int .i64 j ∧ Grew w1 wr ∧ Hid (R = Tr.evL p kk ((Tr.kids t).drop j) j n)) (fun _ _ i _ => m - (intOf i).toNat)
    case atStart => exact ⟨0, Nat.zero_le _, rfl, Grew.refl _, HR.out⟩
    case round =>
      obtain ⟨j, hj, rfl, hB, HJ⟩ := hrel
      clear HR
      by_cases hlt : j < m
      · obtain ⟨x, hx1, hx2⟩ := HC.out j hlt
        have e1 : wr.cell? ⟨b2, o2 + j, none⟩ = some x := (hB.cell (p := ⟨b2, o2 + j, none⟩) hb2).trans hx1
        have e2 : wr.cell? ⟨b, o, none⟩ = some (.int .i64 kk) := HK.out _ (hg1.trans hB)
        obtain ⟨A3, c3, rfl⟩ := tms_slice hx2
        have hs := HS.out j hlt
        rw [← HJ.out] at hs
        have HSS := Lib.hid hs
        have hih := Lib.hid (fun W (hW : Grew w1 W) => HIH.out j hlt _ (Tr.bd kk j) W (HB2.out j).1 (HB2.out j).2 (hx2.grew hW))
        have hbd := Lib.hid (HBD.out j hlt)
        have hb01 := HB2.out j
        clear hs hx1 hx2 HJ
        generalize Tr.bd kk j = d at *
        generalize (Tr.enc (Tr.kid t j)).length = ln at *
        generalize Tr.evN p (Tr.kid t j) (n + d) = q at *
        obtain ⟨hb0, hb1⟩ := hb01
        go_wp2_with fail
        refine (hbd.out _).mono ?_
        rintro e w2 ⟨rfl, hg2⟩
        go_wp2_with fail
        refine (hih.out _ (hB.trans hg2)).mono ?_
        rintro e w3 ⟨rfl, hg3⟩
        have hB3 := (hB.trans hg2).trans hg3
        cases q with
        | true =>
          have hv : Hid (R = Tr.evL p kk ((Tr.kids t).drop (j + 1)) (j + 1) n) := Lib.hid (by rw [HSS.out, Bool.true_and])
          go_wp2_with fail
          go_roundw
          case rel => exact ⟨j + 1, by omega, by go_num, hB3, hv⟩
          case measure => simp [intOf]; omega
        | false =>
          have hv : Hid (R = false) := Lib.hid (by rw [HSS.out, Bool.false_and])
          go_wp2_with fail
          go_ret
          rw [hv.out]
          exact ⟨rfl, hg1.trans hB3⟩
      · obtain rfl : j = m := by omega
        have hv : Hid (R = true) := Lib.hid (by rw [HJ.out, HZ.out]; omega)
        go_wp2_with fail
        go_ret
        rw [hv.out]
        exact ⟨rfl, hg1.trans hB⟩
end Go.Proofs.YthofkdpmgjkgkaaGreat

/- Does a term fit: fitsContext, contextCode, FitsContext of the program; l26Fits, FitsContext of the reference. -/
namespace Go.Proofs.YthofkdpmgjkgkaaGreat
open Go.RowKit
open Tr (Tm)

theorem tmB_tree {xs : List Tn} (h : tmB xs = true) : ∃ t, Good t ∧ Tr.enc t = xs ∧ xs.length ≤ 60 := by
  unfold tmB at h
  simp only [Bool.and_eq_true, decide_eq_true_eq, Bool.not_eq_true', beq_iff_eq] at h
  obtain ⟨⟨⟨h1, h2⟩, h3⟩, h4⟩ := h
  have hall : ∀ x ∈ xs, GoodN x := by
    intro x hx
    obtain ⟨i, hi, rfl⟩ := List.getElem_of_mem hx
    have := anyT_none h3 hi
    unfold GoodN
    rw [tk_lt hi]
    simpa [noTn] using this
  have hs : Tr.scan xs 1 = some xs.length := by
    unfold Tr.pend at h4
    rw [List.drop_zero] at h4
    cases hz : Tr.scan xs 1 with
    | none => rw [hz] at h4; simp only [Tr.pval] at h4; omega
    | some n => rw [hz] at h4; simp only [Tr.pval] at h4; congr 1; omega
  obtain ⟨t, ht, he⟩ := Tr.tree_of hs hall
  exact ⟨t, ht, he, h2⟩
/-- The tree of a list that is a term's. -/
noncomputable def tmT (xs : List Tn) : Tm := @dite _ (tmB xs = true) (Classical.propDecidable _) (fun h => Classical.choose (tmB_tree h)) (fun _ => .t0 (0, 0, ByteArray.empty))
theorem tmT_ok {xs : List Tn} (h : tmB xs = true) : Good (tmT xs) ∧ Tr.enc (tmT xs) = xs ∧ xs.length ≤ 60 := by
  unfold tmT
  rw [dif_pos h]
  exact Classical.choose_spec (tmB_tree h)

def ltP (a b : Int) : Bool := decide (a < b)
theorem fitsContext1_ok : HoldsOk 93 ltP := by
  intro a b w
  unfold ltP
  go_enter Tryz.func93, Tryz.ntmps93
  go_wp2_with fail
  go_ret
  exact ⟨rfl, Grew.refl _⟩
theorem fitsContext_c (v : Value) (t : Tm) (n : Int) (w : World) (h : Tms w v (Tr.enc t)) (hg : Good t) (hn : (Tr.enc t).length ≤ 100000) (h0 : 0 ≤ n) (h1 : n + (Tr.enc t).length ≤ 1000000) :
    Calls Tryz.prog 53 #[v, .int .i64 n] w fun e w' => e = .returned (.bool (Tr.evN ltP t n)) ∧ Grew w w' := by
  have HE := Lib.hid (everyNumber_c _ _ fitsContext1_ok (enters_of Tryz.func93 (by kernel_rfl) rfl) t hg v n w h hn h0 h1)
  clear h hg
  generalize Tr.evN ltP t n = R at *
  go_enter Tryz.func53, Tryz.ntmps53
  go_wp2_with fail
  refine HE.out.mono ?_
  rintro e w1 ⟨rfl, hg1⟩
  go_wp2_with fail
  go_ret
  exact ⟨rfl, hg1⟩

/-- The rest of a term with one part. -/
theorem sub_one {w : World} {b o c : Nat} {x : Tn} {a : Tm} (h : Tms w (.slice (some ⟨b, o, none⟩) ((Tr.enc a).length + 1) c) (x :: Tr.enc a)) (hc : (Tr.enc a).length + 1 ≤ c) (hc2 : c ≤ 9223372036854775807) : Tms w (.slice (some ⟨b, o + 3, none⟩) (Tr.enc a).length (c - 1)) (Tr.enc a) := by
  have := h.sub 1 (Tr.enc a).length (c - 1) (by simp; omega) (by omega) (by omega)
  simpa using this
theorem ar_one {k : Int} (h : Tr.ar k = 1) : k = 1 ∨ k = 4 ∨ k = 5 ∨ k = 6 ∨ k = 7 ∨ k = 9 := by
  unfold Tr.ar at h
  split at h
  · assumption
  · split at h
    · omega
    · split at h <;> omega
theorem ar_two {k : Int} (h : Tr.ar k = 2) : k = 2 ∨ k = 3 := by
  unfold Tr.ar at h
  split at h
  · omega
  · split at h
    · assumption
    · split at h <;> omega
theorem ar_three {k : Int} (h : Tr.ar k = 3) : k = 8 := by
  unfold Tr.ar at h
  split at h
  · omega
  · split at h
    · omega
    · split at h
      · assumption
      · omega
theorem l26Fits_c : ∀ t : Tm, Good t → ∀ (v : Value) (n : Int) (w : World), Tms w v (Tr.enc t) → (Tr.enc t).length ≤ 100000 → 0 ≤ n → n + (Tr.enc t).length ≤ 1000000 →
    Calls Tryz.prog 47 #[v, .int .i64 n] w fun e w' => e = .returned (.bool (Tr.evN ltP t n)) ∧ Grew w w' := by
  intro t
  refine Tr.ind (P := fun t => Good t → ∀ (v : Value) (n : Int) (w : World), Tms w v (Tr.enc t) → (Tr.enc t).length ≤ 100000 → 0 ≤ n → n + (Tr.enc t).length ≤ 1000000 →
    Calls Tryz.prog 47 #[v, .int .i64 n] w fun e w' => e = .returned (.bool (Tr.evN ltP t n)) ∧ Grew w w') ?_ t
  intro t ih hg v n w h hlen hn0 hn1
  have HP := fun k (hk : k < (Tr.kids t).length) W (hW : Grew w W) => l26Part_c v t k W (h.grew hW) hg (by omega) hk
  have IH := fun k (hk : k < (Tr.kids t).length) u d W (hd0 : 0 ≤ d) (hd1 : d ≤ 1) hu => ih _ (Tr.kid_mem hk) (Tr.kids_wf hg _ (Tr.kid_mem hk)) u (n + d) W hu (by have := Tr.kid_small hk; omega) (by omega) (by have := Tr.kid_small hk; omega)
  have hgk := good_leaf hg
  obtain ⟨b, o, c, rfl, hc, hm, hb, hcl⟩ := tms_head h
  have k0 := (hcl _ (Grew.refl w)).1
  cases t with
  | t0 x =>
    have hx : x.1 = 0 := hgk.1 rfl
    have k1 := (hcl _ (Grew.refl w)).2.1
    simp only [Tr.hd, hx] at k0 k1
    show Calls _ _ _ _ (fun e w' => e = .returned (.bool (ltP x.2.1 n)) ∧ Grew w w')
    unfold ltP
    generalize x.2.1 = a at *
    clear hcl HP IH h hgk hg ih
    simp only [Tr.enc, List.length_singleton] at *
    go_enter Tryz.func47, Tryz.ntmps47
    go_wp2_with fail
    go_ret
    exact ⟨rfl, Grew.refl _⟩
  | t1 x a =>
    have hx := ar_one (show Tr.ar x.1 = 1 from hg.1.1)
    have hpos := Tr.enc_pos a
    simp only [Tr.hd] at k0
    have hsub := sub_one (x := x) (a := a) (by simpa [Tr.enc] using h) (by simpa [Tr.enc] using hc) hm
    have I := Lib.hid (fun d W hd0 hd1 hu => IH 0 (by simp [Tr.kids]) (.slice (some ⟨b, o + 3, none⟩) (Tr.enc a).length (c - 1)) d W hd0 hd1 hu)
    simp only [Tr.kid, Tr.kids, List.getD_cons_zero] at I
    show Calls _ _ _ _ (fun e w' => e = .returned (.bool (Tr.evN ltP a (n + Tr.bd x.1 0))) ∧ Grew w w')
    have hlc : (Tr.enc (.t1 x a)).length = (Tr.enc a).length + 1 := by simp [Tr.enc]
    rw [hlc] at hc hlen hn1 ⊢
    have HS := Lib.hid hsub
    clear hsub hcl HP IH h hgk hg ih hlc
    generalize x.1 = k at *
    have hc1 : ¬ c = 1 := by omega
    rcases hx with rfl | rfl | rfl | rfl | rfl | rfl
    · have II := Lib.hid (I.out 1 w (by omega) (by omega) HS.out)
      rw [show Tr.bd 1 0 = 1 from rfl]
      clear I HS
      generalize Tr.evN ltP a (n + 1) = R at *
      generalize (Tr.enc a).length = la at *
      go_enter Tryz.func47, Tryz.ntmps47
      go_wp2_with fail
      refine II.out.mono ?_
      rintro e w1 ⟨rfl, hg1⟩
      go_wp2_with fail
      go_ret
      exact ⟨rfl, hg1⟩
    all_goals
      have II := I.out 0 w (by omega) (by omega) HS.out
      rw [Int.add_zero] at II
      replace II := Lib.hid II
      rw [show n + Tr.bd _ 0 = n from by rw [show Tr.bd _ 0 = 0 from rfl, Int.add_zero]]
      clear I HS
      generalize Tr.evN ltP a n = R at *
      generalize (Tr.enc a).length = la at *
      go_enter Tryz.func47, Tryz.ntmps47
      go_wp2_with fail
      refine II.out.mono ?_
      rintro e w1 ⟨rfl, hg1⟩
      go_wp2_with fail
      go_ret
      exact ⟨rfl, hg1⟩
  | t2 x a b' =>
    have hx := ar_two (show Tr.ar x.1 = 2 from hg.1.1)
    simp only [Tr.hd] at k0
    have P0 := Lib.hid (HP 0 (by simp [Tr.kids]))
    have P1 := Lib.hid (HP 1 (by simp [Tr.kids]))
    have I0 := Lib.hid (fun u W hu => IH 0 (by simp [Tr.kids]) u 0 W (by omega) (by omega) hu)
    have I1 := Lib.hid (fun u W hu => IH 1 (by simp [Tr.kids]) u 0 W (by omega) (by omega) hu)
    simp only [Tr.kid, Tr.kids, List.getD_cons_zero, List.getD_cons_succ, Int.add_zero] at I0 I1 P0 P1
    show Calls _ _ _ _ (fun e w' => e = .returned (.bool (Tr.evN ltP a (n + Tr.bd x.1 0) && Tr.evN ltP b' (n + Tr.bd x.1 1))) ∧ Grew w w')
    have hpos := Tr.enc_pos (.t2 x a b')
    clear hcl HP IH h hgk hg ih
    generalize (Tr.enc (.t2 x a b')).length = ll at *
    generalize x.1 = k at *
    rcases hx with rfl | rfl
    all_goals
      rw [show n + Tr.bd _ 0 = n from by rw [show Tr.bd _ 0 = 0 from rfl, Int.add_zero], show n + Tr.bd _ 1 = n from by rw [show Tr.bd _ 1 = 0 from rfl, Int.add_zero]]
      generalize Tr.evN ltP a n = R0 at *
      generalize Tr.evN ltP b' n = R1 at *
      cases R0 with
      | true =>
        go_enter Tryz.func47, Tryz.ntmps47
        go_wp2_with fail
        refine (P0.out _ (Grew.refl w)).mono ?_
        rintro e w1 ⟨u0, rfl, hu0, hg1⟩
        go_wp2_with fail
        refine (I0.out _ _ hu0).mono ?_
        rintro e w2 ⟨rfl, hg2⟩
        go_wp2_with fail
        refine (P1.out _ (hg1.trans hg2)).mono ?_
        rintro e w3 ⟨u1, rfl, hu1, hg3⟩
        go_wp2_with fail
        refine (I1.out _ _ hu1).mono ?_
        rintro e w4 ⟨rfl, hg4⟩
        go_wp2_with fail
        go_ret
        exact ⟨by simp, ((hg1.trans hg2).trans hg3).trans hg4⟩
      | false =>
        go_enter Tryz.func47, Tryz.ntmps47
        go_wp2_with fail
        refine (P0.out _ (Grew.refl w)).mono ?_
        rintro e w1 ⟨u0, rfl, hu0, hg1⟩
        go_wp2_with fail
        refine (I0.out _ _ hu0).mono ?_
        rintro e w2 ⟨rfl, hg2⟩
        go_wp2_with fail
        go_ret
        exact ⟨by simp, hg1.trans hg2⟩
  | t3 x a b' c' =>
    have hx := ar_three (show Tr.ar x.1 = 3 from hg.1.1)
    simp only [Tr.hd] at k0
    have P0 := Lib.hid (HP 0 (by simp [Tr.kids]))
    have P1 := Lib.hid (HP 1 (by simp [Tr.kids]))
    have P2 := Lib.hid (HP 2 (by simp [Tr.kids]))
    have I0 := Lib.hid (fun u W hu => IH 0 (by simp [Tr.kids]) u 0 W (by omega) (by omega) hu)
    have I1 := Lib.hid (fun u W hu => IH 1 (by simp [Tr.kids]) u 1 W (by omega) (by omega) hu)
    have I2 := Lib.hid (fun u W hu => IH 2 (by simp [Tr.kids]) u 1 W (by omega) (by omega) hu)
    simp only [Tr.kid, Tr.kids, List.getD_cons_zero, List.getD_cons_succ, Int.add_zero] at I0 I1 I2 P0 P1 P2
    show Calls _ _ _ _ (fun e w' => e = .returned (.bool (Tr.evN ltP a (n + Tr.bd x.1 0) && (Tr.evN ltP b' (n + Tr.bd x.1 1) && Tr.evN ltP c' (n + Tr.bd x.1 2)))) ∧ Grew w w')
    have hpos := Tr.enc_pos (.t3 x a b' c')
    clear hcl HP IH h hgk hg ih
    generalize (Tr.enc (.t3 x a b' c')).length = ll at *
    generalize x.1 = k at *
    subst hx
    rw [show n + Tr.bd _ 0 = n from by rw [show Tr.bd _ 0 = 0 from rfl, Int.add_zero], show Tr.bd 8 1 = 1 from rfl, show Tr.bd 8 2 = 1 from rfl]
    generalize Tr.evN ltP a n = R0 at *
    generalize Tr.evN ltP b' (n + 1) = R1 at *
    generalize Tr.evN ltP c' (n + 1) = R2 at *
    cases R0 with
    | true =>
      cases R1 with
      | true =>
        go_enter Tryz.func47, Tryz.ntmps47
        go_wp2_with fail
        refine (P0.out _ (Grew.refl w)).mono ?_
        rintro e w1 ⟨u0, rfl, hu0, hg1⟩
        go_wp2_with fail
        refine (I0.out _ _ hu0).mono ?_
        rintro e w2 ⟨rfl, hg2⟩
        go_wp2_with fail
        refine (P1.out _ (hg1.trans hg2)).mono ?_
        rintro e w3 ⟨u1, rfl, hu1, hg3⟩
        go_wp2_with fail
        refine (I1.out _ _ hu1).mono ?_
        rintro e w4 ⟨rfl, hg4⟩
        have hk4 := ((hg1.trans hg2).trans hg3).trans hg4
        go_wp2_with fail
        refine (P2.out _ hk4).mono ?_
        rintro e w5 ⟨u2, rfl, hu2, hg5⟩
        go_wp2_with fail
        refine (I2.out _ _ hu2).mono ?_
        rintro e w6 ⟨rfl, hg6⟩
        go_wp2_with fail
        go_ret
        exact ⟨by simp, (hk4.trans hg5).trans hg6⟩
      | false =>
        go_enter Tryz.func47, Tryz.ntmps47
        go_wp2_with fail
        refine (P0.out _ (Grew.refl w)).mono ?_
        rintro e w1 ⟨u0, rfl, hu0, hg1⟩
        go_wp2_with fail
        refine (I0.out _ _ hu0).mono ?_
        rintro e w2 ⟨rfl, hg2⟩
        go_wp2_with fail
        refine (P1.out _ (hg1.trans hg2)).mono ?_
        rintro e w3 ⟨u1, rfl, hu1, hg3⟩
        go_wp2_with fail
        refine (I1.out _ _ hu1).mono ?_
        rintro e w4 ⟨rfl, hg4⟩
        go_wp2_with fail
        go_ret
        exact ⟨by simp, ((hg1.trans hg2).trans hg3).trans hg4⟩
    | false =>
      go_enter Tryz.func47, Tryz.ntmps47
      go_wp2_with fail
      refine (P0.out _ (Grew.refl w)).mono ?_
      rintro e w1 ⟨u0, rfl, hu0, hg1⟩
      go_wp2_with fail
      refine (I0.out _ _ hu0).mono ?_
      rintro e w2 ⟨rfl, hg2⟩
      go_wp2_with fail
      go_ret
      exact ⟨by simp, hg1.trans hg2⟩
end Go.Proofs.YthofkdpmgjkgkaaGreat

/- Small lemmas on the numbers and types of terms. -/
namespace Go.Proofs.YthofkdpmgjkgkaaGreat
open Go.RowKit

theorem tnB_num0 {k n : Int} {s : ByteArray} (h : tnB k n s = true) : 0 ≤ n ∧ n ≤ 99 := by
  by_cases hn : 0 ≤ n ∧ n ≤ 99
  · exact hn
  · rw [tnB_range hn] at h; cases h
theorem tm_nodes {xs : List Tn} (h : tmB xs = true) (i : Nat) (hi : i < xs.length) : tnB (tk xs i) (tn xs i) (tt xs i) = true := by
  unfold tmB at h
  simp only [Bool.and_eq_true, Bool.not_eq_true'] at h
  have := anyT_none h.1.2 hi
  simpa [noTn] using this
theorem tm_numOk {xs : List Tn} (h : tmB xs = true) : NumOk xs := fun i hi => by
  have := tnB_num0 (tm_nodes h i hi)
  omega
theorem raise_fits {k d : Int} {xs : List Tn} (h : FitsT xs) : FitsT (raiseL k d xs) := fun i hi => by
  rw [raiseL_length] at hi
  rw [raise_tt hi]
  exact h i hi
def GivesT2 (w : World) (r : List Tn × Int) (e : Ending) (w' : World) : Prop := ∃ v, e = .returned (.tuple #[v, .int .i64 r.2]) ∧ OwnT w' w.heap.size v r.1 ∧ Grew w w'
end Go.Proofs.YthofkdpmgjkgkaaGreat

/- Lengths and nodes of contracted terms. No program is in sight. -/
namespace Go.Proofs.YthofkdpmgjkgkaaGreat
open Go.RowKit
open Tr (Tm)

theorem wf_all {p : Tn → Prop} : ∀ t : Tm, Tr.wf p t → ∀ x ∈ Tr.enc t, p x := by
  intro t
  induction t with
  | t0 x => intro h y hy; simp [Tr.enc] at hy; subst hy; exact h.2
  | t1 x a ha =>
    intro h y hy
    simp only [Tr.enc, List.mem_cons] at hy
    rcases hy with rfl | hy
    · exact h.1.2
    · exact ha h.2 y hy
  | t2 x a b ha hb =>
    intro h y hy
    simp only [Tr.enc, List.mem_cons, List.mem_append] at hy
    rcases hy with rfl | hy | hy
    · exact h.1.2
    · exact ha h.2.1 y hy
    · exact hb h.2.2 y hy
  | t3 x a b c ha hb hc =>
    intro h y hy
    simp only [Tr.enc, List.mem_cons, List.mem_append] at hy
    rcases hy with rfl | hy | hy | hy
    · exact h.1.2
    · exact ha h.2.1 y hy
    · exact hb h.2.2.1 y hy
    · exact hc h.2.2.2 y hy
theorem good_numOk {t : Tm} (h : Good t) : NumOk (Tr.enc t) := fun i hi => by
  have h1 := wf_all t h _ (List.getElem_mem hi)
  rw [tk_lt hi] at h1
  have := tnB_num0 h1
  simp only at this
  omega

theorem putN_mem {P : Tn → Prop} (hP : ∀ k d x, P x → P (raiseN k d x)) (hD : ∀ x : Tn, P x → P (x.1, x.2.1 - 1, x.2.2)) {n : Int} {us : List Tn} (hu : ∀ y ∈ us, P y) (x : Tn) (m : Int) (hx : P x) : ∀ y ∈ putN n us x m, P y := by
  intro y hy
  unfold putN at hy
  split at hy
  · simp only [raiseL, List.mem_map] at hy
    obtain ⟨z, hz, rfl⟩ := hy
    exact hP _ _ _ (hu z hz)
  · split at hy
    · simp at hy; subst hy; exact hD _ hx
    · simp at hy; subst hy; exact hx
theorem ctr_mem {P : Tn → Prop} (hP : ∀ k d x, P x → P (raiseN k d x)) (hD : ∀ x : Tn, P x → P (x.1, x.2.1 - 1, x.2.2)) {t : Tm} {n : Int} (hg : Good t) (hr : rdxAt (Tr.enc t) 0 = true) (h : ∀ x ∈ Tr.enc t, P x) : ∀ y ∈ ctr t n, P y := by
  rcases rdx_shape hg hr with ⟨x, y, b, u, rfl, hx, hy⟩ | ⟨x, y, a, b, rfl, hx, hy⟩ | ⟨x, y, s, a, b, rfl, hx, hy⟩
  · exact Tr.mapN_mem (P := P) (fun z m hz => putN_mem hP hD (fun q hq => h q (by simp [Tr.enc, hq])) z m hz) b _ (fun q hq => h q (by simp [Tr.enc, hq]))
  · intro z hz
    rcases hx with hx | hx
    · have e : ctr (.t1 x (.t2 y a b)) n = Tr.enc a := by simp [ctr, hx, Tr.kid, Tr.kids]
      rw [e] at hz; exact h z (by simp [Tr.enc, hz])
    · have e : ctr (.t1 x (.t2 y a b)) n = Tr.enc b := by simp [ctr, hx, Tr.kid, Tr.kids]
      rw [e] at hz; exact h z (by simp [Tr.enc, hz])
  · refine Tr.mapN_mem (P := P) (fun z m hz => putN_mem hP hD (fun q hq => h q (by simp only [Tr.kid, Tr.kids, List.getD_cons_zero] at hq; simp [Tr.enc, hq])) z m hz) _ _ (fun q hq => h q ?_)
    split at hq <;> simp [Tr.enc, hq]
theorem ctr_len {t : Tm} {n : Int} {M : Nat} (hg : Good t) (hr : rdxAt (Tr.enc t) 0 = true) (hM : (Tr.enc t).length ≤ M) : (ctr t n).length ≤ (Tr.enc t).length * (M + 1) := by
  rcases rdx_shape hg hr with ⟨x, y, b, u, rfl, hx, hy⟩ | ⟨x, y, a, b, rfl, hx, hy⟩ | ⟨x, y, s, a, b, rfl, hx, hy⟩
  · have h1 := Tr.mapN_len (f := putN n (Tr.enc u)) (M := (Tr.enc u).length + 1) (by omega) (fun x m => putN_len n _ x m) b (n + 1)
    refine Nat.le_trans h1 (Nat.mul_le_mul ?_ ?_)
    · simp [Tr.enc]; omega
    · simp [Tr.enc] at hM; omega
  · have h1 : (ctr (.t1 x (.t2 y a b)) n).length ≤ (Tr.enc (.t1 x (.t2 y a b))).length := by
      rcases hx with hx | hx
      · have e : ctr (.t1 x (.t2 y a b)) n = Tr.enc a := by simp [ctr, hx, Tr.kid, Tr.kids]
        rw [e]; simp [Tr.enc]; omega
      · have e : ctr (.t1 x (.t2 y a b)) n = Tr.enc b := by simp [ctr, hx, Tr.kid, Tr.kids]
        rw [e]; simp [Tr.enc]; omega
    exact Nat.le_trans h1 (Nat.le_mul_of_pos_right _ (by omega))
  · have h1 := Tr.mapN_len (f := putN n (Tr.enc s)) (M := (Tr.enc s).length + 1) (by omega) (fun x m => putN_len n _ x m) (if (Tr.hd (.t1 y s)).1 = 6 then a else b) (n + 1)
    refine Nat.le_trans h1 (Nat.mul_le_mul ?_ ?_)
    · split <;> (simp [Tr.enc]; omega)
    · simp [Tr.enc] at hM; omega

/-- The part in which an index lies. -/
theorem rdx_kid {t : Tm} {i j : Nat} (hg : Good t) (hr : rdxAt (Tr.enc t) i = true) (hj : j < (Tr.kids t).length) (h : Tr.off t j ≤ i ∧ i < Tr.off t j + (Tr.enc (Tr.kid t j)).length) : rdxAt (Tr.enc (Tr.kid t j)) (i - Tr.off t j) = true := rdx_part hg hr hj h.1 h.2
theorem ctAt_len {M : Nat} : ∀ t : Tm, Good t → ∀ (n : Int) (i : Nat), rdxAt (Tr.enc t) i = true → (Tr.enc t).length ≤ M → (ctAt t n i).length ≤ (Tr.enc t).length * (M + 1) := by
  intro t
  refine Tr.ind (P := fun t => Good t → ∀ (n : Int) (i : Nat), rdxAt (Tr.enc t) i = true → (Tr.enc t).length ≤ M → (ctAt t n i).length ≤ (Tr.enc t).length * (M + 1)) ?_ t
  intro t ih hg n i hr hM
  by_cases hi : i = 0
  · subst hi
    rw [ctAt_zero]
    exact ctr_len hg hr hM
  rw [ctAt_kids (by omega)]
  have hL : ∀ j, j ≤ (Tr.kids t).length → (ctL t n i j).length ≤ Tr.off t j * (M + 1) := by
    intro j
    induction j with
    | zero => intro _; rw [Tr.off_zero]; simp [ctL]
    | succ j ihj =>
      intro hj
      have h1 := ihj (by omega)
      have h2 : (ctP t n i j).length ≤ (Tr.enc (Tr.kid t j)).length * (M + 1) := by
        unfold ctP
        split
        · rename_i hc
          exact ih _ (Tr.kid_mem (by omega)) (Tr.kids_wf hg _ (Tr.kid_mem (by omega))) _ _ (rdx_kid hg hr (by omega) hc) (by have := Tr.kid_small (t := t) (i := j) (by omega); omega)
        · exact Nat.le_mul_of_pos_right _ (by omega)
      rw [ctL, List.length_append, Tr.off_next (by omega), Nat.add_mul]
      omega
  refine Nat.le_trans (hL _ (Nat.le_refl _)) (Nat.mul_le_mul_right _ ?_)
  have h1 : (Tr.enc t).length = 1 + ((Tr.kids t).flatMap Tr.enc).length := by rw [Tr.enc_kids]; simp; omega
  unfold Tr.off
  rw [List.take_length]
  omega
theorem ctL_len {M : Nat} {t : Tm} {n : Int} {i : Nat} (hg : Good t) (hr : rdxAt (Tr.enc t) i = true) (hM : (Tr.enc t).length ≤ M) : ∀ j, j ≤ (Tr.kids t).length → (ctL t n i j).length ≤ Tr.off t j * (M + 1) := by
  intro j
  induction j with
  | zero => intro _; rw [Tr.off_zero]; simp [ctL]
  | succ j ihj =>
    intro hj
    have h1 := ihj (by omega)
    have h2 : (ctP t n i j).length ≤ (Tr.enc (Tr.kid t j)).length * (M + 1) := by
      unfold ctP
      split
      · rename_i hc
        exact ctAt_len _ (Tr.kids_wf hg _ (Tr.kid_mem (by omega))) _ _ (rdx_kid hg hr (by omega) hc) (by have := Tr.kid_small (t := t) (i := j) (by omega); omega)
      · exact Nat.le_mul_of_pos_right _ (by omega)
    rw [ctL, List.length_append, Tr.off_next (by omega), Nat.add_mul]
    omega
theorem ctAt_mem {P : Tn → Prop} (hP : ∀ k d x, P x → P (raiseN k d x)) (hD : ∀ x : Tn, P x → P (x.1, x.2.1 - 1, x.2.2)) : ∀ t : Tm, Good t → ∀ (n : Int) (i : Nat), rdxAt (Tr.enc t) i = true → (∀ x ∈ Tr.enc t, P x) → ∀ y ∈ ctAt t n i, P y := by
  intro t
  refine Tr.ind (P := fun t => Good t → ∀ (n : Int) (i : Nat), rdxAt (Tr.enc t) i = true → (∀ x ∈ Tr.enc t, P x) → ∀ y ∈ ctAt t n i, P y) ?_ t
  intro t ih hg n i hr h
  by_cases hi : i = 0
  · subst hi
    rw [ctAt_zero]
    exact ctr_mem hP hD hg hr h
  rw [ctAt_kids (by omega)]
  have hk : ∀ j, j < (Tr.kids t).length → ∀ x ∈ Tr.enc (Tr.kid t j), P x := by
    intro j hj x hx
    refine h x ?_
    rw [Tr.enc_kids]
    exact List.mem_cons_of_mem _ (List.mem_flatMap.2 ⟨_, Tr.kid_mem hj, hx⟩)
  have hL : ∀ j, j ≤ (Tr.kids t).length → ∀ y ∈ ctL t n i j, P y := by
    intro j
    induction j with
    | zero => intro _ y hy; simp [ctL] at hy; subst hy; exact h _ (by rw [Tr.enc_kids]; exact List.mem_cons_self)
    | succ j ihj =>
      intro hj y hy
      rw [ctL, List.mem_append] at hy
      rcases hy with hy | hy
      · exact ihj (by omega) y hy
      · unfold ctP at hy
        split at hy
        · rename_i hc
          exact ih _ (Tr.kid_mem (by omega)) (Tr.kids_wf hg _ (Tr.kid_mem (by omega))) _ _ (rdx_kid hg hr (by omega) hc) (hk j (by omega)) y hy
        · exact hk j (by omega) y hy
  exact hL _ (Nat.le_refl _)
theorem ctAt_fits {t : Tm} {n : Int} {i : Nat} (hg : Good t) (hr : rdxAt (Tr.enc t) i = true) (h : FitsT (Tr.enc t)) : FitsT (ctAt t n i) := by
  rw [fits_mem] at *
  refine ctAt_mem (P := fun x => x.2.2.size ≤ 1048576) (fun k d x hx => ?_) (fun x hx => hx) t hg n i hr h
  unfold raiseN
  split <;> exact hx
end Go.Proofs.YthofkdpmgjkgkaaGreat

/- The limits of a term: limitedTerm of the program, l26Made of the reference. -/
namespace Go.Proofs.YthofkdpmgjkgkaaGreat
open Go.RowKit

def bigT (_k n : Int) (_s : ByteArray) : Bool := decide (99 < n)
/-- A term that has not too many nodes and no great number. -/
noncomputable def limT (xs : List Tn) : List Tn × Int := if decide (60 < xs.length) || anyT bigT xs then ([], 3) else (xs, 0)
theorem limT_len {xs : List Tn} : (limT xs).1.length ≤ 60 := by
  unfold limT
  split
  · simp
  · rename_i h
    simp only [Bool.or_eq_true, decide_eq_true_eq, not_or] at h
    simp; omega
theorem limitedTerm1_ok : PredT 94 bigT := by
  intro a b s w hs
  unfold bigT
  go_enter Tryz.func94, Tryz.ntmps94
  go_wp2_with fail
  go_ret
  exact ⟨rfl, (Grew.refl w).alloc _⟩
/-- The call gives the term, or nothing and a code. -/
def LimG (w : World) (B : Nat) (xs : List Tn) (e : Ending) (w' : World) : Prop := ∃ u, e = .returned (.tuple #[u, .int .i64 (limT xs).2]) ∧ OwnT w' B u (limT xs).1 ∧ Grew w w'
theorem limitedTerm_c (v : Value) (xs : List Tn) (w : World) (B : Nat) (h : OwnT w B v xs) (hfit : FitsT xs) (hn : xs.length ≤ 1048576) :
    Calls Tryz.prog 54 #[v] w (LimG w B xs) := by
  unfold LimG limT
  have HC := fun w h => containsFuncT_c v xs _ _ w h hfit limitedTerm1_ok (enters_of Tryz.func94 (by kernel_rfl) rfl)
  obtain ⟨A, c, rfl⟩ := tms_slice h.tms
  have HO := Lib.hid h
  have HN := Lib.hid h.tms
  clear h hfit
  by_cases hl : 60 < xs.length
  · rw [decide_eq_true hl, Bool.true_or, if_pos rfl]
    clear HC HO HN
    generalize xs.length = n at *
    go_enter Tryz.func54, Tryz.ntmps54
    go_wp2_with fail
    go_ret2
    exact ⟨.slice none 0 0, rfl, OwnT.nil_ _ _, Grew.refl _⟩
  · rw [decide_eq_false hl, Bool.false_or]
    cases hq : anyT bigT xs with
    | true =>
      rw [if_pos rfl]
      rw [hq] at HC
      replace HC := Lib.hid HC
      clear HO hq
      generalize xs.length = n at *
      go_enter Tryz.func54, Tryz.ntmps54
      go_wp2_with fail
      refine (HC.out _ HN.out).mono ?_
      rintro e w1 ⟨rfl, hg1⟩
      go_wp2_with fail
      go_ret2
      exact ⟨.slice none 0 0, rfl, OwnT.nil_ _ _, hg1⟩
    | false =>
      rw [if_neg (by simp)]
      rw [hq] at HC
      replace HC := Lib.hid HC
      clear hq
      generalize xs.length = n at *
      go_enter Tryz.func54, Tryz.ntmps54
      go_wp2_with fail
      refine (HC.out _ HN.out).mono ?_
      rintro e w1 ⟨rfl, hg1⟩
      go_wp2_with fail
      go_ret2
      exact ⟨_, rfl, HO.out.grew hg1, hg1⟩
theorem l26Made_c (v : Value) (xs : List Tn) (w : World) (B : Nat) (h : OwnT w B v xs) (hn : xs.length ≤ 1048576) :
    Calls Tryz.prog 48 #[v] w (LimG w B xs) := by
  unfold LimG limT
  rcases h.tms.open_ with ⟨rfl, rfl⟩ | ⟨b, o, c, rfl, hc, hm, hb, hcell⟩
  · have hq : anyT bigT [] = false := anyT_no (NoneT.zero _ _)
    rw [hq, if_neg (by simp)]
    clear h hq
    go_enter Tryz.func48, Tryz.ntmps48
    go_wp2_with fail
    refine wp_loop_rounds 1 ?_; rw [rounds_succ]
    go_wp2_with fail
    go_ret2
    exact ⟨_, rfl, OwnT.nil_ _ _, Grew.refl _⟩
  have HO := Lib.hid h
  by_cases hl : 60 < xs.length
  · rw [decide_eq_true hl, Bool.true_or, if_pos rfl]
    clear h hcell HO
    generalize xs.length = n at *
    go_enter Tryz.func48, Tryz.ntmps48
    go_wp2_with fail
    go_ret2
    exact ⟨.slice none 0 0, rfl, OwnT.nil_ _ _, Grew.refl _⟩
  · rw [decide_eq_false hl, Bool.false_or]
    obtain ⟨R, hR⟩ : ∃ R, R = anyT bigT xs := ⟨_, rfl⟩
    rw [← hR]
    have HA := Lib.hid (fun k hk h => hR.trans (@anyT_at bigT xs k hk h))
    have HZ := Lib.hid (fun h => hR.trans (@anyT_no bigT xs h))
    have HC := Lib.hid hcell
    clear hcell h hR
    obtain ⟨RR, hRR⟩ : ∃ RR, RR = (if R = true then (([] : List Tn), (3 : Int)) else (xs, 0)) := ⟨_, rfl⟩
    rw [← hRR]
    have HRR := Lib.hid hRR
    clear hRR
    generalize hN : xs.length = n at *
    go_enter Tryz.func48, Tryz.ntmps48
    go_wp2_with fail
    go_loopw [4] (fun i wr => ∃ j : Nat, j ≤ n ∧ i = .int .i64 j ∧ Grew w wr ∧ Hid (NoneT bigT xs j)) (fun i _ => n - (intOf i).toNat)
    case atStart => exact ⟨0, Nat.zero_le _, rfl, Grew.refl _, NoneT.zero _ _⟩
    case round =>
      obtain ⟨j, hj, rfl, hB, HJ⟩ := hrel
      by_cases hlt : j < n
      · have k2 := (HC.out j hlt _ hB).2.1
        have hA := Lib.hid (HA.out j hlt)
        have hS := Lib.hid (fun h => HJ.out.succ (k := j) h)
        unfold bigT at hA hS
        generalize tn xs j = y at *
        by_cases hbig : 99 < y
        · have hv : Hid (RR = ([], 3)) := Lib.hid (by rw [HRR.out, hA.out (by simpa using hbig)]; rfl)
          go_wp2_with fail
          go_ret2
          rw [hv.out]
          exact ⟨.slice none 0 0, rfl, OwnT.nil_ _ _, hB⟩
        · have hs := Lib.hid (hS.out (by simpa using hbig))
          go_wp2_with fail
          go_roundw
          case rel => exact ⟨j + 1, by omega, by go_num, hB, hs⟩
          case measure => simp [intOf]; omega
      · obtain rfl : j = n := by omega
        have hv : Hid (RR = (xs, 0)) := Lib.hid (by rw [HRR.out, HZ.out HJ.out]; rfl)
        go_wp2_with fail
        go_ret2
        rw [hv.out]
        exact ⟨_, rfl, HO.out.grew hB, hB⟩
end Go.Proofs.YthofkdpmgjkgkaaGreat

/- A contracted term is a term again. No program is in sight. -/
namespace Go.Proofs.YthofkdpmgjkgkaaGreat
open Go.RowKit
open Tr (Tm)

namespace Tr
def mapTm (g : Tn → Int → Tm) : Tm → Int → Tm
  | .t0 x, n => g x n
  | .t1 x a, n => .t1 x (mapTm g a (n + bd x.1 0))
  | .t2 x a b, n => .t2 x (mapTm g a (n + bd x.1 0)) (mapTm g b (n + bd x.1 1))
  | .t3 x a b c, n => .t3 x (mapTm g a (n + bd x.1 0)) (mapTm g b (n + bd x.1 1)) (mapTm g c (n + bd x.1 2))
theorem enc_mapTm {g : Tn → Int → Tm} {f : Tn → Int → List Tn} (h : ∀ x n, enc (g x n) = f x n) : ∀ t n, enc (mapTm g t n) = mapN f t n := by
  intro t
  induction t with
  | t0 x => intro n; exact h x n
  | t1 x a ha => intro n; simp [mapTm, mapN, enc, ha]
  | t2 x a b ha hb => intro n; simp [mapTm, mapN, enc, ha, hb]
  | t3 x a b c ha hb hc => intro n; simp [mapTm, mapN, enc, ha, hb, hc]
theorem bd_pos (k : Int) (i : Nat) : 0 ≤ bd k i := by unfold bd; split <;> omega
theorem mapTm_wf {g : Tn → Int → Tm} {p q : Tn → Prop} {lo : Int} (hpq : ∀ x, p x → q x) (hg : ∀ x m, lo ≤ m → ar x.1 = 0 → p x → wf q (g x m)) : ∀ t n, lo ≤ n → wf p t → wf q (mapTm g t n) := by
  intro t
  induction t with
  | t0 x => intro n hn h; exact hg x n hn h.1 h.2
  | t1 x a ha =>
    intro n hn h
    exact ⟨⟨h.1.1, hpq _ h.1.2⟩, ha _ (by have := bd_pos x.1 0; omega) h.2⟩
  | t2 x a b ha hb =>
    intro n hn h
    exact ⟨⟨h.1.1, hpq _ h.1.2⟩, ha _ (by have := bd_pos x.1 0; omega) h.2.1, hb _ (by have := bd_pos x.1 1; omega) h.2.2⟩
  | t3 x a b c ha hb hc =>
    intro n hn h
    exact ⟨⟨h.1.1, hpq _ h.1.2⟩, ha _ (by have := bd_pos x.1 0; omega) h.2.1, hb _ (by have := bd_pos x.1 1; omega) h.2.2.1, hc _ (by have := bd_pos x.1 2; omega) h.2.2.2⟩
def nodeTm (g : Tn → Tn) : Tm → Tm
  | .t0 x => .t0 (g x)
  | .t1 x a => .t1 (g x) (nodeTm g a)
  | .t2 x a b => .t2 (g x) (nodeTm g a) (nodeTm g b)
  | .t3 x a b c => .t3 (g x) (nodeTm g a) (nodeTm g b) (nodeTm g c)
theorem enc_nodeTm (g : Tn → Tn) : ∀ t, enc (nodeTm g t) = (enc t).map g := by
  intro t
  induction t with
  | t0 x => rfl
  | t1 x a ha => simp [nodeTm, enc, ha]
  | t2 x a b ha hb => simp [nodeTm, enc, ha, hb]
  | t3 x a b c ha hb hc => simp [nodeTm, enc, ha, hb, hc]
theorem nodeTm_wf {g : Tn → Tn} {p q : Tn → Prop} (hk : ∀ x, (g x).1 = x.1) (hg : ∀ x, p x → q (g x)) : ∀ t, wf p t → wf q (nodeTm g t) := by
  intro t
  induction t with
  | t0 x => intro h; exact ⟨by rw [hk]; exact h.1, hg _ h.2⟩
  | t1 x a ha => intro h; exact ⟨⟨by rw [hk]; exact h.1.1, hg _ h.1.2⟩, ha h.2⟩
  | t2 x a b ha hb => intro h; exact ⟨⟨by rw [hk]; exact h.1.1, hg _ h.1.2⟩, ha h.2.1, hb h.2.2⟩
  | t3 x a b c ha hb hc => intro h; exact ⟨⟨by rw [hk]; exact h.1.1, hg _ h.1.2⟩, ha h.2.1, hb h.2.2.1, hc h.2.2.2⟩
theorem wf_mono {p q : Tn → Prop} (h : ∀ x, p x → q x) : ∀ t, wf p t → wf q t := by
  intro t
  induction t with
  | t0 x => intro k; exact ⟨k.1, h _ k.2⟩
  | t1 x a ha => intro k; exact ⟨⟨k.1.1, h _ k.1.2⟩, ha k.2⟩
  | t2 x a b ha hb => intro k; exact ⟨⟨k.1.1, h _ k.1.2⟩, ha k.2.1, hb k.2.2⟩
  | t3 x a b c ha hb hc => intro k; exact ⟨⟨k.1.1, h _ k.1.2⟩, ha k.2.1, hb k.2.2.1, hc k.2.2.2⟩
theorem wf_and {p q : Tn → Prop} : ∀ t, wf p t → (∀ x ∈ enc t, q x) → wf (fun x => p x ∧ q x) t := by
  intro t
  induction t with
  | t0 x => intro k h; exact ⟨k.1, k.2, h _ (by simp [enc])⟩
  | t1 x a ha => intro k h; exact ⟨⟨k.1.1, k.1.2, h _ (by simp [enc])⟩, ha k.2 (fun y hy => h y (by simp [enc, hy]))⟩
  | t2 x a b ha hb => intro k h; exact ⟨⟨k.1.1, k.1.2, h _ (by simp [enc])⟩, ha k.2.1 (fun y hy => h y (by simp [enc, hy])), hb k.2.2 (fun y hy => h y (by simp [enc, hy]))⟩
  | t3 x a b c ha hb hc => intro k h; exact ⟨⟨k.1.1, k.1.2, h _ (by simp [enc])⟩, ha k.2.1 (fun y hy => h y (by simp [enc, hy])), hb k.2.2.1 (fun y hy => h y (by simp [enc, hy])), hc k.2.2.2 (fun y hy => h y (by simp [enc, hy]))⟩
end Tr

/-- A node as good as that of a term, but that a number may be great. -/
def GoodU (x : Tn) : Prop := if x.1 = 0 then 0 ≤ x.2.1 ∧ x.2.2.toList.isEmpty = true else tnB x.1 x.2.1 x.2.2 = true
theorem goodU_of {x : Tn} (h : GoodN x) : GoodU x := by
  unfold GoodU
  split
  · rename_i h0
    unfold GoodN tnB at h
    rw [h0, if_pos (by rfl)] at h
    simp only [Bool.and_eq_true, decide_eq_true_eq] at h
    exact ⟨h.1.1, h.2⟩
  · exact h
theorem good_of {x : Tn} (h : GoodU x) (hn : x.2.1 ≤ 99) : GoodN x := by
  unfold GoodU at h
  unfold GoodN
  split at h
  · rename_i h0
    unfold tnB
    rw [h0, if_pos (by rfl)]
    simp only [Bool.and_eq_true, decide_eq_true_eq]
    exact ⟨⟨h.1, hn⟩, h.2⟩
  · exact h
theorem goodU_raise {k d : Int} {x : Tn} (hd : 0 ≤ d) (h : GoodU x) : GoodU (raiseN k d x) := by
  unfold raiseN
  split
  · rename_i h0
    unfold GoodU at h ⊢
    rw [if_pos h0.1] at h
    rw [if_pos (show (x.1, x.2.1 + d, x.2.2).1 = 0 from h0.1)]
    exact ⟨by show 0 ≤ x.2.1 + d; omega, h.2⟩
  · exact h
theorem ar_leaf {x : Tn} (h : GoodN x) (ha : Tr.ar x.1 = 0) : x.1 = 0 := by
  have := good_leaf (t := .t0 x) ⟨ha, h⟩
  exact this.1 rfl

/-- A variable with a term put for number n. -/
def putT (n : Int) (u : Tm) (x : Tn) (now : Int) : Tm := if x.2.1 = n then Tr.nodeTm (raiseN n (now - n - 1)) u else if n < x.2.1 then .t0 (x.1, x.2.1 - 1, x.2.2) else .t0 x
theorem enc_putT (n : Int) (u : Tm) (x : Tn) (now : Int) : Tr.enc (putT n u x now) = putN n (Tr.enc u) x now := by
  unfold putT putN
  split
  · rw [Tr.enc_nodeTm]; rfl
  · split <;> rfl
theorem raiseN_kind (k d : Int) (x : Tn) : (raiseN k d x).1 = x.1 := by unfold raiseN; split <;> rfl
theorem putT_wf {n : Int} {u : Tm} (hn : 0 ≤ n) (hu : Good u) (x : Tn) (m : Int) (hm : n + 1 ≤ m) (ha : Tr.ar x.1 = 0) (hx : GoodN x) : Tr.wf GoodU (putT n u x m) := by
  have h0 := ar_leaf hx ha
  unfold putT
  split
  · exact Tr.nodeTm_wf (raiseN_kind _ _) (fun y hy => goodU_raise (by omega) (goodU_of hy)) u hu
  · split
    · refine ⟨ha, ?_⟩
      have := goodU_of hx
      unfold GoodU at this ⊢
      rw [if_pos h0] at this
      rw [if_pos (show (x.1, x.2.1 - 1, x.2.2).1 = 0 from h0)]
      exact ⟨by show 0 ≤ x.2.1 - 1; omega, this.2⟩
    · exact ⟨ha, goodU_of hx⟩

def ctrT (t : Tm) (n : Int) : Tm :=
  match t with
  | .t2 _ f u => Tr.mapTm (putT n u) (Tr.kid f 0) (n + 1)
  | .t3 _ f a b => Tr.mapTm (putT n (Tr.kid f 0)) (if (Tr.hd f).1 = 6 then a else b) (n + 1)
  | .t1 x f => Tr.kid f (if x.1 = 4 then 0 else 1)
  | .t0 x => .t0 x
theorem enc_ctrT (t : Tm) (n : Int) : Tr.enc (ctrT t n) = ctr t n := by
  cases t with
  | t0 x => rfl
  | t1 x f => rfl
  | t2 x f u => exact Tr.enc_mapTm (enc_putT n u) _ _
  | t3 x f a b => exact Tr.enc_mapTm (enc_putT n (Tr.kid f 0)) _ _
theorem ctrT_wf {t : Tm} {n : Int} (hn : 0 ≤ n) (hg : Good t) (hr : rdxAt (Tr.enc t) 0 = true) : Tr.wf GoodU (ctrT t n) := by
  rcases rdx_shape hg hr with ⟨x, y, b, u, rfl, hx, hy⟩ | ⟨x, y, a, b, rfl, hx, hy⟩ | ⟨x, y, s, a, b, rfl, hx, hy⟩
  · exact Tr.mapTm_wf (lo := n + 1) (fun _ h => goodU_of h) (fun z m hm ha hz => putT_wf hn hg.2.2 z m hm ha hz) b _ (Int.le_refl _) hg.2.1.2
  · have hgf : Good (.t2 y a b) := hg.2
    rcases hx with hx | hx
    · have e : ctrT (.t1 x (.t2 y a b)) n = a := by simp [ctrT, hx, Tr.kid, Tr.kids]
      rw [e]; exact Tr.wf_mono (fun _ h => goodU_of h) a hgf.2.1
    · have e : ctrT (.t1 x (.t2 y a b)) n = b := by simp [ctrT, hx, Tr.kid, Tr.kids]
      rw [e]; exact Tr.wf_mono (fun _ h => goodU_of h) b hgf.2.2
  · refine Tr.mapTm_wf (lo := n + 1) (fun _ h => goodU_of h) (fun z m hm ha hz => putT_wf hn (u := s) hg.2.1.2 z m hm ha hz) _ _ (Int.le_refl _) ?_
    split
    · exact hg.2.2.1
    · exact hg.2.2.2

/-- A term with the redex at an index contracted. -/
def ctT : Tm → Int → Nat → Tm
  | t, n, 0 => ctrT t n
  | .t0 x, _, _ + 1 => .t0 x
  | .t1 x a, n, i + 1 => .t1 x (if i < (Tr.enc a).length then ctT a (n + Tr.bd x.1 0) i else a)
  | .t2 x a b, n, i + 1 => .t2 x (if i < (Tr.enc a).length then ctT a (n + Tr.bd x.1 0) i else a) (if (Tr.enc a).length ≤ i ∧ i < (Tr.enc a).length + (Tr.enc b).length then ctT b (n + Tr.bd x.1 1) (i - (Tr.enc a).length) else b)
  | .t3 x a b c, n, i + 1 => .t3 x (if i < (Tr.enc a).length then ctT a (n + Tr.bd x.1 0) i else a) (if (Tr.enc a).length ≤ i ∧ i < (Tr.enc a).length + (Tr.enc b).length then ctT b (n + Tr.bd x.1 1) (i - (Tr.enc a).length) else b) (if (Tr.enc a).length + (Tr.enc b).length ≤ i ∧ i < (Tr.enc a).length + (Tr.enc b).length + (Tr.enc c).length then ctT c (n + Tr.bd x.1 2) (i - ((Tr.enc a).length + (Tr.enc b).length)) else c)
theorem ctT_zero (t : Tm) (n : Int) : ctT t n 0 = ctrT t n := by cases t <;> rfl
theorem enc_ite {P : Prop} [Decidable P] {a b : Tm} {A : List Tn} (h : Tr.enc a = A) : Tr.enc (if P then a else b) = (if P then A else Tr.enc b) := by split; exact h; rfl
theorem enc_ctT : ∀ (t : Tm) (n : Int) (i : Nat), Tr.enc (ctT t n i) = ctAt t n i := by
  intro t
  induction t with
  | t0 x => intro n i; cases i <;> rfl
  | t1 x a ha =>
    intro n i
    cases i with
    | zero => rw [ctT_zero, ctAt_zero]; exact enc_ctrT _ _
    | succ i =>
      simp only [ctT, ctAt, Tr.enc]
      rw [enc_ite (ha _ _)]
  | t2 x a b ha hb =>
    intro n i
    cases i with
    | zero => rw [ctT_zero, ctAt_zero]; exact enc_ctrT _ _
    | succ i =>
      simp only [ctT, ctAt, Tr.enc]
      rw [enc_ite (ha _ _), enc_ite (hb _ _)]
  | t3 x a b c ha hb hc =>
    intro n i
    cases i with
    | zero => rw [ctT_zero, ctAt_zero]; exact enc_ctrT _ _
    | succ i =>
      simp only [ctT, ctAt, Tr.enc]
      rw [enc_ite (ha _ _), enc_ite (hb _ _), enc_ite (hc _ _)]
theorem wf_ite {P : Prop} [Decidable P] {a b : Tm} {p : Tn → Prop} (h : P → Tr.wf p a) (k : Tr.wf p b) : Tr.wf p (if P then a else b) := by split; exact h ‹_›; exact k
theorem ctT_wf : ∀ (t : Tm) (n : Int) (i : Nat), 0 ≤ n → Good t → rdxAt (Tr.enc t) i = true → Tr.wf GoodU (ctT t n i) := by
  intro t
  induction t with
  | t0 x =>
    intro n i hn hg hr
    unfold rdxAt at hr
    simp [Tr.enc] at hr
  | t1 x a ha =>
    intro n i hn hg hr
    cases i with
    | zero => rw [ctT_zero]; exact ctrT_wf hn hg hr
    | succ i =>
      refine ⟨⟨hg.1.1, goodU_of hg.1.2⟩, wf_ite (fun h => ?_) (Tr.wf_mono (fun _ h => goodU_of h) a hg.2)⟩
      have h1 := rdx_part (j := 0) hg hr (by decide : 0 < 1) (by rw [Tr.off_zero]; omega) (by rw [Tr.off_zero]; show i + 1 < 1 + (Tr.enc a).length; omega)
      rw [Tr.off_zero, Nat.add_sub_cancel] at h1
      exact ha _ _ (by have := Tr.bd_pos x.1 0; omega) hg.2 h1
  | t2 x a b ha hb =>
    intro n i hn hg hr
    cases i with
    | zero => rw [ctT_zero]; exact ctrT_wf hn hg hr
    | succ i =>
      have e1 : Tr.off (.t2 x a b) 1 = 1 + (Tr.enc a).length := by simp [Tr.off, Tr.kids]
      refine ⟨⟨hg.1.1, goodU_of hg.1.2⟩, wf_ite (fun h => ?_) (Tr.wf_mono (fun _ h => goodU_of h) a hg.2.1), wf_ite (fun h => ?_) (Tr.wf_mono (fun _ h => goodU_of h) b hg.2.2)⟩
      · have h1 := rdx_part (j := 0) hg hr (by decide : 0 < 2) (by rw [Tr.off_zero]; omega) (by rw [Tr.off_zero]; show i + 1 < 1 + (Tr.enc a).length; omega)
        rw [Tr.off_zero, Nat.add_sub_cancel] at h1
        exact ha _ _ (by have := Tr.bd_pos x.1 0; omega) hg.2.1 h1
      · have h1 := rdx_part (j := 1) hg hr (by decide : 1 < 2) (by rw [e1]; omega) (by rw [e1]; show i + 1 < 1 + (Tr.enc a).length + (Tr.enc b).length; omega)
        rw [e1, show i + 1 - (1 + (Tr.enc a).length) = i - (Tr.enc a).length by omega] at h1
        exact hb _ _ (by have := Tr.bd_pos x.1 1; omega) hg.2.2 h1
  | t3 x a b c ha hb hc =>
    intro n i hn hg hr
    cases i with
    | zero => rw [ctT_zero]; exact ctrT_wf hn hg hr
    | succ i =>
      have e1 : Tr.off (.t3 x a b c) 1 = 1 + (Tr.enc a).length := by simp [Tr.off, Tr.kids]
      have e2 : Tr.off (.t3 x a b c) 2 = 1 + ((Tr.enc a).length + (Tr.enc b).length) := by simp [Tr.off, Tr.kids]
      refine ⟨⟨hg.1.1, goodU_of hg.1.2⟩, wf_ite (fun h => ?_) (Tr.wf_mono (fun _ h => goodU_of h) a hg.2.1), wf_ite (fun h => ?_) (Tr.wf_mono (fun _ h => goodU_of h) b hg.2.2.1), wf_ite (fun h => ?_) (Tr.wf_mono (fun _ h => goodU_of h) c hg.2.2.2)⟩
      · have h1 := rdx_part (j := 0) hg hr (by decide : 0 < 3) (by rw [Tr.off_zero]; omega) (by rw [Tr.off_zero]; show i + 1 < 1 + (Tr.enc a).length; omega)
        rw [Tr.off_zero, Nat.add_sub_cancel] at h1
        exact ha _ _ (by have := Tr.bd_pos x.1 0; omega) hg.2.1 h1
      · have h1 := rdx_part (j := 1) hg hr (by decide : 1 < 3) (by rw [e1]; omega) (by rw [e1]; show i + 1 < 1 + (Tr.enc a).length + (Tr.enc b).length; omega)
        rw [e1, show i + 1 - (1 + (Tr.enc a).length) = i - (Tr.enc a).length by omega] at h1
        exact hb _ _ (by have := Tr.bd_pos x.1 1; omega) hg.2.2.1 h1
      · have h1 := rdx_part (j := 2) hg hr (by decide : 2 < 3) (by rw [e2]; omega) (by rw [e2]; show i + 1 < 1 + ((Tr.enc a).length + (Tr.enc b).length) + (Tr.enc c).length; omega)
        rw [e2, show i + 1 - (1 + ((Tr.enc a).length + (Tr.enc b).length)) = i - ((Tr.enc a).length + (Tr.enc b).length) by omega] at h1
        exact hc _ _ (by have := Tr.bd_pos x.1 2; omega) hg.2.2.2 h1

/-- Under the limits a contracted term is a good term. -/
theorem ct_good {t : Tm} {n : Int} {i : Nat} (hn : 0 ≤ n) (hg : Good t) (hr : rdxAt (Tr.enc t) i = true) (hl : (limT (ctAt t n i)).2 = 0) : Good (ctT t n i) ∧ Tr.enc (ctT t n i) = ctAt t n i ∧ (ctAt t n i).length ≤ 60 ∧ (limT (ctAt t n i)).1 = ctAt t n i := by
  have he := enc_ctT t n i
  unfold limT at hl ⊢
  split at hl
  · cases hl
  · rename_i hc
    rw [if_neg hc]
    simp only [Bool.or_eq_true, decide_eq_true_eq, not_or] at hc
    obtain ⟨h1, h2⟩ := hc
    refine ⟨?_, he, by omega, rfl⟩
    have hw := Tr.wf_and (q := fun x => x.2.1 ≤ 99) (ctT t n i) (ctT_wf t n i hn hg hr) ?_
    · exact Tr.wf_mono (fun x h => good_of h.1 h.2) _ hw
    · intro x hx
      rw [he] at hx
      obtain ⟨j, hj, rfl⟩ := List.getElem_of_mem hx
      have := anyT_none (by simpa using h2) hj
      rw [tk_lt hj]
      unfold bigT at this
      simpa using this
theorem limT_code (xs : List Tn) : (limT xs).2 = 0 ∨ limT xs = ([], 3) := by
  unfold limT
  split
  · exact .inr rfl
  · exact .inl rfl
end Go.Proofs.YthofkdpmgjkgkaaGreat

/- Texts in one file: Write Good PartP Text Parsed Strs IsText Cont Plain Gp Lf Range TmIs TmCont TmIs2 OwnV TmPart TmG Fo TtT Dec0 TtD TmPs TtS ShelfD DecD TwoF Pt S12. -/
import Derived.Lib.SlicesS
import Derived.Test.YtfpkfgimhanekaaGreatDoorProg
import Derived.Deep.QuietTactic
import Derived.BigQuiet
import Derived.Deep.LoopGhost
import Derived.Outline
import Derived.Deep.RegionHeld3
import Derived.WalkSpells
import Derived.WalkLawsBesides
import Derived.Shelf.Abstract
import Derived.Lib.ItoaNum
import Derived.Laws.BytesArg
import Derived.Deep.RegionWith
import Derived.IntWalk
import Derived.Shelf.Strings.Builder1
import Derived.Shelf.Strings.Builder2
import Derived.Shelf.Strings.OnBuilder
import Derived.Shelf.LaysM
import Derived.Shelf.Strconv.Itoa3
import Derived.Shelf.Strconv.Itoa4
import Derived.Test.YtfpkfgimhanekaaGreatDoorPa1
set_option linter.all false

/- The text of a formula: the reference's l02Write. -/
namespace Go.Proofs.YtfpkfgimhanekaaGreatDoor
open Go.RowKit
open Fm (Nd Tree)

theorem l02Left_c (v : Value) (xs : List Nd) (a : Tree) (w : World) (h : Nodes w v xs) (hn : xs.length ≤ 1099511627776) (ha : At xs 1 a) :
    Calls Tryz.prog 123 #[v] w (Cuts w (Fm.enc a)) := by
  have hle := ha.le
  have hpos := Fm.enc_pos a
  rcases h.open_ with ⟨rfl, rfl⟩ | ⟨b, o, c, rfl, hc, hm, hb, hf⟩
  · simp only [List.length_nil] at hle; omega
  · have hsub := h.sub 1 (Fm.enc a).length (c - 1) hle (by omega) (by omega)
    rw [ha.take] at hsub
    have HH := Lib.hid h
    have HS := Lib.hid hsub
    have HT := Lib.hid ha
    clear h hf hsub ha
    go_enter Tryz.func123, Tryz.ntmps123
    go_wp2_with fail
    refine (l02Part_at _ xs 1 a _ HH.out hn HT.out).mono ?_
    rintro e w1 ⟨rfl, hg1⟩
    go_wp2_with fail
    go_ret
    refine ⟨_, rfl, ?_, hg1⟩
    rw [Nat.add_sub_cancel_left]
    exact HS.out.grew hg1

theorem l02Right_c (v : Value) (xs : List Nd) (a t : Tree) (w : World) (h : Nodes w v xs) (hn : xs.length ≤ 1099511627776) (ha : At xs 1 a) (ht : At xs (1 + (Fm.enc a).length) t) (hl : xs.length = 1 + (Fm.enc a).length + (Fm.enc t).length) :
    Calls Tryz.prog 124 #[v] w (Cuts w (Fm.enc t)) := by
  have hle := ha.le
  have hpos := Fm.enc_pos t
  rcases h.open_ with ⟨rfl, rfl⟩ | ⟨b, o, c, rfl, hc, hm, hb, hf⟩
  · simp only [List.length_nil] at hle; omega
  · have hsub := h.sub (1 + (Fm.enc a).length) (Fm.enc t).length (c - (1 + (Fm.enc a).length)) (by omega) (by omega) (by omega)
    rw [ht.take] at hsub
    have HH := Lib.hid h
    have HS := Lib.hid hsub
    have HA := Lib.hid ha
    have hk : (Fm.enc t).length = xs.length - (1 + (Fm.enc a).length) := by omega
    rw [hk] at HS
    have hlt : 1 + (Fm.enc a).length < xs.length := by omega
    clear h hf hsub ha ht hl hk hpos
    go_enter Tryz.func124, Tryz.ntmps124
    go_wp2_with fail
    refine (l02Part_at _ xs 1 a _ HH.out hn HA.out).mono ?_
    rintro e w1 ⟨rfl, hg1⟩
    go_wp2_with fail
    go_ret
    exact ⟨_, rfl, HS.out.grew hg1, hg1⟩

def WriteOk (t : Tree) : Prop := ∀ (l : Nat) (v : Value) (w : World), l ≤ 3 → Nodes w v (Fm.enc t) → (Fm.enc t).length ≤ 1048576 →
  Calls Tryz.prog 113 #[v, .int .i64 l] w (Says w (Fm.txt t l))

theorem enc_fls {t : Tree} (h : Fm.enc t = [(1, 0)]) : t = .fls := by
  cases t <;> simp_all [Fm.enc]
theorem enc_truth {x y : Tree} (h : Fm.enc (.imp x y) = Fm.truth) : x = .fls ∧ y = .fls := by
  have hx := Fm.enc_pos x
  have hy := Fm.enc_pos y
  have h1 : Fm.enc x ++ Fm.enc y = [(1, 0), (1, 0)] := by
    have : (4, 0) :: (Fm.enc x ++ Fm.enc y) = ((4, 0) : Nd) :: [(1, 0), (1, 0)] := h
    injection this
  have hl := congrArg List.length h1
  simp only [List.length_append, List.length_cons, List.length_nil] at hl
  have h2 : Fm.enc x = [(1, 0)] := by
    have := congrArg (List.take 1) h1
    rw [List.take_append_of_le_length hx, List.take_of_length_le (by omega)] at this
    exact this
  have h3 : Fm.enc y = [(1, 0)] := by
    rw [h2] at h1
    simpa using h1
  exact ⟨enc_fls h2, enc_fls h3⟩

theorem write_and_n (x y : Tree) (hx : WriteOk x) (hy : WriteOk y) (l : Nat) (v : Value) (w : World) (hl : l ≤ 2) (h : Nodes w v (Fm.enc (.and x y))) (hn : (Fm.enc (.and x y)).length ≤ 1048576) :
    Calls Tryz.prog 113 #[v, .int .i64 l] w (Says w (Fm.txt (.and x y) l)) := by
  have hE : Fm.txt (.and x y) l = Fm.txt x 2 ++ [38] ++ Fm.txt y 3 := by
    rw [Fm.txt, Fm.wrap, if_neg (by omega)]
  rw [hE]
  obtain ⟨b, o, c, rfl, hc, hm, k1⟩ := nodes_head h
  have hpos := Fm.enc_pos (.and x y)
  have HH := Lib.hid h
  have hg0 := Grew.refl w
  rw [show kindOf (.and x y) = 2 from rfl] at k1
  have HA := Lib.hid (at_first (xs := Fm.enc (.and x y)) (k := (2, 0)) (a := x) (rest := Fm.enc y) rfl)
  have HB := Lib.hid (at_second (xs := Fm.enc (.and x y)) (k := (2, 0)) (a := x) (b := y) rfl)
  have hlen : (Fm.enc (.and x y)).length = 1 + (Fm.enc x).length + (Fm.enc y).length := by simp [Fm.enc]; omega
  have HN := Lib.hid hlen
  have h1 := Fm.txt_len x 2
  have h2 := Fm.txt_len y 3
  have HX := Lib.hid hx
  have HY := Lib.hid hy
  have hn1 : (Fm.enc x).length ≤ 1048576 := by omega
  have hn2 : (Fm.enc y).length ≤ 1048576 := by omega
  have hpy := Fm.enc_pos y
  clear hE h hx hy hlen
  generalize Fm.enc (.and x y) = T at *
  have s1 := bs_size (Fm.txt x 2)
  have s2 := bs_size (Fm.txt y 3)
  have z1 : (bs (Fm.txt x 2)).size ≤ 4194304 := by omega
  have z2 : (bs (Fm.txt y 3)).size ≤ 4194304 := by omega
  have HE : Hid (bs (Fm.txt x 2) ++ bs [38] ++ bs (Fm.txt y 3) = bs (Fm.txt x 2 ++ [38] ++ Fm.txt y 3)) := by unfold Hid; simp only [bs_append]
  clear s1 s2 h1 h2
  generalize Fm.txt x 2 ++ [38] ++ Fm.txt y 3 = Z at *
  go_enter Tryz.func113, Tryz.ntmps113
  go_wp2_with fail
  refine (l02Left_c _ T x _ (HH.out.grew (Grew.refl w)) (by omega) HA.out).mono ?_
  rintro e w2 ⟨v2, rfl, hN2, hg2⟩
  go_wp2_with fail
  refine (HX.out 2 _ _ (by omega) hN2 hn1).mono ?_
  rintro e w3 ⟨rfl, hg3⟩
  go_wp2_with fail
  refine (l02Right_c _ T x y _ (HH.out.grew (((Grew.refl w).trans hg2).trans hg3)) (by omega) HA.out HB.out HN.out).mono ?_
  rintro e w4 ⟨v4, rfl, hN4, hg4⟩
  go_wp2_with fail
  refine (HY.out 3 _ _ (by omega) hN4 hn2).mono ?_
  rintro e w5 ⟨rfl, hg5⟩
  go_wp2_with fail
  go_ret
  exact ⟨congrArg (fun z => Ending.returned (.string z)) HE.out, ((((Grew.refl w).trans hg2).trans hg3).trans hg4).trans hg5⟩

theorem write_or_n (x y : Tree) (hx : WriteOk x) (hy : WriteOk y) (l : Nat) (v : Value) (w : World) (hl : l ≤ 1) (h : Nodes w v (Fm.enc (.or x y))) (hn : (Fm.enc (.or x y)).length ≤ 1048576) :
    Calls Tryz.prog 113 #[v, .int .i64 l] w (Says w (Fm.txt (.or x y) l)) := by
  have hE : Fm.txt (.or x y) l = Fm.txt x 1 ++ [124] ++ Fm.txt y 2 := by
    rw [Fm.txt, Fm.wrap, if_neg (by omega)]
  rw [hE]
  obtain ⟨b, o, c, rfl, hc, hm, k1⟩ := nodes_head h
  have hpos := Fm.enc_pos (.or x y)
  have HH := Lib.hid h
  have hg0 := Grew.refl w
  rw [show kindOf (.or x y) = 3 from rfl] at k1
  have HA := Lib.hid (at_first (xs := Fm.enc (.or x y)) (k := (3, 0)) (a := x) (rest := Fm.enc y) rfl)
  have HB := Lib.hid (at_second (xs := Fm.enc (.or x y)) (k := (3, 0)) (a := x) (b := y) rfl)
  have hlen : (Fm.enc (.or x y)).length = 1 + (Fm.enc x).length + (Fm.enc y).length := by simp [Fm.enc]; omega
  have HN := Lib.hid hlen
  have h1 := Fm.txt_len x 1
  have h2 := Fm.txt_len y 2
  have HX := Lib.hid hx
  have HY := Lib.hid hy
  have hn1 : (Fm.enc x).length ≤ 1048576 := by omega
  have hn2 : (Fm.enc y).length ≤ 1048576 := by omega
  have hpy := Fm.enc_pos y
  clear hE h hx hy hlen
  generalize Fm.enc (.or x y) = T at *
  have s1 := bs_size (Fm.txt x 1)
  have s2 := bs_size (Fm.txt y 2)
  have z1 : (bs (Fm.txt x 1)).size ≤ 4194304 := by omega
  have z2 : (bs (Fm.txt y 2)).size ≤ 4194304 := by omega
  have HE : Hid (bs (Fm.txt x 1) ++ bs [124] ++ bs (Fm.txt y 2) = bs (Fm.txt x 1 ++ [124] ++ Fm.txt y 2)) := by unfold Hid; simp only [bs_append]
  clear s1 s2 h1 h2
  generalize Fm.txt x 1 ++ [124] ++ Fm.txt y 2 = Z at *
  go_enter Tryz.func113, Tryz.ntmps113
  go_wp2_with fail
  refine (l02Left_c _ T x _ (HH.out.grew (Grew.refl w)) (by omega) HA.out).mono ?_
  rintro e w2 ⟨v2, rfl, hN2, hg2⟩
  go_wp2_with fail
  refine (HX.out 1 _ _ (by omega) hN2 hn1).mono ?_
  rintro e w3 ⟨rfl, hg3⟩
  go_wp2_with fail
  refine (l02Right_c _ T x y _ (HH.out.grew (((Grew.refl w).trans hg2).trans hg3)) (by omega) HA.out HB.out HN.out).mono ?_
  rintro e w4 ⟨v4, rfl, hN4, hg4⟩
  go_wp2_with fail
  refine (HY.out 2 _ _ (by omega) hN4 hn2).mono ?_
  rintro e w5 ⟨rfl, hg5⟩
  go_wp2_with fail
  go_ret
  exact ⟨congrArg (fun z => Ending.returned (.string z)) HE.out, ((((Grew.refl w).trans hg2).trans hg3).trans hg4).trans hg5⟩

theorem write_imp_n (x y : Tree) (hf : Fm.isF y = false) (hx : WriteOk x) (hy : WriteOk y) (l : Nat) (v : Value) (w : World) (hl : l ≤ 0) (h : Nodes w v (Fm.enc (.imp x y))) (hn : (Fm.enc (.imp x y)).length ≤ 1048576) :
    Calls Tryz.prog 113 #[v, .int .i64 l] w (Says w (Fm.txt (.imp x y) l)) := by
  have hE : Fm.txt (.imp x y) l = Fm.txt x 1 ++ [62] ++ Fm.txt y 0 := by
    rw [Fm.txt, if_neg (by simp [hf]), Fm.wrap, if_neg (by omega)]
  rw [hE]
  obtain ⟨b, o, c, rfl, hc, hm, k1⟩ := nodes_head h
  have hpos := Fm.enc_pos (.imp x y)
  have HH := Lib.hid h
  have hg0 := Grew.refl w
  have HQ := Lib.hid (fun v2 w h1 h2 => l02Equal_c (.slice (some ⟨b, o, none⟩) (Fm.enc (.imp x y)).length c) v2 (Fm.enc (.imp x y)) Fm.truth w h1 h2 (by omega))
  rw [decide_eq_false (fun h => by have := (enc_truth h).2; rw [this] at hf; cases hf)] at HQ
  have hky : (kindOf y == 1) = false := by rw [← isF_kind]; exact hf
  rw [show kindOf (.imp x y) = 4 from rfl] at k1
  have HA := Lib.hid (at_first (xs := Fm.enc (.imp x y)) (k := (4, 0)) (a := x) (rest := Fm.enc y) rfl)
  have HB := Lib.hid (at_second (xs := Fm.enc (.imp x y)) (k := (4, 0)) (a := x) (b := y) rfl)
  have hlen : (Fm.enc (.imp x y)).length = 1 + (Fm.enc x).length + (Fm.enc y).length := by simp [Fm.enc]; omega
  have HN := Lib.hid hlen
  have h1 := Fm.txt_len x 1
  have h2 := Fm.txt_len y 0
  have HX := Lib.hid hx
  have HY := Lib.hid hy
  have hn1 : (Fm.enc x).length ≤ 1048576 := by omega
  have hn2 : (Fm.enc y).length ≤ 1048576 := by omega
  have hpy := Fm.enc_pos y
  clear hE h hx hy hlen hf
  generalize Fm.enc (.imp x y) = T at *
  have s1 := bs_size (Fm.txt x 1)
  have s2 := bs_size (Fm.txt y 0)
  have z1 : (bs (Fm.txt x 1)).size ≤ 4194304 := by omega
  have z2 : (bs (Fm.txt y 0)).size ≤ 4194304 := by omega
  have HE : Hid (bs (Fm.txt x 1) ++ bs [62] ++ bs (Fm.txt y 0) = bs (Fm.txt x 1 ++ [62] ++ Fm.txt y 0)) := by unfold Hid; simp only [bs_append]
  clear s1 s2 h1 h2
  generalize Fm.txt x 1 ++ [62] ++ Fm.txt y 0 = Z at *
  go_enter Tryz.func113, Tryz.ntmps113
  go_wp2_with fail
  refine (l02True_c _).mono ?_
  rintro e w01 ⟨v01, rfl, ho01, hg01⟩
  go_wp2_with fail
  refine (HQ.out _ _ (HH.out.grew hg01) ho01.nodes).mono ?_
  rintro e w02 ⟨rfl, hg02⟩
  have hg2x := hg01.trans hg02
  go_wp2_with fail
  refine (l02Right_c _ T x y _ (HH.out.grew hg2x) (by omega) HA.out HB.out HN.out).mono ?_
  rintro e w03 ⟨v03, rfl, hN03, hg03⟩
  obtain ⟨b3, o3, c3, rfl, hc3, hm3, k3⟩ := nodes_head hN03
  have hg3x := hg2x.trans hg03
  have hgr3 := Grew.refl w03
  go_wp2_with fail
  clear k3
  refine (l02Left_c _ T x _ (HH.out.grew hg3x) (by omega) HA.out).mono ?_
  rintro e w2 ⟨v2, rfl, hN2, hg2⟩
  go_wp2_with fail
  refine (HX.out 1 _ _ (by omega) hN2 hn1).mono ?_
  rintro e w3 ⟨rfl, hg3⟩
  go_wp2_with fail
  refine (l02Right_c _ T x y _ (HH.out.grew ((hg3x.trans hg2).trans hg3)) (by omega) HA.out HB.out HN.out).mono ?_
  rintro e w4 ⟨v4, rfl, hN4, hg4⟩
  go_wp2_with fail
  refine (HY.out 0 _ _ (by omega) hN4 hn2).mono ?_
  rintro e w5 ⟨rfl, hg5⟩
  go_wp2_with fail
  go_ret
  exact ⟨congrArg (fun z => Ending.returned (.string z)) HE.out, (((hg3x.trans hg2).trans hg3).trans hg4).trans hg5⟩

theorem write_and_w (x y : Tree) (hx : WriteOk x) (hy : WriteOk y) (l : Nat) (v : Value) (w : World) (hl : 2 < l) (h : Nodes w v (Fm.enc (.and x y))) (hn : (Fm.enc (.and x y)).length ≤ 1048576) :
    Calls Tryz.prog 113 #[v, .int .i64 l] w (Says w (Fm.txt (.and x y) l)) := by
  have hE : Fm.txt (.and x y) l = [40] ++ (Fm.txt x 2 ++ [38] ++ Fm.txt y 3) ++ [41] := by
    rw [Fm.txt, Fm.wrap, if_pos (by omega)]
  rw [hE]
  obtain ⟨b, o, c, rfl, hc, hm, k1⟩ := nodes_head h
  have hpos := Fm.enc_pos (.and x y)
  have HH := Lib.hid h
  have hg0 := Grew.refl w
  rw [show kindOf (.and x y) = 2 from rfl] at k1
  have HA := Lib.hid (at_first (xs := Fm.enc (.and x y)) (k := (2, 0)) (a := x) (rest := Fm.enc y) rfl)
  have HB := Lib.hid (at_second (xs := Fm.enc (.and x y)) (k := (2, 0)) (a := x) (b := y) rfl)
  have hlen : (Fm.enc (.and x y)).length = 1 + (Fm.enc x).length + (Fm.enc y).length := by simp [Fm.enc]; omega
  have HN := Lib.hid hlen
  have h1 := Fm.txt_len x 2
  have h2 := Fm.txt_len y 3
  have HX := Lib.hid hx
  have HY := Lib.hid hy
  have hn1 : (Fm.enc x).length ≤ 1048576 := by omega
  have hn2 : (Fm.enc y).length ≤ 1048576 := by omega
  have hpy := Fm.enc_pos y
  clear hE h hx hy hlen
  generalize Fm.enc (.and x y) = T at *
  have s1 := bs_size (Fm.txt x 2)
  have s2 := bs_size (Fm.txt y 3)
  have z1 : (bs (Fm.txt x 2)).size ≤ 4194304 := by omega
  have z2 : (bs (Fm.txt y 3)).size ≤ 4194304 := by omega
  have HE : Hid (bs [40] ++ (bs (Fm.txt x 2) ++ bs [38] ++ bs (Fm.txt y 3)) ++ bs [41] = bs ([40] ++ (Fm.txt x 2 ++ [38] ++ Fm.txt y 3) ++ [41])) := by unfold Hid; simp only [bs_append]
  clear s1 s2 h1 h2
  generalize [40] ++ (Fm.txt x 2 ++ [38] ++ Fm.txt y 3) ++ [41] = Z at *
  go_enter Tryz.func113, Tryz.ntmps113
  go_wp2_with fail
  refine (l02Left_c _ T x _ (HH.out.grew (Grew.refl w)) (by omega) HA.out).mono ?_
  rintro e w2 ⟨v2, rfl, hN2, hg2⟩
  go_wp2_with fail
  refine (HX.out 2 _ _ (by omega) hN2 hn1).mono ?_
  rintro e w3 ⟨rfl, hg3⟩
  go_wp2_with fail
  refine (l02Right_c _ T x y _ (HH.out.grew (((Grew.refl w).trans hg2).trans hg3)) (by omega) HA.out HB.out HN.out).mono ?_
  rintro e w4 ⟨v4, rfl, hN4, hg4⟩
  go_wp2_with fail
  refine (HY.out 3 _ _ (by omega) hN4 hn2).mono ?_
  rintro e w5 ⟨rfl, hg5⟩
  go_wp2_with fail
  go_ret
  exact ⟨congrArg (fun z => Ending.returned (.string z)) HE.out, ((((Grew.refl w).trans hg2).trans hg3).trans hg4).trans hg5⟩

theorem write_or_w (x y : Tree) (hx : WriteOk x) (hy : WriteOk y) (l : Nat) (v : Value) (w : World) (hl : 1 < l) (h : Nodes w v (Fm.enc (.or x y))) (hn : (Fm.enc (.or x y)).length ≤ 1048576) :
    Calls Tryz.prog 113 #[v, .int .i64 l] w (Says w (Fm.txt (.or x y) l)) := by
  have hE : Fm.txt (.or x y) l = [40] ++ (Fm.txt x 1 ++ [124] ++ Fm.txt y 2) ++ [41] := by
    rw [Fm.txt, Fm.wrap, if_pos (by omega)]
  rw [hE]
  obtain ⟨b, o, c, rfl, hc, hm, k1⟩ := nodes_head h
  have hpos := Fm.enc_pos (.or x y)
  have HH := Lib.hid h
  have hg0 := Grew.refl w
  rw [show kindOf (.or x y) = 3 from rfl] at k1
  have HA := Lib.hid (at_first (xs := Fm.enc (.or x y)) (k := (3, 0)) (a := x) (rest := Fm.enc y) rfl)
  have HB := Lib.hid (at_second (xs := Fm.enc (.or x y)) (k := (3, 0)) (a := x) (b := y) rfl)
  have hlen : (Fm.enc (.or x y)).length = 1 + (Fm.enc x).length + (Fm.enc y).length := by simp [Fm.enc]; omega
  have HN := Lib.hid hlen
  have h1 := Fm.txt_len x 1
  have h2 := Fm.txt_len y 2
  have HX := Lib.hid hx
  have HY := Lib.hid hy
  have hn1 : (Fm.enc x).length ≤ 1048576 := by omega
  have hn2 : (Fm.enc y).length ≤ 1048576 := by omega
  have hpy := Fm.enc_pos y
  clear hE h hx hy hlen
  generalize Fm.enc (.or x y) = T at *
  have s1 := bs_size (Fm.txt x 1)
  have s2 := bs_size (Fm.txt y 2)
  have z1 : (bs (Fm.txt x 1)).size ≤ 4194304 := by omega
  have z2 : (bs (Fm.txt y 2)).size ≤ 4194304 := by omega
  have HE : Hid (bs [40] ++ (bs (Fm.txt x 1) ++ bs [124] ++ bs (Fm.txt y 2)) ++ bs [41] = bs ([40] ++ (Fm.txt x 1 ++ [124] ++ Fm.txt y 2) ++ [41])) := by unfold Hid; simp only [bs_append]
  clear s1 s2 h1 h2
  generalize [40] ++ (Fm.txt x 1 ++ [124] ++ Fm.txt y 2) ++ [41] = Z at *
  go_enter Tryz.func113, Tryz.ntmps113
  go_wp2_with fail
  refine (l02Left_c _ T x _ (HH.out.grew (Grew.refl w)) (by omega) HA.out).mono ?_
  rintro e w2 ⟨v2, rfl, hN2, hg2⟩
  go_wp2_with fail
  refine (HX.out 1 _ _ (by omega) hN2 hn1).mono ?_
  rintro e w3 ⟨rfl, hg3⟩
  go_wp2_with fail
  refine (l02Right_c _ T x y _ (HH.out.grew (((Grew.refl w).trans hg2).trans hg3)) (by omega) HA.out HB.out HN.out).mono ?_
  rintro e w4 ⟨v4, rfl, hN4, hg4⟩
  go_wp2_with fail
  refine (HY.out 2 _ _ (by omega) hN4 hn2).mono ?_
  rintro e w5 ⟨rfl, hg5⟩
  go_wp2_with fail
  go_ret
  exact ⟨congrArg (fun z => Ending.returned (.string z)) HE.out, ((((Grew.refl w).trans hg2).trans hg3).trans hg4).trans hg5⟩

theorem write_imp_w (x y : Tree) (hf : Fm.isF y = false) (hx : WriteOk x) (hy : WriteOk y) (l : Nat) (v : Value) (w : World) (hl : 0 < l) (h : Nodes w v (Fm.enc (.imp x y))) (hn : (Fm.enc (.imp x y)).length ≤ 1048576) :
    Calls Tryz.prog 113 #[v, .int .i64 l] w (Says w (Fm.txt (.imp x y) l)) := by
  have hE : Fm.txt (.imp x y) l = [40] ++ (Fm.txt x 1 ++ [62] ++ Fm.txt y 0) ++ [41] := by
    rw [Fm.txt, if_neg (by simp [hf]), Fm.wrap, if_pos (by omega)]
  rw [hE]
  obtain ⟨b, o, c, rfl, hc, hm, k1⟩ := nodes_head h
  have hpos := Fm.enc_pos (.imp x y)
  have HH := Lib.hid h
  have hg0 := Grew.refl w
  have HQ := Lib.hid (fun v2 w h1 h2 => l02Equal_c (.slice (some ⟨b, o, none⟩) (Fm.enc (.imp x y)).length c) v2 (Fm.enc (.imp x y)) Fm.truth w h1 h2 (by omega))
  rw [decide_eq_false (fun h => by have := (enc_truth h).2; rw [this] at hf; cases hf)] at HQ
  have hky : (kindOf y == 1) = false := by rw [← isF_kind]; exact hf
  rw [show kindOf (.imp x y) = 4 from rfl] at k1
  have HA := Lib.hid (at_first (xs := Fm.enc (.imp x y)) (k := (4, 0)) (a := x) (rest := Fm.enc y) rfl)
  have HB := Lib.hid (at_second (xs := Fm.enc (.imp x y)) (k := (4, 0)) (a := x) (b := y) rfl)
  have hlen : (Fm.enc (.imp x y)).length = 1 + (Fm.enc x).length + (Fm.enc y).length := by simp [Fm.enc]; omega
  have HN := Lib.hid hlen
  have h1 := Fm.txt_len x 1
  have h2 := Fm.txt_len y 0
  have HX := Lib.hid hx
  have HY := Lib.hid hy
  have hn1 : (Fm.enc x).length ≤ 1048576 := by omega
  have hn2 : (Fm.enc y).length ≤ 1048576 := by omega
  have hpy := Fm.enc_pos y
  clear hE h hx hy hlen hf
  generalize Fm.enc (.imp x y) = T at *
  have s1 := bs_size (Fm.txt x 1)
  have s2 := bs_size (Fm.txt y 0)
  have z1 : (bs (Fm.txt x 1)).size ≤ 4194304 := by omega
  have z2 : (bs (Fm.txt y 0)).size ≤ 4194304 := by omega
  have HE : Hid (bs [40] ++ (bs (Fm.txt x 1) ++ bs [62] ++ bs (Fm.txt y 0)) ++ bs [41] = bs ([40] ++ (Fm.txt x 1 ++ [62] ++ Fm.txt y 0) ++ [41])) := by unfold Hid; simp only [bs_append]
  clear s1 s2 h1 h2
  generalize [40] ++ (Fm.txt x 1 ++ [62] ++ Fm.txt y 0) ++ [41] = Z at *
  go_enter Tryz.func113, Tryz.ntmps113
  go_wp2_with fail
  refine (l02True_c _).mono ?_
  rintro e w01 ⟨v01, rfl, ho01, hg01⟩
  go_wp2_with fail
  refine (HQ.out _ _ (HH.out.grew hg01) ho01.nodes).mono ?_
  rintro e w02 ⟨rfl, hg02⟩
  have hg2x := hg01.trans hg02
  go_wp2_with fail
  refine (l02Right_c _ T x y _ (HH.out.grew hg2x) (by omega) HA.out HB.out HN.out).mono ?_
  rintro e w03 ⟨v03, rfl, hN03, hg03⟩
  obtain ⟨b3, o3, c3, rfl, hc3, hm3, k3⟩ := nodes_head hN03
  have hg3x := hg2x.trans hg03
  have hgr3 := Grew.refl w03
  go_wp2_with fail
  clear k3
  refine (l02Left_c _ T x _ (HH.out.grew hg3x) (by omega) HA.out).mono ?_
  rintro e w2 ⟨v2, rfl, hN2, hg2⟩
  go_wp2_with fail
  refine (HX.out 1 _ _ (by omega) hN2 hn1).mono ?_
  rintro e w3 ⟨rfl, hg3⟩
  go_wp2_with fail
  refine (l02Right_c _ T x y _ (HH.out.grew ((hg3x.trans hg2).trans hg3)) (by omega) HA.out HB.out HN.out).mono ?_
  rintro e w4 ⟨v4, rfl, hN4, hg4⟩
  go_wp2_with fail
  refine (HY.out 0 _ _ (by omega) hN4 hn2).mono ?_
  rintro e w5 ⟨rfl, hg5⟩
  go_wp2_with fail
  go_ret
  exact ⟨congrArg (fun z => Ending.returned (.string z)) HE.out, (((hg3x.trans hg2).trans hg3).trans hg4).trans hg5⟩

theorem write_box (x : Tree) (hx : WriteOk x) : WriteOk (.box x) := by
  intro l v w hl h hn
  have hE : Fm.txt (.box x) l = [91, 93] ++ Fm.txt x 3 := rfl
  rw [hE]
  obtain ⟨b, o, c, rfl, hc, hm, k1⟩ := nodes_head h
  have hpos := Fm.enc_pos (.box x)
  have HH := Lib.hid h
  have hg0 := Grew.refl w
  rw [show kindOf (.box x) = 5 from rfl] at k1
  have ha := at_first (xs := Fm.enc (.box x)) (k := (5, 0)) (a := x) (rest := []) (by simp [Fm.enc])
  have hlen : (Fm.enc (.box x)).length = 1 + (Fm.enc x).length := by simp [Fm.enc]; omega
  have hsub := h.sub 1 (Fm.enc x).length (c - 1) (by omega) (by omega) (by omega)
  rw [ha.take] at hsub
  have HS := Lib.hid hsub
  have hpx := Fm.enc_pos x
  rw [show (Fm.enc x).length = (Fm.enc (.box x)).length - 1 by omega] at HS
  have h1 := Fm.txt_len x 3
  have HX := Lib.hid hx
  have hn1 : (Fm.enc x).length ≤ 1048576 := by omega
  have hc1 : 1 < (Fm.enc (.box x)).length := by omega
  clear hE h hx hlen ha hsub
  generalize Fm.enc (.box x) = T at *
  have s1 := bs_size (Fm.txt x 3)
  have z1 : (bs (Fm.txt x 3)).size ≤ 4194304 := by omega
  have HE : Hid (bs [91, 93] ++ bs (Fm.txt x 3) = bs ([91, 93] ++ Fm.txt x 3)) := by unfold Hid; rw [bs_append]
  clear s1 h1
  generalize [91, 93] ++ Fm.txt x 3 = Z at *
  go_enter Tryz.func113, Tryz.ntmps113
  go_wp2_with fail
  refine (HX.out 3 _ _ (by omega) HS.out hn1).mono ?_
  rintro e w3 ⟨rfl, hg3⟩
  go_wp2_with fail
  go_ret
  exact ⟨congrArg (fun z => Ending.returned (.string z)) HE.out, hg3⟩

theorem write_dia (x : Tree) (hx : WriteOk x) : WriteOk (.dia x) := by
  intro l v w hl h hn
  have hE : Fm.txt (.dia x) l = [60, 62] ++ Fm.txt x 3 := rfl
  rw [hE]
  obtain ⟨b, o, c, rfl, hc, hm, k1⟩ := nodes_head h
  have hpos := Fm.enc_pos (.dia x)
  have HH := Lib.hid h
  have hg0 := Grew.refl w
  rw [show kindOf (.dia x) = 6 from rfl] at k1
  have ha := at_first (xs := Fm.enc (.dia x)) (k := (6, 0)) (a := x) (rest := []) (by simp [Fm.enc])
  have hlen : (Fm.enc (.dia x)).length = 1 + (Fm.enc x).length := by simp [Fm.enc]; omega
  have hsub := h.sub 1 (Fm.enc x).length (c - 1) (by omega) (by omega) (by omega)
  rw [ha.take] at hsub
  have HS := Lib.hid hsub
  have hpx := Fm.enc_pos x
  rw [show (Fm.enc x).length = (Fm.enc (.dia x)).length - 1 by omega] at HS
  have h1 := Fm.txt_len x 3
  have HX := Lib.hid hx
  have hn1 : (Fm.enc x).length ≤ 1048576 := by omega
  have hc1 : 1 < (Fm.enc (.dia x)).length := by omega
  clear hE h hx hlen ha hsub
  generalize Fm.enc (.dia x) = T at *
  have s1 := bs_size (Fm.txt x 3)
  have z1 : (bs (Fm.txt x 3)).size ≤ 4194304 := by omega
  have HE : Hid (bs [60, 62] ++ bs (Fm.txt x 3) = bs ([60, 62] ++ Fm.txt x 3)) := by unfold Hid; rw [bs_append]
  clear s1 h1
  generalize [60, 62] ++ Fm.txt x 3 = Z at *
  go_enter Tryz.func113, Tryz.ntmps113
  go_wp2_with fail
  refine (HX.out 3 _ _ (by omega) HS.out hn1).mono ?_
  rintro e w3 ⟨rfl, hg3⟩
  go_wp2_with fail
  go_ret
  exact ⟨congrArg (fun z => Ending.returned (.string z)) HE.out, hg3⟩

theorem write_tru (x : Tree) (hf : Fm.isF x = true) : WriteOk (.imp x .fls) := by
  intro l v w hl h hn
  have hE : Fm.txt (.imp x .fls) l = [84] := by
    rw [Fm.txt, if_pos (show Fm.isF .fls = true from rfl), if_pos hf]
  rw [hE]
  obtain ⟨b, o, c, rfl, hc, hm, k1⟩ := nodes_head h
  have hpos := Fm.enc_pos (.imp x .fls)
  have HH := Lib.hid h
  have hg0 := Grew.refl w
  have HQ := Lib.hid (fun v2 w h1 h2 => l02Equal_c (.slice (some ⟨b, o, none⟩) (Fm.enc (.imp x .fls)).length c) v2 (Fm.enc (.imp x .fls)) Fm.truth w h1 h2 (by omega))
  rw [decide_eq_true (by rw [Fm.isF_eq hf]; rfl)] at HQ
  rw [show kindOf (.imp x .fls) = 4 from rfl] at k1
  have HA := Lib.hid (at_first (xs := Fm.enc (.imp x .fls)) (k := (4, 0)) (a := x) (rest := Fm.enc .fls) rfl)
  have HB := Lib.hid (at_second (xs := Fm.enc (.imp x .fls)) (k := (4, 0)) (a := x) (b := .fls) rfl)
  have hlen : (Fm.enc (.imp x .fls)).length = 1 + (Fm.enc x).length + (Fm.enc .fls).length := by simp [Fm.enc]; omega
  have HN := Lib.hid hlen
  have hn1 : (Fm.enc x).length ≤ 1048576 := by omega
  clear hE h hlen hf
  generalize Fm.enc (.imp x .fls) = T at *
  go_enter Tryz.func113, Tryz.ntmps113
  go_wp2_with fail
  refine (l02True_c _).mono ?_
  rintro e w01 ⟨v01, rfl, ho01, hg01⟩
  go_wp2_with fail
  refine (HQ.out _ _ (HH.out.grew hg01) ho01.nodes).mono ?_
  rintro e w02 ⟨rfl, hg02⟩
  have hg2x := hg01.trans hg02
  go_wp2_with fail
  go_ret
  exact ⟨rfl, hg2x⟩

theorem write_not (x : Tree) (hf : Fm.isF x = false) (hx : WriteOk x) : WriteOk (.imp x .fls) := by
  intro l v w hl h hn
  have hE : Fm.txt (.imp x .fls) l = [126] ++ Fm.txt x 3 := by
    rw [Fm.txt, if_pos (show Fm.isF .fls = true from rfl), if_neg (by simp [hf])]
  rw [hE]
  obtain ⟨b, o, c, rfl, hc, hm, k1⟩ := nodes_head h
  have hpos := Fm.enc_pos (.imp x .fls)
  have HH := Lib.hid h
  have hg0 := Grew.refl w
  have HQ := Lib.hid (fun v2 w h1 h2 => l02Equal_c (.slice (some ⟨b, o, none⟩) (Fm.enc (.imp x .fls)).length c) v2 (Fm.enc (.imp x .fls)) Fm.truth w h1 h2 (by omega))
  rw [decide_eq_false (fun h => by have := (enc_truth h).1; rw [this] at hf; cases hf)] at HQ
  rw [show kindOf (.imp x .fls) = 4 from rfl] at k1
  have HA := Lib.hid (at_first (xs := Fm.enc (.imp x .fls)) (k := (4, 0)) (a := x) (rest := Fm.enc .fls) rfl)
  have HB := Lib.hid (at_second (xs := Fm.enc (.imp x .fls)) (k := (4, 0)) (a := x) (b := .fls) rfl)
  have hlen : (Fm.enc (.imp x .fls)).length = 1 + (Fm.enc x).length + (Fm.enc .fls).length := by simp [Fm.enc]; omega
  have HN := Lib.hid hlen
  have hn1 : (Fm.enc x).length ≤ 1048576 := by omega
  have h1 := Fm.txt_len x 3
  have HX := Lib.hid hx
  have s1 := bs_size (Fm.txt x 3)
  have z1 : (bs (Fm.txt x 3)).size ≤ 4194304 := by omega
  have HE : Hid (bs [126] ++ bs (Fm.txt x 3) = bs ([126] ++ Fm.txt x 3)) := by unfold Hid; rw [bs_append]
  clear s1 h1 hx
  generalize [126] ++ Fm.txt x 3 = Z at *
  clear hE h hlen hf
  generalize Fm.enc (.imp x .fls) = T at *
  go_enter Tryz.func113, Tryz.ntmps113
  go_wp2_with fail
  refine (l02True_c _).mono ?_
  rintro e w01 ⟨v01, rfl, ho01, hg01⟩
  go_wp2_with fail
  refine (HQ.out _ _ (HH.out.grew hg01) ho01.nodes).mono ?_
  rintro e w02 ⟨rfl, hg02⟩
  have hg2x := hg01.trans hg02
  go_wp2_with fail
  refine (l02Right_c _ T x .fls _ (HH.out.grew hg2x) (by omega) HA.out HB.out HN.out).mono ?_
  rintro e w03 ⟨v03, rfl, hN03, hg03⟩
  obtain ⟨b3, o3, c3, rfl, hc3, hm3, k3⟩ := nodes_head hN03
  rw [show kindOf .fls = 1 from rfl] at k3
  have hp3 := Fm.enc_pos .fls
  have hg3x := hg2x.trans hg03
  have hgr3 := Grew.refl w03
  go_wp2_with fail
  clear k3
  refine (l02Left_c _ T x _ (HH.out.grew hg3x) (by omega) HA.out).mono ?_
  rintro e w4 ⟨v4, rfl, hN4, hg4⟩
  go_wp2_with fail
  refine (HX.out 3 _ _ (by omega) hN4 hn1).mono ?_
  rintro e w5 ⟨rfl, hg5⟩
  go_wp2_with fail
  go_ret
  exact ⟨congrArg (fun z => Ending.returned (.string z)) HE.out, (hg3x.trans hg4).trans hg5⟩

theorem write_fls : WriteOk .fls := by
  intro l v w hl h hn
  have hE : Fm.txt .fls l = [70] := rfl
  rw [hE]
  obtain ⟨b, o, c, rfl, hc, hm, k1⟩ := nodes_head h
  have hpos := Fm.enc_pos (.fls)
  have HH := Lib.hid h
  have hg0 := Grew.refl w
  rw [show kindOf .fls = 1 from rfl] at k1
  clear hE h
  generalize Fm.enc .fls = T at *
  go_enter Tryz.func113, Tryz.ntmps113
  go_wp2_with fail
  go_ret
  exact ⟨rfl, hg0⟩

theorem write_var (n : Fin 6) : WriteOk (.var n) := by
  intro l v w hl h hn
  have hE : Fm.txt (.var n) l = [UInt8.ofNat (112 + n.val)] := rfl
  rw [hE]
  have k2 : ∃ b o c, v = .slice (some ⟨b, o, none⟩) (Fm.enc (.var n)).length c ∧ ∀ W, Grew w W → W.cell? ⟨b, o + 1, none⟩ = some (.int .i64 (n.val : Int)) := by
    rcases h.open_ with ⟨_, h0⟩ | ⟨b, o, c, hv, _, _, _, hf⟩
    · simp [Fm.enc] at h0
    · refine ⟨b, o, c, hv, fun W hW => ?_⟩
      have := (hf 0 (by simp [Fm.enc]) W hW).2
      rw [show sy (Fm.enc (.var n)) 0 = (n.val : Int) from rfl] at this
      simpa using this
  obtain ⟨b, o, c, rfl, hc, hm, k1⟩ := nodes_head h
  have hpos := Fm.enc_pos (.var n)
  have HH := Lib.hid h
  have hg0 := Grew.refl w
  obtain ⟨b', o', c', hv', k2⟩ := k2
  simp only [Value.slice.injEq, Option.some.injEq, Addr.mk.injEq, and_true, true_and] at hv'
  obtain ⟨⟨rfl, rfl⟩, rfl⟩ := hv'
  rw [show kindOf (.var n) = 0 from rfl] at k1
  have hn6 := n.isLt
  clear hE h
  generalize Fm.enc (.var n) = T at *
  generalize n.val = q at *
  go_enter Tryz.func113, Tryz.ntmps113
  go_wp2_with fail
  go_quiet (fail)
  go_wp2_with fail
  go_ret
  exact ⟨congrArg (fun z => Ending.returned (.string z)) (letter_cut hn6), hg0.drewN _⟩

theorem write_ok (t : Tree) : WriteOk t := by
  induction t with
  | var n => exact write_var n
  | fls => exact write_fls
  | and x y hx hy =>
    intro l v w hl h hn
    rcases Nat.lt_or_ge 2 l with hw | hw
    · exact write_and_w x y hx hy l v w hw h hn
    · exact write_and_n x y hx hy l v w hw h hn
  | or x y hx hy =>
    intro l v w hl h hn
    rcases Nat.lt_or_ge 1 l with hw | hw
    · exact write_or_w x y hx hy l v w hw h hn
    · exact write_or_n x y hx hy l v w hw h hn
  | imp x y hx hy =>
    cases hf : Fm.isF y with
    | true =>
      obtain rfl := Fm.isF_eq hf
      cases hg : Fm.isF x with
      | true => exact write_tru x hg
      | false => exact write_not x hg hx
    | false =>
      intro l v w hl h hn
      rcases Nat.lt_or_ge 0 l with hw | hw
      · exact write_imp_w x y hf hx hy l v w hw h hn
      · exact write_imp_n x y hf hx hy l v w hw h hn
  | box x hx => exact write_box x hx
  | dia x hx => exact write_dia x hx

theorem l02Text_c (t : Tree) (v : Value) (w : World) (h : Nodes w v (Fm.enc t)) (hn : (Fm.enc t).length ≤ 1048576) :
    Calls Tryz.prog 89 #[v] w (Says w (Fm.txt t 0)) := by
  have HT := Lib.hid (write_ok t 0 v w (by omega) h hn)
  go_enter Tryz.func89, Tryz.ntmps89
  go_wp2_with fail
  refine HT.out.mono ?_
  rintro e w1 ⟨rfl, hg1⟩
  go_wp2_with fail
  go_ret
  exact ⟨rfl, hg1⟩
end Go.Proofs.YtfpkfgimhanekaaGreatDoor

/- A text that reads to a tree whose text it is. -/
namespace Go.Proofs.YtfpkfgimhanekaaGreatDoor
open Go.RowKit
open Fm (Nd)

theorem enc_pre (t : Fm.Tree) : ∀ (u : Fm.Tree) (a b : List Nd), Fm.enc t ++ a = Fm.enc u ++ b → t = u ∧ a = b := by
  induction t with
  | var v =>
    intro u a b h
    cases u <;> simp [Fm.enc] at h
    exact ⟨congrArg Fm.Tree.var (Fin.ext (by have := h.1; omega)), h.2⟩
  | fls =>
    intro u a b h
    cases u <;> simp [Fm.enc] at h
    exact ⟨rfl, h⟩
  | and x y hx hy =>
    intro u a b h
    cases u <;> simp [Fm.enc] at h
    obtain ⟨e1, h1⟩ := hx _ _ _ h
    obtain ⟨e2, h2⟩ := hy _ _ _ h1
    exact ⟨by rw [e1, e2], h2⟩
  | or x y hx hy =>
    intro u a b h
    cases u <;> simp [Fm.enc] at h
    obtain ⟨e1, h1⟩ := hx _ _ _ h
    obtain ⟨e2, h2⟩ := hy _ _ _ h1
    exact ⟨by rw [e1, e2], h2⟩
  | imp x y hx hy =>
    intro u a b h
    cases u <;> simp [Fm.enc] at h
    obtain ⟨e1, h1⟩ := hx _ _ _ h
    obtain ⟨e2, h2⟩ := hy _ _ _ h1
    exact ⟨by rw [e1, e2], h2⟩
  | box x hx =>
    intro u a b h
    cases u <;> simp [Fm.enc] at h
    obtain ⟨e1, h1⟩ := hx _ _ _ h
    exact ⟨by rw [e1], h1⟩
  | dia x hx =>
    intro u a b h
    cases u <;> simp [Fm.enc] at h
    obtain ⟨e1, h1⟩ := hx _ _ _ h
    exact ⟨by rw [e1], h1⟩
theorem enc_inj {t u : Fm.Tree} (h : Fm.enc t = Fm.enc u) : t = u := (enc_pre t u [] [] (by simpa using h)).1

/-- The text is the text of a formula. -/
def IsGood (s : ByteArray) : Prop := ∃ t, Fm.pf s = (Fm.enc t, 0, 0) ∧ bs (Fm.txt t 0) = s
noncomputable def gd (s : ByteArray) : Bool := @decide (IsGood s) (Classical.propDecidable _)
theorem gd_true {s : ByteArray} (h : IsGood s) : gd s = true := by
  unfold gd
  exact @decide_eq_true _ (Classical.propDecidable _) h
theorem gd_false {s : ByteArray} (h : ¬ IsGood s) : gd s = false := by
  unfold gd
  exact @decide_eq_false _ (Classical.propDecidable _) h

theorem pf_cases (s : ByteArray) : (∃ t, Fm.pf s = (Fm.enc t, 0, 0)) ∨ ∃ p c, Fm.pf s = ([], p, c) ∧ (c == 0) = false := by
  unfold Fm.pf
  split
  · exact .inr ⟨_, _, rfl, by decide⟩
  · split
    · exact .inr ⟨_, _, rfl, by decide⟩
    · split
      · exact .inr ⟨_, _, rfl, by decide⟩
      · obtain ⟨t, ht⟩ := Fm.parse_enc s.data.toList Fm.fuel
        refine .inl ⟨t, ?_⟩
        rw [← ht]
        rfl
theorem gd_bad {s : ByteArray} {p : Nat} {c : Int} (h : Fm.pf s = ([], p, c)) (hc : (c == 0) = false) : gd s = false := by
  apply gd_false
  rintro ⟨t, ht, _⟩
  rw [h] at ht
  simp only [Prod.mk.injEq] at ht
  rw [ht.2.2] at hc
  cases hc
theorem gd_tree {s : ByteArray} {t : Fm.Tree} (h : Fm.pf s = (Fm.enc t, 0, 0)) : gd s = ((bs (Fm.txt t 0)).toList == s.toList) := by
  have e : ((bs (Fm.txt t 0)).toList == s.toList) = true ↔ bs (Fm.txt t 0) = s := by
    exact Lib.bytes_beq_iff _ _
  cases hb : ((bs (Fm.txt t 0)).toList == s.toList) with
  | true => exact gd_true ⟨t, h, e.1 hb⟩
  | false =>
    apply gd_false
    rintro ⟨u, hu, hs⟩
    rw [h] at hu
    simp only [Prod.mk.injEq, and_true] at hu
    have := enc_inj hu
    subst this
    rw [e.2 hs] at hb
    cases hb

/-- What the reference's test of a text gives. -/
def GivesG (w : World) (s : ByteArray) (e : Ending) (w' : World) : Prop := ∃ v, e = .returned (.tuple #[v, .bool (gd s)]) ∧ Own w' w.heap.size v (Fm.pf s).1 ∧ Grew w w'

theorem l02Good_c (s : ByteArray) (w : World) (hs : s.size ≤ 140737488355328) :
    Calls Tryz.prog 73 #[.string s] w (GivesG w s) := by
  have HP := fun w => specParse_c s w hs
  unfold GivesG
  rcases pf_cases s with ⟨t, ht⟩ | ⟨p, c, hp, hc⟩
  · have hn := Fm.pf_len s
    rw [gd_tree ht]
    rw [ht] at HP hn ⊢
    simp only at HP hn ⊢
    replace HP := Lib.hid HP
    have HT := Lib.hid (fun v w h => l02Text_c t v w h (by omega))
    clear ht
    generalize Fm.enc t = xs at *
    go_enter Tryz.func73, Tryz.ntmps73
    go_wp2_with fail
    refine (HP.out _).mono ?_
    rintro e w1 ⟨v1, rfl, ho1, hg1, _⟩
    go_wp2_with fail
    refine (HT.out _ _ ho1.nodes).mono ?_
    rintro e w2 ⟨rfl, hg2⟩
    go_wp2_with fail
    go_ret2
    exact ⟨_, rfl, ho1.grew hg2, hg1.trans hg2⟩
  · rw [gd_bad hp hc]
    rw [hp] at HP ⊢
    replace HP := Lib.hid HP
    clear hp
    go_enter Tryz.func73, Tryz.ntmps73
    go_wp2_with fail
    refine (HP.out _).mono ?_
    rintro e w1 ⟨v1, rfl, ho1, hg1, _⟩
    go_wp2_with fail
    go_ret2
    exact ⟨.slice none 0 0, rfl, Own.nil_ _ _, hg1⟩
end Go.Proofs.YtfpkfgimhanekaaGreatDoor

/- The parts of a formula, as the program's text needs them. -/
namespace Go.Proofs.YtfpkfgimhanekaaGreatDoor
open Go.RowKit
open Fm (Nd Tree)

theorem first_c (v : Value) (xs : List Nd) (t : Tree) (w : World) (h : Nodes w v xs) (hn : xs.length ≤ 1099511627776) (ht : At xs 1 t) :
    Calls Tryz.prog 133 #[v] w (Cuts w (Fm.enc t)) := by
  have HT := Lib.hid ht
  clear ht
  go_enter Tryz.func133, Tryz.ntmps133
  go_wp2_with fail
  refine (part_c _ xs 1 t _ h hn HT.out).mono ?_
  rintro e w1 ⟨v1, rfl, hN1, hg1⟩
  go_wp2_with fail
  go_ret
  exact ⟨_, rfl, hN1, hg1⟩

theorem second_c (v : Value) (xs : List Nd) (a t : Tree) (w : World) (h : Nodes w v xs) (hn : xs.length ≤ 1099511627776) (ha : At xs 1 a) (ht : At xs (1 + (Fm.enc a).length) t) :
    Calls Tryz.prog 134 #[v] w (Cuts w (Fm.enc t)) := by
  have HA := Lib.hid ha
  have HT := Lib.hid ht
  clear ha ht
  go_enter Tryz.func134, Tryz.ntmps134
  go_wp2_with fail
  refine (partEnd_at _ xs 1 a _ h hn HA.out).mono ?_
  rintro e w1 ⟨rfl, hg1⟩
  go_wp2_with fail
  refine (part_c _ xs (1 + (Fm.enc a).length) t _ (h.grew hg1) hn HT.out).mono ?_
  rintro e w2 ⟨v2, rfl, hN2, hg2⟩
  go_wp2_with fail
  go_ret
  exact ⟨_, rfl, hN2, hg1.trans hg2⟩

theorem isFalsum_c (v : Value) (t : Tree) (w : World) (h : Nodes w v (Fm.enc t)) :
    Calls Tryz.prog 136 #[v] w fun e w' => e = .returned (.bool (Fm.isF t)) ∧ Grew w w' := by
  have hpos := Fm.enc_pos t
  rcases h.open_ with ⟨rfl, h0⟩ | ⟨b, o, c, rfl, hc, hm, hb, hf⟩
  · rw [h0] at hpos; simp at hpos
  · have k1 := (hf 0 (by omega) w (Grew.refl _)).1
    rw [kd_enc] at k1
    rw [isF_kind]
    simp only [Nat.zero_mul, Nat.add_zero] at k1
    clear hf h
    go_enter Tryz.func136, Tryz.ntmps136
    go_wp2_with fail
    go_ret
    exact ⟨rfl, Grew.refl _⟩

theorem isNegation_c (v : Value) (t : Tree) (w : World) (h : Nodes w v (Fm.enc t)) (hn : (Fm.enc t).length ≤ 1099511627776) :
    Calls Tryz.prog 135 #[v] w fun e w' => e = .returned (.bool (isNeg t)) ∧ Grew w w' := by
  have hpos := Fm.enc_pos t
  rcases h.open_ with ⟨rfl, h0⟩ | ⟨b, o, c, rfl, hc, hm, hb, hf⟩
  · rw [h0] at hpos; simp at hpos
  · have k1 := (hf 0 (by omega) w (Grew.refl _)).1
    rw [kd_enc] at k1
    simp only [Nat.zero_mul, Nat.add_zero] at k1
    clear hf
    by_cases hk : kindOf t = 4
    · obtain ⟨x, y, rfl⟩ : ∃ x y, t = .imp x y := by cases t <;> simp_all [kindOf]
      have ha := at_first (xs := Fm.enc (.imp x y)) (k := (4, 0)) (a := x) (rest := Fm.enc y) rfl
      have hb2 := at_second (xs := Fm.enc (.imp x y)) (k := (4, 0)) (a := x) (b := y) rfl
      have HA := Lib.hid ha
      have HB := Lib.hid hb2
      have HH := Lib.hid h
      have hE : isNeg (.imp x y) = Fm.isF y := rfl
      rw [hE]
      rw [hk] at k1
      clear ha hb2 h hE hk
      generalize Fm.enc (.imp x y) = T at *
      go_enter Tryz.func135, Tryz.ntmps135
      go_wp2_with fail
      refine (second_c _ T x y _ HH.out hn HA.out HB.out).mono ?_
      rintro e w1 ⟨v1, rfl, hN1, hg1⟩
      go_wp2_with fail
      refine (isFalsum_c _ y _ hN1).mono ?_
      rintro e w2 ⟨rfl, hg2⟩
      go_wp2_with fail
      go_ret
      exact ⟨by simp, hg1.trans hg2⟩
    · have hE : isNeg t = false := by cases t <;> simp_all [isNeg, kindOf]
      rw [hE]
      have hk' : (kindOf t == 4) = false := by simpa using hk
      clear hE hk h
      generalize kindOf t = K at *
      go_enter Tryz.func135, Tryz.ntmps135
      go_wp2_with fail
      go_ret
      exact ⟨rfl, Grew.refl _⟩

theorem levelOf_c (v : Value) (t : Tree) (w : World) (h : Nodes w v (Fm.enc t)) (hn : (Fm.enc t).length ≤ 1099511627776) :
    Calls Tryz.prog 132 #[v] w fun e w' => e = .returned (.int .i64 (Fm.own t)) ∧ Grew w w' := by
  have hpos := Fm.enc_pos t
  rcases h.open_ with ⟨rfl, h0⟩ | ⟨b, o, c, rfl, hc, hm, hb, hf⟩
  · rw [h0] at hpos; simp at hpos
  · have k1 := fun W hW => (hf 0 (by omega) W hW).1
    rw [kd_enc] at k1
    simp only [Nat.zero_mul, Nat.add_zero] at k1
    have HN := Lib.hid (fun w h => isNegation_c (.slice (some ⟨b, o, none⟩) (Fm.enc t).length c) t w h hn)
    have HH := Lib.hid h
    have hg0 := Grew.refl w
    clear hf h
    by_cases hk : kindOf t = 4
    · rw [hk] at k1
      cases hng : isNeg t with
      | true =>
        have hE : Fm.own t = 3 := by cases t <;> simp_all [isNeg, kindOf, Fm.own]
        rw [hE]
        rw [hng] at HN
        clear hE hk hng
        go_enter Tryz.func132, Tryz.ntmps132
        go_wp2_with fail
        refine (HN.out _ HH.out).mono ?_
        rintro e w1 ⟨rfl, hg1⟩
        go_wp2_with fail
        go_ret
        exact ⟨rfl, hg1⟩
      | false =>
        have hE : Fm.own t = 0 := by cases t <;> simp_all [isNeg, kindOf, Fm.own]
        rw [hE]
        rw [hng] at HN
        clear hE hk hng
        go_enter Tryz.func132, Tryz.ntmps132
        go_wp2_with fail
        refine (HN.out _ HH.out).mono ?_
        rintro e w1 ⟨rfl, hg1⟩
        go_wp2_with fail
        go_ret
        exact ⟨rfl, hg1⟩
    · have hk4 : (kindOf t == 4) = false := by simpa using hk
      by_cases hk3 : kindOf t = 3
      · have hE : Fm.own t = 1 := by cases t <;> simp_all [kindOf, Fm.own]
        rw [hE]
        rw [hk3] at k1
        clear hE hk hk4 hk3
        go_enter Tryz.func132, Tryz.ntmps132
        go_wp2_with fail
        go_ret
        exact ⟨rfl, Grew.refl _⟩
      by_cases hk2 : kindOf t = 2
      · have hE : Fm.own t = 2 := by cases t <;> simp_all [kindOf, Fm.own]
        rw [hE]
        rw [hk2] at k1
        clear hE hk hk4 hk3 hk2
        go_enter Tryz.func132, Tryz.ntmps132
        go_wp2_with fail
        go_ret
        exact ⟨rfl, Grew.refl _⟩
      · have hE : Fm.own t = 3 := by cases t <;> simp_all [kindOf, Fm.own]
        rw [hE]
        have hk3' : (kindOf t == 3) = false := by simpa using hk3
        have hk2' : (kindOf t == 2) = false := by simpa using hk2
        clear hE hk hk3 hk2 HN HH
        generalize kindOf t = K at *
        go_enter Tryz.func132, Tryz.ntmps132
        go_wp2_with fail
        go_ret
        exact ⟨rfl, Grew.refl _⟩
end Go.Proofs.YtfpkfgimhanekaaGreatDoor

/- The text of a formula: the program's textAt. -/
namespace Go.Proofs.YtfpkfgimhanekaaGreatDoor
open Go.RowKit
open Fm (Nd Tree)

def TextOk (t : Tree) : Prop := ∀ (l : Nat) (v : Value) (w : World), l ≤ 3 → Nodes w v (Fm.enc t) → (Fm.enc t).length ≤ 1048576 →
  Calls Tryz.prog 114 #[v, .int .i64 l] w (Says w (Fm.txt t l))
/-- The same where no brackets are needed. -/
def BodyOk (t : Tree) : Prop := ∀ (l : Nat) (v : Value) (w : World), l ≤ Fm.own t → Nodes w v (Fm.enc t) → (Fm.enc t).length ≤ 1048576 →
  Calls Tryz.prog 114 #[v, .int .i64 l] w (Says w (Fm.txt t l))

theorem body_and (x y : Tree) (hx : TextOk x) (hy : TextOk y) : BodyOk (.and x y) := by
  intro l v w hl h hn
  have hown : Fm.own (.and x y) = 2 := by rfl
  have hE : Fm.txt (.and x y) l = Fm.txt x 2 ++ [38] ++ Fm.txt y 3 := by
    rw [Fm.txt, Fm.wrap, if_neg (by omega)]
  rw [hE]
  rw [hown] at hl
  obtain ⟨b, o, c, rfl, hc, hm, k1⟩ := nodes_head h
  have hpos := Fm.enc_pos (.and x y)
  have HL := Lib.hid (levelOf_c _ _ w h (by omega))
  have HH := Lib.hid h
  have hg0 := Grew.refl w
  rw [hown] at HL
  rw [show kindOf (.and x y) = 2 from rfl] at k1
  have HA := Lib.hid (at_first (xs := Fm.enc (.and x y)) (k := (2, 0)) (a := x) (rest := Fm.enc y) rfl)
  have HB := Lib.hid (at_second (xs := Fm.enc (.and x y)) (k := (2, 0)) (a := x) (b := y) rfl)
  have hlen : (Fm.enc (.and x y)).length = 1 + ((Fm.enc x).length + (Fm.enc y).length) := by simp [Fm.enc]; omega
  have h1 := Fm.txt_len x 2
  have h2 := Fm.txt_len y 3
  have HX := Lib.hid hx
  have HY := Lib.hid hy
  have hn1 : (Fm.enc x).length ≤ 1048576 := by omega
  have hn2 : (Fm.enc y).length ≤ 1048576 := by omega
  clear hE h hx hy hlen hown
  generalize Fm.enc (.and x y) = T at *
  have s1 := bs_size (Fm.txt x 2)
  have s2 := bs_size (Fm.txt y 3)
  have z1 : (bs (Fm.txt x 2)).size ≤ 4194304 := by omega
  have z2 : (bs (Fm.txt y 3)).size ≤ 4194304 := by omega
  have HE : Hid (bs (Fm.txt x 2) ++ bs [38] ++ bs (Fm.txt y 3) = bs (Fm.txt x 2 ++ [38] ++ Fm.txt y 3)) := by unfold Hid; rw [bs_append, bs_append]
  clear s1 s2 h1 h2
  generalize Fm.txt x 2 ++ [38] ++ Fm.txt y 3 = Z at *
  go_enter Tryz.func114, Tryz.ntmps114
  go_wp2_with fail
  refine HL.out.mono ?_
  rintro e w1 ⟨rfl, hg1⟩
  go_wp2_with fail
  refine (first_c _ T x _ (HH.out.grew hg1) (by omega) HA.out).mono ?_
  rintro e w2 ⟨v2, rfl, hN2, hg2⟩
  go_wp2_with fail
  refine (HX.out 2 _ _ (by omega) hN2 hn1).mono ?_
  rintro e w3 ⟨rfl, hg3⟩
  go_wp2_with fail
  refine (second_c _ T x y _ (HH.out.grew ((hg1.trans hg2).trans hg3)) (by omega) HA.out HB.out).mono ?_
  rintro e w4 ⟨v4, rfl, hN4, hg4⟩
  go_wp2_with fail
  refine (HY.out 3 _ _ (by omega) hN4 hn2).mono ?_
  rintro e w5 ⟨rfl, hg5⟩
  go_wp2_with fail
  go_ret
  exact ⟨congrArg (fun z => Ending.returned (.string z)) HE.out, (((hg1.trans hg2).trans hg3).trans hg4).trans hg5⟩

theorem body_or (x y : Tree) (hx : TextOk x) (hy : TextOk y) : BodyOk (.or x y) := by
  intro l v w hl h hn
  have hown : Fm.own (.or x y) = 1 := by rfl
  have hE : Fm.txt (.or x y) l = Fm.txt x 1 ++ [124] ++ Fm.txt y 2 := by
    rw [Fm.txt, Fm.wrap, if_neg (by omega)]
  rw [hE]
  rw [hown] at hl
  obtain ⟨b, o, c, rfl, hc, hm, k1⟩ := nodes_head h
  have hpos := Fm.enc_pos (.or x y)
  have HL := Lib.hid (levelOf_c _ _ w h (by omega))
  have HH := Lib.hid h
  have hg0 := Grew.refl w
  rw [hown] at HL
  rw [show kindOf (.or x y) = 3 from rfl] at k1
  have HA := Lib.hid (at_first (xs := Fm.enc (.or x y)) (k := (3, 0)) (a := x) (rest := Fm.enc y) rfl)
  have HB := Lib.hid (at_second (xs := Fm.enc (.or x y)) (k := (3, 0)) (a := x) (b := y) rfl)
  have hlen : (Fm.enc (.or x y)).length = 1 + ((Fm.enc x).length + (Fm.enc y).length) := by simp [Fm.enc]; omega
  have h1 := Fm.txt_len x 1
  have h2 := Fm.txt_len y 2
  have HX := Lib.hid hx
  have HY := Lib.hid hy
  have hn1 : (Fm.enc x).length ≤ 1048576 := by omega
  have hn2 : (Fm.enc y).length ≤ 1048576 := by omega
  clear hE h hx hy hlen hown
  generalize Fm.enc (.or x y) = T at *
  have s1 := bs_size (Fm.txt x 1)
  have s2 := bs_size (Fm.txt y 2)
  have z1 : (bs (Fm.txt x 1)).size ≤ 4194304 := by omega
  have z2 : (bs (Fm.txt y 2)).size ≤ 4194304 := by omega
  have HE : Hid (bs (Fm.txt x 1) ++ bs [124] ++ bs (Fm.txt y 2) = bs (Fm.txt x 1 ++ [124] ++ Fm.txt y 2)) := by unfold Hid; rw [bs_append, bs_append]
  clear s1 s2 h1 h2
  generalize Fm.txt x 1 ++ [124] ++ Fm.txt y 2 = Z at *
  go_enter Tryz.func114, Tryz.ntmps114
  go_wp2_with fail
  refine HL.out.mono ?_
  rintro e w1 ⟨rfl, hg1⟩
  go_wp2_with fail
  refine (first_c _ T x _ (HH.out.grew hg1) (by omega) HA.out).mono ?_
  rintro e w2 ⟨v2, rfl, hN2, hg2⟩
  go_wp2_with fail
  refine (HX.out 1 _ _ (by omega) hN2 hn1).mono ?_
  rintro e w3 ⟨rfl, hg3⟩
  go_wp2_with fail
  refine (second_c _ T x y _ (HH.out.grew ((hg1.trans hg2).trans hg3)) (by omega) HA.out HB.out).mono ?_
  rintro e w4 ⟨v4, rfl, hN4, hg4⟩
  go_wp2_with fail
  refine (HY.out 2 _ _ (by omega) hN4 hn2).mono ?_
  rintro e w5 ⟨rfl, hg5⟩
  go_wp2_with fail
  go_ret
  exact ⟨congrArg (fun z => Ending.returned (.string z)) HE.out, (((hg1.trans hg2).trans hg3).trans hg4).trans hg5⟩

theorem body_imp (x y : Tree) (hf : Fm.isF y = false) (hx : TextOk x) (hy : TextOk y) : BodyOk (.imp x y) := by
  intro l v w hl h hn
  have hown : Fm.own (.imp x y) = 0 := by simp [Fm.own, hf]
  have hE : Fm.txt (.imp x y) l = Fm.txt x 1 ++ [62] ++ Fm.txt y 0 := by
    rw [Fm.txt, if_neg (by simp [hf]), Fm.wrap, if_neg (by omega)]
  rw [hE]
  rw [hown] at hl
  obtain ⟨b, o, c, rfl, hc, hm, k1⟩ := nodes_head h
  have hpos := Fm.enc_pos (.imp x y)
  have HL := Lib.hid (levelOf_c _ _ w h (by omega))
  have HH := Lib.hid h
  have hg0 := Grew.refl w
  have hng : isNeg (.imp x y) = false := hf
  have HG := Lib.hid (fun w h => isNegation_c (.slice (some ⟨b, o, none⟩) (Fm.enc (.imp x y)).length c) (.imp x y) w h (by omega))
  rw [hng] at HG
  rw [hown] at HL
  rw [show kindOf (.imp x y) = 4 from rfl] at k1
  have HA := Lib.hid (at_first (xs := Fm.enc (.imp x y)) (k := (4, 0)) (a := x) (rest := Fm.enc y) rfl)
  have HB := Lib.hid (at_second (xs := Fm.enc (.imp x y)) (k := (4, 0)) (a := x) (b := y) rfl)
  have hlen : (Fm.enc (.imp x y)).length = 1 + ((Fm.enc x).length + (Fm.enc y).length) := by simp [Fm.enc]; omega
  have h1 := Fm.txt_len x 1
  have h2 := Fm.txt_len y 0
  have HX := Lib.hid hx
  have HY := Lib.hid hy
  have hn1 : (Fm.enc x).length ≤ 1048576 := by omega
  have hn2 : (Fm.enc y).length ≤ 1048576 := by omega
  clear hE h hx hy hlen hown hng hf
  generalize Fm.enc (.imp x y) = T at *
  have s1 := bs_size (Fm.txt x 1)
  have s2 := bs_size (Fm.txt y 0)
  have z1 : (bs (Fm.txt x 1)).size ≤ 4194304 := by omega
  have z2 : (bs (Fm.txt y 0)).size ≤ 4194304 := by omega
  have HE : Hid (bs (Fm.txt x 1) ++ bs [62] ++ bs (Fm.txt y 0) = bs (Fm.txt x 1 ++ [62] ++ Fm.txt y 0)) := by unfold Hid; rw [bs_append, bs_append]
  clear s1 s2 h1 h2
  generalize Fm.txt x 1 ++ [62] ++ Fm.txt y 0 = Z at *
  go_enter Tryz.func114, Tryz.ntmps114
  go_wp2_with fail
  refine HL.out.mono ?_
  rintro e w1 ⟨rfl, hg1⟩
  go_wp2_with fail
  refine (HG.out _ (HH.out.grew hg1)).mono ?_
  rintro e w11 ⟨rfl, hg11⟩
  have hg1 := hg1.trans hg11
  go_wp2_with fail
  refine (first_c _ T x _ (HH.out.grew hg1) (by omega) HA.out).mono ?_
  rintro e w2 ⟨v2, rfl, hN2, hg2⟩
  go_wp2_with fail
  refine (HX.out 1 _ _ (by omega) hN2 hn1).mono ?_
  rintro e w3 ⟨rfl, hg3⟩
  go_wp2_with fail
  refine (second_c _ T x y _ (HH.out.grew ((hg1.trans hg2).trans hg3)) (by omega) HA.out HB.out).mono ?_
  rintro e w4 ⟨v4, rfl, hN4, hg4⟩
  go_wp2_with fail
  refine (HY.out 0 _ _ (by omega) hN4 hn2).mono ?_
  rintro e w5 ⟨rfl, hg5⟩
  go_wp2_with fail
  go_ret
  exact ⟨congrArg (fun z => Ending.returned (.string z)) HE.out, (((hg1.trans hg2).trans hg3).trans hg4).trans hg5⟩

theorem body_box (x : Tree) (hx : TextOk x) : BodyOk (.box x) := by
  intro l v w hl h hn
  have hown : Fm.own (.box x) = 3 := rfl
  have hE : Fm.txt (.box x) l = [91, 93] ++ Fm.txt x 3 := rfl
  rw [hE]
  rw [hown] at hl
  obtain ⟨b, o, c, rfl, hc, hm, k1⟩ := nodes_head h
  have hpos := Fm.enc_pos (.box x)
  have HL := Lib.hid (levelOf_c _ _ w h (by omega))
  have HH := Lib.hid h
  have hg0 := Grew.refl w
  rw [hown] at HL
  rw [show kindOf (.box x) = 5 from rfl] at k1
  have HA := Lib.hid (at_first (xs := Fm.enc (.box x)) (k := (5, 0)) (a := x) (rest := []) (by simp [Fm.enc]))
  have hlen : (Fm.enc (.box x)).length = 1 + (Fm.enc x).length := by simp [Fm.enc]; omega
  have h1 := Fm.txt_len x 3
  have HX := Lib.hid hx
  have hn1 : (Fm.enc x).length ≤ 1048576 := by omega
  clear hE h hx hlen hown
  generalize Fm.enc (.box x) = T at *
  have s1 := bs_size (Fm.txt x 3)
  have z1 : (bs (Fm.txt x 3)).size ≤ 4194304 := by omega
  have HE : Hid (bs [91, 93] ++ bs (Fm.txt x 3) = bs ([91, 93] ++ Fm.txt x 3)) := by unfold Hid; rw [bs_append]
  clear s1 h1
  generalize [91, 93] ++ Fm.txt x 3 = Z at *
  go_enter Tryz.func114, Tryz.ntmps114
  go_wp2_with fail
  refine HL.out.mono ?_
  rintro e w1 ⟨rfl, hg1⟩
  go_wp2_with fail
  refine (first_c _ T x _ (HH.out.grew hg1) (by omega) HA.out).mono ?_
  rintro e w2 ⟨v2, rfl, hN2, hg2⟩
  go_wp2_with fail
  refine (HX.out 3 _ _ (by omega) hN2 hn1).mono ?_
  rintro e w3 ⟨rfl, hg3⟩
  go_wp2_with fail
  go_ret
  exact ⟨congrArg (fun z => Ending.returned (.string z)) HE.out, (hg1.trans hg2).trans hg3⟩

theorem body_dia (x : Tree) (hx : TextOk x) : BodyOk (.dia x) := by
  intro l v w hl h hn
  have hown : Fm.own (.dia x) = 3 := rfl
  have hE : Fm.txt (.dia x) l = [60, 62] ++ Fm.txt x 3 := rfl
  rw [hE]
  rw [hown] at hl
  obtain ⟨b, o, c, rfl, hc, hm, k1⟩ := nodes_head h
  have hpos := Fm.enc_pos (.dia x)
  have HL := Lib.hid (levelOf_c _ _ w h (by omega))
  have HH := Lib.hid h
  have hg0 := Grew.refl w
  rw [hown] at HL
  rw [show kindOf (.dia x) = 6 from rfl] at k1
  have HA := Lib.hid (at_first (xs := Fm.enc (.dia x)) (k := (6, 0)) (a := x) (rest := []) (by simp [Fm.enc]))
  have hlen : (Fm.enc (.dia x)).length = 1 + (Fm.enc x).length := by simp [Fm.enc]; omega
  have h1 := Fm.txt_len x 3
  have HX := Lib.hid hx
  have hn1 : (Fm.enc x).length ≤ 1048576 := by omega
  clear hE h hx hlen hown
  generalize Fm.enc (.dia x) = T at *
  have s1 := bs_size (Fm.txt x 3)
  have z1 : (bs (Fm.txt x 3)).size ≤ 4194304 := by omega
  have HE : Hid (bs [60, 62] ++ bs (Fm.txt x 3) = bs ([60, 62] ++ Fm.txt x 3)) := by unfold Hid; rw [bs_append]
  clear s1 h1
  generalize [60, 62] ++ Fm.txt x 3 = Z at *
  go_enter Tryz.func114, Tryz.ntmps114
  go_wp2_with fail
  refine HL.out.mono ?_
  rintro e w1 ⟨rfl, hg1⟩
  go_wp2_with fail
  refine (first_c _ T x _ (HH.out.grew hg1) (by omega) HA.out).mono ?_
  rintro e w2 ⟨v2, rfl, hN2, hg2⟩
  go_wp2_with fail
  refine (HX.out 3 _ _ (by omega) hN2 hn1).mono ?_
  rintro e w3 ⟨rfl, hg3⟩
  go_wp2_with fail
  go_ret
  exact ⟨congrArg (fun z => Ending.returned (.string z)) HE.out, (hg1.trans hg2).trans hg3⟩

theorem body_tru (x : Tree) (hf : Fm.isF x = true) : BodyOk (.imp x .fls) := by
  intro l v w hl h hn
  have hown : Fm.own (.imp x .fls) = 3 := rfl
  have hE : Fm.txt (.imp x .fls) l = [84] := by
    rw [Fm.txt, if_pos (show Fm.isF .fls = true from rfl), if_pos hf]
  rw [hE]
  rw [hown] at hl
  obtain ⟨b, o, c, rfl, hc, hm, k1⟩ := nodes_head h
  have hpos := Fm.enc_pos (.imp x .fls)
  have HL := Lib.hid (levelOf_c _ _ w h (by omega))
  have HH := Lib.hid h
  have hg0 := Grew.refl w
  have HG := Lib.hid (fun w h => isNegation_c (.slice (some ⟨b, o, none⟩) (Fm.enc (.imp x .fls)).length c) (.imp x .fls) w h (by omega))
  rw [show isNeg (.imp x .fls) = true from rfl] at HG
  rw [hown] at HL
  rw [show kindOf (.imp x .fls) = 4 from rfl] at k1
  have HA := Lib.hid (at_first (xs := Fm.enc (.imp x .fls)) (k := (4, 0)) (a := x) (rest := Fm.enc .fls) rfl)
  have hlen : (Fm.enc (.imp x .fls)).length = 2 + (Fm.enc x).length := by simp [Fm.enc]; omega
  have hn1 : (Fm.enc x).length ≤ 1048576 := by omega
  have HI := Lib.hid (fun v w h => isFalsum_c v x w h)
  rw [hf] at HI
  clear hE h hlen hown hf
  generalize Fm.enc (.imp x .fls) = T at *
  go_enter Tryz.func114, Tryz.ntmps114
  go_wp2_with fail
  refine HL.out.mono ?_
  rintro e w1 ⟨rfl, hg1⟩
  go_wp2_with fail
  refine (HG.out _ (HH.out.grew hg1)).mono ?_
  rintro e w11 ⟨rfl, hg11⟩
  have hg1 := hg1.trans hg11
  go_wp2_with fail
  refine (first_c _ T x _ (HH.out.grew hg1) (by omega) HA.out).mono ?_
  rintro e w2 ⟨v2, rfl, hN2, hg2⟩
  go_wp2_with fail
  refine (HI.out _ _ hN2).mono ?_
  rintro e w3 ⟨rfl, hg3⟩
  go_wp2_with fail
  go_ret
  exact ⟨rfl, (hg1.trans hg2).trans hg3⟩

theorem body_not (x : Tree) (hf : Fm.isF x = false) (hx : TextOk x) : BodyOk (.imp x .fls) := by
  intro l v w hl h hn
  have hown : Fm.own (.imp x .fls) = 3 := rfl
  have hE : Fm.txt (.imp x .fls) l = [126] ++ Fm.txt x 3 := by
    rw [Fm.txt, if_pos (show Fm.isF .fls = true from rfl), if_neg (by simp [hf])]
  rw [hE]
  rw [hown] at hl
  obtain ⟨b, o, c, rfl, hc, hm, k1⟩ := nodes_head h
  have hpos := Fm.enc_pos (.imp x .fls)
  have HL := Lib.hid (levelOf_c _ _ w h (by omega))
  have HH := Lib.hid h
  have hg0 := Grew.refl w
  have HG := Lib.hid (fun w h => isNegation_c (.slice (some ⟨b, o, none⟩) (Fm.enc (.imp x .fls)).length c) (.imp x .fls) w h (by omega))
  rw [show isNeg (.imp x .fls) = true from rfl] at HG
  rw [hown] at HL
  rw [show kindOf (.imp x .fls) = 4 from rfl] at k1
  have HA := Lib.hid (at_first (xs := Fm.enc (.imp x .fls)) (k := (4, 0)) (a := x) (rest := Fm.enc .fls) rfl)
  have hlen : (Fm.enc (.imp x .fls)).length = 2 + (Fm.enc x).length := by simp [Fm.enc]; omega
  have hn1 : (Fm.enc x).length ≤ 1048576 := by omega
  have HI := Lib.hid (fun v w h => isFalsum_c v x w h)
  rw [hf] at HI
  have h1 := Fm.txt_len x 3
  have HX := Lib.hid hx
  have s1 := bs_size (Fm.txt x 3)
  have z1 : (bs (Fm.txt x 3)).size ≤ 4194304 := by omega
  have HE : Hid (bs [126] ++ bs (Fm.txt x 3) = bs ([126] ++ Fm.txt x 3)) := by unfold Hid; rw [bs_append]
  clear s1 h1 hx
  generalize [126] ++ Fm.txt x 3 = Z at *
  clear hE h hlen hown hf
  generalize Fm.enc (.imp x .fls) = T at *
  go_enter Tryz.func114, Tryz.ntmps114
  go_wp2_with fail
  refine HL.out.mono ?_
  rintro e w1 ⟨rfl, hg1⟩
  go_wp2_with fail
  refine (HG.out _ (HH.out.grew hg1)).mono ?_
  rintro e w11 ⟨rfl, hg11⟩
  have hg1 := hg1.trans hg11
  go_wp2_with fail
  refine (first_c _ T x _ (HH.out.grew hg1) (by omega) HA.out).mono ?_
  rintro e w2 ⟨v2, rfl, hN2, hg2⟩
  go_wp2_with fail
  refine (HI.out _ _ hN2).mono ?_
  rintro e w3 ⟨rfl, hg3⟩
  go_wp2_with fail
  refine (first_c _ T x _ (HH.out.grew ((hg1.trans hg2).trans hg3)) (by omega) HA.out).mono ?_
  rintro e w4 ⟨v4, rfl, hN4, hg4⟩
  go_wp2_with fail
  refine (HX.out 3 _ _ (by omega) hN4 hn1).mono ?_
  rintro e w5 ⟨rfl, hg5⟩
  go_wp2_with fail
  go_ret
  exact ⟨congrArg (fun z => Ending.returned (.string z)) HE.out, (((hg1.trans hg2).trans hg3).trans hg4).trans hg5⟩

theorem body_fls : BodyOk .fls := by
  intro l v w hl h hn
  have hE : Fm.txt .fls l = [70] := rfl
  rw [hE]
  rw [show Fm.own .fls = 3 from rfl] at hl
  obtain ⟨b, o, c, rfl, hc, hm, k1⟩ := nodes_head h
  have hpos := Fm.enc_pos (.fls)
  have HL := Lib.hid (levelOf_c _ _ w h (by omega))
  have HH := Lib.hid h
  have hg0 := Grew.refl w
  rw [show Fm.own .fls = 3 from rfl] at HL
  rw [show kindOf .fls = 1 from rfl] at k1
  clear hE h
  generalize Fm.enc .fls = T at *
  go_enter Tryz.func114, Tryz.ntmps114
  go_wp2_with fail
  refine HL.out.mono ?_
  rintro e w1 ⟨rfl, hg1⟩
  go_wp2_with fail
  go_ret
  exact ⟨rfl, hg1⟩

theorem body_var (n : Fin 6) : BodyOk (.var n) := by
  intro l v w hl h hn
  have hE : Fm.txt (.var n) l = [UInt8.ofNat (112 + n.val)] := rfl
  rw [hE]
  rw [show Fm.own (.var n) = 3 from rfl] at hl
  have k2 : ∃ b o c, v = .slice (some ⟨b, o, none⟩) (Fm.enc (.var n)).length c ∧ ∀ W, Grew w W → W.cell? ⟨b, o + 1, none⟩ = some (.int .i64 (n.val : Int)) := by
    rcases h.open_ with ⟨_, h0⟩ | ⟨b, o, c, hv, _, _, _, hf⟩
    · simp [Fm.enc] at h0
    · refine ⟨b, o, c, hv, fun W hW => ?_⟩
      have := (hf 0 (by simp [Fm.enc]) W hW).2
      rw [show sy (Fm.enc (.var n)) 0 = (n.val : Int) from rfl] at this
      simpa using this
  obtain ⟨b, o, c, rfl, hc, hm, k1⟩ := nodes_head h
  have hpos := Fm.enc_pos (.var n)
  have HL := Lib.hid (levelOf_c _ _ w h (by omega))
  have HH := Lib.hid h
  have hg0 := Grew.refl w
  obtain ⟨b', o', c', hv', k2⟩ := k2
  simp only [Value.slice.injEq, Option.some.injEq, Addr.mk.injEq, and_true, true_and] at hv'
  obtain ⟨⟨rfl, rfl⟩, rfl⟩ := hv'
  rw [show Fm.own (.var n) = 3 from rfl] at HL
  rw [show kindOf (.var n) = 0 from rfl] at k1
  have hn6 := n.isLt
  clear hE h
  generalize Fm.enc (.var n) = T at *
  generalize n.val = q at *
  go_enter Tryz.func114, Tryz.ntmps114
  go_wp2_with fail
  refine HL.out.mono ?_
  rintro e w1 ⟨rfl, hg1⟩
  go_wp2_with fail
  go_quiet (fail)
  go_wp2_with fail
  go_ret
  exact ⟨congrArg (fun z => Ending.returned (.string z)) (letter_cut hn6), hg1.drewN _⟩

theorem textOk_of (t : Tree) (hb : BodyOk t) : TextOk t := by
  intro l v w hl h hn
  by_cases hw : Fm.own t < l
  · have hE : Fm.txt t l = [40] ++ Fm.txt t 0 ++ [41] := by
      cases t with
      | var n => simp [Fm.own] at hw; omega
      | fls => simp [Fm.own] at hw; omega
      | and x y => simp only [Fm.own] at hw; simp [Fm.txt, Fm.wrap, hw]
      | or x y => simp only [Fm.own] at hw; simp [Fm.txt, Fm.wrap, hw]
      | imp x y =>
        cases hf : Fm.isF y with
        | true => simp [Fm.own, hf] at hw; omega
        | false => simp [Fm.own, hf] at hw; simp [Fm.txt, Fm.wrap, hf, hw]
      | box x => simp [Fm.own] at hw; omega
      | dia x => simp [Fm.own] at hw; omega
    rw [hE]
    have h1 := Fm.txt_len t 0
    have s1 := bs_size (Fm.txt t 0)
    have z1 : (bs (Fm.txt t 0)).size ≤ 4194304 := by omega
    have HL := Lib.hid (levelOf_c _ _ w h (by omega))
    have HB := Lib.hid (fun w h => hb 0 v w (Nat.zero_le _) h hn)
    have HH := Lib.hid h
    have HE : Hid (bs [40] ++ bs (Fm.txt t 0) ++ bs [41] = bs ([40] ++ Fm.txt t 0 ++ [41])) := by unfold Hid; rw [bs_append, bs_append]
    clear hE h1 s1 hb h
    generalize Fm.own t = q at *
    generalize [40] ++ Fm.txt t 0 ++ [41] = Z at *
    go_enter Tryz.func114, Tryz.ntmps114
    go_wp2_with fail
    refine HL.out.mono ?_
    rintro e w1 ⟨rfl, hg1⟩
    go_wp2_with fail
    refine (HB.out _ (HH.out.grew hg1)).mono ?_
    rintro e w2 ⟨rfl, hg2⟩
    go_wp2_with fail
    go_ret
    exact ⟨congrArg (fun z => Ending.returned (.string z)) HE.out, hg1.trans hg2⟩
  · exact hb l v w (by omega) h hn

theorem text_ok (t : Tree) : TextOk t := by
  induction t with
  | var n => exact textOk_of _ (body_var n)
  | fls => exact textOk_of _ body_fls
  | and x y hx hy => exact textOk_of _ (body_and x y hx hy)
  | or x y hx hy => exact textOk_of _ (body_or x y hx hy)
  | imp x y hx hy =>
    cases hf : Fm.isF y with
    | true =>
      obtain rfl := Fm.isF_eq hf
      cases hg : Fm.isF x with
      | true => exact textOk_of _ (body_tru x hg)
      | false => exact textOk_of _ (body_not x hg hx)
    | false => exact textOk_of _ (body_imp x y hf hx hy)
  | box x hx => exact textOk_of _ (body_box x hx)
  | dia x hx => exact textOk_of _ (body_dia x hx)

theorem text_c (t : Tree) (v : Value) (w : World) (h : Nodes w v (Fm.enc t)) (hn : (Fm.enc t).length ≤ 1048576) :
    Calls Tryz.prog 90 #[v] w (Says w (Fm.txt t 0)) := by
  have HT := Lib.hid (text_ok t 0 v w (by omega) h hn)
  go_enter Tryz.func90, Tryz.ntmps90
  go_wp2_with fail
  refine HT.out.mono ?_
  rintro e w1 ⟨rfl, hg1⟩
  go_wp2_with fail
  go_ret
  exact ⟨rfl, hg1⟩
end Go.Proofs.YtfpkfgimhanekaaGreatDoor

/- The program's 'parsed'. -/
namespace Go.Proofs.YtfpkfgimhanekaaGreatDoor
open Go.RowKit
open Fm (Nd)

/-- A new list, nil where it is empty. -/
def GivesN (w : World) (xs : List Nd) (e : Ending) (w' : World) : Prop := ∃ v, e = .returned v ∧ Own w' w.heap.size v xs ∧ Grew w w' ∧ (xs = [] → v = .slice none 0 0)

theorem parsed_c (s : ByteArray) (w : World) (hs : s.size ≤ 140737488355328) :
    Calls Tryz.prog 77 #[.string s] w (GivesN w (Fm.pf s).1) := by
  have HP := Lib.hid (fun w => parse_c s w hs)
  generalize Fm.pf s = r at *
  go_enter Tryz.func77, Tryz.ntmps77
  go_wp2_with fail
  refine (HP.out _).mono ?_
  rintro e w1 ⟨v1, rfl, ho1, hg1, hz1⟩
  have HZ := Lib.hid hz1
  clear hz1
  go_wp2_with fail
  go_ret
  exact ⟨_, rfl, ho1, hg1, HZ.out⟩
end Go.Proofs.YtfpkfgimhanekaaGreatDoor

/- Slices of strings. -/
namespace Go.Proofs.YtfpkfgimhanekaaGreatDoor
open Go.RowKit

def st (L : List ByteArray) (i : Nat) : ByteArray := L.getD i ByteArray.empty
def scells (L : List ByteArray) : List Value := L.map Value.string
theorem scells_length (L : List ByteArray) : (scells L).length = L.length * 1 := by simp [scells]
theorem scells_one (L : List ByteArray) : ∀ u ∈ scells L, u.oneCell' = true := by
  intro u hu
  simp only [scells, List.mem_map] at hu
  obtain ⟨x, _, rfl⟩ := hu
  rfl
theorem scells_at {L : List ByteArray} {i : Nat} (h : i < L.length) : (scells L)[i]? = some (.string (st L i)) := by simp [scells, st, List.getD, h]
theorem scells_append (K L : List ByteArray) : scells (K ++ L) = scells K ++ scells L := by simp [scells]
theorem st_get {L : List ByteArray} {i : Nat} (h : i < L.length) : L[i] = st L i := by simp [st, List.getD, h]

/-- The value reads as the list of strings. -/
def Strs (w : World) (v : Value) (L : List ByteArray) : Prop := Rd w 1 v L.length (scells L)
/-- A row of the call's own that holds the strings. -/
def OwnS (w : World) (B : Nat) (v : Value) (L : List ByteArray) : Prop := w.ownsRow B 9 1 v L.length (scells L)
theorem Strs.grew {w w' : World} {v : Value} {L : List ByteArray} (h : Strs w v L) (hb : Grew w w') : Strs w' v L := Rd.grew h hb
theorem Strs.nil_ (w : World) : Strs w (.slice none 0 0) [] := Rd.nil_ w 1
theorem OwnS.strs {w : World} {B : Nat} {v : Value} {L : List ByteArray} (h : OwnS w B v L) : Strs w v L := Rd.of_own h
theorem OwnS.nil_ (w : World) (B : Nat) : OwnS w B (.slice none 0 0) [] := World.ownsRow_nil w B _ 1
theorem OwnS.grew {w w' : World} {B : Nat} {v : Value} {L : List ByteArray} (h : OwnS w B v L) (hb : Grew w w') : OwnS w' B v L := own_grew h hb
theorem OwnS.base {w : World} {B B' : Nat} {v : Value} {L : List ByteArray} (h : OwnS w B v L) (hb : B' ≤ B) : OwnS w B' v L := own_base h hb

theorem Strs.open_ {w : World} {v : Value} {L : List ByteArray} (h : Strs w v L) :
    (v = .slice none 0 0 ∧ L = []) ∨ ∃ b o c, v = .slice (some ⟨b, o, none⟩) L.length c ∧ L.length ≤ c ∧ c ≤ 9223372036854775807 ∧ b < w.heap.size ∧
      ∀ i, i < L.length → ∀ W, Grew w W → W.cell? ⟨b, o + i, none⟩ = some (.string (st L i)) := by
  obtain ⟨_, _, h3⟩ := h
  rcases h3 with ⟨h4, h5⟩ | ⟨b, o, c, h4, h5, h6, h7, h8⟩
  · exact .inl ⟨h4, List.eq_nil_of_length_eq_zero h5⟩
  · exact .inr ⟨b, o, c, h4, h5, h6, h7, fun i hi W hW => (hW.cell (p := ⟨b, o + i, none⟩) h7).trans (h8 _ _ (scells_at hi))⟩
theorem strs_slice {w : World} {v : Value} {L : List ByteArray} (h : Strs w v L) : ∃ A c, v = .slice A L.length c := by
  rcases h.open_ with ⟨rfl, rfl⟩ | ⟨b, o, c, rfl, _⟩
  · exact ⟨_, _, rfl⟩
  · exact ⟨_, _, rfl⟩
/-- A literal of strings in a new block. -/
theorem OwnS.lit (w : World) (B : Nat) (L : List ByteArray) (cs : Array Value) (hB : B ≤ w.heap.size) (hn : L.length ≤ 9223372036854775807) (hc : cs.toList = scells L) :
    OwnS (w.alloc (.cells cs 9)) B (.slice (some ⟨w.heap.size, 0, none⟩) L.length L.length) L := by
  have hl : cs.size = L.length * 1 := by rw [← Array.length_toList, hc, scells_length]
  have h := World.ownsRow_lit (e := 9) (size := 1) w cs L.length hB hn hl
  rw [hc] at h
  exact h
theorem OwnS.mk_ {w : World} {B : Nat} {L : List ByteArray} {g c : Nat} {cur : Array Value} (hB : B ≤ g) (hg : w.heap[g]? = some (.cells cur 9 (0, 0))) (hnc : L.length ≤ c) (hcm : c ≤ 9223372036854775807) (hcs : cur.size = c)
    (hc : ∀ i, i < L.length → cur[i]? = some (.string (st L i))) : OwnS w B (.slice (some ⟨g, 0, none⟩) L.length c) L := by
  refine ⟨scells_length L, .inr ⟨g, c, cur, rfl, hB, hg, hnc, hcm, by omega, ?_⟩⟩
  apply List.ext_getElem?
  intro j
  rw [List.getElem?_take]
  by_cases hj : j < L.length
  · rw [if_pos (by omega), scells_at hj]
    simpa using hc j hj
  · rw [if_neg (by omega), List.getElem?_eq_none (by rw [scells_length]; omega)]

theorem Tryz.infoStr : (Tryz.prog.info? 9).map (fun i => (i.zero, i.size, i.bytes)) = some (some (.string ByteArray.empty), 1, 16) := by kernel_rfl

/-- The call returns a new list of strings. -/
def GivesS (w : World) (L : List ByteArray) (e : Ending) (w' : World) : Prop := ∃ v, e = .returned v ∧ OwnS w' w.heap.size v L ∧ Grew w w'

end Go.Proofs.YtfpkfgimhanekaaGreatDoor

/- isText of the program. -/
namespace Go.Proofs.YtfpkfgimhanekaaGreatDoor
open Go.RowKit
open Fm (Nd)

theorem text0_c (t : Fm.Tree) (v : Value) (w : World) (h : Nodes w v (Fm.enc t)) (hn : (Fm.enc t).length ≤ 1048576) :
    Calls Tryz.prog 90 #[v] w (Says w (Fm.txt t 0)) := text_c t v w h hn

theorem isText_c (s : ByteArray) (w : World) (hs : s.size ≤ 140737488355328) :
    Calls Tryz.prog 75 #[.string s] w fun e w' => e = .returned (.bool (gd s)) ∧ Grew w w' := by
  have HP := fun w => parsed_c s w hs
  rcases pf_cases s with ⟨t, ht⟩ | ⟨p, c, hp, hc⟩
  · have hn := Fm.pf_len s
    have hpos := Fm.enc_pos t
    rw [gd_tree ht]
    rw [ht] at HP hn
    simp only at HP hn
    replace HP := Lib.hid HP
    have HT := Lib.hid (fun v w h => text0_c t v w h (by omega))
    have HO := Lib.hid (fun w (v : Value) (h : Own w w.heap.size v (Fm.enc t)) => h)
    clear ht HO
    have hne := fun w (b : Option Addr) n c => run_neq_slice_nil_any (P := Tryz.prog) w 88 114 b n c 0 0 Tryz.underlying88
    generalize Fm.enc t = xs at *
    go_enter Tryz.func75, Tryz.ntmps75
    go_wp2_with fail
    refine (HP.out _).mono ?_
    rintro e w1 ⟨v1, rfl, ho1, hg1, _⟩
    rcases ho1.open_ with ⟨rfl, h0⟩ | ⟨g, c, cur, rfl, _⟩
    · rw [h0] at hpos; cases hpos
    go_wp2_with fail
    refine (HT.out _ _ ho1.nodes).mono ?_
    rintro e w2 ⟨rfl, hg2⟩
    go_wp2_with fail
    go_ret
    exact ⟨rfl, hg1.trans hg2⟩
  · rw [gd_bad hp hc]
    rw [hp] at HP
    replace HP := Lib.hid HP
    clear hp
    go_enter Tryz.func75, Tryz.ntmps75
    go_wp2_with fail
    refine (HP.out _).mono ?_
    rintro e w1 ⟨v1, rfl, ho1, hg1, hz1⟩
    obtain rfl := hz1 rfl
    go_wp2_with fail
    go_ret
    exact ⟨rfl, hg1⟩
end Go.Proofs.YtfpkfgimhanekaaGreatDoor

/- A predicate on nodes: IndexFunc, ContainsFunc. -/
namespace Go.Proofs.YtfpkfgimhanekaaGreatDoor
open Go.RowKit
open Fm (Nd)

/-- None of the first k nodes meets the predicate. -/
def NoneP (p : Int → Int → Bool) (xs : List Nd) (k : Nat) : Prop := ∀ i, i < k → p (kd xs i) (sy xs i) = false
theorem NoneP.zero (p : Int → Int → Bool) (xs : List Nd) : NoneP p xs 0 := fun i hi => absurd hi (by omega)
theorem NoneP.succ {p : Int → Int → Bool} {xs : List Nd} {k : Nat} (h : NoneP p xs k) (h1 : p (kd xs k) (sy xs k) = false) : NoneP p xs (k + 1) := by
  intro i hi
  rcases Nat.lt_or_ge i k with hk | hk
  · exact h i hk
  · obtain rfl : i = k := by omega
    exact h1
/-- Some node meets the predicate. -/
noncomputable def anyP (p : Int → Int → Bool) (xs : List Nd) : Bool := !@decide (NoneP p xs xs.length) (Classical.propDecidable _)
theorem anyP_no {p : Int → Int → Bool} {xs : List Nd} (h : NoneP p xs xs.length) : anyP p xs = false := by
  unfold anyP
  rw [@decide_eq_true _ (Classical.propDecidable _) h]
  rfl
theorem anyP_at {p : Int → Int → Bool} {xs : List Nd} {k : Nat} (hk : k < xs.length) (h : p (kd xs k) (sy xs k) = true) : anyP p xs = true := by
  unfold anyP
  rw [@decide_eq_false _ (Classical.propDecidable _) fun H => by rw [H k hk] at h; cases h]
  rfl

/-- What the function value gives at a node. -/
def PredOk (f : Nat) (p : Int → Int → Bool) : Prop := ∀ a b W, Calls Tryz.prog f #[.agg #[.int .i64 a, .int .i64 b]] W fun e w' => e = .returned (.bool (p a b)) ∧ Grew W w'

theorem indexFunc_c (v : Value) (xs : List Nd) (f : Nat) (p : Int → Int → Bool) (w : World) (h : Nodes w v xs) (hn : xs.length ≤ 1099511627776) (hf : PredOk f p) (eg : ∀ args w, (callFunc f args).run Tryz.prog w = .ok (.enter f args) w) :
    Calls Tryz.prog 115 #[v, .func (.func f) #[] #[]] w fun e w' => ∃ r : Int, e = .returned (.int .i64 r) ∧ Grew w w' ∧ decide (0 ≤ r) = anyP p xs := by
  rcases h.open_ with ⟨rfl, rfl⟩ | ⟨b, o, c, rfl, hc, hm, hb, hcell⟩
  · rw [anyP_no (NoneP.zero _ _)]
    clear h hf
    go_enter Tryz.func115, Tryz.ntmps115
    go_wp2_with fail
    refine wp_loop_rounds 1 ?_; rw [rounds_succ]
    go_wp2_with fail
    go_ret
    exact ⟨_, rfl, Grew.refl _, rfl⟩
  obtain ⟨R, hR⟩ : ∃ R, R = anyP p xs := ⟨_, rfl⟩
  rw [← hR]
  have HA := Lib.hid (fun k hk h => hR.trans (@anyP_at p xs k hk h))
  have HZ := Lib.hid (fun h => hR.trans (@anyP_no p xs h))
  have HC := Lib.hid hcell
  have HF := Lib.hid hf
  clear hcell h hf hR
  generalize hN : xs.length = n at *
  clear hN
  go_enter Tryz.func115, Tryz.ntmps115
  go_wp2_with fail
  go_loopw [5, 8] (fun _ i wr => ∃ j : Nat, j ≤ n ∧ i = .int .i64 j ∧ Grew w wr ∧ Hid (NoneP p xs j)) (fun _ i _ => n - (intOf i).toNat)
  case atStart => exact ⟨0, Nat.zero_le _, rfl, Grew.refl _, NoneP.zero _ _⟩
  case round =>
    obtain ⟨j, hj, rfl, hB, HJ⟩ := hrel
    by_cases hlt : j < n
    · have k1 := (HC.out j hlt _ hB).1
      have k2 := (HC.out j hlt _ hB).2
      have hA := Lib.hid (HA.out j hlt)
      have hS := Lib.hid (fun h => HJ.out.succ (k := j) h)
      generalize kd xs j = x at *
      generalize sy xs j = y at *
      go_wp2_with fail
      go_at_fn f
      refine (HF.out x y _).mono ?_
      rintro e w1 ⟨rfl, hg1⟩
      have hB1 := hB.trans hg1
      cases hp : p x y with
      | true =>
        have hv := hA.out hp
        go_wp2_with fail
        go_ret
        exact ⟨_, rfl, hB1, by rw [hv]; simp⟩
      | false =>
        have hs := Lib.hid (hS.out hp)
        go_wp2_with fail
        go_roundw
        case rel => exact ⟨j + 1, by omega, by go_num, hB1, hs⟩
        case measure => simp [intOf]; omega
    · obtain rfl : j = n := by omega
      have hv := Lib.hid (HZ.out HJ.out)
      go_wp2_with fail
      go_ret
      exact ⟨_, rfl, hB, by rw [hv.out]; rfl⟩

theorem containsFunc_c (v : Value) (xs : List Nd) (f : Nat) (p : Int → Int → Bool) (w : World) (h : Nodes w v xs) (hn : xs.length ≤ 1099511627776) (hf : PredOk f p) (eg : ∀ args w, (callFunc f args).run Tryz.prog w = .ok (.enter f args) w) :
    Calls Tryz.prog 91 #[v, .func (.func f) #[] #[]] w fun e w' => e = .returned (.bool (anyP p xs)) ∧ Grew w w' := by
  have HI := Lib.hid (indexFunc_c v xs f p w h hn hf eg)
  clear h hf eg
  generalize anyP p xs = R at *
  go_enter Tryz.func91, Tryz.ntmps91
  go_wp2_with fail
  refine HI.out.mono ?_
  rintro e w1 ⟨r, rfl, hg1, hr⟩
  go_wp2_with fail
  go_ret
  exact ⟨by rw [← hr]; rfl, hg1⟩

end Go.Proofs.YtfpkfgimhanekaaGreatDoor

/- isPlain of the program, l02Plain of the reference. -/
namespace Go.Proofs.YtfpkfgimhanekaaGreatDoor
open Go.RowKit
open Fm (Nd)

def isBD (a _b : Int) : Bool := a == 5 || a == 6
theorem isModal_c (a : Int) (w : World) : Calls Tryz.prog 93 #[.int .i64 a] w fun e w' => e = .returned (.bool (a == 5 || a == 6)) ∧ Grew w w' := by
  cases h : (a == 5) with
  | true =>
    go_enter Tryz.func93, Tryz.ntmps93
    go_wp2_with fail
    go_ret
    exact ⟨rfl, Grew.refl _⟩
  | false =>
    go_enter Tryz.func93, Tryz.ntmps93
    go_wp2_with fail
    go_ret
    exact ⟨by simp, Grew.refl _⟩
theorem isPlain1_ok : PredOk 92 isBD := by
  intro a b w
  go_enter Tryz.func92, Tryz.ntmps92
  go_wp2_with fail
  refine (isModal_c _ _).mono ?_
  rintro e w1 ⟨rfl, hg1⟩
  go_wp2_with fail
  go_ret
  exact ⟨rfl, Grew.of_alloc hg1⟩
theorem isPlain_c (v : Value) (xs : List Nd) (w : World) (h : Nodes w v xs) (hn : xs.length ≤ 1099511627776) :
    Calls Tryz.prog 76 #[v] w fun e w' => e = .returned (.bool (!anyP isBD xs)) ∧ Grew w w' := by
  have HI := Lib.hid (containsFunc_c v xs _ _ w h hn isPlain1_ok (enters_of Tryz.func92 (by kernel_rfl) rfl))
  clear h
  generalize anyP isBD xs = R at *
  go_enter Tryz.func76, Tryz.ntmps76
  go_wp2_with fail
  refine HI.out.mono ?_
  rintro e w1 ⟨rfl, hg1⟩
  go_wp2_with fail
  go_ret
  exact ⟨rfl, hg1⟩

theorem l02Plain_c (v : Value) (xs : List Nd) (w : World) (h : Nodes w v xs) (hn : xs.length ≤ 1099511627776) :
    Calls Tryz.prog 74 #[v] w fun e w' => e = .returned (.bool (!anyP isBD xs)) ∧ Grew w w' := by
  rcases h.open_ with ⟨rfl, rfl⟩ | ⟨b, o, c, rfl, hc, hm, hb, hcell⟩
  · rw [anyP_no (NoneP.zero _ _)]
    clear h
    go_enter Tryz.func74, Tryz.ntmps74
    go_wp2_with fail
    refine wp_loop_rounds 1 ?_; rw [rounds_succ]
    go_wp2_with fail
    go_ret
    exact ⟨rfl, Grew.refl _⟩
  obtain ⟨R, hR⟩ : ∃ R, R = anyP isBD xs := ⟨_, rfl⟩
  rw [← hR]
  have HA := Lib.hid (fun k hk h => hR.trans (@anyP_at isBD xs k hk h))
  have HZ := Lib.hid (fun h => hR.trans (@anyP_no isBD xs h))
  have HC := Lib.hid hcell
  clear hcell h hR
  generalize hN : xs.length = n at *
  clear hN
  go_enter Tryz.func74, Tryz.ntmps74
  go_wp2_with fail
  go_loopw [3] (fun i wr => ∃ j : Nat, j ≤ n ∧ i = .int .i64 j ∧ Grew w wr ∧ Hid (NoneP isBD xs j)) (fun i _ => n - (intOf i).toNat)
  case atStart => exact ⟨0, Nat.zero_le _, rfl, Grew.refl _, NoneP.zero _ _⟩
  case round =>
    obtain ⟨j, hj, rfl, hB, HJ⟩ := hrel
    by_cases hlt : j < n
    · have k1 := (HC.out j hlt _ hB).1
      have hA := Lib.hid (HA.out j hlt)
      have hS := Lib.hid (fun h => HJ.out.succ (k := j) h)
      generalize kd xs j = x at *
      generalize sy xs j = y at *
      cases h5 : (x == 5) with
      | true =>
        have hv := Lib.hid (hA.out (by simp [isBD, h5]))
        go_wp2_with fail
        go_ret
        rw [hv.out]
        exact ⟨rfl, hB⟩
      | false =>
        cases h6 : (x == 6) with
        | true =>
          have hv := Lib.hid (hA.out (by simp [isBD, h6]))
          go_wp2_with fail
          go_ret
          rw [hv.out]
          exact ⟨rfl, hB⟩
        | false =>
          have hs := Lib.hid (hS.out (by simp [isBD, h5, h6]))
          go_wp2_with fail
          go_roundw
          case rel => exact ⟨j + 1, by omega, by go_num, hB, hs⟩
          case measure => simp [intOf]; omega
    · obtain rfl : j = n := by omega
      have hv := Lib.hid (HZ.out HJ.out)
      go_wp2_with fail
      go_ret
      rw [hv.out]
      exact ⟨rfl, hB⟩
end Go.Proofs.YtfpkfgimhanekaaGreatDoor

/- Is a text that of a plain formula? -/
namespace Go.Proofs.YtfpkfgimhanekaaGreatDoor
open Go.RowKit
open Fm (Nd)

/-- The text is the text of a plain formula. -/
noncomputable def gp (s : ByteArray) : Bool := gd s && !anyP isBD (Fm.pf s).1

def GivesP (w : World) (s : ByteArray) (e : Ending) (w' : World) : Prop := ∃ v, e = .returned (.tuple #[v, .bool (gp s)]) ∧ Own w' w.heap.size v (Fm.pf s).1 ∧ Grew w w'

theorem isPlainText_c (s : ByteArray) (w : World) (hs : s.size ≤ 140737488355328) :
    Calls Tryz.prog 65 #[.string s] w fun e w' => e = .returned (.bool (gp s)) ∧ Grew w w' := by
  have HG := fun w => isText_c s w hs
  have HR := fun w => parsed_c s w hs
  have hn := Fm.pf_len s
  unfold gp
  generalize (Fm.pf s).1 = xs at *
  have HP := Lib.hid (fun v w h => isPlain_c v xs w h (by omega))
  replace HR := Lib.hid HR
  generalize anyP isBD xs = q at *
  cases hg : gd s with
  | true =>
    rw [hg] at HG
    replace HG := Lib.hid HG
    clear hg
    go_enter Tryz.func65, Tryz.ntmps65
    go_wp2_with fail
    refine (HG.out _).mono ?_
    rintro e w1 ⟨rfl, hg1⟩
    go_wp2_with fail
    refine (HR.out _).mono ?_
    rintro e w2 ⟨v2, rfl, ho2, hg2, _⟩
    go_wp2_with fail
    refine (HP.out _ _ ho2.nodes).mono ?_
    rintro e w3 ⟨rfl, hg3⟩
    go_wp2_with fail
    go_ret
    exact ⟨rfl, (hg1.trans hg2).trans hg3⟩
  | false =>
    rw [hg] at HG
    replace HG := Lib.hid HG
    clear hg
    go_enter Tryz.func65, Tryz.ntmps65
    go_wp2_with fail
    refine (HG.out _).mono ?_
    rintro e w1 ⟨rfl, hg1⟩
    go_wp2_with fail
    go_ret
    exact ⟨rfl, hg1⟩
end Go.Proofs.YtfpkfgimhanekaaGreatDoor

/- l25Formula of the reference. -/
namespace Go.Proofs.YtfpkfgimhanekaaGreatDoor
open Go.RowKit

theorem l25Formula_c (s : ByteArray) (w : World) (hs : s.size ≤ 140737488355328) :
    Calls Tryz.prog 61 #[.string s] w (GivesP w s) := by
  have HG := fun w => l02Good_c s w hs
  have hn := Fm.pf_len s
  unfold GivesP gp
  unfold GivesG at HG
  generalize (Fm.pf s).1 = xs at *
  have HP := Lib.hid (fun v w h => l02Plain_c v xs w h (by omega))
  generalize anyP isBD xs = q at *
  cases hg : gd s with
  | true =>
    rw [hg] at HG
    replace HG := Lib.hid HG
    clear hg
    go_enter Tryz.func61, Tryz.ntmps61
    go_wp2_with fail
    refine (HG.out _).mono ?_
    rintro e w1 ⟨v1, rfl, ho1, hg1⟩
    go_wp2_with fail
    refine (HP.out _ _ ho1.nodes).mono ?_
    rintro e w2 ⟨rfl, hg2⟩
    go_wp2_with fail
    go_ret2
    exact ⟨_, rfl, ho1.grew hg2, hg1.trans hg2⟩
  | false =>
    rw [hg] at HG
    replace HG := Lib.hid HG
    clear hg
    go_enter Tryz.func61, Tryz.ntmps61
    go_wp2_with fail
    refine (HG.out _).mono ?_
    rintro e w1 ⟨v1, rfl, ho1, hg1⟩
    go_wp2_with fail
    go_ret2
    exact ⟨_, rfl, ho1, hg1⟩
end Go.Proofs.YtfpkfgimhanekaaGreatDoor

/- A number between two bounds. -/
namespace Go.Proofs.YtfpkfgimhanekaaGreatDoor
open Go.RowKit

theorem l01In_c (k lo hi : Int) (w : World) : Calls Tryz.prog 59 #[.int .i64 k, .int .i64 lo, .int .i64 hi] w fun e w' => e = .returned (.bool (decide (lo ≤ k ∧ k ≤ hi))) ∧ Grew w w' := by
  by_cases h : lo ≤ k
  · have hd : decide (lo ≤ k ∧ k ≤ hi) = decide (k ≤ hi) := by simp [h]
    rw [hd]
    go_enter Tryz.func59, Tryz.ntmps59
    go_wp2_with fail
    go_ret
    exact ⟨rfl, Grew.refl _⟩
  · have hd : decide (lo ≤ k ∧ k ≤ hi) = false := by simp [h]
    rw [hd]
    go_enter Tryz.func59, Tryz.ntmps59
    go_wp2_with fail
    go_ret
    exact ⟨rfl, Grew.refl _⟩

theorem inRange_c (k lo hi : Int) (w : World) : Calls Tryz.prog 63 #[.int .i64 k, .int .i64 lo, .int .i64 hi] w fun e w' => e = .returned (.bool (decide (lo ≤ k ∧ k ≤ hi))) ∧ Grew w w' := by
  by_cases h : lo ≤ k
  · have hd : decide (lo ≤ k ∧ k ≤ hi) = decide (k ≤ hi) := by simp [h]
    rw [hd]
    go_enter Tryz.func63, Tryz.ntmps63
    go_wp2_with fail
    go_ret
    exact ⟨rfl, Grew.refl _⟩
  · have hd : decide (lo ≤ k ∧ k ≤ hi) = false := by simp [h]
    rw [hd]
    go_enter Tryz.func63, Tryz.ntmps63
    go_wp2_with fail
    go_ret
    exact ⟨rfl, Grew.refl _⟩
end Go.Proofs.YtfpkfgimhanekaaGreatDoor

/- What a term is: termParts, termEnd, isTerm of the program; l26Parts, l26End, l26Is of the reference. -/
namespace Go.Proofs.YtfpkfgimhanekaaGreatDoor
open Go.RowKit

theorem kind_cases (k : Int) : (k = 0 ∨ k = 1 ∨ k = 2 ∨ k = 3 ∨ k = 4 ∨ k = 5 ∨ k = 6 ∨ k = 7 ∨ k = 8 ∨ k = 9) ∨ ¬ (0 ≤ k ∧ k ≤ 9) := by omega

theorem termParts_c (k : Int) (w : World) :
    Calls Tryz.prog 66 #[.int .i64 k] w fun e w' => e = .returned (.int .i64 ((Tr.ar k : Int))) ∧ Grew w w' := by
  rcases kind_cases k with h | h
  · rcases h with rfl | rfl | rfl | rfl | rfl | rfl | rfl | rfl | rfl | rfl
    all_goals
      go_enter Tryz.func66, Tryz.ntmps66
      go_wp2_with fail
      go_ret
      exact ⟨rfl, Grew.refl _⟩
  · have ha : ((Tr.ar k : Int)) = (0 : Int) := by unfold Tr.ar; rw [if_neg (by omega), if_neg (by omega), if_neg (by omega)]; rfl
    rw [ha]
    have n0 : (k == 0) = false := by simp; omega
    have n1 : (k == 1) = false := by simp; omega
    have n2 : (k == 2) = false := by simp; omega
    have n3 : (k == 3) = false := by simp; omega
    have n4 : (k == 4) = false := by simp; omega
    have n5 : (k == 5) = false := by simp; omega
    have n6 : (k == 6) = false := by simp; omega
    have n7 : (k == 7) = false := by simp; omega
    have n8 : (k == 8) = false := by simp; omega
    have n9 : (k == 9) = false := by simp; omega
    clear h ha
    go_enter Tryz.func66, Tryz.ntmps66
    go_wp2_with fail
    go_ret
    exact ⟨rfl, Grew.refl _⟩

theorem l26Parts_c (k : Int) (w : World) :
    Calls Tryz.prog 58 #[.int .i64 k] w fun e w' => e = .returned (.int .i64 (if 0 ≤ k ∧ k ≤ 9 then (Tr.ar k : Int) else -1)) ∧ Grew w w' := by
  rcases kind_cases k with h | h
  · rcases h with rfl | rfl | rfl | rfl | rfl | rfl | rfl | rfl | rfl | rfl
    all_goals
      go_enter Tryz.func58, Tryz.ntmps58
      go_wp2_with fail
      go_ret
      exact ⟨rfl, Grew.refl _⟩
  · have ha : (if 0 ≤ k ∧ k ≤ 9 then (Tr.ar k : Int) else -1) = (-1 : Int) := by rw [if_neg h]
    rw [ha]
    have n0 : (k == 0) = false := by simp; omega
    have n1 : (k == 1) = false := by simp; omega
    have n2 : (k == 2) = false := by simp; omega
    have n3 : (k == 3) = false := by simp; omega
    have n4 : (k == 4) = false := by simp; omega
    have n5 : (k == 5) = false := by simp; omega
    have n6 : (k == 6) = false := by simp; omega
    have n7 : (k == 7) = false := by simp; omega
    have n8 : (k == 8) = false := by simp; omega
    have n9 : (k == 9) = false := by simp; omega
    clear h ha
    go_enter Tryz.func58, Tryz.ntmps58
    go_wp2_with fail
    go_ret
    exact ⟨rfl, Grew.refl _⟩

/-- Have the nodes of a kind a type? -/
def typedB (k : Int) : Bool := k == 1 || k == 6 || k == 7 || k == 9

theorem hasType_c (k : Int) (w : World) :
    Calls Tryz.prog 64 #[.int .i64 k] w fun e w' => e = .returned (.bool (typedB k)) ∧ Grew w w' := by
  rcases kind_cases k with h | h
  · rcases h with rfl | rfl | rfl | rfl | rfl | rfl | rfl | rfl | rfl | rfl
    all_goals
      go_enter Tryz.func64, Tryz.ntmps64
      go_wp2_with fail
      go_ret
      exact ⟨rfl, Grew.refl _⟩
  · have ha : typedB k = false := by unfold typedB; simp; omega
    rw [ha]
    have n0 : (k == 0) = false := by simp; omega
    have n1 : (k == 1) = false := by simp; omega
    have n2 : (k == 2) = false := by simp; omega
    have n3 : (k == 3) = false := by simp; omega
    have n4 : (k == 4) = false := by simp; omega
    have n5 : (k == 5) = false := by simp; omega
    have n6 : (k == 6) = false := by simp; omega
    have n7 : (k == 7) = false := by simp; omega
    have n8 : (k == 8) = false := by simp; omega
    have n9 : (k == 9) = false := by simp; omega
    clear h ha
    go_enter Tryz.func64, Tryz.ntmps64
    go_wp2_with fail
    go_ret
    exact ⟨by simp, Grew.refl _⟩

theorem l26Typed_c (k : Int) (w : World) :
    Calls Tryz.prog 60 #[.int .i64 k] w fun e w' => e = .returned (.bool (typedB k)) ∧ Grew w w' := by
  rcases kind_cases k with h | h
  · rcases h with rfl | rfl | rfl | rfl | rfl | rfl | rfl | rfl | rfl | rfl
    all_goals
      go_enter Tryz.func60, Tryz.ntmps60
      go_wp2_with fail
      go_ret
      exact ⟨rfl, Grew.refl _⟩
  · have ha : typedB k = false := by unfold typedB; simp; omega
    rw [ha]
    have n0 : (k == 0) = false := by simp; omega
    have n1 : (k == 1) = false := by simp; omega
    have n2 : (k == 2) = false := by simp; omega
    have n3 : (k == 3) = false := by simp; omega
    have n4 : (k == 4) = false := by simp; omega
    have n5 : (k == 5) = false := by simp; omega
    have n6 : (k == 6) = false := by simp; omega
    have n7 : (k == 7) = false := by simp; omega
    have n8 : (k == 8) = false := by simp; omega
    have n9 : (k == 9) = false := by simp; omega
    clear h ha
    go_enter Tryz.func60, Tryz.ntmps60
    go_wp2_with fail
    go_ret
    exact ⟨by simp, Grew.refl _⟩

/-- Is it a node of a term? -/
noncomputable def tnB (k n : Int) (s : ByteArray) : Bool := if k == 0 then (decide (0 ≤ n ∧ n ≤ 99) && s.toList.isEmpty) else if typedB k then (n == 0 && gp s) else (decide (1 ≤ k ∧ k ≤ 9) && n == 0 && s.toList.isEmpty)

theorem isTermNode_c (k n : Int) (s : ByteArray) (w : World) (hs : s.size ≤ 140737488355328) :
    Calls Tryz.prog 35 #[.agg #[.int .i64 k, .int .i64 n, .string s]] w fun e w' => e = .returned (.bool (tnB k n s)) ∧ Grew w w' := by
  unfold tnB
  cases h0 : (k == 0) with
  | true =>
    rw [if_pos rfl]
    have HR := fun w => inRange_c n 0 99 w
    generalize decide (0 ≤ n ∧ n ≤ 99) = R at *
    cases R with
    | true =>
      replace HR := Lib.hid HR
      go_enter Tryz.func35, Tryz.ntmps35
      go_wp2_with fail
      refine (HR.out _).mono ?_
      rintro e w1 ⟨rfl, hg1⟩
      have k1 : w1.cell? ⟨w.heap.size, 2, none⟩ = some (.string s) := (hg1.cell (by simp)).trans (by simp)
      go_wp2_with fail
      go_ret
      exact ⟨by simp, Grew.of_alloc hg1⟩
    | false =>
      replace HR := Lib.hid HR
      go_enter Tryz.func35, Tryz.ntmps35
      go_wp2_with fail
      refine (HR.out _).mono ?_
      rintro e w1 ⟨rfl, hg1⟩
      go_wp2_with fail
      go_ret
      exact ⟨by simp, Grew.of_alloc hg1⟩
  | false =>
    rw [if_neg (by simp)]
    have HT := fun w => hasType_c k w
    generalize typedB k = T at *
    cases T with
    | true =>
      rw [if_pos rfl]
      replace HT := Lib.hid HT
      have HP := Lib.hid (fun w => isPlainText_c s w hs)
      cases hn : (n == 0) with
      | true =>
        go_enter Tryz.func35, Tryz.ntmps35
        go_wp2_with fail
        refine (HT.out _).mono ?_
        rintro e w1 ⟨rfl, hg1⟩
        have k1 : w1.cell? ⟨w.heap.size, 1, none⟩ = some (.int .i64 n) := (hg1.cell (by simp)).trans (by simp)
        have k2 : w1.cell? ⟨w.heap.size, 2, none⟩ = some (.string s) := (hg1.cell (by simp)).trans (by simp)
        go_wp2_with fail
        refine (HP.out _).mono ?_
        rintro e w2 ⟨rfl, hg2⟩
        go_wp2_with fail
        go_ret
        exact ⟨by simp, Grew.of_alloc (hg1.trans hg2)⟩
      | false =>
        go_enter Tryz.func35, Tryz.ntmps35
        go_wp2_with fail
        refine (HT.out _).mono ?_
        rintro e w1 ⟨rfl, hg1⟩
        have k1 : w1.cell? ⟨w.heap.size, 1, none⟩ = some (.int .i64 n) := (hg1.cell (by simp)).trans (by simp)
        go_wp2_with fail
        go_ret
        exact ⟨by simp, Grew.of_alloc hg1⟩
    | false =>
      rw [if_neg (by simp)]
      replace HT := Lib.hid HT
      have HR := fun w => inRange_c k 1 9 w
      generalize decide (1 ≤ k ∧ k ≤ 9) = R at *
      cases R with
      | true =>
        replace HR := Lib.hid HR
        cases hn : (n == 0) with
        | true =>
          go_enter Tryz.func35, Tryz.ntmps35
          go_wp2_with fail
          refine (HT.out _).mono ?_
          rintro e w1 ⟨rfl, hg1⟩
          have k0 : ∀ W, Grew w1 W → W.cell? ⟨w.heap.size, 0, none⟩ = some (.int .i64 k) := fun W hW => ((hg1.trans hW).cell (by simp)).trans (by simp)
          have k1 : ∀ W, Grew w1 W → W.cell? ⟨w.heap.size, 1, none⟩ = some (.int .i64 n) := fun W hW => ((hg1.trans hW).cell (by simp)).trans (by simp)
          have k2 : ∀ W, Grew w1 W → W.cell? ⟨w.heap.size, 2, none⟩ = some (.string s) := fun W hW => ((hg1.trans hW).cell (by simp)).trans (by simp)
          have hr1 := Grew.refl w1
          go_wp2_with fail
          refine (HR.out _).mono ?_
          rintro e w2 ⟨rfl, hg2⟩
          go_wp2_with fail
          go_ret
          exact ⟨by simp, Grew.of_alloc (hg1.trans hg2)⟩
        | false =>
          go_enter Tryz.func35, Tryz.ntmps35
          go_wp2_with fail
          refine (HT.out _).mono ?_
          rintro e w1 ⟨rfl, hg1⟩
          have k0 : ∀ W, Grew w1 W → W.cell? ⟨w.heap.size, 0, none⟩ = some (.int .i64 k) := fun W hW => ((hg1.trans hW).cell (by simp)).trans (by simp)
          have k1 : ∀ W, Grew w1 W → W.cell? ⟨w.heap.size, 1, none⟩ = some (.int .i64 n) := fun W hW => ((hg1.trans hW).cell (by simp)).trans (by simp)
          have hr1 := Grew.refl w1
          go_wp2_with fail
          refine (HR.out _).mono ?_
          rintro e w2 ⟨rfl, hg2⟩
          go_wp2_with fail
          go_ret
          exact ⟨by simp, Grew.of_alloc (hg1.trans hg2)⟩
      | false =>
        replace HR := Lib.hid HR
        go_enter Tryz.func35, Tryz.ntmps35
        go_wp2_with fail
        refine (HT.out _).mono ?_
        rintro e w1 ⟨rfl, hg1⟩
        have k0 : w1.cell? ⟨w.heap.size, 0, none⟩ = some (.int .i64 k) := (hg1.cell (by simp)).trans (by simp)
        go_wp2_with fail
        refine (HR.out _).mono ?_
        rintro e w2 ⟨rfl, hg2⟩
        go_wp2_with fail
        go_ret
        exact ⟨by simp, Grew.of_alloc (hg1.trans hg2)⟩

end Go.Proofs.YtfpkfgimhanekaaGreatDoor

/- A predicate on nodes of terms: IndexFunc, ContainsFunc. -/
namespace Go.Proofs.YtfpkfgimhanekaaGreatDoor
open Go.RowKit

/-- None of the first k nodes meets the predicate. -/
def NoneT (p : Int → Int → ByteArray → Bool) (xs : List Tn) (k : Nat) : Prop := ∀ i, i < k → p (tk xs i) (tn xs i) (tt xs i) = false
theorem NoneT.zero (p : Int → Int → ByteArray → Bool) (xs : List Tn) : NoneT p xs 0 := fun i hi => absurd hi (by omega)
theorem NoneT.succ {p : Int → Int → ByteArray → Bool} {xs : List Tn} {k : Nat} (h : NoneT p xs k) (h1 : p (tk xs k) (tn xs k) (tt xs k) = false) : NoneT p xs (k + 1) := by
  intro i hi
  rcases Nat.lt_or_ge i k with hk | hk
  · exact h i hk
  · obtain rfl : i = k := by omega
    exact h1
/-- Some node meets the predicate. -/
noncomputable def anyT (p : Int → Int → ByteArray → Bool) (xs : List Tn) : Bool := !@decide (NoneT p xs xs.length) (Classical.propDecidable _)
theorem anyT_no {p : Int → Int → ByteArray → Bool} {xs : List Tn} (h : NoneT p xs xs.length) : anyT p xs = false := by
  unfold anyT
  rw [@decide_eq_true _ (Classical.propDecidable _) h]
  rfl
theorem anyT_at {p : Int → Int → ByteArray → Bool} {xs : List Tn} {k : Nat} (hk : k < xs.length) (h : p (tk xs k) (tn xs k) (tt xs k) = true) : anyT p xs = true := by
  unfold anyT
  rw [@decide_eq_false _ (Classical.propDecidable _) fun H => by rw [H k hk] at h; cases h]
  rfl
theorem anyT_none {p : Int → Int → ByteArray → Bool} {xs : List Tn} (h : anyT p xs = false) {k : Nat} (hk : k < xs.length) : p (tk xs k) (tn xs k) (tt xs k) = false := by
  cases hp : p (tk xs k) (tn xs k) (tt xs k) with
  | false => rfl
  | true => rw [anyT_at hk hp] at h; cases h

/-- What the function value gives at a node. -/
def PredT (f : Nat) (p : Int → Int → ByteArray → Bool) : Prop := ∀ a b s W, s.size ≤ 140737488355328 → Calls Tryz.prog f #[.agg #[.int .i64 a, .int .i64 b, .string s]] W fun e w' => e = .returned (.bool (p a b s)) ∧ Grew W w'
/-- No type is longer than memory. -/
def FitsT (xs : List Tn) : Prop := ∀ i, i < xs.length → (tt xs i).size ≤ 1048576

theorem indexFuncT_c (v : Value) (xs : List Tn) (f : Nat) (p : Int → Int → ByteArray → Bool) (w : World) (h : Tms w v xs) (hfit : FitsT xs) (hf : PredT f p) (eg : ∀ args w, (callFunc f args).run Tryz.prog w = .ok (.enter f args) w) :
    Calls Tryz.prog 62 #[v, .func (.func f) #[] #[]] w fun e w' => ∃ r : Int, e = .returned (.int .i64 r) ∧ Grew w w' ∧ decide (0 ≤ r) = anyT p xs := by
  rcases h.open_ with ⟨rfl, rfl⟩ | ⟨b, o, c, rfl, hc, hm, hb, hcell⟩
  · rw [anyT_no (NoneT.zero _ _)]
    clear h hf hfit
    go_enter Tryz.func62, Tryz.ntmps62
    go_wp2_with fail
    refine wp_loop_rounds 1 ?_; rw [rounds_succ]
    go_wp2_with fail
    go_ret
    exact ⟨_, rfl, Grew.refl _, rfl⟩
  obtain ⟨R, hR⟩ : ∃ R, R = anyT p xs := ⟨_, rfl⟩
  rw [← hR]
  have HA := Lib.hid (fun k hk h => hR.trans (@anyT_at p xs k hk h))
  have HZ := Lib.hid (fun h => hR.trans (@anyT_no p xs h))
  have HC := Lib.hid hcell
  have HF := Lib.hid hf
  unfold FitsT at hfit
  have HT := Lib.hid hfit
  clear hcell h hf hR hfit
  generalize hN : xs.length = n at *
  clear hN
  go_enter Tryz.func62, Tryz.ntmps62
  go_wp2_with fail
  go_loopw [5, 8] (fun _ i wr => ∃ j : Nat, j ≤ n ∧ i = .int .i64 j ∧ Grew w wr ∧ Hid (NoneT p xs j)) (fun _ i _ => n - (intOf i).toNat)
  case atStart => exact ⟨0, Nat.zero_le _, rfl, Grew.refl _, NoneT.zero _ _⟩
  case round =>
    obtain ⟨j, hj, rfl, hB, HJ⟩ := hrel
    by_cases hlt : j < n
    · have k1 := (HC.out j hlt _ hB).1
      have k2 := (HC.out j hlt _ hB).2.1
      have k3 := (HC.out j hlt _ hB).2.2
      have hz := HT.out j hlt
      have hA := Lib.hid (HA.out j hlt)
      have hS := Lib.hid (fun h => HJ.out.succ (k := j) h)
      generalize tk xs j = x at *
      generalize tn xs j = y at *
      generalize tt xs j = z at *
      go_wp2_with fail
      go_at_fn f
      refine (HF.out x y z _ (by omega)).mono ?_
      rintro e w1 ⟨rfl, hg1⟩
      have hB1 := hB.trans hg1
      cases hp : p x y z with
      | true =>
        have hv := hA.out hp
        go_wp2_with fail
        go_ret
        exact ⟨_, rfl, hB1, by rw [hv]; simp⟩
      | false =>
        have hs := Lib.hid (hS.out hp)
        go_wp2_with fail
        go_roundw
        case rel => exact ⟨j + 1, by omega, by go_num, hB1, hs⟩
        case measure => simp [intOf]; omega
    · obtain rfl : j = n := by omega
      have hv := Lib.hid (HZ.out HJ.out)
      go_wp2_with fail
      go_ret
      exact ⟨_, rfl, hB, by rw [hv.out]; rfl⟩

theorem containsFuncT_c (v : Value) (xs : List Tn) (f : Nat) (p : Int → Int → ByteArray → Bool) (w : World) (h : Tms w v xs) (hfit : FitsT xs) (hf : PredT f p) (eg : ∀ args w, (callFunc f args).run Tryz.prog w = .ok (.enter f args) w) :
    Calls Tryz.prog 33 #[v, .func (.func f) #[] #[]] w fun e w' => e = .returned (.bool (anyT p xs)) ∧ Grew w w' := by
  have HI := Lib.hid (indexFuncT_c v xs f p w h hfit hf eg)
  clear h hf eg hfit
  generalize anyT p xs = R at *
  go_enter Tryz.func33, Tryz.ntmps33
  go_wp2_with fail
  refine HI.out.mono ?_
  rintro e w1 ⟨r, rfl, hg1, hr⟩
  go_wp2_with fail
  go_ret
  exact ⟨by rw [← hr]; rfl, hg1⟩
end Go.Proofs.YtfpkfgimhanekaaGreatDoor

/- Where a part of a term ends, and what a term is, of both. -/
namespace Go.Proofs.YtfpkfgimhanekaaGreatDoor
open Go.RowKit

theorem tnB_kind {k n : Int} {s : ByteArray} (h : ¬ (0 ≤ k ∧ k ≤ 9)) : tnB k n s = false := by
  unfold tnB typedB
  rw [if_neg (by simp; omega), if_neg (by simp; omega), decide_eq_false (by omega)]
  rfl
theorem tnB_range {k n : Int} {s : ByteArray} (h : ¬ (0 ≤ n ∧ n ≤ 99)) : tnB k n s = false := by
  unfold tnB
  split
  · rw [decide_eq_false h]; rfl
  · have : (n == 0) = false := by simp; omega
    rw [this]
    simp
theorem tnB_num {k n : Int} {s : ByteArray} (h0 : (k != 0) = true) (h1 : (n != 0) = true) : tnB k n s = false := by
  unfold tnB
  have h0' : ¬ (k == 0) = true := by simp at h0; simp [h0]
  have h1' : (n == 0) = false := by simp at h1; simp [h1]
  rw [if_neg h0', h1']
  simp
theorem tnB_typed {k n : Int} {s : ByteArray} (_hn : 0 ≤ n ∧ n ≤ 99) (h : (k != 0) = false ∨ (n != 0) = false) (ht : typedB k = true) : tnB k n s = gp s := by
  have h0 : ¬ (k == 0) = true := fun e => by
    have : k = 0 := by simpa using e
    subst this
    simp [typedB] at ht
  unfold tnB
  rw [if_neg h0, if_pos ht]
  rcases h with h | h
  · simp at h; simp [h] at h0
  · simp at h; simp [h]
theorem tnB_plain {k n : Int} {s : ByteArray} (hk : 0 ≤ k ∧ k ≤ 9) (hn : 0 ≤ n ∧ n ≤ 99) (h : (k != 0) = false ∨ (n != 0) = false) (ht : typedB k = false) : tnB k n s = s.toList.isEmpty := by
  unfold tnB
  by_cases h0 : (k == 0) = true
  · rw [if_pos h0, decide_eq_true hn, Bool.true_and]
  · rw [if_neg h0, if_neg (by rw [ht]; simp)]
    have hne : k ≠ 0 := by simpa using h0
    rcases h with h | h
    · simp at h; omega
    · simp at h
      rw [h, decide_eq_true (by omega)]
      rfl

set_option maxHeartbeats 1600000 in
theorem l26Node_c (k n : Int) (s : ByteArray) (w : World) (hs : s.size ≤ 140737488355328) :
    Calls Tryz.prog 29 #[.agg #[.int .i64 k, .int .i64 n, .string s]] w fun e w' => e = .returned (.bool (tnB k n s)) ∧ Grew w w' := by
  have HP := fun w => l26Parts_c k w
  have hr := Grew.refl w
  by_cases hk : 0 ≤ k ∧ k ≤ 9
  · rw [if_pos hk] at HP
    have hp0 : (0 : Int) ≤ (Tr.ar k : Int) := by omega
    have HI := fun w => l01In_c n 0 99 w
    cases h0 : (k != 0 && n != 0) with
    | true =>
      simp only [Bool.and_eq_true] at h0
      obtain ⟨h0, h1⟩ := h0
      rw [tnB_num h0 h1]
      generalize Tr.ar k = a at *
      replace HP := Lib.hid HP
      go_enter Tryz.func29, Tryz.ntmps29
      go_wp2_with fail
      refine (HP.out _).mono ?_
      rintro e w1 ⟨rfl, hg1⟩
      have k0 : ∀ W, Grew w1 W → W.cell? ⟨w.heap.size, 0, none⟩ = some (.int .i64 k) := fun W hW => ((hg1.trans hW).cell (by simp)).trans (by simp)
      have k1 : ∀ W, Grew w1 W → W.cell? ⟨w.heap.size, 1, none⟩ = some (.int .i64 n) := fun W hW => ((hg1.trans hW).cell (by simp)).trans (by simp)
      have hr1 := Grew.refl w1
      go_wp2_with fail
      go_ret
      exact ⟨rfl, Grew.of_alloc hg1⟩
    | false =>
      have hor : (k != 0) = false ∨ (n != 0) = false := by
        cases hk0 : (k != 0) with
        | false => exact .inl rfl
        | true => rw [hk0] at h0; exact .inr h0
      by_cases hn : 0 ≤ n ∧ n ≤ 99
      · rw [decide_eq_true hn] at HI
        have HT := fun w => l26Typed_c k w
        cases ht : typedB k with
        | true =>
          rw [tnB_typed hn hor ht]
          rw [ht] at HT
          have HF := fun w => l25Formula_c s w hs
          unfold GivesP at HF
          generalize gp s = g at *
          generalize Tr.ar k = a at *
          replace HP := Lib.hid HP
          replace HI := Lib.hid HI
          replace HT := Lib.hid HT
          replace HF := Lib.hid HF
          clear ht
          rcases hor with hz | hz
          all_goals
            go_enter Tryz.func29, Tryz.ntmps29
            go_wp2_with fail
            refine (HP.out _).mono ?_
            rintro e w1 ⟨rfl, hg1⟩
            have k0 : ∀ W, Grew w1 W → W.cell? ⟨w.heap.size, 0, none⟩ = some (.int .i64 k) := fun W hW => ((hg1.trans hW).cell (by simp)).trans (by simp)
            have k1 : ∀ W, Grew w1 W → W.cell? ⟨w.heap.size, 1, none⟩ = some (.int .i64 n) := fun W hW => ((hg1.trans hW).cell (by simp)).trans (by simp)
            have k2 : ∀ W, Grew w1 W → W.cell? ⟨w.heap.size, 2, none⟩ = some (.string s) := fun W hW => ((hg1.trans hW).cell (by simp)).trans (by simp)
            have hr1 := Grew.refl w1
            first
              | cases hkz : (k != 0) with
                | true =>
                  go_wp2_with fail
                  refine (HI.out _).mono ?_
                  rintro e w2 ⟨rfl, hg2⟩
                  go_wp2_with fail
                  refine (HT.out _).mono ?_
                  rintro e w3 ⟨rfl, hg3⟩
                  have hk13 := hg2.trans hg3
                  go_wp2_with fail
                  refine (HF.out _).mono ?_
                  rintro e w4 ⟨q, rfl, _, hg4⟩
                  go_wp2_with fail
                  go_ret
                  exact ⟨rfl, Grew.of_alloc ((hg1.trans hk13).trans hg4)⟩
                | false =>
                  go_wp2_with fail
                  refine (HI.out _).mono ?_
                  rintro e w2 ⟨rfl, hg2⟩
                  go_wp2_with fail
                  refine (HT.out _).mono ?_
                  rintro e w3 ⟨rfl, hg3⟩
                  have hk13 := hg2.trans hg3
                  go_wp2_with fail
                  refine (HF.out _).mono ?_
                  rintro e w4 ⟨q, rfl, _, hg4⟩
                  go_wp2_with fail
                  go_ret
                  exact ⟨rfl, Grew.of_alloc ((hg1.trans hk13).trans hg4)⟩
        | false =>
          rw [tnB_plain hk hn hor ht]
          rw [ht] at HT
          generalize Tr.ar k = a at *
          replace HP := Lib.hid HP
          replace HI := Lib.hid HI
          replace HT := Lib.hid HT
          clear ht
          rcases hor with hz | hz
          all_goals
            go_enter Tryz.func29, Tryz.ntmps29
            go_wp2_with fail
            refine (HP.out _).mono ?_
            rintro e w1 ⟨rfl, hg1⟩
            have k0 : ∀ W, Grew w1 W → W.cell? ⟨w.heap.size, 0, none⟩ = some (.int .i64 k) := fun W hW => ((hg1.trans hW).cell (by simp)).trans (by simp)
            have k1 : ∀ W, Grew w1 W → W.cell? ⟨w.heap.size, 1, none⟩ = some (.int .i64 n) := fun W hW => ((hg1.trans hW).cell (by simp)).trans (by simp)
            have k2 : ∀ W, Grew w1 W → W.cell? ⟨w.heap.size, 2, none⟩ = some (.string s) := fun W hW => ((hg1.trans hW).cell (by simp)).trans (by simp)
            have hr1 := Grew.refl w1
            first
              | cases hkz : (k != 0) with
                | true =>
                  go_wp2_with fail
                  refine (HI.out _).mono ?_
                  rintro e w2 ⟨rfl, hg2⟩
                  go_wp2_with fail
                  refine (HT.out _).mono ?_
                  rintro e w3 ⟨rfl, hg3⟩
                  have hk13 := hg2.trans hg3
                  go_wp2_with fail
                  go_ret
                  exact ⟨rfl, Grew.of_alloc (hg1.trans hk13)⟩
                | false =>
                  go_wp2_with fail
                  refine (HI.out _).mono ?_
                  rintro e w2 ⟨rfl, hg2⟩
                  go_wp2_with fail
                  refine (HT.out _).mono ?_
                  rintro e w3 ⟨rfl, hg3⟩
                  have hk13 := hg2.trans hg3
                  go_wp2_with fail
                  go_ret
                  exact ⟨rfl, Grew.of_alloc (hg1.trans hk13)⟩
      · rw [tnB_range hn]
        rw [decide_eq_false hn] at HI
        replace HI := Lib.hid HI
        generalize Tr.ar k = a at *
        replace HP := Lib.hid HP
        rcases hor with hz | hz
        all_goals
          go_enter Tryz.func29, Tryz.ntmps29
          go_wp2_with fail
          refine (HP.out _).mono ?_
          rintro e w1 ⟨rfl, hg1⟩
          have k0 : ∀ W, Grew w1 W → W.cell? ⟨w.heap.size, 0, none⟩ = some (.int .i64 k) := fun W hW => ((hg1.trans hW).cell (by simp)).trans (by simp)
          have k1 : ∀ W, Grew w1 W → W.cell? ⟨w.heap.size, 1, none⟩ = some (.int .i64 n) := fun W hW => ((hg1.trans hW).cell (by simp)).trans (by simp)
          have hr1 := Grew.refl w1
          first
            | cases hkz : (k != 0) with
              | true =>
                go_wp2_with fail
                refine (HI.out _).mono ?_
                rintro e w2 ⟨rfl, hg2⟩
                go_wp2_with fail
                go_ret
                exact ⟨rfl, Grew.of_alloc (hg1.trans hg2)⟩
              | false =>
                go_wp2_with fail
                refine (HI.out _).mono ?_
                rintro e w2 ⟨rfl, hg2⟩
                go_wp2_with fail
                go_ret
                exact ⟨rfl, Grew.of_alloc (hg1.trans hg2)⟩
  · rw [tnB_kind hk]
    rw [if_neg hk] at HP
    replace HP := Lib.hid HP
    clear hk
    go_enter Tryz.func29, Tryz.ntmps29
    go_wp2_with fail
    refine (HP.out _).mono ?_
    rintro e w1 ⟨rfl, hg1⟩
    go_wp2_with fail
    go_ret
    exact ⟨rfl, Grew.of_alloc hg1⟩

theorem termEnd_c (v : Value) (xs : List Tn) (i : Nat) (w : World) (h : Tms w v xs) (hn : xs.length ≤ 1048576) (hi : i ≤ 1048576) :
    Calls Tryz.prog 36 #[v, .int .i64 i] w fun e w' => e = .returned (.int .i64 (Tr.pend xs i 1)) ∧ Grew w w' := by
  rcases h.open_ with ⟨rfl, rfl⟩ | ⟨b, o, c, rfl, hc, hm, hb, hf⟩
  · rw [Tr.pend_out (by simp) 0]
    clear h
    go_enter Tryz.func36, Tryz.ntmps36
    go_wp2_with fail
    refine wp_loop_rounds 1 ?_; rw [rounds_succ]
    go_wp2_with fail
    go_ret
    exact ⟨rfl, Grew.refl _⟩
  · clear h
    obtain ⟨P, hP⟩ : ∃ P, P = Tr.pend xs i 1 := ⟨_, rfl⟩
    rw [← hP]
    have hstart : Hid (P = Tr.pend xs i 1) := hP
    have HS := Lib.hid (fun j o hj => @Tr.pend_step xs j hj o)
    have HL := Lib.hid (fun j o hj => @Tr.pend_out xs j hj o)
    have HZ := Lib.hid (fun j => Tr.pend_zero xs j)
    clear hP
    have HF := Lib.hid hf
    clear hf
    generalize hN : xs.length = n at *
    clear hN
    go_enter Tryz.func36, Tryz.ntmps36
    go_wp2_with fail
    go_loopg [1, 5] (n + 1 - i) (fun k x y wr => ∃ j op : Nat, x = .int .i64 j ∧ y = .int .i64 op ∧ Grew w wr ∧ i ≤ j ∧ op ≤ 2 * (j - i) + 1 ∧ k = n + 1 - j ∧ j ≤ i + n ∧ Hid (P = Tr.pend xs j op))
    case atStart => exact ⟨i, 1, rfl, rfl, Grew.refl _, Nat.le_refl _, by omega, rfl, by omega, hstart⟩
    case round =>
      obtain ⟨j, op, rfl, rfl, hB, hij, hop, rfl, hjn, HP⟩ := hrel
      by_cases hz : op = 0
      · subst hz
        have hv : Hid (P = (j : Int)) := Lib.hid (by rw [HP.out, HZ.out])
        clear HP
        go_wp2_with fail
        go_ret
        rw [hv.out]
        exact ⟨rfl, hB⟩
      · obtain ⟨q, rfl⟩ : ∃ q, op = q + 1 := ⟨op - 1, by omega⟩
        by_cases hlt : j < n
        · have k1 : ∀ W, Grew w W → W.cell? ⟨b, o + j * 3, none⟩ = some (.int .i64 (tk xs j)) := fun W hW => (HF.out j hlt W hW).1
          have hv : Hid (P = Tr.pend xs (j + 1) (q + Tr.ar (tk xs j))) := Lib.hid (by rw [HP.out, HS.out j q hlt])
          have har := Tr.ar_le (tk xs j)
          clear HP hz
          go_wp2_with fail
          refine (termParts_c _ _).mono ?_
          rintro e w1 ⟨rfl, hg1⟩
          generalize Tr.ar (tk xs j) = ar at *
          go_wp2_with fail
          go_roundg (n + 1 - (j + 1))
          case measure => omega
          case rel => exact ⟨j + 1, q + ar, by go_num, by go_num, hB.trans hg1, by omega, by omega, rfl, by omega, hv⟩
        · have hv : Hid (P = -1) := Lib.hid (by rw [HP.out, HL.out j q (by omega)])
          clear HP
          go_wp2_with fail
          go_ret
          rw [hv.out]
          exact ⟨rfl, hB⟩

theorem l26End_c (v : Value) (xs : List Tn) : ∀ (d i : Nat) (w : World), xs.length ≤ i + d → Tms w v xs → xs.length ≤ 1048576 → i ≤ 1048576 →
    Calls Tryz.prog 30 #[v, .int .i64 i] w fun e w' => e = .returned (.int .i64 (Tr.pend xs i 1)) ∧ Grew w w' := by
  intro d
  induction d with
  | zero =>
    intro i w hd h hn hi
    rw [Tr.pend_out (by omega) 0]
    obtain ⟨A, c, rfl⟩ := tms_slice h
    clear h
    generalize xs.length = n at *
    go_enter Tryz.func30, Tryz.ntmps30
    go_wp2_with fail
    go_ret
    exact ⟨rfl, Grew.refl _⟩
  | succ d ih =>
    intro i w hd h hn hi
    by_cases hout : xs.length ≤ i
    · rw [Tr.pend_out hout 0]
      obtain ⟨A, c, rfl⟩ := tms_slice h
      clear h ih
      generalize xs.length = n at *
      go_enter Tryz.func30, Tryz.ntmps30
      go_wp2_with fail
      go_ret
      exact ⟨rfl, Grew.refl _⟩
    · rcases h.open_ with ⟨rfl, rfl⟩ | ⟨b, o, c, rfl, hc, hm, hb, hf⟩
      · simp at hout
      have hlt : i < xs.length := by omega
      have IH := Lib.hid (fun e W (hW : Grew w W) he1 he2 => ih e W he1 (h.grew hW) hn he2)
      have k1 := (hf i hlt _ (Grew.refl w)).1
      obtain ⟨P, hP⟩ : ∃ P, P = Tr.pend xs i 1 := ⟨_, rfl⟩
      rw [← hP]
      rw [Tr.pend_step hlt 0, Nat.zero_add] at hP
      have hsP := Lib.hid hP
      have HS := Lib.hid (fun j o => @Tr.pend_part xs j o)
      have HZ := Lib.hid (fun j => Tr.pend_zero xs j)
      have har := Tr.ar_le (tk xs i)
      have hkk : Hid ((if 0 ≤ tk xs i ∧ tk xs i ≤ 9 then (Tr.ar (tk xs i) : Int) else -1) = (Tr.ar (tk xs i) : Int) ∨ ((if 0 ≤ tk xs i ∧ tk xs i ≤ 9 then (Tr.ar (tk xs i) : Int) else -1) = -1 ∧ Tr.ar (tk xs i) = 0)) := Lib.hid (by
        split
        · exact .inl rfl
        · exact .inr ⟨rfl, by unfold Tr.ar; rw [if_neg (by omega), if_neg (by omega), if_neg (by omega)]⟩)
      have HK := Lib.hid (fun w => l26Parts_c (tk xs i) w)
      generalize (if 0 ≤ tk xs i ∧ tk xs i ≤ 9 then (Tr.ar (tk xs i) : Int) else -1) = pv at *
      generalize Tr.ar (tk xs i) = ar at *
      generalize tk xs i = kk at *
      clear hf hP h ih
      generalize hN : xs.length = n at *
      clear hN
      have hpv : pv ≤ 3 ∧ -1 ≤ pv := by rcases hkk.out with h | ⟨h, h0⟩ <;> omega
      go_enter Tryz.func30, Tryz.ntmps30
      go_wp2_with fail
      refine (HK.out _).mono ?_
      rintro e w1 ⟨rfl, hg1⟩
      go_wp2_with fail
      go_loopw [5, 6] (fun x y wr => ∃ (E q : Int), x = .int .i64 E ∧ y = .int .i64 q ∧ Grew w wr ∧ q ≤ 3 ∧ -1 ≤ q ∧ -1 ≤ E ∧ E ≤ n ∧ Hid ((0 ≤ E → (i : Int) + 1 ≤ E ∧ P = Tr.pend xs E.toNat q.toNat) ∧ (E < 0 → P = -1))) (fun _ y _ => (intOf y).toNat)
      case atStart => exact ⟨(i : Int) + 1, pv, by go_num, rfl, hg1, hpv.1, hpv.2, by omega, by omega, Lib.hid ⟨fun _ => ⟨by omega, by
        rw [hsP.out]
        rcases hkk.out with h | ⟨h, h0⟩
        · rw [h]; rfl
        · rw [h, h0]; rfl⟩, fun h => absurd h (by omega)⟩⟩
      case round =>
        obtain ⟨E, q, rfl, rfl, hB, hq3, hq1, hE1, hEn, HP⟩ := hrel
        by_cases hq : 0 < q
        · by_cases hE : 0 ≤ E
          · obtain ⟨hiE, hPE⟩ := HP.out.1 hE
            obtain ⟨e, rfl⟩ : ∃ e : Nat, E = (e : Int) := ⟨E.toNat, by omega⟩
            obtain ⟨r, rfl⟩ : ∃ r : Nat, q = ((r + 1 : Nat) : Int) := ⟨q.toNat - 1, by omega⟩
            have hst := HS.out e r
            simp only [Int.toNat_natCast] at hPE
            have HPE := Lib.hid hPE
            have HST := Lib.hid hst
            have hgt : ¬ ((r + 1 : Nat) : Int) ≤ 0 := by omega
            clear hPE hst HP
            go_wp2_with fail
            refine (IH.out e _ hB (by omega) (by omega)).mono ?_
            rintro e2 w2 ⟨rfl, hg2⟩
            have hB2 := hB.trans hg2
            rcases HST.out with ⟨h1, h2⟩ | ⟨m, h1, hm2, h2⟩
            · have H2 : Hid (P = -1) := Lib.hid (by rw [HPE.out, h2])
              rw [h1]
              clear h1 h2 HST
              go_wp2_with fail
              go_roundw
              case rel => exact ⟨-1, (r : Int), rfl, by go_num, hB2, by omega, by omega, by omega, by omega, Lib.hid ⟨fun h => absurd h (by omega), fun _ => H2.out⟩⟩
              case measure => (simp [intOf]; try omega)
            · have H2 : Hid (P = Tr.pend xs (e + m) r) := Lib.hid (by rw [HPE.out, h2])
              rw [h1]
              clear h1 h2 HST
              go_wp2_with fail
              go_roundw
              case rel => exact ⟨((e + m : Nat) : Int), (r : Int), rfl, by go_num, hB2, by omega, by omega, by omega, by omega, Lib.hid ⟨fun _ => ⟨by omega, by rw [Int.toNat_natCast, Int.toNat_natCast]; exact H2.out⟩, fun h => absurd h (by omega)⟩⟩
              case measure => (simp [intOf]; try omega)
          · have hv : Hid (P = -1) := Lib.hid (HP.out.2 (by omega))
            obtain rfl : E = -1 := by omega
            clear HP
            go_wp2_with fail
            go_ret
            rw [hv.out]
            exact ⟨rfl, hB⟩
        · by_cases hE : 0 ≤ E
          · obtain ⟨hiE, hPE⟩ := HP.out.1 hE
            have hv : Hid (P = E) := Lib.hid (by
              rw [hPE, show q.toNat = 0 by omega, HZ.out]
              omega)
            clear HP hPE
            go_wp2_with fail
            go_ret
            rw [hv.out]
            exact ⟨rfl, hB⟩
          · have hv : Hid (P = E) := Lib.hid (by rw [HP.out.2 (by omega)]; omega)
            clear HP
            go_wp2_with fail
            go_ret
            rw [hv.out]
            exact ⟨rfl, hB⟩

/-- Is it no node of a term? -/
noncomputable def noTn (k n : Int) (s : ByteArray) : Bool := !tnB k n s
theorem isTerm1_ok : PredT 34 noTn := by
  intro a b s w hs
  unfold noTn
  have HR := Lib.hid (fun w => isTermNode_c a b s w hs)
  generalize tnB a b s = R at *
  go_enter Tryz.func34, Tryz.ntmps34
  go_wp2_with fail
  refine (HR.out _).mono ?_
  rintro e w1 ⟨rfl, hg1⟩
  go_wp2_with fail
  go_ret
  exact ⟨rfl, Grew.of_alloc hg1⟩

/-- Is the list a term's? -/
noncomputable def tmB (xs : List Tn) : Bool := decide (1 ≤ xs.length ∧ xs.length ≤ 60) && !anyT noTn xs && (Tr.pend xs 0 1 == (xs.length : Int))

theorem isTerm_c (v : Value) (xs : List Tn) (w : World) (h : Tms w v xs) (hfit : FitsT xs) (hn : xs.length ≤ 1048576) :
    Calls Tryz.prog 19 #[v] w fun e w' => e = .returned (.bool (tmB xs)) ∧ Grew w w' := by
  have HC := Lib.hid (fun w h => containsFuncT_c v xs _ _ w h hfit isTerm1_ok (enters_of Tryz.func34 (by kernel_rfl) rfl))
  have HP := Lib.hid (fun w h => termEnd_c v xs 0 w h hn (by omega))
  obtain ⟨A, c, rfl⟩ := tms_slice h
  have HN := Lib.hid h
  clear h hfit
  unfold tmB
  generalize Tr.pend xs 0 1 = p at *
  generalize anyT noTn xs = q at *
  generalize hL : xs.length = n at *
  clear hL
  by_cases h1 : 1 ≤ n
  · by_cases h2 : n ≤ 60
    · rw [decide_eq_true (⟨h1, h2⟩ : 1 ≤ n ∧ n ≤ 60), Bool.true_and]
      cases q with
      | true =>
        go_enter Tryz.func19, Tryz.ntmps19
        go_wp2_with fail
        refine (HC.out _ HN.out).mono ?_
        rintro e w1 ⟨rfl, hg1⟩
        go_wp2_with fail
        go_ret
        exact ⟨by simp, hg1⟩
      | false =>
        go_enter Tryz.func19, Tryz.ntmps19
        go_wp2_with fail
        refine (HC.out _ HN.out).mono ?_
        rintro e w1 ⟨rfl, hg1⟩
        go_wp2_with fail
        refine (HP.out _ (HN.out.grew hg1)).mono ?_
        rintro e w2 ⟨rfl, hg2⟩
        go_wp2_with fail
        go_ret
        exact ⟨by simp, hg1.trans hg2⟩
    · rw [decide_eq_false (fun h : 1 ≤ n ∧ n ≤ 60 => h2 h.2), Bool.false_and, Bool.false_and]
      go_enter Tryz.func19, Tryz.ntmps19
      go_wp2_with fail
      go_ret
      exact ⟨rfl, Grew.refl _⟩
  · rw [decide_eq_false (fun h : 1 ≤ n ∧ n ≤ 60 => h1 h.1), Bool.false_and, Bool.false_and]
    go_enter Tryz.func19, Tryz.ntmps19
    go_wp2_with fail
    go_ret
    exact ⟨rfl, Grew.refl _⟩

theorem l26Is_c (v : Value) (xs : List Tn) (w : World) (h : Tms w v xs) (hfit : FitsT xs) (hn : xs.length ≤ 1048576) :
    Calls Tryz.prog 16 #[v] w fun e w' => e = .returned (.bool (tmB xs)) ∧ Grew w w' := by
  unfold tmB
  rcases h.open_ with ⟨rfl, rfl⟩ | ⟨b, o, c, rfl, hc, hm, hb, hcell⟩
  · clear h hfit
    go_enter Tryz.func16, Tryz.ntmps16
    go_wp2_with fail
    go_ret
    exact ⟨rfl, Grew.refl _⟩
  by_cases hr : 1 ≤ xs.length ∧ xs.length ≤ 60
  · rw [decide_eq_true hr, Bool.true_and]
    obtain ⟨R, hR⟩ : ∃ R, R = anyT noTn xs := ⟨_, rfl⟩
    rw [← hR]
    have HA := Lib.hid (fun k hk h => hR.trans (@anyT_at noTn xs k hk h))
    have HZ := Lib.hid (fun h => hR.trans (@anyT_no noTn xs h))
    have HP := Lib.hid (fun W (hW : Grew w W) => l26End_c _ xs xs.length 0 W (by omega) (h.grew hW) hn (by omega))
    have HC := Lib.hid hcell
    unfold FitsT at hfit
    have HT := Lib.hid hfit
    clear hcell h hR hfit
    generalize Tr.pend xs 0 1 = p at *
    generalize hN : xs.length = n at *
    clear hN
    have hcond : ((n : Int) == 0 || decide (60 < (n : Int))) = false := by simp; omega
    have hcond0 : ((n : Int) == 0) = false := by simp; omega
    have hcond6 : decide (60 < (n : Int)) = false := by simp; omega
    go_enter Tryz.func16, Tryz.ntmps16
    go_wp2_with fail
    go_loopw [3] (fun i wr => ∃ j : Nat, j ≤ n ∧ i = .int .i64 j ∧ Grew w wr ∧ Hid (NoneT noTn xs j)) (fun i _ => n - (intOf i).toNat)
    case atStart => exact ⟨0, Nat.zero_le _, rfl, Grew.refl _, NoneT.zero _ _⟩
    case round =>
      obtain ⟨j, hj, rfl, hB, HJ⟩ := hrel
      by_cases hlt : j < n
      · have k1 := (HC.out j hlt _ hB).1
        have k2 := (HC.out j hlt _ hB).2.1
        have k3 := (HC.out j hlt _ hB).2.2
        have hz := HT.out j hlt
        have hA : Hid (tnB (tk xs j) (tn xs j) (tt xs j) = false → R = true) := Lib.hid (fun h => HA.out j hlt (by rw [noTn, h]; rfl))
        have hS : Hid (tnB (tk xs j) (tn xs j) (tt xs j) = true → NoneT noTn xs (j + 1)) := Lib.hid (fun h => HJ.out.succ (k := j) (by rw [noTn, h]; rfl))
        generalize tk xs j = x at *
        generalize tn xs j = y at *
        generalize tt xs j = z at *
        have HNd := Lib.hid (fun w => l26Node_c x y z w (by omega))
        cases hq : tnB x y z with
        | false =>
          have hv := Lib.hid (hA.out hq)
          rw [hq] at HNd
          go_wp2_with fail
          refine (HNd.out _).mono ?_
          rintro e w1 ⟨rfl, hg1⟩
          go_wp2_with fail
          go_ret
          rw [hv.out]
          exact ⟨by simp, hB.trans hg1⟩
        | true =>
          have hs := Lib.hid (hS.out hq)
          rw [hq] at HNd
          go_wp2_with fail
          refine (HNd.out _).mono ?_
          rintro e w1 ⟨rfl, hg1⟩
          go_wp2_with fail
          go_roundw
          case rel => exact ⟨j + 1, by omega, by go_num, hB.trans hg1, hs⟩
          case measure => simp [intOf]; omega
      · obtain rfl : j = n := by omega
        have hv := Lib.hid (HZ.out HJ.out)
        go_wp2_with fail
        refine (HP.out _ hB).mono ?_
        rintro e w1 ⟨rfl, hg1⟩
        go_wp2_with fail
        go_ret
        rw [hv.out]
        exact ⟨by simp, hB.trans hg1⟩
  · rw [decide_eq_false hr, Bool.false_and, Bool.false_and]
    clear hcell h hfit
    generalize xs.length = n at *
    rcases Nat.eq_zero_or_pos n with h0 | h0
    · subst h0
      go_enter Tryz.func16, Tryz.ntmps16
      go_wp2_with fail
      go_ret
      exact ⟨rfl, Grew.refl _⟩
    · have h60 : 60 < n := by omega
      have hcond0 : ((n : Int) == 0) = false := by simp; omega
      have hcond6 : decide (60 < (n : Int)) = true := by simp; omega
      clear hr
      go_enter Tryz.func16, Tryz.ntmps16
      go_wp2_with fail
      go_ret
      exact ⟨rfl, Grew.refl _⟩
end Go.Proofs.YtfpkfgimhanekaaGreatDoor

/- Rows of slices of nodes of the call's own: an append of one slice. -/
namespace Go.Proofs.YtfpkfgimhanekaaGreatDoor
open Go.RowKit
open Fm (Nd)

/-- A row of slices of the call's own. -/
def OwnV (w : World) (B : Nat) (v : Value) (us : List Value) : Prop := w.ownsRow B 88 1 v us.length us

theorem own_app {w w' : World} {B B' : Nat} {u v : Value} {xs : List Nd} {us : List Value} (h : Own w B u xs) (hv : OwnV w B' v us) (hg : w.grownBy w' v.ownBlock) : Own w' B u xs := by
  rcases hv.2 with ⟨rfl, _⟩ | ⟨g, cap, cur, rfl, _, hh, _⟩
  · exact own_grew h (by
      have hg' : w.grownBy w' none := hg
      exact ⟨hg'.os, hg'.tape, hg'.output, hg'.size, fun i hi => hg'.block i hi (by simp)⟩)
  · exact own_only h (show Only g w w' from hg) (own_ne h hh (by decide))

theorem infoSl : (Tryz.prog.info? 88).map (fun i => (i.zero, i.size, i.bytes)) = some (some (.slice none 0 0), 1, 24) := by kernel_rfl

theorem wpList_appV {ops : Array Oper} {rest : List Oper} {o : Oper} {a : Act} {Q : Exit → Act → World → Prop} {w w0 : World} (s x : Operand) (hgd : o.guard = none)
    (ho : o.op = .call { callee := .builtin .append, args := #[s, x], argTypes := #[165, 165] })
    (v : Value) (us : List Value) (hs : a.eval s = v) (hown : OwnV w w0.heap.size v us) (hg : Grew w0 w) (vx u : Value) (hx : a.eval x = vx) (hr : Rd w 1 vx 1 [u]) (h1 : u.oneCell' = true) (hn : us.length ≤ 1048576)
    (h : ∀ v' w', OwnV w' w0.heap.size v' (us ++ [u]) → Grew w0 w' → w.grownBy w' v.ownBlock → wpList Tryz.prog ops Q rest (a.put o.dst v') w') : wpList Tryz.prog ops Q (o :: rest) a w := by
  obtain ⟨i0, hi0, hz0, hz1, hz2⟩ := info_parts infoSl
  refine wpList_append_rd w hgd s x _ ho w0.heap.size 88 i0 _ 1 24 Tryz.underlying165 hi0 hz0 hz1 hz2 rfl (by omega) v us.length us hs hown vx 1 [u] hx hr (by simpa using h1) (by unfold maxLen; omega) (by omega) hg.size ?_
  intro v' w' h1 h2 h3
  refine h v' w' ?_ (hg.grown h2 fun k hk => (hown.lt k hk).1) h2
  unfold OwnV
  rw [List.length_append]
  exact h1

theorem own_one {w : World} {B : Nat} {u : Value} {xs : List Nd} (h : Own w B u xs) : u.oneCell' = true := by
  obtain ⟨A, c, rfl⟩ := nodes_slice h.nodes
  rfl
theorem rd_lit (w : World) (u : Value) (t : TypeId) : Rd (w.alloc (.cells #[u] t)) 1 (.slice (some ⟨w.heap.size, 0, none⟩) 1 1) 1 [u] := by
  refine ⟨rfl, by omega, .inr ⟨w.heap.size, 0, 1, rfl, by omega, by omega, by simp, fun j x hx => ?_⟩⟩
  have hj : j = 0 := by
    have := (List.getElem?_eq_some_iff.1 hx).1
    simp at this
    omega
  subst hj
  simp at hx
  subst hx
  simp

theorem own_empty (w : World) : OwnV (w.alloc (.cells #[] 88)) w.heap.size (.slice (some ⟨w.heap.size, 0, none⟩) 0 0) [] :=
  World.ownsRow_lit (e := 88) (size := 1) w #[] 0 (Nat.le_refl _) (by omega) rfl
end Go.Proofs.YtfpkfgimhanekaaGreatDoor

/- The parts of a term in memory: inner of the program, l26Part of the reference. -/
namespace Go.Proofs.YtfpkfgimhanekaaGreatDoor
open Go.RowKit
open Tr (Tm)

/-- A node of a term. -/
def GoodN (x : Tn) : Prop := tnB x.1 x.2.1 x.2.2 = true
/-- A term whose nodes are all good. -/
def Good (t : Tm) : Prop := Tr.wf GoodN t

theorem enc_at0 (t : Tm) : tk (Tr.enc t) 0 = (Tr.hd t).1 ∧ tn (Tr.enc t) 0 = (Tr.hd t).2.1 ∧ tt (Tr.enc t) 0 = (Tr.hd t).2.2 := by
  rw [Tr.enc_kids]; exact ⟨rfl, rfl, rfl⟩
theorem tms_head {w : World} {v : Value} {t : Tm} (h : Tms w v (Tr.enc t)) : ∃ b o c, v = .slice (some ⟨b, o, none⟩) (Tr.enc t).length c ∧ (Tr.enc t).length ≤ c ∧ c ≤ 9223372036854775807 ∧ b < w.heap.size ∧
    ∀ W, Grew w W → W.cell? ⟨b, o, none⟩ = some (.int .i64 (Tr.hd t).1) ∧ W.cell? ⟨b, o + 1, none⟩ = some (.int .i64 (Tr.hd t).2.1) ∧ W.cell? ⟨b, o + 2, none⟩ = some (.string (Tr.hd t).2.2) := by
  have hpos := Tr.enc_pos t
  rcases h.open_ with ⟨_, h0⟩ | ⟨b, o, c, rfl, hc, hm, hb, hf⟩
  · rw [h0] at hpos; simp at hpos
  · obtain ⟨e0, e1, e2⟩ := enc_at0 t
    refine ⟨b, o, c, rfl, hc, hm, hb, fun W hW => ?_⟩
    have h0 := hf 0 (by omega) W hW
    rw [e0, e1, e2] at h0
    simpa using h0

/-- The parts of a term, as a slice of slices. -/
def PartsT (w : World) (v : Value) (t : Tm) : Prop :=
  (v = .slice none 0 0 ∧ Tr.kids t = []) ∨ ∃ b o c, v = .slice (some ⟨b, o, none⟩) (Tr.kids t).length c ∧ (Tr.kids t).length ≤ c ∧ c ≤ 9223372036854775807 ∧ b < w.heap.size ∧
    ∀ i, i < (Tr.kids t).length → ∃ u, w.cell? ⟨b, o + i, none⟩ = some u ∧ Tms w u (Tr.enc (Tr.kid t i))
theorem PartsT.grew {w w' : World} {v : Value} {t : Tm} (h : PartsT w v t) (hg : Grew w w') : PartsT w' v t := by
  rcases h with h | ⟨b, o, c, h1, h2, h3, h4, h5⟩
  · exact .inl h
  · exact .inr ⟨b, o, c, h1, h2, h3, Nat.lt_of_lt_of_le h4 hg.size, fun i hi => by
      obtain ⟨u, h6, h7⟩ := h5 i hi
      exact ⟨u, (hg.cell (p := ⟨b, o + i, none⟩) h4).trans h6, h7.grew hg⟩⟩

/-- A row of slices of the call's own. -/
def OwnVT (w : World) (B : Nat) (v : Value) (us : List Value) : Prop := w.ownsRow B 26 1 v us.length us
theorem infoSlT : (Tryz.prog.info? 26).map (fun i => (i.zero, i.size, i.bytes)) = some (some (.slice none 0 0), 1, 24) := by kernel_rfl
theorem wpList_appVT {ops : Array Oper} {rest : List Oper} {o : Oper} {a : Act} {Q : Exit → Act → World → Prop} {w w0 : World} (s x : Operand) (hgd : o.guard = none)
    (ho : o.op = .call { callee := .builtin .append, args := #[s, x], argTypes := #[60, 60] })
    (v : Value) (us : List Value) (hs : a.eval s = v) (hown : OwnVT w w0.heap.size v us) (hg : Grew w0 w) (vx u : Value) (hx : a.eval x = vx) (hr : Rd w 1 vx 1 [u]) (h1 : u.oneCell' = true) (hn : us.length ≤ 1048576)
    (h : ∀ v' w', OwnVT w' w0.heap.size v' (us ++ [u]) → Grew w0 w' → w.grownBy w' v.ownBlock → wpList Tryz.prog ops Q rest (a.put o.dst v') w') : wpList Tryz.prog ops Q (o :: rest) a w := by
  obtain ⟨i0, hi0, hz0, hz1, hz2⟩ := info_parts infoSlT
  refine wpList_append_rd w hgd s x _ ho w0.heap.size 26 i0 _ 1 24 Tryz.underlying60 hi0 hz0 hz1 hz2 rfl (by omega) v us.length us hs hown vx 1 [u] hx hr (by simpa using h1) (by unfold maxLen; omega) (by omega) hg.size ?_
  intro v' w' h1 h2 h3
  refine h v' w' ?_ (hg.grown h2 fun k hk => (hown.lt k hk).1) h2
  unfold OwnVT
  rw [List.length_append]
  exact h1

/-- The first slices of the parts, each read in the world of the entry. -/
def HoldT (w : World) (t : Tm) (us : List Value) : Prop := ∀ i u, us[i]? = some u → Tms w u (Tr.enc (Tr.kid t i))
theorem HoldT.snoc {w : World} {t : Tm} {us : List Value} {u : Value} (h : HoldT w t us) (hu : Tms w u (Tr.enc (Tr.kid t us.length))) : HoldT w t (us ++ [u]) := by
  intro i x hx
  rcases Nat.lt_or_ge i us.length with hk | hk
  · rw [List.getElem?_append_left hk] at hx
    exact h i x hx
  · rw [List.getElem?_append_right hk] at hx
    have hi : i - us.length = 0 := by
      have := (List.getElem?_eq_some_iff.1 hx).1
      simp at this
      omega
    obtain rfl : i = us.length := by omega
    rw [hi] at hx
    simp at hx
    subst hx
    exact hu
theorem parts_of {w w' : World} {B : Nat} {v : Value} {t : Tm} {us : List Value} (hv : OwnVT w' B v us) (hl : us.length = (Tr.kids t).length) (h : HoldT w t us) (hg : Grew w w') : PartsT w' v t := by
  obtain ⟨_, _, h3⟩ := Rd.of_own hv
  rcases h3 with ⟨h4, h5⟩ | ⟨b, o, c, h4, h5, h6, h7, h8⟩
  · exact .inl ⟨h4, List.eq_nil_of_length_eq_zero (by omega)⟩
  · refine .inr ⟨b, o, c, by rw [← hl]; exact h4, by omega, h6, h7, fun i hi => ?_⟩
    have hi' : i < us.length := by omega
    have hx := List.getElem?_eq_getElem hi'
    exact ⟨us[i], h8 i _ hx, (h i _ hx).grew hg⟩
theorem tms_one {w : World} {u : Value} {xs : List Tn} (h : Tms w u xs) : u.oneCell' = true := by
  obtain ⟨A, c, rfl⟩ := tms_slice h
  rfl

theorem inner_o (v : Value) (t : Tm) (w0 w : World) (h0 : Tms w0 v (Tr.enc t)) (hw0 : Grew w0 w) (hg : Good t) (hn : (Tr.enc t).length ≤ 1048576) :
    Calls Tryz.prog 37 #[v] w fun e w' => ∃ u us, e = .returned u ∧ OwnVT w' w.heap.size u us ∧ us.length = (Tr.kids t).length ∧ HoldT w0 t us ∧ Grew w w' := by
  have h := h0.grew hw0
  obtain ⟨b, o, c, rfl, hc, hm, hb, hf⟩ := tms_head h
  have hkl := Tr.kids_len hg
  have k1 := (hf _ (Grew.refl w)).1
  have hpos := Tr.enc_pos t
  have HE := Lib.hid (fun i (hi : i < (Tr.kids t).length) W (hW : Grew w W) => by
    have h1 := termEnd_c _ (Tr.enc t) (Tr.off t i) W (h.grew hW) hn (by have := Tr.off_end hi; omega)
    rw [Tr.pend_kid hg hi, Int.natCast_add] at h1
    exact h1)
  have HL := Lib.hid (fun i (hi : i < (Tr.kids t).length) => (⟨Tr.off_end hi, Tr.off_next hi, Tr.enc_pos (Tr.kid t i)⟩ : Tr.off t i + (Tr.enc (Tr.kid t i)).length ≤ (Tr.enc t).length ∧ Tr.off t (i + 1) = Tr.off t i + (Tr.enc (Tr.kid t i)).length ∧ 1 ≤ (Tr.enc (Tr.kid t i)).length))
  have HS := Lib.hid (fun i (hi : i < (Tr.kids t).length) (c' : Nat) (hc1 : (Tr.enc (Tr.kid t i)).length ≤ c') (hc2 : c' ≤ 9223372036854775807) => by
    have h1 := h0.sub (Tr.off t i) (Tr.enc (Tr.kid t i)).length c' (Tr.off_end hi) hc1 hc2
    rw [Tr.take_kid hi] at h1
    exact h1)
  have har := Tr.ar_le (Tr.hd t).1
  have hz := Tr.off_zero t
  clear hf h hg h0 hw0
  generalize hN : (Tr.enc t).length = n at *
  clear hN
  generalize hM : (Tr.kids t).length = m at *
  have HTP := Lib.hid (fun w => termParts_c (Tr.hd t).1 w)
  generalize Tr.ar (Tr.hd t).1 = ar at *
  subst hkl
  go_enter Tryz.func37, Tryz.ntmps37
  go_wp2_with fail
  refine (HTP.out _).mono ?_
  rintro e w1 ⟨rfl, hg1⟩
  go_wp2_with fail
  go_loopw [3, 4, 5, 11] (fun vv x _ i wr => ∃ (j : Nat) (us : List Value), j ≤ m ∧ us.length = j ∧ i = .int .i64 j ∧ x = .int .i64 (Tr.off t j) ∧ OwnVT wr w.heap.size vv us ∧ Grew w wr ∧ Hid (HoldT w0 t us)) (fun _ _ _ i _ => m - (intOf i).toNat)
  case atStart => exact ⟨0, [], Nat.zero_le _, rfl, rfl, by rw [hz]; rfl, World.ownsRow_nil w1 _ _ 1, hg1, fun i u hi => absurd hi (by simp)⟩
  case round =>
    obtain ⟨j, us, hj, hu, rfl, rfl, hO, hB, HH⟩ := hrel
    by_cases hlt : j < m
    · obtain ⟨hl1, hl2, hl3⟩ := HL.out j (by omega)
      have hE := Lib.hid (HE.out j (by omega))
      have hS := Lib.hid (HS.out j (by omega))
      have hsnoc := Lib.hid (fun u (hu' : Tms w0 u (Tr.enc (Tr.kid t j))) => HH.out.snoc (u := u) (by rw [hu]; exact hu'))
      have HL2 := Lib.hid hl2
      clear hl2
      generalize Tr.enc (Tr.kid t j) = X at *
      generalize Tr.off t j = oj at *
      have hq0 : (0 : Int) ≤ (oj : Int) := by omega
      have hq1 : (oj : Int) ≤ (oj : Int) + (X.length : Int) := by omega
      have hq2 : (oj : Int) + (X.length : Int) ≤ (c : Int) := by omega
      go_wp2_with fail
      refine (hE.out _ hB).mono ?_
      rintro e w2 ⟨rfl, hg2⟩
      have hB2 := hB.trans hg2
      have hO1 : OwnVT (w2.alloc (.cells #[.slice (some ⟨b, o + oj * 3, none⟩) X.length (c - oj)] 26)) w.heap.size u3 us := own_grew hO (hg2.trans ((Grew.refl w2).alloc _))
      have hT := Lib.hid (hS.out (c - oj) (by omega) (by omega))
      go_wp2_with (first | (at_builtin; refine wpList_appVT (w0 := w) _ _ rfl rfl _ us rfl hO1 (hB2.alloc _) _ _ rfl (rd_lit _ _ _) rfl (by omega) ?_; intro v2 w3 hown2 hg3 hgr3))
      go_roundw
      case rel => exact ⟨j + 1, _, by omega, by rw [List.length_append, hu]; rfl, by go_num, by rw [HL2.out]; go_num, hown2, hg3, hsnoc.out _ hT.out⟩
      case measure => simp [intOf]; omega
    · obtain rfl : j = m := by omega
      go_wp2_with fail
      go_ret
      exact ⟨_, _, rfl, hO, by omega, HH.out, hB⟩
theorem inner_c (v : Value) (t : Tm) (w : World) (h : Tms w v (Tr.enc t)) (hg : Good t) (hn : (Tr.enc t).length ≤ 1048576) :
    Calls Tryz.prog 37 #[v] w fun e w' => ∃ u, e = .returned u ∧ PartsT w' u t ∧ Grew w w' :=
  (inner_o v t w w h (Grew.refl w) hg hn).mono fun _ _ ⟨u, _, h1, h2, h3, h4, h5⟩ => ⟨u, h1, parts_of h2 h3 h4 h5, h5⟩
theorem OwnVT.cell {w : World} {B g n c : Nat} {us : List Value} (h : OwnVT w B (.slice (some ⟨g, 0, none⟩) n c) us) {i : Nat} {x : Value} (hx : us[i]? = some x) : w.cell? ⟨g, i, none⟩ = some x := by
  obtain ⟨_, _, h3⟩ := Rd.of_own h
  rcases h3 with ⟨h4, _⟩ | ⟨b, o, c', h4, _, _, _, h8⟩
  · cases h4
  · obtain ⟨⟨rfl, rfl⟩, _⟩ : (g = b ∧ 0 = o) ∧ _ := by simpa using h4
    have := h8 i x hx
    rwa [Nat.zero_add] at this
theorem OwnVT.open_ {w : World} {B : Nat} {v : Value} {us : List Value} (h : OwnVT w B v us) (h0 : 0 < us.length) : ∃ g c, v = .slice (some ⟨g, 0, none⟩) us.length c ∧ us.length ≤ c ∧ c ≤ 9223372036854775807 ∧ B ≤ g ∧ g < w.heap.size := by
  rcases h.2 with ⟨_, h5⟩ | ⟨g, cap, cur, rfl, hb, hg, hnc, hcm, _, _⟩
  · omega
  · exact ⟨g, cap, rfl, hnc, hcm, hb, (Array.getElem?_eq_some_iff.1 hg).1⟩
/-- An append onto a row of nodes leaves the row of slices. -/
theorem ownVT_app {w w' : World} {B B' : Nat} {u v : Value} {us : List Value} {xs : List Tn} (h : OwnVT w B u us) (hv : OwnT w B' v xs) (hg : w.grownBy w' v.ownBlock) : OwnVT w' B u us := by
  rcases hv.2 with ⟨rfl, _⟩ | ⟨g, cap, cur, rfl, _, hh, _⟩
  · exact own_grew h (by
      have hg' : w.grownBy w' none := hg
      exact ⟨hg'.os, hg'.tape, hg'.output, hg'.size, fun i hi => hg'.block i hi (by simp)⟩)
  · exact own_only h (show Only g w w' from hg) (own_ne h hh (by decide))
end Go.Proofs.YtfpkfgimhanekaaGreatDoor

/- Good terms: kinds, parts, the tree of a list of nodes. No program is in sight. -/
namespace Go.Proofs.YtfpkfgimhanekaaGreatDoor
open Go.RowKit
open Tr (Tm)

theorem good_kind {t : Tm} (h : Good t) : 0 ≤ (Tr.hd t).1 ∧ (Tr.hd t).1 ≤ 9 := by
  by_cases hk : 0 ≤ (Tr.hd t).1 ∧ (Tr.hd t).1 ≤ 9
  · exact hk
  · have h1 := Tr.hd_wf h
    unfold GoodN at h1
    rw [tnB_kind hk] at h1
    cases h1
theorem good_leaf {t : Tm} (h : Good t) : Tr.kids t = [] ↔ (Tr.hd t).1 = 0 := by
  have h1 := Tr.kids_len h
  have h2 := good_kind h
  constructor
  · intro h3
    rw [h3] at h1
    unfold Tr.ar at h1
    simp only [List.length_nil] at h1
    split at h1
    · omega
    · split at h1
      · omega
      · split at h1 <;> omega
  · intro h3
    rw [h3] at h1
    exact List.eq_nil_of_length_eq_zero (by rw [h1]; rfl)
theorem tmB_tree {xs : List Tn} (h : tmB xs = true) : ∃ t, Good t ∧ Tr.enc t = xs ∧ xs.length ≤ 60 := by
  unfold tmB at h
  simp only [Bool.and_eq_true, decide_eq_true_eq, Bool.not_eq_true', beq_iff_eq] at h
  obtain ⟨⟨⟨h1, h2⟩, h3⟩, h4⟩ := h
  have hall : ∀ x ∈ xs, GoodN x := by
    intro x hx
    obtain ⟨i, hi, rfl⟩ := List.getElem_of_mem hx
    have := anyT_none h3 hi
    unfold GoodN
    rw [tk_lt hi]
    simpa [noTn] using this
  have hs : Tr.scan xs 1 = some xs.length := by
    unfold Tr.pend at h4
    rw [List.drop_zero] at h4
    cases hz : Tr.scan xs 1 with
    | none => rw [hz] at h4; simp only [Tr.pval] at h4; omega
    | some n => rw [hz] at h4; simp only [Tr.pval] at h4; congr 1; omega
  obtain ⟨t, ht, he⟩ := Tr.tree_of hs hall
  exact ⟨t, ht, he, h2⟩
/-- The tree of a list that is a term's. -/
noncomputable def tmT (xs : List Tn) : Tm := @dite _ (tmB xs = true) (Classical.propDecidable _) (fun h => Classical.choose (tmB_tree h)) (fun _ => .t0 (0, 0, ByteArray.empty))
theorem tmT_ok {xs : List Tn} (h : tmB xs = true) : Good (tmT xs) ∧ Tr.enc (tmT xs) = xs ∧ xs.length ≤ 60 := by
  unfold tmT
  rw [dif_pos h]
  exact Classical.choose_spec (tmB_tree h)

/-- The rest of a term with one part. -/
theorem sub_one {w : World} {b o c : Nat} {x : Tn} {a : Tm} (h : Tms w (.slice (some ⟨b, o, none⟩) ((Tr.enc a).length + 1) c) (x :: Tr.enc a)) (hc : (Tr.enc a).length + 1 ≤ c) (hc2 : c ≤ 9223372036854775807) : Tms w (.slice (some ⟨b, o + 3, none⟩) (Tr.enc a).length (c - 1)) (Tr.enc a) := by
  have := h.sub 1 (Tr.enc a).length (c - 1) (by simp; omega) (by omega) (by omega)
  simpa using this
theorem ar_one {k : Int} (h : Tr.ar k = 1) : k = 1 ∨ k = 4 ∨ k = 5 ∨ k = 6 ∨ k = 7 ∨ k = 9 := by
  unfold Tr.ar at h
  split at h
  · assumption
  · split at h
    · omega
    · split at h <;> omega
theorem ar_two {k : Int} (h : Tr.ar k = 2) : k = 2 ∨ k = 3 := by
  unfold Tr.ar at h
  split at h
  · omega
  · split at h
    · assumption
    · split at h <;> omega
theorem ar_three {k : Int} (h : Tr.ar k = 3) : k = 8 := by
  unfold Tr.ar at h
  split at h
  · omega
  · split at h
    · omega
    · split at h
      · assumption
      · omega
end Go.Proofs.YtfpkfgimhanekaaGreatDoor

/- Plain formulas of the size of a text, and their texts. No program is in sight. -/
namespace Go.Proofs.YtfpkfgimhanekaaGreatDoor
open Go.RowKit

/-- The text of a formula. -/
def tx (A : Fm.Tree) : ByteArray := bs (Fm.txt A 0)
/-- A formula of the size of a text. -/
def FmOk (A : Fm.Tree) : Prop := (Fm.enc A).length ≤ 40 ∧ anyP isBD (Fm.enc A) = false
theorem tx_pf {A : Fm.Tree} (h : (Fm.enc A).length ≤ 40) : Fm.pf (tx A) = (Fm.enc A, 0, 0) := Fm.pf_txt A (by have := Fm.txt_len A 0; omega) h
theorem tx_size {A : Fm.Tree} (h : (Fm.enc A).length ≤ 40) : (tx A).size ≤ 160 := by
  unfold tx
  rw [bs_size]
  have := Fm.txt_len A 0
  omega
theorem tx_inj {A B : Fm.Tree} (ha : (Fm.enc A).length ≤ 40) (hb : (Fm.enc B).length ≤ 40) (h : tx A = tx B) : A = B := by
  have h1 := tx_pf ha
  rw [h, tx_pf hb] at h1
  simp only [Prod.mk.injEq, and_true] at h1
  exact (enc_inj h1).symm
theorem gp_tx {A : Fm.Tree} (h : FmOk A) : gp (tx A) = true := by
  unfold gp
  rw [gd_true ⟨A, tx_pf h.1, rfl⟩, tx_pf h.1]
  simp [h.2]
theorem gp_tree {s : ByteArray} (h : gp s = true) : ∃ A, FmOk A ∧ tx A = s := by
  unfold gp at h
  simp only [Bool.and_eq_true, Bool.not_eq_true'] at h
  have hg : IsGood s := by
    by_cases hg : IsGood s
    · exact hg
    · rw [gd_false hg] at h; exact absurd h.1 (by simp)
  obtain ⟨A, h1, h2⟩ := hg
  have hl := Fm.pf_len s
  rw [h1] at hl h
  exact ⟨A, ⟨hl, h.2⟩, h2⟩
theorem tx_ne (A : Fm.Tree) : (tx A).toList.isEmpty = false := by
  have h1 := Fm.txt_pos A 0
  unfold tx
  cases he : Fm.txt A 0 with
  | nil => rw [he] at h1; simp at h1
  | cons x xs =>
    have := Lib.bytes_beq_iff (bs (x :: xs)) ByteArray.empty
    cases hq : (bs (x :: xs)).toList.isEmpty with
    | false => rfl
    | true =>
      exfalso
      have h2 : (bs (x :: xs)).toList = ByteArray.empty.toList := by
        rw [List.isEmpty_iff] at hq
        rw [hq]; exact (by unfold ByteArray.toList ByteArray.toList.loop; rfl : ([] : List UInt8) = ByteArray.empty.toList)
      have h3 := this.1 (by rw [h2]; simp)
      have h4 := congrArg ByteArray.size h3
      rw [bs_size] at h4
      simp at h4

/-- The formula that a text is the text of. -/
noncomputable def fo (s : ByteArray) : Fm.Tree := @dite _ (gp s = true) (Classical.propDecidable _) (fun h => Classical.choose (gp_tree h)) (fun _ => .fls)
theorem fo_ok {s : ByteArray} (h : gp s = true) : FmOk (fo s) ∧ tx (fo s) = s := by
  unfold fo
  rw [dif_pos h]
  exact Classical.choose_spec (gp_tree h)

/-- The formula, if it has not too many nodes. -/
def smallF (A : Fm.Tree) : Option Fm.Tree := if (Fm.enc A).length ≤ 40 then some A else none
theorem anyP_mem {p : Int → Int → Bool} {xs : List Fm.Nd} : anyP p xs = false ↔ ∀ x ∈ xs, p x.1 x.2 = false := by
  constructor
  · intro h x hx
    obtain ⟨i, hi, rfl⟩ := List.getElem_of_mem hx
    cases hq : p xs[i].1 xs[i].2 with
    | false => rfl
    | true =>
      have := anyP_at (p := p) hi (by simpa [kd, sy, List.getD, hi] using hq)
      rw [this] at h; cases h
  · intro h
    apply anyP_no
    intro i hi
    have := h xs[i] (List.getElem_mem hi)
    simpa [kd, sy, List.getD, hi] using this
theorem FmOk.bin {k : Int} {A B : Fm.Tree} {C : Fm.Tree} (he : Fm.enc C = (k, 0) :: (Fm.enc A ++ Fm.enc B)) (h : FmOk C) : FmOk A ∧ FmOk B := by
  obtain ⟨h1, h2⟩ := h
  rw [he] at h1 h2
  rw [anyP_mem] at h2
  simp only [List.length_cons, List.length_append] at h1
  exact ⟨⟨by omega, anyP_mem.2 fun x hx => h2 x (by simp [hx])⟩, ⟨by omega, anyP_mem.2 fun x hx => h2 x (by simp [hx])⟩⟩
theorem FmOk.join {k : Int} {A B : Fm.Tree} {C : Fm.Tree} (he : Fm.enc C = (k, 0) :: (Fm.enc A ++ Fm.enc B)) (hk : k ≠ 5 ∧ k ≠ 6) (hA : FmOk A) (hB : FmOk B) (hl : (Fm.enc C).length ≤ 40) : FmOk C := by
  refine ⟨hl, anyP_mem.2 ?_⟩
  rw [he]
  intro x hx
  simp only [List.mem_cons, List.mem_append] at hx
  rcases hx with rfl | hx | hx
  · unfold isBD
    have h5 : (k == 5) = false := by simpa using hk.1
    have h6 : (k == 6) = false := by simpa using hk.2
    show (k == 5 || k == 6) = false
    rw [h5, h6]; rfl
  · exact anyP_mem.1 hA.2 x hx
  · exact anyP_mem.1 hB.2 x hx
theorem smallF_ok {A B : Fm.Tree} (h : smallF A = some B) : A = B ∧ (Fm.enc B).length ≤ 40 := by
  unfold smallF at h
  split at h
  · simp at h; subst h; exact ⟨rfl, ‹_›⟩
  · cases h
theorem fmOk_and {p q : Fm.Tree} (h : FmOk (.and p q)) : FmOk p ∧ FmOk q := FmOk.bin (k := 2) rfl h
theorem fmOk_or {p q : Fm.Tree} (h : FmOk (.or p q)) : FmOk p ∧ FmOk q := FmOk.bin (k := 3) rfl h
theorem fmOk_imp {p q : Fm.Tree} (h : FmOk (.imp p q)) : FmOk p ∧ FmOk q := FmOk.bin (k := 4) rfl h
theorem small_and {p q B : Fm.Tree} (hp : FmOk p) (hq : FmOk q) (h : smallF (.and p q) = some B) : FmOk B := by
  obtain ⟨rfl, hl⟩ := smallF_ok h
  exact FmOk.join (k := 2) rfl (by decide) hp hq hl
theorem small_or {p q B : Fm.Tree} (hp : FmOk p) (hq : FmOk q) (h : smallF (.or p q) = some B) : FmOk B := by
  obtain ⟨rfl, hl⟩ := smallF_ok h
  exact FmOk.join (k := 3) rfl (by decide) hp hq hl
theorem small_imp {p q B : Fm.Tree} (hp : FmOk p) (hq : FmOk q) (h : smallF (.imp p q) = some B) : FmOk B := by
  obtain ⟨rfl, hl⟩ := smallF_ok h
  exact FmOk.join (k := 4) rfl (by decide) hp hq hl
end Go.Proofs.YtfpkfgimhanekaaGreatDoor

/- The texts of terms: two terms with one text are equal. No program is in sight. -/
namespace Go.Proofs.YtfpkfgimhanekaaGreatDoor
open Go.RowKit
open Tr (Tm)

/-- The number in decimal, one digit or two. -/
def decL (n : Int) : List UInt8 := if n < 10 then [UInt8.ofNat (48 + n.toNat)] else [UInt8.ofNat (48 + n.toNat / 10), UInt8.ofNat (48 + n.toNat % 10)]
def sl (s : ByteArray) : List UInt8 := s.data.toList
/-- The first byte of the text of a node of a kind. -/
def chK (k : Int) : UInt8 := if k = 0 then 120 else if k = 1 then 47 else if k = 2 then 40 else if k = 3 then 91 else if k = 4 then 49 else if k = 5 then 50 else if k = 6 then 108 else if k = 7 then 114 else if k = 8 then 123 else 102
/-- The text of a term. -/
def ttx : Tm → List UInt8
  | .t0 x => 120 :: decL x.2.1
  | .t1 x a => if x.1 = 4 ∨ x.1 = 5 then chK x.1 :: ttx a else chK x.1 :: (sl x.2.2 ++ 58 :: ttx a)
  | .t2 x a b => if x.1 = 2 then 40 :: (ttx a ++ 32 :: (ttx b ++ [41])) else 91 :: (ttx a ++ 44 :: (ttx b ++ [93]))
  | .t3 _ a b c => 123 :: (ttx a ++ 59 :: (ttx b ++ 59 :: (ttx c ++ [125])))

theorem wrap_mem {c : UInt8} {l o : Nat} {s : List UInt8} (h : c ∈ Fm.wrap l o s) : c = 40 ∨ c = 41 ∨ c ∈ s := by
  unfold Fm.wrap at h
  split at h
  · simp at h
    rcases h with h | h | h
    · exact .inl h
    · exact .inr (.inr h)
    · exact .inr (.inl h)
  · exact .inr (.inr h)
theorem txt_colon : ∀ (T : Fm.Tree) (l : Nat), (58 : UInt8) ∉ Fm.txt T l := by
  intro T
  induction T with
  | var v =>
    intro l h
    simp only [Fm.txt, List.mem_singleton] at h
    have hv := v.isLt
    have := congrArg UInt8.toNat h
    rw [UInt8.toNat_ofNat_of_lt' (by omega : 112 + v.val < 256)] at this
    simp at this
    omega
  | fls => intro l h; simp [Fm.txt] at h
  | and a b ha hb =>
    intro l h
    rcases wrap_mem h with h | h | h
    · exact absurd h (by decide)
    · exact absurd h (by decide)
    · simp at h
      rcases h with h | h
      · exact ha _ h
      · exact hb _ h
  | or a b ha hb =>
    intro l h
    rcases wrap_mem h with h | h | h
    · exact absurd h (by decide)
    · exact absurd h (by decide)
    · simp at h
      rcases h with h | h
      · exact ha _ h
      · exact hb _ h
  | imp a b ha hb =>
    intro l h
    rw [Fm.txt] at h
    split at h
    · split at h
      · simp at h
      · simp at h; exact ha _ h
    · rcases wrap_mem h with h | h | h
      · exact absurd h (by decide)
      · exact absurd h (by decide)
      · simp at h
        rcases h with h | h
        · exact ha _ h
        · exact hb _ h
  | box a ha => intro l h; simp [Fm.txt] at h; exact ha _ h
  | dia a ha => intro l h; simp [Fm.txt] at h; exact ha _ h
theorem gp_colon {s : ByteArray} (h : gp s = true) : (58 : UInt8) ∉ sl s := by
  obtain ⟨A, _, rfl⟩ := gp_tree h
  unfold sl tx
  rw [bs_list]
  exact txt_colon A 0

theorem cut_colon {a b r s : List UInt8} (ha : (58 : UInt8) ∉ a) (hb : (58 : UInt8) ∉ b) (h : a ++ 58 :: r = b ++ 58 :: s) : a = b ∧ r = s := by
  induction a generalizing b with
  | nil =>
    cases b with
    | nil => simpa using h
    | cons y b => simp at h; simp [← h.1] at hb
  | cons x a ih =>
    cases b with
    | nil => simp at h; simp [h.1] at ha
    | cons y b =>
      simp only [List.cons_append, List.cons.injEq] at h
      obtain ⟨e, h⟩ := h
      have := ih (fun h => ha (by simp [h])) (fun h => hb (by simp [h])) h
      exact ⟨by rw [e, this.1], this.2⟩

/-- The rest doesn't begin with a digit. -/
def NoDig (r : List UInt8) : Prop := ∀ c q, r = c :: q → ¬ (48 ≤ c.toNat ∧ c.toNat ≤ 57)
theorem NoDig.cons {c : UInt8} {q : List UInt8} (h : ¬ (48 ≤ c.toNat ∧ c.toNat ≤ 57)) : NoDig (c :: q) := by
  intro d p hd
  simp at hd
  rw [← hd.1]
  exact h
theorem digU {n : Nat} (h : n ≤ 9) : (UInt8.ofNat (48 + n)).toNat = 48 + n := UInt8.toNat_ofNat_of_lt' (by omega : 48 + n < 256)
theorem decL_inj {n m : Int} {r s : List UInt8} (hn0 : 0 ≤ n) (hn : n ≤ 99) (hm0 : 0 ≤ m) (hm : m ≤ 99) (hr : NoDig r) (hs : NoDig s) (h : decL n ++ r = decL m ++ s) : n = m ∧ r = s := by
  unfold decL at h
  split at h
  · split at h
    · simp only [List.cons_append, List.nil_append, List.cons.injEq] at h
      have e := congrArg UInt8.toNat h.1
      rw [digU (by omega), digU (by omega)] at e
      exact ⟨by omega, h.2⟩
    · simp only [List.cons_append, List.nil_append, List.cons.injEq] at h
      exact absurd (by rw [digU (by omega)]; omega) (hr _ _ h.2)
  · split at h
    · simp only [List.cons_append, List.nil_append, List.cons.injEq] at h
      exact absurd (by rw [digU (by omega)]; omega) (hs _ _ h.2.symm)
    · simp only [List.cons_append, List.nil_append, List.cons.injEq] at h
      have e1 := congrArg UInt8.toNat h.1
      have e2 := congrArg UInt8.toNat h.2.1
      rw [digU (by omega), digU (by omega)] at e1
      rw [digU (by omega), digU (by omega)] at e2
      exact ⟨by omega, h.2.2⟩

theorem ttx_head {t : Tm} (h : Good t) : ∃ q, ttx t = chK (Tr.hd t).1 :: q := by
  cases t with
  | t0 x =>
    have hk : x.1 = 0 := (good_leaf h).1 rfl
    exact ⟨_, by show ttx (.t0 x) = chK x.1 :: _; rw [hk]; rfl⟩
  | t1 x a =>
    show ∃ q, ttx (.t1 x a) = chK x.1 :: q
    unfold ttx
    split
    · exact ⟨_, rfl⟩
    · exact ⟨_, rfl⟩
  | t2 x a b =>
    show ∃ q, ttx (.t2 x a b) = chK x.1 :: q
    unfold ttx
    rcases ar_two (show Tr.ar x.1 = 2 from h.1.1) with hk | hk
    · rw [hk, if_pos rfl]; exact ⟨_, rfl⟩
    · rw [hk, if_neg (by decide)]; exact ⟨_, rfl⟩
  | t3 x a b c =>
    have hk := ar_three (show Tr.ar x.1 = 3 from h.1.1)
    exact ⟨_, by show ttx (.t3 x a b c) = chK x.1 :: _; rw [hk]; rfl⟩
theorem chK_inj {k l : Int} (hk : 0 ≤ k ∧ k ≤ 9) (hl : 0 ≤ l ∧ l ≤ 9) (h : chK k = chK l) : k = l := by
  have h1 : k = 0 ∨ k = 1 ∨ k = 2 ∨ k = 3 ∨ k = 4 ∨ k = 5 ∨ k = 6 ∨ k = 7 ∨ k = 8 ∨ k = 9 := by omega
  have h2 : l = 0 ∨ l = 1 ∨ l = 2 ∨ l = 3 ∨ l = 4 ∨ l = 5 ∨ l = 6 ∨ l = 7 ∨ l = 8 ∨ l = 9 := by omega
  rcases h1 with rfl | rfl | rfl | rfl | rfl | rfl | rfl | rfl | rfl | rfl <;> rcases h2 with rfl | rfl | rfl | rfl | rfl | rfl | rfl | rfl | rfl | rfl <;> first | rfl | (exfalso; revert h; decide)
theorem hd_kind {t : Tm} (h : Good t) : 0 ≤ (Tr.hd t).1 ∧ (Tr.hd t).1 ≤ 9 := by
  cases t with
  | t0 x => have hk : x.1 = 0 := (good_leaf h).1 rfl; show 0 ≤ x.1 ∧ x.1 ≤ 9; omega
  | t1 x a => have hk := ar_one (show Tr.ar x.1 = 1 from h.1.1); show 0 ≤ x.1 ∧ x.1 ≤ 9; omega
  | t2 x a b => have hk := ar_two (show Tr.ar x.1 = 2 from h.1.1); show 0 ≤ x.1 ∧ x.1 ≤ 9; omega
  | t3 x a b c => have hk := ar_three (show Tr.ar x.1 = 3 from h.1.1); show 0 ≤ x.1 ∧ x.1 ≤ 9; omega
theorem isE {s : ByteArray} (h : s.toList.isEmpty = true) : s = ByteArray.empty := by
  have h1 : (s.toList == ByteArray.empty.toList) = true := by
    rw [List.isEmpty_iff] at h
    rw [h]
    have h2 : ByteArray.empty.toList = [] := by unfold ByteArray.toList ByteArray.toList.loop; rfl
    rw [h2]; rfl
  exact (Lib.bytes_beq_iff s ByteArray.empty).1 h1
/-- What a good node looks like. -/
theorem goodN_var {x : Tn} (h : GoodN x) (h0 : x.1 = 0) : 0 ≤ x.2.1 ∧ x.2.1 ≤ 99 ∧ x.2.2 = ByteArray.empty := by
  unfold GoodN tnB at h
  rw [h0, if_pos (by rfl)] at h
  simp only [Bool.and_eq_true, decide_eq_true_eq] at h
  exact ⟨h.1.1, h.1.2, isE h.2⟩
theorem goodN_typed {x : Tn} (h : GoodN x) (h0 : x.1 = 1 ∨ x.1 = 6 ∨ x.1 = 7 ∨ x.1 = 9) : x.2.1 = 0 ∧ gp x.2.2 = true := by
  unfold GoodN tnB at h
  rw [if_neg (by simp; omega), if_pos (by rcases h0 with e | e | e | e <;> rw [e] <;> rfl)] at h
  simp only [Bool.and_eq_true, beq_iff_eq] at h
  exact h
theorem goodN_plain {x : Tn} (h : GoodN x) (h0 : x.1 = 2 ∨ x.1 = 3 ∨ x.1 = 4 ∨ x.1 = 5 ∨ x.1 = 8) : x.2.1 = 0 ∧ x.2.2 = ByteArray.empty := by
  unfold GoodN tnB at h
  rw [if_neg (by simp; omega), if_neg (by rcases h0 with e | e | e | e | e <;> rw [e] <;> decide)] at h
  simp only [Bool.and_eq_true, beq_iff_eq] at h
  exact ⟨h.1.2, isE h.2⟩
theorem tn_eq {x y : Tn} (h1 : x.1 = y.1) (h2 : x.2.1 = y.2.1) (h3 : x.2.2 = y.2.2) : x = y := by
  obtain ⟨a, b, c⟩ := x
  obtain ⟨d, e, f⟩ := y
  simp only at h1 h2 h3
  rw [h1, h2, h3]
theorem sl_inj {a b : ByteArray} (h : sl a = sl b) : a = b := by
  have := congrArg bs h
  unfold sl at this
  rwa [bs_eq, bs_eq] at this

theorem ttx_inj : ∀ t, Good t → ∀ u, Good u → ∀ r s, NoDig r → NoDig s → ttx t ++ r = ttx u ++ s → t = u ∧ r = s := by
  intro t
  induction t with
  | t0 x =>
    intro ht u hu r s hr hs h
    have hx0 : x.1 = 0 := (good_leaf ht).1 rfl
    obtain ⟨p, hp⟩ := ttx_head ht
    obtain ⟨q, hq⟩ := ttx_head hu
    have hk : (Tr.hd u).1 = 0 := by
      rw [hp, hq] at h
      simp only [List.cons_append, List.cons.injEq] at h
      exact (chK_inj (hd_kind ht) (hd_kind hu) h.1).symm.trans hx0
    cases u with
    | t0 y =>
      obtain ⟨a1, a2, a3⟩ := goodN_var ht.2 hx0
      obtain ⟨b1, b2, b3⟩ := goodN_var hu.2 hk
      simp only [ttx, List.cons_append, List.cons.injEq, true_and] at h
      obtain ⟨e, h⟩ := decL_inj a1 a2 b1 b2 hr hs h
      exact ⟨by rw [tn_eq (x := x) (y := y) (hx0.trans hk.symm) e (a3.trans b3.symm)], h⟩
    | t1 y a => have := ar_one (show Tr.ar y.1 = 1 from hu.1.1); have hk' : y.1 = 0 := hk; omega
    | t2 y a b => have := ar_two (show Tr.ar y.1 = 2 from hu.1.1); have hk' : y.1 = 0 := hk; omega
    | t3 y a b c => have := ar_three (show Tr.ar y.1 = 3 from hu.1.1); have hk' : y.1 = 0 := hk; omega
  | t1 x a iha =>
    intro ht u hu r s hr hs h
    have hxk := ar_one (show Tr.ar x.1 = 1 from ht.1.1)
    obtain ⟨p, hp⟩ := ttx_head ht
    obtain ⟨q, hq⟩ := ttx_head hu
    have hk : x.1 = (Tr.hd u).1 := by
      have h2 := h
      rw [hp, hq] at h2
      simp only [List.cons_append, List.cons.injEq] at h2
      exact chK_inj (hd_kind ht) (hd_kind hu) h2.1
    cases u with
    | t0 y => have := (good_leaf hu).1 rfl; omega
    | t1 y b =>
      have hk : x.1 = y.1 := hk
      by_cases h45 : x.1 = 4 ∨ x.1 = 5
      · simp only [ttx] at h
        rw [if_pos h45, if_pos (by rw [← hk]; exact h45)] at h
        simp only [List.cons_append, List.cons.injEq] at h
        obtain ⟨e, h⟩ := iha ht.2 b hu.2 r s hr hs h.2
        obtain ⟨a2, a3⟩ := goodN_plain ht.1.2 (by omega)
        obtain ⟨b2, b3⟩ := goodN_plain hu.1.2 (by omega)
        exact ⟨by rw [tn_eq (x := x) (y := y) hk (a2.trans b2.symm) (a3.trans b3.symm), e], h⟩
      · simp only [ttx] at h
        rw [if_neg h45, if_neg (by rw [← hk]; exact h45)] at h
        simp only [List.cons_append, List.append_assoc, List.cons.injEq] at h
        obtain ⟨a2, a3⟩ := goodN_typed ht.1.2 (by omega)
        obtain ⟨b2, b3⟩ := goodN_typed hu.1.2 (by omega)
        obtain ⟨e1, h⟩ := cut_colon (gp_colon a3) (gp_colon b3) h.2
        obtain ⟨e, h⟩ := iha ht.2 b hu.2 r s hr hs h
        exact ⟨by rw [tn_eq (x := x) (y := y) hk (a2.trans b2.symm) (sl_inj e1), e], h⟩
    | t2 y c d => have := ar_two (show Tr.ar y.1 = 2 from hu.1.1); have hk' : x.1 = y.1 := hk; omega
    | t3 y c d e => have := ar_three (show Tr.ar y.1 = 3 from hu.1.1); have hk' : x.1 = y.1 := hk; omega
  | t2 x a b iha ihb =>
    intro ht u hu r s hr hs h
    have hxk := ar_two (show Tr.ar x.1 = 2 from ht.1.1)
    obtain ⟨p, hp⟩ := ttx_head ht
    obtain ⟨q, hq⟩ := ttx_head hu
    have hk : x.1 = (Tr.hd u).1 := by
      have h2 := h
      rw [hp, hq] at h2
      simp only [List.cons_append, List.cons.injEq] at h2
      exact chK_inj (hd_kind ht) (hd_kind hu) h2.1
    cases u with
    | t0 y => have := (good_leaf hu).1 rfl; omega
    | t1 y c => have := ar_one (show Tr.ar y.1 = 1 from hu.1.1); have hk' : x.1 = y.1 := hk; omega
    | t2 y c d =>
      have hk : x.1 = y.1 := hk
      obtain ⟨a2, a3⟩ := goodN_plain ht.1.2 (by omega)
      obtain ⟨b2, b3⟩ := goodN_plain hu.1.2 (by omega)
      have hxy := tn_eq (x := x) (y := y) hk (a2.trans b2.symm) (a3.trans b3.symm)
      simp only [ttx] at h
      by_cases h2 : x.1 = 2
      · rw [if_pos h2, if_pos (by omega)] at h
        simp only [List.cons_append, List.append_assoc, List.cons.injEq, true_and, List.nil_append] at h
        obtain ⟨e1, h⟩ := iha ht.2.1 c hu.2.1 _ _ (NoDig.cons (by decide)) (NoDig.cons (by decide)) h
        simp only [List.cons.injEq, true_and] at h
        obtain ⟨e2, h⟩ := ihb ht.2.2 d hu.2.2 _ _ (NoDig.cons (by decide)) (NoDig.cons (by decide)) h
        simp only [List.cons.injEq, true_and] at h
        exact ⟨by rw [hxy, e1, e2], h⟩
      · rw [if_neg h2, if_neg (by omega)] at h
        simp only [List.cons_append, List.append_assoc, List.cons.injEq, true_and, List.nil_append] at h
        obtain ⟨e1, h⟩ := iha ht.2.1 c hu.2.1 _ _ (NoDig.cons (by decide)) (NoDig.cons (by decide)) h
        simp only [List.cons.injEq, true_and] at h
        obtain ⟨e2, h⟩ := ihb ht.2.2 d hu.2.2 _ _ (NoDig.cons (by decide)) (NoDig.cons (by decide)) h
        simp only [List.cons.injEq, true_and] at h
        exact ⟨by rw [hxy, e1, e2], h⟩
    | t3 y c d e => have := ar_three (show Tr.ar y.1 = 3 from hu.1.1); have hk' : x.1 = y.1 := hk; omega
  | t3 x a b c iha ihb ihc =>
    intro ht u hu r s hr hs h
    have hxk := ar_three (show Tr.ar x.1 = 3 from ht.1.1)
    obtain ⟨p, hp⟩ := ttx_head ht
    obtain ⟨q, hq⟩ := ttx_head hu
    have hk : x.1 = (Tr.hd u).1 := by
      have h2 := h
      rw [hp, hq] at h2
      simp only [List.cons_append, List.cons.injEq] at h2
      exact chK_inj (hd_kind ht) (hd_kind hu) h2.1
    cases u with
    | t0 y => have := (good_leaf hu).1 rfl; omega
    | t1 y d => have := ar_one (show Tr.ar y.1 = 1 from hu.1.1); have hk' : x.1 = y.1 := hk; omega
    | t2 y d e => have := ar_two (show Tr.ar y.1 = 2 from hu.1.1); have hk' : x.1 = y.1 := hk; omega
    | t3 y d e f =>
      have hk : x.1 = y.1 := hk
      obtain ⟨a2, a3⟩ := goodN_plain ht.1.2 (by omega)
      obtain ⟨b2, b3⟩ := goodN_plain hu.1.2 (by omega)
      have hxy := tn_eq (x := x) (y := y) hk (a2.trans b2.symm) (a3.trans b3.symm)
      simp only [ttx, List.cons_append, List.append_assoc, List.cons.injEq, true_and, List.nil_append] at h
      obtain ⟨e1, h⟩ := iha ht.2.1 d hu.2.1 _ _ (NoDig.cons (by decide)) (NoDig.cons (by decide)) h
      simp only [List.cons.injEq, true_and] at h
      obtain ⟨e2, h⟩ := ihb ht.2.2.1 e hu.2.2.1 _ _ (NoDig.cons (by decide)) (NoDig.cons (by decide)) h
      simp only [List.cons.injEq, true_and] at h
      obtain ⟨e3, h⟩ := ihc ht.2.2.2 f hu.2.2.2 _ _ (NoDig.cons (by decide)) (NoDig.cons (by decide)) h
      simp only [List.cons.injEq, true_and] at h
      exact ⟨by rw [hxy, e1, e2, e3], h⟩
theorem ttx_eq {t u : Tm} (ht : Good t) (hu : Good u) (h : ttx t = ttx u) : t = u :=
  (ttx_inj t ht u hu [] [] (fun _ _ h => by cases h) (fun _ _ h => by cases h) (by rw [h])).1
theorem goodN_fits160 {x : Tn} (h : GoodN x) : x.2.2.size ≤ 160 := by
  unfold GoodN tnB at h
  split at h
  · simp only [Bool.and_eq_true] at h
    rw [isE h.2]; decide
  · split at h
    · simp only [Bool.and_eq_true] at h
      obtain ⟨A, h1, h2⟩ := gp_tree h.2
      have := tx_size h1.1
      rw [h2] at this
      exact this
    · simp only [Bool.and_eq_true] at h
      rw [isE h.2]; decide
theorem ttx_len : ∀ t, Good t → (ttx t).length ≤ 170 * (Tr.enc t).length := by
  intro t
  induction t with
  | t0 x => intro _; simp only [ttx, decL, Tr.enc]; split <;> simp
  | t1 x a iha =>
    intro h
    have h1 := iha h.2
    have hf := goodN_fits160 h.1.2
    simp only [ttx, Tr.enc]
    split
    · simp; omega
    · have : (sl x.2.2).length = x.2.2.size := rfl
      simp; omega
  | t2 x a b iha ihb =>
    intro h
    have h1 := iha h.2.1
    have h2 := ihb h.2.2
    simp only [ttx, Tr.enc]
    split <;> · simp; omega
  | t3 x a b c iha ihb ihc =>
    intro h
    have h1 := iha h.2.1
    have h2 := ihb h.2.2.1
    have h3 := ihc h.2.2.2
    simp [ttx, Tr.enc]; omega
end Go.Proofs.YtfpkfgimhanekaaGreatDoor

/- l01Dec of the reference: the decimal numeral. -/
namespace Go.Proofs.YtfpkfgimhanekaaGreatDoor
open Go.RowKit

/-- The decimal numeral as a text. -/
def dcm (n : Nat) : ByteArray := ⟨(Lib.decDigits n).toArray⟩
theorem dcm_one {n : Nat} (h : n < 10) : dcm n = ⟨#[UInt8.ofNat (48 + n)]⟩ := by unfold dcm; rw [Lib.decDigits_one h]
theorem dcm_big {n : Nat} (h : ¬ n < 10) : dcm n = dcm (n / 10) ++ ⟨#[UInt8.ofNat (48 + n % 10)]⟩ := by
  unfold dcm
  rw [Lib.decDigits, dif_neg h]
  apply ByteArray.ext
  simp
theorem dcm_size (n : Nat) : (dcm n).size = Lib.nDigits n := by
  unfold dcm
  rw [← Lib.decDigits_length]
  simp [ByteArray.size]
theorem nDigits_le : ∀ (k n : Nat), n < 10 ^ k → Lib.nDigits n ≤ k + 1
  | 0, n, h => by rw [Lib.nDigits_small (by omega)]; omega
  | k + 1, n, h => by
    by_cases h10 : n < 10
    · rw [Lib.nDigits_small h10]; omega
    · rw [Lib.nDigits_big h10]
      have := nDigits_le k (n / 10) (by rw [Nat.pow_succ] at h; omega)
      omega
theorem digSN {n : Nat} (h : n < 10) : strOfNums [((48 + n : Nat) : Int)] = ⟨#[UInt8.ofNat (48 + n)]⟩ := by
  have h1 : ∀ n : Fin 10, strOfNums [((48 + n.val : Nat) : Int)] = ⟨#[UInt8.ofNat (48 + n.val)]⟩ := by decide
  exact h1 ⟨n, h⟩
theorem conv_any (b : Nat) (Y : Int) (W : World) (h : W.cell? ⟨b, 0, none⟩ = some (.int .u8 Y)) : (convert 74 9 (.slice (some ⟨b, 0, none⟩) 1 1)).run Tryz.prog W = .ok (.string (strOfNums [Y])) W :=
  run_convert_bytes_arg (P := Tryz.prog) (w := W) 74 5 Tryz.underlying74 Tryz.underlying5 b 0 1 1 [Y] rfl (fun i hi => by
      obtain rfl : i = 0 := by omega
      simpa using h) 9 Tryz.underlying9
theorem cell_after {w w1 : World} {Y : Int} {t : TypeId} (h : Grew (w.drew.alloc (.cells #[.int .u8 Y] t)) w1) : w1.cell? ⟨w.heap.size, 0, none⟩ = some (.int .u8 Y) :=
  (h.cell (p := ⟨w.heap.size, 0, none⟩) (blk_lt (blk_new w.drew _))).trans ((blk_cell (blk_new w.drew _) 0).trans rfl)
theorem l01DecN_one (n : Nat) (w : World) (h : n < 10) :
    Calls Tryz.prog 31 #[.int .i64 n] w fun e w' => e = .returned (.string (dcm n)) ∧ Grew w w' := by
  have hcv := conv_any
  have HD := Lib.hid (digSN h)
  rw [dcm_one h]
  go_enter Tryz.func31, Tryz.ntmps31
  go_wp2_with fail
  go_ret
  exact ⟨by rw [← HD.out]; rfl, (Grew.refl w).alloc _⟩
theorem l01DecN_c : ∀ (k n : Nat) (w : World), n < 10 ^ k → k ≤ 12 →
    Calls Tryz.prog 31 #[.int .i64 n] w fun e w' => e = .returned (.string (dcm n)) ∧ Grew w w'
  | 0, n, w, h, _ => l01DecN_one n w (by omega)
  | k + 1, n, w, h, hk => by
    by_cases h10 : n < 10
    · exact l01DecN_one n w h10
    have K1 := Lib.hid (fun W => l01DecN_c k (n / 10) W (by rw [Nat.pow_succ] at h; omega) (by omega))
    have hp : 10 ^ k ≤ 10 ^ 11 := Nat.pow_le_pow_right (by omega) (by omega)
    have hn : n < 10 * 10 ^ 11 := by rw [Nat.pow_succ] at h; omega
    have HD : Hid (dcm (n / 10) ++ strOfNums [((48 + n % 10 : Nat) : Int)] = dcm n) := Lib.hid (by rw [digSN (by omega), dcm_big h10])
    have hz : (dcm (n / 10)).size ≤ 100 := by
      rw [dcm_size]
      have := nDigits_le 12 (n / 10) (by omega)
      omega
    have hz2 : ∀ Y, (strOfNums [Y]).size = 1 := fun Y => by rw [strOfNums_size]; rfl
    have w64 : ∀ k : Nat, k ≤ 1000000000000 → IntKind.i64.wrap (k : Int) = (k : Int) := fun k hk => IntWalk.i64_in _ (by omega)
    have a1 : IntKind.i64.wrap ((n : Int) / 10) = ((n / 10 : Nat) : Int) := by rw [show (n : Int) / 10 = ((n / 10 : Nat) : Int) by omega]; exact w64 _ (by omega)
    have a2 : ((n : Int)).tmod 10 = ((n % 10 : Nat) : Int) := rfl
    have a3 : IntKind.i64.wrap (48 + ((n % 10 : Nat) : Int)) = 48 + ((n % 10 : Nat) : Int) := by rw [show (48 : Int) + ((n % 10 : Nat) : Int) = ((48 + n % 10 : Nat) : Int) by omega]; exact w64 _ (by omega)
    have a4 : IntKind.u8.wrap (48 + ((n % 10 : Nat) : Int)) = 48 + ((n % 10 : Nat) : Int) := by
      have h1 : ∀ r : Fin 10, IntKind.u8.wrap (48 + ((r.val : Nat) : Int)) = 48 + ((r.val : Nat) : Int) := by decide
      exact h1 ⟨n % 10, by omega⟩
    clear w64 h hp
    have hr1 : n % 10 < 10 := by omega
    generalize dcm n = R at *
    generalize dcm (n / 10) = s1 at *
    generalize n / 10 = d at *
    generalize n % 10 = r at *
    have hcv := conv_any
    have hc2 : ∀ Y, ¬ 9223372036854775807 < s1.size + (strOfNums [Y]).size := fun Y => by have := hz2 Y; omega
    go_enter Tryz.func31, Tryz.ntmps31
    go_wp2_with fail
    go_region_with (first
      | (go_at_call 31; refine (K1.out _).mono ?_; rintro e w1 ⟨rfl, hg1⟩; have hcc := cell_after hg1)
      | (go_at_call 31; refine (K1.out _).mono ?_; rintro e w1 ⟨rfl, hg1⟩))
    all_goals go_wp2_with fail
    all_goals go_ret
    all_goals first
      | exact ⟨by rw [← HD.out]; rfl, (Grew.refl w).drew.trans (((Grew.refl _).alloc _).trans hg1)⟩
      | exact ⟨by rw [← HD.out]; rfl, ((Grew.refl w).drew.trans hg1).alloc _⟩
end Go.Proofs.YtfpkfgimhanekaaGreatDoor

/- l01Dec of the reference, at a number of one digit or two. -/
namespace Go.Proofs.YtfpkfgimhanekaaGreatDoor
open Go.RowKit

theorem decL_dcm {m : Nat} (h : m ≤ 99) : bs (decL (m : Int)) = dcm m := by
  unfold dcm decL
  by_cases hl : m < 10
  · rw [if_pos (by omega), Lib.decDigits_one hl]; rfl
  · rw [if_neg (by omega), Lib.decDigits_two hl (by omega)]; rfl
theorem l01Dec_c (n : Int) (w : World) (h0 : 0 ≤ n) (h1 : n ≤ 99) :
    Calls Tryz.prog 31 #[.int .i64 n] w fun e w' => e = .returned (.string (bs (decL n))) ∧ Grew w w' := by
  obtain ⟨m, rfl⟩ : ∃ m : Nat, n = m := ⟨n.toNat, by omega⟩
  rw [decL_dcm (by omega)]
  exact l01DecN_c 2 m w (by omega) (by omega)
end Go.Proofs.YtfpkfgimhanekaaGreatDoor

/- l26Part of the reference. -/
namespace Go.Proofs.YtfpkfgimhanekaaGreatDoor
open Go.RowKit
open Tr (Tm)

theorem l26Part_c (v : Value) (t : Tm) (k : Nat) (w : World) (h : Tms w v (Tr.enc t)) (hg : Good t) (hn : (Tr.enc t).length ≤ 1048576) (hk : k < (Tr.kids t).length) :
    Calls Tryz.prog 32 #[v, .int .i64 k] w fun e w' => ∃ u, e = .returned u ∧ Tms w' u (Tr.enc (Tr.kid t k)) ∧ Grew w w' := by
  obtain ⟨b, o, c, rfl, hc, hm, hb, hf⟩ := tms_head h
  have HE := Lib.hid (fun i (hi : i < (Tr.kids t).length) W (hW : Grew w W) => by
    have h1 := l26End_c _ (Tr.enc t) (Tr.enc t).length (Tr.off t i) W (by omega) (h.grew hW) hn (by have := Tr.off_end hi; omega)
    rw [Tr.pend_kid hg hi, Int.natCast_add] at h1
    exact h1)
  have HL := Lib.hid (fun i (hi : i < (Tr.kids t).length) => (⟨Tr.off_end hi, Tr.off_next hi, Tr.enc_pos (Tr.kid t i)⟩ : Tr.off t i + (Tr.enc (Tr.kid t i)).length ≤ (Tr.enc t).length ∧ Tr.off t (i + 1) = Tr.off t i + (Tr.enc (Tr.kid t i)).length ∧ 1 ≤ (Tr.enc (Tr.kid t i)).length))
  have HS := Lib.hid (fun i (hi : i < (Tr.kids t).length) (c' : Nat) (hc1 : (Tr.enc (Tr.kid t i)).length ≤ c') (hc2 : c' ≤ 9223372036854775807) => by
    have h1 := h.sub (Tr.off t i) (Tr.enc (Tr.kid t i)).length c' (Tr.off_end hi) hc1 hc2
    rw [Tr.take_kid hi] at h1
    exact h1)
  have hz := Tr.off_zero t
  have hk3 : k ≤ 3 := by have := Tr.kids_len hg; have := Tr.ar_le (Tr.hd t).1; omega
  clear hf h hg
  generalize hN : (Tr.enc t).length = n at *
  clear hN
  generalize hM : (Tr.kids t).length = m at *
  clear hM
  go_enter Tryz.func32, Tryz.ntmps32
  go_wp2_with fail
  go_loopw [1, 5] (fun x y wr => ∃ j : Nat, j ≤ k ∧ x = .int .i64 ((k - j : Nat) : Int) ∧ y = .int .i64 (Tr.off t j) ∧ Grew w wr) (fun x _ _ => (intOf x).toNat)
  case atStart => exact ⟨0, Nat.zero_le _, rfl, by rw [hz]; rfl, Grew.refl _⟩
  case round =>
    obtain ⟨j, hj, rfl, rfl, hB⟩ := hrel
    obtain ⟨hl1, hl2, hl3⟩ := HL.out j (by omega)
    have hE := Lib.hid (HE.out j (by omega))
    have hS := Lib.hid (HS.out j (by omega))
    have HL2 := Lib.hid hl2
    clear hl2
    by_cases hlt : j < k
    · obtain ⟨r, hr⟩ : ∃ r, k - j = r + 1 := ⟨k - j - 1, by omega⟩
      have hr3 : r ≤ 3 := by omega
      rw [hr]
      generalize Tr.enc (Tr.kid t j) = X at *
      generalize Tr.off t j = oj at *
      have hr0 : (0 : Int) < ((r + 1 : Nat) : Int) := by omega
      go_wp2_with fail
      refine (hE.out _ hB).mono ?_
      rintro e w2 ⟨rfl, hg2⟩
      have hB2 := hB.trans hg2
      go_wp2_with fail
      go_roundw
      case rel => exact ⟨j + 1, by omega, by rw [show k - (j + 1) = r by omega]; try go_num, by rw [HL2.out]; try go_num, hB2⟩
      case measure => (simp [intOf]; try omega)
    · obtain rfl : j = k := by omega
      rw [Nat.sub_self]
      generalize hX : Tr.enc (Tr.kid t j) = X at *
      generalize Tr.off t j = oj at *
      have hq0 : (0 : Int) ≤ (oj : Int) := by omega
      have hq1 : (oj : Int) ≤ (oj : Int) + (X.length : Int) := by omega
      have hq2 : (oj : Int) + (X.length : Int) ≤ (c : Int) := by omega
      have hT := Lib.hid (hS.out (c - oj) (by omega) (by omega))
      go_wp2_with fail
      refine (hE.out _ hB).mono ?_
      rintro e w2 ⟨rfl, hg2⟩
      have hB2 := hB.trans hg2
      go_wp2_with fail
      go_ret
      exact ⟨_, rfl, by
        rw [hX]
        show Tms w2 (.slice (some ⟨b, o + oj * 3, none⟩) (oj + X.length - oj) (c - oj)) X
        rw [Nat.add_sub_cancel_left]
        exact hT.out.grew hB2, hB2⟩
end Go.Proofs.YtfpkfgimhanekaaGreatDoor

/- l01Dec and l26Text of the reference. -/
namespace Go.Proofs.YtfpkfgimhanekaaGreatDoor
open Go.RowKit
open Tr (Tm)

/-- What l26Text says at a term. -/
def TxtS (t : Tm) : Prop := ∀ v w, Tms w v (Tr.enc t) → Calls Tryz.prog 17 #[v] w (Says w (ttx t))

theorem l26Text_var (x : Tn) (hg : Good (.t0 x)) : TxtS (.t0 x) := by
  intro v w h
  have hk : x.1 = 0 := (good_leaf hg).1 rfl
  obtain ⟨a1, a2, a3⟩ := goodN_var hg.2 hk
  have KD := Lib.hid (fun w => l01Dec_c x.2.1 w a1 a2)
  have hz : (bs (decL x.2.1)).size ≤ 2 := by rw [bs_size]; unfold decL; split <;> simp
  have HE : Hid (bs [120] ++ bs (decL x.2.1) = bs (ttx (.t0 x))) := Lib.hid (by rw [bs_append]; rfl)
  obtain ⟨bb, o, c, rfl, hc, hm, hb, hcl⟩ := tms_head h
  have k0 := fun W (hW : Grew w W) => (hcl W hW).1
  have k1 := fun W (hW : Grew w W) => (hcl W hW).2.1
  have k2 := fun W (hW : Grew w W) => (hcl W hW).2.2
  change ∀ W, Grew w W → W.cell? ⟨bb, o, none⟩ = some (.int .i64 x.1) at k0
  change ∀ W, Grew w W → W.cell? ⟨bb, o + 1, none⟩ = some (.int .i64 x.2.1) at k1
  change ∀ W, Grew w W → W.cell? ⟨bb, o + 2, none⟩ = some (.string x.2.2) at k2
  rw [hk] at k0
  have hl1 : (Tr.enc (.t0 x)).length = 1 := rfl
  rw [hl1]
  have hal := (Grew.refl w).alloc (.cells #[.int .i64 0, .int .i64 x.2.1, .string x.2.2] 42)
  have hr := Grew.refl w
  clear hcl h hg hl1 a3 hk
  unfold Says
  generalize bs (ttx (.t0 x)) = R at *
  generalize bs (decL x.2.1) = D at *
  generalize x.2.1 = xn at *
  generalize x.2.2 = xs at *
  have e1 : bs [120] = ⟨#[120]⟩ := rfl
  rw [e1] at HE
  clear e1
  go_enter Tryz.func17, Tryz.ntmps17
  go_wp2_with fail
  refine (KD.out _).mono ?_
  rintro e w1 ⟨rfl, hg1⟩
  go_wp2_with fail
  go_ret
  exact ⟨by rw [← HE.out]; rfl, hal.trans hg1⟩

theorem l26Text_fst (x : Tn) (a : Tm) (hg : Good (.t1 x a)) (hk : x.1 = 4) (IH : TxtS a) (hn : (Tr.enc a).length ≤ 60) : TxtS (.t1 x a) := by
  intro v w h
  have HE : Hid (bs [49] ++ bs (ttx a) = bs (ttx (.t1 x a))) := Lib.hid (by rw [bs_append]; simp only [ttx]; rw [if_pos (by omega), hk]; rfl)
  have hlen : (Tr.enc (.t1 x a)).length = (Tr.enc a).length + 1 := by simp [Tr.enc]
  have hz := ttx_len a hg.2
  obtain ⟨bb, o, c, rfl, hc, hm, hb, hcl⟩ := tms_head h
  have hsub := sub_one (x := x) (a := a) (by simpa [Tr.enc] using h) (by rw [hlen] at hc; exact hc) hm
  have KI := Lib.hid (fun W (hW : Grew w W) => IH (.slice (some ⟨bb, o + 3, none⟩) (Tr.enc a).length (c - 1)) W (hsub.grew hW))
  have k0 := fun W (hW : Grew w W) => (hcl W hW).1
  have k1 := fun W (hW : Grew w W) => (hcl W hW).2.1
  have k2 := fun W (hW : Grew w W) => (hcl W hW).2.2
  change ∀ W, Grew w W → W.cell? ⟨bb, o, none⟩ = some (.int .i64 x.1) at k0
  change ∀ W, Grew w W → W.cell? ⟨bb, o + 1, none⟩ = some (.int .i64 x.2.1) at k1
  change ∀ W, Grew w W → W.cell? ⟨bb, o + 2, none⟩ = some (.string x.2.2) at k2
  rw [hk] at k0
  rw [hlen] at hc ⊢
  have hpos := Tr.enc_pos a
  have hz1 : (bs (ttx a)).size ≤ 10200 := by rw [bs_size]; omega
  have hal := (Grew.refl w).alloc (.cells #[.int .i64 4, .int .i64 x.2.1, .string x.2.2] 42)
  have hr := Grew.refl w
  have hc1 : ¬ c = 1 := by omega
  clear hcl h hg hsub hlen IH hk hz
  unfold Says at KI ⊢
  generalize bs (ttx (.t1 x a)) = R at *
  generalize bs (ttx a) = D at *
  generalize x.2.1 = xn at *
  generalize x.2.2 = xs at *
  generalize (Tr.enc a).length = n at *
  have e1 : bs [49] = ⟨#[49]⟩ := rfl
  rw [e1] at HE
  clear e1
  go_enter Tryz.func17, Tryz.ntmps17
  go_wp2_with fail
  refine (KI.out _ hal).mono ?_
  rintro e w1 ⟨rfl, hg1⟩
  go_wp2_with fail
  go_ret
  exact ⟨by rw [← HE.out]; rfl, hal.trans hg1⟩

theorem l26Text_snd (x : Tn) (a : Tm) (hg : Good (.t1 x a)) (hk : x.1 = 5) (IH : TxtS a) (hn : (Tr.enc a).length ≤ 60) : TxtS (.t1 x a) := by
  intro v w h
  have HE : Hid (bs [50] ++ bs (ttx a) = bs (ttx (.t1 x a))) := Lib.hid (by rw [bs_append]; simp only [ttx]; rw [if_pos (by omega), hk]; rfl)
  have hlen : (Tr.enc (.t1 x a)).length = (Tr.enc a).length + 1 := by simp [Tr.enc]
  have hz := ttx_len a hg.2
  obtain ⟨bb, o, c, rfl, hc, hm, hb, hcl⟩ := tms_head h
  have hsub := sub_one (x := x) (a := a) (by simpa [Tr.enc] using h) (by rw [hlen] at hc; exact hc) hm
  have KI := Lib.hid (fun W (hW : Grew w W) => IH (.slice (some ⟨bb, o + 3, none⟩) (Tr.enc a).length (c - 1)) W (hsub.grew hW))
  have k0 := fun W (hW : Grew w W) => (hcl W hW).1
  have k1 := fun W (hW : Grew w W) => (hcl W hW).2.1
  have k2 := fun W (hW : Grew w W) => (hcl W hW).2.2
  change ∀ W, Grew w W → W.cell? ⟨bb, o, none⟩ = some (.int .i64 x.1) at k0
  change ∀ W, Grew w W → W.cell? ⟨bb, o + 1, none⟩ = some (.int .i64 x.2.1) at k1
  change ∀ W, Grew w W → W.cell? ⟨bb, o + 2, none⟩ = some (.string x.2.2) at k2
  rw [hk] at k0
  rw [hlen] at hc ⊢
  have hpos := Tr.enc_pos a
  have hz1 : (bs (ttx a)).size ≤ 10200 := by rw [bs_size]; omega
  have hal := (Grew.refl w).alloc (.cells #[.int .i64 5, .int .i64 x.2.1, .string x.2.2] 42)
  have hr := Grew.refl w
  have hc1 : ¬ c = 1 := by omega
  clear hcl h hg hsub hlen IH hk hz
  unfold Says at KI ⊢
  generalize bs (ttx (.t1 x a)) = R at *
  generalize bs (ttx a) = D at *
  generalize x.2.1 = xn at *
  generalize x.2.2 = xs at *
  generalize (Tr.enc a).length = n at *
  have e1 : bs [50] = ⟨#[50]⟩ := rfl
  rw [e1] at HE
  clear e1
  go_enter Tryz.func17, Tryz.ntmps17
  go_wp2_with fail
  refine (KI.out _ hal).mono ?_
  rintro e w1 ⟨rfl, hg1⟩
  go_wp2_with fail
  go_ret
  exact ⟨by rw [← HE.out]; rfl, hal.trans hg1⟩

theorem l26Text_lam (x : Tn) (a : Tm) (hg : Good (.t1 x a)) (hk : x.1 = 1) (IH : TxtS a) (hn : (Tr.enc a).length ≤ 60) : TxtS (.t1 x a) := by
  intro v w h
  have HE : Hid (bs [47] ++ x.2.2 ++ bs [58] ++ bs (ttx a) = bs (ttx (.t1 x a))) := Lib.hid (by
    have e : x.2.2 = bs (sl x.2.2) := (bs_eq _).symm
    conv => lhs; rw [e]
    rw [bs_append, bs_append, bs_append]; simp only [ttx]; rw [if_neg (by omega), hk]; simp [chK])
  have hxs := goodN_fits160 hg.1.2
  have hlen : (Tr.enc (.t1 x a)).length = (Tr.enc a).length + 1 := by simp [Tr.enc]
  have hz := ttx_len a hg.2
  obtain ⟨bb, o, c, rfl, hc, hm, hb, hcl⟩ := tms_head h
  have hsub := sub_one (x := x) (a := a) (by simpa [Tr.enc] using h) (by rw [hlen] at hc; exact hc) hm
  have KI := Lib.hid (fun W (hW : Grew w W) => IH (.slice (some ⟨bb, o + 3, none⟩) (Tr.enc a).length (c - 1)) W (hsub.grew hW))
  have k0 := fun W (hW : Grew w W) => (hcl W hW).1
  have k1 := fun W (hW : Grew w W) => (hcl W hW).2.1
  have k2 := fun W (hW : Grew w W) => (hcl W hW).2.2
  change ∀ W, Grew w W → W.cell? ⟨bb, o, none⟩ = some (.int .i64 x.1) at k0
  change ∀ W, Grew w W → W.cell? ⟨bb, o + 1, none⟩ = some (.int .i64 x.2.1) at k1
  change ∀ W, Grew w W → W.cell? ⟨bb, o + 2, none⟩ = some (.string x.2.2) at k2
  rw [hk] at k0
  rw [hlen] at hc ⊢
  have hpos := Tr.enc_pos a
  have hz1 : (bs (ttx a)).size ≤ 10200 := by rw [bs_size]; omega
  clear hcl h hg hsub hlen IH hk hz
  unfold Says at KI ⊢
  generalize bs (ttx (.t1 x a)) = R at *
  generalize bs (ttx a) = D at *
  generalize x.2.1 = xn at *
  generalize x.2.2 = xs at *
  generalize (Tr.enc a).length = n at *
  have e1 : bs [47] = ⟨#[47]⟩ := rfl
  have e2 : bs [58] = ⟨#[58]⟩ := rfl
  rw [e1, e2] at HE
  clear e1 e2
  have hal := (Grew.refl w).alloc (.cells #[.int .i64 1, .int .i64 xn, .string xs] 42)
  have hr := Grew.refl w
  have hc1 : ¬ c = 1 := by omega
  have i1 : (1 : Int) ≤ (n : Int) + 1 := by omega
  have i2 : (n : Int) + 1 ≤ (c : Int) := by omega
  have i3 : (0 : Int) ≤ (n : Int) := by omega
  have f2 : ∀ W, Grew (w.alloc (.cells #[.int .i64 1, .int .i64 xn, .string xs] 42)) W → W.cell? ⟨w.heap.size, 2, none⟩ = some (.string xs) := fun W hW => (hW.cell (p := ⟨w.heap.size, 2, none⟩) (by simp)).trans (by simp)
  have ra := Grew.refl (w.alloc (.cells #[.int .i64 1, .int .i64 xn, .string xs] 42))
  have da := ra.drew
  have gd := hal.trans da
  have s1 : ¬ 9223372036854775807 < 1 + xs.size := by omega
  have s2 : ¬ 9223372036854775807 < 1 + xs.size + 1 := by omega
  have s3 : ¬ 9223372036854775807 < 1 + xs.size + 1 + D.size := by omega
  go_enter Tryz.func17, Tryz.ntmps17
  go_wp2_with fail
  go_region_held3 (fun w' => Grew (w.alloc (.cells #[.int .i64 1, .int .i64 xn, .string xs] 42)) w') (with_reducible assumption)
    (first | (go_at_call 17; refine (KI.out _ gd).mono ?_; rintro e w1 ⟨rfl, hg1⟩; have hk1 := da.trans hg1))
  go_wp2_with fail
  go_ret
  exact ⟨by rw [← HE.out]; rfl, hal.trans hk1⟩

theorem l26Text_inl (x : Tn) (a : Tm) (hg : Good (.t1 x a)) (hk : x.1 = 6) (IH : TxtS a) (hn : (Tr.enc a).length ≤ 60) : TxtS (.t1 x a) := by
  intro v w h
  have HE : Hid (bs [108] ++ x.2.2 ++ bs [58] ++ bs (ttx a) = bs (ttx (.t1 x a))) := Lib.hid (by
    have e : x.2.2 = bs (sl x.2.2) := (bs_eq _).symm
    conv => lhs; rw [e]
    rw [bs_append, bs_append, bs_append]; simp only [ttx]; rw [if_neg (by omega), hk]; simp [chK])
  have hxs := goodN_fits160 hg.1.2
  have hlen : (Tr.enc (.t1 x a)).length = (Tr.enc a).length + 1 := by simp [Tr.enc]
  have hz := ttx_len a hg.2
  obtain ⟨bb, o, c, rfl, hc, hm, hb, hcl⟩ := tms_head h
  have hsub := sub_one (x := x) (a := a) (by simpa [Tr.enc] using h) (by rw [hlen] at hc; exact hc) hm
  have KI := Lib.hid (fun W (hW : Grew w W) => IH (.slice (some ⟨bb, o + 3, none⟩) (Tr.enc a).length (c - 1)) W (hsub.grew hW))
  have k0 := fun W (hW : Grew w W) => (hcl W hW).1
  have k1 := fun W (hW : Grew w W) => (hcl W hW).2.1
  have k2 := fun W (hW : Grew w W) => (hcl W hW).2.2
  change ∀ W, Grew w W → W.cell? ⟨bb, o, none⟩ = some (.int .i64 x.1) at k0
  change ∀ W, Grew w W → W.cell? ⟨bb, o + 1, none⟩ = some (.int .i64 x.2.1) at k1
  change ∀ W, Grew w W → W.cell? ⟨bb, o + 2, none⟩ = some (.string x.2.2) at k2
  rw [hk] at k0
  rw [hlen] at hc ⊢
  have hpos := Tr.enc_pos a
  have hz1 : (bs (ttx a)).size ≤ 10200 := by rw [bs_size]; omega
  clear hcl h hg hsub hlen IH hk hz
  unfold Says at KI ⊢
  generalize bs (ttx (.t1 x a)) = R at *
  generalize bs (ttx a) = D at *
  generalize x.2.1 = xn at *
  generalize x.2.2 = xs at *
  generalize (Tr.enc a).length = n at *
  have e1 : bs [108] = ⟨#[108]⟩ := rfl
  have e2 : bs [58] = ⟨#[58]⟩ := rfl
  rw [e1, e2] at HE
  clear e1 e2
  have hal := (Grew.refl w).alloc (.cells #[.int .i64 6, .int .i64 xn, .string xs] 42)
  have hr := Grew.refl w
  have hc1 : ¬ c = 1 := by omega
  have i1 : (1 : Int) ≤ (n : Int) + 1 := by omega
  have i2 : (n : Int) + 1 ≤ (c : Int) := by omega
  have i3 : (0 : Int) ≤ (n : Int) := by omega
  have f2 : ∀ W, Grew (w.alloc (.cells #[.int .i64 6, .int .i64 xn, .string xs] 42)) W → W.cell? ⟨w.heap.size, 2, none⟩ = some (.string xs) := fun W hW => (hW.cell (p := ⟨w.heap.size, 2, none⟩) (by simp)).trans (by simp)
  have ra := Grew.refl (w.alloc (.cells #[.int .i64 6, .int .i64 xn, .string xs] 42))
  have da := ra.drew
  have gd := hal.trans da
  have s1 : ¬ 9223372036854775807 < 1 + xs.size := by omega
  have s2 : ¬ 9223372036854775807 < 1 + xs.size + 1 := by omega
  have s3 : ¬ 9223372036854775807 < 1 + xs.size + 1 + D.size := by omega
  go_enter Tryz.func17, Tryz.ntmps17
  go_wp2_with fail
  go_region_held3 (fun w' => Grew (w.alloc (.cells #[.int .i64 6, .int .i64 xn, .string xs] 42)) w') (with_reducible assumption)
    (first | (go_at_call 17; refine (KI.out _ gd).mono ?_; rintro e w1 ⟨rfl, hg1⟩; have hk1 := da.trans hg1))
  go_wp2_with fail
  go_ret
  exact ⟨by rw [← HE.out]; rfl, hal.trans hk1⟩

theorem l26Text_inr (x : Tn) (a : Tm) (hg : Good (.t1 x a)) (hk : x.1 = 7) (IH : TxtS a) (hn : (Tr.enc a).length ≤ 60) : TxtS (.t1 x a) := by
  intro v w h
  have HE : Hid (bs [114] ++ x.2.2 ++ bs [58] ++ bs (ttx a) = bs (ttx (.t1 x a))) := Lib.hid (by
    have e : x.2.2 = bs (sl x.2.2) := (bs_eq _).symm
    conv => lhs; rw [e]
    rw [bs_append, bs_append, bs_append]; simp only [ttx]; rw [if_neg (by omega), hk]; simp [chK])
  have hxs := goodN_fits160 hg.1.2
  have hlen : (Tr.enc (.t1 x a)).length = (Tr.enc a).length + 1 := by simp [Tr.enc]
  have hz := ttx_len a hg.2
  obtain ⟨bb, o, c, rfl, hc, hm, hb, hcl⟩ := tms_head h
  have hsub := sub_one (x := x) (a := a) (by simpa [Tr.enc] using h) (by rw [hlen] at hc; exact hc) hm
  have KI := Lib.hid (fun W (hW : Grew w W) => IH (.slice (some ⟨bb, o + 3, none⟩) (Tr.enc a).length (c - 1)) W (hsub.grew hW))
  have k0 := fun W (hW : Grew w W) => (hcl W hW).1
  have k1 := fun W (hW : Grew w W) => (hcl W hW).2.1
  have k2 := fun W (hW : Grew w W) => (hcl W hW).2.2
  change ∀ W, Grew w W → W.cell? ⟨bb, o, none⟩ = some (.int .i64 x.1) at k0
  change ∀ W, Grew w W → W.cell? ⟨bb, o + 1, none⟩ = some (.int .i64 x.2.1) at k1
  change ∀ W, Grew w W → W.cell? ⟨bb, o + 2, none⟩ = some (.string x.2.2) at k2
  rw [hk] at k0
  rw [hlen] at hc ⊢
  have hpos := Tr.enc_pos a
  have hz1 : (bs (ttx a)).size ≤ 10200 := by rw [bs_size]; omega
  clear hcl h hg hsub hlen IH hk hz
  unfold Says at KI ⊢
  generalize bs (ttx (.t1 x a)) = R at *
  generalize bs (ttx a) = D at *
  generalize x.2.1 = xn at *
  generalize x.2.2 = xs at *
  generalize (Tr.enc a).length = n at *
  have e1 : bs [114] = ⟨#[114]⟩ := rfl
  have e2 : bs [58] = ⟨#[58]⟩ := rfl
  rw [e1, e2] at HE
  clear e1 e2
  have hal := (Grew.refl w).alloc (.cells #[.int .i64 7, .int .i64 xn, .string xs] 42)
  have hr := Grew.refl w
  have hc1 : ¬ c = 1 := by omega
  have i1 : (1 : Int) ≤ (n : Int) + 1 := by omega
  have i2 : (n : Int) + 1 ≤ (c : Int) := by omega
  have i3 : (0 : Int) ≤ (n : Int) := by omega
  have f2 : ∀ W, Grew (w.alloc (.cells #[.int .i64 7, .int .i64 xn, .string xs] 42)) W → W.cell? ⟨w.heap.size, 2, none⟩ = some (.string xs) := fun W hW => (hW.cell (p := ⟨w.heap.size, 2, none⟩) (by simp)).trans (by simp)
  have ra := Grew.refl (w.alloc (.cells #[.int .i64 7, .int .i64 xn, .string xs] 42))
  have da := ra.drew
  have gd := hal.trans da
  have s1 : ¬ 9223372036854775807 < 1 + xs.size := by omega
  have s2 : ¬ 9223372036854775807 < 1 + xs.size + 1 := by omega
  have s3 : ¬ 9223372036854775807 < 1 + xs.size + 1 + D.size := by omega
  go_enter Tryz.func17, Tryz.ntmps17
  go_wp2_with fail
  go_region_held3 (fun w' => Grew (w.alloc (.cells #[.int .i64 7, .int .i64 xn, .string xs] 42)) w') (with_reducible assumption)
    (first | (go_at_call 17; refine (KI.out _ gd).mono ?_; rintro e w1 ⟨rfl, hg1⟩; have hk1 := da.trans hg1))
  go_wp2_with fail
  go_ret
  exact ⟨by rw [← HE.out]; rfl, hal.trans hk1⟩

theorem l26Text_abort (x : Tn) (a : Tm) (hg : Good (.t1 x a)) (hk : x.1 = 9) (IH : TxtS a) (hn : (Tr.enc a).length ≤ 60) : TxtS (.t1 x a) := by
  intro v w h
  have HE : Hid (bs [102] ++ x.2.2 ++ bs [58] ++ bs (ttx a) = bs (ttx (.t1 x a))) := Lib.hid (by
    have e : x.2.2 = bs (sl x.2.2) := (bs_eq _).symm
    conv => lhs; rw [e]
    rw [bs_append, bs_append, bs_append]; simp only [ttx]; rw [if_neg (by omega), hk]; simp [chK])
  have hxs := goodN_fits160 hg.1.2
  have hlen : (Tr.enc (.t1 x a)).length = (Tr.enc a).length + 1 := by simp [Tr.enc]
  have hz := ttx_len a hg.2
  obtain ⟨bb, o, c, rfl, hc, hm, hb, hcl⟩ := tms_head h
  have hsub := sub_one (x := x) (a := a) (by simpa [Tr.enc] using h) (by rw [hlen] at hc; exact hc) hm
  have KI := Lib.hid (fun W (hW : Grew w W) => IH (.slice (some ⟨bb, o + 3, none⟩) (Tr.enc a).length (c - 1)) W (hsub.grew hW))
  have k0 := fun W (hW : Grew w W) => (hcl W hW).1
  have k1 := fun W (hW : Grew w W) => (hcl W hW).2.1
  have k2 := fun W (hW : Grew w W) => (hcl W hW).2.2
  change ∀ W, Grew w W → W.cell? ⟨bb, o, none⟩ = some (.int .i64 x.1) at k0
  change ∀ W, Grew w W → W.cell? ⟨bb, o + 1, none⟩ = some (.int .i64 x.2.1) at k1
  change ∀ W, Grew w W → W.cell? ⟨bb, o + 2, none⟩ = some (.string x.2.2) at k2
  rw [hk] at k0
  rw [hlen] at hc ⊢
  have hpos := Tr.enc_pos a
  have hz1 : (bs (ttx a)).size ≤ 10200 := by rw [bs_size]; omega
  clear hcl h hg hsub hlen IH hk hz
  unfold Says at KI ⊢
  generalize bs (ttx (.t1 x a)) = R at *
  generalize bs (ttx a) = D at *
  generalize x.2.1 = xn at *
  generalize x.2.2 = xs at *
  generalize (Tr.enc a).length = n at *
  have e1 : bs [102] = ⟨#[102]⟩ := rfl
  have e2 : bs [58] = ⟨#[58]⟩ := rfl
  rw [e1, e2] at HE
  clear e1 e2
  have hal := (Grew.refl w).alloc (.cells #[.int .i64 9, .int .i64 xn, .string xs] 42)
  have hr := Grew.refl w
  have hc1 : ¬ c = 1 := by omega
  have i1 : (1 : Int) ≤ (n : Int) + 1 := by omega
  have i2 : (n : Int) + 1 ≤ (c : Int) := by omega
  have i3 : (0 : Int) ≤ (n : Int) := by omega
  have f2 : ∀ W, Grew (w.alloc (.cells #[.int .i64 9, .int .i64 xn, .string xs] 42)) W → W.cell? ⟨w.heap.size, 2, none⟩ = some (.string xs) := fun W hW => (hW.cell (p := ⟨w.heap.size, 2, none⟩) (by simp)).trans (by simp)
  have ra := Grew.refl (w.alloc (.cells #[.int .i64 9, .int .i64 xn, .string xs] 42))
  have da := ra.drew
  have gd := hal.trans da
  have s1 : ¬ 9223372036854775807 < 1 + xs.size := by omega
  have s2 : ¬ 9223372036854775807 < 1 + xs.size + 1 := by omega
  have s3 : ¬ 9223372036854775807 < 1 + xs.size + 1 + D.size := by omega
  go_enter Tryz.func17, Tryz.ntmps17
  go_wp2_with fail
  go_region_held3 (fun w' => Grew (w.alloc (.cells #[.int .i64 9, .int .i64 xn, .string xs] 42)) w') (with_reducible assumption)
    (first | (go_at_call 17; refine (KI.out _ gd).mono ?_; rintro e w1 ⟨rfl, hg1⟩; have hk1 := da.trans hg1))
  go_wp2_with fail
  go_ret
  exact ⟨by rw [← HE.out]; rfl, hal.trans hk1⟩

theorem l26Text_app (x : Tn) (a b : Tm) (hg : Good (.t2 x a b)) (hk : x.1 = 2) (IHa : TxtS a) (IHb : TxtS b) (hn : (Tr.enc (.t2 x a b)).length ≤ 60) : TxtS (.t2 x a b) := by
  intro v w h
  have HE : Hid (bs [40] ++ bs (ttx a) ++ bs [32] ++ bs (ttx b) ++ bs [41] = bs (ttx (.t2 x a b))) := Lib.hid (by rw [bs_append, bs_append, bs_append, bs_append]; simp [ttx, hk])
  have hla : (Tr.enc a).length + (Tr.enc b).length ≤ 60 := by simp [Tr.enc] at hn; omega
  have hz1 : (bs (ttx a)).size ≤ 10200 := by rw [bs_size]; have := ttx_len a hg.2.1; omega
  have hz2 : (bs (ttx b)).size ≤ 10200 := by rw [bs_size]; have := ttx_len b hg.2.2; omega
  have KP := Lib.hid (fun W (hW : Grew w W) => by
    have h1 := l26Part_c v (.t2 x a b) 0 W (h.grew hW) hg (by omega) (by decide : 0 < 2)
    rw [show Tr.kid (.t2 x a b) 0 = a from rfl] at h1
    exact h1)
  have KQ := Lib.hid (fun W (hW : Grew w W) => by
    have h1 := l26Part_c v (.t2 x a b) 1 W (h.grew hW) hg (by omega) (by decide : 1 < 2)
    rw [show Tr.kid (.t2 x a b) 1 = b from rfl] at h1
    exact h1)
  have KI := Lib.hid (fun u W hu => IHa u W hu)
  have KJ := Lib.hid (fun u W hu => IHb u W hu)
  obtain ⟨bb, o, c, rfl, hc, hm, hb, hcl⟩ := tms_head h
  have k0 := fun W (hW : Grew w W) => (hcl W hW).1
  have k1 := fun W (hW : Grew w W) => (hcl W hW).2.1
  have k2 := fun W (hW : Grew w W) => (hcl W hW).2.2
  change ∀ W, Grew w W → W.cell? ⟨bb, o, none⟩ = some (.int .i64 x.1) at k0
  change ∀ W, Grew w W → W.cell? ⟨bb, o + 1, none⟩ = some (.int .i64 x.2.1) at k1
  change ∀ W, Grew w W → W.cell? ⟨bb, o + 2, none⟩ = some (.string x.2.2) at k2
  rw [hk] at k0
  have hpos := Tr.enc_pos (.t2 x a b)
  have hal := (Grew.refl w).alloc (.cells #[.int .i64 2, .int .i64 x.2.1, .string x.2.2] 42)
  have hr := Grew.refl w
  clear hcl h hg IHa IHb hk hla
  unfold Says at KI KJ ⊢
  generalize bs (ttx (.t2 x a b)) = R at *
  generalize bs (ttx a) = D at *
  generalize bs (ttx b) = D2 at *
  generalize x.2.1 = xn at *
  generalize x.2.2 = xs at *
  generalize (Tr.enc (.t2 x a b)).length = n at *
  have e1 : bs [40] = ⟨#[40]⟩ := rfl
  have e2 : bs [32] = ⟨#[32]⟩ := rfl
  have e3 : bs [41] = ⟨#[41]⟩ := rfl
  rw [e1, e2, e3] at HE
  clear e1 e2 e3
  go_enter Tryz.func17, Tryz.ntmps17
  go_wp2_with fail
  refine (KP.out _ hal).mono ?_
  rintro e w1 ⟨u1, rfl, hu1, hg1⟩
  have HU1 := Lib.hid hu1
  obtain ⟨U1, e1, rfl⟩ := tms_slice hu1
  clear hu1
  have g1 := Grew.trans hal hg1
  go_wp2_with fail
  refine (KI.out _ _ HU1.out).mono ?_
  rintro e w2 ⟨rfl, hg2⟩
  have g2 := g1.trans hg2
  go_wp2_with fail
  refine (KQ.out _ g2).mono ?_
  rintro e w3 ⟨u3, rfl, hu3, hg3⟩
  have HU3 := Lib.hid hu3
  obtain ⟨U3, e3, rfl⟩ := tms_slice hu3
  clear hu3
  have g3 := Grew.trans g2 hg3
  go_wp2_with fail
  refine (KJ.out _ _ HU3.out).mono ?_
  rintro e w4 ⟨rfl, hg4⟩
  have g4 := g3.trans hg4
  go_wp2_with fail
  go_ret
  exact ⟨by rw [← HE.out]; rfl, g4⟩

theorem l26Text_pair (x : Tn) (a b : Tm) (hg : Good (.t2 x a b)) (hk : x.1 = 3) (IHa : TxtS a) (IHb : TxtS b) (hn : (Tr.enc (.t2 x a b)).length ≤ 60) : TxtS (.t2 x a b) := by
  intro v w h
  have HE : Hid (bs [91] ++ bs (ttx a) ++ bs [44] ++ bs (ttx b) ++ bs [93] = bs (ttx (.t2 x a b))) := Lib.hid (by rw [bs_append, bs_append, bs_append, bs_append]; simp [ttx, hk])
  have hla : (Tr.enc a).length + (Tr.enc b).length ≤ 60 := by simp [Tr.enc] at hn; omega
  have hz1 : (bs (ttx a)).size ≤ 10200 := by rw [bs_size]; have := ttx_len a hg.2.1; omega
  have hz2 : (bs (ttx b)).size ≤ 10200 := by rw [bs_size]; have := ttx_len b hg.2.2; omega
  have KP := Lib.hid (fun W (hW : Grew w W) => by
    have h1 := l26Part_c v (.t2 x a b) 0 W (h.grew hW) hg (by omega) (by decide : 0 < 2)
    rw [show Tr.kid (.t2 x a b) 0 = a from rfl] at h1
    exact h1)
  have KQ := Lib.hid (fun W (hW : Grew w W) => by
    have h1 := l26Part_c v (.t2 x a b) 1 W (h.grew hW) hg (by omega) (by decide : 1 < 2)
    rw [show Tr.kid (.t2 x a b) 1 = b from rfl] at h1
    exact h1)
  have KI := Lib.hid (fun u W hu => IHa u W hu)
  have KJ := Lib.hid (fun u W hu => IHb u W hu)
  obtain ⟨bb, o, c, rfl, hc, hm, hb, hcl⟩ := tms_head h
  have k0 := fun W (hW : Grew w W) => (hcl W hW).1
  have k1 := fun W (hW : Grew w W) => (hcl W hW).2.1
  have k2 := fun W (hW : Grew w W) => (hcl W hW).2.2
  change ∀ W, Grew w W → W.cell? ⟨bb, o, none⟩ = some (.int .i64 x.1) at k0
  change ∀ W, Grew w W → W.cell? ⟨bb, o + 1, none⟩ = some (.int .i64 x.2.1) at k1
  change ∀ W, Grew w W → W.cell? ⟨bb, o + 2, none⟩ = some (.string x.2.2) at k2
  rw [hk] at k0
  have hpos := Tr.enc_pos (.t2 x a b)
  have hal := (Grew.refl w).alloc (.cells #[.int .i64 3, .int .i64 x.2.1, .string x.2.2] 42)
  have hr := Grew.refl w
  clear hcl h hg IHa IHb hk hla
  unfold Says at KI KJ ⊢
  generalize bs (ttx (.t2 x a b)) = R at *
  generalize bs (ttx a) = D at *
  generalize bs (ttx b) = D2 at *
  generalize x.2.1 = xn at *
  generalize x.2.2 = xs at *
  generalize (Tr.enc (.t2 x a b)).length = n at *
  have e1 : bs [91] = ⟨#[91]⟩ := rfl
  have e2 : bs [44] = ⟨#[44]⟩ := rfl
  have e3 : bs [93] = ⟨#[93]⟩ := rfl
  rw [e1, e2, e3] at HE
  clear e1 e2 e3
  go_enter Tryz.func17, Tryz.ntmps17
  go_wp2_with fail
  refine (KP.out _ hal).mono ?_
  rintro e w1 ⟨u1, rfl, hu1, hg1⟩
  have HU1 := Lib.hid hu1
  obtain ⟨U1, e1, rfl⟩ := tms_slice hu1
  clear hu1
  have g1 := Grew.trans hal hg1
  go_wp2_with fail
  refine (KI.out _ _ HU1.out).mono ?_
  rintro e w2 ⟨rfl, hg2⟩
  have g2 := g1.trans hg2
  go_wp2_with fail
  refine (KQ.out _ g2).mono ?_
  rintro e w3 ⟨u3, rfl, hu3, hg3⟩
  have HU3 := Lib.hid hu3
  obtain ⟨U3, e3, rfl⟩ := tms_slice hu3
  clear hu3
  have g3 := Grew.trans g2 hg3
  go_wp2_with fail
  refine (KJ.out _ _ HU3.out).mono ?_
  rintro e w4 ⟨rfl, hg4⟩
  have g4 := g3.trans hg4
  go_wp2_with fail
  go_ret
  exact ⟨by rw [← HE.out]; rfl, g4⟩

theorem l26Text_case (x : Tn) (c0 a b : Tm) (hg : Good (.t3 x c0 a b)) (hk : x.1 = 8) (IHc : TxtS c0) (IHa : TxtS a) (IHb : TxtS b) (hn : (Tr.enc (.t3 x c0 a b)).length ≤ 60) : TxtS (.t3 x c0 a b) := by
  intro v w h
  have HE : Hid (bs [123] ++ bs (ttx c0) ++ bs [59] ++ bs (ttx a) ++ bs [59] ++ bs (ttx b) ++ bs [125] = bs (ttx (.t3 x c0 a b))) := Lib.hid (by rw [bs_append, bs_append, bs_append, bs_append, bs_append, bs_append]; simp [ttx])
  have hla : (Tr.enc c0).length + (Tr.enc a).length + (Tr.enc b).length ≤ 60 := by simp [Tr.enc] at hn; omega
  have hz0 : (bs (ttx c0)).size ≤ 10200 := by rw [bs_size]; have := ttx_len c0 hg.2.1; omega
  have hz1 : (bs (ttx a)).size ≤ 10200 := by rw [bs_size]; have := ttx_len a hg.2.2.1; omega
  have hz2 : (bs (ttx b)).size ≤ 10200 := by rw [bs_size]; have := ttx_len b hg.2.2.2; omega
  have KP := Lib.hid (fun W (hW : Grew w W) => by
    have h1 := l26Part_c v (.t3 x c0 a b) 0 W (h.grew hW) hg (by omega) (by decide : 0 < 3)
    rw [show Tr.kid (.t3 x c0 a b) 0 = c0 from rfl] at h1
    exact h1)
  have KQ := Lib.hid (fun W (hW : Grew w W) => by
    have h1 := l26Part_c v (.t3 x c0 a b) 1 W (h.grew hW) hg (by omega) (by decide : 1 < 3)
    rw [show Tr.kid (.t3 x c0 a b) 1 = a from rfl] at h1
    exact h1)
  have KR := Lib.hid (fun W (hW : Grew w W) => by
    have h1 := l26Part_c v (.t3 x c0 a b) 2 W (h.grew hW) hg (by omega) (by decide : 2 < 3)
    rw [show Tr.kid (.t3 x c0 a b) 2 = b from rfl] at h1
    exact h1)
  have KI := Lib.hid (fun u W hu => IHc u W hu)
  have KJ := Lib.hid (fun u W hu => IHa u W hu)
  have KL := Lib.hid (fun u W hu => IHb u W hu)
  obtain ⟨bb, o, c, rfl, hc, hm, hb, hcl⟩ := tms_head h
  have k0 := fun W (hW : Grew w W) => (hcl W hW).1
  have k1 := fun W (hW : Grew w W) => (hcl W hW).2.1
  have k2 := fun W (hW : Grew w W) => (hcl W hW).2.2
  change ∀ W, Grew w W → W.cell? ⟨bb, o, none⟩ = some (.int .i64 x.1) at k0
  change ∀ W, Grew w W → W.cell? ⟨bb, o + 1, none⟩ = some (.int .i64 x.2.1) at k1
  change ∀ W, Grew w W → W.cell? ⟨bb, o + 2, none⟩ = some (.string x.2.2) at k2
  rw [hk] at k0
  have hpos := Tr.enc_pos (.t3 x c0 a b)
  have hal := (Grew.refl w).alloc (.cells #[.int .i64 8, .int .i64 x.2.1, .string x.2.2] 42)
  have hr := Grew.refl w
  clear hcl h hg IHa IHb IHc hk hla
  unfold Says at KI KJ KL ⊢
  generalize bs (ttx (.t3 x c0 a b)) = R at *
  generalize bs (ttx c0) = D0 at *
  generalize bs (ttx a) = D at *
  generalize bs (ttx b) = D2 at *
  generalize x.2.1 = xn at *
  generalize x.2.2 = xs at *
  generalize (Tr.enc (.t3 x c0 a b)).length = n at *
  have e1 : bs [123] = ⟨#[123]⟩ := rfl
  have e2 : bs [59] = ⟨#[59]⟩ := rfl
  have e3 : bs [125] = ⟨#[125]⟩ := rfl
  rw [e1, e2, e3] at HE
  clear e1 e2 e3
  go_enter Tryz.func17, Tryz.ntmps17
  go_wp2_with fail
  refine (KP.out _ hal).mono ?_
  rintro e w1 ⟨u1, rfl, hu1, hg1⟩
  have HU1 := Lib.hid hu1
  obtain ⟨U1, e1, rfl⟩ := tms_slice hu1
  clear hu1
  have g1 := Grew.trans hal hg1
  go_wp2_with fail
  refine (KI.out _ _ HU1.out).mono ?_
  rintro e w2 ⟨rfl, hg2⟩
  have g2 := g1.trans hg2
  go_wp2_with fail
  refine (KQ.out _ g2).mono ?_
  rintro e w3 ⟨u3, rfl, hu3, hg3⟩
  have HU3 := Lib.hid hu3
  obtain ⟨U3, e3, rfl⟩ := tms_slice hu3
  clear hu3
  have g3 := Grew.trans g2 hg3
  go_wp2_with fail
  refine (KJ.out _ _ HU3.out).mono ?_
  rintro e w4 ⟨rfl, hg4⟩
  have g4 := g3.trans hg4
  go_wp2_with fail
  refine (KR.out _ g4).mono ?_
  rintro e w5 ⟨u5, rfl, hu5, hg5⟩
  have HU5 := Lib.hid hu5
  obtain ⟨U5, e5, rfl⟩ := tms_slice hu5
  clear hu5
  have g5 := Grew.trans g4 hg5
  go_wp2_with fail
  refine (KL.out _ _ HU5.out).mono ?_
  rintro e w6 ⟨rfl, hg6⟩
  have g6 := g5.trans hg6
  go_wp2_with fail
  go_ret
  exact ⟨by rw [← HE.out]; rfl, g6⟩

theorem l26Text_c : ∀ t : Tm, Good t → (Tr.enc t).length ≤ 60 → TxtS t := by
  intro t
  induction t with
  | t0 x => exact fun hg _ => l26Text_var x hg
  | t1 x a iha =>
    intro hg hn
    have hk := ar_one (show Tr.ar x.1 = 1 from hg.1.1)
    have ha : (Tr.enc a).length ≤ 60 := by simp [Tr.enc] at hn; omega
    have IH := iha hg.2 ha
    rcases hk with hk | hk | hk | hk | hk | hk
    · exact l26Text_lam x a hg hk IH ha
    · exact l26Text_fst x a hg hk IH ha
    · exact l26Text_snd x a hg hk IH ha
    · exact l26Text_inl x a hg hk IH ha
    · exact l26Text_inr x a hg hk IH ha
    · exact l26Text_abort x a hg hk IH ha
  | t2 x a b iha ihb =>
    intro hg hn
    have hk := ar_two (show Tr.ar x.1 = 2 from hg.1.1)
    have ha : (Tr.enc a).length ≤ 60 := by simp [Tr.enc] at hn; omega
    have hb : (Tr.enc b).length ≤ 60 := by simp [Tr.enc] at hn; omega
    rcases hk with hk | hk
    · exact l26Text_app x a b hg hk (iha hg.2.1 ha) (ihb hg.2.2 hb) hn
    · exact l26Text_pair x a b hg hk (iha hg.2.1 ha) (ihb hg.2.2 hb) hn
  | t3 x c a b ihc iha ihb =>
    intro hg hn
    have hk := ar_three (show Tr.ar x.1 = 3 from hg.1.1)
    have hc : (Tr.enc c).length ≤ 60 := by simp [Tr.enc] at hn; omega
    have ha : (Tr.enc a).length ≤ 60 := by simp [Tr.enc] at hn; omega
    have hb : (Tr.enc b).length ≤ 60 := by simp [Tr.enc] at hn; omega
    exact l26Text_case x c a b hg hk (ihc hg.2.1 hc) (iha hg.2.2.1 ha) (ihb hg.2.2.2 hb) hn
end Go.Proofs.YtfpkfgimhanekaaGreatDoor

/- Contracts of the library (sorting, compacting strings), laid at this program. -/
namespace Go.Proofs
open Go.Shelf
def Tryz.lays169_ren : Go.Shelf.Ren := ⟨fun | 169 => 55 | n => n, fun | 70 => 73 | 9 => 9 | 0 => 0 | 72 => 76 | 37 => 74 | 127 => 98 | 3 => 3 | 5 => 5 | n => n, fun | n => n⟩
theorem Tryz.lays169 : Go.Proofs.Lays.n169 Tryz.prog Tryz.lays169_ren := {
  mixed := by kernel_rfl
  f169 := Tryz.func55.trans (congrArg some (by kernel_rfl))
  t0 := Tryz.underlying0
  a0 := Tryz.isAgg0
  z0 := Tryz.sizeOf0
  v0 := Tryz.zeroValue0
  t3 := Tryz.underlying3
  a3 := Tryz.isAgg3
  z3 := Tryz.sizeOf3
  v3 := Tryz.zeroValue3
  t9 := Tryz.underlying9
  a9 := Tryz.isAgg9
  z9 := Tryz.sizeOf9
  v9 := Tryz.zeroValue9
  t37 := Tryz.underlying74
  a37 := Tryz.isAgg74
  z37 := Tryz.sizeOf74
  v37 := Tryz.zeroValue74
  t70 := Tryz.underlying73
  a70 := Tryz.isAgg73
  z70 := Tryz.sizeOf73
  v70 := Tryz.zeroValue73
  t72 := Tryz.underlying76
  a72 := Tryz.isAgg76
  z72 := Tryz.sizeOf76
  v72 := Tryz.zeroValue76
  t127 := Tryz.underlying98
  a127 := Tryz.isAgg98
  z127 := Tryz.sizeOf98
  v127 := Tryz.zeroValue98 }
theorem Tryz.Builder_Extra_169 : Builder.Extra Tryz.prog Tryz.lays169_ren := {
  sizeBuilder := by kernel_rfl
  liesBuilder := by kernel_rfl
  t5 := Tryz.underlying5
  a5 := Tryz.isAgg5
  z5 := Tryz.sizeOf5
  v5 := Tryz.zeroValue5
  infoByte := by kernel_rfl
  cellsByte := by kernel_rfl
  sizeByte := by kernel_rfl
  neB5 := by decide }
open Go.RowKit in
theorem Tryz.Builder_String (B b : Nat) (l : List UInt8) (w : World) (h : Lib.IsBuilder 76 5 B b (Lib.byteCells l) w) (h0 : l ≠ []) :
    Calls Tryz.prog 55 #[.pointer (some ⟨b, 0, none⟩)] w fun e w' => e = .returned (.string ⟨l.toArray⟩) ∧ Below B w w' := Any.Builder_String Tryz.lays169 Tryz.Builder_Extra_169 B b l w h h0
open Go.RowKit in
theorem Tryz.Builder_String_empty (B b : Nat) (w : World) (h : Lib.IsBuilder 76 5 B b [] w) (hBw : B ≤ w.heap.size) :
    Calls Tryz.prog 55 #[.pointer (some ⟨b, 0, none⟩)] w fun e w' => e = .returned (.string ⟨#[]⟩) ∧ Below B w w' := Any.Builder_String_empty Tryz.lays169 Tryz.Builder_Extra_169 B b w h hBw
open Go.RowKit in
theorem Tryz.Builder_String_any (B b : Nat) (l : List UInt8) (w : World) (h : Lib.IsBuilder 76 5 B b (Lib.byteCells l) w) (hBw : B ≤ w.heap.size) :
    Calls Tryz.prog 55 #[.pointer (some ⟨b, 0, none⟩)] w fun e w' => e = .returned (.string ⟨l.toArray⟩) ∧ Below B w w' := Any.Builder_String_any Tryz.lays169 Tryz.Builder_Extra_169 B b l w h hBw
def Tryz.lays156_ren : Go.Shelf.Ren := ⟨fun | 156 => 39 | 165 => 68 | 166 => 54 | 169 => 55 | 240 => 72 | 241 => 79 | 276 => 87 | 277 => 99 | n => n, fun | 31 => 47 | 9 => 9 | 3 => 3 | 4 => 4 | 0 => 0 | 20 => 20 | 72 => 76 | 76 => 80 | 70 => 73 | 37 => 74 | 75 => 79 | 127 => 98 | 164 => 108 | 5 => 5 | 80 => 82 | n => n, fun | n => n⟩
theorem Tryz.lays156 : Go.Proofs.Lays.n156 Tryz.prog Tryz.lays156_ren := {
  mixed := by kernel_rfl
  f156 := Tryz.func39.trans (congrArg some (by kernel_rfl))
  f165 := Tryz.func68.trans (congrArg some (by kernel_rfl))
  f166 := Tryz.func54.trans (congrArg some (by kernel_rfl))
  f169 := Tryz.func55.trans (congrArg some (by kernel_rfl))
  f240 := Tryz.func72.trans (congrArg some (by kernel_rfl))
  f241 := Tryz.func79.trans (congrArg some (by kernel_rfl))
  f276 := Tryz.func87.trans (congrArg some (by kernel_rfl))
  f277 := Tryz.func99.trans (congrArg some (by kernel_rfl))
  t0 := Tryz.underlying0
  a0 := Tryz.isAgg0
  z0 := Tryz.sizeOf0
  v0 := Tryz.zeroValue0
  t3 := Tryz.underlying3
  a3 := Tryz.isAgg3
  z3 := Tryz.sizeOf3
  v3 := Tryz.zeroValue3
  t4 := Tryz.underlying4
  a4 := Tryz.isAgg4
  z4 := Tryz.sizeOf4
  v4 := Tryz.zeroValue4
  t9 := Tryz.underlying9
  a9 := Tryz.isAgg9
  z9 := Tryz.sizeOf9
  v9 := Tryz.zeroValue9
  t20 := Tryz.underlying20
  a20 := Tryz.isAgg20
  z20 := Tryz.sizeOf20
  v20 := Tryz.zeroValue20
  t31 := Tryz.underlying47
  a31 := Tryz.isAgg47
  z31 := Tryz.sizeOf47
  v31 := Tryz.zeroValue47
  t37 := Tryz.underlying74
  a37 := Tryz.isAgg74
  z37 := Tryz.sizeOf74
  v37 := Tryz.zeroValue74
  t70 := Tryz.underlying73
  a70 := Tryz.isAgg73
  z70 := Tryz.sizeOf73
  v70 := Tryz.zeroValue73
  t72 := Tryz.underlying76
  a72 := Tryz.isAgg76
  z72 := Tryz.sizeOf76
  v72 := Tryz.zeroValue76
  t75 := Tryz.underlying79
  a75 := Tryz.isAgg79
  z75 := Tryz.sizeOf79
  v75 := Tryz.zeroValue79
  t76 := Tryz.underlying80
  a76 := Tryz.isAgg80
  z76 := Tryz.sizeOf80
  v76 := Tryz.zeroValue80
  t127 := Tryz.underlying98
  a127 := Tryz.isAgg98
  z127 := Tryz.sizeOf98
  v127 := Tryz.zeroValue98
  t164 := Tryz.underlying108
  a164 := Tryz.isAgg108
  z164 := Tryz.sizeOf108
  v164 := Tryz.zeroValue108 }
theorem Tryz.Builder_Extra_156 : Builder.Extra Tryz.prog Tryz.lays156_ren := {
  sizeBuilder := by kernel_rfl
  liesBuilder := by kernel_rfl
  t5 := Tryz.underlying5
  a5 := Tryz.isAgg5
  z5 := Tryz.sizeOf5
  v5 := Tryz.zeroValue5
  infoByte := by kernel_rfl
  cellsByte := by kernel_rfl
  sizeByte := by kernel_rfl
  neB5 := by decide }
open Go.RowKit in
theorem Tryz.strings_Join_none (a : Option Addr) (c : Nat) (sep : ByteArray) (w : World) :
    Calls Tryz.prog 39 #[.slice a 0 c, .string sep] w fun e w' => e = .returned (.string ⟨#[]⟩) ∧ w' = w := Any.strings_Join_none Tryz.lays156 Tryz.Builder_Extra_156 a c sep w
open Go.RowKit in
theorem Tryz.strings_Join (bk o c : Nat) (xs : List ByteArray) (sep : ByteArray) (w : World) (hcells : ∀ (j : Nat) x, xs[j]? = some x → w.cell? ⟨bk, o + j, none⟩ = some (.string x)) (hbk : bk < w.heap.size) (hN : xs.length ≤ 140737488355328) (hcap : xs.length ≤ c) (hlen : (Lib.join (xs.map (·.data.toList)) sep.data.toList).length ≤ 140737488355328) :
    Calls Tryz.prog 39 #[.slice (some ⟨bk, o, none⟩) xs.length c, .string sep] w fun e w' => e = .returned (.string ⟨(Lib.join (xs.map (·.data.toList)) sep.data.toList).toArray⟩) ∧ Below w.heap.size w w' := Any.strings_Join Tryz.lays156 Tryz.Builder_Extra_156 bk o c xs sep w hcells hbk hN hcap hlen
def Tryz.laysM173_ren : Go.Shelf.Ren := ⟨fun | 173 => 67 | 246 => 78 | 283 => 95 | 284 => 96 | 285 => 97 | 286 => 98 | 129 => 118 | 317 => 117 | 318 => 119 | 319 => 120 | 320 => 121 | 337 => 140 | 338 => 141 | n => n, fun | 2 => 2 | 3 => 3 | 9 => 9 | 4 => 4 | 171 => 118 | 0 => 0 | 53 => 119 | 37 => 74 | 5 => 5 | 173 => 122 | 212 => 146 | 51 => 147 | 20 => 20 | 213 => 148 | 46 => 150 | 232 => 170 | 233 => 171 | n => n, fun | 17 => 0 | 18 => 2 | 19 => 3 | n => n⟩
theorem Tryz.laysM173 : Go.Proofs.LaysM.n173 Tryz.prog Tryz.laysM173_ren := {
  mixed := by kernel_rfl
  f129 := Tryz.func118.trans (congrArg some (by kernel_rfl))
  f173 := Tryz.func67.trans (congrArg some (by kernel_rfl))
  f246 := Tryz.func78.trans (congrArg some (by kernel_rfl))
  f283 := Tryz.func95.trans (congrArg some (by kernel_rfl))
  f284 := Tryz.func96.trans (congrArg some (by kernel_rfl))
  f285 := Tryz.func97.trans (congrArg some (by kernel_rfl))
  f286 := Tryz.func98.trans (congrArg some (by kernel_rfl))
  f317 := Tryz.func117.trans (congrArg some (by kernel_rfl))
  f318 := Tryz.func119.trans (congrArg some (by kernel_rfl))
  f319 := Tryz.func120.trans (congrArg some (by kernel_rfl))
  f320 := Tryz.func121.trans (congrArg some (by kernel_rfl))
  f337 := Tryz.func140.trans (congrArg some (by kernel_rfl))
  f338 := Tryz.func141.trans (congrArg some (by kernel_rfl))
  t0 := Tryz.underlying0
  a0 := Tryz.isAgg0
  z0 := Tryz.sizeOf0
  v0 := Tryz.zeroValue0
  t2 := Tryz.underlying2
  a2 := Tryz.isAgg2
  z2 := Tryz.sizeOf2
  v2 := Tryz.zeroValue2
  t3 := Tryz.underlying3
  a3 := Tryz.isAgg3
  z3 := Tryz.sizeOf3
  v3 := Tryz.zeroValue3
  t4 := Tryz.underlying4
  a4 := Tryz.isAgg4
  z4 := Tryz.sizeOf4
  v4 := Tryz.zeroValue4
  t5 := Tryz.underlying5
  a5 := Tryz.isAgg5
  z5 := Tryz.sizeOf5
  v5 := Tryz.zeroValue5
  t9 := Tryz.underlying9
  a9 := Tryz.isAgg9
  z9 := Tryz.sizeOf9
  v9 := Tryz.zeroValue9
  t20 := Tryz.underlying20
  a20 := Tryz.isAgg20
  z20 := Tryz.sizeOf20
  v20 := Tryz.zeroValue20
  t37 := Tryz.underlying74
  a37 := Tryz.isAgg74
  z37 := Tryz.sizeOf74
  v37 := Tryz.zeroValue74
  t46 := Tryz.underlying150
  a46 := Tryz.isAgg150
  z46 := Tryz.sizeOf150
  v46 := Tryz.zeroValue150
  t51 := Tryz.underlying147
  a51 := Tryz.isAgg147
  z51 := Tryz.sizeOf147
  v51 := Tryz.zeroValue147
  t53 := Tryz.underlying119
  a53 := Tryz.isAgg119
  z53 := Tryz.sizeOf119
  v53 := Tryz.zeroValue119
  t171 := Tryz.underlying118
  a171 := Tryz.isAgg118
  z171 := Tryz.sizeOf118
  v171 := Tryz.zeroValue118
  t173 := Tryz.underlying122
  a173 := Tryz.isAgg122
  z173 := Tryz.sizeOf122
  v173 := Tryz.zeroValue122
  t212 := Tryz.underlying146
  a212 := Tryz.isAgg146
  z212 := Tryz.sizeOf146
  v212 := Tryz.zeroValue146
  t213 := Tryz.underlying148
  a213 := Tryz.isAgg148
  z213 := Tryz.sizeOf148
  t232 := Tryz.underlying170
  a232 := Tryz.isAgg170
  z232 := Tryz.sizeOf170
  v232 := Tryz.zeroValue170
  t233 := Tryz.underlying171
  a233 := Tryz.isAgg171
  z233 := Tryz.sizeOf171
  v233 := Tryz.zeroValue171
  g17 := by kernel_rfl
  g18 := by kernel_rfl
  g19 := by kernel_rfl
  i0 := by kernel_rfl
  i2 := by kernel_rfl
  i3 := by kernel_rfl
  i4 := by kernel_rfl
  i5 := by kernel_rfl
  i9 := by kernel_rfl
  i20 := by kernel_rfl
  i37 := by kernel_rfl
  i46 := by kernel_rfl
  i51 := by kernel_rfl
  i53 := by kernel_rfl
  i171 := by kernel_rfl
  i173 := by kernel_rfl
  i212 := by kernel_rfl
  i232 := by kernel_rfl
  i233 := by kernel_rfl
  m17 := by kernel_rfl
  m18 := by kernel_rfl
  m19 := by kernel_rfl }
open Go.RowKit Go.Sort Go.Lib in
theorem Tryz.strconv_FormatInt_10 (n : Int) (h0 : -9223372036854775808 ≤ n) (h1 : n ≤ 9223372036854775807) (w : World) (htab : Lib.TabIs Tryz.prog w "internal/strconv.uint64pow10" .u64 Lib.pow10Tab) :
    Calls Tryz.prog 67 #[.int .i64 n, .int .i64 10] w fun e w' => e = .returned (.string ⟨(Lib.itoa n).toArray⟩) ∧ ∃ k os, w' = grow (w.drewN k) os := Any.strconv_FormatInt_10 Tryz.laysM173 n h0 h1 w htab
def Tryz.lays173_ren : Go.Shelf.Ren := ⟨fun | 173 => 67 | 246 => 78 | 283 => 95 | 284 => 96 | 285 => 97 | 286 => 98 | 129 => 118 | 317 => 117 | 318 => 119 | 319 => 120 | 320 => 121 | 337 => 140 | 338 => 141 | n => n, fun | 2 => 2 | 3 => 3 | 9 => 9 | 4 => 4 | 171 => 118 | 0 => 0 | 53 => 119 | 37 => 74 | 5 => 5 | 173 => 122 | 212 => 146 | 51 => 147 | 20 => 20 | 213 => 148 | 46 => 150 | 232 => 170 | 233 => 171 | n => n, fun | 17 => 0 | 18 => 2 | 19 => 3 | n => n⟩
theorem Tryz.lays173 : Go.Proofs.Lays.n173 Tryz.prog Tryz.lays173_ren := {
  mixed := by kernel_rfl
  f129 := Tryz.func118.trans (congrArg some (by kernel_rfl))
  f173 := Tryz.func67.trans (congrArg some (by kernel_rfl))
  f246 := Tryz.func78.trans (congrArg some (by kernel_rfl))
  f283 := Tryz.func95.trans (congrArg some (by kernel_rfl))
  f284 := Tryz.func96.trans (congrArg some (by kernel_rfl))
  f285 := Tryz.func97.trans (congrArg some (by kernel_rfl))
  f286 := Tryz.func98.trans (congrArg some (by kernel_rfl))
  f317 := Tryz.func117.trans (congrArg some (by kernel_rfl))
  f318 := Tryz.func119.trans (congrArg some (by kernel_rfl))
  f319 := Tryz.func120.trans (congrArg some (by kernel_rfl))
  f320 := Tryz.func121.trans (congrArg some (by kernel_rfl))
  f337 := Tryz.func140.trans (congrArg some (by kernel_rfl))
  f338 := Tryz.func141.trans (congrArg some (by kernel_rfl))
  t0 := Tryz.underlying0
  a0 := Tryz.isAgg0
  z0 := Tryz.sizeOf0
  v0 := Tryz.zeroValue0
  t2 := Tryz.underlying2
  a2 := Tryz.isAgg2
  z2 := Tryz.sizeOf2
  v2 := Tryz.zeroValue2
  t3 := Tryz.underlying3
  a3 := Tryz.isAgg3
  z3 := Tryz.sizeOf3
  v3 := Tryz.zeroValue3
  t4 := Tryz.underlying4
  a4 := Tryz.isAgg4
  z4 := Tryz.sizeOf4
  v4 := Tryz.zeroValue4
  t5 := Tryz.underlying5
  a5 := Tryz.isAgg5
  z5 := Tryz.sizeOf5
  v5 := Tryz.zeroValue5
  t9 := Tryz.underlying9
  a9 := Tryz.isAgg9
  z9 := Tryz.sizeOf9
  v9 := Tryz.zeroValue9
  t20 := Tryz.underlying20
  a20 := Tryz.isAgg20
  z20 := Tryz.sizeOf20
  v20 := Tryz.zeroValue20
  t37 := Tryz.underlying74
  a37 := Tryz.isAgg74
  z37 := Tryz.sizeOf74
  v37 := Tryz.zeroValue74
  t46 := Tryz.underlying150
  a46 := Tryz.isAgg150
  z46 := Tryz.sizeOf150
  v46 := Tryz.zeroValue150
  t51 := Tryz.underlying147
  a51 := Tryz.isAgg147
  z51 := Tryz.sizeOf147
  v51 := Tryz.zeroValue147
  t53 := Tryz.underlying119
  a53 := Tryz.isAgg119
  z53 := Tryz.sizeOf119
  v53 := Tryz.zeroValue119
  t171 := Tryz.underlying118
  a171 := Tryz.isAgg118
  z171 := Tryz.sizeOf118
  v171 := Tryz.zeroValue118
  t173 := Tryz.underlying122
  a173 := Tryz.isAgg122
  z173 := Tryz.sizeOf122
  v173 := Tryz.zeroValue122
  t212 := Tryz.underlying146
  a212 := Tryz.isAgg146
  z212 := Tryz.sizeOf146
  v212 := Tryz.zeroValue146
  t213 := Tryz.underlying148
  a213 := Tryz.isAgg148
  z213 := Tryz.sizeOf148
  t232 := Tryz.underlying170
  a232 := Tryz.isAgg170
  z232 := Tryz.sizeOf170
  v232 := Tryz.zeroValue170
  t233 := Tryz.underlying171
  a233 := Tryz.isAgg171
  z233 := Tryz.sizeOf171
  v233 := Tryz.zeroValue171
  g17 := by kernel_rfl
  g18 := by kernel_rfl
  g19 := by kernel_rfl }
open Go.RowKit Go.Sort Go.Lib in
theorem Tryz.strconv_FormatInt_10_small (i : Nat) (hi : i < 100) (w : World) :
    Calls Tryz.prog 67 #[.int .i64 i, .int .i64 10] w fun e w' => e = .returned (.string ⟨(Lib.decDigits i).toArray⟩) ∧ w' = w := Any.strconv_FormatInt_10_small Tryz.lays173 i hi w
end Go.Proofs

/- decimal of the program, strings.Join. -/
namespace Go.Proofs.YtfpkfgimhanekaaGreatDoor
open Go.RowKit

/-- A number below 100 in decimal. -/
theorem decimal_small (n : Nat) (w : World) (h : n < 100) : Calls Tryz.prog 38 #[.int .i64 n] w fun e w' => e = .returned (.string (dcm n)) ∧ w' = w := by
  have K := Lib.hid (Tryz.strconv_FormatInt_10_small n h w)
  unfold dcm
  generalize Lib.decDigits n = D at *
  go_enter Tryz.func38, Tryz.ntmps38
  go_wp2_with fail
  refine (K.out).mono ?_
  rintro e w1 ⟨rfl, rfl⟩
  go_wp2_with fail
  go_ret
  exact ⟨rfl, rfl⟩
/-- The texts with a text between. -/
def joinB (L : List ByteArray) (s : ByteArray) : List UInt8 := Lib.join (L.map (·.data.toList)) s.data.toList
theorem joinB_none (s : ByteArray) : joinB [] s = [] := rfl
theorem joinS_c (v : Value) (L : List ByteArray) (s : ByteArray) (w : World) (h : Strs w v L) (hn : L.length ≤ 1048576) (hl : (joinB L s).length ≤ 140737488355328) :
    Calls Tryz.prog 39 #[v, .string s] w fun e w' => e = .returned (.string ⟨(joinB L s).toArray⟩) ∧ Grew w w' := by
  rcases h.open_ with ⟨rfl, rfl⟩ | ⟨b, o, c, rfl, hc, hm, hb, hcell⟩
  · refine (Tryz.strings_Join_none none 0 s w).mono fun e w' hh => ?_
    obtain ⟨h1, h2⟩ := hh
    subst h2
    exact ⟨h1, Grew.refl _⟩
  · refine (Tryz.strings_Join b o c L s w (fun j x hx => ?_) hb (by omega) hc hl).mono fun e w' hh => ⟨hh.1, hh.2⟩
    have hj := (List.getElem?_eq_some_iff.1 hx).1
    have h2 := hcell j hj w (Grew.refl w)
    rw [h2]
    simp [st, List.getD, hx]
end Go.Proofs.YtfpkfgimhanekaaGreatDoor

/- Formulas of two parts. -/
namespace Go.Proofs.YtfpkfgimhanekaaGreatDoor
open Go.RowKit

/-- The formula has two parts. -/
def TwoF (A p q : Fm.Tree) : Prop := Fm.enc A = (kindOf A, 0) :: (Fm.enc p ++ Fm.enc q)
theorem TwoF.len {A p q : Fm.Tree} (h : TwoF A p q) : (Fm.enc A).length = 1 + (Fm.enc p).length + (Fm.enc q).length := by rw [h]; simp; omega
end Go.Proofs.YtfpkfgimhanekaaGreatDoor

/- The parts of a formula: parts, partTexts of the program. -/
namespace Go.Proofs.YtfpkfgimhanekaaGreatDoor
open Go.RowKit

/-- 'out = append(out, s)', out a row of strings of the call's own. -/
theorem wpList_appStr {ops : Array Oper} {rest : List Oper} {o : Oper} {a : Act} {Q : Exit → Act → World → Prop} {w w0 : World} (s x : Operand) (hgd : o.guard = none)
    (ho : o.op = .call { callee := .builtin .append, args := #[s, x], argTypes := #[47, 47] })
    (v : Value) (L : List ByteArray) (hs : a.eval s = v) (hown : OwnS w w0.heap.size v L) (hg : Grew w0 w) (vx : Value) (k : ByteArray) (hx : a.eval x = vx) (hr : Rd w 1 vx 1 [.string k]) (hn : L.length ≤ 1048576)
    (h : ∀ v' w', OwnS w' w0.heap.size v' (L ++ [k]) → Grew w0 w' → w.grownBy w' v.ownBlock → wpList Tryz.prog ops Q rest (a.put o.dst v') w') : wpList Tryz.prog ops Q (o :: rest) a w := by
  obtain ⟨i0, hi0, hz0, hz1, hz2⟩ := info_parts Tryz.infoStr
  refine wpList_append_rd w hgd s x _ ho w0.heap.size 9 i0 _ 1 16 Tryz.underlying47 hi0 hz0 hz1 hz2 rfl (by omega) v L.length (scells L) hs hown vx 1 [.string k] hx hr (by simp [Value.oneCell']) (by unfold maxLen; omega) (by omega) hg.size ?_
  intro v' w' h1 h2 h3
  refine h v' w' ?_ (hg.grown h2 fun k hk => (hown.lt k hk).1) h2
  unfold OwnS
  rw [List.length_append, scells_append]
  exact h1

/-- A slice of two slices that read as the two parts. -/
def Two (w : World) (v : Value) (p q : Fm.Tree) : Prop := ∃ g u1 u2, v = .slice (some ⟨g, 0, none⟩) 2 2 ∧ (∀ W, Grew w W → W.cell? ⟨g, 0, none⟩ = some u1) ∧ (∀ W, Grew w W → W.cell? ⟨g, 1, none⟩ = some u2) ∧ Nodes w u1 (Fm.enc p) ∧ Nodes w u2 (Fm.enc q)

theorem parts_two (v : Value) (A p q : Fm.Tree) (w : World) (h : Nodes w v (Fm.enc A)) (hl : (Fm.enc A).length ≤ 40) (h2 : TwoF A p q) (hk : kindOf A = 2 ∨ kindOf A = 3 ∨ kindOf A = 4) :
    Calls Tryz.prog 143 #[v] w fun e w' => ∃ u, e = .returned u ∧ Two w' u p q ∧ Grew w w' := by
  have HH := Lib.hid h
  obtain ⟨b, o, c, rfl, hc, hm, k0⟩ := nodes_head h
  have K1 := Lib.hid (fun W (hW : Grew w W) => first_c _ (Fm.enc A) p W (h.grew hW) (by omega) (at_first h2))
  have K2 := Lib.hid (fun W (hW : Grew w W) => second_c _ (Fm.enc A) p q W (h.grew hW) (by omega) (at_first h2) (at_second h2))
  have KO := Lib.hid (fun w => partsOf_c (kindOf A) w)
  have ha : (Fm.arity (kindOf A) : Int) = 2 := by unfold Fm.arity; rw [if_pos hk]; rfl
  rw [ha] at KO
  have r0 := Grew.refl w
  have hpos := Fm.enc_pos A
  clear h h2 hk ha HH
  generalize kindOf A = kk at *
  generalize (Fm.enc A).length = n at *
  go_enter Tryz.func143, Tryz.ntmps143
  go_wp2_with fail
  refine (KO.out _).mono ?_
  rintro e w1 ⟨rfl, hg1⟩
  go_wp2_with fail
  refine (K1.out _ hg1).mono ?_
  rintro e w2 ⟨u1, rfl, hn1, hg2⟩
  have H1 := Lib.hid hn1
  obtain ⟨A1, c1, rfl⟩ := nodes_slice hn1
  clear hn1
  have g2 := hg1.trans hg2
  go_wp2_with fail
  refine (K2.out _ g2).mono ?_
  rintro e w3 ⟨u2, rfl, hn2, hg3⟩
  have H2 := Lib.hid hn2
  obtain ⟨A2, c2, rfl⟩ := nodes_slice hn2
  clear hn2
  go_wp2_with fail
  go_ret
  have hal := (Grew.refl w3).alloc (.cells #[.slice A1 (Fm.enc p).length c1, .slice A2 (Fm.enc q).length c2] 88)
  exact ⟨_, rfl, ⟨w3.heap.size, _, _, rfl, fun W hW => (hW.cell (by simp)).trans (by simp), fun W hW => (hW.cell (by simp)).trans (by simp), (H1.out.grew hg3).grew hal, H2.out.grew hal⟩, (g2.trans hg3).trans hal⟩

theorem parts_none (v : Value) (A : Fm.Tree) (w : World) (h : Nodes w v (Fm.enc A)) (hk : kindOf A = 0 ∨ kindOf A = 1) :
    Calls Tryz.prog 143 #[v] w fun e w' => e = .returned (.slice none 0 0) ∧ Grew w w' := by
  obtain ⟨b, o, c, rfl, hc, hm, k0⟩ := nodes_head h
  have KO := Lib.hid (fun w => partsOf_c (kindOf A) w)
  have ha : (Fm.arity (kindOf A) : Int) = 0 := by unfold Fm.arity; rw [if_neg (by omega), if_neg (by omega)]; rfl
  rw [ha] at KO
  have r0 := Grew.refl w
  have hpos := Fm.enc_pos A
  clear h hk ha
  generalize kindOf A = kk at *
  generalize (Fm.enc A).length = n at *
  go_enter Tryz.func143, Tryz.ntmps143
  go_wp2_with fail
  refine (KO.out _).mono ?_
  rintro e w1 ⟨rfl, hg1⟩
  go_wp2_with fail
  go_ret
  exact ⟨rfl, hg1⟩

theorem partTexts_none (v : Value) (A : Fm.Tree) (w : World) (h : Nodes w v (Fm.enc A)) (hk : kindOf A = 0 ∨ kindOf A = 1) :
    Calls Tryz.prog 127 #[v] w fun e w' => e = .returned (.slice none 0 0) ∧ Grew w w' := by
  have KP := Lib.hid (parts_none v A w h hk)
  obtain ⟨b, o, c, rfl, hc, hm, k0⟩ := nodes_head h
  clear h hk k0
  generalize (Fm.enc A).length = n at *
  go_enter Tryz.func127, Tryz.ntmps127
  go_wp2_with fail
  refine KP.out.mono ?_
  rintro e w1 ⟨rfl, hg1⟩
  go_wp2_with fail
  refine wp_loop_rounds 1 ?_; rw [rounds_succ]
  go_wp2_with fail
  go_ret
  exact ⟨rfl, hg1⟩

theorem partTexts_two (v : Value) (A p q : Fm.Tree) (w : World) (h : Nodes w v (Fm.enc A)) (hl : (Fm.enc A).length ≤ 40) (h2 : TwoF A p q) (hk : kindOf A = 2 ∨ kindOf A = 3 ∨ kindOf A = 4) :
    Calls Tryz.prog 127 #[v] w (GivesS w [tx p, tx q]) := by
  have KP := Lib.hid (parts_two v A p q w h hl h2 hk)
  have hlen := h2.len
  have K1 := Lib.hid (fun v w h => text0_c p v w h (by omega))
  have K2 := Lib.hid (fun v w h => text0_c q v w h (by omega))
  have e1 : bs (Fm.txt p 0) = tx p := rfl
  have e2 : bs (Fm.txt q 0) = tx q := rfl
  unfold Says at K1 K2
  rw [e1] at K1
  rw [e2] at K2
  obtain ⟨b, o, c, rfl, hc, hm, k0⟩ := nodes_head h
  clear h h2 hk k0 e1 e2 hlen
  generalize (Fm.enc A).length = n at *
  generalize tx p = sp at *
  generalize tx q = sq at *
  go_enter Tryz.func127, Tryz.ntmps127
  go_wp2_with fail
  refine KP.out.mono ?_
  rintro e w1 ⟨u, rfl, ⟨g, u1, u2, rfl, c1, c2, hn1, hn2⟩, hg1⟩
  have H1 := Lib.hid hn1
  have H2 := Lib.hid hn2
  obtain ⟨A1, d1, rfl⟩ := nodes_slice hn1
  obtain ⟨A2, d2, rfl⟩ := nodes_slice hn2
  clear hn1 hn2
  have r1 := Grew.refl w1
  have HO1 := OwnS.nil_ w1 w.heap.size
  go_wp2_with fail
  refine wp_loop_rounds 3 ?_; rw [rounds_succ]
  go_wp2_with fail
  refine (K1.out _ _ H1.out).mono ?_
  rintro e w2 ⟨rfl, hg2⟩
  have hB2 := hg1.trans hg2
  have hO2 := HO1.grew (hg2.trans ((Grew.refl w2).alloc (.cells #[.string sp] 9)))
  go_wp2_with (first | (at_builtin; refine wpList_appStr (w0 := w) _ _ rfl rfl _ [] rfl hO2 (hB2.alloc _) _ sp rfl (rd_lit _ _ _) (by simp) ?_; intro v3 w3 hown3 hg3 hgr3))
  have g13 : Grew w1 w3 := (hg2.trans ((Grew.refl w2).alloc (.cells #[.string sp] 9))).trans (by
    have hg' : (w2.alloc (.cells #[.string sp] 9)).grownBy w3 none := hgr3
    exact ⟨hg'.os, hg'.tape, hg'.output, hg'.size, fun i hi => hg'.block i hi (by simp)⟩)
  clear HO1 hO2 hgr3 hB2
  rw [rounds_succ]
  go_wp2_with fail
  refine (K2.out _ _ (H2.out.grew g13)).mono ?_
  rintro e w4 ⟨rfl, hg4⟩
  have hB4 := hg3.trans hg4
  have hO4 := hown3.grew (hg4.trans ((Grew.refl w4).alloc (.cells #[.string sq] 9)))
  go_wp2_with (first | (at_builtin; refine wpList_appStr (w0 := w) _ _ rfl rfl _ [sp] rfl hO4 (hB4.alloc _) _ sq rfl (rd_lit _ _ _) (by simp) ?_; intro v5 w5 hown5 hg5 hgr5))
  rw [rounds_succ]
  go_wp2_with fail
  go_ret
  exact ⟨_, rfl, hown5, hg5⟩
end Go.Proofs.YtfpkfgimhanekaaGreatDoor

/- Lists of one and of two strings. -/
namespace Go.Proofs.YtfpkfgimhanekaaGreatDoor
open Go.RowKit

theorem strs_one {w : World} {v : Value} {a : ByteArray} (h : Strs w v [a]) : ∃ b o c, v = .slice (some ⟨b, o, none⟩) 1 c ∧ 1 ≤ c ∧ c ≤ 9223372036854775807 ∧ b < w.heap.size ∧ ∀ W, Grew w W → W.cell? ⟨b, o, none⟩ = some (.string a) := by
  rcases h.open_ with ⟨_, h0⟩ | ⟨b, o, c, rfl, hc, hm, hb, hf⟩
  · cases h0
  · exact ⟨b, o, c, rfl, hc, hm, hb, fun W hW => by simpa [st] using hf 0 (by simp) W hW⟩
theorem strs_two {w : World} {v : Value} {a a2 : ByteArray} (h : Strs w v [a, a2]) : ∃ b o c, v = .slice (some ⟨b, o, none⟩) 2 c ∧ 2 ≤ c ∧ c ≤ 9223372036854775807 ∧ b < w.heap.size ∧ ∀ W, Grew w W → W.cell? ⟨b, o, none⟩ = some (.string a) ∧ W.cell? ⟨b, o + 1, none⟩ = some (.string a2) := by
  rcases h.open_ with ⟨_, h0⟩ | ⟨b, o, c, rfl, hc, hm, hb, hf⟩
  · cases h0
  · exact ⟨b, o, c, rfl, hc, hm, hb, fun W hW => ⟨by simpa [st] using hf 0 (by simp) W hW, by simpa [st] using hf 1 (by simp) W hW⟩⟩

end Go.Proofs.YtfpkfgimhanekaaGreatDoor

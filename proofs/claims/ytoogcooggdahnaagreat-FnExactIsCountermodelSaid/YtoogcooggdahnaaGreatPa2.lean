/- Texts in one file: Write Good PartP Text Parsed Strs IsText Cont Plain Gp Fo KrT AppI MbB MbM MbS KrB KrI KrF TwoF TwoT KrS OwnV FitS Hold ListsI Above StrLaw SeqP Frm. -/
import Derived.Lib.SlicesS
import Derived.Test.YtoogcooggdahnaaGreatProg
import Derived.Deep.QuietTactic
import Derived.BigQuiet
import Derived.Deep.LoopGhost
import Derived.Outline
import Derived.Deep.RegionHeld3
import Derived.WalkSpells
import Derived.WalkLawsBesides
import Derived.Shelf.Abstract
import Derived.Deep.OwnRows
import Derived.Test.YtoogcooggdahnaaGreatPa1
set_option linter.all false

/- The text of a formula: the reference's l02Write. -/
namespace Go.Proofs.YtoogcooggdahnaaGreat
open Go.RowKit
open Fm (Nd Tree)

theorem l02Left_c (v : Value) (xs : List Nd) (a : Tree) (w : World) (h : Nodes w v xs) (hn : xs.length ≤ 1099511627776) (ha : At xs 1 a) :
    Calls Tryz.prog 49 #[v] w (Cuts w (Fm.enc a)) := by
  have hle := ha.le
  have hpos := Fm.enc_pos a
  rcases h.open_ with ⟨rfl, rfl⟩ | ⟨b, o, c, rfl, hc, hm, hb, hf⟩
  · simp only [List.length_nil] at hle; omega
  · have hsub := h.sub 1 (Fm.enc a).length (c - 1) hle (by omega) (by omega)
    rw [ha.take] at hsub
    have HH := Lib.hid h
    have HS := Lib.hid hsub
    have HT := Lib.hid ha
    clear h hf hsub ha
    go_enter Tryz.func49, Tryz.ntmps49
    go_wp2_with fail
    refine (l02Part_at _ xs 1 a _ HH.out hn HT.out).mono ?_
    rintro e w1 ⟨rfl, hg1⟩
    go_wp2_with fail
    go_ret
    refine ⟨_, rfl, ?_, hg1⟩
    rw [Nat.add_sub_cancel_left]
    exact HS.out.grew hg1

theorem l02Right_c (v : Value) (xs : List Nd) (a t : Tree) (w : World) (h : Nodes w v xs) (hn : xs.length ≤ 1099511627776) (ha : At xs 1 a) (ht : At xs (1 + (Fm.enc a).length) t) (hl : xs.length = 1 + (Fm.enc a).length + (Fm.enc t).length) :
    Calls Tryz.prog 50 #[v] w (Cuts w (Fm.enc t)) := by
  have hle := ha.le
  have hpos := Fm.enc_pos t
  rcases h.open_ with ⟨rfl, rfl⟩ | ⟨b, o, c, rfl, hc, hm, hb, hf⟩
  · simp only [List.length_nil] at hle; omega
  · have hsub := h.sub (1 + (Fm.enc a).length) (Fm.enc t).length (c - (1 + (Fm.enc a).length)) (by omega) (by omega) (by omega)
    rw [ht.take] at hsub
    have HH := Lib.hid h
    have HS := Lib.hid hsub
    have HA := Lib.hid ha
    have hk : (Fm.enc t).length = xs.length - (1 + (Fm.enc a).length) := by omega
    rw [hk] at HS
    have hlt : 1 + (Fm.enc a).length < xs.length := by omega
    clear h hf hsub ha ht hl hk hpos
    go_enter Tryz.func50, Tryz.ntmps50
    go_wp2_with fail
    refine (l02Part_at _ xs 1 a _ HH.out hn HA.out).mono ?_
    rintro e w1 ⟨rfl, hg1⟩
    go_wp2_with fail
    go_ret
    exact ⟨_, rfl, HS.out.grew hg1, hg1⟩

def WriteOk (t : Tree) : Prop := ∀ (l : Nat) (v : Value) (w : World), l ≤ 3 → Nodes w v (Fm.enc t) → (Fm.enc t).length ≤ 1048576 →
  Calls Tryz.prog 100 #[v, .int .i64 l] w (Says w (Fm.txt t l))

theorem enc_fls {t : Tree} (h : Fm.enc t = [(1, 0)]) : t = .fls := by
  cases t <;> simp_all [Fm.enc]
theorem enc_truth {x y : Tree} (h : Fm.enc (.imp x y) = Fm.truth) : x = .fls ∧ y = .fls := by
  have hx := Fm.enc_pos x
  have hy := Fm.enc_pos y
  have h1 : Fm.enc x ++ Fm.enc y = [(1, 0), (1, 0)] := by
    have : (4, 0) :: (Fm.enc x ++ Fm.enc y) = ((4, 0) : Nd) :: [(1, 0), (1, 0)] := h
    injection this
  have hl := congrArg List.length h1
  simp only [List.length_append, List.length_cons, List.length_nil] at hl
  have h2 : Fm.enc x = [(1, 0)] := by
    have := congrArg (List.take 1) h1
    rw [List.take_append_of_le_length hx, List.take_of_length_le (by omega)] at this
    exact this
  have h3 : Fm.enc y = [(1, 0)] := by
    rw [h2] at h1
    simpa using h1
  exact ⟨enc_fls h2, enc_fls h3⟩

theorem write_and_n (x y : Tree) (hx : WriteOk x) (hy : WriteOk y) (l : Nat) (v : Value) (w : World) (hl : l ≤ 2) (h : Nodes w v (Fm.enc (.and x y))) (hn : (Fm.enc (.and x y)).length ≤ 1048576) :
    Calls Tryz.prog 100 #[v, .int .i64 l] w (Says w (Fm.txt (.and x y) l)) := by
  have hE : Fm.txt (.and x y) l = Fm.txt x 2 ++ [38] ++ Fm.txt y 3 := by
    rw [Fm.txt, Fm.wrap, if_neg (by omega)]
  rw [hE]
  obtain ⟨b, o, c, rfl, hc, hm, k1⟩ := nodes_head h
  have hpos := Fm.enc_pos (.and x y)
  have HH := Lib.hid h
  have hg0 := Grew.refl w
  rw [show kindOf (.and x y) = 2 from rfl] at k1
  have HA := Lib.hid (at_first (xs := Fm.enc (.and x y)) (k := (2, 0)) (a := x) (rest := Fm.enc y) rfl)
  have HB := Lib.hid (at_second (xs := Fm.enc (.and x y)) (k := (2, 0)) (a := x) (b := y) rfl)
  have hlen : (Fm.enc (.and x y)).length = 1 + (Fm.enc x).length + (Fm.enc y).length := by simp [Fm.enc]; omega
  have HN := Lib.hid hlen
  have h1 := Fm.txt_len x 2
  have h2 := Fm.txt_len y 3
  have HX := Lib.hid hx
  have HY := Lib.hid hy
  have hn1 : (Fm.enc x).length ≤ 1048576 := by omega
  have hn2 : (Fm.enc y).length ≤ 1048576 := by omega
  have hpy := Fm.enc_pos y
  clear hE h hx hy hlen
  generalize Fm.enc (.and x y) = T at *
  have s1 := bs_size (Fm.txt x 2)
  have s2 := bs_size (Fm.txt y 3)
  have z1 : (bs (Fm.txt x 2)).size ≤ 4194304 := by omega
  have z2 : (bs (Fm.txt y 3)).size ≤ 4194304 := by omega
  have HE : Hid (bs (Fm.txt x 2) ++ bs [38] ++ bs (Fm.txt y 3) = bs (Fm.txt x 2 ++ [38] ++ Fm.txt y 3)) := by unfold Hid; simp only [bs_append]
  clear s1 s2 h1 h2
  generalize Fm.txt x 2 ++ [38] ++ Fm.txt y 3 = Z at *
  go_enter Tryz.func100, Tryz.ntmps100
  go_wp2_with fail
  refine (l02Left_c _ T x _ (HH.out.grew (Grew.refl w)) (by omega) HA.out).mono ?_
  rintro e w2 ⟨v2, rfl, hN2, hg2⟩
  go_wp2_with fail
  refine (HX.out 2 _ _ (by omega) hN2 hn1).mono ?_
  rintro e w3 ⟨rfl, hg3⟩
  go_wp2_with fail
  refine (l02Right_c _ T x y _ (HH.out.grew (((Grew.refl w).trans hg2).trans hg3)) (by omega) HA.out HB.out HN.out).mono ?_
  rintro e w4 ⟨v4, rfl, hN4, hg4⟩
  go_wp2_with fail
  refine (HY.out 3 _ _ (by omega) hN4 hn2).mono ?_
  rintro e w5 ⟨rfl, hg5⟩
  go_wp2_with fail
  go_ret
  exact ⟨congrArg (fun z => Ending.returned (.string z)) HE.out, ((((Grew.refl w).trans hg2).trans hg3).trans hg4).trans hg5⟩

theorem write_or_n (x y : Tree) (hx : WriteOk x) (hy : WriteOk y) (l : Nat) (v : Value) (w : World) (hl : l ≤ 1) (h : Nodes w v (Fm.enc (.or x y))) (hn : (Fm.enc (.or x y)).length ≤ 1048576) :
    Calls Tryz.prog 100 #[v, .int .i64 l] w (Says w (Fm.txt (.or x y) l)) := by
  have hE : Fm.txt (.or x y) l = Fm.txt x 1 ++ [124] ++ Fm.txt y 2 := by
    rw [Fm.txt, Fm.wrap, if_neg (by omega)]
  rw [hE]
  obtain ⟨b, o, c, rfl, hc, hm, k1⟩ := nodes_head h
  have hpos := Fm.enc_pos (.or x y)
  have HH := Lib.hid h
  have hg0 := Grew.refl w
  rw [show kindOf (.or x y) = 3 from rfl] at k1
  have HA := Lib.hid (at_first (xs := Fm.enc (.or x y)) (k := (3, 0)) (a := x) (rest := Fm.enc y) rfl)
  have HB := Lib.hid (at_second (xs := Fm.enc (.or x y)) (k := (3, 0)) (a := x) (b := y) rfl)
  have hlen : (Fm.enc (.or x y)).length = 1 + (Fm.enc x).length + (Fm.enc y).length := by simp [Fm.enc]; omega
  have HN := Lib.hid hlen
  have h1 := Fm.txt_len x 1
  have h2 := Fm.txt_len y 2
  have HX := Lib.hid hx
  have HY := Lib.hid hy
  have hn1 : (Fm.enc x).length ≤ 1048576 := by omega
  have hn2 : (Fm.enc y).length ≤ 1048576 := by omega
  have hpy := Fm.enc_pos y
  clear hE h hx hy hlen
  generalize Fm.enc (.or x y) = T at *
  have s1 := bs_size (Fm.txt x 1)
  have s2 := bs_size (Fm.txt y 2)
  have z1 : (bs (Fm.txt x 1)).size ≤ 4194304 := by omega
  have z2 : (bs (Fm.txt y 2)).size ≤ 4194304 := by omega
  have HE : Hid (bs (Fm.txt x 1) ++ bs [124] ++ bs (Fm.txt y 2) = bs (Fm.txt x 1 ++ [124] ++ Fm.txt y 2)) := by unfold Hid; simp only [bs_append]
  clear s1 s2 h1 h2
  generalize Fm.txt x 1 ++ [124] ++ Fm.txt y 2 = Z at *
  go_enter Tryz.func100, Tryz.ntmps100
  go_wp2_with fail
  refine (l02Left_c _ T x _ (HH.out.grew (Grew.refl w)) (by omega) HA.out).mono ?_
  rintro e w2 ⟨v2, rfl, hN2, hg2⟩
  go_wp2_with fail
  refine (HX.out 1 _ _ (by omega) hN2 hn1).mono ?_
  rintro e w3 ⟨rfl, hg3⟩
  go_wp2_with fail
  refine (l02Right_c _ T x y _ (HH.out.grew (((Grew.refl w).trans hg2).trans hg3)) (by omega) HA.out HB.out HN.out).mono ?_
  rintro e w4 ⟨v4, rfl, hN4, hg4⟩
  go_wp2_with fail
  refine (HY.out 2 _ _ (by omega) hN4 hn2).mono ?_
  rintro e w5 ⟨rfl, hg5⟩
  go_wp2_with fail
  go_ret
  exact ⟨congrArg (fun z => Ending.returned (.string z)) HE.out, ((((Grew.refl w).trans hg2).trans hg3).trans hg4).trans hg5⟩

theorem write_imp_n (x y : Tree) (hf : Fm.isF y = false) (hx : WriteOk x) (hy : WriteOk y) (l : Nat) (v : Value) (w : World) (hl : l ≤ 0) (h : Nodes w v (Fm.enc (.imp x y))) (hn : (Fm.enc (.imp x y)).length ≤ 1048576) :
    Calls Tryz.prog 100 #[v, .int .i64 l] w (Says w (Fm.txt (.imp x y) l)) := by
  have hE : Fm.txt (.imp x y) l = Fm.txt x 1 ++ [62] ++ Fm.txt y 0 := by
    rw [Fm.txt, if_neg (by simp [hf]), Fm.wrap, if_neg (by omega)]
  rw [hE]
  obtain ⟨b, o, c, rfl, hc, hm, k1⟩ := nodes_head h
  have hpos := Fm.enc_pos (.imp x y)
  have HH := Lib.hid h
  have hg0 := Grew.refl w
  have HQ := Lib.hid (fun v2 w h1 h2 => l02Equal_c (.slice (some ⟨b, o, none⟩) (Fm.enc (.imp x y)).length c) v2 (Fm.enc (.imp x y)) Fm.truth w h1 h2 (by omega))
  rw [decide_eq_false (fun h => by have := (enc_truth h).2; rw [this] at hf; cases hf)] at HQ
  have hky : (kindOf y == 1) = false := by rw [← isF_kind]; exact hf
  rw [show kindOf (.imp x y) = 4 from rfl] at k1
  have HA := Lib.hid (at_first (xs := Fm.enc (.imp x y)) (k := (4, 0)) (a := x) (rest := Fm.enc y) rfl)
  have HB := Lib.hid (at_second (xs := Fm.enc (.imp x y)) (k := (4, 0)) (a := x) (b := y) rfl)
  have hlen : (Fm.enc (.imp x y)).length = 1 + (Fm.enc x).length + (Fm.enc y).length := by simp [Fm.enc]; omega
  have HN := Lib.hid hlen
  have h1 := Fm.txt_len x 1
  have h2 := Fm.txt_len y 0
  have HX := Lib.hid hx
  have HY := Lib.hid hy
  have hn1 : (Fm.enc x).length ≤ 1048576 := by omega
  have hn2 : (Fm.enc y).length ≤ 1048576 := by omega
  have hpy := Fm.enc_pos y
  clear hE h hx hy hlen hf
  generalize Fm.enc (.imp x y) = T at *
  have s1 := bs_size (Fm.txt x 1)
  have s2 := bs_size (Fm.txt y 0)
  have z1 : (bs (Fm.txt x 1)).size ≤ 4194304 := by omega
  have z2 : (bs (Fm.txt y 0)).size ≤ 4194304 := by omega
  have HE : Hid (bs (Fm.txt x 1) ++ bs [62] ++ bs (Fm.txt y 0) = bs (Fm.txt x 1 ++ [62] ++ Fm.txt y 0)) := by unfold Hid; simp only [bs_append]
  clear s1 s2 h1 h2
  generalize Fm.txt x 1 ++ [62] ++ Fm.txt y 0 = Z at *
  go_enter Tryz.func100, Tryz.ntmps100
  go_wp2_with fail
  refine (l02True_c _).mono ?_
  rintro e w01 ⟨v01, rfl, ho01, hg01⟩
  go_wp2_with fail
  refine (HQ.out _ _ (HH.out.grew hg01) ho01.nodes).mono ?_
  rintro e w02 ⟨rfl, hg02⟩
  have hg2x := hg01.trans hg02
  go_wp2_with fail
  refine (l02Right_c _ T x y _ (HH.out.grew hg2x) (by omega) HA.out HB.out HN.out).mono ?_
  rintro e w03 ⟨v03, rfl, hN03, hg03⟩
  obtain ⟨b3, o3, c3, rfl, hc3, hm3, k3⟩ := nodes_head hN03
  have hg3x := hg2x.trans hg03
  have hgr3 := Grew.refl w03
  go_wp2_with fail
  clear k3
  refine (l02Left_c _ T x _ (HH.out.grew hg3x) (by omega) HA.out).mono ?_
  rintro e w2 ⟨v2, rfl, hN2, hg2⟩
  go_wp2_with fail
  refine (HX.out 1 _ _ (by omega) hN2 hn1).mono ?_
  rintro e w3 ⟨rfl, hg3⟩
  go_wp2_with fail
  refine (l02Right_c _ T x y _ (HH.out.grew ((hg3x.trans hg2).trans hg3)) (by omega) HA.out HB.out HN.out).mono ?_
  rintro e w4 ⟨v4, rfl, hN4, hg4⟩
  go_wp2_with fail
  refine (HY.out 0 _ _ (by omega) hN4 hn2).mono ?_
  rintro e w5 ⟨rfl, hg5⟩
  go_wp2_with fail
  go_ret
  exact ⟨congrArg (fun z => Ending.returned (.string z)) HE.out, (((hg3x.trans hg2).trans hg3).trans hg4).trans hg5⟩

theorem write_and_w (x y : Tree) (hx : WriteOk x) (hy : WriteOk y) (l : Nat) (v : Value) (w : World) (hl : 2 < l) (h : Nodes w v (Fm.enc (.and x y))) (hn : (Fm.enc (.and x y)).length ≤ 1048576) :
    Calls Tryz.prog 100 #[v, .int .i64 l] w (Says w (Fm.txt (.and x y) l)) := by
  have hE : Fm.txt (.and x y) l = [40] ++ (Fm.txt x 2 ++ [38] ++ Fm.txt y 3) ++ [41] := by
    rw [Fm.txt, Fm.wrap, if_pos (by omega)]
  rw [hE]
  obtain ⟨b, o, c, rfl, hc, hm, k1⟩ := nodes_head h
  have hpos := Fm.enc_pos (.and x y)
  have HH := Lib.hid h
  have hg0 := Grew.refl w
  rw [show kindOf (.and x y) = 2 from rfl] at k1
  have HA := Lib.hid (at_first (xs := Fm.enc (.and x y)) (k := (2, 0)) (a := x) (rest := Fm.enc y) rfl)
  have HB := Lib.hid (at_second (xs := Fm.enc (.and x y)) (k := (2, 0)) (a := x) (b := y) rfl)
  have hlen : (Fm.enc (.and x y)).length = 1 + (Fm.enc x).length + (Fm.enc y).length := by simp [Fm.enc]; omega
  have HN := Lib.hid hlen
  have h1 := Fm.txt_len x 2
  have h2 := Fm.txt_len y 3
  have HX := Lib.hid hx
  have HY := Lib.hid hy
  have hn1 : (Fm.enc x).length ≤ 1048576 := by omega
  have hn2 : (Fm.enc y).length ≤ 1048576 := by omega
  have hpy := Fm.enc_pos y
  clear hE h hx hy hlen
  generalize Fm.enc (.and x y) = T at *
  have s1 := bs_size (Fm.txt x 2)
  have s2 := bs_size (Fm.txt y 3)
  have z1 : (bs (Fm.txt x 2)).size ≤ 4194304 := by omega
  have z2 : (bs (Fm.txt y 3)).size ≤ 4194304 := by omega
  have HE : Hid (bs [40] ++ (bs (Fm.txt x 2) ++ bs [38] ++ bs (Fm.txt y 3)) ++ bs [41] = bs ([40] ++ (Fm.txt x 2 ++ [38] ++ Fm.txt y 3) ++ [41])) := by unfold Hid; simp only [bs_append]
  clear s1 s2 h1 h2
  generalize [40] ++ (Fm.txt x 2 ++ [38] ++ Fm.txt y 3) ++ [41] = Z at *
  go_enter Tryz.func100, Tryz.ntmps100
  go_wp2_with fail
  refine (l02Left_c _ T x _ (HH.out.grew (Grew.refl w)) (by omega) HA.out).mono ?_
  rintro e w2 ⟨v2, rfl, hN2, hg2⟩
  go_wp2_with fail
  refine (HX.out 2 _ _ (by omega) hN2 hn1).mono ?_
  rintro e w3 ⟨rfl, hg3⟩
  go_wp2_with fail
  refine (l02Right_c _ T x y _ (HH.out.grew (((Grew.refl w).trans hg2).trans hg3)) (by omega) HA.out HB.out HN.out).mono ?_
  rintro e w4 ⟨v4, rfl, hN4, hg4⟩
  go_wp2_with fail
  refine (HY.out 3 _ _ (by omega) hN4 hn2).mono ?_
  rintro e w5 ⟨rfl, hg5⟩
  go_wp2_with fail
  go_ret
  exact ⟨congrArg (fun z => Ending.returned (.string z)) HE.out, ((((Grew.refl w).trans hg2).trans hg3).trans hg4).trans hg5⟩

theorem write_or_w (x y : Tree) (hx : WriteOk x) (hy : WriteOk y) (l : Nat) (v : Value) (w : World) (hl : 1 < l) (h : Nodes w v (Fm.enc (.or x y))) (hn : (Fm.enc (.or x y)).length ≤ 1048576) :
    Calls Tryz.prog 100 #[v, .int .i64 l] w (Says w (Fm.txt (.or x y) l)) := by
  have hE : Fm.txt (.or x y) l = [40] ++ (Fm.txt x 1 ++ [124] ++ Fm.txt y 2) ++ [41] := by
    rw [Fm.txt, Fm.wrap, if_pos (by omega)]
  rw [hE]
  obtain ⟨b, o, c, rfl, hc, hm, k1⟩ := nodes_head h
  have hpos := Fm.enc_pos (.or x y)
  have HH := Lib.hid h
  have hg0 := Grew.refl w
  rw [show kindOf (.or x y) = 3 from rfl] at k1
  have HA := Lib.hid (at_first (xs := Fm.enc (.or x y)) (k := (3, 0)) (a := x) (rest := Fm.enc y) rfl)
  have HB := Lib.hid (at_second (xs := Fm.enc (.or x y)) (k := (3, 0)) (a := x) (b := y) rfl)
  have hlen : (Fm.enc (.or x y)).length = 1 + (Fm.enc x).length + (Fm.enc y).length := by simp [Fm.enc]; omega
  have HN := Lib.hid hlen
  have h1 := Fm.txt_len x 1
  have h2 := Fm.txt_len y 2
  have HX := Lib.hid hx
  have HY := Lib.hid hy
  have hn1 : (Fm.enc x).length ≤ 1048576 := by omega
  have hn2 : (Fm.enc y).length ≤ 1048576 := by omega
  have hpy := Fm.enc_pos y
  clear hE h hx hy hlen
  generalize Fm.enc (.or x y) = T at *
  have s1 := bs_size (Fm.txt x 1)
  have s2 := bs_size (Fm.txt y 2)
  have z1 : (bs (Fm.txt x 1)).size ≤ 4194304 := by omega
  have z2 : (bs (Fm.txt y 2)).size ≤ 4194304 := by omega
  have HE : Hid (bs [40] ++ (bs (Fm.txt x 1) ++ bs [124] ++ bs (Fm.txt y 2)) ++ bs [41] = bs ([40] ++ (Fm.txt x 1 ++ [124] ++ Fm.txt y 2) ++ [41])) := by unfold Hid; simp only [bs_append]
  clear s1 s2 h1 h2
  generalize [40] ++ (Fm.txt x 1 ++ [124] ++ Fm.txt y 2) ++ [41] = Z at *
  go_enter Tryz.func100, Tryz.ntmps100
  go_wp2_with fail
  refine (l02Left_c _ T x _ (HH.out.grew (Grew.refl w)) (by omega) HA.out).mono ?_
  rintro e w2 ⟨v2, rfl, hN2, hg2⟩
  go_wp2_with fail
  refine (HX.out 1 _ _ (by omega) hN2 hn1).mono ?_
  rintro e w3 ⟨rfl, hg3⟩
  go_wp2_with fail
  refine (l02Right_c _ T x y _ (HH.out.grew (((Grew.refl w).trans hg2).trans hg3)) (by omega) HA.out HB.out HN.out).mono ?_
  rintro e w4 ⟨v4, rfl, hN4, hg4⟩
  go_wp2_with fail
  refine (HY.out 2 _ _ (by omega) hN4 hn2).mono ?_
  rintro e w5 ⟨rfl, hg5⟩
  go_wp2_with fail
  go_ret
  exact ⟨congrArg (fun z => Ending.returned (.string z)) HE.out, ((((Grew.refl w).trans hg2).trans hg3).trans hg4).trans hg5⟩

theorem write_imp_w (x y : Tree) (hf : Fm.isF y = false) (hx : WriteOk x) (hy : WriteOk y) (l : Nat) (v : Value) (w : World) (hl : 0 < l) (h : Nodes w v (Fm.enc (.imp x y))) (hn : (Fm.enc (.imp x y)).length ≤ 1048576) :
    Calls Tryz.prog 100 #[v, .int .i64 l] w (Says w (Fm.txt (.imp x y) l)) := by
  have hE : Fm.txt (.imp x y) l = [40] ++ (Fm.txt x 1 ++ [62] ++ Fm.txt y 0) ++ [41] := by
    rw [Fm.txt, if_neg (by simp [hf]), Fm.wrap, if_pos (by omega)]
  rw [hE]
  obtain ⟨b, o, c, rfl, hc, hm, k1⟩ := nodes_head h
  have hpos := Fm.enc_pos (.imp x y)
  have HH := Lib.hid h
  have hg0 := Grew.refl w
  have HQ := Lib.hid (fun v2 w h1 h2 => l02Equal_c (.slice (some ⟨b, o, none⟩) (Fm.enc (.imp x y)).length c) v2 (Fm.enc (.imp x y)) Fm.truth w h1 h2 (by omega))
  rw [decide_eq_false (fun h => by have := (enc_truth h).2; rw [this] at hf; cases hf)] at HQ
  have hky : (kindOf y == 1) = false := by rw [← isF_kind]; exact hf
  rw [show kindOf (.imp x y) = 4 from rfl] at k1
  have HA := Lib.hid (at_first (xs := Fm.enc (.imp x y)) (k := (4, 0)) (a := x) (rest := Fm.enc y) rfl)
  have HB := Lib.hid (at_second (xs := Fm.enc (.imp x y)) (k := (4, 0)) (a := x) (b := y) rfl)
  have hlen : (Fm.enc (.imp x y)).length = 1 + (Fm.enc x).length + (Fm.enc y).length := by simp [Fm.enc]; omega
  have HN := Lib.hid hlen
  have h1 := Fm.txt_len x 1
  have h2 := Fm.txt_len y 0
  have HX := Lib.hid hx
  have HY := Lib.hid hy
  have hn1 : (Fm.enc x).length ≤ 1048576 := by omega
  have hn2 : (Fm.enc y).length ≤ 1048576 := by omega
  have hpy := Fm.enc_pos y
  clear hE h hx hy hlen hf
  generalize Fm.enc (.imp x y) = T at *
  have s1 := bs_size (Fm.txt x 1)
  have s2 := bs_size (Fm.txt y 0)
  have z1 : (bs (Fm.txt x 1)).size ≤ 4194304 := by omega
  have z2 : (bs (Fm.txt y 0)).size ≤ 4194304 := by omega
  have HE : Hid (bs [40] ++ (bs (Fm.txt x 1) ++ bs [62] ++ bs (Fm.txt y 0)) ++ bs [41] = bs ([40] ++ (Fm.txt x 1 ++ [62] ++ Fm.txt y 0) ++ [41])) := by unfold Hid; simp only [bs_append]
  clear s1 s2 h1 h2
  generalize [40] ++ (Fm.txt x 1 ++ [62] ++ Fm.txt y 0) ++ [41] = Z at *
  go_enter Tryz.func100, Tryz.ntmps100
  go_wp2_with fail
  refine (l02True_c _).mono ?_
  rintro e w01 ⟨v01, rfl, ho01, hg01⟩
  go_wp2_with fail
  refine (HQ.out _ _ (HH.out.grew hg01) ho01.nodes).mono ?_
  rintro e w02 ⟨rfl, hg02⟩
  have hg2x := hg01.trans hg02
  go_wp2_with fail
  refine (l02Right_c _ T x y _ (HH.out.grew hg2x) (by omega) HA.out HB.out HN.out).mono ?_
  rintro e w03 ⟨v03, rfl, hN03, hg03⟩
  obtain ⟨b3, o3, c3, rfl, hc3, hm3, k3⟩ := nodes_head hN03
  have hg3x := hg2x.trans hg03
  have hgr3 := Grew.refl w03
  go_wp2_with fail
  clear k3
  refine (l02Left_c _ T x _ (HH.out.grew hg3x) (by omega) HA.out).mono ?_
  rintro e w2 ⟨v2, rfl, hN2, hg2⟩
  go_wp2_with fail
  refine (HX.out 1 _ _ (by omega) hN2 hn1).mono ?_
  rintro e w3 ⟨rfl, hg3⟩
  go_wp2_with fail
  refine (l02Right_c _ T x y _ (HH.out.grew ((hg3x.trans hg2).trans hg3)) (by omega) HA.out HB.out HN.out).mono ?_
  rintro e w4 ⟨v4, rfl, hN4, hg4⟩
  go_wp2_with fail
  refine (HY.out 0 _ _ (by omega) hN4 hn2).mono ?_
  rintro e w5 ⟨rfl, hg5⟩
  go_wp2_with fail
  go_ret
  exact ⟨congrArg (fun z => Ending.returned (.string z)) HE.out, (((hg3x.trans hg2).trans hg3).trans hg4).trans hg5⟩

theorem write_box (x : Tree) (hx : WriteOk x) : WriteOk (.box x) := by
  intro l v w hl h hn
  have hE : Fm.txt (.box x) l = [91, 93] ++ Fm.txt x 3 := rfl
  rw [hE]
  obtain ⟨b, o, c, rfl, hc, hm, k1⟩ := nodes_head h
  have hpos := Fm.enc_pos (.box x)
  have HH := Lib.hid h
  have hg0 := Grew.refl w
  rw [show kindOf (.box x) = 5 from rfl] at k1
  have ha := at_first (xs := Fm.enc (.box x)) (k := (5, 0)) (a := x) (rest := []) (by simp [Fm.enc])
  have hlen : (Fm.enc (.box x)).length = 1 + (Fm.enc x).length := by simp [Fm.enc]; omega
  have hsub := h.sub 1 (Fm.enc x).length (c - 1) (by omega) (by omega) (by omega)
  rw [ha.take] at hsub
  have HS := Lib.hid hsub
  have hpx := Fm.enc_pos x
  rw [show (Fm.enc x).length = (Fm.enc (.box x)).length - 1 by omega] at HS
  have h1 := Fm.txt_len x 3
  have HX := Lib.hid hx
  have hn1 : (Fm.enc x).length ≤ 1048576 := by omega
  have hc1 : 1 < (Fm.enc (.box x)).length := by omega
  clear hE h hx hlen ha hsub
  generalize Fm.enc (.box x) = T at *
  have s1 := bs_size (Fm.txt x 3)
  have z1 : (bs (Fm.txt x 3)).size ≤ 4194304 := by omega
  have HE : Hid (bs [91, 93] ++ bs (Fm.txt x 3) = bs ([91, 93] ++ Fm.txt x 3)) := by unfold Hid; rw [bs_append]
  clear s1 h1
  generalize [91, 93] ++ Fm.txt x 3 = Z at *
  go_enter Tryz.func100, Tryz.ntmps100
  go_wp2_with fail
  refine (HX.out 3 _ _ (by omega) HS.out hn1).mono ?_
  rintro e w3 ⟨rfl, hg3⟩
  go_wp2_with fail
  go_ret
  exact ⟨congrArg (fun z => Ending.returned (.string z)) HE.out, hg3⟩

theorem write_dia (x : Tree) (hx : WriteOk x) : WriteOk (.dia x) := by
  intro l v w hl h hn
  have hE : Fm.txt (.dia x) l = [60, 62] ++ Fm.txt x 3 := rfl
  rw [hE]
  obtain ⟨b, o, c, rfl, hc, hm, k1⟩ := nodes_head h
  have hpos := Fm.enc_pos (.dia x)
  have HH := Lib.hid h
  have hg0 := Grew.refl w
  rw [show kindOf (.dia x) = 6 from rfl] at k1
  have ha := at_first (xs := Fm.enc (.dia x)) (k := (6, 0)) (a := x) (rest := []) (by simp [Fm.enc])
  have hlen : (Fm.enc (.dia x)).length = 1 + (Fm.enc x).length := by simp [Fm.enc]; omega
  have hsub := h.sub 1 (Fm.enc x).length (c - 1) (by omega) (by omega) (by omega)
  rw [ha.take] at hsub
  have HS := Lib.hid hsub
  have hpx := Fm.enc_pos x
  rw [show (Fm.enc x).length = (Fm.enc (.dia x)).length - 1 by omega] at HS
  have h1 := Fm.txt_len x 3
  have HX := Lib.hid hx
  have hn1 : (Fm.enc x).length ≤ 1048576 := by omega
  have hc1 : 1 < (Fm.enc (.dia x)).length := by omega
  clear hE h hx hlen ha hsub
  generalize Fm.enc (.dia x) = T at *
  have s1 := bs_size (Fm.txt x 3)
  have z1 : (bs (Fm.txt x 3)).size ≤ 4194304 := by omega
  have HE : Hid (bs [60, 62] ++ bs (Fm.txt x 3) = bs ([60, 62] ++ Fm.txt x 3)) := by unfold Hid; rw [bs_append]
  clear s1 h1
  generalize [60, 62] ++ Fm.txt x 3 = Z at *
  go_enter Tryz.func100, Tryz.ntmps100
  go_wp2_with fail
  refine (HX.out 3 _ _ (by omega) HS.out hn1).mono ?_
  rintro e w3 ⟨rfl, hg3⟩
  go_wp2_with fail
  go_ret
  exact ⟨congrArg (fun z => Ending.returned (.string z)) HE.out, hg3⟩

theorem write_tru (x : Tree) (hf : Fm.isF x = true) : WriteOk (.imp x .fls) := by
  intro l v w hl h hn
  have hE : Fm.txt (.imp x .fls) l = [84] := by
    rw [Fm.txt, if_pos (show Fm.isF .fls = true from rfl), if_pos hf]
  rw [hE]
  obtain ⟨b, o, c, rfl, hc, hm, k1⟩ := nodes_head h
  have hpos := Fm.enc_pos (.imp x .fls)
  have HH := Lib.hid h
  have hg0 := Grew.refl w
  have HQ := Lib.hid (fun v2 w h1 h2 => l02Equal_c (.slice (some ⟨b, o, none⟩) (Fm.enc (.imp x .fls)).length c) v2 (Fm.enc (.imp x .fls)) Fm.truth w h1 h2 (by omega))
  rw [decide_eq_true (by rw [Fm.isF_eq hf]; rfl)] at HQ
  rw [show kindOf (.imp x .fls) = 4 from rfl] at k1
  have HA := Lib.hid (at_first (xs := Fm.enc (.imp x .fls)) (k := (4, 0)) (a := x) (rest := Fm.enc .fls) rfl)
  have HB := Lib.hid (at_second (xs := Fm.enc (.imp x .fls)) (k := (4, 0)) (a := x) (b := .fls) rfl)
  have hlen : (Fm.enc (.imp x .fls)).length = 1 + (Fm.enc x).length + (Fm.enc .fls).length := by simp [Fm.enc]; omega
  have HN := Lib.hid hlen
  have hn1 : (Fm.enc x).length ≤ 1048576 := by omega
  clear hE h hlen hf
  generalize Fm.enc (.imp x .fls) = T at *
  go_enter Tryz.func100, Tryz.ntmps100
  go_wp2_with fail
  refine (l02True_c _).mono ?_
  rintro e w01 ⟨v01, rfl, ho01, hg01⟩
  go_wp2_with fail
  refine (HQ.out _ _ (HH.out.grew hg01) ho01.nodes).mono ?_
  rintro e w02 ⟨rfl, hg02⟩
  have hg2x := hg01.trans hg02
  go_wp2_with fail
  go_ret
  exact ⟨rfl, hg2x⟩

theorem write_not (x : Tree) (hf : Fm.isF x = false) (hx : WriteOk x) : WriteOk (.imp x .fls) := by
  intro l v w hl h hn
  have hE : Fm.txt (.imp x .fls) l = [126] ++ Fm.txt x 3 := by
    rw [Fm.txt, if_pos (show Fm.isF .fls = true from rfl), if_neg (by simp [hf])]
  rw [hE]
  obtain ⟨b, o, c, rfl, hc, hm, k1⟩ := nodes_head h
  have hpos := Fm.enc_pos (.imp x .fls)
  have HH := Lib.hid h
  have hg0 := Grew.refl w
  have HQ := Lib.hid (fun v2 w h1 h2 => l02Equal_c (.slice (some ⟨b, o, none⟩) (Fm.enc (.imp x .fls)).length c) v2 (Fm.enc (.imp x .fls)) Fm.truth w h1 h2 (by omega))
  rw [decide_eq_false (fun h => by have := (enc_truth h).1; rw [this] at hf; cases hf)] at HQ
  rw [show kindOf (.imp x .fls) = 4 from rfl] at k1
  have HA := Lib.hid (at_first (xs := Fm.enc (.imp x .fls)) (k := (4, 0)) (a := x) (rest := Fm.enc .fls) rfl)
  have HB := Lib.hid (at_second (xs := Fm.enc (.imp x .fls)) (k := (4, 0)) (a := x) (b := .fls) rfl)
  have hlen : (Fm.enc (.imp x .fls)).length = 1 + (Fm.enc x).length + (Fm.enc .fls).length := by simp [Fm.enc]; omega
  have HN := Lib.hid hlen
  have hn1 : (Fm.enc x).length ≤ 1048576 := by omega
  have h1 := Fm.txt_len x 3
  have HX := Lib.hid hx
  have s1 := bs_size (Fm.txt x 3)
  have z1 : (bs (Fm.txt x 3)).size ≤ 4194304 := by omega
  have HE : Hid (bs [126] ++ bs (Fm.txt x 3) = bs ([126] ++ Fm.txt x 3)) := by unfold Hid; rw [bs_append]
  clear s1 h1 hx
  generalize [126] ++ Fm.txt x 3 = Z at *
  clear hE h hlen hf
  generalize Fm.enc (.imp x .fls) = T at *
  go_enter Tryz.func100, Tryz.ntmps100
  go_wp2_with fail
  refine (l02True_c _).mono ?_
  rintro e w01 ⟨v01, rfl, ho01, hg01⟩
  go_wp2_with fail
  refine (HQ.out _ _ (HH.out.grew hg01) ho01.nodes).mono ?_
  rintro e w02 ⟨rfl, hg02⟩
  have hg2x := hg01.trans hg02
  go_wp2_with fail
  refine (l02Right_c _ T x .fls _ (HH.out.grew hg2x) (by omega) HA.out HB.out HN.out).mono ?_
  rintro e w03 ⟨v03, rfl, hN03, hg03⟩
  obtain ⟨b3, o3, c3, rfl, hc3, hm3, k3⟩ := nodes_head hN03
  rw [show kindOf .fls = 1 from rfl] at k3
  have hp3 := Fm.enc_pos .fls
  have hg3x := hg2x.trans hg03
  have hgr3 := Grew.refl w03
  go_wp2_with fail
  clear k3
  refine (l02Left_c _ T x _ (HH.out.grew hg3x) (by omega) HA.out).mono ?_
  rintro e w4 ⟨v4, rfl, hN4, hg4⟩
  go_wp2_with fail
  refine (HX.out 3 _ _ (by omega) hN4 hn1).mono ?_
  rintro e w5 ⟨rfl, hg5⟩
  go_wp2_with fail
  go_ret
  exact ⟨congrArg (fun z => Ending.returned (.string z)) HE.out, (hg3x.trans hg4).trans hg5⟩

theorem write_fls : WriteOk .fls := by
  intro l v w hl h hn
  have hE : Fm.txt .fls l = [70] := rfl
  rw [hE]
  obtain ⟨b, o, c, rfl, hc, hm, k1⟩ := nodes_head h
  have hpos := Fm.enc_pos (.fls)
  have HH := Lib.hid h
  have hg0 := Grew.refl w
  rw [show kindOf .fls = 1 from rfl] at k1
  clear hE h
  generalize Fm.enc .fls = T at *
  go_enter Tryz.func100, Tryz.ntmps100
  go_wp2_with fail
  go_ret
  exact ⟨rfl, hg0⟩

theorem write_var (n : Fin 6) : WriteOk (.var n) := by
  intro l v w hl h hn
  have hE : Fm.txt (.var n) l = [UInt8.ofNat (112 + n.val)] := rfl
  rw [hE]
  have k2 : ∃ b o c, v = .slice (some ⟨b, o, none⟩) (Fm.enc (.var n)).length c ∧ ∀ W, Grew w W → W.cell? ⟨b, o + 1, none⟩ = some (.int .i64 (n.val : Int)) := by
    rcases h.open_ with ⟨_, h0⟩ | ⟨b, o, c, hv, _, _, _, hf⟩
    · simp [Fm.enc] at h0
    · refine ⟨b, o, c, hv, fun W hW => ?_⟩
      have := (hf 0 (by simp [Fm.enc]) W hW).2
      rw [show sy (Fm.enc (.var n)) 0 = (n.val : Int) from rfl] at this
      simpa using this
  obtain ⟨b, o, c, rfl, hc, hm, k1⟩ := nodes_head h
  have hpos := Fm.enc_pos (.var n)
  have HH := Lib.hid h
  have hg0 := Grew.refl w
  obtain ⟨b', o', c', hv', k2⟩ := k2
  simp only [Value.slice.injEq, Option.some.injEq, Addr.mk.injEq, and_true, true_and] at hv'
  obtain ⟨⟨rfl, rfl⟩, rfl⟩ := hv'
  rw [show kindOf (.var n) = 0 from rfl] at k1
  have hn6 := n.isLt
  clear hE h
  generalize Fm.enc (.var n) = T at *
  generalize n.val = q at *
  go_enter Tryz.func100, Tryz.ntmps100
  go_wp2_with fail
  go_quiet (fail)
  go_wp2_with fail
  go_ret
  exact ⟨congrArg (fun z => Ending.returned (.string z)) (letter_cut hn6), hg0.drewN _⟩

theorem write_ok (t : Tree) : WriteOk t := by
  induction t with
  | var n => exact write_var n
  | fls => exact write_fls
  | and x y hx hy =>
    intro l v w hl h hn
    rcases Nat.lt_or_ge 2 l with hw | hw
    · exact write_and_w x y hx hy l v w hw h hn
    · exact write_and_n x y hx hy l v w hw h hn
  | or x y hx hy =>
    intro l v w hl h hn
    rcases Nat.lt_or_ge 1 l with hw | hw
    · exact write_or_w x y hx hy l v w hw h hn
    · exact write_or_n x y hx hy l v w hw h hn
  | imp x y hx hy =>
    cases hf : Fm.isF y with
    | true =>
      obtain rfl := Fm.isF_eq hf
      cases hg : Fm.isF x with
      | true => exact write_tru x hg
      | false => exact write_not x hg hx
    | false =>
      intro l v w hl h hn
      rcases Nat.lt_or_ge 0 l with hw | hw
      · exact write_imp_w x y hf hx hy l v w hw h hn
      · exact write_imp_n x y hf hx hy l v w hw h hn
  | box x hx => exact write_box x hx
  | dia x hx => exact write_dia x hx

theorem l02Text_c (t : Tree) (v : Value) (w : World) (h : Nodes w v (Fm.enc t)) (hn : (Fm.enc t).length ≤ 1048576) :
    Calls Tryz.prog 69 #[v] w (Says w (Fm.txt t 0)) := by
  have HT := Lib.hid (write_ok t 0 v w (by omega) h hn)
  go_enter Tryz.func69, Tryz.ntmps69
  go_wp2_with fail
  refine HT.out.mono ?_
  rintro e w1 ⟨rfl, hg1⟩
  go_wp2_with fail
  go_ret
  exact ⟨rfl, hg1⟩
end Go.Proofs.YtoogcooggdahnaaGreat

/- A text that reads to a tree whose text it is. -/
namespace Go.Proofs.YtoogcooggdahnaaGreat
open Go.RowKit
open Fm (Nd)

/-- The text is the text of a formula. -/
def IsGood (s : ByteArray) : Prop := ∃ t, Fm.pf s = (Fm.enc t, 0, 0) ∧ bs (Fm.txt t 0) = s
noncomputable def gd (s : ByteArray) : Bool := @decide (IsGood s) (Classical.propDecidable _)
theorem gd_true {s : ByteArray} (h : IsGood s) : gd s = true := by
  unfold gd
  exact @decide_eq_true _ (Classical.propDecidable _) h
theorem gd_false {s : ByteArray} (h : ¬ IsGood s) : gd s = false := by
  unfold gd
  exact @decide_eq_false _ (Classical.propDecidable _) h

theorem pf_cases (s : ByteArray) : (∃ t, Fm.pf s = (Fm.enc t, 0, 0)) ∨ ∃ p c, Fm.pf s = ([], p, c) ∧ (c == 0) = false := by
  unfold Fm.pf
  split
  · exact .inr ⟨_, _, rfl, by decide⟩
  · split
    · exact .inr ⟨_, _, rfl, by decide⟩
    · split
      · exact .inr ⟨_, _, rfl, by decide⟩
      · obtain ⟨t, ht⟩ := Fm.parse_enc s.data.toList Fm.fuel
        refine .inl ⟨t, ?_⟩
        rw [← ht]
        rfl
theorem gd_bad {s : ByteArray} {p : Nat} {c : Int} (h : Fm.pf s = ([], p, c)) (hc : (c == 0) = false) : gd s = false := by
  apply gd_false
  rintro ⟨t, ht, _⟩
  rw [h] at ht
  simp only [Prod.mk.injEq] at ht
  rw [ht.2.2] at hc
  cases hc
theorem gd_tree {s : ByteArray} {t : Fm.Tree} (h : Fm.pf s = (Fm.enc t, 0, 0)) : gd s = ((bs (Fm.txt t 0)).toList == s.toList) := by
  have e : ((bs (Fm.txt t 0)).toList == s.toList) = true ↔ bs (Fm.txt t 0) = s := by
    exact Lib.bytes_beq_iff _ _
  cases hb : ((bs (Fm.txt t 0)).toList == s.toList) with
  | true => exact gd_true ⟨t, h, e.1 hb⟩
  | false =>
    apply gd_false
    rintro ⟨u, hu, hs⟩
    rw [h] at hu
    simp only [Prod.mk.injEq, and_true] at hu
    have := enc_inj hu
    subst this
    rw [e.2 hs] at hb
    cases hb

/-- What the reference's test of a text gives. -/
def GivesG (w : World) (s : ByteArray) (e : Ending) (w' : World) : Prop := ∃ v, e = .returned (.tuple #[v, .bool (gd s)]) ∧ Own w' w.heap.size v (Fm.pf s).1 ∧ Grew w w'

theorem l02Good_c (s : ByteArray) (w : World) (hs : s.size ≤ 140737488355328) :
    Calls Tryz.prog 46 #[.string s] w (GivesG w s) := by
  have HP := fun w => specParse_c s w hs
  unfold GivesG
  rcases pf_cases s with ⟨t, ht⟩ | ⟨p, c, hp, hc⟩
  · have hn := Fm.pf_len s
    rw [gd_tree ht]
    rw [ht] at HP hn ⊢
    simp only at HP hn ⊢
    replace HP := Lib.hid HP
    have HT := Lib.hid (fun v w h => l02Text_c t v w h (by omega))
    clear ht
    generalize Fm.enc t = xs at *
    go_enter Tryz.func46, Tryz.ntmps46
    go_wp2_with fail
    refine (HP.out _).mono ?_
    rintro e w1 ⟨v1, rfl, ho1, hg1, _⟩
    go_wp2_with fail
    refine (HT.out _ _ ho1.nodes).mono ?_
    rintro e w2 ⟨rfl, hg2⟩
    go_wp2_with fail
    go_ret2
    exact ⟨_, rfl, ho1.grew hg2, hg1.trans hg2⟩
  · rw [gd_bad hp hc]
    rw [hp] at HP ⊢
    replace HP := Lib.hid HP
    clear hp
    go_enter Tryz.func46, Tryz.ntmps46
    go_wp2_with fail
    refine (HP.out _).mono ?_
    rintro e w1 ⟨v1, rfl, ho1, hg1, _⟩
    go_wp2_with fail
    go_ret2
    exact ⟨.slice none 0 0, rfl, Own.nil_ _ _, hg1⟩
end Go.Proofs.YtoogcooggdahnaaGreat

/- The parts of a formula, as the program's text needs them. -/
namespace Go.Proofs.YtoogcooggdahnaaGreat
open Go.RowKit
open Fm (Nd Tree)

theorem first_c (v : Value) (xs : List Nd) (t : Tree) (w : World) (h : Nodes w v xs) (hn : xs.length ≤ 1099511627776) (ht : At xs 1 t) :
    Calls Tryz.prog 113 #[v] w (Cuts w (Fm.enc t)) := by
  have HT := Lib.hid ht
  clear ht
  go_enter Tryz.func113, Tryz.ntmps113
  go_wp2_with fail
  refine (part_c _ xs 1 t _ h hn HT.out).mono ?_
  rintro e w1 ⟨v1, rfl, hN1, hg1⟩
  go_wp2_with fail
  go_ret
  exact ⟨_, rfl, hN1, hg1⟩

theorem second_c (v : Value) (xs : List Nd) (a t : Tree) (w : World) (h : Nodes w v xs) (hn : xs.length ≤ 1099511627776) (ha : At xs 1 a) (ht : At xs (1 + (Fm.enc a).length) t) :
    Calls Tryz.prog 114 #[v] w (Cuts w (Fm.enc t)) := by
  have HA := Lib.hid ha
  have HT := Lib.hid ht
  clear ha ht
  go_enter Tryz.func114, Tryz.ntmps114
  go_wp2_with fail
  refine (partEnd_at _ xs 1 a _ h hn HA.out).mono ?_
  rintro e w1 ⟨rfl, hg1⟩
  go_wp2_with fail
  refine (part_c _ xs (1 + (Fm.enc a).length) t _ (h.grew hg1) hn HT.out).mono ?_
  rintro e w2 ⟨v2, rfl, hN2, hg2⟩
  go_wp2_with fail
  go_ret
  exact ⟨_, rfl, hN2, hg1.trans hg2⟩

theorem isFalsum_c (v : Value) (t : Tree) (w : World) (h : Nodes w v (Fm.enc t)) :
    Calls Tryz.prog 116 #[v] w fun e w' => e = .returned (.bool (Fm.isF t)) ∧ Grew w w' := by
  have hpos := Fm.enc_pos t
  rcases h.open_ with ⟨rfl, h0⟩ | ⟨b, o, c, rfl, hc, hm, hb, hf⟩
  · rw [h0] at hpos; simp at hpos
  · have k1 := (hf 0 (by omega) w (Grew.refl _)).1
    rw [kd_enc] at k1
    rw [isF_kind]
    simp only [Nat.zero_mul, Nat.add_zero] at k1
    clear hf h
    go_enter Tryz.func116, Tryz.ntmps116
    go_wp2_with fail
    go_ret
    exact ⟨rfl, Grew.refl _⟩

theorem isNegation_c (v : Value) (t : Tree) (w : World) (h : Nodes w v (Fm.enc t)) (hn : (Fm.enc t).length ≤ 1099511627776) :
    Calls Tryz.prog 115 #[v] w fun e w' => e = .returned (.bool (isNeg t)) ∧ Grew w w' := by
  have hpos := Fm.enc_pos t
  rcases h.open_ with ⟨rfl, h0⟩ | ⟨b, o, c, rfl, hc, hm, hb, hf⟩
  · rw [h0] at hpos; simp at hpos
  · have k1 := (hf 0 (by omega) w (Grew.refl _)).1
    rw [kd_enc] at k1
    simp only [Nat.zero_mul, Nat.add_zero] at k1
    clear hf
    by_cases hk : kindOf t = 4
    · obtain ⟨x, y, rfl⟩ : ∃ x y, t = .imp x y := by cases t <;> simp_all [kindOf]
      have ha := at_first (xs := Fm.enc (.imp x y)) (k := (4, 0)) (a := x) (rest := Fm.enc y) rfl
      have hb2 := at_second (xs := Fm.enc (.imp x y)) (k := (4, 0)) (a := x) (b := y) rfl
      have HA := Lib.hid ha
      have HB := Lib.hid hb2
      have HH := Lib.hid h
      have hE : isNeg (.imp x y) = Fm.isF y := rfl
      rw [hE]
      rw [hk] at k1
      clear ha hb2 h hE hk
      generalize Fm.enc (.imp x y) = T at *
      go_enter Tryz.func115, Tryz.ntmps115
      go_wp2_with fail
      refine (second_c _ T x y _ HH.out hn HA.out HB.out).mono ?_
      rintro e w1 ⟨v1, rfl, hN1, hg1⟩
      go_wp2_with fail
      refine (isFalsum_c _ y _ hN1).mono ?_
      rintro e w2 ⟨rfl, hg2⟩
      go_wp2_with fail
      go_ret
      exact ⟨by simp, hg1.trans hg2⟩
    · have hE : isNeg t = false := by cases t <;> simp_all [isNeg, kindOf]
      rw [hE]
      have hk' : (kindOf t == 4) = false := by simpa using hk
      clear hE hk h
      generalize kindOf t = K at *
      go_enter Tryz.func115, Tryz.ntmps115
      go_wp2_with fail
      go_ret
      exact ⟨rfl, Grew.refl _⟩

theorem levelOf_c (v : Value) (t : Tree) (w : World) (h : Nodes w v (Fm.enc t)) (hn : (Fm.enc t).length ≤ 1099511627776) :
    Calls Tryz.prog 112 #[v] w fun e w' => e = .returned (.int .i64 (Fm.own t)) ∧ Grew w w' := by
  have hpos := Fm.enc_pos t
  rcases h.open_ with ⟨rfl, h0⟩ | ⟨b, o, c, rfl, hc, hm, hb, hf⟩
  · rw [h0] at hpos; simp at hpos
  · have k1 := fun W hW => (hf 0 (by omega) W hW).1
    rw [kd_enc] at k1
    simp only [Nat.zero_mul, Nat.add_zero] at k1
    have HN := Lib.hid (fun w h => isNegation_c (.slice (some ⟨b, o, none⟩) (Fm.enc t).length c) t w h hn)
    have HH := Lib.hid h
    have hg0 := Grew.refl w
    clear hf h
    by_cases hk : kindOf t = 4
    · rw [hk] at k1
      cases hng : isNeg t with
      | true =>
        have hE : Fm.own t = 3 := by cases t <;> simp_all [isNeg, kindOf, Fm.own]
        rw [hE]
        rw [hng] at HN
        clear hE hk hng
        go_enter Tryz.func112, Tryz.ntmps112
        go_wp2_with fail
        refine (HN.out _ HH.out).mono ?_
        rintro e w1 ⟨rfl, hg1⟩
        go_wp2_with fail
        go_ret
        exact ⟨rfl, hg1⟩
      | false =>
        have hE : Fm.own t = 0 := by cases t <;> simp_all [isNeg, kindOf, Fm.own]
        rw [hE]
        rw [hng] at HN
        clear hE hk hng
        go_enter Tryz.func112, Tryz.ntmps112
        go_wp2_with fail
        refine (HN.out _ HH.out).mono ?_
        rintro e w1 ⟨rfl, hg1⟩
        go_wp2_with fail
        go_ret
        exact ⟨rfl, hg1⟩
    · have hk4 : (kindOf t == 4) = false := by simpa using hk
      by_cases hk3 : kindOf t = 3
      · have hE : Fm.own t = 1 := by cases t <;> simp_all [kindOf, Fm.own]
        rw [hE]
        rw [hk3] at k1
        clear hE hk hk4 hk3
        go_enter Tryz.func112, Tryz.ntmps112
        go_wp2_with fail
        go_ret
        exact ⟨rfl, Grew.refl _⟩
      by_cases hk2 : kindOf t = 2
      · have hE : Fm.own t = 2 := by cases t <;> simp_all [kindOf, Fm.own]
        rw [hE]
        rw [hk2] at k1
        clear hE hk hk4 hk3 hk2
        go_enter Tryz.func112, Tryz.ntmps112
        go_wp2_with fail
        go_ret
        exact ⟨rfl, Grew.refl _⟩
      · have hE : Fm.own t = 3 := by cases t <;> simp_all [kindOf, Fm.own]
        rw [hE]
        have hk3' : (kindOf t == 3) = false := by simpa using hk3
        have hk2' : (kindOf t == 2) = false := by simpa using hk2
        clear hE hk hk3 hk2 HN HH
        generalize kindOf t = K at *
        go_enter Tryz.func112, Tryz.ntmps112
        go_wp2_with fail
        go_ret
        exact ⟨rfl, Grew.refl _⟩
end Go.Proofs.YtoogcooggdahnaaGreat

/- The text of a formula: the program's textAt. -/
namespace Go.Proofs.YtoogcooggdahnaaGreat
open Go.RowKit
open Fm (Nd Tree)

def TextOk (t : Tree) : Prop := ∀ (l : Nat) (v : Value) (w : World), l ≤ 3 → Nodes w v (Fm.enc t) → (Fm.enc t).length ≤ 1048576 →
  Calls Tryz.prog 104 #[v, .int .i64 l] w (Says w (Fm.txt t l))
/-- The same where no brackets are needed. -/
def BodyOk (t : Tree) : Prop := ∀ (l : Nat) (v : Value) (w : World), l ≤ Fm.own t → Nodes w v (Fm.enc t) → (Fm.enc t).length ≤ 1048576 →
  Calls Tryz.prog 104 #[v, .int .i64 l] w (Says w (Fm.txt t l))

theorem body_and (x y : Tree) (hx : TextOk x) (hy : TextOk y) : BodyOk (.and x y) := by
  intro l v w hl h hn
  have hown : Fm.own (.and x y) = 2 := by rfl
  have hE : Fm.txt (.and x y) l = Fm.txt x 2 ++ [38] ++ Fm.txt y 3 := by
    rw [Fm.txt, Fm.wrap, if_neg (by omega)]
  rw [hE]
  rw [hown] at hl
  obtain ⟨b, o, c, rfl, hc, hm, k1⟩ := nodes_head h
  have hpos := Fm.enc_pos (.and x y)
  have HL := Lib.hid (levelOf_c _ _ w h (by omega))
  have HH := Lib.hid h
  have hg0 := Grew.refl w
  rw [hown] at HL
  rw [show kindOf (.and x y) = 2 from rfl] at k1
  have HA := Lib.hid (at_first (xs := Fm.enc (.and x y)) (k := (2, 0)) (a := x) (rest := Fm.enc y) rfl)
  have HB := Lib.hid (at_second (xs := Fm.enc (.and x y)) (k := (2, 0)) (a := x) (b := y) rfl)
  have hlen : (Fm.enc (.and x y)).length = 1 + ((Fm.enc x).length + (Fm.enc y).length) := by simp [Fm.enc]; omega
  have h1 := Fm.txt_len x 2
  have h2 := Fm.txt_len y 3
  have HX := Lib.hid hx
  have HY := Lib.hid hy
  have hn1 : (Fm.enc x).length ≤ 1048576 := by omega
  have hn2 : (Fm.enc y).length ≤ 1048576 := by omega
  clear hE h hx hy hlen hown
  generalize Fm.enc (.and x y) = T at *
  have s1 := bs_size (Fm.txt x 2)
  have s2 := bs_size (Fm.txt y 3)
  have z1 : (bs (Fm.txt x 2)).size ≤ 4194304 := by omega
  have z2 : (bs (Fm.txt y 3)).size ≤ 4194304 := by omega
  have HE : Hid (bs (Fm.txt x 2) ++ bs [38] ++ bs (Fm.txt y 3) = bs (Fm.txt x 2 ++ [38] ++ Fm.txt y 3)) := by unfold Hid; rw [bs_append, bs_append]
  clear s1 s2 h1 h2
  generalize Fm.txt x 2 ++ [38] ++ Fm.txt y 3 = Z at *
  go_enter Tryz.func104, Tryz.ntmps104
  go_wp2_with fail
  refine HL.out.mono ?_
  rintro e w1 ⟨rfl, hg1⟩
  go_wp2_with fail
  refine (first_c _ T x _ (HH.out.grew hg1) (by omega) HA.out).mono ?_
  rintro e w2 ⟨v2, rfl, hN2, hg2⟩
  go_wp2_with fail
  refine (HX.out 2 _ _ (by omega) hN2 hn1).mono ?_
  rintro e w3 ⟨rfl, hg3⟩
  go_wp2_with fail
  refine (second_c _ T x y _ (HH.out.grew ((hg1.trans hg2).trans hg3)) (by omega) HA.out HB.out).mono ?_
  rintro e w4 ⟨v4, rfl, hN4, hg4⟩
  go_wp2_with fail
  refine (HY.out 3 _ _ (by omega) hN4 hn2).mono ?_
  rintro e w5 ⟨rfl, hg5⟩
  go_wp2_with fail
  go_ret
  exact ⟨congrArg (fun z => Ending.returned (.string z)) HE.out, (((hg1.trans hg2).trans hg3).trans hg4).trans hg5⟩

theorem body_or (x y : Tree) (hx : TextOk x) (hy : TextOk y) : BodyOk (.or x y) := by
  intro l v w hl h hn
  have hown : Fm.own (.or x y) = 1 := by rfl
  have hE : Fm.txt (.or x y) l = Fm.txt x 1 ++ [124] ++ Fm.txt y 2 := by
    rw [Fm.txt, Fm.wrap, if_neg (by omega)]
  rw [hE]
  rw [hown] at hl
  obtain ⟨b, o, c, rfl, hc, hm, k1⟩ := nodes_head h
  have hpos := Fm.enc_pos (.or x y)
  have HL := Lib.hid (levelOf_c _ _ w h (by omega))
  have HH := Lib.hid h
  have hg0 := Grew.refl w
  rw [hown] at HL
  rw [show kindOf (.or x y) = 3 from rfl] at k1
  have HA := Lib.hid (at_first (xs := Fm.enc (.or x y)) (k := (3, 0)) (a := x) (rest := Fm.enc y) rfl)
  have HB := Lib.hid (at_second (xs := Fm.enc (.or x y)) (k := (3, 0)) (a := x) (b := y) rfl)
  have hlen : (Fm.enc (.or x y)).length = 1 + ((Fm.enc x).length + (Fm.enc y).length) := by simp [Fm.enc]; omega
  have h1 := Fm.txt_len x 1
  have h2 := Fm.txt_len y 2
  have HX := Lib.hid hx
  have HY := Lib.hid hy
  have hn1 : (Fm.enc x).length ≤ 1048576 := by omega
  have hn2 : (Fm.enc y).length ≤ 1048576 := by omega
  clear hE h hx hy hlen hown
  generalize Fm.enc (.or x y) = T at *
  have s1 := bs_size (Fm.txt x 1)
  have s2 := bs_size (Fm.txt y 2)
  have z1 : (bs (Fm.txt x 1)).size ≤ 4194304 := by omega
  have z2 : (bs (Fm.txt y 2)).size ≤ 4194304 := by omega
  have HE : Hid (bs (Fm.txt x 1) ++ bs [124] ++ bs (Fm.txt y 2) = bs (Fm.txt x 1 ++ [124] ++ Fm.txt y 2)) := by unfold Hid; rw [bs_append, bs_append]
  clear s1 s2 h1 h2
  generalize Fm.txt x 1 ++ [124] ++ Fm.txt y 2 = Z at *
  go_enter Tryz.func104, Tryz.ntmps104
  go_wp2_with fail
  refine HL.out.mono ?_
  rintro e w1 ⟨rfl, hg1⟩
  go_wp2_with fail
  refine (first_c _ T x _ (HH.out.grew hg1) (by omega) HA.out).mono ?_
  rintro e w2 ⟨v2, rfl, hN2, hg2⟩
  go_wp2_with fail
  refine (HX.out 1 _ _ (by omega) hN2 hn1).mono ?_
  rintro e w3 ⟨rfl, hg3⟩
  go_wp2_with fail
  refine (second_c _ T x y _ (HH.out.grew ((hg1.trans hg2).trans hg3)) (by omega) HA.out HB.out).mono ?_
  rintro e w4 ⟨v4, rfl, hN4, hg4⟩
  go_wp2_with fail
  refine (HY.out 2 _ _ (by omega) hN4 hn2).mono ?_
  rintro e w5 ⟨rfl, hg5⟩
  go_wp2_with fail
  go_ret
  exact ⟨congrArg (fun z => Ending.returned (.string z)) HE.out, (((hg1.trans hg2).trans hg3).trans hg4).trans hg5⟩

theorem body_imp (x y : Tree) (hf : Fm.isF y = false) (hx : TextOk x) (hy : TextOk y) : BodyOk (.imp x y) := by
  intro l v w hl h hn
  have hown : Fm.own (.imp x y) = 0 := by simp [Fm.own, hf]
  have hE : Fm.txt (.imp x y) l = Fm.txt x 1 ++ [62] ++ Fm.txt y 0 := by
    rw [Fm.txt, if_neg (by simp [hf]), Fm.wrap, if_neg (by omega)]
  rw [hE]
  rw [hown] at hl
  obtain ⟨b, o, c, rfl, hc, hm, k1⟩ := nodes_head h
  have hpos := Fm.enc_pos (.imp x y)
  have HL := Lib.hid (levelOf_c _ _ w h (by omega))
  have HH := Lib.hid h
  have hg0 := Grew.refl w
  have hng : isNeg (.imp x y) = false := hf
  have HG := Lib.hid (fun w h => isNegation_c (.slice (some ⟨b, o, none⟩) (Fm.enc (.imp x y)).length c) (.imp x y) w h (by omega))
  rw [hng] at HG
  rw [hown] at HL
  rw [show kindOf (.imp x y) = 4 from rfl] at k1
  have HA := Lib.hid (at_first (xs := Fm.enc (.imp x y)) (k := (4, 0)) (a := x) (rest := Fm.enc y) rfl)
  have HB := Lib.hid (at_second (xs := Fm.enc (.imp x y)) (k := (4, 0)) (a := x) (b := y) rfl)
  have hlen : (Fm.enc (.imp x y)).length = 1 + ((Fm.enc x).length + (Fm.enc y).length) := by simp [Fm.enc]; omega
  have h1 := Fm.txt_len x 1
  have h2 := Fm.txt_len y 0
  have HX := Lib.hid hx
  have HY := Lib.hid hy
  have hn1 : (Fm.enc x).length ≤ 1048576 := by omega
  have hn2 : (Fm.enc y).length ≤ 1048576 := by omega
  clear hE h hx hy hlen hown hng hf
  generalize Fm.enc (.imp x y) = T at *
  have s1 := bs_size (Fm.txt x 1)
  have s2 := bs_size (Fm.txt y 0)
  have z1 : (bs (Fm.txt x 1)).size ≤ 4194304 := by omega
  have z2 : (bs (Fm.txt y 0)).size ≤ 4194304 := by omega
  have HE : Hid (bs (Fm.txt x 1) ++ bs [62] ++ bs (Fm.txt y 0) = bs (Fm.txt x 1 ++ [62] ++ Fm.txt y 0)) := by unfold Hid; rw [bs_append, bs_append]
  clear s1 s2 h1 h2
  generalize Fm.txt x 1 ++ [62] ++ Fm.txt y 0 = Z at *
  go_enter Tryz.func104, Tryz.ntmps104
  go_wp2_with fail
  refine HL.out.mono ?_
  rintro e w1 ⟨rfl, hg1⟩
  go_wp2_with fail
  refine (HG.out _ (HH.out.grew hg1)).mono ?_
  rintro e w11 ⟨rfl, hg11⟩
  have hg1 := hg1.trans hg11
  go_wp2_with fail
  refine (first_c _ T x _ (HH.out.grew hg1) (by omega) HA.out).mono ?_
  rintro e w2 ⟨v2, rfl, hN2, hg2⟩
  go_wp2_with fail
  refine (HX.out 1 _ _ (by omega) hN2 hn1).mono ?_
  rintro e w3 ⟨rfl, hg3⟩
  go_wp2_with fail
  refine (second_c _ T x y _ (HH.out.grew ((hg1.trans hg2).trans hg3)) (by omega) HA.out HB.out).mono ?_
  rintro e w4 ⟨v4, rfl, hN4, hg4⟩
  go_wp2_with fail
  refine (HY.out 0 _ _ (by omega) hN4 hn2).mono ?_
  rintro e w5 ⟨rfl, hg5⟩
  go_wp2_with fail
  go_ret
  exact ⟨congrArg (fun z => Ending.returned (.string z)) HE.out, (((hg1.trans hg2).trans hg3).trans hg4).trans hg5⟩

theorem body_box (x : Tree) (hx : TextOk x) : BodyOk (.box x) := by
  intro l v w hl h hn
  have hown : Fm.own (.box x) = 3 := rfl
  have hE : Fm.txt (.box x) l = [91, 93] ++ Fm.txt x 3 := rfl
  rw [hE]
  rw [hown] at hl
  obtain ⟨b, o, c, rfl, hc, hm, k1⟩ := nodes_head h
  have hpos := Fm.enc_pos (.box x)
  have HL := Lib.hid (levelOf_c _ _ w h (by omega))
  have HH := Lib.hid h
  have hg0 := Grew.refl w
  rw [hown] at HL
  rw [show kindOf (.box x) = 5 from rfl] at k1
  have HA := Lib.hid (at_first (xs := Fm.enc (.box x)) (k := (5, 0)) (a := x) (rest := []) (by simp [Fm.enc]))
  have hlen : (Fm.enc (.box x)).length = 1 + (Fm.enc x).length := by simp [Fm.enc]; omega
  have h1 := Fm.txt_len x 3
  have HX := Lib.hid hx
  have hn1 : (Fm.enc x).length ≤ 1048576 := by omega
  clear hE h hx hlen hown
  generalize Fm.enc (.box x) = T at *
  have s1 := bs_size (Fm.txt x 3)
  have z1 : (bs (Fm.txt x 3)).size ≤ 4194304 := by omega
  have HE : Hid (bs [91, 93] ++ bs (Fm.txt x 3) = bs ([91, 93] ++ Fm.txt x 3)) := by unfold Hid; rw [bs_append]
  clear s1 h1
  generalize [91, 93] ++ Fm.txt x 3 = Z at *
  go_enter Tryz.func104, Tryz.ntmps104
  go_wp2_with fail
  refine HL.out.mono ?_
  rintro e w1 ⟨rfl, hg1⟩
  go_wp2_with fail
  refine (first_c _ T x _ (HH.out.grew hg1) (by omega) HA.out).mono ?_
  rintro e w2 ⟨v2, rfl, hN2, hg2⟩
  go_wp2_with fail
  refine (HX.out 3 _ _ (by omega) hN2 hn1).mono ?_
  rintro e w3 ⟨rfl, hg3⟩
  go_wp2_with fail
  go_ret
  exact ⟨congrArg (fun z => Ending.returned (.string z)) HE.out, (hg1.trans hg2).trans hg3⟩

theorem body_dia (x : Tree) (hx : TextOk x) : BodyOk (.dia x) := by
  intro l v w hl h hn
  have hown : Fm.own (.dia x) = 3 := rfl
  have hE : Fm.txt (.dia x) l = [60, 62] ++ Fm.txt x 3 := rfl
  rw [hE]
  rw [hown] at hl
  obtain ⟨b, o, c, rfl, hc, hm, k1⟩ := nodes_head h
  have hpos := Fm.enc_pos (.dia x)
  have HL := Lib.hid (levelOf_c _ _ w h (by omega))
  have HH := Lib.hid h
  have hg0 := Grew.refl w
  rw [hown] at HL
  rw [show kindOf (.dia x) = 6 from rfl] at k1
  have HA := Lib.hid (at_first (xs := Fm.enc (.dia x)) (k := (6, 0)) (a := x) (rest := []) (by simp [Fm.enc]))
  have hlen : (Fm.enc (.dia x)).length = 1 + (Fm.enc x).length := by simp [Fm.enc]; omega
  have h1 := Fm.txt_len x 3
  have HX := Lib.hid hx
  have hn1 : (Fm.enc x).length ≤ 1048576 := by omega
  clear hE h hx hlen hown
  generalize Fm.enc (.dia x) = T at *
  have s1 := bs_size (Fm.txt x 3)
  have z1 : (bs (Fm.txt x 3)).size ≤ 4194304 := by omega
  have HE : Hid (bs [60, 62] ++ bs (Fm.txt x 3) = bs ([60, 62] ++ Fm.txt x 3)) := by unfold Hid; rw [bs_append]
  clear s1 h1
  generalize [60, 62] ++ Fm.txt x 3 = Z at *
  go_enter Tryz.func104, Tryz.ntmps104
  go_wp2_with fail
  refine HL.out.mono ?_
  rintro e w1 ⟨rfl, hg1⟩
  go_wp2_with fail
  refine (first_c _ T x _ (HH.out.grew hg1) (by omega) HA.out).mono ?_
  rintro e w2 ⟨v2, rfl, hN2, hg2⟩
  go_wp2_with fail
  refine (HX.out 3 _ _ (by omega) hN2 hn1).mono ?_
  rintro e w3 ⟨rfl, hg3⟩
  go_wp2_with fail
  go_ret
  exact ⟨congrArg (fun z => Ending.returned (.string z)) HE.out, (hg1.trans hg2).trans hg3⟩

theorem body_tru (x : Tree) (hf : Fm.isF x = true) : BodyOk (.imp x .fls) := by
  intro l v w hl h hn
  have hown : Fm.own (.imp x .fls) = 3 := rfl
  have hE : Fm.txt (.imp x .fls) l = [84] := by
    rw [Fm.txt, if_pos (show Fm.isF .fls = true from rfl), if_pos hf]
  rw [hE]
  rw [hown] at hl
  obtain ⟨b, o, c, rfl, hc, hm, k1⟩ := nodes_head h
  have hpos := Fm.enc_pos (.imp x .fls)
  have HL := Lib.hid (levelOf_c _ _ w h (by omega))
  have HH := Lib.hid h
  have hg0 := Grew.refl w
  have HG := Lib.hid (fun w h => isNegation_c (.slice (some ⟨b, o, none⟩) (Fm.enc (.imp x .fls)).length c) (.imp x .fls) w h (by omega))
  rw [show isNeg (.imp x .fls) = true from rfl] at HG
  rw [hown] at HL
  rw [show kindOf (.imp x .fls) = 4 from rfl] at k1
  have HA := Lib.hid (at_first (xs := Fm.enc (.imp x .fls)) (k := (4, 0)) (a := x) (rest := Fm.enc .fls) rfl)
  have hlen : (Fm.enc (.imp x .fls)).length = 2 + (Fm.enc x).length := by simp [Fm.enc]; omega
  have hn1 : (Fm.enc x).length ≤ 1048576 := by omega
  have HI := Lib.hid (fun v w h => isFalsum_c v x w h)
  rw [hf] at HI
  clear hE h hlen hown hf
  generalize Fm.enc (.imp x .fls) = T at *
  go_enter Tryz.func104, Tryz.ntmps104
  go_wp2_with fail
  refine HL.out.mono ?_
  rintro e w1 ⟨rfl, hg1⟩
  go_wp2_with fail
  refine (HG.out _ (HH.out.grew hg1)).mono ?_
  rintro e w11 ⟨rfl, hg11⟩
  have hg1 := hg1.trans hg11
  go_wp2_with fail
  refine (first_c _ T x _ (HH.out.grew hg1) (by omega) HA.out).mono ?_
  rintro e w2 ⟨v2, rfl, hN2, hg2⟩
  go_wp2_with fail
  refine (HI.out _ _ hN2).mono ?_
  rintro e w3 ⟨rfl, hg3⟩
  go_wp2_with fail
  go_ret
  exact ⟨rfl, (hg1.trans hg2).trans hg3⟩

theorem body_not (x : Tree) (hf : Fm.isF x = false) (hx : TextOk x) : BodyOk (.imp x .fls) := by
  intro l v w hl h hn
  have hown : Fm.own (.imp x .fls) = 3 := rfl
  have hE : Fm.txt (.imp x .fls) l = [126] ++ Fm.txt x 3 := by
    rw [Fm.txt, if_pos (show Fm.isF .fls = true from rfl), if_neg (by simp [hf])]
  rw [hE]
  rw [hown] at hl
  obtain ⟨b, o, c, rfl, hc, hm, k1⟩ := nodes_head h
  have hpos := Fm.enc_pos (.imp x .fls)
  have HL := Lib.hid (levelOf_c _ _ w h (by omega))
  have HH := Lib.hid h
  have hg0 := Grew.refl w
  have HG := Lib.hid (fun w h => isNegation_c (.slice (some ⟨b, o, none⟩) (Fm.enc (.imp x .fls)).length c) (.imp x .fls) w h (by omega))
  rw [show isNeg (.imp x .fls) = true from rfl] at HG
  rw [hown] at HL
  rw [show kindOf (.imp x .fls) = 4 from rfl] at k1
  have HA := Lib.hid (at_first (xs := Fm.enc (.imp x .fls)) (k := (4, 0)) (a := x) (rest := Fm.enc .fls) rfl)
  have hlen : (Fm.enc (.imp x .fls)).length = 2 + (Fm.enc x).length := by simp [Fm.enc]; omega
  have hn1 : (Fm.enc x).length ≤ 1048576 := by omega
  have HI := Lib.hid (fun v w h => isFalsum_c v x w h)
  rw [hf] at HI
  have h1 := Fm.txt_len x 3
  have HX := Lib.hid hx
  have s1 := bs_size (Fm.txt x 3)
  have z1 : (bs (Fm.txt x 3)).size ≤ 4194304 := by omega
  have HE : Hid (bs [126] ++ bs (Fm.txt x 3) = bs ([126] ++ Fm.txt x 3)) := by unfold Hid; rw [bs_append]
  clear s1 h1 hx
  generalize [126] ++ Fm.txt x 3 = Z at *
  clear hE h hlen hown hf
  generalize Fm.enc (.imp x .fls) = T at *
  go_enter Tryz.func104, Tryz.ntmps104
  go_wp2_with fail
  refine HL.out.mono ?_
  rintro e w1 ⟨rfl, hg1⟩
  go_wp2_with fail
  refine (HG.out _ (HH.out.grew hg1)).mono ?_
  rintro e w11 ⟨rfl, hg11⟩
  have hg1 := hg1.trans hg11
  go_wp2_with fail
  refine (first_c _ T x _ (HH.out.grew hg1) (by omega) HA.out).mono ?_
  rintro e w2 ⟨v2, rfl, hN2, hg2⟩
  go_wp2_with fail
  refine (HI.out _ _ hN2).mono ?_
  rintro e w3 ⟨rfl, hg3⟩
  go_wp2_with fail
  refine (first_c _ T x _ (HH.out.grew ((hg1.trans hg2).trans hg3)) (by omega) HA.out).mono ?_
  rintro e w4 ⟨v4, rfl, hN4, hg4⟩
  go_wp2_with fail
  refine (HX.out 3 _ _ (by omega) hN4 hn1).mono ?_
  rintro e w5 ⟨rfl, hg5⟩
  go_wp2_with fail
  go_ret
  exact ⟨congrArg (fun z => Ending.returned (.string z)) HE.out, (((hg1.trans hg2).trans hg3).trans hg4).trans hg5⟩

theorem body_fls : BodyOk .fls := by
  intro l v w hl h hn
  have hE : Fm.txt .fls l = [70] := rfl
  rw [hE]
  rw [show Fm.own .fls = 3 from rfl] at hl
  obtain ⟨b, o, c, rfl, hc, hm, k1⟩ := nodes_head h
  have hpos := Fm.enc_pos (.fls)
  have HL := Lib.hid (levelOf_c _ _ w h (by omega))
  have HH := Lib.hid h
  have hg0 := Grew.refl w
  rw [show Fm.own .fls = 3 from rfl] at HL
  rw [show kindOf .fls = 1 from rfl] at k1
  clear hE h
  generalize Fm.enc .fls = T at *
  go_enter Tryz.func104, Tryz.ntmps104
  go_wp2_with fail
  refine HL.out.mono ?_
  rintro e w1 ⟨rfl, hg1⟩
  go_wp2_with fail
  go_ret
  exact ⟨rfl, hg1⟩

theorem body_var (n : Fin 6) : BodyOk (.var n) := by
  intro l v w hl h hn
  have hE : Fm.txt (.var n) l = [UInt8.ofNat (112 + n.val)] := rfl
  rw [hE]
  rw [show Fm.own (.var n) = 3 from rfl] at hl
  have k2 : ∃ b o c, v = .slice (some ⟨b, o, none⟩) (Fm.enc (.var n)).length c ∧ ∀ W, Grew w W → W.cell? ⟨b, o + 1, none⟩ = some (.int .i64 (n.val : Int)) := by
    rcases h.open_ with ⟨_, h0⟩ | ⟨b, o, c, hv, _, _, _, hf⟩
    · simp [Fm.enc] at h0
    · refine ⟨b, o, c, hv, fun W hW => ?_⟩
      have := (hf 0 (by simp [Fm.enc]) W hW).2
      rw [show sy (Fm.enc (.var n)) 0 = (n.val : Int) from rfl] at this
      simpa using this
  obtain ⟨b, o, c, rfl, hc, hm, k1⟩ := nodes_head h
  have hpos := Fm.enc_pos (.var n)
  have HL := Lib.hid (levelOf_c _ _ w h (by omega))
  have HH := Lib.hid h
  have hg0 := Grew.refl w
  obtain ⟨b', o', c', hv', k2⟩ := k2
  simp only [Value.slice.injEq, Option.some.injEq, Addr.mk.injEq, and_true, true_and] at hv'
  obtain ⟨⟨rfl, rfl⟩, rfl⟩ := hv'
  rw [show Fm.own (.var n) = 3 from rfl] at HL
  rw [show kindOf (.var n) = 0 from rfl] at k1
  have hn6 := n.isLt
  clear hE h
  generalize Fm.enc (.var n) = T at *
  generalize n.val = q at *
  go_enter Tryz.func104, Tryz.ntmps104
  go_wp2_with fail
  refine HL.out.mono ?_
  rintro e w1 ⟨rfl, hg1⟩
  go_wp2_with fail
  go_quiet (fail)
  go_wp2_with fail
  go_ret
  exact ⟨congrArg (fun z => Ending.returned (.string z)) (letter_cut hn6), hg1.drewN _⟩

theorem textOk_of (t : Tree) (hb : BodyOk t) : TextOk t := by
  intro l v w hl h hn
  by_cases hw : Fm.own t < l
  · have hE : Fm.txt t l = [40] ++ Fm.txt t 0 ++ [41] := by
      cases t with
      | var n => simp [Fm.own] at hw; omega
      | fls => simp [Fm.own] at hw; omega
      | and x y => simp only [Fm.own] at hw; simp [Fm.txt, Fm.wrap, hw]
      | or x y => simp only [Fm.own] at hw; simp [Fm.txt, Fm.wrap, hw]
      | imp x y =>
        cases hf : Fm.isF y with
        | true => simp [Fm.own, hf] at hw; omega
        | false => simp [Fm.own, hf] at hw; simp [Fm.txt, Fm.wrap, hf, hw]
      | box x => simp [Fm.own] at hw; omega
      | dia x => simp [Fm.own] at hw; omega
    rw [hE]
    have h1 := Fm.txt_len t 0
    have s1 := bs_size (Fm.txt t 0)
    have z1 : (bs (Fm.txt t 0)).size ≤ 4194304 := by omega
    have HL := Lib.hid (levelOf_c _ _ w h (by omega))
    have HB := Lib.hid (fun w h => hb 0 v w (Nat.zero_le _) h hn)
    have HH := Lib.hid h
    have HE : Hid (bs [40] ++ bs (Fm.txt t 0) ++ bs [41] = bs ([40] ++ Fm.txt t 0 ++ [41])) := by unfold Hid; rw [bs_append, bs_append]
    clear hE h1 s1 hb h
    generalize Fm.own t = q at *
    generalize [40] ++ Fm.txt t 0 ++ [41] = Z at *
    go_enter Tryz.func104, Tryz.ntmps104
    go_wp2_with fail
    refine HL.out.mono ?_
    rintro e w1 ⟨rfl, hg1⟩
    go_wp2_with fail
    refine (HB.out _ (HH.out.grew hg1)).mono ?_
    rintro e w2 ⟨rfl, hg2⟩
    go_wp2_with fail
    go_ret
    exact ⟨congrArg (fun z => Ending.returned (.string z)) HE.out, hg1.trans hg2⟩
  · exact hb l v w (by omega) h hn

theorem text_ok (t : Tree) : TextOk t := by
  induction t with
  | var n => exact textOk_of _ (body_var n)
  | fls => exact textOk_of _ body_fls
  | and x y hx hy => exact textOk_of _ (body_and x y hx hy)
  | or x y hx hy => exact textOk_of _ (body_or x y hx hy)
  | imp x y hx hy =>
    cases hf : Fm.isF y with
    | true =>
      obtain rfl := Fm.isF_eq hf
      cases hg : Fm.isF x with
      | true => exact textOk_of _ (body_tru x hg)
      | false => exact textOk_of _ (body_not x hg hx)
    | false => exact textOk_of _ (body_imp x y hf hx hy)
  | box x hx => exact textOk_of _ (body_box x hx)
  | dia x hx => exact textOk_of _ (body_dia x hx)

theorem text_c (t : Tree) (v : Value) (w : World) (h : Nodes w v (Fm.enc t)) (hn : (Fm.enc t).length ≤ 1048576) :
    Calls Tryz.prog 92 #[v] w (Says w (Fm.txt t 0)) := by
  have HT := Lib.hid (text_ok t 0 v w (by omega) h hn)
  go_enter Tryz.func92, Tryz.ntmps92
  go_wp2_with fail
  refine HT.out.mono ?_
  rintro e w1 ⟨rfl, hg1⟩
  go_wp2_with fail
  go_ret
  exact ⟨rfl, hg1⟩
end Go.Proofs.YtoogcooggdahnaaGreat

/- The program's 'parsed'. -/
namespace Go.Proofs.YtoogcooggdahnaaGreat
open Go.RowKit
open Fm (Nd)

/-- A new list, nil where it is empty. -/
def GivesN (w : World) (xs : List Nd) (e : Ending) (w' : World) : Prop := ∃ v, e = .returned v ∧ Own w' w.heap.size v xs ∧ Grew w w' ∧ (xs = [] → v = .slice none 0 0)

theorem parsed_c (s : ByteArray) (w : World) (hs : s.size ≤ 140737488355328) :
    Calls Tryz.prog 41 #[.string s] w (GivesN w (Fm.pf s).1) := by
  have HP := Lib.hid (fun w => parse_c s w hs)
  generalize Fm.pf s = r at *
  go_enter Tryz.func41, Tryz.ntmps41
  go_wp2_with fail
  refine (HP.out _).mono ?_
  rintro e w1 ⟨v1, rfl, ho1, hg1, hz1⟩
  have HZ := Lib.hid hz1
  clear hz1
  go_wp2_with fail
  go_ret
  exact ⟨_, rfl, ho1, hg1, HZ.out⟩
end Go.Proofs.YtoogcooggdahnaaGreat

/- Slices of strings. -/
namespace Go.Proofs.YtoogcooggdahnaaGreat
open Go.RowKit

def st (L : List ByteArray) (i : Nat) : ByteArray := L.getD i ByteArray.empty
def scells (L : List ByteArray) : List Value := L.map Value.string
theorem scells_length (L : List ByteArray) : (scells L).length = L.length * 1 := by simp [scells]
theorem scells_one (L : List ByteArray) : ∀ u ∈ scells L, u.oneCell' = true := by
  intro u hu
  simp only [scells, List.mem_map] at hu
  obtain ⟨x, _, rfl⟩ := hu
  rfl
theorem scells_at {L : List ByteArray} {i : Nat} (h : i < L.length) : (scells L)[i]? = some (.string (st L i)) := by simp [scells, st, List.getD, h]
theorem scells_append (K L : List ByteArray) : scells (K ++ L) = scells K ++ scells L := by simp [scells]
theorem st_get {L : List ByteArray} {i : Nat} (h : i < L.length) : L[i] = st L i := by simp [st, List.getD, h]

/-- The value reads as the list of strings. -/
def Strs (w : World) (v : Value) (L : List ByteArray) : Prop := Rd w 1 v L.length (scells L)
/-- A row of the call's own that holds the strings. -/
def OwnS (w : World) (B : Nat) (v : Value) (L : List ByteArray) : Prop := w.ownsRow B 9 1 v L.length (scells L)
theorem Strs.grew {w w' : World} {v : Value} {L : List ByteArray} (h : Strs w v L) (hb : Grew w w') : Strs w' v L := Rd.grew h hb
theorem Strs.nil_ (w : World) : Strs w (.slice none 0 0) [] := Rd.nil_ w 1
theorem OwnS.strs {w : World} {B : Nat} {v : Value} {L : List ByteArray} (h : OwnS w B v L) : Strs w v L := Rd.of_own h
theorem OwnS.nil_ (w : World) (B : Nat) : OwnS w B (.slice none 0 0) [] := World.ownsRow_nil w B _ 1
theorem OwnS.grew {w w' : World} {B : Nat} {v : Value} {L : List ByteArray} (h : OwnS w B v L) (hb : Grew w w') : OwnS w' B v L := own_grew h hb
theorem OwnS.base {w : World} {B B' : Nat} {v : Value} {L : List ByteArray} (h : OwnS w B v L) (hb : B' ≤ B) : OwnS w B' v L := own_base h hb

theorem Strs.open_ {w : World} {v : Value} {L : List ByteArray} (h : Strs w v L) :
    (v = .slice none 0 0 ∧ L = []) ∨ ∃ b o c, v = .slice (some ⟨b, o, none⟩) L.length c ∧ L.length ≤ c ∧ c ≤ 9223372036854775807 ∧ b < w.heap.size ∧
      ∀ i, i < L.length → ∀ W, Grew w W → W.cell? ⟨b, o + i, none⟩ = some (.string (st L i)) := by
  obtain ⟨_, _, h3⟩ := h
  rcases h3 with ⟨h4, h5⟩ | ⟨b, o, c, h4, h5, h6, h7, h8⟩
  · exact .inl ⟨h4, List.eq_nil_of_length_eq_zero h5⟩
  · exact .inr ⟨b, o, c, h4, h5, h6, h7, fun i hi W hW => (hW.cell (p := ⟨b, o + i, none⟩) h7).trans (h8 _ _ (scells_at hi))⟩
theorem strs_slice {w : World} {v : Value} {L : List ByteArray} (h : Strs w v L) : ∃ A c, v = .slice A L.length c := by
  rcases h.open_ with ⟨rfl, rfl⟩ | ⟨b, o, c, rfl, _⟩
  · exact ⟨_, _, rfl⟩
  · exact ⟨_, _, rfl⟩
/-- A literal of strings in a new block. -/
theorem OwnS.lit (w : World) (B : Nat) (L : List ByteArray) (cs : Array Value) (hB : B ≤ w.heap.size) (hn : L.length ≤ 9223372036854775807) (hc : cs.toList = scells L) :
    OwnS (w.alloc (.cells cs 9)) B (.slice (some ⟨w.heap.size, 0, none⟩) L.length L.length) L := by
  have hl : cs.size = L.length * 1 := by rw [← Array.length_toList, hc, scells_length]
  have h := World.ownsRow_lit (e := 9) (size := 1) w cs L.length hB hn hl
  rw [hc] at h
  exact h
theorem OwnS.mk_ {w : World} {B : Nat} {L : List ByteArray} {g c : Nat} {cur : Array Value} (hB : B ≤ g) (hg : w.heap[g]? = some (.cells cur 9 (0, 0))) (hnc : L.length ≤ c) (hcm : c ≤ 9223372036854775807) (hcs : cur.size = c)
    (hc : ∀ i, i < L.length → cur[i]? = some (.string (st L i))) : OwnS w B (.slice (some ⟨g, 0, none⟩) L.length c) L := by
  refine ⟨scells_length L, .inr ⟨g, c, cur, rfl, hB, hg, hnc, hcm, by omega, ?_⟩⟩
  apply List.ext_getElem?
  intro j
  rw [List.getElem?_take]
  by_cases hj : j < L.length
  · rw [if_pos (by omega), scells_at hj]
    simpa using hc j hj
  · rw [if_neg (by omega), List.getElem?_eq_none (by rw [scells_length]; omega)]

theorem Tryz.infoStr : (Tryz.prog.info? 9).map (fun i => (i.zero, i.size, i.bytes)) = some (some (.string ByteArray.empty), 1, 16) := by kernel_rfl

/-- The call returns a new list of strings. -/
def GivesS (w : World) (L : List ByteArray) (e : Ending) (w' : World) : Prop := ∃ v, e = .returned v ∧ OwnS w' w.heap.size v L ∧ Grew w w'

end Go.Proofs.YtoogcooggdahnaaGreat

/- isText of the program. -/
namespace Go.Proofs.YtoogcooggdahnaaGreat
open Go.RowKit
open Fm (Nd)

theorem text0_c (t : Fm.Tree) (v : Value) (w : World) (h : Nodes w v (Fm.enc t)) (hn : (Fm.enc t).length ≤ 1048576) :
    Calls Tryz.prog 92 #[v] w (Says w (Fm.txt t 0)) := text_c t v w h hn

theorem isText_c (s : ByteArray) (w : World) (hs : s.size ≤ 140737488355328) :
    Calls Tryz.prog 60 #[.string s] w fun e w' => e = .returned (.bool (gd s)) ∧ Grew w w' := by
  have HP := fun w => parsed_c s w hs
  rcases pf_cases s with ⟨t, ht⟩ | ⟨p, c, hp, hc⟩
  · have hn := Fm.pf_len s
    have hpos := Fm.enc_pos t
    rw [gd_tree ht]
    rw [ht] at HP hn
    simp only at HP hn
    replace HP := Lib.hid HP
    have HT := Lib.hid (fun v w h => text0_c t v w h (by omega))
    have HO := Lib.hid (fun w (v : Value) (h : Own w w.heap.size v (Fm.enc t)) => h)
    clear ht HO
    have hne := fun w (b : Option Addr) n c => run_neq_slice_nil_any (P := Tryz.prog) w 47 68 b n c 0 0 Tryz.underlying47
    generalize Fm.enc t = xs at *
    go_enter Tryz.func60, Tryz.ntmps60
    go_wp2_with fail
    refine (HP.out _).mono ?_
    rintro e w1 ⟨v1, rfl, ho1, hg1, _⟩
    rcases ho1.open_ with ⟨rfl, h0⟩ | ⟨g, c, cur, rfl, _⟩
    · rw [h0] at hpos; cases hpos
    go_wp2_with fail
    refine (HT.out _ _ ho1.nodes).mono ?_
    rintro e w2 ⟨rfl, hg2⟩
    go_wp2_with fail
    go_ret
    exact ⟨rfl, hg1.trans hg2⟩
  · rw [gd_bad hp hc]
    rw [hp] at HP
    replace HP := Lib.hid HP
    clear hp
    go_enter Tryz.func60, Tryz.ntmps60
    go_wp2_with fail
    refine (HP.out _).mono ?_
    rintro e w1 ⟨v1, rfl, ho1, hg1, hz1⟩
    obtain rfl := hz1 rfl
    go_wp2_with fail
    go_ret
    exact ⟨rfl, hg1⟩
end Go.Proofs.YtoogcooggdahnaaGreat

/- A predicate on nodes: IndexFunc, ContainsFunc. -/
namespace Go.Proofs.YtoogcooggdahnaaGreat
open Go.RowKit
open Fm (Nd)

/-- None of the first k nodes meets the predicate. -/
def NoneP (p : Int → Int → Bool) (xs : List Nd) (k : Nat) : Prop := ∀ i, i < k → p (kd xs i) (sy xs i) = false
theorem NoneP.zero (p : Int → Int → Bool) (xs : List Nd) : NoneP p xs 0 := fun i hi => absurd hi (by omega)
theorem NoneP.succ {p : Int → Int → Bool} {xs : List Nd} {k : Nat} (h : NoneP p xs k) (h1 : p (kd xs k) (sy xs k) = false) : NoneP p xs (k + 1) := by
  intro i hi
  rcases Nat.lt_or_ge i k with hk | hk
  · exact h i hk
  · obtain rfl : i = k := by omega
    exact h1
/-- Some node meets the predicate. -/
noncomputable def anyP (p : Int → Int → Bool) (xs : List Nd) : Bool := !@decide (NoneP p xs xs.length) (Classical.propDecidable _)
theorem anyP_no {p : Int → Int → Bool} {xs : List Nd} (h : NoneP p xs xs.length) : anyP p xs = false := by
  unfold anyP
  rw [@decide_eq_true _ (Classical.propDecidable _) h]
  rfl
theorem anyP_at {p : Int → Int → Bool} {xs : List Nd} {k : Nat} (hk : k < xs.length) (h : p (kd xs k) (sy xs k) = true) : anyP p xs = true := by
  unfold anyP
  rw [@decide_eq_false _ (Classical.propDecidable _) fun H => by rw [H k hk] at h; cases h]
  rfl

/-- What the function value gives at a node. -/
def PredOk (f : Nat) (p : Int → Int → Bool) : Prop := ∀ a b W, Calls Tryz.prog f #[.agg #[.int .i64 a, .int .i64 b]] W fun e w' => e = .returned (.bool (p a b)) ∧ Grew W w'

theorem indexFunc_c (v : Value) (xs : List Nd) (f : Nat) (p : Int → Int → Bool) (w : World) (h : Nodes w v xs) (hn : xs.length ≤ 1099511627776) (hf : PredOk f p) (eg : ∀ args w, (callFunc f args).run Tryz.prog w = .ok (.enter f args) w) :
    Calls Tryz.prog 105 #[v, .func (.func f) #[] #[]] w fun e w' => ∃ r : Int, e = .returned (.int .i64 r) ∧ Grew w w' ∧ decide (0 ≤ r) = anyP p xs := by
  rcases h.open_ with ⟨rfl, rfl⟩ | ⟨b, o, c, rfl, hc, hm, hb, hcell⟩
  · rw [anyP_no (NoneP.zero _ _)]
    clear h hf
    go_enter Tryz.func105, Tryz.ntmps105
    go_wp2_with fail
    refine wp_loop_rounds 1 ?_; rw [rounds_succ]
    go_wp2_with fail
    go_ret
    exact ⟨_, rfl, Grew.refl _, rfl⟩
  obtain ⟨R, hR⟩ : ∃ R, R = anyP p xs := ⟨_, rfl⟩
  rw [← hR]
  have HA := Lib.hid (fun k hk h => hR.trans (@anyP_at p xs k hk h))
  have HZ := Lib.hid (fun h => hR.trans (@anyP_no p xs h))
  have HC := Lib.hid hcell
  have HF := Lib.hid hf
  clear hcell h hf hR
  generalize hN : xs.length = n at *
  clear hN
  go_enter Tryz.func105, Tryz.ntmps105
  go_wp2_with fail
  go_loopw [5, 8] (fun _ i wr => ∃ j : Nat, j ≤ n ∧ i = .int .i64 j ∧ Grew w wr ∧ Hid (NoneP p xs j)) (fun _ i _ => n - (intOf i).toNat)
  case atStart => exact ⟨0, Nat.zero_le _, rfl, Grew.refl _, NoneP.zero _ _⟩
  case round =>
    obtain ⟨j, hj, rfl, hB, HJ⟩ := hrel
    by_cases hlt : j < n
    · have k1 := (HC.out j hlt _ hB).1
      have k2 := (HC.out j hlt _ hB).2
      have hA := Lib.hid (HA.out j hlt)
      have hS := Lib.hid (fun h => HJ.out.succ (k := j) h)
      generalize kd xs j = x at *
      generalize sy xs j = y at *
      go_wp2_with fail
      go_at_fn f
      refine (HF.out x y _).mono ?_
      rintro e w1 ⟨rfl, hg1⟩
      have hB1 := hB.trans hg1
      cases hp : p x y with
      | true =>
        have hv := hA.out hp
        go_wp2_with fail
        go_ret
        exact ⟨_, rfl, hB1, by rw [hv]; simp⟩
      | false =>
        have hs := Lib.hid (hS.out hp)
        go_wp2_with fail
        go_roundw
        case rel => exact ⟨j + 1, by omega, by go_num, hB1, hs⟩
        case measure => simp [intOf]; omega
    · obtain rfl : j = n := by omega
      have hv := Lib.hid (HZ.out HJ.out)
      go_wp2_with fail
      go_ret
      exact ⟨_, rfl, hB, by rw [hv.out]; rfl⟩

theorem containsFunc_c (v : Value) (xs : List Nd) (f : Nat) (p : Int → Int → Bool) (w : World) (h : Nodes w v xs) (hn : xs.length ≤ 1099511627776) (hf : PredOk f p) (eg : ∀ args w, (callFunc f args).run Tryz.prog w = .ok (.enter f args) w) :
    Calls Tryz.prog 93 #[v, .func (.func f) #[] #[]] w fun e w' => e = .returned (.bool (anyP p xs)) ∧ Grew w w' := by
  have HI := Lib.hid (indexFunc_c v xs f p w h hn hf eg)
  clear h hf eg
  generalize anyP p xs = R at *
  go_enter Tryz.func93, Tryz.ntmps93
  go_wp2_with fail
  refine HI.out.mono ?_
  rintro e w1 ⟨r, rfl, hg1, hr⟩
  go_wp2_with fail
  go_ret
  exact ⟨by rw [← hr]; rfl, hg1⟩

end Go.Proofs.YtoogcooggdahnaaGreat

/- isPlain of the program, l02Plain of the reference. -/
namespace Go.Proofs.YtoogcooggdahnaaGreat
open Go.RowKit
open Fm (Nd)

def isBD (a _b : Int) : Bool := a == 5 || a == 6
theorem isModal_c (a : Int) (w : World) : Calls Tryz.prog 95 #[.int .i64 a] w fun e w' => e = .returned (.bool (a == 5 || a == 6)) ∧ Grew w w' := by
  cases h : (a == 5) with
  | true =>
    go_enter Tryz.func95, Tryz.ntmps95
    go_wp2_with fail
    go_ret
    exact ⟨rfl, Grew.refl _⟩
  | false =>
    go_enter Tryz.func95, Tryz.ntmps95
    go_wp2_with fail
    go_ret
    exact ⟨by simp, Grew.refl _⟩
theorem isPlain1_ok : PredOk 94 isBD := by
  intro a b w
  go_enter Tryz.func94, Tryz.ntmps94
  go_wp2_with fail
  refine (isModal_c _ _).mono ?_
  rintro e w1 ⟨rfl, hg1⟩
  go_wp2_with fail
  go_ret
  exact ⟨rfl, Grew.of_alloc hg1⟩
theorem isPlain_c (v : Value) (xs : List Nd) (w : World) (h : Nodes w v xs) (hn : xs.length ≤ 1099511627776) :
    Calls Tryz.prog 61 #[v] w fun e w' => e = .returned (.bool (!anyP isBD xs)) ∧ Grew w w' := by
  have HI := Lib.hid (containsFunc_c v xs _ _ w h hn isPlain1_ok (enters_of Tryz.func94 (by kernel_rfl) rfl))
  clear h
  generalize anyP isBD xs = R at *
  go_enter Tryz.func61, Tryz.ntmps61
  go_wp2_with fail
  refine HI.out.mono ?_
  rintro e w1 ⟨rfl, hg1⟩
  go_wp2_with fail
  go_ret
  exact ⟨rfl, hg1⟩

theorem l02Plain_c (v : Value) (xs : List Nd) (w : World) (h : Nodes w v xs) (hn : xs.length ≤ 1099511627776) :
    Calls Tryz.prog 47 #[v] w fun e w' => e = .returned (.bool (!anyP isBD xs)) ∧ Grew w w' := by
  rcases h.open_ with ⟨rfl, rfl⟩ | ⟨b, o, c, rfl, hc, hm, hb, hcell⟩
  · rw [anyP_no (NoneP.zero _ _)]
    clear h
    go_enter Tryz.func47, Tryz.ntmps47
    go_wp2_with fail
    refine wp_loop_rounds 1 ?_; rw [rounds_succ]
    go_wp2_with fail
    go_ret
    exact ⟨rfl, Grew.refl _⟩
  obtain ⟨R, hR⟩ : ∃ R, R = anyP isBD xs := ⟨_, rfl⟩
  rw [← hR]
  have HA := Lib.hid (fun k hk h => hR.trans (@anyP_at isBD xs k hk h))
  have HZ := Lib.hid (fun h => hR.trans (@anyP_no isBD xs h))
  have HC := Lib.hid hcell
  clear hcell h hR
  generalize hN : xs.length = n at *
  clear hN
  go_enter Tryz.func47, Tryz.ntmps47
  go_wp2_with fail
  go_loopw [3] (fun i wr => ∃ j : Nat, j ≤ n ∧ i = .int .i64 j ∧ Grew w wr ∧ Hid (NoneP isBD xs j)) (fun i _ => n - (intOf i).toNat)
  case atStart => exact ⟨0, Nat.zero_le _, rfl, Grew.refl _, NoneP.zero _ _⟩
  case round =>
    obtain ⟨j, hj, rfl, hB, HJ⟩ := hrel
    by_cases hlt : j < n
    · have k1 := (HC.out j hlt _ hB).1
      have hA := Lib.hid (HA.out j hlt)
      have hS := Lib.hid (fun h => HJ.out.succ (k := j) h)
      generalize kd xs j = x at *
      generalize sy xs j = y at *
      cases h5 : (x == 5) with
      | true =>
        have hv := Lib.hid (hA.out (by simp [isBD, h5]))
        go_wp2_with fail
        go_ret
        rw [hv.out]
        exact ⟨rfl, hB⟩
      | false =>
        cases h6 : (x == 6) with
        | true =>
          have hv := Lib.hid (hA.out (by simp [isBD, h6]))
          go_wp2_with fail
          go_ret
          rw [hv.out]
          exact ⟨rfl, hB⟩
        | false =>
          have hs := Lib.hid (hS.out (by simp [isBD, h5, h6]))
          go_wp2_with fail
          go_roundw
          case rel => exact ⟨j + 1, by omega, by go_num, hB, hs⟩
          case measure => simp [intOf]; omega
    · obtain rfl : j = n := by omega
      have hv := Lib.hid (HZ.out HJ.out)
      go_wp2_with fail
      go_ret
      rw [hv.out]
      exact ⟨rfl, hB⟩
end Go.Proofs.YtoogcooggdahnaaGreat

/- Is a text that of a plain formula? -/
namespace Go.Proofs.YtoogcooggdahnaaGreat
open Go.RowKit
open Fm (Nd)

/-- The text is the text of a plain formula. -/
noncomputable def gp (s : ByteArray) : Bool := gd s && !anyP isBD (Fm.pf s).1

def GivesP (w : World) (s : ByteArray) (e : Ending) (w' : World) : Prop := ∃ v, e = .returned (.tuple #[v, .bool (gp s)]) ∧ Own w' w.heap.size v (Fm.pf s).1 ∧ Grew w w'

theorem isPlainText_c (s : ByteArray) (w : World) (hs : s.size ≤ 140737488355328) :
    Calls Tryz.prog 37 #[.string s] w fun e w' => e = .returned (.bool (gp s)) ∧ Grew w w' := by
  have HG := fun w => isText_c s w hs
  have HR := fun w => parsed_c s w hs
  have hn := Fm.pf_len s
  unfold gp
  generalize (Fm.pf s).1 = xs at *
  have HP := Lib.hid (fun v w h => isPlain_c v xs w h (by omega))
  replace HR := Lib.hid HR
  generalize anyP isBD xs = q at *
  cases hg : gd s with
  | true =>
    rw [hg] at HG
    replace HG := Lib.hid HG
    clear hg
    go_enter Tryz.func37, Tryz.ntmps37
    go_wp2_with fail
    refine (HG.out _).mono ?_
    rintro e w1 ⟨rfl, hg1⟩
    go_wp2_with fail
    refine (HR.out _).mono ?_
    rintro e w2 ⟨v2, rfl, ho2, hg2, _⟩
    go_wp2_with fail
    refine (HP.out _ _ ho2.nodes).mono ?_
    rintro e w3 ⟨rfl, hg3⟩
    go_wp2_with fail
    go_ret
    exact ⟨rfl, (hg1.trans hg2).trans hg3⟩
  | false =>
    rw [hg] at HG
    replace HG := Lib.hid HG
    clear hg
    go_enter Tryz.func37, Tryz.ntmps37
    go_wp2_with fail
    refine (HG.out _).mono ?_
    rintro e w1 ⟨rfl, hg1⟩
    go_wp2_with fail
    go_ret
    exact ⟨rfl, hg1⟩
end Go.Proofs.YtoogcooggdahnaaGreat

/- Plain formulas of the size of a text, and their texts. No program is in sight. -/
namespace Go.Proofs.YtoogcooggdahnaaGreat
open Go.RowKit

/-- The text of a formula. -/
def tx (A : Fm.Tree) : ByteArray := bs (Fm.txt A 0)
/-- A formula of the size of a text. -/
def FmOk (A : Fm.Tree) : Prop := (Fm.enc A).length ≤ 40 ∧ anyP isBD (Fm.enc A) = false
theorem tx_pf {A : Fm.Tree} (h : (Fm.enc A).length ≤ 40) : Fm.pf (tx A) = (Fm.enc A, 0, 0) := Fm.pf_txt A (by have := Fm.txt_len A 0; omega) h
theorem tx_size {A : Fm.Tree} (h : (Fm.enc A).length ≤ 40) : (tx A).size ≤ 160 := by
  unfold tx
  rw [bs_size]
  have := Fm.txt_len A 0
  omega
theorem tx_inj {A B : Fm.Tree} (ha : (Fm.enc A).length ≤ 40) (hb : (Fm.enc B).length ≤ 40) (h : tx A = tx B) : A = B := by
  have h1 := tx_pf ha
  rw [h, tx_pf hb] at h1
  simp only [Prod.mk.injEq, and_true] at h1
  exact (enc_inj h1).symm
theorem gp_tx {A : Fm.Tree} (h : FmOk A) : gp (tx A) = true := by
  unfold gp
  rw [gd_true ⟨A, tx_pf h.1, rfl⟩, tx_pf h.1]
  simp [h.2]
theorem gp_tree {s : ByteArray} (h : gp s = true) : ∃ A, FmOk A ∧ tx A = s := by
  unfold gp at h
  simp only [Bool.and_eq_true, Bool.not_eq_true'] at h
  have hg : IsGood s := by
    by_cases hg : IsGood s
    · exact hg
    · rw [gd_false hg] at h; exact absurd h.1 (by simp)
  obtain ⟨A, h1, h2⟩ := hg
  have hl := Fm.pf_len s
  rw [h1] at hl h
  exact ⟨A, ⟨hl, h.2⟩, h2⟩
theorem tx_ne (A : Fm.Tree) : (tx A).toList.isEmpty = false := by
  have h1 := Fm.txt_pos A 0
  unfold tx
  cases he : Fm.txt A 0 with
  | nil => rw [he] at h1; simp at h1
  | cons x xs =>
    have := Lib.bytes_beq_iff (bs (x :: xs)) ByteArray.empty
    cases hq : (bs (x :: xs)).toList.isEmpty with
    | false => rfl
    | true =>
      exfalso
      have h2 : (bs (x :: xs)).toList = ByteArray.empty.toList := by
        rw [List.isEmpty_iff] at hq
        rw [hq]; exact (by unfold ByteArray.toList ByteArray.toList.loop; rfl : ([] : List UInt8) = ByteArray.empty.toList)
      have h3 := this.1 (by rw [h2]; simp)
      have h4 := congrArg ByteArray.size h3
      rw [bs_size] at h4
      simp at h4

/-- The formula that a text is the text of. -/
noncomputable def fo (s : ByteArray) : Fm.Tree := @dite _ (gp s = true) (Classical.propDecidable _) (fun h => Classical.choose (gp_tree h)) (fun _ => .fls)
theorem fo_ok {s : ByteArray} (h : gp s = true) : FmOk (fo s) ∧ tx (fo s) = s := by
  unfold fo
  rw [dif_pos h]
  exact Classical.choose_spec (gp_tree h)

/-- The formula, if it has not too many nodes. -/
def smallF (A : Fm.Tree) : Option Fm.Tree := if (Fm.enc A).length ≤ 40 then some A else none
theorem anyP_mem {p : Int → Int → Bool} {xs : List Fm.Nd} : anyP p xs = false ↔ ∀ x ∈ xs, p x.1 x.2 = false := by
  constructor
  · intro h x hx
    obtain ⟨i, hi, rfl⟩ := List.getElem_of_mem hx
    cases hq : p xs[i].1 xs[i].2 with
    | false => rfl
    | true =>
      have := anyP_at (p := p) hi (by simpa [kd, sy, List.getD, hi] using hq)
      rw [this] at h; cases h
  · intro h
    apply anyP_no
    intro i hi
    have := h xs[i] (List.getElem_mem hi)
    simpa [kd, sy, List.getD, hi] using this
theorem FmOk.bin {k : Int} {A B : Fm.Tree} {C : Fm.Tree} (he : Fm.enc C = (k, 0) :: (Fm.enc A ++ Fm.enc B)) (h : FmOk C) : FmOk A ∧ FmOk B := by
  obtain ⟨h1, h2⟩ := h
  rw [he] at h1 h2
  rw [anyP_mem] at h2
  simp only [List.length_cons, List.length_append] at h1
  exact ⟨⟨by omega, anyP_mem.2 fun x hx => h2 x (by simp [hx])⟩, ⟨by omega, anyP_mem.2 fun x hx => h2 x (by simp [hx])⟩⟩
theorem FmOk.join {k : Int} {A B : Fm.Tree} {C : Fm.Tree} (he : Fm.enc C = (k, 0) :: (Fm.enc A ++ Fm.enc B)) (hk : k ≠ 5 ∧ k ≠ 6) (hA : FmOk A) (hB : FmOk B) (hl : (Fm.enc C).length ≤ 40) : FmOk C := by
  refine ⟨hl, anyP_mem.2 ?_⟩
  rw [he]
  intro x hx
  simp only [List.mem_cons, List.mem_append] at hx
  rcases hx with rfl | hx | hx
  · unfold isBD
    have h5 : (k == 5) = false := by simpa using hk.1
    have h6 : (k == 6) = false := by simpa using hk.2
    show (k == 5 || k == 6) = false
    rw [h5, h6]; rfl
  · exact anyP_mem.1 hA.2 x hx
  · exact anyP_mem.1 hB.2 x hx
theorem smallF_ok {A B : Fm.Tree} (h : smallF A = some B) : A = B ∧ (Fm.enc B).length ≤ 40 := by
  unfold smallF at h
  split at h
  · simp at h; subst h; exact ⟨rfl, ‹_›⟩
  · cases h
theorem fmOk_and {p q : Fm.Tree} (h : FmOk (.and p q)) : FmOk p ∧ FmOk q := FmOk.bin (k := 2) rfl h
theorem fmOk_or {p q : Fm.Tree} (h : FmOk (.or p q)) : FmOk p ∧ FmOk q := FmOk.bin (k := 3) rfl h
theorem fmOk_imp {p q : Fm.Tree} (h : FmOk (.imp p q)) : FmOk p ∧ FmOk q := FmOk.bin (k := 4) rfl h
theorem small_and {p q B : Fm.Tree} (hp : FmOk p) (hq : FmOk q) (h : smallF (.and p q) = some B) : FmOk B := by
  obtain ⟨rfl, hl⟩ := smallF_ok h
  exact FmOk.join (k := 2) rfl (by decide) hp hq hl
theorem small_or {p q B : Fm.Tree} (hp : FmOk p) (hq : FmOk q) (h : smallF (.or p q) = some B) : FmOk B := by
  obtain ⟨rfl, hl⟩ := smallF_ok h
  exact FmOk.join (k := 3) rfl (by decide) hp hq hl
theorem small_imp {p q B : Fm.Tree} (hp : FmOk p) (hq : FmOk q) (h : smallF (.imp p q) = some B) : FmOk B := by
  obtain ⟨rfl, hl⟩ := smallF_ok h
  exact FmOk.join (k := 4) rfl (by decide) hp hq hl
/-- A formula without modalities is of one of five kinds. -/
theorem fm_five {A : Fm.Tree} (h : FmOk A) : (∃ v, A = .var v) ∨ A = .fls ∨ (∃ x y, A = .and x y) ∨ (∃ x y, A = .or x y) ∨ ∃ x y, A = .imp x y := by
  cases A with
  | var v => exact .inl ⟨v, rfl⟩
  | fls => exact .inr (.inl rfl)
  | and x y => exact .inr (.inr (.inl ⟨x, y, rfl⟩))
  | or x y => exact .inr (.inr (.inr (.inl ⟨x, y, rfl⟩)))
  | imp x y => exact .inr (.inr (.inr (.inr ⟨x, y, rfl⟩)))
  | box x => exact absurd (anyP_mem.1 h.2 (5, 0) (by simp [Fm.enc])) (by simp [isBD])
  | dia x => exact absurd (anyP_mem.1 h.2 (6, 0) (by simp [Fm.enc])) (by simp [isBD])
end Go.Proofs.YtoogcooggdahnaaGreat

/- Forcing, plain: boxes, implications, the values of plain formulas; the values reckoned over a list of nodes from its end. No program is in sight. -/
namespace Go.Proofs.YtoogcooggdahnaaGreat
open Go.RowKit
open Fm (Nd Tree)

/-- The elements among the first k that see members of m alone. -/
def bxK (A : List Nat) (m : Nat) : Nat → Nat
  | 0 => 0
  | k + 1 => if dif (nt A k) m = 0 then bxK A m k ||| 2 ^ k else bxK A m k
theorem bxK_yes {A : List Nat} {m k : Nat} (h : decide (dif (nt A k) m = 0) = true) : bxK A m (k + 1) = bxK A m k ||| 2 ^ k := by
  show (if _ then _ else _) = _
  rw [if_pos (of_decide_eq_true h)]
theorem bxK_no {A : List Nat} {m k : Nat} (h : decide (dif (nt A k) m = 0) = false) : bxK A m (k + 1) = bxK A m k := by
  show (if _ then _ else _) = _
  rw [if_neg (of_decide_eq_false h)]
theorem bxK_lt (A : List Nat) (m : Nat) : ∀ k, bxK A m k < 2 ^ k
  | 0 => by show 0 < _; omega
  | k + 1 => by
    have ih := bxK_lt A m k
    have h2 : 2 ^ (k + 1) = 2 * 2 ^ k := by rw [Nat.pow_succ]; omega
    unfold bxK
    split
    · exact or_n (by omega) (by omega)
    · omega
theorem bxK_sm {A : List Nat} {m k : Nat} (h : k ≤ 30) : bxK A m k < 1073741824 := Nat.lt_of_lt_of_le (bxK_lt _ _ _) (pow30' h)
theorem bxK_bit (A : List Nat) (m x : Nat) : ∀ k, (bxK A m k).testBit x = true ↔ x < k ∧ ∀ z, (nt A x).testBit z = true → m.testBit z = true
  | 0 => by show (0 : Nat).testBit x = true ↔ _; simp
  | k + 1 => by
    have ih := bxK_bit A m x k
    have hlt := bxK_lt A m k
    rw [show bxK A m (k + 1) = if dif (nt A k) m = 0 then bxK A m k ||| 2 ^ k else bxK A m k from rfl]
    by_cases hd : dif (nt A k) m = 0
    · rw [if_pos hd, Nat.testBit_or, Bool.or_eq_true, ih, Nat.testBit_two_pow]
      constructor
      · rintro (⟨h1, h2⟩ | h1)
        · exact ⟨by omega, h2⟩
        · obtain rfl : k = x := by simpa using h1
          exact ⟨by omega, dif_zero.1 hd⟩
      · rintro ⟨h1, h2⟩
        by_cases hx : k = x
        · exact .inr (by simp [hx])
        · exact .inl ⟨by omega, h2⟩
    · rw [if_neg hd, ih]
      constructor
      · rintro ⟨h1, h2⟩; exact ⟨by omega, h2⟩
      · rintro ⟨h1, h2⟩
        by_cases hx : x = k
        · exact absurd (dif_zero.2 (hx ▸ h2)) hd
        · exact ⟨by omega, h2⟩
/-- The elements that see members of m alone. -/
def bx (A : List Nat) (m : Nat) : Nat := bxK A m A.length
theorem bx_lt (A : List Nat) (m : Nat) : bx A m < 2 ^ A.length := bxK_lt A m A.length
theorem bx_bit {A : List Nat} {m x : Nat} : (bx A m).testBit x = true ↔ x < A.length ∧ ∀ z, (nt A x).testBit z = true → m.testBit z = true := bxK_bit A m x A.length
theorem and_dif {a m : Nat} : (a &&& m = a) ↔ dif a m = 0 := by
  rw [dif_zero]
  constructor
  · intro h z hz
    rw [← h, Nat.testBit_and] at hz
    simp only [Bool.and_eq_true] at hz
    exact hz.2
  · intro h
    apply Nat.eq_of_testBit_eq
    intro z
    rw [Nat.testBit_and]
    cases hz : a.testBit z with
    | false => rfl
    | true => rw [h z hz]; rfl
theorem dif_le {a b : Nat} : dif a b ≤ a := by
  have h : dif a b &&& a = dif a b := and_dif.2 (dif_zero.2 fun z hz => by rw [dif_bit] at hz; simp only [Bool.and_eq_true] at hz; exact hz.1)
  rw [← h]
  exact Nat.and_le_right
/-- All elements. -/
def full (n : Nat) : Nat := 2 ^ n - 1
theorem full_bit (n x : Nat) : (full n).testBit x = decide (x < n) := Nat.testBit_two_pow_sub_one n x
theorem full_lt (n : Nat) : full n < 2 ^ n := by
  have : 0 < 2 ^ n := Nat.pow_pos (by omega)
  unfold full; omega
theorem full_cast (n : Nat) : ((full n : Nat) : Int) = ((2 ^ n : Nat) : Int) - 1 := by
  have : 0 < 2 ^ n := Nat.pow_pos (by omega)
  unfold full
  generalize 2 ^ n = p at *
  omega
/-- The implication of two sets. -/
def ar (A : List Nat) (a b : Nat) : Nat := bx A (dif (full A.length) a ||| b)
theorem ar_bit {A : List Nat} (hA : Rl A) {a b x : Nat} : (ar A a b).testBit x = true ↔ x < A.length ∧ ∀ z, (nt A x).testBit z = true → a.testBit z = true → b.testBit z = true := by
  unfold ar
  rw [bx_bit]
  constructor
  · rintro ⟨h1, h2⟩
    refine ⟨h1, fun z hz ha => ?_⟩
    have h3 := h2 z hz
    rw [Nat.testBit_or, dif_bit, ha] at h3
    simpa using h3
  · rintro ⟨h1, h2⟩
    refine ⟨h1, fun z hz => ?_⟩
    rw [Nat.testBit_or, dif_bit, full_bit, decide_eq_true (hA.bit h1 hz)]
    cases ha : a.testBit z with
    | false => rfl
    | true => rw [h2 z hz ha]; simp

/-- The value of a plain formula. -/
def fv (A V : List Nat) : Tree → Nat
  | .var v => nt V v.val
  | .fls => 0
  | .and a b => fv A V a &&& fv A V b
  | .or a b => fv A V a ||| fv A V b
  | .imp a b => ar A (fv A V a) (fv A V b)
  | .box _ => 0
  | .dia _ => 0
theorem fv_lt {A V : List Nat} (hV : ∀ m ∈ V, m < 2 ^ A.length) : ∀ t : Tree, fv A V t < 2 ^ A.length
  | .var v => by
    show nt V v.val < _
    by_cases h : v.val < V.length
    · exact hV _ (nt_mem h)
    · unfold nt; rw [List.getD_eq_getElem?_getD, List.getElem?_eq_none (by omega)]; exact Nat.pow_pos (by omega)
  | .fls => Nat.pow_pos (by omega)
  | .and a b => Nat.and_lt_two_pow _ (fv_lt hV b)
  | .or a b => Nat.or_lt_two_pow (fv_lt hV a) (fv_lt hV b)
  | .imp a b => bx_lt _ _
  | .box _ => Nat.pow_pos (by omega)
  | .dia _ => Nat.pow_pos (by omega)

/-- One node more, ahead of the values: what it does to the stack (the top stands first). -/
def evs (A V : List Nat) (k s : Int) (st : List Nat) : List Nat :=
  if k = 0 then nt V s.toNat :: st
  else if k = 2 then (st.getD 0 0 &&& st.getD 1 0) :: st.drop 2
  else if k = 3 then (st.getD 0 0 ||| st.getD 1 0) :: st.drop 2
  else if k = 4 then ar A (st.getD 0 0) (st.getD 1 0) :: st.drop 2
  else 0 :: st
/-- The stack behind a list of nodes, reckoned from the end. -/
def ev (A V : List Nat) : List Nd → List Nat
  | [] => []
  | x :: xs => evs A V x.1 x.2 (ev A V xs)
theorem ev_enc (A V : List Nat) : ∀ (t : Tree) (r : List Nd), anyP isBD (Fm.enc t) = false → ev A V (Fm.enc t ++ r) = fv A V t :: ev A V r := by
  intro t
  have bin : ∀ {k : Int} {a b : Tree} {r : List Nd} {f : Nat → Nat → Nat}, (∀ r : List Nd, anyP isBD (Fm.enc a) = false → ev A V (Fm.enc a ++ r) = fv A V a :: ev A V r) → (∀ r : List Nd, anyP isBD (Fm.enc b) = false → ev A V (Fm.enc b ++ r) = fv A V b :: ev A V r) →
      anyP isBD ((k, 0) :: (Fm.enc a ++ Fm.enc b)) = false → (∀ x y st, evs A V k 0 (x :: y :: st) = f x y :: st) → ev A V ((k, 0) :: (Fm.enc a ++ Fm.enc b) ++ r) = f (fv A V a) (fv A V b) :: ev A V r := by
    intro k a b r f ha hb h hf
    rw [anyP_mem] at h
    show evs A V k 0 (ev A V (Fm.enc a ++ Fm.enc b ++ r)) = _
    rw [List.append_assoc, ha _ (anyP_mem.2 fun x hx => h x (by simp [hx])), hb _ (anyP_mem.2 fun x hx => h x (by simp [hx])), hf]
  induction t with
  | var v => intro r _; show evs A V 0 (v.val : Int) _ = _; unfold evs; rw [if_pos rfl]; rfl
  | fls => intro r _; rfl
  | and a b iha ihb => intro r h; exact bin (f := fun x y => x &&& y) iha ihb h (fun _ _ _ => rfl)
  | or a b iha ihb => intro r h; exact bin (f := fun x y => x ||| y) iha ihb h (fun _ _ _ => rfl)
  | imp a b iha ihb => intro r h; exact bin (f := ar A) iha ihb h (fun _ _ _ => rfl)
  | box a => intro r h; exact absurd (anyP_mem.1 h (5, 0) (by simp [Fm.enc])) (by simp [isBD])
  | dia a => intro r h; exact absurd (anyP_mem.1 h (6, 0) (by simp [Fm.enc])) (by simp [isBD])
/-- Each node finds its parts on the stack. -/
def Fed (A V : List Nat) (xs : List Nd) : Prop := ∀ i, i < xs.length → (kd xs i = 2 ∨ kd xs i = 3 ∨ kd xs i = 4) → 2 ≤ (ev A V (xs.drop (i + 1))).length
theorem Fed.nil_ (A V : List Nat) : Fed A V [] := fun i hi => absurd hi (by simp)
theorem Fed.cons {A V : List Nat} {x : Nd} {xs : List Nd} (h : Fed A V xs) (h1 : (x.1 = 2 ∨ x.1 = 3 ∨ x.1 = 4) → 2 ≤ (ev A V xs).length) : Fed A V (x :: xs) := by
  intro i hi hk
  cases i with
  | zero => exact h1 hk
  | succ i => exact h i (by simpa using hi) hk
theorem fed_enc (A V : List Nat) : ∀ (t : Tree) (r : List Nd), anyP isBD (Fm.enc t) = false → Fed A V r → Fed A V (Fm.enc t ++ r) := by
  intro t
  have bin : ∀ {k : Int} {a b : Tree} {r : List Nd}, (∀ r : List Nd, anyP isBD (Fm.enc a) = false → Fed A V r → Fed A V (Fm.enc a ++ r)) → (∀ r : List Nd, anyP isBD (Fm.enc b) = false → Fed A V r → Fed A V (Fm.enc b ++ r)) →
      anyP isBD ((k, 0) :: (Fm.enc a ++ Fm.enc b)) = false → Fed A V r → Fed A V ((k, 0) :: (Fm.enc a ++ Fm.enc b) ++ r) := by
    intro k a b r ha hb h hr
    rw [anyP_mem] at h
    have h1 : anyP isBD (Fm.enc a) = false := anyP_mem.2 fun x hx => h x (by simp [hx])
    have h2 : anyP isBD (Fm.enc b) = false := anyP_mem.2 fun x hx => h x (by simp [hx])
    rw [List.cons_append, List.append_assoc]
    refine (ha _ h1 (hb _ h2 hr)).cons fun _ => ?_
    rw [ev_enc A V a _ h1, ev_enc A V b _ h2]
    simp
  have zero : ∀ {x : Nd} {r : List Nd}, ¬ (x.1 = 2 ∨ x.1 = 3 ∨ x.1 = 4) → Fed A V r → Fed A V ([x] ++ r) := fun hx hr => hr.cons fun h => absurd h hx
  induction t with
  | var v => intro r _ hr; exact zero (by show ¬ ((0 : Int) = 2 ∨ (0 : Int) = 3 ∨ (0 : Int) = 4); decide) hr
  | fls => intro r _ hr; exact zero (by decide) hr
  | and a b iha ihb => intro r h hr; exact bin iha ihb h hr
  | or a b iha ihb => intro r h hr; exact bin iha ihb h hr
  | imp a b iha ihb => intro r h hr; exact bin iha ihb h hr
  | box a => intro r h; exact absurd (anyP_mem.1 h (5, 0) (by simp [Fm.enc])) (by simp [isBD])
  | dia a => intro r h; exact absurd (anyP_mem.1 h (6, 0) (by simp [Fm.enc])) (by simp [isBD])
theorem fed_of {A V : List Nat} {t : Tree} (h : anyP isBD (Fm.enc t) = false) : Fed A V (Fm.enc t) := by
  have := fed_enc A V t [] h (Fed.nil_ A V)
  rwa [List.append_nil] at this
theorem ev_of {A V : List Nat} {t : Tree} (h : anyP isBD (Fm.enc t) = false) : ev A V (Fm.enc t) = [fv A V t] := by
  have := ev_enc A V t [] h
  rwa [List.append_nil] at this
theorem ev_drop {A V : List Nat} {xs : List Nd} {i : Nat} (h : i < xs.length) : ev A V (xs.drop i) = evs A V (kd xs i) (sy xs i) (ev A V (xs.drop (i + 1))) := by
  rw [List.drop_eq_getElem_cons h]
  show evs A V (xs[i]).1 (xs[i]).2 _ = _
  simp [kd, sy, List.getD, h]
/-- All values on the stack are sets of elements. -/
theorem ev_sm {A V : List Nat} (hV : ∀ m ∈ V, m < 2 ^ A.length) : ∀ xs : List Nd, ∀ m ∈ ev A V xs, m < 2 ^ A.length
  | [] => fun m h => absurd h (by simp [ev])
  | x :: xs => by
    have ih := ev_sm hV xs
    have hp : 0 < 2 ^ A.length := Nat.pow_pos (by omega)
    have hg : ∀ i, (ev A V xs).getD i 0 < 2 ^ A.length := by
      intro i
      by_cases h : i < (ev A V xs).length
      · simp only [List.getD_eq_getElem?_getD, List.getElem?_eq_getElem h, Option.getD_some]; exact ih _ (List.getElem_mem h)
      · rw [List.getD_eq_getElem?_getD, List.getElem?_eq_none (by omega)]; exact hp
    intro m hm
    have hm : m ∈ evs A V x.1 x.2 (ev A V xs) := hm
    unfold evs at hm
    repeat' split at hm
    all_goals rcases List.mem_cons.1 hm with rfl | hm
    · unfold nt
      by_cases h : x.2.toNat < V.length
      · simp only [List.getD_eq_getElem?_getD, List.getElem?_eq_getElem h, Option.getD_some]; exact hV _ (List.getElem_mem h)
      · rw [List.getD_eq_getElem?_getD, List.getElem?_eq_none (by omega)]; exact hp
    · exact ih _ hm
    · exact Nat.and_lt_two_pow _ (hg 1)
    · exact ih _ (List.mem_of_mem_drop hm)
    · exact Nat.or_lt_two_pow (hg 0) (hg 1)
    · exact ih _ (List.mem_of_mem_drop hm)
    · exact bx_lt _ _
    · exact ih _ (List.mem_of_mem_drop hm)
    · exact hp
    · exact ih _ hm
theorem enc_nd : ∀ (t : Tree), ∀ x ∈ Fm.enc t, (x.1 = 0 ∧ ∃ v : Nat, x.2 = (v : Int) ∧ v < 6) ∨ x.1 = 1 ∨ x.1 = 2 ∨ x.1 = 3 ∨ x.1 = 4 ∨ x.1 = 5 ∨ x.1 = 6 := by
  intro t
  induction t with
  | var v => intro x hx; simp [Fm.enc] at hx; subst hx; exact .inl ⟨rfl, v.val, rfl, v.isLt⟩
  | fls => intro x hx; simp [Fm.enc] at hx; subst hx; exact .inr (.inl rfl)
  | and a b iha ihb =>
    intro x hx; simp [Fm.enc] at hx; rcases hx with rfl | hx | hx
    · exact .inr (.inr (.inl rfl))
    · exact iha x hx
    · exact ihb x hx
  | or a b iha ihb =>
    intro x hx; simp [Fm.enc] at hx; rcases hx with rfl | hx | hx
    · exact .inr (.inr (.inr (.inl rfl)))
    · exact iha x hx
    · exact ihb x hx
  | imp a b iha ihb =>
    intro x hx; simp [Fm.enc] at hx; rcases hx with rfl | hx | hx
    · exact .inr (.inr (.inr (.inr (.inl rfl))))
    · exact iha x hx
    · exact ihb x hx
  | box a iha =>
    intro x hx; simp [Fm.enc] at hx; rcases hx with rfl | hx
    · exact .inr (.inr (.inr (.inr (.inr (.inl rfl)))))
    · exact iha x hx
  | dia a iha =>
    intro x hx; simp [Fm.enc] at hx; rcases hx with rfl | hx
    · exact .inr (.inr (.inr (.inr (.inr (.inr rfl)))))
    · exact iha x hx
theorem enc_kinds {t : Tree} (h : anyP isBD (Fm.enc t) = false) {i : Nat} (hi : i < (Fm.enc t).length) :
    (kd (Fm.enc t) i = 0 ∧ ∃ v : Nat, sy (Fm.enc t) i = (v : Int) ∧ v < 6) ∨ kd (Fm.enc t) i = 1 ∨ kd (Fm.enc t) i = 2 ∨ kd (Fm.enc t) i = 3 ∨ kd (Fm.enc t) i = 4 := by
  have h1 : kd (Fm.enc t) i = ((Fm.enc t)[i]).1 := by simp [kd, List.getD, hi]
  have h2 : sy (Fm.enc t) i = ((Fm.enc t)[i]).2 := by simp [sy, List.getD, hi]
  rw [h1, h2]
  have hb := anyP_mem.1 h _ (List.getElem_mem hi)
  rcases enc_nd t _ (List.getElem_mem hi) with h3 | h3 | h3 | h3 | h3 | h3 | h3
  · exact .inl h3
  · exact .inr (.inl h3)
  · exact .inr (.inr (.inl h3))
  · exact .inr (.inr (.inr (.inl h3)))
  · exact .inr (.inr (.inr (.inr h3)))
  · rw [h3] at hb; simp [isBD] at hb
  · rw [h3] at hb; simp [isBD] at hb
end Go.Proofs.YtoogcooggdahnaaGreat

/- Appends of numbers. -/
namespace Go.Proofs.YtoogcooggdahnaaGreat
open Go.RowKit

/-- 'out = append(out, x)' onto a row of numbers of the call's own. -/
theorem wpList_appI {ops : Array Oper} {rest : List Oper} {o : Oper} {a : Act} {Q : Exit → Act → World → Prop} {w w0 : World} (s x : Operand) (hgd : o.guard = none)
    (ho : o.op = .call { callee := .builtin .append, args := #[s, x], argTypes := #[22, 22] })
    (v : Value) (L : List Int) (hs : a.eval s = v) (hown : OwnI w w0.heap.size v L) (hg : Grew w0 w) (vx : Value) (k : Int) (hx : a.eval x = vx) (hr : Rd w 1 vx 1 [.int .i64 k]) (hn : L.length ≤ 1048576)
    (h : ∀ v' w', OwnI w' w0.heap.size v' (L ++ [k]) → Grew w0 w' → w.grownBy w' v.ownBlock → wpList Tryz.prog ops Q rest (a.put o.dst v') w') : wpList Tryz.prog ops Q (o :: rest) a w := by
  obtain ⟨i0, hi0, hz0, hz1, hz2⟩ := info_parts Tryz.infoI
  refine wpList_append_rd w hgd s x _ ho w0.heap.size 2 i0 _ 1 8 Tryz.underlying22 hi0 hz0 hz1 hz2 rfl (by omega) v L.length (icells L) hs hown vx 1 [.int .i64 k] hx hr (by simp [Value.oneCell']) (by unfold maxLen; omega) (by omega) hg.size ?_
  intro v' w' h1 h2 h3
  refine h v' w' ?_ (hg.grown h2 fun k hk => (hown.lt k hk).1) h2
  unfold OwnI
  rw [List.length_append, icells_append]
  exact h1
theorem rd_litI (w : World) (k : Int) (t : TypeId) : Rd (w.alloc (.cells #[.int .i64 k] t)) 1 (.slice (some ⟨w.heap.size, 0, none⟩) 1 1) 1 [.int .i64 k] := by
  refine ⟨rfl, by omega, .inr ⟨w.heap.size, 0, 1, rfl, by omega, by omega, by simp, fun j x hx => ?_⟩⟩
  have hj : j = 0 := by
    have := (List.getElem?_eq_some_iff.1 hx).1
    simp at this
    omega
  subst hj
  simp at hx
  subst hx
  simp
theorem own_emptyI (w : World) : OwnI (w.alloc (.cells #[] 2)) w.heap.size (.slice (some ⟨w.heap.size, 0, none⟩) 0 0) [] :=
  World.ownsRow_lit (e := 2) (size := 1) w #[] 0 (Nat.le_refl _) (by omega) rfl
end Go.Proofs.YtoogcooggdahnaaGreat

/- Masks: single members (has, within; l01Bit, l01One). -/
namespace Go.Proofs.YtoogcooggdahnaaGreat
open Go.RowKit
theorem has_q (m i : Nat) (hm : m < 9223372036854775808) (hi : i < 64) (w : World) :
    Calls Tryz.prog 23 #[.int .i64 (m : Int), .int .i64 (i : Int)] w fun e w' => e = .returned (.bool (m.testBit i)) ∧ w' = w := by
  have hb := bit_e m i hm
  go_enter Tryz.func23, Tryz.ntmps23
  go_wp2_with fail
  go_ret
  exact ⟨rfl, rfl⟩
theorem has_c (m i : Nat) (hm : m < 9223372036854775808) (hi : i < 64) (w : World) :
    Calls Tryz.prog 23 #[.int .i64 (m : Int), .int .i64 (i : Int)] w fun e w' => e = .returned (.bool (m.testBit i)) ∧ Grew w w' :=
  (has_q m i hm hi w).mono fun _ _ h => ⟨h.1, h.2 ▸ Grew.refl _⟩
theorem l01Bit_q (m i : Nat) (hm : m < 9223372036854775808) (hi : i < 64) (w : World) :
    Calls Tryz.prog 18 #[.int .i64 (m : Int), .int .i64 (i : Int)] w fun e w' => e = .returned (.bool (m.testBit i)) ∧ w' = w := by
  have hb := bit_e m i hm
  go_enter Tryz.func18, Tryz.ntmps18
  go_wp2_with fail
  go_ret
  exact ⟨rfl, rfl⟩
theorem l01Bit_c (m i : Nat) (hm : m < 9223372036854775808) (hi : i < 64) (w : World) :
    Calls Tryz.prog 18 #[.int .i64 (m : Int), .int .i64 (i : Int)] w fun e w' => e = .returned (.bool (m.testBit i)) ∧ Grew w w' :=
  (l01Bit_q m i hm hi w).mono fun _ _ h => ⟨h.1, h.2 ▸ Grew.refl _⟩
theorem l01One_q (i : Nat) (hi : i ≤ 30) (w : World) :
    Calls Tryz.prog 48 #[.int .i64 (i : Int)] w fun e w' => e = .returned (.int .i64 ((2 ^ i : Nat) : Int)) ∧ w' = w := by
  have hb := wrap_pow hi
  go_enter Tryz.func48, Tryz.ntmps48
  go_wp2_with fail
  go_ret
  exact ⟨congrArg (fun b => Ending.returned (.int .i64 b)) hb, rfl⟩
theorem l01One_c (i : Nat) (hi : i ≤ 30) (w : World) :
    Calls Tryz.prog 48 #[.int .i64 (i : Int)] w fun e w' => e = .returned (.int .i64 ((2 ^ i : Nat) : Int)) ∧ Grew w w' :=
  (l01One_q i hi w).mono fun _ _ h => ⟨h.1, h.2 ▸ Grew.refl _⟩
theorem l01Full_q (i : Nat) (hi : i ≤ 30) (w : World) :
    Calls Tryz.prog 30 #[.int .i64 (i : Int)] w fun e w' => e = .returned (.int .i64 (((2 ^ i : Nat) : Int) - 1)) ∧ w' = w := by
  have hp := pow30' hi
  have HO := Lib.hid (l01One_q i hi)
  generalize (2 ^ i : Nat) = p at *
  go_enter Tryz.func30, Tryz.ntmps30
  go_wp2_with fail
  refine (HO.out _).mono ?_
  rintro e w1 ⟨rfl, rfl⟩
  go_wp2_with fail
  go_ret
  exact ⟨rfl, rfl⟩
theorem l01Full_c (i : Nat) (hi : i ≤ 30) (w : World) :
    Calls Tryz.prog 30 #[.int .i64 (i : Int)] w fun e w' => e = .returned (.int .i64 (((2 ^ i : Nat) : Int) - 1)) ∧ Grew w w' :=
  (l01Full_q i hi w).mono fun _ _ h => ⟨h.1, h.2 ▸ Grew.refl _⟩
theorem within_q (m i : Nat) (hm : m < 9223372036854775808) (hi : i < 9223372036854775808) (w : World) :
    Calls Tryz.prog 87 #[.int .i64 (m : Int), .int .i64 (i : Int)] w fun e w' => e = .returned (.bool (decide (dif m i = 0))) ∧ w' = w := by
  have hb := andNot_i64 m i hm hi
  go_enter Tryz.func87, Tryz.ntmps87
  go_wp2_with fail
  go_ret
  refine ⟨congrArg (fun b => Ending.returned (.bool b)) ?_, rfl⟩
  rw [Bool.eq_iff_iff]
  simp
theorem within_c (m i : Nat) (hm : m < 9223372036854775808) (hi : i < 9223372036854775808) (w : World) :
    Calls Tryz.prog 87 #[.int .i64 (m : Int), .int .i64 (i : Int)] w fun e w' => e = .returned (.bool (decide (dif m i = 0))) ∧ Grew w w' :=
  (within_q m i hm hi w).mono fun _ _ h => ⟨h.1, h.2 ▸ Grew.refl _⟩
theorem inRange_q (k lo hi : Int) (w : World) : Calls Tryz.prog 38 #[.int .i64 k, .int .i64 lo, .int .i64 hi] w fun e w' => e = .returned (.bool (decide (lo ≤ k ∧ k ≤ hi))) ∧ w' = w := by
  by_cases h : lo ≤ k
  · have hd : decide (lo ≤ k ∧ k ≤ hi) = decide (k ≤ hi) := by simp [h]
    rw [hd]
    go_enter Tryz.func38, Tryz.ntmps38
    go_wp2_with fail
    go_ret
    exact ⟨rfl, rfl⟩
  · have hd : decide (lo ≤ k ∧ k ≤ hi) = false := by simp [h]
    rw [hd]
    go_enter Tryz.func38, Tryz.ntmps38
    go_wp2_with fail
    go_ret
    exact ⟨rfl, rfl⟩
theorem l01In_q (k lo hi : Int) (w : World) : Calls Tryz.prog 17 #[.int .i64 k, .int .i64 lo, .int .i64 hi] w fun e w' => e = .returned (.bool (decide (lo ≤ k ∧ k ≤ hi))) ∧ w' = w := by
  by_cases h : lo ≤ k
  · have hd : decide (lo ≤ k ∧ k ≤ hi) = decide (k ≤ hi) := by simp [h]
    rw [hd]
    go_enter Tryz.func17, Tryz.ntmps17
    go_wp2_with fail
    go_ret
    exact ⟨rfl, rfl⟩
  · have hd : decide (lo ≤ k ∧ k ≤ hi) = false := by simp [h]
    rw [hd]
    go_enter Tryz.func17, Tryz.ntmps17
    go_wp2_with fail
    go_ret
    exact ⟨rfl, rfl⟩
end Go.Proofs.YtoogcooggdahnaaGreat

/- Masks: rows of members (membersOf, l01List). -/
namespace Go.Proofs.YtoogcooggdahnaaGreat
open Go.RowKit
theorem membersOf_c (m : Nat) (hm : m < 1073741824) (w : World) :
    Calls Tryz.prog 91 #[.int .i64 (m : Int)] w (GivesI w (zs (mbs m))) := by
  obtain ⟨M, hM⟩ : ∃ M, M = zs (mbs m) := ⟨_, rfl⟩
  rw [← hM]
  have HZ := Lib.hid (fun n hn h => (congrArg zs (mbs_of (n := n) hm h hn)).trans hM.symm)
  have HH := Lib.hid (fun i (hi : i < 64) => has_c m i (by omega) hi)
  have HY := Lib.hid (fun n h => (congrArg zs (@mb_yes m n h)).trans (zs_append _ _))
  have HN := Lib.hid (fun n h => congrArg zs (@mb_no m n h))
  have HL := Lib.hid (fun n => Nat.le_trans (Nat.le_of_eq (zs_len (mb m n))) (mb_len m n))
  have HD := Lib.hid (div_e m)
  have HT := Lib.hid (fun n => @div_zero_lt m n)
  have HT30 := Lib.hid (show m / 2 ^ 30 = 0 from Nat.div_eq_of_lt hm)
  clear hM hm
  go_enter Tryz.func91, Tryz.ntmps91
  go_wp2_with fail
  go_loopw [3, 4] (fun s i wr => ∃ j : Nat, j ≤ 30 ∧ i = .int .i64 j ∧ Grew w wr ∧ OwnI wr w.heap.size s (zs (mb m j))) (fun _ i _ => 30 - (intOf i).toNat)
  case atStart => exact ⟨0, by omega, rfl, Grew.refl _, OwnI.nil_ _ _⟩
  case round =>
    obtain ⟨j, hj, rfl, hB, hO⟩ := hrel
    have hd := HD.out j
    by_cases hz : m / 2 ^ j = 0
    · have hr := Lib.hid (HZ.out j hj hz)
      rw [hz] at hd
      go_wp2_with fail
      go_ret
      rw [hr.out] at hO
      exact ⟨_, rfl, hO, hB⟩
    · have hj' : j < 30 := by
        rcases Nat.lt_or_ge j 30 with h | h
        · exact h
        · obtain rfl : j = 30 := by omega
          exact absurd HT30.out hz
      have hq : (0 : Int) < ((m / 2 ^ j : Nat) : Int) := Int.natCast_pos.2 (Nat.pos_of_ne_zero hz)
      generalize ((m / 2 ^ j : Nat) : Int) = q at *
      clear hz
      have hC := Lib.hid (HH.out j (by omega))
      have hY := Lib.hid (HY.out j)
      have hN := Lib.hid (HN.out j)
      have hl := HL.out j
      generalize m.testBit j = b at *
      go_wp2_with fail
      refine (hC.out _).mono ?_
      rintro e w1 ⟨rfl, hg1⟩
      have hB1 := hB.trans hg1
      have hO1 := hO.grew hg1
      cases b with
      | true =>
        have hy := hY.out rfl
        go_wp2_with (first | (at_builtin; refine wpList_appI (w0 := w) _ _ rfl rfl _ (zs (mb m j)) rfl (hO1.grew (Grew.alloc (Grew.refl _) _)) (hB1.alloc _) _ (j : Int) rfl (rd_litI _ _ _) (by omega) ?_; intro v2 w2 hO2 hg2 _))
        go_roundw
        case rel => exact ⟨j + 1, by omega, by go_num, hg2, by rw [hy]; exact hO2⟩
        case measure => simp [intOf]; omega
      | false =>
        have hn := hN.out rfl
        go_wp2_with fail
        go_roundw
        case rel => exact ⟨j + 1, by omega, by go_num, hB1, by rw [hn]; exact hO1⟩
        case measure => simp [intOf]; omega

end Go.Proofs.YtoogcooggdahnaaGreat

/- Masks: images (image, l01Image). -/
namespace Go.Proofs.YtoogcooggdahnaaGreat
open Go.RowKit
theorem ints_sliceN {w : World} {v : Value} {L : List Nat} (h : Ints w v (zs L)) : ∃ A c, v = .slice A L.length c := by
  obtain ⟨A, c, e⟩ := ints_slice h
  exact ⟨A, c, by rw [e, zs_len]⟩
theorem cellsN {w : World} {A : _} {c : Nat} {L : List Nat} (h : Ints w (.slice A L.length c) (zs L)) (h0 : 0 < L.length) :
    ∃ b o, A = some ⟨b, o, none⟩ ∧ ∀ i, i < L.length → ∀ W, Grew w W → W.cell? ⟨b, o + i, none⟩ = some (.int .i64 ((nt L i : Nat) : Int)) := by
  rcases h.open_ with ⟨_, h1⟩ | ⟨b, o, c', e, _, _, _, hc⟩
  · have := congrArg List.length h1
    rw [zs_len, List.length_nil] at this
    omega
  · injection e with e1 e2 e3
    subst e1
    exact ⟨b, o, rfl, fun i hi W hW => by rw [hc i (by rw [zs_len]; exact hi) W hW, zs_it hi]⟩

theorem orK_next (A is : List Nat) (k : Nat) : orK A is (k + 1) = orK A is k ||| nt A (nt is k) := rfl
theorem image_c (v : Value) (A : List Nat) (m : Nat) (w : World) (h : Ints w v (zs A)) (hA : Sm A) (hn30 : A.length ≤ 30) (hm : m < 2 ^ A.length) :
    Calls Tryz.prog 58 #[v, .int .i64 (m : Int)] w fun e w' => e = .returned (.int .i64 ((img A m : Nat) : Int)) ∧ Grew w w' := by
  have hm' : m < 1073741824 := Nat.lt_of_lt_of_le hm (pow30' hn30)
  have HM := Lib.hid (membersOf_c m hm')
  have HI := Lib.hid (fun i (hi : i < (mbs m).length) => mbs_lt hm (nt_mem hi))
  have HR := Lib.hid (show orK A (mbs m) (mbs m).length = img A m from rfl)
  have HX := Lib.hid (fun k => orK_next A (mbs m) k)
  have HS := Lib.hid (fun k => orK_sm (is := mbs m) hA k)
  have HT := Lib.hid (fun i (hi : i < A.length) => hA.at_ hi)
  have HO := Lib.hid (fun a b (ha : a < 1073741824) (hb : b < 1073741824) => or_i64 a b (by omega) (by omega))
  have hn30' := mbs_len m
  obtain ⟨A', c, rfl⟩ := ints_sliceN h
  have HC := Lib.hid (fun h0 => cellsN h h0)
  clear hm hm' h hA
  generalize img A m = R at *
  generalize mbs m = L at *
  generalize hNA : A.length = na at *
  clear hNA
  go_enter Tryz.func58, Tryz.ntmps58
  go_wp2_with fail
  refine (HM.out _).mono ?_
  rintro e w1 ⟨v, rfl, hO, hg1⟩
  obtain ⟨A2, c2, rfl⟩ := ints_sliceN hO.ints
  have HD := Lib.hid (fun h0 => cellsN hO.ints h0)
  clear hO
  generalize hNL : L.length = n at *
  clear hNL
  go_wp2_with fail
  go_loopw [5, 7, 11] (fun q _ i wr => ∃ j : Nat, j ≤ n ∧ i = .int .i64 j ∧ q = .int .i64 ((orK A L j : Nat) : Int) ∧ Grew w1 wr) (fun _ _ i _ => n - (intOf i).toNat)
  case atStart => exact ⟨0, by omega, rfl, rfl, Grew.refl _⟩
  case round =>
    obtain ⟨j, hj, rfl, rfl, hB⟩ := hrel
    by_cases hlt : j < n
    · have hi := HI.out j hlt
      obtain ⟨b, o, rfl, hcell⟩ := HD.out (by omega)
      obtain ⟨b2, o2, rfl, hcell2⟩ := HC.out (by omega)
      have k1 := hcell j hlt _ hB
      have k2 := hcell2 _ hi _ (hg1.trans hB)
      have ho := HO.out _ _ (HS.out j) (HT.out _ hi)
      have hx := Lib.hid (HX.out j)
      clear hcell hcell2
      generalize nt L j = x at *
      generalize nt A x = y at *
      generalize hsj : orK A L j = sj at *
      clear hsj
      go_wp2_with fail
      go_roundw
      case rel => exact ⟨j + 1, by omega, by go_num, by rw [hx.out], hB⟩
      case measure => simp [intOf]; omega
    · obtain rfl : j = n := by omega
      have hr := Lib.hid HR.out
      go_wp2_with fail
      go_ret
      exact ⟨by rw [hr.out]; rfl, hg1.trans hB⟩
theorem imK_yes {A : List Nat} {m k : Nat} (h : m.testBit k = true) : imK A m (k + 1) = imK A m k ||| nt A k := by
  show (if _ then _ else _) = _
  rw [if_pos h]
theorem imK_no {A : List Nat} {m k : Nat} (h : m.testBit k = false) : imK A m (k + 1) = imK A m k := by
  show (if _ then _ else _) = _
  rw [if_neg (by rw [h]; simp)]
theorem l01Image_c (v : Value) (A : List Nat) (m : Nat) (w : World) (h : Ints w v (zs A)) (hA : Sm A) (hn30 : A.length ≤ 30) (hm : m < 2 ^ A.length) :
    Calls Tryz.prog 45 #[v, .int .i64 (m : Int)] w fun e w' => e = .returned (.int .i64 ((img A m : Nat) : Int)) ∧ Grew w w' := by
  have hm' : m < 1073741824 := Nat.lt_of_lt_of_le hm (pow30' hn30)
  have HH := Lib.hid (fun i (hi : i < 64) => l01Bit_c m i (by omega) hi)
  have HR := Lib.hid (img_imK hm hn30)
  have HY := Lib.hid (fun k => @imK_yes A m k)
  have HN := Lib.hid (fun k => @imK_no A m k)
  have HS := Lib.hid (fun k hk => imK_sm (m := m) hA k hk)
  have HT := Lib.hid (fun i (hi : i < A.length) => hA.at_ hi)
  have HO := Lib.hid (fun a b (ha : a < 1073741824) (hb : b < 1073741824) => or_i64 a b (by omega) (by omega))
  obtain ⟨A', c, rfl⟩ := ints_sliceN h
  have HC := Lib.hid (fun h0 => cellsN h h0)
  clear hm hm' h hA
  generalize img A m = R at *
  generalize hNA : A.length = n at *
  clear hNA
  go_enter Tryz.func45, Tryz.ntmps45
  go_wp2_with fail
  go_loopw [5, 6] (fun q i wr => ∃ j : Nat, j ≤ n ∧ i = .int .i64 j ∧ q = .int .i64 ((imK A m j : Nat) : Int) ∧ Grew w wr) (fun _ i _ => n - (intOf i).toNat)
  case atStart => exact ⟨0, by omega, rfl, rfl, Grew.refl _⟩
  case round =>
    obtain ⟨j, hj, rfl, rfl, hB⟩ := hrel
    by_cases hlt : j < n
    · obtain ⟨b2, o2, rfl, hcell2⟩ := HC.out (by omega)
      have hH := Lib.hid (HH.out j (by omega))
      have ho := HO.out _ _ (HS.out j (by omega)) (HT.out j hlt)
      have hY := Lib.hid (HY.out j)
      have hN := Lib.hid (HN.out j)
      have hcell := Lib.hid (hcell2 j hlt)
      clear hcell2
      generalize nt A j = y at *
      generalize m.testBit j = t at *
      generalize hsj : imK A m j = sj at *
      clear hsj
      go_wp2_with fail
      refine (hH.out _).mono ?_
      rintro e w2 ⟨rfl, hg2⟩
      have hB2 := hB.trans hg2
      have k1 := hcell.out _ hB2
      cases t with
      | true =>
        have hy := Lib.hid (hY.out rfl)
        go_wp2_with fail
        go_roundw
        case rel => exact ⟨j + 1, by omega, by go_num, by rw [hy.out], hB2⟩
        case measure => simp [intOf]; omega
      | false =>
        have hn := Lib.hid (hN.out rfl)
        go_wp2_with fail
        go_roundw
        case rel => exact ⟨j + 1, by omega, by go_num, by rw [hn.out], hB2⟩
        case measure => simp [intOf]; omega
    · obtain rfl : j = n := by omega
      have hr := Lib.hid HR.out
      go_wp2_with fail
      go_ret
      exact ⟨by rw [hr.out]; rfl, hB⟩
end Go.Proofs.YtoogcooggdahnaaGreat

/- Boxes: box of the program, l01Box of the reference. -/
namespace Go.Proofs.YtoogcooggdahnaaGreat
open Go.RowKit

theorem box_q (v : Value) (A : List Nat) (m : Nat) (w : World) (h : Ints w v (zs A)) (hA : Sm A) (hn30 : A.length ≤ 30) (hm : m < 9223372036854775808) :
    Calls Tryz.prog 96 #[v, .int .i64 (m : Int)] w fun e w' => e = .returned (.int .i64 ((bx A m : Nat) : Int)) ∧ w' = w := by
  have HW := Lib.hid (fun a (ha : a < 1073741824) W => within_q a m (by omega) hm W)
  have HR := Lib.hid (show bxK A m A.length = bx A m from rfl)
  have HY := Lib.hid (fun k => @bxK_yes A m k)
  have HN := Lib.hid (fun k => @bxK_no A m k)
  have HS := Lib.hid (fun k (hk : k ≤ 30) => bxK_sm (A := A) (m := m) hk)
  have HT := Lib.hid (fun i (hi : i < A.length) => hA.at_ hi)
  have HO := Lib.hid (fun a b (ha : a < 1073741824) (hb : b < 1073741824) => or_i64 a b (by omega) (by omega))
  have HP := Lib.hid (fun k (hk : k ≤ 30) => wrap_pow hk)
  have HP2 := Lib.hid (fun k (hk : k < 30) => pow30 hk)
  obtain ⟨A', c, rfl⟩ := ints_sliceN h
  have HC := Lib.hid (fun h0 => cellsN h h0)
  clear hm h hA
  generalize bx A m = R at *
  generalize hNA : A.length = n at *
  clear hNA
  go_enter Tryz.func96, Tryz.ntmps96
  go_wp2_with fail
  go_loopw [5, 6, 7, 10] (fun q _ _ i wr => ∃ j : Nat, j ≤ n ∧ i = .int .i64 j ∧ q = .int .i64 ((bxK A m j : Nat) : Int) ∧ wr = w) (fun _ _ _ i _ => n - (intOf i).toNat)
  case atStart => exact ⟨0, by omega, rfl, rfl, rfl⟩
  case round =>
    obtain ⟨j, hj, rfl, rfl, rfl⟩ := hrel
    by_cases hlt : j < n
    · obtain ⟨b2, o2, rfl, hcell2⟩ := HC.out (by omega)
      have hH := Lib.hid (HW.out _ (HT.out j hlt))
      have ho := HO.out _ _ (HS.out j (by omega)) (HP2.out j (by omega))
      have hp := HP.out j (by omega)
      have hY := Lib.hid (HY.out j)
      have hN := Lib.hid (HN.out j)
      have k1 := hcell2 j hlt _ (Grew.refl _)
      clear hcell2
      generalize nt A j = y at *
      generalize decide (dif y m = 0) = t at *
      generalize hsj : bxK A m j = sj at *
      clear hsj
      generalize hpj : (2 ^ j : Nat) = pj at *
      clear hpj
      go_wp2_with fail
      refine (hH.out _).mono ?_
      rintro e w2 ⟨rfl, rfl⟩
      cases t with
      | true =>
        have hy := Lib.hid (hY.out rfl)
        go_wp2_with fail
        go_roundw
        case rel => exact ⟨j + 1, by omega, by go_num, by rw [hy.out], by trivial⟩
        case measure => simp [intOf]; omega
      | false =>
        have hn := Lib.hid (hN.out rfl)
        go_wp2_with fail
        go_roundw
        case rel => exact ⟨j + 1, by omega, by go_num, by rw [hn.out], by trivial⟩
        case measure => simp [intOf]; omega
    · obtain rfl : j = n := by omega
      have hr := Lib.hid HR.out
      go_wp2_with fail
      go_ret
      exact ⟨by rw [hr.out]; rfl, rfl⟩
theorem l01Box_q (v : Value) (A : List Nat) (m : Nat) (w : World) (h : Ints w v (zs A)) (hA : Sm A) (hn30 : A.length ≤ 30) (hm : m < 9223372036854775808) :
    Calls Tryz.prog 71 #[v, .int .i64 (m : Int)] w fun e w' => e = .returned (.int .i64 ((bx A m : Nat) : Int)) ∧ ∃ d, w' = w.drewN d := by
  have HR := Lib.hid (show bxK A m A.length = bx A m from rfl)
  have HY := Lib.hid (fun k => @bxK_yes A m k)
  have HN := Lib.hid (fun k => @bxK_no A m k)
  have HS := Lib.hid (fun k (hk : k ≤ 30) => bxK_sm (A := A) (m := m) hk)
  have HT := Lib.hid (fun i (hi : i < A.length) => hA.at_ hi)
  have HO := Lib.hid (fun a b (ha : a < 1073741824) (hb : b < 1073741824) => or_i64 a b (by omega) (by omega))
  have HA := Lib.hid (fun a (ha : a < 1073741824) => and_i64 a m (by omega) hm)
  have HE := Lib.hid (fun a : Nat => show (((a &&& m : Nat) : Int) == (a : Int)) = decide (dif a m = 0) from by
    rw [Bool.eq_iff_iff, decide_eq_true_eq, ← and_dif, beq_iff_eq]
    omega)
  have HOne := Lib.hid (fun i (hi : i ≤ 30) W => l01One_q i hi W)
  have HP2 := Lib.hid (fun k (hk : k < 30) => pow30 hk)
  obtain ⟨A', c, rfl⟩ := ints_sliceN h
  have HC := Lib.hid (fun h0 => cellsN h h0)
  clear hm h hA
  generalize bx A m = R at *
  generalize hNA : A.length = n at *
  clear hNA
  go_enter Tryz.func71, Tryz.ntmps71
  go_wp2_with fail
  go_loopw [5, 6] (fun q i wr => ∃ j d : Nat, j ≤ n ∧ i = .int .i64 j ∧ q = .int .i64 ((bxK A m j : Nat) : Int) ∧ wr = w.drewN d) (fun _ i _ => n - (intOf i).toNat)
  case atStart => exact ⟨0, 0, by omega, rfl, rfl, rfl⟩
  case round =>
    obtain ⟨j, d, hj, rfl, rfl, rfl⟩ := hrel
    by_cases hlt : j < n
    · obtain ⟨b2, o2, rfl, hcell2⟩ := HC.out (by omega)
      have hH := Lib.hid (HOne.out j (by omega))
      have ho := HO.out _ _ (HS.out j (by omega)) (HP2.out j (by omega))
      have ha := HA.out _ (HT.out j hlt)
      have he := HE.out (nt A j)
      have hY := Lib.hid (HY.out j)
      have hN := Lib.hid (HN.out j)
      have k1 := hcell2 j hlt _ (Grew.refl _)
      have hgd : Grew w (w.drewN d) := (Grew.refl w).drewN d
      clear hcell2
      generalize nt A j = y at *
      generalize y &&& m = ym at *
      generalize decide (dif y m = 0) = t at *
      generalize hsj : bxK A m j = sj at *
      clear hsj
      generalize hpj : (2 ^ j : Nat) = pj at *
      clear hpj
      go_wp2_with fail
      go_region
      cases t with
      | true =>
        have hy := Lib.hid (hY.out rfl)
        go_wp2_with fail
        refine (hH.out _).mono ?_
        rintro e w2 ⟨rfl, rfl⟩
        go_wp2_with fail
        go_roundw
        case rel => exact ⟨j + 1, _, by omega, by go_num, by rw [hy.out], by trivial⟩
        case measure => simp [intOf]; omega
      | false =>
        have hn := Lib.hid (hN.out rfl)
        go_wp2_with fail
        go_roundw
        case rel => exact ⟨j + 1, _, by omega, by go_num, by rw [hn.out], by trivial⟩
        case measure => simp [intOf]; omega
    · obtain rfl : j = n := by omega
      have hr := Lib.hid HR.out
      go_wp2_with fail
      go_ret
      exact ⟨by rw [hr.out]; rfl, d, rfl⟩
end Go.Proofs.YtoogcooggdahnaaGreat

/- Implications of sets: all, imply of the program, l17Arrow of the reference. -/
namespace Go.Proofs.YtoogcooggdahnaaGreat
open Go.RowKit

theorem posAll_c (n : Nat) (v : Value) (w : World) (hv : ∃ A m c, v = .slice A m c) (hn : n ≤ 30) :
    Calls Tryz.prog 39 #[.agg #[.int .i64 (n : Int), v]] w fun e w' => e = .returned (.int .i64 ((full n : Nat) : Int)) ∧ Grew w w' := by
  have h1 := wrap_pow hn
  have h2 := pow30' hn
  have h3 : 0 < 2 ^ n := Nat.pow_pos (by omega)
  have hf := Lib.hid (full_cast n)
  have hg := (Grew.refl w).alloc (.cells #[.int .i64 (n : Int), v] 30)
  obtain ⟨A, m, c, rfl⟩ := hv
  generalize full n = F at *
  generalize (2 ^ n : Nat) = p at *
  go_enter Tryz.func39, Tryz.ntmps39
  go_wp2_with fail
  go_ret
  refine ⟨?_, hg⟩
  have hf := hf.out
  rw [hf]
  rfl
theorem posImply_c (v : Value) (A : List Nat) (a b : Nat) (w : World) (h : Ints w v (zs A)) (hA : Rl A) (ha : a < 1073741824) (hb : b < 1073741824) :
    Calls Tryz.prog 63 #[.agg #[.int .i64 (A.length : Int), v], .int .i64 (a : Int), .int .i64 (b : Int)] w fun e w' => e = .returned (.int .i64 ((ar A a b : Nat) : Int)) ∧ Grew w w' := by
  have hf := full_lt A.length
  have hf2 := pow30' hA.1
  have hd := dif_le (a := full A.length) (b := a)
  have h1 := andNot_i64 (full A.length) a (by omega) (by omega)
  have h2 := or_i64 (dif (full A.length) a) b (by omega) (by omega)
  have h3 := Nat.or_lt_two_pow (n := 30) (x := dif (full A.length) a) (y := b) (by omega) (by omega)
  have KA := Lib.hid (fun W hv => posAll_c A.length v W hv hA.1)
  have KB := Lib.hid (fun W hW => box_q v A (dif (full A.length) a ||| b) W (h.grew hW) hA.sm hA.1 (by omega))
  have hr : Hid (bx A (dif (full A.length) a ||| b) = ar A a b) := Lib.hid rfl
  have hal := (Grew.refl w).alloc (.cells #[.int .i64 (A.length : Int), v] 30)
  obtain ⟨A', c, rfl⟩ := ints_sliceN h
  have KA := Lib.hid (fun W => KA.out W ⟨_, _, _, rfl⟩)
  clear hf hf2 hd h hA ha hb h3
  generalize bx A (dif (full A.length) a ||| b) = R at *
  generalize dif (full A.length) a ||| b = D at *
  generalize dif (full A.length) a = C at *
  generalize full A.length = F at *
  generalize A.length = n at *
  obtain ⟨w1, hw1⟩ : ∃ w1, w1 = w.alloc (.cells #[.int .i64 (n : Int), .slice A' n c] 30) := ⟨_, rfl⟩
  rw [← hw1] at hal
  have HG := Lib.hid hal
  have hk0 : w1.heap[w.heap.size]? = some (.cells #[.int .i64 (n : Int), .slice A' n c] 30 (0, 0)) := by rw [hw1]; exact blk_new w _
  have k0 : ∀ W, Grew w1 W → W.cell? ⟨w.heap.size, 0, none⟩ = some (.int .i64 (n : Int)) := fun W hW => by rw [blk_cell ((hW.block (blk_lt hk0)).trans hk0)]; rfl
  have k1 : ∀ W, Grew w1 W → W.cell? ⟨w.heap.size, 1, none⟩ = some (.slice A' n c) := fun W hW => by rw [blk_cell ((hW.block (blk_lt hk0)).trans hk0)]; rfl
  have hr1 := Grew.refl w1
  have hd1 := hr1.drew
  clear hal hk0
  go_enter Tryz.func63, Tryz.ntmps63
  go_wp2_with fail
  simp only [← hw1]
  clear hw1
  go_region_held3 (fun w' => Grew w1 w') (with_reducible assumption)
    (first | (go_at_call 96; refine (KB.out _ (HG.out.trans hk2)).mono ?_; rintro e w3 ⟨rfl, rfl⟩) | (go_at_call 39; refine (KA.out _).mono ?_; rintro e w2 ⟨rfl, hg2⟩; have hk2 := hd1.trans hg2))
  go_wp2_with fail
  go_ret
  exact ⟨by rw [hr.out]; rfl, HG.out.trans hk2⟩
theorem l17Arrow_c (v : Value) (A : List Nat) (a b : Nat) (w : World) (h : Ints w v (zs A)) (hA : Rl A) (ha : a < 1073741824) (hb : b < 1073741824) :
    Calls Tryz.prog 51 #[.agg #[.int .i64 (A.length : Int), v], .int .i64 (a : Int), .int .i64 (b : Int)] w fun e w' => e = .returned (.int .i64 ((ar A a b : Nat) : Int)) ∧ Grew w w' := by
  have hf := full_lt A.length
  have hf2 := pow30' hA.1
  have hd := dif_le (a := full A.length) (b := a)
  have h1 := andNot_i64 (full A.length) a (by omega) (by omega)
  have h2 := or_i64 (dif (full A.length) a) b (by omega) (by omega)
  have h3 := Nat.or_lt_two_pow (n := 30) (x := dif (full A.length) a) (y := b) (by omega) (by omega)
  have KA := Lib.hid (fun W => (l01Full_q A.length hA.1 W).mono fun e w' (h : _ ∧ _) => (⟨h.1.trans (by rw [full_cast]), h.2⟩ : e = .returned (.int .i64 ((full A.length : Nat) : Int)) ∧ w' = W))
  have KB := Lib.hid (fun W hW => l01Box_q v A (dif (full A.length) a ||| b) W (h.grew hW) hA.sm hA.1 (by omega))
  have hr : Hid (bx A (dif (full A.length) a ||| b) = ar A a b) := Lib.hid rfl
  have hal := (Grew.refl w).alloc (.cells #[.int .i64 (A.length : Int), v] 30)
  obtain ⟨A', c, rfl⟩ := ints_sliceN h
  clear hf hf2 hd h hA ha hb h3
  generalize bx A (dif (full A.length) a ||| b) = R at *
  generalize dif (full A.length) a ||| b = D at *
  generalize dif (full A.length) a = C at *
  generalize full A.length = F at *
  generalize A.length = n at *
  obtain ⟨w1, hw1⟩ : ∃ w1, w1 = w.alloc (.cells #[.int .i64 (n : Int), .slice A' n c] 30) := ⟨_, rfl⟩
  rw [← hw1] at hal
  have HG := Lib.hid hal
  have hk0 : w1.heap[w.heap.size]? = some (.cells #[.int .i64 (n : Int), .slice A' n c] 30 (0, 0)) := by rw [hw1]; exact blk_new w _
  have k0 : ∀ W, Grew w1 W → W.cell? ⟨w.heap.size, 0, none⟩ = some (.int .i64 (n : Int)) := fun W hW => by rw [blk_cell ((hW.block (blk_lt hk0)).trans hk0)]; rfl
  have k1 : ∀ W, Grew w1 W → W.cell? ⟨w.heap.size, 1, none⟩ = some (.slice A' n c) := fun W hW => by rw [blk_cell ((hW.block (blk_lt hk0)).trans hk0)]; rfl
  have hr1 := Grew.refl w1
  have hd1 := hr1.drew
  clear hal hk0
  go_enter Tryz.func51, Tryz.ntmps51
  go_wp2_with fail
  simp only [← hw1]
  clear hw1
  go_region_held3 (fun w' => Grew w1 w') (first | with_reducible assumption | exact Grew.drewN (Grew.refl _) _)
    (first | (go_at_call 71; refine (KB.out _ (HG.out.trans hk2)).mono ?_; rintro e w3 ⟨rfl, d3, rfl⟩) | (go_at_call 30; refine (KA.out _).mono ?_; rintro e w2 ⟨rfl, rfl⟩; have hk2 := hd1))
  go_wp2_with fail
  go_ret
  exact ⟨by rw [hr.out]; rfl, HG.out.trans ((Grew.refl _).drewN _)⟩
end Go.Proofs.YtoogcooggdahnaaGreat

/- forced of the program: a stack of values. -/
namespace Go.Proofs.YtoogcooggdahnaaGreat
open Go.RowKit
open Fm (Nd Tree)

/-- The stack: the top stands last. -/
def sk (st : List Nat) : List Int := zs st.reverse
theorem sk_len (st : List Nat) : (sk st).length = st.length := by unfold sk; rw [zs_len, List.length_reverse]
theorem sk_cons (x : Nat) (st : List Nat) : sk (x :: st) = sk st ++ [(x : Int)] := by unfold sk; rw [List.reverse_cons, zs_append]; rfl
/-- A row of the call's own without its last number. -/
theorem OwnI.pop {w : World} {B : Nat} {A : Option Addr} {n c : Nat} {L : List Int} {x : Int} (h : OwnI w B (.slice A n c) (L ++ [x])) : n = L.length + 1 ∧ ∃ g, A = some ⟨g, 0, none⟩ ∧ n ≤ c ∧ c ≤ 9223372036854775807 ∧ B ≤ g ∧ g < w.heap.size ∧ w.cell? ⟨g, L.length, none⟩ = some (.int .i64 x) ∧ OwnI w B (.slice (some ⟨g, 0, none⟩) L.length c) L := by
  obtain ⟨h1, h2⟩ := h
  rcases h2 with ⟨h3, h4⟩ | ⟨g, cap, cur, h3, h4, h5, h6, h7, h8, h9⟩
  · rw [List.length_append] at h4; simp at h4
  · rw [List.length_append, List.length_singleton] at h3 h6 h9
    simp only [Value.slice.injEq] at h3
    obtain ⟨rfl, rfl, rfl⟩ := h3
    have hsz : cur.size = c := by omega
    have hcell : ∀ j, j < L.length + 1 → cur[j]? = (icells (L ++ [x]))[j]? := fun j hj => by
      have := congrArg (fun l => l[j]?) h9
      simp only [List.getElem?_take] at this
      rw [if_pos (by omega)] at this
      simpa using this
    refine ⟨rfl, g, rfl, h6, h7, h4, (Array.getElem?_eq_some_iff.1 h5).1, ?_, ?_⟩
    · rw [cell_of_row w g _ cur _ (0, 0) h5, hcell _ (by omega)]
      have := icells_at (L := L ++ [x]) (i := L.length) (by simp)
      rw [this]
      simp [it, List.getD]
    · refine OwnI.mk_ h4 h5 (by omega) h7 hsz fun i hi => ?_
      rw [hcell i (by omega), icells_at (by simp; omega)]
      congr 1
      simp [it, List.getD, List.getElem?_append_left hi]
/-- The stack of the call lies in block b. -/
def Stk (w : World) (b B : Nat) (st : List Nat) : Prop := ∃ A n c, w.heap[b]? = some (.cells #[.slice A n c] 22 (0, 0)) ∧ OwnI w B (.slice A n c) (sk st)
theorem pop_c (b : Nat) (x : Nat) (st : List Nat) (B : Nat) (w : World) (h : Stk w b B (x :: st)) (hb : b < B) :
    Calls Tryz.prog 62 #[.pointer (some ⟨b, 0, none⟩)] w fun e w' => e = .returned (.int .i64 (x : Int)) ∧ Stk w' b B st ∧ Only b w w' := by
  obtain ⟨A, n, c, h1, h2⟩ := h
  rw [sk_cons] at h2
  obtain ⟨rfl, g, rfl, h3, h4, h5, h6, h7, h8⟩ := h2.pop
  have HE := Lib.hid (show ∀ v, w.heap[b]? = some (.cells #[v] 22 (0, 0)) → (Only b w (w.setCell ⟨b, 0, none⟩ (.slice (some ⟨g, 0, none⟩) (sk st).length c)) ∧ Stk (w.setCell ⟨b, 0, none⟩ (.slice (some ⟨g, 0, none⟩) (sk st).length c)) b B st) from fun v hv =>
    ⟨(Only.refl b w).setCell _, _, _, _, blk_set hv 0 _, own_only h8 ((Only.refl b w).setCell _) (fun he => by have := own_of_ge h8 he; omega)⟩)
  have HE := HE.out _ h1
  have HE := Lib.hid HE
  have k0 : w.cell? ⟨b, 0, none⟩ = some (.slice (some ⟨g, 0, none⟩) ((sk st).length + 1) c) := by rw [blk_cell h1]; rfl
  have f0 := blk_frozen h1 0
  clear h1 h2 h8
  generalize (sk st).length = m at *
  go_enter Tryz.func62, Tryz.ntmps62
  go_wp2_with fail
  go_ret
  exact ⟨rfl, HE.out.2, HE.out.1⟩
/-- An append onto a row of the call's own above block B. -/
theorem wpList_appB {ops : Array Oper} {rest : List Oper} {o : Oper} {a : Act} {Q : Exit → Act → World → Prop} {w : World} (B : Nat) (s x : Operand) (hgd : o.guard = none)
    (ho : o.op = .call { callee := .builtin .append, args := #[s, x], argTypes := #[22, 22] })
    (v : Value) (L : List Int) (hs : a.eval s = v) (hown : OwnI w B v L) (hB : B ≤ w.heap.size) (vx : Value) (k : Int) (hx : a.eval x = vx) (hr : Rd w 1 vx 1 [.int .i64 k]) (hn : L.length ≤ 1048576)
    (h : ∀ v' w', OwnI w' B v' (L ++ [k]) → w.grownBy w' v.ownBlock → wpList Tryz.prog ops Q rest (a.put o.dst v') w') : wpList Tryz.prog ops Q (o :: rest) a w := by
  obtain ⟨i0, hi0, hz0, hz1, hz2⟩ := info_parts Tryz.infoI
  refine wpList_append_rd w hgd s x _ ho B 2 i0 _ 1 8 Tryz.underlying22 hi0 hz0 hz1 hz2 rfl (by omega) v L.length (icells L) hs hown vx 1 [.int .i64 k] hx hr (by simp [Value.oneCell']) (by unfold maxLen; omega) (by omega) hB ?_
  intro v' w' h1 h2 h3
  refine h v' w' ?_ h2
  unfold OwnI
  rw [List.length_append, icells_append]
  exact h1
theorem evs_var {A V : List Nat} {k s : Int} {v : Nat} {st : List Nat} (h : k = 0) (hs : s = (v : Int)) : evs A V k s st = nt V v :: st := by unfold evs; rw [if_pos h, hs]; rfl
theorem evs_fls {A V : List Nat} {k s : Int} {st : List Nat} (h : k = 1) : evs A V k s st = 0 :: st := by subst h; rfl
theorem evs_and {A V : List Nat} {k s : Int} {x y : Nat} {st : List Nat} (h : k = 2) : evs A V k s (x :: y :: st) = (x &&& y) :: st := by subst h; rfl
theorem evs_or {A V : List Nat} {k s : Int} {x y : Nat} {st : List Nat} (h : k = 3) : evs A V k s (x :: y :: st) = (x ||| y) :: st := by subst h; rfl
theorem evs_imp {A V : List Nat} {k s : Int} {x y : Nat} {st : List Nat} (h : k = 4) : evs A V k s (x :: y :: st) = ar A x y :: st := by subst h; rfl
theorem two_at {st : List Nat} (h : 2 ≤ st.length) : ∃ x y r, st = x :: y :: r := by
  match st, h with
  | x :: y :: r, _ => exact ⟨x, y, r, rfl⟩
theorem Stk.grew {w w' : World} {b B : Nat} {st : List Nat} (h : Stk w b B st) (hg : Grew w w') : Stk w' b B st := by
  obtain ⟨A, n, c, h1, h2⟩ := h
  exact ⟨A, n, c, (hg.block (blk_lt h1)).trans h1, h2.grew hg⟩

set_option maxHeartbeats 4000000 in
set_option maxRecDepth 4096 in
theorem forced_c (v u va : Value) (A V : List Nat) (t : Tree) (w : World) (h : Ints w v (zs A)) (hu : Ints w u (zs V)) (ha : Nodes w va (Fm.enc t)) (hA : Rl A) (hV : ∀ m ∈ V, m < 2 ^ A.length) (hl : V.length = 6) (ht : FmOk t) :
    Calls Tryz.prog 40 #[.agg #[.int .i64 (A.length : Int), v], u, va] w fun e w' => e = .returned (.int .i64 ((fv A V t : Nat) : Int)) ∧ Grew w w' := by
  have hbd := ht.2
  have hsm : ∀ m, m < 2 ^ A.length → m < 1073741824 := fun m hm => Nat.lt_of_lt_of_le hm (pow30' hA.1)
  have HSM := Lib.hid (fun i m (hm : m ∈ ev A V ((Fm.enc t).drop i)) => hsm m (ev_sm hV _ m hm))
  have HFED := Lib.hid (fed_of (A := A) (V := V) hbd)
  have HEND := Lib.hid (ev_of (A := A) (V := V) hbd)
  have HDR := Lib.hid (fun i (hi : i < (Fm.enc t).length) => ev_drop (A := A) (V := V) hi)
  have HK := Lib.hid (fun i (hi : i < (Fm.enc t).length) => enc_kinds hbd hi)
  have HLEN := Lib.hid (fun i => show (ev A V ((Fm.enc t).drop i)).length ≤ 1048576 from by
    have h40 := ht.1
    have hle : ∀ xs : List Nd, (ev A V xs).length ≤ xs.length := by
      intro xs
      induction xs with
      | nil => simp [ev]
      | cons x xs ih =>
        show (evs A V x.1 x.2 (ev A V xs)).length ≤ _
        unfold evs
        repeat' split
        all_goals simp only [List.length_cons, List.length_drop]; omega
    have := hle ((Fm.enc t).drop i)
    rw [List.length_drop] at this
    omega)
  have hend0 : ev A V ((Fm.enc t).drop (Fm.enc t).length) = [] := by rw [List.drop_length]; rfl
  have KI := Lib.hid (fun a b W (hW : Grew w W) ha hb => posImply_c v A a b W (h.grew hW) hA ha hb)
  have HVR := Lib.hid hu
  have hpos := Fm.enc_pos t
  have h40 := ht.1
  obtain ⟨A', c, rfl⟩ := ints_sliceN h
  obtain ⟨AU, cu, rfl⟩ := ints_sliceN hu
  have HCU := Lib.hid (cellsN hu (by omega))
  rw [hl] at HCU HVR
  clear h hu hA hV hbd ht hsm
  rcases ha.open_ with ⟨rfl, h0⟩ | ⟨ba, oa, ca, rfl, hca, hcm, hbl, hcell⟩
  · rw [h0] at hpos; simp at hpos
  have HNC := Lib.hid hcell
  clear hcell ha
  have HEND0 := Lib.hid hend0
  clear hend0
  rw [hl]
  clear hl
  generalize fv A V t = R at *
  generalize Fm.enc t = xs at *
  generalize A.length = NA at *
  generalize hnx : xs.length = n at *
  replace hnx := Lib.hid hnx
  obtain ⟨bu, ou, rfl, hcu⟩ := HCU.out
  have HCU := Lib.hid hcu
  clear hcu
  obtain ⟨w1, hw1⟩ : ∃ w1, w1 = (w.alloc (.cells #[.int .i64 (NA : Int), .slice A' NA c] 30)).alloc (.cells #[.slice none 0 0] 22) := ⟨_, rfl⟩
  have hg1 : Grew w w1 := by rw [hw1]; exact ((Grew.refl w).alloc _).alloc _
  have hs1 : w1.heap.size = w.heap.size + 2 := by rw [hw1]; simp
  have hb0 : w1.heap[w.heap.size]? = some (.cells #[.int .i64 (NA : Int), .slice A' NA c] 30 (0, 0)) := by
    rw [hw1]
    exact (((Grew.refl _).alloc _).block (by simp)).trans (blk_new w _)
  have hb1 : w1.heap[w.heap.size + 1]? = some (.cells #[.slice none 0 0] 22 (0, 0)) := by
    rw [hw1]
    have h := blk_new (w.alloc (.cells #[.int .i64 (NA : Int), .slice A' NA c] 30)) (.cells #[.slice none 0 0] 22)
    have e : (w.alloc (.cells #[.int .i64 (NA : Int), .slice A' NA c] 30)).heap.size = w.heap.size + 1 := by simp
    rwa [e] at h
  have hstk : Stk w1 (w.heap.size + 1) (w.heap.size + 2) (ev A V (xs.drop n)) := by rw [HEND0.out]; exact ⟨_, _, _, hb1, OwnI.nil_ _ _⟩
  have HST := Lib.hid hstk
  have HB0 := Lib.hid hb0
  have HG1 := Lib.hid hg1
  have HS1 := Lib.hid hs1
  clear hb0 hb1 hg1 hstk hs1
  have npos : (1 : Int) ≤ n := by omega
  go_enter Tryz.func40, Tryz.ntmps40
  go_wp2_with fail
  simp only [← hw1]
  clear hw1
  go_loopw [9, 10, 11] (fun i _ _ wr => ∃ k : Nat, k ≤ n ∧ i = .int .i64 ((k : Int) - 1) ∧ Hid (wr.heap[w.heap.size]? = some (.cells #[.int .i64 (NA : Int), .slice A' NA c] 30 (0, 0))) ∧ Hid (Stk wr (w.heap.size + 1) (w.heap.size + 2) (ev A V (xs.drop k))) ∧ Hid (Grew w wr) ∧ Hid (w.heap.size + 2 ≤ wr.heap.size)) (fun i _ _ _ => ((intOf i) + 1).toNat)
  case atStart => exact ⟨n, Nat.le_refl _, rfl, HB0, HST, HG1, Lib.hid (by rw [HS1.out]; omega)⟩
  case round =>
    obtain ⟨k, hk, rfl, HP, HK0, HG, HZ⟩ := hrel
    cases k with
    | zero =>
      obtain ⟨AS, nS, cS, hb, hO⟩ := HK0.out
      have hO2 : OwnI wr (w.heap.size + 2) (.slice AS nS cS) ([] ++ [((R : Nat) : Int)]) := by
        have e : sk (ev A V (xs.drop 0)) = [] ++ [((R : Nat) : Int)] := by rw [List.drop_zero, HEND.out]; rfl
        rw [e] at hO; exact hO
      obtain ⟨rfl, g, rfl, q1, q2, q3, q4, q5, q6⟩ := hO2.pop
      have k0 : wr.cell? ⟨w.heap.size + 1, 0, none⟩ = some (.slice (some ⟨g, 0, none⟩) 1 cS) := by rw [blk_cell hb]; rfl
      have q5 : wr.cell? ⟨g, 0, none⟩ = some (.int .i64 ((R : Nat) : Int)) := q5
      clear hb hO hO2 q6 q3
      go_wp2_with fail
      go_ret
      exact ⟨rfl, HG.out⟩
    | succ k =>
      have ei : (((k + 1 : Nat) : Int) - 1) = (k : Int) := by omega
      rw [ei]
      have hkx : k < xs.length := by rw [hnx.out]; omega
      have hlt : (k : Int) < (n : Int) := by omega
      obtain ⟨c0, c1⟩ := HNC.out k (by omega) _ HG.out
      have hdr := HDR.out k (by omega)
      have hbS := HK0.out
      have hL1 := HLEN.out (k + 1)
      have hF := HFED.out k hkx
      have hSM := fun m hm => HSM.out (k + 1) m hm
      clear hkx
      generalize ev A V (xs.drop (k + 1)) = st at *
      have HDRK := Lib.hid hdr
      have HL1 := Lib.hid hL1
      have HF := Lib.hid hF
      have HSMK := Lib.hid hSM
      have HBS := Lib.hid hbS
      clear hdr hL1 hF hSM hbS
      rcases HK.out k (by omega) with ⟨hkd, s, hsy, hs6⟩ | hkd | hkd | hkd | hkd
      · have he : ev A V (xs.drop k) = nt V s :: st := HDRK.out.trans (evs_var hkd hsy)
        have hu1 := HCU.out s (by omega) _ HG.out
        rw [hkd] at c0
        rw [hsy] at c1
        clear hkd hsy
        have HEK := Lib.hid he
        clear he
        generalize nt V s = y at *
        obtain ⟨AS, nS, cS, hb, hO⟩ := HBS.out
        have k7 : wr.cell? ⟨w.heap.size + 1, 0, none⟩ = some (.slice AS nS cS) := by rw [blk_cell hb]; rfl
        have k7' : ∀ o, (wr.alloc o).cell? ⟨w.heap.size + 1, 0, none⟩ = some (.slice AS nS cS) := fun o => by rw [blk_cell ((((Grew.refl wr).alloc o).block (blk_lt hb)).trans hb)]; rfl
        have HBT := Lib.hid hb
        have HOT := Lib.hid hO
        have HZA := Lib.hid (fun o : Obj => (Nat.le_trans HZ.out (((Grew.refl wr).alloc o).size) : w.heap.size + 2 ≤ (wr.alloc o).heap.size))
        have HOA := Lib.hid (fun o : Obj => (hO.grew ((Grew.refl wr).alloc o) : OwnI (wr.alloc o) (w.heap.size + 2) (.slice AS nS cS) (sk st)))
        clear hb hO
        go_wp2_with (first
          | (at_builtin
             refine wpList_appB (w.heap.size + 2) _ _ rfl rfl (.slice AS nS cS) (sk st) rfl (HOA.out _) (HZA.out _) (.slice (some ⟨wr.heap.size, 0, none⟩) 1 1) ((y : Nat) : Int) rfl (rd_litI wr _ _) (by rw [sk_len]; exact HL1.out) ?_
             intro v8 w8 hown8 hg8
             obtain ⟨A8, c8, rfl⟩ := ints_slice hown8.ints
             rw [List.length_append, List.length_singleton] at hown8
             have hne8 : some (w.heap.size + 1) ≠ (Value.slice AS nS cS).ownBlock := fun he => by have := own_of_ge HOT.out he.symm; omega
             have hne9 : some w.heap.size ≠ (Value.slice AS nS cS).ownBlock := fun he => by have := own_of_ge HOT.out he.symm; omega
             have hb8 := (hg8.block _ (Nat.lt_of_lt_of_le (show w.heap.size + 1 < w.heap.size + 2 by omega) (HZA.out _)) hne8).trans ((((Grew.refl wr).alloc _).block (blk_lt HBT.out)).trans HBT.out)
             have hp8 := (hg8.block _ (Nat.lt_of_lt_of_le (show w.heap.size < w.heap.size + 2 by omega) (HZA.out _)) hne9).trans ((((Grew.refl wr).alloc _).block (blk_lt HP.out)).trans HP.out)
             have k8 : w8.cell? ⟨w.heap.size + 1, 0, none⟩ = some (.slice AS nS cS) := by rw [blk_cell hb8]; rfl
             have f8 := blk_frozen hb8 0
             have hG8 : Grew w w8 := (HG.out.alloc _).grown hg8 (fun g hg => by have := own_of_ge HOT.out hg; omega)
             have hz8 : w.heap.size + 2 ≤ w8.heap.size := Nat.le_trans (HZA.out _) hg8.size
             have HFIN := Lib.hid (show Hid ((w8.setCell ⟨w.heap.size + 1, 0, none⟩ (.slice A8 ((sk st).length + 1) c8)).heap[w.heap.size]? = some (.cells #[.int .i64 (NA : Int), .slice A' NA c] 30 (0, 0))) ∧ Hid (Stk (w8.setCell ⟨w.heap.size + 1, 0, none⟩ (.slice A8 ((sk st).length + 1) c8)) (w.heap.size + 1) (w.heap.size + 2) (ev A V (xs.drop k))) ∧ Hid (Grew w (w8.setCell ⟨w.heap.size + 1, 0, none⟩ (.slice A8 ((sk st).length + 1) c8))) ∧ Hid (w.heap.size + 2 ≤ (w8.setCell ⟨w.heap.size + 1, 0, none⟩ (.slice A8 ((sk st).length + 1) c8)).heap.size) from by
               have hon : Only (w.heap.size + 1) w8 (w8.setCell ⟨w.heap.size + 1, 0, none⟩ (.slice A8 ((sk st).length + 1) c8)) := (Only.refl _ _).setCell _
               refine ⟨Lib.hid ((hon.block (by omega) (by omega)).trans hp8), Lib.hid ⟨_, _, _, blk_set hb8 0 _, ?_⟩, Lib.hid (hG8.setCell (show w.heap.size ≤ w.heap.size + 1 by omega) _), Lib.hid (Nat.le_trans hz8 hon.size)⟩
               rw [HEK.out, sk_cons]
               exact own_only hown8 hon (fun he => by have := own_of_ge hown8 he; omega))
             clear hb8 hp8 hG8 hz8 hown8 hg8 hne8 hne9 k7 k7'))
        go_roundw
        case rel => exact ⟨k, by omega, rfl, HFIN.out⟩
        case measure => simp [intOf] <;> omega
      · have he : ev A V (xs.drop k) = 0 :: st := HDRK.out.trans (evs_fls hkd)
        rw [hkd] at c0
        clear hkd c1
        have HEK := Lib.hid he
        clear he
        obtain ⟨AS, nS, cS, hb, hO⟩ := HBS.out
        have k7 : wr.cell? ⟨w.heap.size + 1, 0, none⟩ = some (.slice AS nS cS) := by rw [blk_cell hb]; rfl
        have k7' : ∀ o, (wr.alloc o).cell? ⟨w.heap.size + 1, 0, none⟩ = some (.slice AS nS cS) := fun o => by rw [blk_cell ((((Grew.refl wr).alloc o).block (blk_lt hb)).trans hb)]; rfl
        have HBT := Lib.hid hb
        have HOT := Lib.hid hO
        have HZA := Lib.hid (fun o : Obj => (Nat.le_trans HZ.out (((Grew.refl wr).alloc o).size) : w.heap.size + 2 ≤ (wr.alloc o).heap.size))
        have HOA := Lib.hid (fun o : Obj => (hO.grew ((Grew.refl wr).alloc o) : OwnI (wr.alloc o) (w.heap.size + 2) (.slice AS nS cS) (sk st)))
        clear hb hO
        go_wp2_with (first
          | (at_builtin
             refine wpList_appB (w.heap.size + 2) _ _ rfl rfl (.slice AS nS cS) (sk st) rfl (HOA.out _) (HZA.out _) (.slice (some ⟨wr.heap.size, 0, none⟩) 1 1) ((0 : Nat) : Int) rfl (rd_litI wr _ _) (by rw [sk_len]; exact HL1.out) ?_
             intro v8 w8 hown8 hg8
             obtain ⟨A8, c8, rfl⟩ := ints_slice hown8.ints
             rw [List.length_append, List.length_singleton] at hown8
             have hne8 : some (w.heap.size + 1) ≠ (Value.slice AS nS cS).ownBlock := fun he => by have := own_of_ge HOT.out he.symm; omega
             have hne9 : some w.heap.size ≠ (Value.slice AS nS cS).ownBlock := fun he => by have := own_of_ge HOT.out he.symm; omega
             have hb8 := (hg8.block _ (Nat.lt_of_lt_of_le (show w.heap.size + 1 < w.heap.size + 2 by omega) (HZA.out _)) hne8).trans ((((Grew.refl wr).alloc _).block (blk_lt HBT.out)).trans HBT.out)
             have hp8 := (hg8.block _ (Nat.lt_of_lt_of_le (show w.heap.size < w.heap.size + 2 by omega) (HZA.out _)) hne9).trans ((((Grew.refl wr).alloc _).block (blk_lt HP.out)).trans HP.out)
             have k8 : w8.cell? ⟨w.heap.size + 1, 0, none⟩ = some (.slice AS nS cS) := by rw [blk_cell hb8]; rfl
             have f8 := blk_frozen hb8 0
             have hG8 : Grew w w8 := (HG.out.alloc _).grown hg8 (fun g hg => by have := own_of_ge HOT.out hg; omega)
             have hz8 : w.heap.size + 2 ≤ w8.heap.size := Nat.le_trans (HZA.out _) hg8.size
             have HFIN := Lib.hid (show Hid ((w8.setCell ⟨w.heap.size + 1, 0, none⟩ (.slice A8 ((sk st).length + 1) c8)).heap[w.heap.size]? = some (.cells #[.int .i64 (NA : Int), .slice A' NA c] 30 (0, 0))) ∧ Hid (Stk (w8.setCell ⟨w.heap.size + 1, 0, none⟩ (.slice A8 ((sk st).length + 1) c8)) (w.heap.size + 1) (w.heap.size + 2) (ev A V (xs.drop k))) ∧ Hid (Grew w (w8.setCell ⟨w.heap.size + 1, 0, none⟩ (.slice A8 ((sk st).length + 1) c8))) ∧ Hid (w.heap.size + 2 ≤ (w8.setCell ⟨w.heap.size + 1, 0, none⟩ (.slice A8 ((sk st).length + 1) c8)).heap.size) from by
               have hon : Only (w.heap.size + 1) w8 (w8.setCell ⟨w.heap.size + 1, 0, none⟩ (.slice A8 ((sk st).length + 1) c8)) := (Only.refl _ _).setCell _
               refine ⟨Lib.hid ((hon.block (by omega) (by omega)).trans hp8), Lib.hid ⟨_, _, _, blk_set hb8 0 _, ?_⟩, Lib.hid (hG8.setCell (show w.heap.size ≤ w.heap.size + 1 by omega) _), Lib.hid (Nat.le_trans hz8 hon.size)⟩
               rw [HEK.out, sk_cons]
               exact own_only hown8 hon (fun he => by have := own_of_ge hown8 he; omega))
             clear hb8 hp8 hG8 hz8 hown8 hg8 hne8 hne9 k7 k7'))
        go_roundw
        case rel => exact ⟨k, by omega, rfl, HFIN.out⟩
        case measure => simp [intOf] <;> omega
      · obtain ⟨x, y, r, rfl⟩ := two_at (HF.out (.inl hkd))
        have he : ev A V (xs.drop k) = (x &&& y) :: r := HDRK.out.trans (evs_and hkd)
        have hx := HSMK.out x (by simp)
        have hy := HSMK.out y (by simp)
        have hxy := and_i64 x y (by omega) (by omega)
        have hlr : r.length ≤ 1048576 := by have := HL1.out; simp only [List.length_cons] at this; omega
        rw [hkd] at c0
        clear hkd c1 hx hy
        have HEK := Lib.hid he
        clear he
        generalize (x &&& y : Nat) = z at *
        have HP1 := Lib.hid (pop_c (w.heap.size + 1) x (y :: r) (w.heap.size + 2) wr HBS.out (by omega))
        have HP2 := Lib.hid (fun W hW => pop_c (w.heap.size + 1) y r (w.heap.size + 2) W hW (by omega))
        go_wp2_with fail
        refine HP1.out.mono ?_
        rintro e w2 ⟨rfl, hS2, hO2⟩
        have hp2 := (hO2.block (blk_lt HP.out) (by omega)).trans HP.out
        have hG2 := hO2.grew_of HG.out (by omega)
        have hz2 := hO2.size
        clear hO2
        go_wp2_with fail
        refine (HP2.out _ hS2).mono ?_
        rintro e w3 ⟨rfl, hS3, hO3⟩
        have hp3 := (hO3.block (blk_lt hp2) (by omega)).trans hp2
        have hG3 := hO3.grew_of hG2 (by omega)
        have hz3 := hO3.size
        have HG3 := Lib.hid hG3
        have HP3 := Lib.hid hp3
        have HZ3 := Lib.hid (Nat.le_trans HZ.out (Nat.le_trans hz2 hz3))
        have HS3 := Lib.hid hS3
        clear hO3 hS2 hS3 hp2 hp3 hG2 hG3 hz2 hz3 HBS HP HG HZ
        obtain ⟨AS, nS, cS, hb, hO⟩ := HS3.out
        have k7 : w3.cell? ⟨w.heap.size + 1, 0, none⟩ = some (.slice AS nS cS) := by rw [blk_cell hb]; rfl
        have k7' : ∀ o, (w3.alloc o).cell? ⟨w.heap.size + 1, 0, none⟩ = some (.slice AS nS cS) := fun o => by rw [blk_cell ((((Grew.refl w3).alloc o).block (blk_lt hb)).trans hb)]; rfl
        have HBT := Lib.hid hb
        have HOT := Lib.hid hO
        have HZA := Lib.hid (fun o : Obj => (Nat.le_trans HZ3.out (((Grew.refl w3).alloc o).size) : w.heap.size + 2 ≤ (w3.alloc o).heap.size))
        have HOA := Lib.hid (fun o : Obj => (hO.grew ((Grew.refl w3).alloc o) : OwnI (w3.alloc o) (w.heap.size + 2) (.slice AS nS cS) (sk r)))
        clear hb hO
        go_wp2_with (first
          | (at_builtin
             refine wpList_appB (w.heap.size + 2) _ _ rfl rfl (.slice AS nS cS) (sk r) rfl (HOA.out _) (HZA.out _) (.slice (some ⟨w3.heap.size, 0, none⟩) 1 1) ((z : Nat) : Int) rfl (rd_litI w3 _ _) (by rw [sk_len]; exact hlr) ?_
             intro v8 w8 hown8 hg8
             obtain ⟨A8, c8, rfl⟩ := ints_slice hown8.ints
             rw [List.length_append, List.length_singleton] at hown8
             have hne8 : some (w.heap.size + 1) ≠ (Value.slice AS nS cS).ownBlock := fun he => by have := own_of_ge HOT.out he.symm; omega
             have hne9 : some w.heap.size ≠ (Value.slice AS nS cS).ownBlock := fun he => by have := own_of_ge HOT.out he.symm; omega
             have hb8 := (hg8.block _ (Nat.lt_of_lt_of_le (show w.heap.size + 1 < w.heap.size + 2 by omega) (HZA.out _)) hne8).trans ((((Grew.refl w3).alloc _).block (blk_lt HBT.out)).trans HBT.out)
             have hp8 := (hg8.block _ (Nat.lt_of_lt_of_le (show w.heap.size < w.heap.size + 2 by omega) (HZA.out _)) hne9).trans ((((Grew.refl w3).alloc _).block (blk_lt HP3.out)).trans HP3.out)
             have k8 : w8.cell? ⟨w.heap.size + 1, 0, none⟩ = some (.slice AS nS cS) := by rw [blk_cell hb8]; rfl
             have f8 := blk_frozen hb8 0
             have hG8 : Grew w w8 := (HG3.out.alloc _).grown hg8 (fun g hg => by have := own_of_ge HOT.out hg; omega)
             have hz8 : w.heap.size + 2 ≤ w8.heap.size := Nat.le_trans (HZA.out _) hg8.size
             have HFIN := Lib.hid (show Hid ((w8.setCell ⟨w.heap.size + 1, 0, none⟩ (.slice A8 ((sk r).length + 1) c8)).heap[w.heap.size]? = some (.cells #[.int .i64 (NA : Int), .slice A' NA c] 30 (0, 0))) ∧ Hid (Stk (w8.setCell ⟨w.heap.size + 1, 0, none⟩ (.slice A8 ((sk r).length + 1) c8)) (w.heap.size + 1) (w.heap.size + 2) (ev A V (xs.drop k))) ∧ Hid (Grew w (w8.setCell ⟨w.heap.size + 1, 0, none⟩ (.slice A8 ((sk r).length + 1) c8))) ∧ Hid (w.heap.size + 2 ≤ (w8.setCell ⟨w.heap.size + 1, 0, none⟩ (.slice A8 ((sk r).length + 1) c8)).heap.size) from by
               have hon : Only (w.heap.size + 1) w8 (w8.setCell ⟨w.heap.size + 1, 0, none⟩ (.slice A8 ((sk r).length + 1) c8)) := (Only.refl _ _).setCell _
               refine ⟨Lib.hid ((hon.block (by omega) (by omega)).trans hp8), Lib.hid ⟨_, _, _, blk_set hb8 0 _, ?_⟩, Lib.hid (hG8.setCell (show w.heap.size ≤ w.heap.size + 1 by omega) _), Lib.hid (Nat.le_trans hz8 hon.size)⟩
               rw [HEK.out, sk_cons]
               exact own_only hown8 hon (fun he => by have := own_of_ge hown8 he; omega))
             clear hb8 hp8 hG8 hz8 hown8 hg8 hne8 hne9 k7 k7'))
        go_roundw
        case rel => exact ⟨k, by omega, rfl, HFIN.out⟩
        case measure => simp [intOf] <;> omega
      · obtain ⟨x, y, r, rfl⟩ := two_at (HF.out (.inr (.inl hkd)))
        have he : ev A V (xs.drop k) = (x ||| y) :: r := HDRK.out.trans (evs_or hkd)
        have hx := HSMK.out x (by simp)
        have hy := HSMK.out y (by simp)
        have hxy := or_i64 x y (by omega) (by omega)
        have hlr : r.length ≤ 1048576 := by have := HL1.out; simp only [List.length_cons] at this; omega
        rw [hkd] at c0
        clear hkd c1 hx hy
        have HEK := Lib.hid he
        clear he
        generalize (x ||| y : Nat) = z at *
        have HP1 := Lib.hid (pop_c (w.heap.size + 1) x (y :: r) (w.heap.size + 2) wr HBS.out (by omega))
        have HP2 := Lib.hid (fun W hW => pop_c (w.heap.size + 1) y r (w.heap.size + 2) W hW (by omega))
        go_wp2_with fail
        refine HP1.out.mono ?_
        rintro e w2 ⟨rfl, hS2, hO2⟩
        have hp2 := (hO2.block (blk_lt HP.out) (by omega)).trans HP.out
        have hG2 := hO2.grew_of HG.out (by omega)
        have hz2 := hO2.size
        clear hO2
        go_wp2_with fail
        refine (HP2.out _ hS2).mono ?_
        rintro e w3 ⟨rfl, hS3, hO3⟩
        have hp3 := (hO3.block (blk_lt hp2) (by omega)).trans hp2
        have hG3 := hO3.grew_of hG2 (by omega)
        have hz3 := hO3.size
        have HG3 := Lib.hid hG3
        have HP3 := Lib.hid hp3
        have HZ3 := Lib.hid (Nat.le_trans HZ.out (Nat.le_trans hz2 hz3))
        have HS3 := Lib.hid hS3
        clear hO3 hS2 hS3 hp2 hp3 hG2 hG3 hz2 hz3 HBS HP HG HZ
        obtain ⟨AS, nS, cS, hb, hO⟩ := HS3.out
        have k7 : w3.cell? ⟨w.heap.size + 1, 0, none⟩ = some (.slice AS nS cS) := by rw [blk_cell hb]; rfl
        have k7' : ∀ o, (w3.alloc o).cell? ⟨w.heap.size + 1, 0, none⟩ = some (.slice AS nS cS) := fun o => by rw [blk_cell ((((Grew.refl w3).alloc o).block (blk_lt hb)).trans hb)]; rfl
        have HBT := Lib.hid hb
        have HOT := Lib.hid hO
        have HZA := Lib.hid (fun o : Obj => (Nat.le_trans HZ3.out (((Grew.refl w3).alloc o).size) : w.heap.size + 2 ≤ (w3.alloc o).heap.size))
        have HOA := Lib.hid (fun o : Obj => (hO.grew ((Grew.refl w3).alloc o) : OwnI (w3.alloc o) (w.heap.size + 2) (.slice AS nS cS) (sk r)))
        clear hb hO
        go_wp2_with (first
          | (at_builtin
             refine wpList_appB (w.heap.size + 2) _ _ rfl rfl (.slice AS nS cS) (sk r) rfl (HOA.out _) (HZA.out _) (.slice (some ⟨w3.heap.size, 0, none⟩) 1 1) ((z : Nat) : Int) rfl (rd_litI w3 _ _) (by rw [sk_len]; exact hlr) ?_
             intro v8 w8 hown8 hg8
             obtain ⟨A8, c8, rfl⟩ := ints_slice hown8.ints
             rw [List.length_append, List.length_singleton] at hown8
             have hne8 : some (w.heap.size + 1) ≠ (Value.slice AS nS cS).ownBlock := fun he => by have := own_of_ge HOT.out he.symm; omega
             have hne9 : some w.heap.size ≠ (Value.slice AS nS cS).ownBlock := fun he => by have := own_of_ge HOT.out he.symm; omega
             have hb8 := (hg8.block _ (Nat.lt_of_lt_of_le (show w.heap.size + 1 < w.heap.size + 2 by omega) (HZA.out _)) hne8).trans ((((Grew.refl w3).alloc _).block (blk_lt HBT.out)).trans HBT.out)
             have hp8 := (hg8.block _ (Nat.lt_of_lt_of_le (show w.heap.size < w.heap.size + 2 by omega) (HZA.out _)) hne9).trans ((((Grew.refl w3).alloc _).block (blk_lt HP3.out)).trans HP3.out)
             have k8 : w8.cell? ⟨w.heap.size + 1, 0, none⟩ = some (.slice AS nS cS) := by rw [blk_cell hb8]; rfl
             have f8 := blk_frozen hb8 0
             have hG8 : Grew w w8 := (HG3.out.alloc _).grown hg8 (fun g hg => by have := own_of_ge HOT.out hg; omega)
             have hz8 : w.heap.size + 2 ≤ w8.heap.size := Nat.le_trans (HZA.out _) hg8.size
             have HFIN := Lib.hid (show Hid ((w8.setCell ⟨w.heap.size + 1, 0, none⟩ (.slice A8 ((sk r).length + 1) c8)).heap[w.heap.size]? = some (.cells #[.int .i64 (NA : Int), .slice A' NA c] 30 (0, 0))) ∧ Hid (Stk (w8.setCell ⟨w.heap.size + 1, 0, none⟩ (.slice A8 ((sk r).length + 1) c8)) (w.heap.size + 1) (w.heap.size + 2) (ev A V (xs.drop k))) ∧ Hid (Grew w (w8.setCell ⟨w.heap.size + 1, 0, none⟩ (.slice A8 ((sk r).length + 1) c8))) ∧ Hid (w.heap.size + 2 ≤ (w8.setCell ⟨w.heap.size + 1, 0, none⟩ (.slice A8 ((sk r).length + 1) c8)).heap.size) from by
               have hon : Only (w.heap.size + 1) w8 (w8.setCell ⟨w.heap.size + 1, 0, none⟩ (.slice A8 ((sk r).length + 1) c8)) := (Only.refl _ _).setCell _
               refine ⟨Lib.hid ((hon.block (by omega) (by omega)).trans hp8), Lib.hid ⟨_, _, _, blk_set hb8 0 _, ?_⟩, Lib.hid (hG8.setCell (show w.heap.size ≤ w.heap.size + 1 by omega) _), Lib.hid (Nat.le_trans hz8 hon.size)⟩
               rw [HEK.out, sk_cons]
               exact own_only hown8 hon (fun he => by have := own_of_ge hown8 he; omega))
             clear hb8 hp8 hG8 hz8 hown8 hg8 hne8 hne9 k7 k7'))
        go_roundw
        case rel => exact ⟨k, by omega, rfl, HFIN.out⟩
        case measure => simp [intOf] <;> omega
      · obtain ⟨x, y, r, rfl⟩ := two_at (HF.out (.inr (.inr hkd)))
        have he : ev A V (xs.drop k) = ar A x y :: r := HDRK.out.trans (evs_imp hkd)
        have hx := HSMK.out x (by simp)
        have hy := HSMK.out y (by simp)
        have KIm := Lib.hid (fun W hW => KI.out x y W hW hx hy)
        have hlr : r.length ≤ 1048576 := by have := HL1.out; simp only [List.length_cons] at this; omega
        rw [hkd] at c0
        clear hkd c1 hx hy
        have HEK := Lib.hid he
        clear he
        generalize ar A x y = z at *
        have HP1 := Lib.hid (pop_c (w.heap.size + 1) x (y :: r) (w.heap.size + 2) wr HBS.out (by omega))
        have HP2 := Lib.hid (fun W hW => pop_c (w.heap.size + 1) y r (w.heap.size + 2) W hW (by omega))
        go_wp2_with fail
        refine HP1.out.mono ?_
        rintro e w2 ⟨rfl, hS2, hO2⟩
        have hp2 := (hO2.block (blk_lt HP.out) (by omega)).trans HP.out
        have hG2 := hO2.grew_of HG.out (by omega)
        have hz2 := Nat.le_trans HZ.out hO2.size
        have HP2w := Lib.hid hp2
        have HG2 := Lib.hid hG2
        have HZ2 := Lib.hid hz2
        have HS2 := Lib.hid hS2
        have d0 : ∀ W, Only (w.heap.size + 1) w2 W → W.cell? ⟨w.heap.size, 0, none⟩ = some (.int .i64 (NA : Int)) := fun W hW => by rw [blk_cell ((hW.block (blk_lt HP2w.out) (by omega)).trans HP2w.out)]; rfl
        have d1 : ∀ W, Only (w.heap.size + 1) w2 W → W.cell? ⟨w.heap.size, 1, none⟩ = some (.slice A' NA c) := fun W hW => by rw [blk_cell ((hW.block (blk_lt HP2w.out) (by omega)).trans HP2w.out)]; rfl
        have ho2 : Only (w.heap.size + 1) w2 w2 := Only.refl _ _
        have ho2d : Only (w.heap.size + 1) w2 w2.drew := ho2.drew
        have HSD : Hid (Stk w2.drew (w.heap.size + 1) (w.heap.size + 2) (y :: r)) := Lib.hid (hS2.grew (Grew.refl _).drew)
        clear hO2 hp2 hG2 hz2 hS2
        go_wp2_with fail
        refine wp_region_held_drew (S := fun w' => Only (w.heap.size + 1) w2 w') (by kernel_rfl) ho2d (fun hHeld => ?_)
        refine wpAnyH_take (i := 0) (oi := ?on1) (v := ?vn1) ?hin1 ?an1 ?bn1 ?cn1 ?qn1 (Or.inl ⟨?dn1, ?hyn1⟩) hHeld ?restn1
        case hin1 => (simp only [List.getElem?_toArray, List.getElem?_cons_zero]; exact rfl)
        case an1 => kernel_rfl
        case bn1 => kernel_rfl
        case cn1 => kernel_rfl
        case qn1 => exact fun _ _ _ h => h
        case dn1 => rfl
        case hyn1 => (intro z hSw; (try dsimp only at hSw); go_simp; (try with_reducible rfl))
        try simp only [Act.put, List.setIfInBounds_toArray, List.set_cons_zero, List.set_cons_succ]
        refine wpAnyH_take (i := 1) (oi := ?on2) (v := ?vn2) ?hin2 ?an2 ?bn2 ?cn2 ?qn2 (Or.inl ⟨?dn2, ?hyn2⟩) hHeld ?restn2
        case hin2 => (simp only [List.getElem?_toArray, List.getElem?_cons_succ, List.getElem?_cons_zero]; exact rfl)
        case an2 => kernel_rfl
        case bn2 => kernel_rfl
        case cn2 => kernel_rfl
        case qn2 => exact fun _ _ _ h => h
        case dn2 => rfl
        case hyn2 => (intro z hSw; (try dsimp only at hSw); go_simp; (try with_reducible rfl))
        try simp only [Act.put, List.setIfInBounds_toArray, List.set_cons_zero, List.set_cons_succ]
        refine wpAnyH_take (i := 2) (oi := ?on3) (v := ?vn3) ?hin3 ?an3 ?bn3 ?cn3 ?qn3 (Or.inl ⟨?dn3, ?hyn3⟩) hHeld ?restn3
        case hin3 => (simp only [List.getElem?_toArray, List.getElem?_cons_succ, List.getElem?_cons_zero]; exact rfl)
        case an3 => kernel_rfl
        case bn3 => kernel_rfl
        case cn3 => kernel_rfl
        case qn3 => exact fun _ _ _ h => h
        case dn3 => rfl
        case hyn3 => (intro z hSw; (try dsimp only at hSw); go_simp; (try with_reducible rfl))
        try simp only [Act.put, List.setIfInBounds_toArray, List.set_cons_zero, List.set_cons_succ]
        refine wpAnyH_ready (rs := [3]) (by kernel_rfl) (by simp) ?_
        refine AllReadyH.cons (o := ?on4) ?hin4 ?restn4 AllReadyH.nil
        case hin4 => (simp only [List.getElem?_toArray, List.getElem?_cons_succ, List.getElem?_cons_zero]; exact rfl)
        intro K hK
        go_simp
        go_at_call 62
        refine (HP2.out _ HSD.out).mono ?_
        rintro e w3 ⟨rfl, hS3, hO3⟩
        have ho3 : Only (w.heap.size + 1) w2 w3 := ho2d.trans hO3
        refine hK.out _ _ ?_ (fun hHeld => ?_)
        · (try dsimp only); first | with_reducible assumption | exact Grew.alloc ‹_› _
        clear hK K
        try simp only [Act.put, List.setIfInBounds_toArray, List.set_cons_zero, List.set_cons_succ]
        refine wpAnyH_ready (rs := [4]) (by kernel_rfl) (by simp) ?_
        refine AllReadyH.cons (o := ?on5) ?hin5 ?restn5 AllReadyH.nil
        case hin5 => (simp only [List.getElem?_toArray, List.getElem?_cons_succ, List.getElem?_cons_zero]; exact rfl)
        intro K hK
        go_simp
        go_at_call 63
        refine (KIm.out _ (ho3.grew_of HG2.out (by omega))).mono ?_
        rintro e w4 ⟨rfl, hg4⟩
        have ho4 : Only (w.heap.size + 1) w2 w4 := ho3.grew hg4
        refine hK.out _ _ ?_ (fun hHeld => ?_)
        · (try dsimp only); first | with_reducible assumption | exact Grew.alloc ‹_› _
        clear hK K
        try simp only [Act.put, List.setIfInBounds_toArray, List.set_cons_zero, List.set_cons_succ]
        refine wpAnyH_take (i := 5) (oi := ?on6) (v := ?vn6) ?hin6 ?an6 ?bn6 ?cn6 ?qn6 (Or.inl ⟨?dn6, ?hyn6⟩) hHeld ?restn6
        case hin6 => (simp only [List.getElem?_toArray, List.getElem?_cons_succ, List.getElem?_cons_zero]; exact rfl)
        case an6 => kernel_rfl
        case bn6 => kernel_rfl
        case cn6 => kernel_rfl
        case qn6 => exact fun _ _ _ h => h
        case dn6 => rfl
        case hyn6 => (intro z hSw; (try dsimp only at hSw); go_simp; (try with_reducible rfl))
        try simp only [Act.put, List.setIfInBounds_toArray, List.set_cons_zero, List.set_cons_succ]
        refine wpAnyH_done (by kernel_rfl) ?_ _
        have hp3 := (ho4.block (blk_lt HP2w.out) (by omega)).trans HP2w.out
        have HG3 := Lib.hid (ho4.grew_of HG2.out (by omega))
        have HP3 := Lib.hid hp3
        have HZ3 := Lib.hid (Nat.le_trans HZ2.out ho4.size)
        have HS3 := Lib.hid (hS3.grew hg4)
        clear hO3 hS3 hp3 HBS HP HG HZ HS2 HG2 HZ2 HSD ho4 ho3 ho2 ho2d d0 d1 HP2w hg4
        obtain ⟨AS, nS, cS, hb, hO⟩ := HS3.out
        have k7 : w4.cell? ⟨w.heap.size + 1, 0, none⟩ = some (.slice AS nS cS) := by rw [blk_cell hb]; rfl
        have k7' : ∀ o, (w4.alloc o).cell? ⟨w.heap.size + 1, 0, none⟩ = some (.slice AS nS cS) := fun o => by rw [blk_cell ((((Grew.refl w4).alloc o).block (blk_lt hb)).trans hb)]; rfl
        have HBT := Lib.hid hb
        have HOT := Lib.hid hO
        have HZA := Lib.hid (fun o : Obj => (Nat.le_trans HZ3.out (((Grew.refl w4).alloc o).size) : w.heap.size + 2 ≤ (w4.alloc o).heap.size))
        have HOA := Lib.hid (fun o : Obj => (hO.grew ((Grew.refl w4).alloc o) : OwnI (w4.alloc o) (w.heap.size + 2) (.slice AS nS cS) (sk r)))
        clear hb hO
        go_wp2_with (first
          | (at_builtin
             refine wpList_appB (w.heap.size + 2) _ _ rfl rfl (.slice AS nS cS) (sk r) rfl (HOA.out _) (HZA.out _) (.slice (some ⟨w4.heap.size, 0, none⟩) 1 1) ((z : Nat) : Int) rfl (rd_litI w4 _ _) (by rw [sk_len]; exact hlr) ?_
             intro v8 w8 hown8 hg8
             obtain ⟨A8, c8, rfl⟩ := ints_slice hown8.ints
             rw [List.length_append, List.length_singleton] at hown8
             have hne8 : some (w.heap.size + 1) ≠ (Value.slice AS nS cS).ownBlock := fun he => by have := own_of_ge HOT.out he.symm; omega
             have hne9 : some w.heap.size ≠ (Value.slice AS nS cS).ownBlock := fun he => by have := own_of_ge HOT.out he.symm; omega
             have hb8 := (hg8.block _ (Nat.lt_of_lt_of_le (show w.heap.size + 1 < w.heap.size + 2 by omega) (HZA.out _)) hne8).trans ((((Grew.refl w4).alloc _).block (blk_lt HBT.out)).trans HBT.out)
             have hp8 := (hg8.block _ (Nat.lt_of_lt_of_le (show w.heap.size < w.heap.size + 2 by omega) (HZA.out _)) hne9).trans ((((Grew.refl w4).alloc _).block (blk_lt HP3.out)).trans HP3.out)
             have k8 : w8.cell? ⟨w.heap.size + 1, 0, none⟩ = some (.slice AS nS cS) := by rw [blk_cell hb8]; rfl
             have f8 := blk_frozen hb8 0
             have hG8 : Grew w w8 := (HG3.out.alloc _).grown hg8 (fun g hg => by have := own_of_ge HOT.out hg; omega)
             have hz8 : w.heap.size + 2 ≤ w8.heap.size := Nat.le_trans (HZA.out _) hg8.size
             have HFIN := Lib.hid (show Hid ((w8.setCell ⟨w.heap.size + 1, 0, none⟩ (.slice A8 ((sk r).length + 1) c8)).heap[w.heap.size]? = some (.cells #[.int .i64 (NA : Int), .slice A' NA c] 30 (0, 0))) ∧ Hid (Stk (w8.setCell ⟨w.heap.size + 1, 0, none⟩ (.slice A8 ((sk r).length + 1) c8)) (w.heap.size + 1) (w.heap.size + 2) (ev A V (xs.drop k))) ∧ Hid (Grew w (w8.setCell ⟨w.heap.size + 1, 0, none⟩ (.slice A8 ((sk r).length + 1) c8))) ∧ Hid (w.heap.size + 2 ≤ (w8.setCell ⟨w.heap.size + 1, 0, none⟩ (.slice A8 ((sk r).length + 1) c8)).heap.size) from by
               have hon : Only (w.heap.size + 1) w8 (w8.setCell ⟨w.heap.size + 1, 0, none⟩ (.slice A8 ((sk r).length + 1) c8)) := (Only.refl _ _).setCell _
               refine ⟨Lib.hid ((hon.block (by omega) (by omega)).trans hp8), Lib.hid ⟨_, _, _, blk_set hb8 0 _, ?_⟩, Lib.hid (hG8.setCell (show w.heap.size ≤ w.heap.size + 1 by omega) _), Lib.hid (Nat.le_trans hz8 hon.size)⟩
               rw [HEK.out, sk_cons]
               exact own_only hown8 hon (fun he => by have := own_of_ge hown8 he; omega))
             clear hb8 hp8 hG8 hz8 hown8 hg8 hne8 hne9 k7 k7'))
        go_roundw
        case rel => exact ⟨k, by omega, rfl, HFIN.out⟩
        case measure => simp [intOf] <;> omega
end Go.Proofs.YtoogcooggdahnaaGreat

/- Formulas of two parts. -/
namespace Go.Proofs.YtoogcooggdahnaaGreat
open Go.RowKit

/-- The formula has two parts. -/
def TwoF (A p q : Fm.Tree) : Prop := Fm.enc A = (kindOf A, 0) :: (Fm.enc p ++ Fm.enc q)
theorem TwoF.len {A p q : Fm.Tree} (h : TwoF A p q) : (Fm.enc A).length = 1 + (Fm.enc p).length + (Fm.enc q).length := by rw [h]; simp; omega
end Go.Proofs.YtoogcooggdahnaaGreat

/- The parts of a formula in the reference. -/
namespace Go.Proofs.YtoogcooggdahnaaGreat
open Go.RowKit
open Fm (Nd Tree)

theorem left_t {A x y : Tree} (h2 : TwoF A x y) (hA : FmOk A) (v : Value) (w : World) (h : Nodes w v (Fm.enc A)) : Calls Tryz.prog 49 #[v] w (Cuts w (Fm.enc x)) :=
  l02Left_c v (Fm.enc A) x w h (by have := hA.1; omega) (at_first h2)
theorem right_t {A x y : Tree} (h2 : TwoF A x y) (hA : FmOk A) (v : Value) (w : World) (h : Nodes w v (Fm.enc A)) : Calls Tryz.prog 50 #[v] w (Cuts w (Fm.enc y)) :=
  l02Right_c v (Fm.enc A) x y w h (by have := hA.1; omega) (at_first h2) (at_second h2) h2.len
theorem two_and (x y : Tree) : TwoF (.and x y) x y := rfl
theorem two_or (x y : Tree) : TwoF (.or x y) x y := rfl
theorem two_imp (x y : Tree) : TwoF (.imp x y) x y := rfl
/-- A head's cell. -/
theorem head_t {w : World} {v : Value} {t : Tree} (h : Nodes w v (Fm.enc t)) : ∃ b o n c, v = .slice (some ⟨b, o, none⟩) n c ∧ 0 < n ∧ n = (Fm.enc t).length ∧ ∀ W, Grew w W → W.cell? ⟨b, o, none⟩ = some (.int .i64 (kindOf t)) := by
  obtain ⟨b, o, c, h1, _, _, h4⟩ := nodes_head h
  exact ⟨b, o, _, c, h1, Fm.enc_pos t, rfl, h4⟩

end Go.Proofs.YtoogcooggdahnaaGreat

/- l17Force of the reference. -/
namespace Go.Proofs.YtoogcooggdahnaaGreat
open Go.RowKit
open Fm (Nd Tree)

theorem fv_sm {A V : List Nat} (hA : Rl A) (hV : ∀ m ∈ V, m < 2 ^ A.length) (t : Tree) : fv A V t < 1073741824 := Nat.lt_of_lt_of_le (fv_lt hV t) (pow30' hA.1)
/-- What the walk needs of one call. -/
def ForceOk (A V : List Nat) (t : Tree) : Prop := ∀ (v u va : Value) (w : World), Ints w v (zs A) → Ints w u (zs V) → Nodes w va (Fm.enc t) → FmOk t →
    Calls Tryz.prog 31 #[.agg #[.int .i64 (A.length : Int), v], u, va] w fun e w' => e = .returned (.int .i64 ((fv A V t : Nat) : Int)) ∧ Grew w w'
set_option maxHeartbeats 4000000 in
theorem force_ok (A V : List Nat) (hA : Rl A) (hV : ∀ m ∈ V, m < 2 ^ A.length) (hl : V.length = 6) : ∀ t : Tree, ForceOk A V t := by
  intro t
  induction t with
  | box x _ => intro v u va w _ _ _ ht; exact absurd (anyP_mem.1 ht.2 (5, 0) (by simp [Fm.enc])) (by simp [isBD])
  | dia x _ => intro v u va w _ _ _ ht; exact absurd (anyP_mem.1 ht.2 (6, 0) (by simp [Fm.enc])) (by simp [isBD])
  | fls =>
    intro v u va w h hu ha ht
    obtain ⟨b, o, n, c, rfl, hn0, hne, hk⟩ := head_t ha
    have k0 := hk _ ((Grew.refl w).alloc (.cells #[.int .i64 (A.length : Int), v] 30))
    simp only [kindOf] at k0
    have hnn : (0 : Int) < (n : Int) := by omega
    obtain ⟨A', cA, rfl⟩ := ints_sliceN h
    obtain ⟨AU, cu, rfl⟩ := ints_sliceN hu
    have hg := (Grew.refl w).alloc (.cells #[.int .i64 (A.length : Int), .slice A' A.length cA] 30)
    clear h hu ha hk ht hA hne
    show Calls _ _ _ _ fun e w' => e = .returned (.int .i64 0) ∧ Grew w w'
    generalize A.length = NA at *
    go_enter Tryz.func31, Tryz.ntmps31
    go_wp2_with fail
    go_ret
    exact ⟨rfl, hg⟩
  | var s =>
    intro v u va w h hu ha ht
    obtain ⟨b, o, c, rfl, hc0, hc1, hbl, hcell⟩ : ∃ b o c, va = .slice (some ⟨b, o, none⟩) 1 c ∧ 1 ≤ c ∧ c ≤ 9223372036854775807 ∧ b < w.heap.size ∧ ∀ W, Grew w W → W.cell? ⟨b, o, none⟩ = some (.int .i64 0) ∧ W.cell? ⟨b, o + 1, none⟩ = some (.int .i64 (s.val : Int)) := by
      rcases ha.open_ with ⟨_, h0⟩ | ⟨b, o, c, rfl, q1, q2, q3, q4⟩
      · exact absurd h0 (by simp [Fm.enc])
      · exact ⟨b, o, c, rfl, q1, q2, q3, fun W hW => by simpa [kd, sy, Fm.enc, List.getD] using q4 0 (by simp [Fm.enc]) W hW⟩
    have hgr := (Grew.refl w).alloc (.cells #[.int .i64 (A.length : Int), v] 30)
    obtain ⟨k0, k1⟩ := hcell _ hgr
    obtain ⟨A', cA, rfl⟩ := ints_sliceN h
    obtain ⟨AU, cu, rfl⟩ := ints_sliceN hu
    have hcu := cellsN hu (by omega)
    obtain ⟨bu, ou, rfl, hcu⟩ := hcu
    have hs : s.val < 6 := s.isLt
    have k2 := hcu s.val (by omega) _ hgr
    show Calls _ _ _ _ fun e w' => e = .returned (.int .i64 ((nt V s.val : Nat) : Int)) ∧ Grew w w'
    generalize nt V s.val = y at *
    generalize s.val = sv at *
    rw [hl]
    clear h hu ha ht hA hcell hcu hV hl
    generalize A.length = NA at *
    have hsi : (sv : Int) < 6 := by omega
    go_enter Tryz.func31, Tryz.ntmps31
    go_wp2_with fail
    go_ret
    exact ⟨rfl, hgr⟩
  | and x y ihx ihy =>
    intro v u va w h hu ha ht
    obtain ⟨hx, hy⟩ := fmOk_and ht
    have KL := Lib.hid (fun W (hW : Grew w W) => left_t (two_and x y) ht va W (ha.grew hW))
    have KR := Lib.hid (fun W (hW : Grew w W) => right_t (two_and x y) ht va W (ha.grew hW))
    have KX := Lib.hid (fun va W (hW : Grew w W) (hn : Nodes W va (Fm.enc x)) => ihx v u va W (h.grew hW) (hu.grew hW) hn hx)
    have KY := Lib.hid (fun va W (hW : Grew w W) (hn : Nodes W va (Fm.enc y)) => ihy v u va W (h.grew hW) (hu.grew hW) hn hy)
    have hop := and_i64 (fv A V x) (fv A V y) (by have := fv_sm hA hV x; omega) (by have := fv_sm hA hV y; omega)
    obtain ⟨b, o, n, c, rfl, hn0, hne, hk⟩ := head_t ha
    simp only [kindOf] at hk
    have hnn : (0 : Int) < (n : Int) := by omega
    obtain ⟨A', cA, rfl⟩ := ints_sliceN h
    obtain ⟨AU, cu, rfl⟩ := ints_sliceN hu
    show Calls _ _ _ _ fun e w' => e = .returned (.int .i64 ((fv A V x &&& fv A V y : Nat) : Int)) ∧ Grew w w'
    generalize fv A V x = X at *
    generalize fv A V y = Y at *
    generalize X &&& Y = Z at *
    clear h hu ha ht hA hne hx hy hV hl ihx ihy
    generalize V.length = NV at *
    generalize A.length = NA at *
    obtain ⟨w1, hw1⟩ : ∃ w1, w1 = w.alloc (.cells #[.int .i64 (NA : Int), .slice A' NA cA] 30) := ⟨_, rfl⟩
    have hal : Grew w w1 := by rw [hw1]; exact (Grew.refl w).alloc _
    have hb0 : w1.heap[w.heap.size]? = some (.cells #[.int .i64 (NA : Int), .slice A' NA cA] 30 (0, 0)) := by rw [hw1]; exact blk_new w _
    have p0 : ∀ W, Grew w1 W → W.cell? ⟨w.heap.size, 0, none⟩ = some (.int .i64 (NA : Int)) := fun W hW => by rw [blk_cell ((hW.block (blk_lt hb0)).trans hb0)]; rfl
    have p1 : ∀ W, Grew w1 W → W.cell? ⟨w.heap.size, 1, none⟩ = some (.slice A' NA cA) := fun W hW => by rw [blk_cell ((hW.block (blk_lt hb0)).trans hb0)]; rfl
    have k0 := fun W (hW : Grew w1 W) => hk W (hal.trans hW)
    have HAL := Lib.hid hal
    have k00 := hk _ ((Grew.refl w).alloc (.cells #[.int .i64 (NA : Int), .slice A' NA cA] 30))
    have hr1 := Grew.refl w1
    have hd1 := hr1.drew
    clear hk hb0 hal
    go_enter Tryz.func31, Tryz.ntmps31
    go_wp2_with fail
    simp only [← hw1]
    clear hw1 k00
    refine wp_region_held_drew (S := fun w' => Grew w1 w') (by kernel_rfl) hd1 (fun hHeld => ?_)
    refine wpAnyH_take (i := 0) (oi := ?on1) (v := ?vn1) ?hin1 ?an1 ?bn1 ?cn1 ?qn1 (Or.inl ⟨?dn1, ?hyn1⟩) hHeld ?restn1
    case hin1 => (simp only [List.getElem?_toArray, List.getElem?_cons_zero]; exact rfl)
    case an1 => kernel_rfl
    case bn1 => kernel_rfl
    case cn1 => kernel_rfl
    case qn1 => exact fun _ _ _ h => h
    case dn1 => rfl
    case hyn1 => (intro z hSw; (try dsimp only at hSw); go_simp; (try with_reducible rfl))
    try simp only [Act.put, List.setIfInBounds_toArray, List.set_cons_zero, List.set_cons_succ]
    refine wpAnyH_take (i := 1) (oi := ?on2) (v := ?vn2) ?hin2 ?an2 ?bn2 ?cn2 ?qn2 (Or.inl ⟨?dn2, ?hyn2⟩) hHeld ?restn2
    case hin2 => (simp only [List.getElem?_toArray, List.getElem?_cons_succ, List.getElem?_cons_zero]; exact rfl)
    case an2 => kernel_rfl
    case bn2 => kernel_rfl
    case cn2 => kernel_rfl
    case qn2 => exact fun _ _ _ h => h
    case dn2 => rfl
    case hyn2 => (intro z hSw; (try dsimp only at hSw); go_simp; (try with_reducible rfl))
    try simp only [Act.put, List.setIfInBounds_toArray, List.set_cons_zero, List.set_cons_succ]
    refine wpAnyH_take (i := 2) (oi := ?on3) (v := ?vn3) ?hin3 ?an3 ?bn3 ?cn3 ?qn3 (Or.inl ⟨?dn3, ?hyn3⟩) hHeld ?restn3
    case hin3 => (simp only [List.getElem?_toArray, List.getElem?_cons_succ, List.getElem?_cons_zero]; exact rfl)
    case an3 => kernel_rfl
    case bn3 => kernel_rfl
    case cn3 => kernel_rfl
    case qn3 => exact fun _ _ _ h => h
    case dn3 => rfl
    case hyn3 => (intro z hSw; (try dsimp only at hSw); go_simp; (try with_reducible rfl))
    try simp only [Act.put, List.setIfInBounds_toArray, List.set_cons_zero, List.set_cons_succ]
    refine wpAnyH_take (i := 5) (oi := ?on4) (v := ?vn4) ?hin4 ?an4 ?bn4 ?cn4 ?qn4 (Or.inl ⟨?dn4, ?hyn4⟩) hHeld ?restn4
    case hin4 => (simp only [List.getElem?_toArray, List.getElem?_cons_succ, List.getElem?_cons_zero]; exact rfl)
    case an4 => kernel_rfl
    case bn4 => kernel_rfl
    case cn4 => kernel_rfl
    case qn4 => exact fun _ _ _ h => h
    case dn4 => rfl
    case hyn4 => (intro z hSw; (try dsimp only at hSw); go_simp; (try with_reducible rfl))
    try simp only [Act.put, List.setIfInBounds_toArray, List.set_cons_zero, List.set_cons_succ]
    refine wpAnyH_take (i := 6) (oi := ?on5) (v := ?vn5) ?hin5 ?an5 ?bn5 ?cn5 ?qn5 (Or.inl ⟨?dn5, ?hyn5⟩) hHeld ?restn5
    case hin5 => (simp only [List.getElem?_toArray, List.getElem?_cons_succ, List.getElem?_cons_zero]; exact rfl)
    case an5 => kernel_rfl
    case bn5 => kernel_rfl
    case cn5 => kernel_rfl
    case qn5 => exact fun _ _ _ h => h
    case dn5 => rfl
    case hyn5 => (intro z hSw; (try dsimp only at hSw); go_simp; (try with_reducible rfl))
    try simp only [Act.put, List.setIfInBounds_toArray, List.set_cons_zero, List.set_cons_succ]
    refine wpAnyH_take (i := 7) (oi := ?on6) (v := ?vn6) ?hin6 ?an6 ?bn6 ?cn6 ?qn6 (Or.inl ⟨?dn6, ?hyn6⟩) hHeld ?restn6
    case hin6 => (simp only [List.getElem?_toArray, List.getElem?_cons_succ, List.getElem?_cons_zero]; exact rfl)
    case an6 => kernel_rfl
    case bn6 => kernel_rfl
    case cn6 => kernel_rfl
    case qn6 => exact fun _ _ _ h => h
    case dn6 => rfl
    case hyn6 => (intro z hSw; (try dsimp only at hSw); go_simp; (try with_reducible rfl))
    try simp only [Act.put, List.setIfInBounds_toArray, List.set_cons_zero, List.set_cons_succ]
    refine wpAnyH_ready (rs := [3]) (by kernel_rfl) (by simp) ?_
    refine AllReadyH.cons (o := ?on7) ?hin7 ?restn7 AllReadyH.nil
    case hin7 => (simp only [List.getElem?_toArray, List.getElem?_cons_succ, List.getElem?_cons_zero]; exact rfl)
    intro K hK
    go_simp
    go_at_call 49
    refine (KL.out _ (HAL.out.trans hd1)).mono ?_
    rintro e w2 ⟨va2, rfl, hn2, hgw2⟩
    have h2 : Grew w1 w2 := hd1.trans hgw2
    obtain ⟨B2, e2, rfl⟩ := nodes_slice hn2
    refine hK.out _ _ ?_ (fun hHeld => ?_)
    · (try dsimp only); first | with_reducible assumption | exact Grew.alloc ‹_› _
    clear hK K
    try simp only [Act.put, List.setIfInBounds_toArray, List.set_cons_zero, List.set_cons_succ]
    refine wpAnyH_ready (rs := [4]) (by kernel_rfl) (by simp) ?_
    refine AllReadyH.cons (o := ?on8) ?hin8 ?restn8 AllReadyH.nil
    case hin8 => (simp only [List.getElem?_toArray, List.getElem?_cons_succ, List.getElem?_cons_zero]; exact rfl)
    intro K hK
    go_simp
    go_at_call 31
    refine (KX.out _ _ (HAL.out.trans h2) hn2).mono ?_
    rintro e w3 ⟨rfl, hgw3⟩
    have h3 : Grew w1 w3 := h2.trans hgw3
    refine hK.out _ _ ?_ (fun hHeld => ?_)
    · (try dsimp only); first | with_reducible assumption | exact Grew.alloc ‹_› _
    clear hK K
    try simp only [Act.put, List.setIfInBounds_toArray, List.set_cons_zero, List.set_cons_succ]
    refine wpAnyH_ready (rs := [8]) (by kernel_rfl) (by simp) ?_
    refine AllReadyH.cons (o := ?on9) ?hin9 ?restn9 AllReadyH.nil
    case hin9 => (simp only [List.getElem?_toArray, List.getElem?_cons_succ, List.getElem?_cons_zero]; exact rfl)
    intro K hK
    go_simp
    go_at_call 50
    refine (KR.out _ (HAL.out.trans h3)).mono ?_
    rintro e w4 ⟨va4, rfl, hn4, hgw4⟩
    have h4 : Grew w1 w4 := h3.trans hgw4
    obtain ⟨B4, e4, rfl⟩ := nodes_slice hn4
    refine hK.out _ _ ?_ (fun hHeld => ?_)
    · (try dsimp only); first | with_reducible assumption | exact Grew.alloc ‹_› _
    clear hK K
    try simp only [Act.put, List.setIfInBounds_toArray, List.set_cons_zero, List.set_cons_succ]
    refine wpAnyH_ready (rs := [9]) (by kernel_rfl) (by simp) ?_
    refine AllReadyH.cons (o := ?on10) ?hin10 ?restn10 AllReadyH.nil
    case hin10 => (simp only [List.getElem?_toArray, List.getElem?_cons_succ, List.getElem?_cons_zero]; exact rfl)
    intro K hK
    go_simp
    go_at_call 31
    refine (KY.out _ _ (HAL.out.trans h4) hn4).mono ?_
    rintro e w5 ⟨rfl, hgw5⟩
    have h5 : Grew w1 w5 := h4.trans hgw5
    refine hK.out _ _ ?_ (fun hHeld => ?_)
    · (try dsimp only); first | with_reducible assumption | exact Grew.alloc ‹_› _
    clear hK K
    try simp only [Act.put, List.setIfInBounds_toArray, List.set_cons_zero, List.set_cons_succ]
    refine wpAnyH_take (i := 10) (oi := ?on11) (v := ?vn11) ?hin11 ?an11 ?bn11 ?cn11 ?qn11 (Or.inl ⟨?dn11, ?hyn11⟩) hHeld ?restn11
    case hin11 => (simp only [List.getElem?_toArray, List.getElem?_cons_succ, List.getElem?_cons_zero]; exact rfl)
    case an11 => kernel_rfl
    case bn11 => kernel_rfl
    case cn11 => kernel_rfl
    case qn11 => exact fun _ _ _ h => h
    case dn11 => rfl
    case hyn11 => (intro z hSw; (try dsimp only at hSw); go_simp; (try with_reducible rfl))
    try simp only [Act.put, List.setIfInBounds_toArray, List.set_cons_zero, List.set_cons_succ]
    refine wpAnyH_take (i := 11) (oi := ?on12) (v := ?vn12) ?hin12 ?an12 ?bn12 ?cn12 ?qn12 (Or.inl ⟨?dn12, ?hyn12⟩) hHeld ?restn12
    case hin12 => (simp only [List.getElem?_toArray, List.getElem?_cons_succ, List.getElem?_cons_zero]; exact rfl)
    case an12 => kernel_rfl
    case bn12 => kernel_rfl
    case cn12 => kernel_rfl
    case qn12 => exact fun _ _ _ h => h
    case dn12 => rfl
    case hyn12 => (intro z hSw; (try dsimp only at hSw); go_simp; (try with_reducible rfl))
    try simp only [Act.put, List.setIfInBounds_toArray, List.set_cons_zero, List.set_cons_succ]
    refine wpAnyH_done (by kernel_rfl) ?_ _
    go_wp2_with fail
    go_ret
    exact ⟨rfl, HAL.out.trans h5⟩
  | or x y ihx ihy =>
    intro v u va w h hu ha ht
    obtain ⟨hx, hy⟩ := fmOk_or ht
    have KL := Lib.hid (fun W (hW : Grew w W) => left_t (two_or x y) ht va W (ha.grew hW))
    have KR := Lib.hid (fun W (hW : Grew w W) => right_t (two_or x y) ht va W (ha.grew hW))
    have KX := Lib.hid (fun va W (hW : Grew w W) (hn : Nodes W va (Fm.enc x)) => ihx v u va W (h.grew hW) (hu.grew hW) hn hx)
    have KY := Lib.hid (fun va W (hW : Grew w W) (hn : Nodes W va (Fm.enc y)) => ihy v u va W (h.grew hW) (hu.grew hW) hn hy)
    have hop := or_i64 (fv A V x) (fv A V y) (by have := fv_sm hA hV x; omega) (by have := fv_sm hA hV y; omega)
    obtain ⟨b, o, n, c, rfl, hn0, hne, hk⟩ := head_t ha
    simp only [kindOf] at hk
    have hnn : (0 : Int) < (n : Int) := by omega
    obtain ⟨A', cA, rfl⟩ := ints_sliceN h
    obtain ⟨AU, cu, rfl⟩ := ints_sliceN hu
    show Calls _ _ _ _ fun e w' => e = .returned (.int .i64 ((fv A V x ||| fv A V y : Nat) : Int)) ∧ Grew w w'
    generalize fv A V x = X at *
    generalize fv A V y = Y at *
    generalize X ||| Y = Z at *
    clear h hu ha ht hA hne hx hy hV hl ihx ihy
    generalize V.length = NV at *
    generalize A.length = NA at *
    obtain ⟨w1, hw1⟩ : ∃ w1, w1 = w.alloc (.cells #[.int .i64 (NA : Int), .slice A' NA cA] 30) := ⟨_, rfl⟩
    have hal : Grew w w1 := by rw [hw1]; exact (Grew.refl w).alloc _
    have hb0 : w1.heap[w.heap.size]? = some (.cells #[.int .i64 (NA : Int), .slice A' NA cA] 30 (0, 0)) := by rw [hw1]; exact blk_new w _
    have p0 : ∀ W, Grew w1 W → W.cell? ⟨w.heap.size, 0, none⟩ = some (.int .i64 (NA : Int)) := fun W hW => by rw [blk_cell ((hW.block (blk_lt hb0)).trans hb0)]; rfl
    have p1 : ∀ W, Grew w1 W → W.cell? ⟨w.heap.size, 1, none⟩ = some (.slice A' NA cA) := fun W hW => by rw [blk_cell ((hW.block (blk_lt hb0)).trans hb0)]; rfl
    have k0 := fun W (hW : Grew w1 W) => hk W (hal.trans hW)
    have HAL := Lib.hid hal
    have k00 := hk _ ((Grew.refl w).alloc (.cells #[.int .i64 (NA : Int), .slice A' NA cA] 30))
    have hr1 := Grew.refl w1
    have hd1 := hr1.drew
    clear hk hb0 hal
    go_enter Tryz.func31, Tryz.ntmps31
    go_wp2_with fail
    simp only [← hw1]
    clear hw1 k00
    refine wp_region_held_drew (S := fun w' => Grew w1 w') (by kernel_rfl) hd1 (fun hHeld => ?_)
    refine wpAnyH_take (i := 0) (oi := ?on13) (v := ?vn13) ?hin13 ?an13 ?bn13 ?cn13 ?qn13 (Or.inl ⟨?dn13, ?hyn13⟩) hHeld ?restn13
    case hin13 => (simp only [List.getElem?_toArray, List.getElem?_cons_zero]; exact rfl)
    case an13 => kernel_rfl
    case bn13 => kernel_rfl
    case cn13 => kernel_rfl
    case qn13 => exact fun _ _ _ h => h
    case dn13 => rfl
    case hyn13 => (intro z hSw; (try dsimp only at hSw); go_simp; (try with_reducible rfl))
    try simp only [Act.put, List.setIfInBounds_toArray, List.set_cons_zero, List.set_cons_succ]
    refine wpAnyH_take (i := 1) (oi := ?on14) (v := ?vn14) ?hin14 ?an14 ?bn14 ?cn14 ?qn14 (Or.inl ⟨?dn14, ?hyn14⟩) hHeld ?restn14
    case hin14 => (simp only [List.getElem?_toArray, List.getElem?_cons_succ, List.getElem?_cons_zero]; exact rfl)
    case an14 => kernel_rfl
    case bn14 => kernel_rfl
    case cn14 => kernel_rfl
    case qn14 => exact fun _ _ _ h => h
    case dn14 => rfl
    case hyn14 => (intro z hSw; (try dsimp only at hSw); go_simp; (try with_reducible rfl))
    try simp only [Act.put, List.setIfInBounds_toArray, List.set_cons_zero, List.set_cons_succ]
    refine wpAnyH_take (i := 2) (oi := ?on15) (v := ?vn15) ?hin15 ?an15 ?bn15 ?cn15 ?qn15 (Or.inl ⟨?dn15, ?hyn15⟩) hHeld ?restn15
    case hin15 => (simp only [List.getElem?_toArray, List.getElem?_cons_succ, List.getElem?_cons_zero]; exact rfl)
    case an15 => kernel_rfl
    case bn15 => kernel_rfl
    case cn15 => kernel_rfl
    case qn15 => exact fun _ _ _ h => h
    case dn15 => rfl
    case hyn15 => (intro z hSw; (try dsimp only at hSw); go_simp; (try with_reducible rfl))
    try simp only [Act.put, List.setIfInBounds_toArray, List.set_cons_zero, List.set_cons_succ]
    refine wpAnyH_take (i := 5) (oi := ?on16) (v := ?vn16) ?hin16 ?an16 ?bn16 ?cn16 ?qn16 (Or.inl ⟨?dn16, ?hyn16⟩) hHeld ?restn16
    case hin16 => (simp only [List.getElem?_toArray, List.getElem?_cons_succ, List.getElem?_cons_zero]; exact rfl)
    case an16 => kernel_rfl
    case bn16 => kernel_rfl
    case cn16 => kernel_rfl
    case qn16 => exact fun _ _ _ h => h
    case dn16 => rfl
    case hyn16 => (intro z hSw; (try dsimp only at hSw); go_simp; (try with_reducible rfl))
    try simp only [Act.put, List.setIfInBounds_toArray, List.set_cons_zero, List.set_cons_succ]
    refine wpAnyH_take (i := 6) (oi := ?on17) (v := ?vn17) ?hin17 ?an17 ?bn17 ?cn17 ?qn17 (Or.inl ⟨?dn17, ?hyn17⟩) hHeld ?restn17
    case hin17 => (simp only [List.getElem?_toArray, List.getElem?_cons_succ, List.getElem?_cons_zero]; exact rfl)
    case an17 => kernel_rfl
    case bn17 => kernel_rfl
    case cn17 => kernel_rfl
    case qn17 => exact fun _ _ _ h => h
    case dn17 => rfl
    case hyn17 => (intro z hSw; (try dsimp only at hSw); go_simp; (try with_reducible rfl))
    try simp only [Act.put, List.setIfInBounds_toArray, List.set_cons_zero, List.set_cons_succ]
    refine wpAnyH_take (i := 7) (oi := ?on18) (v := ?vn18) ?hin18 ?an18 ?bn18 ?cn18 ?qn18 (Or.inl ⟨?dn18, ?hyn18⟩) hHeld ?restn18
    case hin18 => (simp only [List.getElem?_toArray, List.getElem?_cons_succ, List.getElem?_cons_zero]; exact rfl)
    case an18 => kernel_rfl
    case bn18 => kernel_rfl
    case cn18 => kernel_rfl
    case qn18 => exact fun _ _ _ h => h
    case dn18 => rfl
    case hyn18 => (intro z hSw; (try dsimp only at hSw); go_simp; (try with_reducible rfl))
    try simp only [Act.put, List.setIfInBounds_toArray, List.set_cons_zero, List.set_cons_succ]
    refine wpAnyH_ready (rs := [3]) (by kernel_rfl) (by simp) ?_
    refine AllReadyH.cons (o := ?on19) ?hin19 ?restn19 AllReadyH.nil
    case hin19 => (simp only [List.getElem?_toArray, List.getElem?_cons_succ, List.getElem?_cons_zero]; exact rfl)
    intro K hK
    go_simp
    go_at_call 49
    refine (KL.out _ (HAL.out.trans hd1)).mono ?_
    rintro e w2 ⟨va2, rfl, hn2, hgw2⟩
    have h2 : Grew w1 w2 := hd1.trans hgw2
    obtain ⟨B2, e2, rfl⟩ := nodes_slice hn2
    refine hK.out _ _ ?_ (fun hHeld => ?_)
    · (try dsimp only); first | with_reducible assumption | exact Grew.alloc ‹_› _
    clear hK K
    try simp only [Act.put, List.setIfInBounds_toArray, List.set_cons_zero, List.set_cons_succ]
    refine wpAnyH_ready (rs := [4]) (by kernel_rfl) (by simp) ?_
    refine AllReadyH.cons (o := ?on20) ?hin20 ?restn20 AllReadyH.nil
    case hin20 => (simp only [List.getElem?_toArray, List.getElem?_cons_succ, List.getElem?_cons_zero]; exact rfl)
    intro K hK
    go_simp
    go_at_call 31
    refine (KX.out _ _ (HAL.out.trans h2) hn2).mono ?_
    rintro e w3 ⟨rfl, hgw3⟩
    have h3 : Grew w1 w3 := h2.trans hgw3
    refine hK.out _ _ ?_ (fun hHeld => ?_)
    · (try dsimp only); first | with_reducible assumption | exact Grew.alloc ‹_› _
    clear hK K
    try simp only [Act.put, List.setIfInBounds_toArray, List.set_cons_zero, List.set_cons_succ]
    refine wpAnyH_ready (rs := [8]) (by kernel_rfl) (by simp) ?_
    refine AllReadyH.cons (o := ?on21) ?hin21 ?restn21 AllReadyH.nil
    case hin21 => (simp only [List.getElem?_toArray, List.getElem?_cons_succ, List.getElem?_cons_zero]; exact rfl)
    intro K hK
    go_simp
    go_at_call 50
    refine (KR.out _ (HAL.out.trans h3)).mono ?_
    rintro e w4 ⟨va4, rfl, hn4, hgw4⟩
    have h4 : Grew w1 w4 := h3.trans hgw4
    obtain ⟨B4, e4, rfl⟩ := nodes_slice hn4
    refine hK.out _ _ ?_ (fun hHeld => ?_)
    · (try dsimp only); first | with_reducible assumption | exact Grew.alloc ‹_› _
    clear hK K
    try simp only [Act.put, List.setIfInBounds_toArray, List.set_cons_zero, List.set_cons_succ]
    refine wpAnyH_ready (rs := [9]) (by kernel_rfl) (by simp) ?_
    refine AllReadyH.cons (o := ?on22) ?hin22 ?restn22 AllReadyH.nil
    case hin22 => (simp only [List.getElem?_toArray, List.getElem?_cons_succ, List.getElem?_cons_zero]; exact rfl)
    intro K hK
    go_simp
    go_at_call 31
    refine (KY.out _ _ (HAL.out.trans h4) hn4).mono ?_
    rintro e w5 ⟨rfl, hgw5⟩
    have h5 : Grew w1 w5 := h4.trans hgw5
    refine hK.out _ _ ?_ (fun hHeld => ?_)
    · (try dsimp only); first | with_reducible assumption | exact Grew.alloc ‹_› _
    clear hK K
    try simp only [Act.put, List.setIfInBounds_toArray, List.set_cons_zero, List.set_cons_succ]
    refine wpAnyH_take (i := 10) (oi := ?on23) (v := ?vn23) ?hin23 ?an23 ?bn23 ?cn23 ?qn23 (Or.inl ⟨?dn23, ?hyn23⟩) hHeld ?restn23
    case hin23 => (simp only [List.getElem?_toArray, List.getElem?_cons_succ, List.getElem?_cons_zero]; exact rfl)
    case an23 => kernel_rfl
    case bn23 => kernel_rfl
    case cn23 => kernel_rfl
    case qn23 => exact fun _ _ _ h => h
    case dn23 => rfl
    case hyn23 => (intro z hSw; (try dsimp only at hSw); go_simp; (try with_reducible rfl))
    try simp only [Act.put, List.setIfInBounds_toArray, List.set_cons_zero, List.set_cons_succ]
    refine wpAnyH_take (i := 11) (oi := ?on24) (v := ?vn24) ?hin24 ?an24 ?bn24 ?cn24 ?qn24 (Or.inl ⟨?dn24, ?hyn24⟩) hHeld ?restn24
    case hin24 => (simp only [List.getElem?_toArray, List.getElem?_cons_succ, List.getElem?_cons_zero]; exact rfl)
    case an24 => kernel_rfl
    case bn24 => kernel_rfl
    case cn24 => kernel_rfl
    case qn24 => exact fun _ _ _ h => h
    case dn24 => rfl
    case hyn24 => (intro z hSw; (try dsimp only at hSw); go_simp; (try with_reducible rfl))
    try simp only [Act.put, List.setIfInBounds_toArray, List.set_cons_zero, List.set_cons_succ]
    refine wpAnyH_done (by kernel_rfl) ?_ _
    go_wp2_with fail
    go_ret
    exact ⟨rfl, HAL.out.trans h5⟩
  | imp x y ihx ihy =>
    intro v u va w h hu ha ht
    obtain ⟨hx, hy⟩ := fmOk_imp ht
    have KL := Lib.hid (fun W (hW : Grew w W) => left_t (two_imp x y) ht va W (ha.grew hW))
    have KR := Lib.hid (fun W (hW : Grew w W) => right_t (two_imp x y) ht va W (ha.grew hW))
    have KX := Lib.hid (fun va W (hW : Grew w W) (hn : Nodes W va (Fm.enc x)) => ihx v u va W (h.grew hW) (hu.grew hW) hn hx)
    have KY := Lib.hid (fun va W (hW : Grew w W) (hn : Nodes W va (Fm.enc y)) => ihy v u va W (h.grew hW) (hu.grew hW) hn hy)
    have KA := Lib.hid (fun W (hW : Grew w W) => l17Arrow_c v A (fv A V x) (fv A V y) W (h.grew hW) hA (fv_sm hA hV x) (fv_sm hA hV y))
    obtain ⟨b, o, n, c, rfl, hn0, hne, hk⟩ := head_t ha
    simp only [kindOf] at hk
    have hnn : (0 : Int) < (n : Int) := by omega
    obtain ⟨A', cA, rfl⟩ := ints_sliceN h
    obtain ⟨AU, cu, rfl⟩ := ints_sliceN hu
    show Calls _ _ _ _ fun e w' => e = .returned (.int .i64 ((ar A (fv A V x) (fv A V y) : Nat) : Int)) ∧ Grew w w'
    generalize fv A V x = X at *
    generalize fv A V y = Y at *
    generalize ar A (X) (Y) = Z at *
    clear h hu ha ht hA hne hx hy hV hl ihx ihy
    generalize V.length = NV at *
    generalize A.length = NA at *
    obtain ⟨w1, hw1⟩ : ∃ w1, w1 = w.alloc (.cells #[.int .i64 (NA : Int), .slice A' NA cA] 30) := ⟨_, rfl⟩
    have hal : Grew w w1 := by rw [hw1]; exact (Grew.refl w).alloc _
    have hb0 : w1.heap[w.heap.size]? = some (.cells #[.int .i64 (NA : Int), .slice A' NA cA] 30 (0, 0)) := by rw [hw1]; exact blk_new w _
    have p0 : ∀ W, Grew w1 W → W.cell? ⟨w.heap.size, 0, none⟩ = some (.int .i64 (NA : Int)) := fun W hW => by rw [blk_cell ((hW.block (blk_lt hb0)).trans hb0)]; rfl
    have p1 : ∀ W, Grew w1 W → W.cell? ⟨w.heap.size, 1, none⟩ = some (.slice A' NA cA) := fun W hW => by rw [blk_cell ((hW.block (blk_lt hb0)).trans hb0)]; rfl
    have k0 := fun W (hW : Grew w1 W) => hk W (hal.trans hW)
    have HAL := Lib.hid hal
    have k00 := hk _ ((Grew.refl w).alloc (.cells #[.int .i64 (NA : Int), .slice A' NA cA] 30))
    have hr1 := Grew.refl w1
    have hd1 := hr1.drew
    clear hk hb0 hal
    go_enter Tryz.func31, Tryz.ntmps31
    go_wp2_with fail
    simp only [← hw1]
    clear hw1 k00
    refine wp_region_held_drew (S := fun w' => Grew w1 w') (by kernel_rfl) hd1 (fun hHeld => ?_)
    refine wpAnyH_take (i := 0) (oi := ?on25) (v := ?vn25) ?hin25 ?an25 ?bn25 ?cn25 ?qn25 (Or.inl ⟨?dn25, ?hyn25⟩) hHeld ?restn25
    case hin25 => (simp only [List.getElem?_toArray, List.getElem?_cons_zero]; exact rfl)
    case an25 => kernel_rfl
    case bn25 => kernel_rfl
    case cn25 => kernel_rfl
    case qn25 => exact fun _ _ _ h => h
    case dn25 => rfl
    case hyn25 => (intro z hSw; (try dsimp only at hSw); go_simp; (try with_reducible rfl))
    try simp only [Act.put, List.setIfInBounds_toArray, List.set_cons_zero, List.set_cons_succ]
    refine wpAnyH_take (i := 1) (oi := ?on26) (v := ?vn26) ?hin26 ?an26 ?bn26 ?cn26 ?qn26 (Or.inl ⟨?dn26, ?hyn26⟩) hHeld ?restn26
    case hin26 => (simp only [List.getElem?_toArray, List.getElem?_cons_succ, List.getElem?_cons_zero]; exact rfl)
    case an26 => kernel_rfl
    case bn26 => kernel_rfl
    case cn26 => kernel_rfl
    case qn26 => exact fun _ _ _ h => h
    case dn26 => rfl
    case hyn26 => (intro z hSw; (try dsimp only at hSw); go_simp; (try with_reducible rfl))
    try simp only [Act.put, List.setIfInBounds_toArray, List.set_cons_zero, List.set_cons_succ]
    refine wpAnyH_take (i := 2) (oi := ?on27) (v := ?vn27) ?hin27 ?an27 ?bn27 ?cn27 ?qn27 (Or.inl ⟨?dn27, ?hyn27⟩) hHeld ?restn27
    case hin27 => (simp only [List.getElem?_toArray, List.getElem?_cons_succ, List.getElem?_cons_zero]; exact rfl)
    case an27 => kernel_rfl
    case bn27 => kernel_rfl
    case cn27 => kernel_rfl
    case qn27 => exact fun _ _ _ h => h
    case dn27 => rfl
    case hyn27 => (intro z hSw; (try dsimp only at hSw); go_simp; (try with_reducible rfl))
    try simp only [Act.put, List.setIfInBounds_toArray, List.set_cons_zero, List.set_cons_succ]
    refine wpAnyH_take (i := 3) (oi := ?on28) (v := ?vn28) ?hin28 ?an28 ?bn28 ?cn28 ?qn28 (Or.inl ⟨?dn28, ?hyn28⟩) hHeld ?restn28
    case hin28 => (simp only [List.getElem?_toArray, List.getElem?_cons_succ, List.getElem?_cons_zero]; exact rfl)
    case an28 => kernel_rfl
    case bn28 => kernel_rfl
    case cn28 => kernel_rfl
    case qn28 => exact fun _ _ _ h => h
    case dn28 => rfl
    case hyn28 => (intro z hSw; (try dsimp only at hSw); go_simp; (try with_reducible rfl))
    try simp only [Act.put, List.setIfInBounds_toArray, List.set_cons_zero, List.set_cons_succ]
    refine wpAnyH_take (i := 6) (oi := ?on29) (v := ?vn29) ?hin29 ?an29 ?bn29 ?cn29 ?qn29 (Or.inl ⟨?dn29, ?hyn29⟩) hHeld ?restn29
    case hin29 => (simp only [List.getElem?_toArray, List.getElem?_cons_succ, List.getElem?_cons_zero]; exact rfl)
    case an29 => kernel_rfl
    case bn29 => kernel_rfl
    case cn29 => kernel_rfl
    case qn29 => exact fun _ _ _ h => h
    case dn29 => rfl
    case hyn29 => (intro z hSw; (try dsimp only at hSw); go_simp; (try with_reducible rfl))
    try simp only [Act.put, List.setIfInBounds_toArray, List.set_cons_zero, List.set_cons_succ]
    refine wpAnyH_take (i := 7) (oi := ?on30) (v := ?vn30) ?hin30 ?an30 ?bn30 ?cn30 ?qn30 (Or.inl ⟨?dn30, ?hyn30⟩) hHeld ?restn30
    case hin30 => (simp only [List.getElem?_toArray, List.getElem?_cons_succ, List.getElem?_cons_zero]; exact rfl)
    case an30 => kernel_rfl
    case bn30 => kernel_rfl
    case cn30 => kernel_rfl
    case qn30 => exact fun _ _ _ h => h
    case dn30 => rfl
    case hyn30 => (intro z hSw; (try dsimp only at hSw); go_simp; (try with_reducible rfl))
    try simp only [Act.put, List.setIfInBounds_toArray, List.set_cons_zero, List.set_cons_succ]
    refine wpAnyH_take (i := 8) (oi := ?on31) (v := ?vn31) ?hin31 ?an31 ?bn31 ?cn31 ?qn31 (Or.inl ⟨?dn31, ?hyn31⟩) hHeld ?restn31
    case hin31 => (simp only [List.getElem?_toArray, List.getElem?_cons_succ, List.getElem?_cons_zero]; exact rfl)
    case an31 => kernel_rfl
    case bn31 => kernel_rfl
    case cn31 => kernel_rfl
    case qn31 => exact fun _ _ _ h => h
    case dn31 => rfl
    case hyn31 => (intro z hSw; (try dsimp only at hSw); go_simp; (try with_reducible rfl))
    try simp only [Act.put, List.setIfInBounds_toArray, List.set_cons_zero, List.set_cons_succ]
    refine wpAnyH_ready (rs := [4]) (by kernel_rfl) (by simp) ?_
    refine AllReadyH.cons (o := ?on32) ?hin32 ?restn32 AllReadyH.nil
    case hin32 => (simp only [List.getElem?_toArray, List.getElem?_cons_succ, List.getElem?_cons_zero]; exact rfl)
    intro K hK
    go_simp
    go_at_call 49
    refine (KL.out _ (HAL.out.trans hd1)).mono ?_
    rintro e w2 ⟨va2, rfl, hn2, hgw2⟩
    have h2 : Grew w1 w2 := hd1.trans hgw2
    obtain ⟨B2, e2, rfl⟩ := nodes_slice hn2
    refine hK.out _ _ ?_ (fun hHeld => ?_)
    · (try dsimp only); first | with_reducible assumption | exact Grew.alloc ‹_› _
    clear hK K
    try simp only [Act.put, List.setIfInBounds_toArray, List.set_cons_zero, List.set_cons_succ]
    refine wpAnyH_ready (rs := [5]) (by kernel_rfl) (by simp) ?_
    refine AllReadyH.cons (o := ?on33) ?hin33 ?restn33 AllReadyH.nil
    case hin33 => (simp only [List.getElem?_toArray, List.getElem?_cons_succ, List.getElem?_cons_zero]; exact rfl)
    intro K hK
    go_simp
    go_at_call 31
    refine (KX.out _ _ (HAL.out.trans h2) hn2).mono ?_
    rintro e w3 ⟨rfl, hgw3⟩
    have h3 : Grew w1 w3 := h2.trans hgw3
    refine hK.out _ _ ?_ (fun hHeld => ?_)
    · (try dsimp only); first | with_reducible assumption | exact Grew.alloc ‹_› _
    clear hK K
    try simp only [Act.put, List.setIfInBounds_toArray, List.set_cons_zero, List.set_cons_succ]
    refine wpAnyH_ready (rs := [9]) (by kernel_rfl) (by simp) ?_
    refine AllReadyH.cons (o := ?on34) ?hin34 ?restn34 AllReadyH.nil
    case hin34 => (simp only [List.getElem?_toArray, List.getElem?_cons_succ, List.getElem?_cons_zero]; exact rfl)
    intro K hK
    go_simp
    go_at_call 50
    refine (KR.out _ (HAL.out.trans h3)).mono ?_
    rintro e w4 ⟨va4, rfl, hn4, hgw4⟩
    have h4 : Grew w1 w4 := h3.trans hgw4
    obtain ⟨B4, e4, rfl⟩ := nodes_slice hn4
    refine hK.out _ _ ?_ (fun hHeld => ?_)
    · (try dsimp only); first | with_reducible assumption | exact Grew.alloc ‹_› _
    clear hK K
    try simp only [Act.put, List.setIfInBounds_toArray, List.set_cons_zero, List.set_cons_succ]
    refine wpAnyH_ready (rs := [10]) (by kernel_rfl) (by simp) ?_
    refine AllReadyH.cons (o := ?on35) ?hin35 ?restn35 AllReadyH.nil
    case hin35 => (simp only [List.getElem?_toArray, List.getElem?_cons_succ, List.getElem?_cons_zero]; exact rfl)
    intro K hK
    go_simp
    go_at_call 31
    refine (KY.out _ _ (HAL.out.trans h4) hn4).mono ?_
    rintro e w5 ⟨rfl, hgw5⟩
    have h5 : Grew w1 w5 := h4.trans hgw5
    refine hK.out _ _ ?_ (fun hHeld => ?_)
    · (try dsimp only); first | with_reducible assumption | exact Grew.alloc ‹_› _
    clear hK K
    try simp only [Act.put, List.setIfInBounds_toArray, List.set_cons_zero, List.set_cons_succ]
    refine wpAnyH_ready (rs := [11]) (by kernel_rfl) (by simp) ?_
    refine AllReadyH.cons (o := ?on36) ?hin36 ?restn36 AllReadyH.nil
    case hin36 => (simp only [List.getElem?_toArray, List.getElem?_cons_succ, List.getElem?_cons_zero]; exact rfl)
    intro K hK
    go_simp
    go_at_call 51
    refine (KA.out _ (HAL.out.trans h5)).mono ?_
    rintro e w6 ⟨rfl, hgw6⟩
    have h6 : Grew w1 w6 := h5.trans hgw6
    refine hK.out _ _ ?_ (fun hHeld => ?_)
    · (try dsimp only); first | with_reducible assumption | exact Grew.alloc ‹_› _
    clear hK K
    try simp only [Act.put, List.setIfInBounds_toArray, List.set_cons_zero, List.set_cons_succ]
    refine wpAnyH_take (i := 12) (oi := ?on37) (v := ?vn37) ?hin37 ?an37 ?bn37 ?cn37 ?qn37 (Or.inl ⟨?dn37, ?hyn37⟩) hHeld ?restn37
    case hin37 => (simp only [List.getElem?_toArray, List.getElem?_cons_succ, List.getElem?_cons_zero]; exact rfl)
    case an37 => kernel_rfl
    case bn37 => kernel_rfl
    case cn37 => kernel_rfl
    case qn37 => exact fun _ _ _ h => h
    case dn37 => rfl
    case hyn37 => (intro z hSw; (try dsimp only at hSw); go_simp; (try with_reducible rfl))
    try simp only [Act.put, List.setIfInBounds_toArray, List.set_cons_zero, List.set_cons_succ]
    refine wpAnyH_done (by kernel_rfl) ?_ _
    go_wp2_with fail
    go_ret
    exact ⟨rfl, HAL.out.trans h6⟩
end Go.Proofs.YtoogcooggdahnaaGreat

/- Rows of slices of nodes of the call's own: an append of one slice. -/
namespace Go.Proofs.YtoogcooggdahnaaGreat
open Go.RowKit
open Fm (Nd)

/-- A row of slices of the call's own. -/
def OwnV (w : World) (B : Nat) (v : Value) (us : List Value) : Prop := w.ownsRow B 47 1 v us.length us

theorem own_app {w w' : World} {B B' : Nat} {u v : Value} {xs : List Nd} {us : List Value} (h : Own w B u xs) (hv : OwnV w B' v us) (hg : w.grownBy w' v.ownBlock) : Own w' B u xs := by
  rcases hv.2 with ⟨rfl, _⟩ | ⟨g, cap, cur, rfl, _, hh, _⟩
  · exact own_grew h (by
      have hg' : w.grownBy w' none := hg
      exact ⟨hg'.os, hg'.tape, hg'.output, hg'.size, fun i hi => hg'.block i hi (by simp)⟩)
  · exact own_only h (show Only g w w' from hg) (own_ne h hh (by decide))

theorem infoSl : (Tryz.prog.info? 47).map (fun i => (i.zero, i.size, i.bytes)) = some (some (.slice none 0 0), 1, 24) := by kernel_rfl

theorem wpList_appV {ops : Array Oper} {rest : List Oper} {o : Oper} {a : Act} {Q : Exit → Act → World → Prop} {w w0 : World} (s x : Operand) (hgd : o.guard = none)
    (ho : o.op = .call { callee := .builtin .append, args := #[s, x], argTypes := #[52, 52] })
    (v : Value) (us : List Value) (hs : a.eval s = v) (hown : OwnV w w0.heap.size v us) (hg : Grew w0 w) (vx u : Value) (hx : a.eval x = vx) (hr : Rd w 1 vx 1 [u]) (h1 : u.oneCell' = true) (hn : us.length ≤ 1048576)
    (h : ∀ v' w', OwnV w' w0.heap.size v' (us ++ [u]) → Grew w0 w' → w.grownBy w' v.ownBlock → wpList Tryz.prog ops Q rest (a.put o.dst v') w') : wpList Tryz.prog ops Q (o :: rest) a w := by
  obtain ⟨i0, hi0, hz0, hz1, hz2⟩ := info_parts infoSl
  refine wpList_append_rd w hgd s x _ ho w0.heap.size 47 i0 _ 1 24 Tryz.underlying52 hi0 hz0 hz1 hz2 rfl (by omega) v us.length us hs hown vx 1 [u] hx hr (by simpa using h1) (by unfold maxLen; omega) (by omega) hg.size ?_
  intro v' w' h1 h2 h3
  refine h v' w' ?_ (hg.grown h2 fun k hk => (hown.lt k hk).1) h2
  unfold OwnV
  rw [List.length_append]
  exact h1

theorem own_one {w : World} {B : Nat} {u : Value} {xs : List Nd} (h : Own w B u xs) : u.oneCell' = true := by
  obtain ⟨A, c, rfl⟩ := nodes_slice h.nodes
  rfl
theorem rd_lit (w : World) (u : Value) (t : TypeId) : Rd (w.alloc (.cells #[u] t)) 1 (.slice (some ⟨w.heap.size, 0, none⟩) 1 1) 1 [u] := by
  refine ⟨rfl, by omega, .inr ⟨w.heap.size, 0, 1, rfl, by omega, by omega, by simp, fun j x hx => ?_⟩⟩
  have hj : j = 0 := by
    have := (List.getElem?_eq_some_iff.1 hx).1
    simp at this
    omega
  subst hj
  simp at hx
  subst hx
  simp

theorem own_empty (w : World) : OwnV (w.alloc (.cells #[] 47)) w.heap.size (.slice (some ⟨w.heap.size, 0, none⟩) 0 0) [] :=
  World.ownsRow_lit (e := 47) (size := 1) w #[] 0 (Nat.le_refl _) (by omega) rfl
end Go.Proofs.YtoogcooggdahnaaGreat

/- Strings that are not larger than memory. -/
namespace Go.Proofs.YtoogcooggdahnaaGreat
open Go.RowKit

/-- No text of the list is long. -/
def Fits (L : List ByteArray) : Prop := ∀ i, i < L.length → (st L i).size ≤ 1048576
end Go.Proofs.YtoogcooggdahnaaGreat

/- New lists of lists of nodes: what holds of them. -/
namespace Go.Proofs.YtoogcooggdahnaaGreat
open Go.RowKit
open Fm (Nd)

/-- The lists that texts read to. -/
def lf (L : List ByteArray) : List (List Nd) := L.map fun s => (Fm.pf s).1
theorem lf_length (L : List ByteArray) : (lf L).length = L.length := by simp [lf]
theorem lf_at {L : List ByteArray} {i : Nat} (h : i < L.length) : (lf L).getD i [] = (Fm.pf (st L i)).1 := by
  simp [lf, st, List.getD, h]

/-- The first k of the slices read as the lists. -/
def Hold (w : World) (B : Nat) (us : List Value) (L : List ByteArray) : Prop := ∀ i, i < us.length → ∃ u, us[i]? = some u ∧ Own w B u ((lf L).getD i [])
theorem Hold.app {w w' : World} {B B' : Nat} {v : Value} {us : List Value} {L : List ByteArray} (h : Hold w B us L) (hv : OwnV w B' v us) (hg : w.grownBy w' v.ownBlock) : Hold w' B us L := by
  intro i hi
  obtain ⟨u, h1, h2⟩ := h i hi
  exact ⟨u, h1, own_app h2 hv hg⟩
theorem Hold.grew {w w' : World} {B : Nat} {us : List Value} {L : List ByteArray} (h : Hold w B us L) (hg : Grew w w') : Hold w' B us L := by
  intro i hi
  obtain ⟨u, h1, h2⟩ := h i hi
  exact ⟨u, h1, h2.grew hg⟩
theorem Hold.snoc {w : World} {B : Nat} {us : List Value} {u : Value} {L : List ByteArray} (h : Hold w B us L) (hu : Own w B u ((lf L).getD us.length [])) : Hold w B (us ++ [u]) L := by
  intro i hi
  rw [List.length_append] at hi
  rcases Nat.lt_or_ge i us.length with hk | hk
  · obtain ⟨x, h1, h2⟩ := h i hk
    exact ⟨x, by rw [List.getElem?_append_left hk]; exact h1, h2⟩
  · obtain rfl : i = us.length := by simp at hi; omega
    exact ⟨u, by simp, hu⟩
theorem lists_of {w : World} {B : Nat} {v : Value} {us : List Value} {L : List ByteArray} (hv : OwnV w B v us) (h : Hold w B us L) (hl : us.length = L.length) : Lists w v (lf L) := by
  obtain ⟨_, _, h3⟩ := Rd.of_own hv
  rcases h3 with ⟨h4, h5⟩ | ⟨b, o, c, h4, h5, h6, h7, h8⟩
  · exact .inl ⟨h4, by rw [List.eq_nil_of_length_eq_zero (show L.length = 0 by omega)]; rfl⟩
  · refine .inr ⟨b, o, c, by rw [lf_length, ← hl]; exact h4, by rw [lf_length]; omega, h6, h7, fun i hi => ?_⟩
    rw [lf_length] at hi
    obtain ⟨u, h9, h10⟩ := h i (by omega)
    exact ⟨u, h8 i u h9, h10.nodes⟩

/-- What the readers of a side give. -/
def GivesL (w : World) (L : List (List Nd)) (e : Ending) (w' : World) : Prop := ∃ v, e = .returned v ∧ Lists w' v L ∧ Grew w w'

end Go.Proofs.YtoogcooggdahnaaGreat

/- New lists of lists of nodes: formulasOf of the program. -/
namespace Go.Proofs.YtoogcooggdahnaaGreat
open Go.RowKit
open Fm (Nd)

theorem formulasOf_c (v : Value) (L : List ByteArray) (w : World) (h : Strs w v L) (hs : Fits L) (hn : L.length ≤ 1048576) :
    Calls Tryz.prog 42 #[v] w (GivesL w (lf L)) := by
  rcases h.open_ with ⟨rfl, rfl⟩ | ⟨b, o, c, rfl, hc, hm, hb, hcell⟩
  · clear h hs
    go_enter Tryz.func42, Tryz.ntmps42
    go_wp2_with fail
    refine wp_loop_rounds 1 ?_; rw [rounds_succ]
    go_wp2_with fail
    go_ret
    exact ⟨_, rfl, .inl ⟨rfl, rfl⟩, Grew.refl _⟩
  have HE := Lib.hid (fun w' v us (h1 : OwnV w' w.heap.size v us) h2 h3 => @lists_of w' w.heap.size v us L h1 h2 h3)
  have HC := Lib.hid hcell
  have HS := Lib.hid hs
  have HA := Lib.hid (fun i h => @lf_at L i h)
  clear hcell h hs
  unfold Fits at HS
  generalize hN : L.length = n at *
  clear hN
  go_enter Tryz.func42, Tryz.ntmps42
  go_wp2_with fail
  go_loopw [3, 5, 8] (fun vv _ i wr => ∃ (j : Nat) (us : List Value), j ≤ n ∧ us.length = j ∧ i = .int .i64 j ∧ OwnV wr w.heap.size vv us ∧ Grew w wr ∧ Hid (Hold wr w.heap.size us L)) (fun _ _ i _ => n - (intOf i).toNat)
  case atStart => exact ⟨0, [], Nat.zero_le _, rfl, rfl, World.ownsRow_nil w _ _ 1, Grew.refl _, fun i hi => absurd hi (by simp)⟩
  case round =>
    obtain ⟨j, us, hj, hu, rfl, hO, hB, HH⟩ := hrel
    by_cases hlt : j < n
    · have k1 := HC.out j hlt _ hB
      have hsz := HS.out j hlt
      have hP := Lib.hid (fun w => parsed_c (st L j) w (by omega))
      have hA : (lf L).getD us.length [] = (Fm.pf (st L j)).1 := by rw [hu]; exact HA.out j hlt
      have hA := Lib.hid hA
      generalize st L j = x at *
      go_wp2_with fail
      refine (hP.out _).mono ?_
      rintro e w1 ⟨u, rfl, ho1, hg1, _⟩
      obtain ⟨A, cc, rfl⟩ := nodes_slice ho1.nodes
      have hB1 := hB.trans hg1
      have hu1 := (ho1.base hB.size).grew ((Grew.refl w1).alloc (.cells #[.slice A (Fm.pf x).1.length cc] 47))
      have hO1 : OwnV (w1.alloc (.cells #[.slice A (Fm.pf x).1.length cc] 47)) w.heap.size u3 us := own_grew hO (hg1.trans ((Grew.refl w1).alloc _))
      have HH1 := Lib.hid (HH.out.grew (hg1.trans ((Grew.refl w1).alloc (.cells #[.slice A (Fm.pf x).1.length cc] 47))))
      have hone := own_one ho1
      go_wp2_with (first | (at_builtin; refine wpList_appV (w0 := w) _ _ rfl rfl _ us rfl hO1 (hB1.alloc _) _ _ rfl (rd_lit _ _ _) hone (by omega) ?_; intro v2 w2 hown2 hg2 hgr2))
      go_roundw
      case rel => exact ⟨j + 1, _, by omega, by rw [List.length_append, hu]; rfl, by go_num, hown2, hg2, Hold.snoc (HH1.out.app hO1 hgr2) (by rw [hA.out]; exact own_app hu1 hO1 hgr2)⟩
      case measure => simp [intOf]; omega
    · obtain rfl : j = n := by omega
      go_wp2_with fail
      go_ret
      exact ⟨_, rfl, HE.out _ _ _ hO HH.out hu, hB⟩
end Go.Proofs.YtoogcooggdahnaaGreat

/- The order of texts. -/
namespace Go.Proofs.YtoogcooggdahnaaGreat
open Go.RowKit

theorem above_iff : ∀ (x y : List UInt8), (Op.bytesLess x y || x == y) = !Op.bytesLess y x
  | [], [] => by simp [Op.bytesLess]
  | _ :: _, [] => by simp [Op.bytesLess]
  | [], _ :: _ => by simp [Op.bytesLess]
  | a :: x, b :: y => by
    have ih := above_iff x y
    rw [Op.bytesLess, Op.bytesLess]
    by_cases h1 : a < b
    · have h2 : ¬ b < a := by simp only [UInt8.lt_iff_toNat_lt] at *; omega
      have h3 : ¬ b = a := by rintro rfl; exact h2 h1
      simp [h1, h2, h3]
    · by_cases h2 : a = b
      · subst h2
        have h3 : ¬ a < a := h1
        simp only [h3, decide_false, Bool.false_or, beq_self_eq_true, Bool.true_and]
        rw [← ih]
        simp
      · have h3 : b < a := by
          simp only [UInt8.lt_iff_toNat_lt, ← UInt8.toNat_inj] at *
          omega
        have h4 : ¬ b = a := fun h => h2 h.symm
        simp [h1, h2, h3, h4]
end Go.Proofs.YtoogcooggdahnaaGreat

/- The laws' own helpers on slices of strings: szStringS, toStringS, eqStringS. -/
namespace Go.Proofs.YtoogcooggdahnaaGreat
open Go.RowKit

/-- A list of strings that came in. -/
def ArgS (w : World) (v : Value) (L : List ByteArray) : Prop :=
  (∃ A c, v = .slice A L.length c ∧ L.length ≤ 9223372036854775807) ∧ (0 < L.length → Strs w v L) ∧ ∀ i, i < L.length → (st L i).size ≤ 9223372036854775807
theorem ArgS.grew {w w' : World} {v : Value} {L : List ByteArray} (h : ArgS w v L) (hg : Grew w w') : ArgS w' v L := ⟨h.1, fun hp => (h.2.1 hp).grew hg, h.2.2⟩

/-- None of the first k is long. -/
def Small (L : List ByteArray) (k : Nat) : Prop := ∀ i, i < k → (st L i).size ≤ 1048576
theorem Small.zero (L : List ByteArray) : Small L 0 := fun i hi => absurd hi (by omega)
theorem Small.succ {L : List ByteArray} {k : Nat} (h : Small L k) (h1 : (st L k).size ≤ 1048576) : Small L (k + 1) := by
  intro i hi
  rcases Nat.lt_or_ge i k with hk | hk
  · exact h i hk
  · obtain rfl : i = k := by omega
    exact h1
/-- What the sizes' walk gives. -/
def Sizes (L : List ByteArray) (r : Int) : Prop := r ≤ 1048576 ∧ (0 ≤ r → L.length ≤ 1048576 ∧ Small L L.length)

theorem szStringS_c (v : Value) (L : List ByteArray) (left : Int) (w : World) (h : ArgS w v L) (h0 : 0 ≤ left) (h1 : left ≤ 1048576) :
    Calls Tryz.prog 5 #[v, .int .i64 left] w fun e w' => ∃ r : Int, e = .returned (.int .i64 r) ∧ Sizes L r ∧ Grew w w' := by
  obtain ⟨⟨A, c, rfl, hmax⟩, hS, hz⟩ := h
  by_cases hlong : left < L.length
  · clear hS hz
    go_enter Tryz.func5, Tryz.ntmps5
    go_wp2_with fail
    go_ret
    exact ⟨_, rfl, ⟨by omega, fun h => absurd h (by omega)⟩, Grew.refl _⟩
  · by_cases hp : 0 < L.length
    · rcases (hS hp).open_ with ⟨_, h2⟩ | ⟨b, o, c', hv, hc, hm, hb, hcell⟩
      · rw [h2] at hp; cases hp
      obtain ⟨rfl, rfl⟩ : A = some ⟨b, o, none⟩ ∧ c = c' := by simpa using hv
      clear hS hv
      have HE : Hid (∀ r : Int, (r ≤ 1048576 ∧ (0 ≤ r → L.length ≤ 1048576 ∧ Small L L.length)) → Sizes L r) := Lib.hid (fun _ h => h)
      have HC := Lib.hid hcell
      have HZ := Lib.hid hz
      clear hcell hz
      generalize hN : L.length = n at *
      clear hN
      go_enter Tryz.func5, Tryz.ntmps5
      go_wp2_with fail
      go_loopw [1, 5] (fun kk i wr => ∃ (j : Nat) (l : Int), j ≤ n ∧ i = .int .i64 j ∧ kk = .int .i64 l ∧ 0 ≤ l ∧ l ≤ left ∧ Grew w wr ∧ Hid (Small L j)) (fun _ i _ => n - (intOf i).toNat)
      case atStart => exact ⟨0, left - n, Nat.zero_le _, rfl, rfl, by omega, by omega, Grew.refl _, Small.zero _⟩
      case round =>
        obtain ⟨j, l, hj, rfl, rfl, hl0, hl1, hB, HJ⟩ := hrel
        by_cases hlt : j < n
        · have k1 := HC.out j hlt _ hB
          have k2 := HZ.out j hlt
          have HS := Lib.hid (fun h => HJ.out.succ (k := j) h)
          generalize st L j = x at *
          by_cases hbig : l < x.size
          · go_wp2_with fail
            go_ret
            exact ⟨_, rfl, HE.out _ ⟨by omega, fun h => absurd h (by omega)⟩, hB⟩
          · go_wp2_with fail
            go_roundw
            case rel => exact ⟨j + 1, l - x.size, by omega, by go_num, rfl, by omega, by omega, hB, HS.out (by omega)⟩
            case measure => simp [intOf]; omega
        · obtain rfl : j = n := by omega
          go_wp2_with fail
          go_ret
          exact ⟨_, rfl, HE.out _ ⟨by omega, fun _ => ⟨by omega, HJ.out⟩⟩, hB⟩
    · obtain rfl : L = [] := List.eq_nil_of_length_eq_zero (by omega)
      simp only [List.length_nil] at *
      go_enter Tryz.func5, Tryz.ntmps5
      go_wp2_with fail
      refine wp_loop_rounds 1 ?_; rw [rounds_succ]
      go_wp2_with fail
      go_ret
      exact ⟨_, rfl, ⟨by omega, fun _ => ⟨by simp, fun i hi => absurd hi (by simp)⟩⟩, Grew.refl _⟩

theorem one_step {cur : Array Value} {F : Nat → Value} {j : Nat} (hs : j < cur.size) (h : ∀ i, i < j → cur[i]? = some (F i)) :
    ∀ i, i < j + 1 → (cur.setIfInBounds j (F j))[i]? = some (F i) := by
  intro i hi
  simp only [Array.getElem?_setIfInBounds]
  rcases Nat.lt_or_ge i j with hk | hk
  · rw [if_neg (by omega)]
    exact h i hk
  · obtain rfl : i = j := by omega
    rw [if_pos rfl, if_pos hs]

theorem toStringS_c (v : Value) (L : List ByteArray) (w : World) (h : ArgS w v L) (hn : L.length ≤ 1048576) :
    Calls Tryz.prog 9 #[v] w (GivesS w L) := by
  obtain ⟨⟨A, c, rfl, hmax⟩, hS, _⟩ := h
  have hmk := run_make_row' (P := Tryz.prog) 25 9 (.string ByteArray.empty) 16 Tryz.underlying25 Tryz.infoStr rfl .i64 .i64 L.length (by omega) (by omega)
  have hend : ∀ cur w', w'.heap[w.heap.size]? = some (.cells cur 9 (0, 0)) → cur.size = L.length → (∀ i, i < L.length → cur[i]? = some (.string (st L i))) → OwnS w' w.heap.size (.slice (some ⟨w.heap.size, 0, none⟩) L.length L.length) L :=
    fun cur w' h1 h2 h3 => OwnS.mk_ (Nat.le_refl _) h1 (Nat.le_refl _) (by omega) h2 h3
  have HE := Lib.hid hend
  clear hend
  have hsz : (madeCells #[Value.string ByteArray.empty] L.length).size = L.length := by simp [madeCells]
  have hnew := blk_new w (.cells (madeCells #[Value.string ByteArray.empty] L.length) 9)
  have hal := (Grew.refl w).alloc (.cells (madeCells #[Value.string ByteArray.empty] L.length) 9)
  generalize madeCells #[Value.string ByteArray.empty] L.length = cur0 at *
  by_cases hp : 0 < L.length
  · rcases (hS hp).open_ with ⟨_, h2⟩ | ⟨b, o, c', hv, hc, hm, hb, hcell⟩
    · rw [h2] at hp; cases hp
    obtain ⟨rfl, rfl⟩ : A = some ⟨b, o, none⟩ ∧ c = c' := by simpa using hv
    clear hS hv
    have HC := Lib.hid hcell
    clear hcell
    generalize hN : L.length = n at *
    clear hN
    have HNEW := Lib.hid hnew
    clear hnew
    have HAL := Lib.hid hal
    clear hal
    go_enter Tryz.func9, Tryz.ntmps9
    go_wp2_with fail
    go_loopw [4] (fun i wr => ∃ (j : Nat) (cur : Array Value), j ≤ n ∧ i = .int .i64 j ∧ wr.heap[w.heap.size]? = some (.cells cur 9 (0, 0)) ∧ cur.size = n ∧ Grew w wr ∧ (∀ i, i < j → cur[i]? = some (.string (st L i)))) (fun i _ => n - (intOf i).toNat)
    case atStart => exact ⟨0, cur0, Nat.zero_le _, rfl, HNEW.out, hsz, HAL.out, fun i hi => absurd hi (by omega)⟩
    case round =>
      obtain ⟨j, cur, hj, rfl, hh, hcs, hB, hc2⟩ := hrel
      have HD := Lib.hid hc2
      clear hc2
      by_cases hlt : j < n
      · have k1 := HC.out j hlt _ hB
        have HS := Lib.hid (one_step (F := fun i => .string (st L i)) (j := j) (by omega) HD.out)
        have f1 : ∀ i, wr.frozen? ⟨w.heap.size, i, none⟩ = false := fun i => by simp [World.frozen?, hh]
        obtain ⟨u1, hu1⟩ : ∃ u, wr.cell? ⟨w.heap.size, 0 + j, none⟩ = some u := by
          rw [cell_of_row wr w.heap.size _ cur _ (0, 0) hh]
          exact ⟨_, Array.getElem?_eq_getElem (by omega)⟩
        simp only [Nat.zero_add] at hu1
        have HH := Lib.hid hh
        clear hh
        generalize st L j = x at *
        go_wp2_with fail
        go_roundw
        case rel => exact ⟨j + 1, _, by omega, by go_num, blk_set HH.out _ _, by simp [hcs], hB.setCell (Nat.le_refl _) _, HS.out⟩
        case measure => simp [intOf]; omega
      · obtain rfl : j = n := by omega
        have HH := Lib.hid hh
        clear hh
        go_wp2_with fail
        go_ret
        exact ⟨_, rfl, HE.out _ _ HH.out hcs HD.out, hB⟩
  · have hp0 : L.length ≤ 0 := by omega
    have HNEW := Lib.hid hnew
    clear hnew hS hp
    have HAL := Lib.hid hal
    clear hal
    generalize hN : L.length = n at *
    clear hN
    go_enter Tryz.func9, Tryz.ntmps9
    go_wp2_with fail
    refine wp_loop_rounds 1 ?_; rw [rounds_succ]
    go_wp2_with fail
    go_ret
    exact ⟨_, rfl, HE.out _ _ HNEW.out hsz (fun i hi => absurd hi (by omega)), HAL.out⟩

/-- Two lists of strings that are equal. -/
theorem eqStringS_yes (v1 v2 : Value) (L : List ByteArray) (w : World) (h1 : Strs w v1 L) (h2 : Strs w v2 L) (hn : L.length ≤ 1099511627776) :
    Calls Tryz.prog 13 #[v1, v2] w fun e w' => e = .returned (.bool true) ∧ Grew w w' := by
  rcases h1.open_ with ⟨rfl, rfl⟩ | ⟨b1, o1, c1, rfl, hc1, hm1, hb1, hf⟩
  · obtain ⟨A, c, rfl⟩ := strs_slice h2
    go_enter Tryz.func13, Tryz.ntmps13
    go_wp2_with fail
    refine wp_loop_rounds 1 ?_; rw [rounds_succ]
    go_wp2_with fail
    go_ret
    exact ⟨rfl, Grew.refl _⟩
  · rcases h2.open_ with ⟨rfl, rfl⟩ | ⟨b2, o2, c2, rfl, hc2, hm2, hb2, hh⟩
    · go_enter Tryz.func13, Tryz.ntmps13
      go_wp2_with fail
      refine wp_loop_rounds 1 ?_; rw [rounds_succ]
      go_wp2_with fail
      go_ret
      exact ⟨rfl, Grew.refl _⟩
    · clear h1 h2
      have HF := Lib.hid hf
      have HH := Lib.hid hh
      clear hf hh
      generalize hN : L.length = n at *
      clear hN
      go_enter Tryz.func13, Tryz.ntmps13
      go_wp2_with fail
      go_loopw [5] (fun i wr => ∃ j : Nat, j ≤ n ∧ i = .int .i64 j ∧ Grew w wr) (fun i _ => n - (intOf i).toNat)
      case atStart => exact ⟨0, Nat.zero_le _, rfl, Grew.refl _⟩
      case round =>
        obtain ⟨j, hj, rfl, hB⟩ := hrel
        by_cases hlt : j < n
        · have k1 : ∀ W, Grew w W → W.cell? ⟨b1, o1 + j, none⟩ = some (.string (st L j)) := fun W hW => HF.out j hlt W hW
          have k2 : ∀ W, Grew w W → W.cell? ⟨b2, o2 + j, none⟩ = some (.string (st L j)) := fun W hW => HH.out j hlt W hW
          have k3 := k1 _ hB
          have k4 := k2 _ hB
          generalize st L j = x at *
          have hx : (x.toList != x.toList) = false := by simp
          go_wp2_with fail
          go_quiet (fail)
          go_wp2_with fail
          go_roundw
          case rel => exact ⟨j + 1, by omega, by go_num, by first | assumption | exact hB.drewN _⟩
          case measure => simp [intOf]; omega
        · go_wp2_with fail
          go_ret
          exact ⟨rfl, by assumption⟩
end Go.Proofs.YtoogcooggdahnaaGreat

/- A sequent: every text of the left side is a plain text above the one before. -/
namespace Go.Proofs.YtoogcooggdahnaaGreat
open Go.RowKit
open Fm (Nd)

theorem l22Formula_c (s : ByteArray) (w : World) (hs : s.size ≤ 140737488355328) :
    Calls Tryz.prog 27 #[.string s] w (GivesP w s) := by
  have HG := fun w => l02Good_c s w hs
  have hn := Fm.pf_len s
  unfold GivesP gp
  unfold GivesG at HG
  generalize (Fm.pf s).1 = xs at *
  have HP := Lib.hid (fun v w h => l02Plain_c v xs w h (by omega))
  generalize anyP isBD xs = q at *
  cases hg : gd s with
  | true =>
    rw [hg] at HG
    replace HG := Lib.hid HG
    clear hg
    go_enter Tryz.func27, Tryz.ntmps27
    go_wp2_with fail
    refine (HG.out _).mono ?_
    rintro e w1 ⟨v1, rfl, ho1, hg1⟩
    go_wp2_with fail
    refine (HP.out _ _ ho1.nodes).mono ?_
    rintro e w2 ⟨rfl, hg2⟩
    go_wp2_with fail
    go_ret2
    exact ⟨_, rfl, ho1.grew hg2, hg1.trans hg2⟩
  | false =>
    rw [hg] at HG
    replace HG := Lib.hid HG
    clear hg
    go_enter Tryz.func27, Tryz.ntmps27
    go_wp2_with fail
    refine (HG.out _).mono ?_
    rintro e w1 ⟨v1, rfl, ho1, hg1⟩
    go_wp2_with fail
    go_ret2
    exact ⟨_, rfl, ho1, hg1⟩

/-- The first k are plain texts, each above the one before. -/
def AscP (L : List ByteArray) (k : Nat) : Prop := ∀ i, i < k → gp (st L i) = true ∧ (0 < i → Op.bytesLess (st L (i - 1)).toList (st L i).toList = true)
noncomputable def ascP (L : List ByteArray) : Bool := @decide (AscP L L.length) (Classical.propDecidable _)
theorem AscP.zero (L : List ByteArray) : AscP L 0 := fun i hi => absurd hi (by omega)
theorem AscP.succ {L : List ByteArray} {k : Nat} (h : AscP L k) (h1 : gp (st L k) = true) (h2 : 0 < k → Op.bytesLess (st L (k - 1)).toList (st L k).toList = true) : AscP L (k + 1) := by
  intro i hi
  rcases Nat.lt_or_ge i k with hk | hk
  · exact h i hk
  · obtain rfl : i = k := by omega
    exact ⟨h1, h2⟩
theorem ascP_true {L : List ByteArray} (h : AscP L L.length) : ascP L = true := by
  unfold ascP
  exact @decide_eq_true _ (Classical.propDecidable _) h
theorem ascP_bad {L : List ByteArray} {k : Nat} (hk : k < L.length) (h : gp (st L k) = false) : ascP L = false := by
  unfold ascP
  refine @decide_eq_false _ (Classical.propDecidable _) fun H => ?_
  rw [(H k hk).1] at h
  cases h
theorem ascP_low {L : List ByteArray} {k : Nat} (hk : k + 1 < L.length) (h : Op.bytesLess (st L k).toList (st L (k + 1)).toList = false) : ascP L = false := by
  unfold ascP
  refine @decide_eq_false _ (Classical.propDecidable _) fun H => ?_
  have := (H (k + 1) hk).2 (by omega)
  rw [Nat.add_sub_cancel, h] at this
  cases this
theorem l22Left_c (v : Value) (L : List ByteArray) (w : World) (h : Strs w v L) (hs : Fits L) (hn : L.length ≤ 1048576) :
    Calls Tryz.prog 28 #[v] w fun e w' => e = .returned (.bool (ascP L && decide (L.length ≤ 12))) ∧ Grew w w' := by
  rcases h.open_ with ⟨rfl, rfl⟩ | ⟨b, o, c, rfl, hc, hm, hb, hcell⟩
  · rw [show (ascP [] && decide ((([] : List ByteArray)).length ≤ 12)) = true from by rw [ascP_true (AscP.zero _)]; rfl]
    clear h hs
    go_enter Tryz.func28, Tryz.ntmps28
    go_wp2_with fail
    refine wp_loop_rounds 1 ?_; rw [rounds_succ]
    go_wp2_with fail
    go_ret
    exact ⟨rfl, Grew.refl _⟩
  obtain ⟨R, hR⟩ : ∃ R, R = ascP L := ⟨_, rfl⟩
  rw [← hR]
  have HT := Lib.hid (fun h => hR.trans (@ascP_true L h))
  have HB := Lib.hid (fun k hk h => hR.trans (@ascP_bad L k hk h))
  have HL := Lib.hid (fun k hk h => hR.trans (@ascP_low L k hk h))
  have HC := Lib.hid hcell
  have HS := Lib.hid hs
  clear hcell h hs hR
  unfold Fits at HS
  generalize hN : L.length = n at *
  clear hN
  go_enter Tryz.func28, Tryz.ntmps28
  go_wp2_with fail
  go_loopw [3] (fun i wr => ∃ j : Nat, j ≤ n ∧ i = .int .i64 j ∧ Grew w wr ∧ Hid (AscP L j)) (fun i _ => n - (intOf i).toNat)
  case atStart => exact ⟨0, Nat.zero_le _, rfl, Grew.refl _, AscP.zero _⟩
  case round =>
    obtain ⟨j, hj, rfl, hB, HJ⟩ := hrel
    by_cases hlt : j < n
    · have k1 : ∀ W, Grew w W → W.cell? ⟨b, o + j, none⟩ = some (.string (st L j)) := fun W hW => HC.out j hlt W hW
      have hsz := HS.out j hlt
      have hG := Lib.hid (fun w => l22Formula_c (st L j) w (by omega))
      have k2 := k1 _ hB
      go_wp2_with fail
      refine (hG.out _).mono ?_
      rintro e w1 ⟨v1, rfl, _, hg1⟩
      have hB1 := hB.trans hg1
      cases hgd : gp (st L j) with
      | false =>
        have hv := Lib.hid (HB.out j hlt hgd)
        generalize st L j = x at *
        go_wp2_with fail
        go_quiet (fail)
        go_wp2_with fail
        go_ret
        rw [hv.out]
        exact ⟨rfl, by first | assumption | exact hB1.drewN _⟩
      | true =>
        cases j with
        | zero =>
          have HS1 := Lib.hid (HJ.out.succ hgd (fun h => absurd h (by omega)))
          generalize st L 0 = x at *
          go_wp2_with fail
          go_quiet (fail)
          go_wp2_with fail
          go_roundw
          case rel => exact ⟨1, by omega, by go_num, by first | assumption | exact hB1.drewN _, HS1⟩
          case measure => simp [intOf]; omega
        | succ m =>
          have k3 := HC.out m (by omega) _ hB1
          have k4 := k1 _ hB1
          cases hlo : Op.bytesLess (st L m).toList (st L (m + 1)).toList with
          | false =>
            have hv := Lib.hid (HL.out m hlt hlo)
            generalize st L m = y at *
            generalize st L (m + 1) = x at *
            go_wp2_with fail
            go_quiet (fail)
            go_wp2_with fail
            go_ret
            rw [hv.out]
            exact ⟨rfl, by first | assumption | exact hB1.drewN _⟩
          | true =>
            have HS1 := Lib.hid (HJ.out.succ hgd (fun _ => hlo))
            generalize st L m = y at *
            generalize st L (m + 1) = x at *
            go_wp2_with fail
            go_quiet (fail)
            go_wp2_with fail
            go_roundw
            case rel => exact ⟨m + 1 + 1, by omega, by go_num, by first | assumption | exact hB1.drewN _, HS1⟩
            case measure => simp [intOf]; omega
    · obtain rfl : j = n := by omega
      have hv := Lib.hid (HT.out HJ.out)
      go_wp2_with fail
      go_ret
      rw [hv.out]
      exact ⟨by simp; omega, hB⟩
theorem isLeft_c (v : Value) (L : List ByteArray) (w : World) (h : Strs w v L) (hs : Fits L) (hn : L.length ≤ 1048576) :
    Calls Tryz.prog 59 #[v] w fun e w' => e = .returned (.bool (ascP L)) ∧ Grew w w' := by
  rcases h.open_ with ⟨rfl, rfl⟩ | ⟨b, o, c, rfl, hc, hm, hb, hcell⟩
  · rw [ascP_true (AscP.zero _)]
    clear h hs
    go_enter Tryz.func59, Tryz.ntmps59
    go_wp2_with fail
    refine wp_loop_rounds 1 ?_; rw [rounds_succ]
    go_wp2_with fail
    go_ret
    exact ⟨rfl, Grew.refl _⟩
  obtain ⟨R, hR⟩ : ∃ R, R = ascP L := ⟨_, rfl⟩
  rw [← hR]
  have HT := Lib.hid (fun h => hR.trans (@ascP_true L h))
  have HB := Lib.hid (fun k hk h => hR.trans (@ascP_bad L k hk h))
  have HL := Lib.hid (fun k hk h => hR.trans (@ascP_low L k hk h))
  have HC := Lib.hid hcell
  have HS := Lib.hid hs
  clear hcell h hs hR
  unfold Fits at HS
  generalize hN : L.length = n at *
  clear hN
  go_enter Tryz.func59, Tryz.ntmps59
  go_wp2_with fail
  go_loopw [3, 4, 7] (fun _ _ i wr => ∃ j : Nat, j ≤ n ∧ i = .int .i64 j ∧ Grew w wr ∧ Hid (AscP L j)) (fun _ _ i _ => n - (intOf i).toNat)
  case atStart => exact ⟨0, Nat.zero_le _, rfl, Grew.refl _, AscP.zero _⟩
  case round =>
    obtain ⟨j, hj, rfl, hB, HJ⟩ := hrel
    by_cases hlt : j < n
    · have k1 : ∀ W, Grew w W → W.cell? ⟨b, o + j, none⟩ = some (.string (st L j)) := fun W hW => HC.out j hlt W hW
      have hsz := HS.out j hlt
      have hG := Lib.hid (fun w => isPlainText_c (st L j) w (by omega))
      have k2 := k1 _ hB
      go_wp2_with fail
      refine (hG.out _).mono ?_
      rintro e w1 ⟨rfl, hg1⟩
      have hB1 := hB.trans hg1
      cases hgd : gp (st L j) with
      | false =>
        have hv := Lib.hid (HB.out j hlt hgd)
        generalize st L j = x at *
        go_wp2_with fail
        go_ret
        rw [hv.out]
        exact ⟨rfl, hB1⟩
      | true =>
        cases j with
        | zero =>
          have HS1 := Lib.hid (HJ.out.succ hgd (fun h => absurd h (by omega)))
          generalize st L 0 = x at *
          go_wp2_with fail
          go_roundw
          case rel => exact ⟨1, by omega, by go_num, hB1, HS1⟩
          case measure => simp [intOf]; omega
        | succ m =>
          have k3 := HC.out m (by omega) _ hB1
          have k4 := k1 _ hB1
          cases hlo : Op.bytesLess (st L m).toList (st L (m + 1)).toList with
          | false =>
            have hv := Lib.hid (HL.out m hlt hlo)
            generalize st L m = y at *
            generalize st L (m + 1) = x at *
            go_wp2_with fail
            go_ret
            rw [hv.out]
            exact ⟨rfl, hB1⟩
          | true =>
            have HS1 := Lib.hid (HJ.out.succ hgd (fun _ => hlo))
            generalize st L m = y at *
            generalize st L (m + 1) = x at *
            go_wp2_with fail
            go_roundw
            case rel => exact ⟨m + 1 + 1, by omega, by go_num, hB1, HS1⟩
            case measure => simp [intOf]; omega
    · obtain rfl : j = n := by omega
      have hv := Lib.hid (HT.out HJ.out)
      go_wp2_with fail
      go_ret
      rw [hv.out]
      exact ⟨rfl, hB⟩

theorem isLeftSide_c (v : Value) (L : List ByteArray) (w : World) (h : Strs w v L) (hs : Fits L) (hn : L.length ≤ 1048576) :
    Calls Tryz.prog 36 #[v] w fun e w' => e = .returned (.bool (ascP L && decide (L.length ≤ 12))) ∧ Grew w w' := by
  have HI := Lib.hid (isLeft_c v L w h hs hn)
  obtain ⟨A, c, rfl⟩ := strs_slice h
  clear h hs
  generalize ascP L = R at *
  generalize L.length = n at *
  by_cases h12 : n ≤ 12
  · rw [show (R && decide (n ≤ 12)) = R from by simp [h12]]
    go_enter Tryz.func36, Tryz.ntmps36
    go_wp2_with fail
    refine HI.out.mono ?_
    rintro e w1 ⟨rfl, hg1⟩
    go_wp2_with fail
    go_ret
    exact ⟨rfl, hg1⟩
  · rw [show (R && decide (n ≤ 12)) = false from by simp [h12]]
    go_enter Tryz.func36, Tryz.ntmps36
    go_wp2_with fail
    go_ret
    exact ⟨rfl, Grew.refl _⟩

theorem l22Is_c (v : Value) (L : List ByteArray) (s : ByteArray) (w : World) (h : Strs w v L) (hs : Fits L) (hn : L.length ≤ 1048576) (hsz : s.size ≤ 140737488355328) :
    Calls Tryz.prog 16 #[v, .string s] w fun e w' => e = .returned (.bool (gp s && (ascP L && decide (L.length ≤ 12)))) ∧ Grew w w' := by
  have HF := fun w => l22Formula_c s w hsz
  have HL := Lib.hid (fun W (hW : Grew w W) => l22Left_c v L W (h.grew hW) hs hn)
  unfold GivesP at HF
  clear h hs
  generalize (ascP L && decide (L.length ≤ 12)) = R at *
  cases hg : gp s with
  | true =>
    rw [hg] at HF
    replace HF := Lib.hid HF
    clear hg
    go_enter Tryz.func16, Tryz.ntmps16
    go_wp2_with fail
    refine (HF.out _).mono ?_
    rintro e w1 ⟨v1, rfl, _, hg1⟩
    go_wp2_with fail
    refine (HL.out _ hg1).mono ?_
    rintro e w2 ⟨rfl, hg2⟩
    go_wp2_with fail
    go_ret
    exact ⟨rfl, hg1.trans hg2⟩
  | false =>
    rw [hg] at HF
    replace HF := Lib.hid HF
    clear hg
    go_enter Tryz.func16, Tryz.ntmps16
    go_wp2_with fail
    refine (HF.out _).mono ?_
    rintro e w1 ⟨v1, rfl, _, hg1⟩
    go_wp2_with fail
    go_ret
    exact ⟨rfl, hg1⟩

theorem isSequent_c (v : Value) (L : List ByteArray) (s : ByteArray) (w : World) (h : Strs w v L) (hs : Fits L) (hn : L.length ≤ 1048576) (hsz : s.size ≤ 140737488355328) :
    Calls Tryz.prog 21 #[v, .string s] w fun e w' => e = .returned (.bool (gp s && (ascP L && decide (L.length ≤ 12)))) ∧ Grew w w' := by
  have HF := Lib.hid (fun w => isPlainText_c s w hsz)
  have HL := isLeftSide_c v L w h hs hn
  clear h hs
  generalize (ascP L && decide (L.length ≤ 12)) = R at *
  generalize gp s = q at *
  cases R with
  | true =>
    replace HL := Lib.hid HL
    go_enter Tryz.func21, Tryz.ntmps21
    go_wp2_with fail
    refine HL.out.mono ?_
    rintro e w1 ⟨rfl, hg1⟩
    go_wp2_with fail
    refine (HF.out _).mono ?_
    rintro e w2 ⟨rfl, hg2⟩
    go_wp2_with fail
    go_ret
    exact ⟨by simp, hg1.trans hg2⟩
  | false =>
    replace HL := Lib.hid HL
    go_enter Tryz.func21, Tryz.ntmps21
    go_wp2_with fail
    refine HL.out.mono ?_
    rintro e w1 ⟨rfl, hg1⟩
    go_wp2_with fail
    go_ret
    exact ⟨by simp, hg1⟩
end Go.Proofs.YtoogcooggdahnaaGreat

/- l22Formulas of the reference: the formulas of texts. -/
namespace Go.Proofs.YtoogcooggdahnaaGreat
open Go.RowKit
open Fm (Nd)

theorem l22Formulas_c (v : Value) (L : List ByteArray) (w : World) (h : Strs w v L) (hs : Fits L) (hn : L.length ≤ 1048576) :
    Calls Tryz.prog 29 #[v] w (GivesL w (lf L)) := by
  rcases h.open_ with ⟨rfl, rfl⟩ | ⟨b, o, c, rfl, hc, hm, hb, hcell⟩
  · clear h hs
    go_enter Tryz.func29, Tryz.ntmps29
    go_wp2_with fail
    refine wp_loop_rounds 1 ?_; rw [rounds_succ]
    go_wp2_with fail
    go_ret
    exact ⟨_, rfl, .inr ⟨w.heap.size, 0, 0, rfl, by simp [lf], by omega, by simp, fun i hi => absurd hi (by simp [lf])⟩, (Grew.refl w).alloc _⟩
  have HE := Lib.hid (fun w' v us (h1 : OwnV w' w.heap.size v us) h2 h3 => @lists_of w' w.heap.size v us L h1 h2 h3)
  have HC := Lib.hid hcell
  have HS := Lib.hid hs
  have HA := Lib.hid (fun i h => @lf_at L i h)
  clear hcell h hs
  unfold Fits at HS
  generalize hN : L.length = n at *
  clear hN
  go_enter Tryz.func29, Tryz.ntmps29
  go_wp2_with fail
  go_loopw [3, 4] (fun vv i wr => ∃ (j : Nat) (us : List Value), j ≤ n ∧ us.length = j ∧ i = .int .i64 j ∧ OwnV wr w.heap.size vv us ∧ Grew w wr ∧ Hid (Hold wr w.heap.size us L)) (fun _ i _ => n - (intOf i).toNat)
  case atStart => exact ⟨0, [], Nat.zero_le _, rfl, rfl, own_empty w, (Grew.refl w).alloc _, fun i hi => absurd hi (by simp)⟩
  case round =>
    obtain ⟨j, us, hj, hu, rfl, hO, hB, HH⟩ := hrel
    by_cases hlt : j < n
    · have k1 := HC.out j hlt _ hB
      have hsz := HS.out j hlt
      have hP := Lib.hid (fun w => l22Formula_c (st L j) w (by omega))
      have hA : (lf L).getD us.length [] = (Fm.pf (st L j)).1 := by rw [hu]; exact HA.out j hlt
      have hA := Lib.hid hA
      generalize st L j = x at *
      go_wp2_with fail
      refine (hP.out _).mono ?_
      rintro e w1 ⟨u, rfl, ho1, hg1⟩
      obtain ⟨A, cc, rfl⟩ := nodes_slice ho1.nodes
      have hB1 := hB.trans hg1
      have hu1 := (ho1.base hB.size).grew ((Grew.refl w1).alloc (.cells #[.slice A (Fm.pf x).1.length cc] 47))
      have hO1 : OwnV (w1.alloc (.cells #[.slice A (Fm.pf x).1.length cc] 47)) w.heap.size u3 us := own_grew hO (hg1.trans ((Grew.refl w1).alloc _))
      have HH1 := Lib.hid (HH.out.grew (hg1.trans ((Grew.refl w1).alloc (.cells #[.slice A (Fm.pf x).1.length cc] 47))))
      have hone := own_one ho1
      go_wp2_with (first | (at_builtin; refine wpList_appV (w0 := w) _ _ rfl rfl _ us rfl hO1 (hB1.alloc _) _ _ rfl (rd_lit _ _ _) hone (by omega) ?_; intro v2 w2 hown2 hg2 hgr2))
      go_roundw
      case rel => exact ⟨j + 1, _, by omega, by rw [List.length_append, hu]; rfl, by go_num, hown2, hg2, Hold.snoc (HH1.out.app hO1 hgr2) (by rw [hA.out]; exact own_app hu1 hO1 hgr2)⟩
      case measure => simp [intOf]; omega
    · obtain rfl : j = n := by omega
      go_wp2_with fail
      go_ret
      exact ⟨_, rfl, HE.out _ _ _ hO HH.out hu, hB⟩

/-- Are the two sides a sequent? -/
noncomputable def isQ (L : List ByteArray) (s : ByteArray) : Bool := gp s && (ascP L && decide (L.length ≤ 12))
end Go.Proofs.YtoogcooggdahnaaGreat

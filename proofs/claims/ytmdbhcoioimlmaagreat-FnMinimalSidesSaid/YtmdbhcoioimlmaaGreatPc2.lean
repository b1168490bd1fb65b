/- Texts in one file: Text Parsed IsText Cont Plain Gp Above StrLaw SeqP Frm Qc DecT Fo DecL DecM Okm DecK Shelf Put Put2 Idx Drop DecP Gl Gl2 TwoF Pt Vt DecR DecU Tree2. -/
import Derived.Deep.RegionHeld3
import Derived.Deep.QuietTactic
import Derived.BigQuiet
import Derived.Deep.LoopGhost
import Derived.WalkSpells
import Derived.WalkLawsBesides
import Derived.Outline
import Derived.Shelf.Abstract
import Derived.Deep.OwnRows
import Derived.Lib.SlicesS
import Derived.Shelf.Sort.Plain
import Derived.Shelf.Slices.CompactS
import Derived.Shelf.Slices.In.SortNone
import Derived.Shelf.SlicesE.DeleteFunc
import Derived.Test.YtmdbhcoioimlmaaGreatProg
import Derived.Lib.OwnBridge
import Derived.Lib.RowBridge
import Derived.Sort.OwnSorted
import Derived.OwnWalk
import Derived.Lib.SliceRun
import Derived.Test.YtmdbhcoioimlmaaGreatPc1
set_option linter.all false

/- The text of a formula: the program's textAt. -/
namespace Go.Proofs.YtmdbhcoioimlmaaGreat
open Go.RowKit
open Fm (Nd Tree)

def TextOk (t : Tree) : Prop := ∀ (l : Nat) (v : Value) (w : World), l ≤ 3 → Nodes w v (Fm.enc t) → (Fm.enc t).length ≤ 1048576 →
  Calls Tryz.prog 85 #[v, .int .i64 l] w (Says w (Fm.txt t l))
/-- The same where no brackets are needed. -/
def BodyOk (t : Tree) : Prop := ∀ (l : Nat) (v : Value) (w : World), l ≤ Fm.own t → Nodes w v (Fm.enc t) → (Fm.enc t).length ≤ 1048576 →
  Calls Tryz.prog 85 #[v, .int .i64 l] w (Says w (Fm.txt t l))

theorem body_and (x y : Tree) (hx : TextOk x) (hy : TextOk y) : BodyOk (.and x y) := by
  intro l v w hl h hn
  have hown : Fm.own (.and x y) = 2 := by rfl
  have hE : Fm.txt (.and x y) l = Fm.txt x 2 ++ [38] ++ Fm.txt y 3 := by
    rw [Fm.txt, Fm.wrap, if_neg (by omega)]
  rw [hE]
  rw [hown] at hl
  obtain ⟨b, o, c, rfl, hc, hm, k1⟩ := nodes_head h
  have hpos := Fm.enc_pos (.and x y)
  have HL := Lib.hid (levelOf_c _ _ w h (by omega))
  have HH := Lib.hid h
  have hg0 := Grew.refl w
  rw [hown] at HL
  rw [show kindOf (.and x y) = 2 from rfl] at k1
  have HA := Lib.hid (at_first (xs := Fm.enc (.and x y)) (k := (2, 0)) (a := x) (rest := Fm.enc y) rfl)
  have HB := Lib.hid (at_second (xs := Fm.enc (.and x y)) (k := (2, 0)) (a := x) (b := y) rfl)
  have hlen : (Fm.enc (.and x y)).length = 1 + ((Fm.enc x).length + (Fm.enc y).length) := by simp [Fm.enc]; omega
  have h1 := Fm.txt_len x 2
  have h2 := Fm.txt_len y 3
  have HX := Lib.hid hx
  have HY := Lib.hid hy
  have hn1 : (Fm.enc x).length ≤ 1048576 := by omega
  have hn2 : (Fm.enc y).length ≤ 1048576 := by omega
  clear hE h hx hy hlen hown
  generalize Fm.enc (.and x y) = T at *
  have s1 := bs_size (Fm.txt x 2)
  have s2 := bs_size (Fm.txt y 3)
  have z1 : (bs (Fm.txt x 2)).size ≤ 4194304 := by omega
  have z2 : (bs (Fm.txt y 3)).size ≤ 4194304 := by omega
  have HE : Hid (bs (Fm.txt x 2) ++ bs [38] ++ bs (Fm.txt y 3) = bs (Fm.txt x 2 ++ [38] ++ Fm.txt y 3)) := by unfold Hid; rw [bs_append, bs_append]
  clear s1 s2 h1 h2
  generalize Fm.txt x 2 ++ [38] ++ Fm.txt y 3 = Z at *
  go_enter Tryz.func85, Tryz.ntmps85
  go_wp2_with fail
  refine HL.out.mono ?_
  rintro e w1 ⟨rfl, hg1⟩
  go_wp2_with fail
  refine (first_c _ T x _ (HH.out.grew hg1) (by omega) HA.out).mono ?_
  rintro e w2 ⟨v2, rfl, hN2, hg2⟩
  go_wp2_with fail
  refine (HX.out 2 _ _ (by omega) hN2 hn1).mono ?_
  rintro e w3 ⟨rfl, hg3⟩
  go_wp2_with fail
  refine (second_c _ T x y _ (HH.out.grew ((hg1.trans hg2).trans hg3)) (by omega) HA.out HB.out).mono ?_
  rintro e w4 ⟨v4, rfl, hN4, hg4⟩
  go_wp2_with fail
  refine (HY.out 3 _ _ (by omega) hN4 hn2).mono ?_
  rintro e w5 ⟨rfl, hg5⟩
  go_wp2_with fail
  go_ret
  exact ⟨congrArg (fun z => Ending.returned (.string z)) HE.out, (((hg1.trans hg2).trans hg3).trans hg4).trans hg5⟩

theorem body_or (x y : Tree) (hx : TextOk x) (hy : TextOk y) : BodyOk (.or x y) := by
  intro l v w hl h hn
  have hown : Fm.own (.or x y) = 1 := by rfl
  have hE : Fm.txt (.or x y) l = Fm.txt x 1 ++ [124] ++ Fm.txt y 2 := by
    rw [Fm.txt, Fm.wrap, if_neg (by omega)]
  rw [hE]
  rw [hown] at hl
  obtain ⟨b, o, c, rfl, hc, hm, k1⟩ := nodes_head h
  have hpos := Fm.enc_pos (.or x y)
  have HL := Lib.hid (levelOf_c _ _ w h (by omega))
  have HH := Lib.hid h
  have hg0 := Grew.refl w
  rw [hown] at HL
  rw [show kindOf (.or x y) = 3 from rfl] at k1
  have HA := Lib.hid (at_first (xs := Fm.enc (.or x y)) (k := (3, 0)) (a := x) (rest := Fm.enc y) rfl)
  have HB := Lib.hid (at_second (xs := Fm.enc (.or x y)) (k := (3, 0)) (a := x) (b := y) rfl)
  have hlen : (Fm.enc (.or x y)).length = 1 + ((Fm.enc x).length + (Fm.enc y).length) := by simp [Fm.enc]; omega
  have h1 := Fm.txt_len x 1
  have h2 := Fm.txt_len y 2
  have HX := Lib.hid hx
  have HY := Lib.hid hy
  have hn1 : (Fm.enc x).length ≤ 1048576 := by omega
  have hn2 : (Fm.enc y).length ≤ 1048576 := by omega
  clear hE h hx hy hlen hown
  generalize Fm.enc (.or x y) = T at *
  have s1 := bs_size (Fm.txt x 1)
  have s2 := bs_size (Fm.txt y 2)
  have z1 : (bs (Fm.txt x 1)).size ≤ 4194304 := by omega
  have z2 : (bs (Fm.txt y 2)).size ≤ 4194304 := by omega
  have HE : Hid (bs (Fm.txt x 1) ++ bs [124] ++ bs (Fm.txt y 2) = bs (Fm.txt x 1 ++ [124] ++ Fm.txt y 2)) := by unfold Hid; rw [bs_append, bs_append]
  clear s1 s2 h1 h2
  generalize Fm.txt x 1 ++ [124] ++ Fm.txt y 2 = Z at *
  go_enter Tryz.func85, Tryz.ntmps85
  go_wp2_with fail
  refine HL.out.mono ?_
  rintro e w1 ⟨rfl, hg1⟩
  go_wp2_with fail
  refine (first_c _ T x _ (HH.out.grew hg1) (by omega) HA.out).mono ?_
  rintro e w2 ⟨v2, rfl, hN2, hg2⟩
  go_wp2_with fail
  refine (HX.out 1 _ _ (by omega) hN2 hn1).mono ?_
  rintro e w3 ⟨rfl, hg3⟩
  go_wp2_with fail
  refine (second_c _ T x y _ (HH.out.grew ((hg1.trans hg2).trans hg3)) (by omega) HA.out HB.out).mono ?_
  rintro e w4 ⟨v4, rfl, hN4, hg4⟩
  go_wp2_with fail
  refine (HY.out 2 _ _ (by omega) hN4 hn2).mono ?_
  rintro e w5 ⟨rfl, hg5⟩
  go_wp2_with fail
  go_ret
  exact ⟨congrArg (fun z => Ending.returned (.string z)) HE.out, (((hg1.trans hg2).trans hg3).trans hg4).trans hg5⟩

theorem body_imp (x y : Tree) (hf : Fm.isF y = false) (hx : TextOk x) (hy : TextOk y) : BodyOk (.imp x y) := by
  intro l v w hl h hn
  have hown : Fm.own (.imp x y) = 0 := by simp [Fm.own, hf]
  have hE : Fm.txt (.imp x y) l = Fm.txt x 1 ++ [62] ++ Fm.txt y 0 := by
    rw [Fm.txt, if_neg (by simp [hf]), Fm.wrap, if_neg (by omega)]
  rw [hE]
  rw [hown] at hl
  obtain ⟨b, o, c, rfl, hc, hm, k1⟩ := nodes_head h
  have hpos := Fm.enc_pos (.imp x y)
  have HL := Lib.hid (levelOf_c _ _ w h (by omega))
  have HH := Lib.hid h
  have hg0 := Grew.refl w
  have hng : isNeg (.imp x y) = false := hf
  have HG := Lib.hid (fun w h => isNegation_c (.slice (some ⟨b, o, none⟩) (Fm.enc (.imp x y)).length c) (.imp x y) w h (by omega))
  rw [hng] at HG
  rw [hown] at HL
  rw [show kindOf (.imp x y) = 4 from rfl] at k1
  have HA := Lib.hid (at_first (xs := Fm.enc (.imp x y)) (k := (4, 0)) (a := x) (rest := Fm.enc y) rfl)
  have HB := Lib.hid (at_second (xs := Fm.enc (.imp x y)) (k := (4, 0)) (a := x) (b := y) rfl)
  have hlen : (Fm.enc (.imp x y)).length = 1 + ((Fm.enc x).length + (Fm.enc y).length) := by simp [Fm.enc]; omega
  have h1 := Fm.txt_len x 1
  have h2 := Fm.txt_len y 0
  have HX := Lib.hid hx
  have HY := Lib.hid hy
  have hn1 : (Fm.enc x).length ≤ 1048576 := by omega
  have hn2 : (Fm.enc y).length ≤ 1048576 := by omega
  clear hE h hx hy hlen hown hng hf
  generalize Fm.enc (.imp x y) = T at *
  have s1 := bs_size (Fm.txt x 1)
  have s2 := bs_size (Fm.txt y 0)
  have z1 : (bs (Fm.txt x 1)).size ≤ 4194304 := by omega
  have z2 : (bs (Fm.txt y 0)).size ≤ 4194304 := by omega
  have HE : Hid (bs (Fm.txt x 1) ++ bs [62] ++ bs (Fm.txt y 0) = bs (Fm.txt x 1 ++ [62] ++ Fm.txt y 0)) := by unfold Hid; rw [bs_append, bs_append]
  clear s1 s2 h1 h2
  generalize Fm.txt x 1 ++ [62] ++ Fm.txt y 0 = Z at *
  go_enter Tryz.func85, Tryz.ntmps85
  go_wp2_with fail
  refine HL.out.mono ?_
  rintro e w1 ⟨rfl, hg1⟩
  go_wp2_with fail
  refine (HG.out _ (HH.out.grew hg1)).mono ?_
  rintro e w11 ⟨rfl, hg11⟩
  have hg1 := hg1.trans hg11
  go_wp2_with fail
  refine (first_c _ T x _ (HH.out.grew hg1) (by omega) HA.out).mono ?_
  rintro e w2 ⟨v2, rfl, hN2, hg2⟩
  go_wp2_with fail
  refine (HX.out 1 _ _ (by omega) hN2 hn1).mono ?_
  rintro e w3 ⟨rfl, hg3⟩
  go_wp2_with fail
  refine (second_c _ T x y _ (HH.out.grew ((hg1.trans hg2).trans hg3)) (by omega) HA.out HB.out).mono ?_
  rintro e w4 ⟨v4, rfl, hN4, hg4⟩
  go_wp2_with fail
  refine (HY.out 0 _ _ (by omega) hN4 hn2).mono ?_
  rintro e w5 ⟨rfl, hg5⟩
  go_wp2_with fail
  go_ret
  exact ⟨congrArg (fun z => Ending.returned (.string z)) HE.out, (((hg1.trans hg2).trans hg3).trans hg4).trans hg5⟩

theorem body_box (x : Tree) (hx : TextOk x) : BodyOk (.box x) := by
  intro l v w hl h hn
  have hown : Fm.own (.box x) = 3 := rfl
  have hE : Fm.txt (.box x) l = [91, 93] ++ Fm.txt x 3 := rfl
  rw [hE]
  rw [hown] at hl
  obtain ⟨b, o, c, rfl, hc, hm, k1⟩ := nodes_head h
  have hpos := Fm.enc_pos (.box x)
  have HL := Lib.hid (levelOf_c _ _ w h (by omega))
  have HH := Lib.hid h
  have hg0 := Grew.refl w
  rw [hown] at HL
  rw [show kindOf (.box x) = 5 from rfl] at k1
  have HA := Lib.hid (at_first (xs := Fm.enc (.box x)) (k := (5, 0)) (a := x) (rest := []) (by simp [Fm.enc]))
  have hlen : (Fm.enc (.box x)).length = 1 + (Fm.enc x).length := by simp [Fm.enc]; omega
  have h1 := Fm.txt_len x 3
  have HX := Lib.hid hx
  have hn1 : (Fm.enc x).length ≤ 1048576 := by omega
  clear hE h hx hlen hown
  generalize Fm.enc (.box x) = T at *
  have s1 := bs_size (Fm.txt x 3)
  have z1 : (bs (Fm.txt x 3)).size ≤ 4194304 := by omega
  have HE : Hid (bs [91, 93] ++ bs (Fm.txt x 3) = bs ([91, 93] ++ Fm.txt x 3)) := by unfold Hid; rw [bs_append]
  clear s1 h1
  generalize [91, 93] ++ Fm.txt x 3 = Z at *
  go_enter Tryz.func85, Tryz.ntmps85
  go_wp2_with fail
  refine HL.out.mono ?_
  rintro e w1 ⟨rfl, hg1⟩
  go_wp2_with fail
  refine (first_c _ T x _ (HH.out.grew hg1) (by omega) HA.out).mono ?_
  rintro e w2 ⟨v2, rfl, hN2, hg2⟩
  go_wp2_with fail
  refine (HX.out 3 _ _ (by omega) hN2 hn1).mono ?_
  rintro e w3 ⟨rfl, hg3⟩
  go_wp2_with fail
  go_ret
  exact ⟨congrArg (fun z => Ending.returned (.string z)) HE.out, (hg1.trans hg2).trans hg3⟩

theorem body_dia (x : Tree) (hx : TextOk x) : BodyOk (.dia x) := by
  intro l v w hl h hn
  have hown : Fm.own (.dia x) = 3 := rfl
  have hE : Fm.txt (.dia x) l = [60, 62] ++ Fm.txt x 3 := rfl
  rw [hE]
  rw [hown] at hl
  obtain ⟨b, o, c, rfl, hc, hm, k1⟩ := nodes_head h
  have hpos := Fm.enc_pos (.dia x)
  have HL := Lib.hid (levelOf_c _ _ w h (by omega))
  have HH := Lib.hid h
  have hg0 := Grew.refl w
  rw [hown] at HL
  rw [show kindOf (.dia x) = 6 from rfl] at k1
  have HA := Lib.hid (at_first (xs := Fm.enc (.dia x)) (k := (6, 0)) (a := x) (rest := []) (by simp [Fm.enc]))
  have hlen : (Fm.enc (.dia x)).length = 1 + (Fm.enc x).length := by simp [Fm.enc]; omega
  have h1 := Fm.txt_len x 3
  have HX := Lib.hid hx
  have hn1 : (Fm.enc x).length ≤ 1048576 := by omega
  clear hE h hx hlen hown
  generalize Fm.enc (.dia x) = T at *
  have s1 := bs_size (Fm.txt x 3)
  have z1 : (bs (Fm.txt x 3)).size ≤ 4194304 := by omega
  have HE : Hid (bs [60, 62] ++ bs (Fm.txt x 3) = bs ([60, 62] ++ Fm.txt x 3)) := by unfold Hid; rw [bs_append]
  clear s1 h1
  generalize [60, 62] ++ Fm.txt x 3 = Z at *
  go_enter Tryz.func85, Tryz.ntmps85
  go_wp2_with fail
  refine HL.out.mono ?_
  rintro e w1 ⟨rfl, hg1⟩
  go_wp2_with fail
  refine (first_c _ T x _ (HH.out.grew hg1) (by omega) HA.out).mono ?_
  rintro e w2 ⟨v2, rfl, hN2, hg2⟩
  go_wp2_with fail
  refine (HX.out 3 _ _ (by omega) hN2 hn1).mono ?_
  rintro e w3 ⟨rfl, hg3⟩
  go_wp2_with fail
  go_ret
  exact ⟨congrArg (fun z => Ending.returned (.string z)) HE.out, (hg1.trans hg2).trans hg3⟩

theorem body_tru (x : Tree) (hf : Fm.isF x = true) : BodyOk (.imp x .fls) := by
  intro l v w hl h hn
  have hown : Fm.own (.imp x .fls) = 3 := rfl
  have hE : Fm.txt (.imp x .fls) l = [84] := by
    rw [Fm.txt, if_pos (show Fm.isF .fls = true from rfl), if_pos hf]
  rw [hE]
  rw [hown] at hl
  obtain ⟨b, o, c, rfl, hc, hm, k1⟩ := nodes_head h
  have hpos := Fm.enc_pos (.imp x .fls)
  have HL := Lib.hid (levelOf_c _ _ w h (by omega))
  have HH := Lib.hid h
  have hg0 := Grew.refl w
  have HG := Lib.hid (fun w h => isNegation_c (.slice (some ⟨b, o, none⟩) (Fm.enc (.imp x .fls)).length c) (.imp x .fls) w h (by omega))
  rw [show isNeg (.imp x .fls) = true from rfl] at HG
  rw [hown] at HL
  rw [show kindOf (.imp x .fls) = 4 from rfl] at k1
  have HA := Lib.hid (at_first (xs := Fm.enc (.imp x .fls)) (k := (4, 0)) (a := x) (rest := Fm.enc .fls) rfl)
  have hlen : (Fm.enc (.imp x .fls)).length = 2 + (Fm.enc x).length := by simp [Fm.enc]; omega
  have hn1 : (Fm.enc x).length ≤ 1048576 := by omega
  have HI := Lib.hid (fun v w h => isFalsum_c v x w h)
  rw [hf] at HI
  clear hE h hlen hown hf
  generalize Fm.enc (.imp x .fls) = T at *
  go_enter Tryz.func85, Tryz.ntmps85
  go_wp2_with fail
  refine HL.out.mono ?_
  rintro e w1 ⟨rfl, hg1⟩
  go_wp2_with fail
  refine (HG.out _ (HH.out.grew hg1)).mono ?_
  rintro e w11 ⟨rfl, hg11⟩
  have hg1 := hg1.trans hg11
  go_wp2_with fail
  refine (first_c _ T x _ (HH.out.grew hg1) (by omega) HA.out).mono ?_
  rintro e w2 ⟨v2, rfl, hN2, hg2⟩
  go_wp2_with fail
  refine (HI.out _ _ hN2).mono ?_
  rintro e w3 ⟨rfl, hg3⟩
  go_wp2_with fail
  go_ret
  exact ⟨rfl, (hg1.trans hg2).trans hg3⟩

theorem body_not (x : Tree) (hf : Fm.isF x = false) (hx : TextOk x) : BodyOk (.imp x .fls) := by
  intro l v w hl h hn
  have hown : Fm.own (.imp x .fls) = 3 := rfl
  have hE : Fm.txt (.imp x .fls) l = [126] ++ Fm.txt x 3 := by
    rw [Fm.txt, if_pos (show Fm.isF .fls = true from rfl), if_neg (by simp [hf])]
  rw [hE]
  rw [hown] at hl
  obtain ⟨b, o, c, rfl, hc, hm, k1⟩ := nodes_head h
  have hpos := Fm.enc_pos (.imp x .fls)
  have HL := Lib.hid (levelOf_c _ _ w h (by omega))
  have HH := Lib.hid h
  have hg0 := Grew.refl w
  have HG := Lib.hid (fun w h => isNegation_c (.slice (some ⟨b, o, none⟩) (Fm.enc (.imp x .fls)).length c) (.imp x .fls) w h (by omega))
  rw [show isNeg (.imp x .fls) = true from rfl] at HG
  rw [hown] at HL
  rw [show kindOf (.imp x .fls) = 4 from rfl] at k1
  have HA := Lib.hid (at_first (xs := Fm.enc (.imp x .fls)) (k := (4, 0)) (a := x) (rest := Fm.enc .fls) rfl)
  have hlen : (Fm.enc (.imp x .fls)).length = 2 + (Fm.enc x).length := by simp [Fm.enc]; omega
  have hn1 : (Fm.enc x).length ≤ 1048576 := by omega
  have HI := Lib.hid (fun v w h => isFalsum_c v x w h)
  rw [hf] at HI
  have h1 := Fm.txt_len x 3
  have HX := Lib.hid hx
  have s1 := bs_size (Fm.txt x 3)
  have z1 : (bs (Fm.txt x 3)).size ≤ 4194304 := by omega
  have HE : Hid (bs [126] ++ bs (Fm.txt x 3) = bs ([126] ++ Fm.txt x 3)) := by unfold Hid; rw [bs_append]
  clear s1 h1 hx
  generalize [126] ++ Fm.txt x 3 = Z at *
  clear hE h hlen hown hf
  generalize Fm.enc (.imp x .fls) = T at *
  go_enter Tryz.func85, Tryz.ntmps85
  go_wp2_with fail
  refine HL.out.mono ?_
  rintro e w1 ⟨rfl, hg1⟩
  go_wp2_with fail
  refine (HG.out _ (HH.out.grew hg1)).mono ?_
  rintro e w11 ⟨rfl, hg11⟩
  have hg1 := hg1.trans hg11
  go_wp2_with fail
  refine (first_c _ T x _ (HH.out.grew hg1) (by omega) HA.out).mono ?_
  rintro e w2 ⟨v2, rfl, hN2, hg2⟩
  go_wp2_with fail
  refine (HI.out _ _ hN2).mono ?_
  rintro e w3 ⟨rfl, hg3⟩
  go_wp2_with fail
  refine (first_c _ T x _ (HH.out.grew ((hg1.trans hg2).trans hg3)) (by omega) HA.out).mono ?_
  rintro e w4 ⟨v4, rfl, hN4, hg4⟩
  go_wp2_with fail
  refine (HX.out 3 _ _ (by omega) hN4 hn1).mono ?_
  rintro e w5 ⟨rfl, hg5⟩
  go_wp2_with fail
  go_ret
  exact ⟨congrArg (fun z => Ending.returned (.string z)) HE.out, (((hg1.trans hg2).trans hg3).trans hg4).trans hg5⟩

theorem body_fls : BodyOk .fls := by
  intro l v w hl h hn
  have hE : Fm.txt .fls l = [70] := rfl
  rw [hE]
  rw [show Fm.own .fls = 3 from rfl] at hl
  obtain ⟨b, o, c, rfl, hc, hm, k1⟩ := nodes_head h
  have hpos := Fm.enc_pos (.fls)
  have HL := Lib.hid (levelOf_c _ _ w h (by omega))
  have HH := Lib.hid h
  have hg0 := Grew.refl w
  rw [show Fm.own .fls = 3 from rfl] at HL
  rw [show kindOf .fls = 1 from rfl] at k1
  clear hE h
  generalize Fm.enc .fls = T at *
  go_enter Tryz.func85, Tryz.ntmps85
  go_wp2_with fail
  refine HL.out.mono ?_
  rintro e w1 ⟨rfl, hg1⟩
  go_wp2_with fail
  go_ret
  exact ⟨rfl, hg1⟩

theorem body_var (n : Fin 6) : BodyOk (.var n) := by
  intro l v w hl h hn
  have hE : Fm.txt (.var n) l = [UInt8.ofNat (112 + n.val)] := rfl
  rw [hE]
  rw [show Fm.own (.var n) = 3 from rfl] at hl
  have k2 : ∃ b o c, v = .slice (some ⟨b, o, none⟩) (Fm.enc (.var n)).length c ∧ ∀ W, Grew w W → W.cell? ⟨b, o + 1, none⟩ = some (.int .i64 (n.val : Int)) := by
    rcases h.open_ with ⟨_, h0⟩ | ⟨b, o, c, hv, _, _, _, hf⟩
    · simp [Fm.enc] at h0
    · refine ⟨b, o, c, hv, fun W hW => ?_⟩
      have := (hf 0 (by simp [Fm.enc]) W hW).2
      rw [show sy (Fm.enc (.var n)) 0 = (n.val : Int) from rfl] at this
      simpa using this
  obtain ⟨b, o, c, rfl, hc, hm, k1⟩ := nodes_head h
  have hpos := Fm.enc_pos (.var n)
  have HL := Lib.hid (levelOf_c _ _ w h (by omega))
  have HH := Lib.hid h
  have hg0 := Grew.refl w
  obtain ⟨b', o', c', hv', k2⟩ := k2
  simp only [Value.slice.injEq, Option.some.injEq, Addr.mk.injEq, and_true, true_and] at hv'
  obtain ⟨⟨rfl, rfl⟩, rfl⟩ := hv'
  rw [show Fm.own (.var n) = 3 from rfl] at HL
  rw [show kindOf (.var n) = 0 from rfl] at k1
  have hn6 := n.isLt
  clear hE h
  generalize Fm.enc (.var n) = T at *
  generalize n.val = q at *
  go_enter Tryz.func85, Tryz.ntmps85
  go_wp2_with fail
  refine HL.out.mono ?_
  rintro e w1 ⟨rfl, hg1⟩
  go_wp2_with fail
  go_quiet (fail)
  go_wp2_with fail
  go_ret
  exact ⟨congrArg (fun z => Ending.returned (.string z)) (letter_cut hn6), hg1.drewN _⟩

theorem textOk_of (t : Tree) (hb : BodyOk t) : TextOk t := by
  intro l v w hl h hn
  by_cases hw : Fm.own t < l
  · have hE : Fm.txt t l = [40] ++ Fm.txt t 0 ++ [41] := by
      cases t with
      | var n => simp [Fm.own] at hw; omega
      | fls => simp [Fm.own] at hw; omega
      | and x y => simp only [Fm.own] at hw; simp [Fm.txt, Fm.wrap, hw]
      | or x y => simp only [Fm.own] at hw; simp [Fm.txt, Fm.wrap, hw]
      | imp x y =>
        cases hf : Fm.isF y with
        | true => simp [Fm.own, hf] at hw; omega
        | false => simp [Fm.own, hf] at hw; simp [Fm.txt, Fm.wrap, hf, hw]
      | box x => simp [Fm.own] at hw; omega
      | dia x => simp [Fm.own] at hw; omega
    rw [hE]
    have h1 := Fm.txt_len t 0
    have s1 := bs_size (Fm.txt t 0)
    have z1 : (bs (Fm.txt t 0)).size ≤ 4194304 := by omega
    have HL := Lib.hid (levelOf_c _ _ w h (by omega))
    have HB := Lib.hid (fun w h => hb 0 v w (Nat.zero_le _) h hn)
    have HH := Lib.hid h
    have HE : Hid (bs [40] ++ bs (Fm.txt t 0) ++ bs [41] = bs ([40] ++ Fm.txt t 0 ++ [41])) := by unfold Hid; rw [bs_append, bs_append]
    clear hE h1 s1 hb h
    generalize Fm.own t = q at *
    generalize [40] ++ Fm.txt t 0 ++ [41] = Z at *
    go_enter Tryz.func85, Tryz.ntmps85
    go_wp2_with fail
    refine HL.out.mono ?_
    rintro e w1 ⟨rfl, hg1⟩
    go_wp2_with fail
    refine (HB.out _ (HH.out.grew hg1)).mono ?_
    rintro e w2 ⟨rfl, hg2⟩
    go_wp2_with fail
    go_ret
    exact ⟨congrArg (fun z => Ending.returned (.string z)) HE.out, hg1.trans hg2⟩
  · exact hb l v w (by omega) h hn

theorem text_ok (t : Tree) : TextOk t := by
  induction t with
  | var n => exact textOk_of _ (body_var n)
  | fls => exact textOk_of _ body_fls
  | and x y hx hy => exact textOk_of _ (body_and x y hx hy)
  | or x y hx hy => exact textOk_of _ (body_or x y hx hy)
  | imp x y hx hy =>
    cases hf : Fm.isF y with
    | true =>
      obtain rfl := Fm.isF_eq hf
      cases hg : Fm.isF x with
      | true => exact textOk_of _ (body_tru x hg)
      | false => exact textOk_of _ (body_not x hg hx)
    | false => exact textOk_of _ (body_imp x y hf hx hy)
  | box x hx => exact textOk_of _ (body_box x hx)
  | dia x hx => exact textOk_of _ (body_dia x hx)

theorem text_c (t : Tree) (v : Value) (w : World) (h : Nodes w v (Fm.enc t)) (hn : (Fm.enc t).length ≤ 1048576) :
    Calls Tryz.prog 47 #[v] w (Says w (Fm.txt t 0)) := by
  have HT := Lib.hid (text_ok t 0 v w (by omega) h hn)
  go_enter Tryz.func47, Tryz.ntmps47
  go_wp2_with fail
  refine HT.out.mono ?_
  rintro e w1 ⟨rfl, hg1⟩
  go_wp2_with fail
  go_ret
  exact ⟨rfl, hg1⟩
end Go.Proofs.YtmdbhcoioimlmaaGreat

/- The program's 'parsed'. -/
namespace Go.Proofs.YtmdbhcoioimlmaaGreat
open Go.RowKit
open Fm (Nd)

/-- A new list, nil where it is empty. -/
def GivesN (w : World) (xs : List Nd) (e : Ending) (w' : World) : Prop := ∃ v, e = .returned v ∧ Own w' w.heap.size v xs ∧ Grew w w' ∧ (xs = [] → v = .slice none 0 0)

theorem parsed_c (s : ByteArray) (w : World) (hs : s.size ≤ 140737488355328) :
    Calls Tryz.prog 37 #[.string s] w (GivesN w (Fm.pf s).1) := by
  have HP := Lib.hid (fun w => parse_c s w hs)
  generalize Fm.pf s = r at *
  go_enter Tryz.func37, Tryz.ntmps37
  go_wp2_with fail
  refine (HP.out _).mono ?_
  rintro e w1 ⟨v1, rfl, ho1, hg1, hz1⟩
  have HZ := Lib.hid hz1
  clear hz1
  go_wp2_with fail
  go_ret
  exact ⟨_, rfl, ho1, hg1, HZ.out⟩
end Go.Proofs.YtmdbhcoioimlmaaGreat

/- isText of the program. -/
namespace Go.Proofs.YtmdbhcoioimlmaaGreat
open Go.RowKit
open Fm (Nd)

theorem text0_c (t : Fm.Tree) (v : Value) (w : World) (h : Nodes w v (Fm.enc t)) (hn : (Fm.enc t).length ≤ 1048576) :
    Calls Tryz.prog 47 #[v] w (Says w (Fm.txt t 0)) := text_c t v w h hn

theorem isText_c (s : ByteArray) (w : World) (hs : s.size ≤ 140737488355328) :
    Calls Tryz.prog 82 #[.string s] w fun e w' => e = .returned (.bool (gd s)) ∧ Grew w w' := by
  have HP := fun w => parsed_c s w hs
  rcases pf_cases s with ⟨t, ht⟩ | ⟨p, c, hp, hc⟩
  · have hn := Fm.pf_len s
    have hpos := Fm.enc_pos t
    rw [gd_tree ht]
    rw [ht] at HP hn
    simp only at HP hn
    replace HP := Lib.hid HP
    have HT := Lib.hid (fun v w h => text0_c t v w h (by omega))
    have HO := Lib.hid (fun w (v : Value) (h : Own w w.heap.size v (Fm.enc t)) => h)
    clear ht HO
    have hne := fun w (b : Option Addr) n c => run_neq_slice_nil_any (P := Tryz.prog) w 42 70 b n c 0 0 Tryz.underlying42
    generalize Fm.enc t = xs at *
    go_enter Tryz.func82, Tryz.ntmps82
    go_wp2_with fail
    refine (HP.out _).mono ?_
    rintro e w1 ⟨v1, rfl, ho1, hg1, _⟩
    rcases ho1.open_ with ⟨rfl, h0⟩ | ⟨g, c, cur, rfl, _⟩
    · rw [h0] at hpos; cases hpos
    go_wp2_with fail
    refine (HT.out _ _ ho1.nodes).mono ?_
    rintro e w2 ⟨rfl, hg2⟩
    go_wp2_with fail
    go_ret
    exact ⟨rfl, hg1.trans hg2⟩
  · rw [gd_bad hp hc]
    rw [hp] at HP
    replace HP := Lib.hid HP
    clear hp
    go_enter Tryz.func82, Tryz.ntmps82
    go_wp2_with fail
    refine (HP.out _).mono ?_
    rintro e w1 ⟨v1, rfl, ho1, hg1, hz1⟩
    obtain rfl := hz1 rfl
    go_wp2_with fail
    go_ret
    exact ⟨rfl, hg1⟩
end Go.Proofs.YtmdbhcoioimlmaaGreat

/- A predicate on nodes: IndexFunc, ContainsFunc. -/
namespace Go.Proofs.YtmdbhcoioimlmaaGreat
open Go.RowKit
open Fm (Nd)

/-- None of the first k nodes meets the predicate. -/
def NoneP (p : Int → Int → Bool) (xs : List Nd) (k : Nat) : Prop := ∀ i, i < k → p (kd xs i) (sy xs i) = false
theorem NoneP.zero (p : Int → Int → Bool) (xs : List Nd) : NoneP p xs 0 := fun i hi => absurd hi (by omega)
theorem NoneP.succ {p : Int → Int → Bool} {xs : List Nd} {k : Nat} (h : NoneP p xs k) (h1 : p (kd xs k) (sy xs k) = false) : NoneP p xs (k + 1) := by
  intro i hi
  rcases Nat.lt_or_ge i k with hk | hk
  · exact h i hk
  · obtain rfl : i = k := by omega
    exact h1
/-- Some node meets the predicate. -/
noncomputable def anyP (p : Int → Int → Bool) (xs : List Nd) : Bool := !@decide (NoneP p xs xs.length) (Classical.propDecidable _)
theorem anyP_no {p : Int → Int → Bool} {xs : List Nd} (h : NoneP p xs xs.length) : anyP p xs = false := by
  unfold anyP
  rw [@decide_eq_true _ (Classical.propDecidable _) h]
  rfl
theorem anyP_at {p : Int → Int → Bool} {xs : List Nd} {k : Nat} (hk : k < xs.length) (h : p (kd xs k) (sy xs k) = true) : anyP p xs = true := by
  unfold anyP
  rw [@decide_eq_false _ (Classical.propDecidable _) fun H => by rw [H k hk] at h; cases h]
  rfl

/-- What the function value gives at a node. -/
def PredOk (f : Nat) (p : Int → Int → Bool) : Prop := ∀ a b W, Calls Tryz.prog f #[.agg #[.int .i64 a, .int .i64 b]] W fun e w' => e = .returned (.bool (p a b)) ∧ Grew W w'

theorem indexFunc_c (v : Value) (xs : List Nd) (f : Nat) (p : Int → Int → Bool) (w : World) (h : Nodes w v xs) (hn : xs.length ≤ 1099511627776) (hf : PredOk f p) (eg : ∀ args w, (callFunc f args).run Tryz.prog w = .ok (.enter f args) w) :
    Calls Tryz.prog 123 #[v, .func (.func f) #[] #[]] w fun e w' => ∃ r : Int, e = .returned (.int .i64 r) ∧ Grew w w' ∧ decide (0 ≤ r) = anyP p xs := by
  rcases h.open_ with ⟨rfl, rfl⟩ | ⟨b, o, c, rfl, hc, hm, hb, hcell⟩
  · rw [anyP_no (NoneP.zero _ _)]
    clear h hf
    go_enter Tryz.func123, Tryz.ntmps123
    go_wp2_with fail
    refine wp_loop_rounds 1 ?_; rw [rounds_succ]
    go_wp2_with fail
    go_ret
    exact ⟨_, rfl, Grew.refl _, rfl⟩
  obtain ⟨R, hR⟩ : ∃ R, R = anyP p xs := ⟨_, rfl⟩
  rw [← hR]
  have HA := Lib.hid (fun k hk h => hR.trans (@anyP_at p xs k hk h))
  have HZ := Lib.hid (fun h => hR.trans (@anyP_no p xs h))
  have HC := Lib.hid hcell
  have HF := Lib.hid hf
  clear hcell h hf hR
  generalize hN : xs.length = n at *
  clear hN
  go_enter Tryz.func123, Tryz.ntmps123
  go_wp2_with fail
  go_loopw [5, 8] (fun _ i wr => ∃ j : Nat, j ≤ n ∧ i = .int .i64 j ∧ Grew w wr ∧ Hid (NoneP p xs j)) (fun _ i _ => n - (intOf i).toNat)
  case atStart => exact ⟨0, Nat.zero_le _, rfl, Grew.refl _, NoneP.zero _ _⟩
  case round =>
    obtain ⟨j, hj, rfl, hB, HJ⟩ := hrel
    by_cases hlt : j < n
    · have k1 := (HC.out j hlt _ hB).1
      have k2 := (HC.out j hlt _ hB).2
      have hA := Lib.hid (HA.out j hlt)
      have hS := Lib.hid (fun h => HJ.out.succ (k := j) h)
      generalize kd xs j = x at *
      generalize sy xs j = y at *
      go_wp2_with fail
      go_at_fn f
      refine (HF.out x y _).mono ?_
      rintro e w1 ⟨rfl, hg1⟩
      have hB1 := hB.trans hg1
      cases hp : p x y with
      | true =>
        have hv := hA.out hp
        go_wp2_with fail
        go_ret
        exact ⟨_, rfl, hB1, by rw [hv]; simp⟩
      | false =>
        have hs := Lib.hid (hS.out hp)
        go_wp2_with fail
        go_roundw
        case rel => exact ⟨j + 1, by omega, by go_num, hB1, hs⟩
        case measure => simp [intOf]; omega
    · obtain rfl : j = n := by omega
      have hv := Lib.hid (HZ.out HJ.out)
      go_wp2_with fail
      go_ret
      exact ⟨_, rfl, hB, by rw [hv.out]; rfl⟩

theorem containsFunc_c (v : Value) (xs : List Nd) (f : Nat) (p : Int → Int → Bool) (w : World) (h : Nodes w v xs) (hn : xs.length ≤ 1099511627776) (hf : PredOk f p) (eg : ∀ args w, (callFunc f args).run Tryz.prog w = .ok (.enter f args) w) :
    Calls Tryz.prog 105 #[v, .func (.func f) #[] #[]] w fun e w' => e = .returned (.bool (anyP p xs)) ∧ Grew w w' := by
  have HI := Lib.hid (indexFunc_c v xs f p w h hn hf eg)
  clear h hf eg
  generalize anyP p xs = R at *
  go_enter Tryz.func105, Tryz.ntmps105
  go_wp2_with fail
  refine HI.out.mono ?_
  rintro e w1 ⟨r, rfl, hg1, hr⟩
  go_wp2_with fail
  go_ret
  exact ⟨by rw [← hr]; rfl, hg1⟩

end Go.Proofs.YtmdbhcoioimlmaaGreat

/- isPlain of the program, l02Plain of the reference. -/
namespace Go.Proofs.YtmdbhcoioimlmaaGreat
open Go.RowKit
open Fm (Nd)

def isBD (a _b : Int) : Bool := a == 5 || a == 6
theorem isModal_c (a : Int) (w : World) : Calls Tryz.prog 107 #[.int .i64 a] w fun e w' => e = .returned (.bool (a == 5 || a == 6)) ∧ Grew w w' := by
  cases h : (a == 5) with
  | true =>
    go_enter Tryz.func107, Tryz.ntmps107
    go_wp2_with fail
    go_ret
    exact ⟨rfl, Grew.refl _⟩
  | false =>
    go_enter Tryz.func107, Tryz.ntmps107
    go_wp2_with fail
    go_ret
    exact ⟨by simp, Grew.refl _⟩
theorem isPlain1_ok : PredOk 106 isBD := by
  intro a b w
  go_enter Tryz.func106, Tryz.ntmps106
  go_wp2_with fail
  refine (isModal_c _ _).mono ?_
  rintro e w1 ⟨rfl, hg1⟩
  go_wp2_with fail
  go_ret
  exact ⟨rfl, Grew.of_alloc hg1⟩
theorem isPlain_c (v : Value) (xs : List Nd) (w : World) (h : Nodes w v xs) (hn : xs.length ≤ 1099511627776) :
    Calls Tryz.prog 83 #[v] w fun e w' => e = .returned (.bool (!anyP isBD xs)) ∧ Grew w w' := by
  have HI := Lib.hid (containsFunc_c v xs _ _ w h hn isPlain1_ok (enters_of Tryz.func106 (by kernel_rfl) rfl))
  clear h
  generalize anyP isBD xs = R at *
  go_enter Tryz.func83, Tryz.ntmps83
  go_wp2_with fail
  refine HI.out.mono ?_
  rintro e w1 ⟨rfl, hg1⟩
  go_wp2_with fail
  go_ret
  exact ⟨rfl, hg1⟩

theorem l02Plain_c (v : Value) (xs : List Nd) (w : World) (h : Nodes w v xs) (hn : xs.length ≤ 1099511627776) :
    Calls Tryz.prog 68 #[v] w fun e w' => e = .returned (.bool (!anyP isBD xs)) ∧ Grew w w' := by
  rcases h.open_ with ⟨rfl, rfl⟩ | ⟨b, o, c, rfl, hc, hm, hb, hcell⟩
  · rw [anyP_no (NoneP.zero _ _)]
    clear h
    go_enter Tryz.func68, Tryz.ntmps68
    go_wp2_with fail
    refine wp_loop_rounds 1 ?_; rw [rounds_succ]
    go_wp2_with fail
    go_ret
    exact ⟨rfl, Grew.refl _⟩
  obtain ⟨R, hR⟩ : ∃ R, R = anyP isBD xs := ⟨_, rfl⟩
  rw [← hR]
  have HA := Lib.hid (fun k hk h => hR.trans (@anyP_at isBD xs k hk h))
  have HZ := Lib.hid (fun h => hR.trans (@anyP_no isBD xs h))
  have HC := Lib.hid hcell
  clear hcell h hR
  generalize hN : xs.length = n at *
  clear hN
  go_enter Tryz.func68, Tryz.ntmps68
  go_wp2_with fail
  go_loopw [3] (fun i wr => ∃ j : Nat, j ≤ n ∧ i = .int .i64 j ∧ Grew w wr ∧ Hid (NoneP isBD xs j)) (fun i _ => n - (intOf i).toNat)
  case atStart => exact ⟨0, Nat.zero_le _, rfl, Grew.refl _, NoneP.zero _ _⟩
  case round =>
    obtain ⟨j, hj, rfl, hB, HJ⟩ := hrel
    by_cases hlt : j < n
    · have k1 := (HC.out j hlt _ hB).1
      have hA := Lib.hid (HA.out j hlt)
      have hS := Lib.hid (fun h => HJ.out.succ (k := j) h)
      generalize kd xs j = x at *
      generalize sy xs j = y at *
      cases h5 : (x == 5) with
      | true =>
        have hv := Lib.hid (hA.out (by simp [isBD, h5]))
        go_wp2_with fail
        go_ret
        rw [hv.out]
        exact ⟨rfl, hB⟩
      | false =>
        cases h6 : (x == 6) with
        | true =>
          have hv := Lib.hid (hA.out (by simp [isBD, h6]))
          go_wp2_with fail
          go_ret
          rw [hv.out]
          exact ⟨rfl, hB⟩
        | false =>
          have hs := Lib.hid (hS.out (by simp [isBD, h5, h6]))
          go_wp2_with fail
          go_roundw
          case rel => exact ⟨j + 1, by omega, by go_num, hB, hs⟩
          case measure => simp [intOf]; omega
    · obtain rfl : j = n := by omega
      have hv := Lib.hid (HZ.out HJ.out)
      go_wp2_with fail
      go_ret
      rw [hv.out]
      exact ⟨rfl, hB⟩
end Go.Proofs.YtmdbhcoioimlmaaGreat

/- Is a text that of a plain formula? -/
namespace Go.Proofs.YtmdbhcoioimlmaaGreat
open Go.RowKit
open Fm (Nd)

/-- The text is the text of a plain formula. -/
noncomputable def gp (s : ByteArray) : Bool := gd s && !anyP isBD (Fm.pf s).1

def GivesP (w : World) (s : ByteArray) (e : Ending) (w' : World) : Prop := ∃ v, e = .returned (.tuple #[v, .bool (gp s)]) ∧ Own w' w.heap.size v (Fm.pf s).1 ∧ Grew w w'

theorem isPlainText_c (s : ByteArray) (w : World) (hs : s.size ≤ 140737488355328) :
    Calls Tryz.prog 44 #[.string s] w fun e w' => e = .returned (.bool (gp s)) ∧ Grew w w' := by
  have HG := fun w => isText_c s w hs
  have HR := fun w => parsed_c s w hs
  have hn := Fm.pf_len s
  unfold gp
  generalize (Fm.pf s).1 = xs at *
  have HP := Lib.hid (fun v w h => isPlain_c v xs w h (by omega))
  replace HR := Lib.hid HR
  generalize anyP isBD xs = q at *
  cases hg : gd s with
  | true =>
    rw [hg] at HG
    replace HG := Lib.hid HG
    clear hg
    go_enter Tryz.func44, Tryz.ntmps44
    go_wp2_with fail
    refine (HG.out _).mono ?_
    rintro e w1 ⟨rfl, hg1⟩
    go_wp2_with fail
    refine (HR.out _).mono ?_
    rintro e w2 ⟨v2, rfl, ho2, hg2, _⟩
    go_wp2_with fail
    refine (HP.out _ _ ho2.nodes).mono ?_
    rintro e w3 ⟨rfl, hg3⟩
    go_wp2_with fail
    go_ret
    exact ⟨rfl, (hg1.trans hg2).trans hg3⟩
  | false =>
    rw [hg] at HG
    replace HG := Lib.hid HG
    clear hg
    go_enter Tryz.func44, Tryz.ntmps44
    go_wp2_with fail
    refine (HG.out _).mono ?_
    rintro e w1 ⟨rfl, hg1⟩
    go_wp2_with fail
    go_ret
    exact ⟨rfl, hg1⟩
end Go.Proofs.YtmdbhcoioimlmaaGreat

/- The order of texts. -/
namespace Go.Proofs.YtmdbhcoioimlmaaGreat
open Go.RowKit

theorem above_iff : ∀ (x y : List UInt8), (Op.bytesLess x y || x == y) = !Op.bytesLess y x
  | [], [] => by simp [Op.bytesLess]
  | _ :: _, [] => by simp [Op.bytesLess]
  | [], _ :: _ => by simp [Op.bytesLess]
  | a :: x, b :: y => by
    have ih := above_iff x y
    rw [Op.bytesLess, Op.bytesLess]
    by_cases h1 : a < b
    · have h2 : ¬ b < a := by simp only [UInt8.lt_iff_toNat_lt] at *; omega
      have h3 : ¬ b = a := by rintro rfl; exact h2 h1
      simp [h1, h2, h3]
    · by_cases h2 : a = b
      · subst h2
        have h3 : ¬ a < a := h1
        simp only [h3, decide_false, Bool.false_or, beq_self_eq_true, Bool.true_and]
        rw [← ih]
        simp
      · have h3 : b < a := by
          simp only [UInt8.lt_iff_toNat_lt, ← UInt8.toNat_inj] at *
          omega
        have h4 : ¬ b = a := fun h => h2 h.symm
        simp [h1, h2, h3, h4]
end Go.Proofs.YtmdbhcoioimlmaaGreat

/- The laws' own helpers on slices of strings: szStringS, toStringS, eqStringS. -/
namespace Go.Proofs.YtmdbhcoioimlmaaGreat
open Go.RowKit

/-- A list of strings that came in. -/
def ArgS (w : World) (v : Value) (L : List ByteArray) : Prop :=
  (∃ A c, v = .slice A L.length c ∧ L.length ≤ 9223372036854775807) ∧ (0 < L.length → Strs w v L) ∧ ∀ i, i < L.length → (st L i).size ≤ 9223372036854775807
theorem ArgS.grew {w w' : World} {v : Value} {L : List ByteArray} (h : ArgS w v L) (hg : Grew w w') : ArgS w' v L := ⟨h.1, fun hp => (h.2.1 hp).grew hg, h.2.2⟩

/-- None of the first k is long. -/
def Small (L : List ByteArray) (k : Nat) : Prop := ∀ i, i < k → (st L i).size ≤ 1048576
theorem Small.zero (L : List ByteArray) : Small L 0 := fun i hi => absurd hi (by omega)
theorem Small.succ {L : List ByteArray} {k : Nat} (h : Small L k) (h1 : (st L k).size ≤ 1048576) : Small L (k + 1) := by
  intro i hi
  rcases Nat.lt_or_ge i k with hk | hk
  · exact h i hk
  · obtain rfl : i = k := by omega
    exact h1
/-- What the sizes' walk gives. -/
def Sizes (L : List ByteArray) (r : Int) : Prop := r ≤ 1048576 ∧ (0 ≤ r → L.length ≤ 1048576 ∧ Small L L.length)

theorem szStringS_c (v : Value) (L : List ByteArray) (left : Int) (w : World) (h : ArgS w v L) (h0 : 0 ≤ left) (h1 : left ≤ 1048576) :
    Calls Tryz.prog 10 #[v, .int .i64 left] w fun e w' => ∃ r : Int, e = .returned (.int .i64 r) ∧ Sizes L r ∧ Grew w w' := by
  obtain ⟨⟨A, c, rfl, hmax⟩, hS, hz⟩ := h
  by_cases hlong : left < L.length
  · clear hS hz
    go_enter Tryz.func10, Tryz.ntmps10
    go_wp2_with fail
    go_ret
    exact ⟨_, rfl, ⟨by omega, fun h => absurd h (by omega)⟩, Grew.refl _⟩
  · by_cases hp : 0 < L.length
    · rcases (hS hp).open_ with ⟨_, h2⟩ | ⟨b, o, c', hv, hc, hm, hb, hcell⟩
      · rw [h2] at hp; cases hp
      obtain ⟨rfl, rfl⟩ : A = some ⟨b, o, none⟩ ∧ c = c' := by simpa using hv
      clear hS hv
      have HE : Hid (∀ r : Int, (r ≤ 1048576 ∧ (0 ≤ r → L.length ≤ 1048576 ∧ Small L L.length)) → Sizes L r) := Lib.hid (fun _ h => h)
      have HC := Lib.hid hcell
      have HZ := Lib.hid hz
      clear hcell hz
      generalize hN : L.length = n at *
      clear hN
      go_enter Tryz.func10, Tryz.ntmps10
      go_wp2_with fail
      go_loopw [1, 5] (fun kk i wr => ∃ (j : Nat) (l : Int), j ≤ n ∧ i = .int .i64 j ∧ kk = .int .i64 l ∧ 0 ≤ l ∧ l ≤ left ∧ Grew w wr ∧ Hid (Small L j)) (fun _ i _ => n - (intOf i).toNat)
      case atStart => exact ⟨0, left - n, Nat.zero_le _, rfl, rfl, by omega, by omega, Grew.refl _, Small.zero _⟩
      case round =>
        obtain ⟨j, l, hj, rfl, rfl, hl0, hl1, hB, HJ⟩ := hrel
        by_cases hlt : j < n
        · have k1 := HC.out j hlt _ hB
          have k2 := HZ.out j hlt
          have HS := Lib.hid (fun h => HJ.out.succ (k := j) h)
          generalize st L j = x at *
          by_cases hbig : l < x.size
          · go_wp2_with fail
            go_ret
            exact ⟨_, rfl, HE.out _ ⟨by omega, fun h => absurd h (by omega)⟩, hB⟩
          · go_wp2_with fail
            go_roundw
            case rel => exact ⟨j + 1, l - x.size, by omega, by go_num, rfl, by omega, by omega, hB, HS.out (by omega)⟩
            case measure => simp [intOf]; omega
        · obtain rfl : j = n := by omega
          go_wp2_with fail
          go_ret
          exact ⟨_, rfl, HE.out _ ⟨by omega, fun _ => ⟨by omega, HJ.out⟩⟩, hB⟩
    · obtain rfl : L = [] := List.eq_nil_of_length_eq_zero (by omega)
      simp only [List.length_nil] at *
      go_enter Tryz.func10, Tryz.ntmps10
      go_wp2_with fail
      refine wp_loop_rounds 1 ?_; rw [rounds_succ]
      go_wp2_with fail
      go_ret
      exact ⟨_, rfl, ⟨by omega, fun _ => ⟨by simp, fun i hi => absurd hi (by simp)⟩⟩, Grew.refl _⟩

theorem one_step {cur : Array Value} {F : Nat → Value} {j : Nat} (hs : j < cur.size) (h : ∀ i, i < j → cur[i]? = some (F i)) :
    ∀ i, i < j + 1 → (cur.setIfInBounds j (F j))[i]? = some (F i) := by
  intro i hi
  simp only [Array.getElem?_setIfInBounds]
  rcases Nat.lt_or_ge i j with hk | hk
  · rw [if_neg (by omega)]
    exact h i hk
  · obtain rfl : i = j := by omega
    rw [if_pos rfl, if_pos hs]

theorem toStringS_c (v : Value) (L : List ByteArray) (w : World) (h : ArgS w v L) (hn : L.length ≤ 1048576) :
    Calls Tryz.prog 12 #[v] w (GivesS w L) := by
  obtain ⟨⟨A, c, rfl, hmax⟩, hS, _⟩ := h
  have hmk := run_make_row' (P := Tryz.prog) 22 9 (.string ByteArray.empty) 16 Tryz.underlying22 Tryz.infoStr rfl .i64 .i64 L.length (by omega) (by omega)
  have hend : ∀ cur w', w'.heap[w.heap.size]? = some (.cells cur 9 (0, 0)) → cur.size = L.length → (∀ i, i < L.length → cur[i]? = some (.string (st L i))) → OwnS w' w.heap.size (.slice (some ⟨w.heap.size, 0, none⟩) L.length L.length) L :=
    fun cur w' h1 h2 h3 => OwnS.mk_ (Nat.le_refl _) h1 (Nat.le_refl _) (by omega) h2 h3
  have HE := Lib.hid hend
  clear hend
  have hsz : (madeCells #[Value.string ByteArray.empty] L.length).size = L.length := by simp [madeCells]
  have hnew := blk_new w (.cells (madeCells #[Value.string ByteArray.empty] L.length) 9)
  have hal := (Grew.refl w).alloc (.cells (madeCells #[Value.string ByteArray.empty] L.length) 9)
  generalize madeCells #[Value.string ByteArray.empty] L.length = cur0 at *
  by_cases hp : 0 < L.length
  · rcases (hS hp).open_ with ⟨_, h2⟩ | ⟨b, o, c', hv, hc, hm, hb, hcell⟩
    · rw [h2] at hp; cases hp
    obtain ⟨rfl, rfl⟩ : A = some ⟨b, o, none⟩ ∧ c = c' := by simpa using hv
    clear hS hv
    have HC := Lib.hid hcell
    clear hcell
    generalize hN : L.length = n at *
    clear hN
    have HNEW := Lib.hid hnew
    clear hnew
    have HAL := Lib.hid hal
    clear hal
    go_enter Tryz.func12, Tryz.ntmps12
    go_wp2_with fail
    go_loopw [4] (fun i wr => ∃ (j : Nat) (cur : Array Value), j ≤ n ∧ i = .int .i64 j ∧ wr.heap[w.heap.size]? = some (.cells cur 9 (0, 0)) ∧ cur.size = n ∧ Grew w wr ∧ (∀ i, i < j → cur[i]? = some (.string (st L i)))) (fun i _ => n - (intOf i).toNat)
    case atStart => exact ⟨0, cur0, Nat.zero_le _, rfl, HNEW.out, hsz, HAL.out, fun i hi => absurd hi (by omega)⟩
    case round =>
      obtain ⟨j, cur, hj, rfl, hh, hcs, hB, hc2⟩ := hrel
      have HD := Lib.hid hc2
      clear hc2
      by_cases hlt : j < n
      · have k1 := HC.out j hlt _ hB
        have HS := Lib.hid (one_step (F := fun i => .string (st L i)) (j := j) (by omega) HD.out)
        have f1 : ∀ i, wr.frozen? ⟨w.heap.size, i, none⟩ = false := fun i => by simp [World.frozen?, hh]
        obtain ⟨u1, hu1⟩ : ∃ u, wr.cell? ⟨w.heap.size, 0 + j, none⟩ = some u := by
          rw [cell_of_row wr w.heap.size _ cur _ (0, 0) hh]
          exact ⟨_, Array.getElem?_eq_getElem (by omega)⟩
        simp only [Nat.zero_add] at hu1
        have HH := Lib.hid hh
        clear hh
        generalize st L j = x at *
        go_wp2_with fail
        go_roundw
        case rel => exact ⟨j + 1, _, by omega, by go_num, blk_set HH.out _ _, by simp [hcs], hB.setCell (Nat.le_refl _) _, HS.out⟩
        case measure => simp [intOf]; omega
      · obtain rfl : j = n := by omega
        have HH := Lib.hid hh
        clear hh
        go_wp2_with fail
        go_ret
        exact ⟨_, rfl, HE.out _ _ HH.out hcs HD.out, hB⟩
  · have hp0 : L.length ≤ 0 := by omega
    have HNEW := Lib.hid hnew
    clear hnew hS hp
    have HAL := Lib.hid hal
    clear hal
    generalize hN : L.length = n at *
    clear hN
    go_enter Tryz.func12, Tryz.ntmps12
    go_wp2_with fail
    refine wp_loop_rounds 1 ?_; rw [rounds_succ]
    go_wp2_with fail
    go_ret
    exact ⟨_, rfl, HE.out _ _ HNEW.out hsz (fun i hi => absurd hi (by omega)), HAL.out⟩

/-- Two lists of strings that are equal. -/
theorem eqStringS_yes (v1 v2 : Value) (L : List ByteArray) (w : World) (h1 : Strs w v1 L) (h2 : Strs w v2 L) (hn : L.length ≤ 1099511627776) :
    Calls Tryz.prog 14 #[v1, v2] w fun e w' => e = .returned (.bool true) ∧ Grew w w' := by
  rcases h1.open_ with ⟨rfl, rfl⟩ | ⟨b1, o1, c1, rfl, hc1, hm1, hb1, hf⟩
  · obtain ⟨A, c, rfl⟩ := strs_slice h2
    go_enter Tryz.func14, Tryz.ntmps14
    go_wp2_with fail
    refine wp_loop_rounds 1 ?_; rw [rounds_succ]
    go_wp2_with fail
    go_ret
    exact ⟨rfl, Grew.refl _⟩
  · rcases h2.open_ with ⟨rfl, rfl⟩ | ⟨b2, o2, c2, rfl, hc2, hm2, hb2, hh⟩
    · go_enter Tryz.func14, Tryz.ntmps14
      go_wp2_with fail
      refine wp_loop_rounds 1 ?_; rw [rounds_succ]
      go_wp2_with fail
      go_ret
      exact ⟨rfl, Grew.refl _⟩
    · clear h1 h2
      have HF := Lib.hid hf
      have HH := Lib.hid hh
      clear hf hh
      generalize hN : L.length = n at *
      clear hN
      go_enter Tryz.func14, Tryz.ntmps14
      go_wp2_with fail
      go_loopw [5] (fun i wr => ∃ j : Nat, j ≤ n ∧ i = .int .i64 j ∧ Grew w wr) (fun i _ => n - (intOf i).toNat)
      case atStart => exact ⟨0, Nat.zero_le _, rfl, Grew.refl _⟩
      case round =>
        obtain ⟨j, hj, rfl, hB⟩ := hrel
        by_cases hlt : j < n
        · have k1 : ∀ W, Grew w W → W.cell? ⟨b1, o1 + j, none⟩ = some (.string (st L j)) := fun W hW => HF.out j hlt W hW
          have k2 : ∀ W, Grew w W → W.cell? ⟨b2, o2 + j, none⟩ = some (.string (st L j)) := fun W hW => HH.out j hlt W hW
          have k3 := k1 _ hB
          have k4 := k2 _ hB
          generalize st L j = x at *
          have hx : (x.toList != x.toList) = false := by simp
          go_wp2_with fail
          go_quiet (fail)
          go_wp2_with fail
          go_roundw
          case rel => exact ⟨j + 1, by omega, by go_num, by first | assumption | exact hB.drewN _⟩
          case measure => simp [intOf]; omega
        · go_wp2_with fail
          go_ret
          exact ⟨rfl, by assumption⟩
end Go.Proofs.YtmdbhcoioimlmaaGreat

/- A sequent: every text of the left side is a plain text above the one before. -/
namespace Go.Proofs.YtmdbhcoioimlmaaGreat
open Go.RowKit
open Fm (Nd)

theorem l22Formula_c (s : ByteArray) (w : World) (hs : s.size ≤ 140737488355328) :
    Calls Tryz.prog 33 #[.string s] w (GivesP w s) := by
  have HG := fun w => l02Good_c s w hs
  have hn := Fm.pf_len s
  unfold GivesP gp
  unfold GivesG at HG
  generalize (Fm.pf s).1 = xs at *
  have HP := Lib.hid (fun v w h => l02Plain_c v xs w h (by omega))
  generalize anyP isBD xs = q at *
  cases hg : gd s with
  | true =>
    rw [hg] at HG
    replace HG := Lib.hid HG
    clear hg
    go_enter Tryz.func33, Tryz.ntmps33
    go_wp2_with fail
    refine (HG.out _).mono ?_
    rintro e w1 ⟨v1, rfl, ho1, hg1⟩
    go_wp2_with fail
    refine (HP.out _ _ ho1.nodes).mono ?_
    rintro e w2 ⟨rfl, hg2⟩
    go_wp2_with fail
    go_ret2
    exact ⟨_, rfl, ho1.grew hg2, hg1.trans hg2⟩
  | false =>
    rw [hg] at HG
    replace HG := Lib.hid HG
    clear hg
    go_enter Tryz.func33, Tryz.ntmps33
    go_wp2_with fail
    refine (HG.out _).mono ?_
    rintro e w1 ⟨v1, rfl, ho1, hg1⟩
    go_wp2_with fail
    go_ret2
    exact ⟨_, rfl, ho1, hg1⟩

/-- The first k are plain texts, each above the one before. -/
def AscP (L : List ByteArray) (k : Nat) : Prop := ∀ i, i < k → gp (st L i) = true ∧ (0 < i → Op.bytesLess (st L (i - 1)).toList (st L i).toList = true)
noncomputable def ascP (L : List ByteArray) : Bool := @decide (AscP L L.length) (Classical.propDecidable _)
theorem AscP.zero (L : List ByteArray) : AscP L 0 := fun i hi => absurd hi (by omega)
theorem AscP.succ {L : List ByteArray} {k : Nat} (h : AscP L k) (h1 : gp (st L k) = true) (h2 : 0 < k → Op.bytesLess (st L (k - 1)).toList (st L k).toList = true) : AscP L (k + 1) := by
  intro i hi
  rcases Nat.lt_or_ge i k with hk | hk
  · exact h i hk
  · obtain rfl : i = k := by omega
    exact ⟨h1, h2⟩
theorem ascP_true {L : List ByteArray} (h : AscP L L.length) : ascP L = true := by
  unfold ascP
  exact @decide_eq_true _ (Classical.propDecidable _) h
theorem ascP_bad {L : List ByteArray} {k : Nat} (hk : k < L.length) (h : gp (st L k) = false) : ascP L = false := by
  unfold ascP
  refine @decide_eq_false _ (Classical.propDecidable _) fun H => ?_
  rw [(H k hk).1] at h
  cases h
theorem ascP_low {L : List ByteArray} {k : Nat} (hk : k + 1 < L.length) (h : Op.bytesLess (st L k).toList (st L (k + 1)).toList = false) : ascP L = false := by
  unfold ascP
  refine @decide_eq_false _ (Classical.propDecidable _) fun H => ?_
  have := (H (k + 1) hk).2 (by omega)
  rw [Nat.add_sub_cancel, h] at this
  cases this
theorem l22Left_c (v : Value) (L : List ByteArray) (w : World) (h : Strs w v L) (hs : Fits L) (hn : L.length ≤ 1048576) :
    Calls Tryz.prog 38 #[v] w fun e w' => e = .returned (.bool (ascP L && decide (L.length ≤ 12))) ∧ Grew w w' := by
  rcases h.open_ with ⟨rfl, rfl⟩ | ⟨b, o, c, rfl, hc, hm, hb, hcell⟩
  · rw [show (ascP [] && decide ((([] : List ByteArray)).length ≤ 12)) = true from by rw [ascP_true (AscP.zero _)]; rfl]
    clear h hs
    go_enter Tryz.func38, Tryz.ntmps38
    go_wp2_with fail
    refine wp_loop_rounds 1 ?_; rw [rounds_succ]
    go_wp2_with fail
    go_ret
    exact ⟨rfl, Grew.refl _⟩
  obtain ⟨R, hR⟩ : ∃ R, R = ascP L := ⟨_, rfl⟩
  rw [← hR]
  have HT := Lib.hid (fun h => hR.trans (@ascP_true L h))
  have HB := Lib.hid (fun k hk h => hR.trans (@ascP_bad L k hk h))
  have HL := Lib.hid (fun k hk h => hR.trans (@ascP_low L k hk h))
  have HC := Lib.hid hcell
  have HS := Lib.hid hs
  clear hcell h hs hR
  unfold Fits at HS
  generalize hN : L.length = n at *
  clear hN
  go_enter Tryz.func38, Tryz.ntmps38
  go_wp2_with fail
  go_loopw [3] (fun i wr => ∃ j : Nat, j ≤ n ∧ i = .int .i64 j ∧ Grew w wr ∧ Hid (AscP L j)) (fun i _ => n - (intOf i).toNat)
  case atStart => exact ⟨0, Nat.zero_le _, rfl, Grew.refl _, AscP.zero _⟩
  case round =>
    obtain ⟨j, hj, rfl, hB, HJ⟩ := hrel
    by_cases hlt : j < n
    · have k1 : ∀ W, Grew w W → W.cell? ⟨b, o + j, none⟩ = some (.string (st L j)) := fun W hW => HC.out j hlt W hW
      have hsz := HS.out j hlt
      have hG := Lib.hid (fun w => l22Formula_c (st L j) w (by omega))
      have k2 := k1 _ hB
      go_wp2_with fail
      refine (hG.out _).mono ?_
      rintro e w1 ⟨v1, rfl, _, hg1⟩
      have hB1 := hB.trans hg1
      cases hgd : gp (st L j) with
      | false =>
        have hv := Lib.hid (HB.out j hlt hgd)
        generalize st L j = x at *
        go_wp2_with fail
        go_quiet (fail)
        go_wp2_with fail
        go_ret
        rw [hv.out]
        exact ⟨rfl, by first | assumption | exact hB1.drewN _⟩
      | true =>
        cases j with
        | zero =>
          have HS1 := Lib.hid (HJ.out.succ hgd (fun h => absurd h (by omega)))
          generalize st L 0 = x at *
          go_wp2_with fail
          go_quiet (fail)
          go_wp2_with fail
          go_roundw
          case rel => exact ⟨1, by omega, by go_num, by first | assumption | exact hB1.drewN _, HS1⟩
          case measure => simp [intOf]; omega
        | succ m =>
          have k3 := HC.out m (by omega) _ hB1
          have k4 := k1 _ hB1
          cases hlo : Op.bytesLess (st L m).toList (st L (m + 1)).toList with
          | false =>
            have hv := Lib.hid (HL.out m hlt hlo)
            generalize st L m = y at *
            generalize st L (m + 1) = x at *
            go_wp2_with fail
            go_quiet (fail)
            go_wp2_with fail
            go_ret
            rw [hv.out]
            exact ⟨rfl, by first | assumption | exact hB1.drewN _⟩
          | true =>
            have HS1 := Lib.hid (HJ.out.succ hgd (fun _ => hlo))
            generalize st L m = y at *
            generalize st L (m + 1) = x at *
            go_wp2_with fail
            go_quiet (fail)
            go_wp2_with fail
            go_roundw
            case rel => exact ⟨m + 1 + 1, by omega, by go_num, by first | assumption | exact hB1.drewN _, HS1⟩
            case measure => simp [intOf]; omega
    · obtain rfl : j = n := by omega
      have hv := Lib.hid (HT.out HJ.out)
      go_wp2_with fail
      go_ret
      rw [hv.out]
      exact ⟨by simp; omega, hB⟩
theorem isLeft_c (v : Value) (L : List ByteArray) (w : World) (h : Strs w v L) (hs : Fits L) (hn : L.length ≤ 1048576) :
    Calls Tryz.prog 86 #[v] w fun e w' => e = .returned (.bool (ascP L)) ∧ Grew w w' := by
  rcases h.open_ with ⟨rfl, rfl⟩ | ⟨b, o, c, rfl, hc, hm, hb, hcell⟩
  · rw [ascP_true (AscP.zero _)]
    clear h hs
    go_enter Tryz.func86, Tryz.ntmps86
    go_wp2_with fail
    refine wp_loop_rounds 1 ?_; rw [rounds_succ]
    go_wp2_with fail
    go_ret
    exact ⟨rfl, Grew.refl _⟩
  obtain ⟨R, hR⟩ : ∃ R, R = ascP L := ⟨_, rfl⟩
  rw [← hR]
  have HT := Lib.hid (fun h => hR.trans (@ascP_true L h))
  have HB := Lib.hid (fun k hk h => hR.trans (@ascP_bad L k hk h))
  have HL := Lib.hid (fun k hk h => hR.trans (@ascP_low L k hk h))
  have HC := Lib.hid hcell
  have HS := Lib.hid hs
  clear hcell h hs hR
  unfold Fits at HS
  generalize hN : L.length = n at *
  clear hN
  go_enter Tryz.func86, Tryz.ntmps86
  go_wp2_with fail
  go_loopw [3, 4, 7] (fun _ _ i wr => ∃ j : Nat, j ≤ n ∧ i = .int .i64 j ∧ Grew w wr ∧ Hid (AscP L j)) (fun _ _ i _ => n - (intOf i).toNat)
  case atStart => exact ⟨0, Nat.zero_le _, rfl, Grew.refl _, AscP.zero _⟩
  case round =>
    obtain ⟨j, hj, rfl, hB, HJ⟩ := hrel
    by_cases hlt : j < n
    · have k1 : ∀ W, Grew w W → W.cell? ⟨b, o + j, none⟩ = some (.string (st L j)) := fun W hW => HC.out j hlt W hW
      have hsz := HS.out j hlt
      have hG := Lib.hid (fun w => isPlainText_c (st L j) w (by omega))
      have k2 := k1 _ hB
      go_wp2_with fail
      refine (hG.out _).mono ?_
      rintro e w1 ⟨rfl, hg1⟩
      have hB1 := hB.trans hg1
      cases hgd : gp (st L j) with
      | false =>
        have hv := Lib.hid (HB.out j hlt hgd)
        generalize st L j = x at *
        go_wp2_with fail
        go_ret
        rw [hv.out]
        exact ⟨rfl, hB1⟩
      | true =>
        cases j with
        | zero =>
          have HS1 := Lib.hid (HJ.out.succ hgd (fun h => absurd h (by omega)))
          generalize st L 0 = x at *
          go_wp2_with fail
          go_roundw
          case rel => exact ⟨1, by omega, by go_num, hB1, HS1⟩
          case measure => simp [intOf]; omega
        | succ m =>
          have k3 := HC.out m (by omega) _ hB1
          have k4 := k1 _ hB1
          cases hlo : Op.bytesLess (st L m).toList (st L (m + 1)).toList with
          | false =>
            have hv := Lib.hid (HL.out m hlt hlo)
            generalize st L m = y at *
            generalize st L (m + 1) = x at *
            go_wp2_with fail
            go_ret
            rw [hv.out]
            exact ⟨rfl, hB1⟩
          | true =>
            have HS1 := Lib.hid (HJ.out.succ hgd (fun _ => hlo))
            generalize st L m = y at *
            generalize st L (m + 1) = x at *
            go_wp2_with fail
            go_roundw
            case rel => exact ⟨m + 1 + 1, by omega, by go_num, hB1, HS1⟩
            case measure => simp [intOf]; omega
    · obtain rfl : j = n := by omega
      have hv := Lib.hid (HT.out HJ.out)
      go_wp2_with fail
      go_ret
      rw [hv.out]
      exact ⟨rfl, hB⟩

theorem isLeftSide_c (v : Value) (L : List ByteArray) (w : World) (h : Strs w v L) (hs : Fits L) (hn : L.length ≤ 1048576) :
    Calls Tryz.prog 48 #[v] w fun e w' => e = .returned (.bool (ascP L && decide (L.length ≤ 12))) ∧ Grew w w' := by
  have HI := Lib.hid (isLeft_c v L w h hs hn)
  obtain ⟨A, c, rfl⟩ := strs_slice h
  clear h hs
  generalize ascP L = R at *
  generalize L.length = n at *
  by_cases h12 : n ≤ 12
  · rw [show (R && decide (n ≤ 12)) = R from by simp [h12]]
    go_enter Tryz.func48, Tryz.ntmps48
    go_wp2_with fail
    refine HI.out.mono ?_
    rintro e w1 ⟨rfl, hg1⟩
    go_wp2_with fail
    go_ret
    exact ⟨rfl, hg1⟩
  · rw [show (R && decide (n ≤ 12)) = false from by simp [h12]]
    go_enter Tryz.func48, Tryz.ntmps48
    go_wp2_with fail
    go_ret
    exact ⟨rfl, Grew.refl _⟩

theorem l22Is_c (v : Value) (L : List ByteArray) (s : ByteArray) (w : World) (h : Strs w v L) (hs : Fits L) (hn : L.length ≤ 1048576) (hsz : s.size ≤ 140737488355328) :
    Calls Tryz.prog 66 #[v, .string s] w fun e w' => e = .returned (.bool (gp s && (ascP L && decide (L.length ≤ 12)))) ∧ Grew w w' := by
  have HF := fun w => l22Formula_c s w hsz
  have HL := Lib.hid (fun W (hW : Grew w W) => l22Left_c v L W (h.grew hW) hs hn)
  unfold GivesP at HF
  clear h hs
  generalize (ascP L && decide (L.length ≤ 12)) = R at *
  cases hg : gp s with
  | true =>
    rw [hg] at HF
    replace HF := Lib.hid HF
    clear hg
    go_enter Tryz.func66, Tryz.ntmps66
    go_wp2_with fail
    refine (HF.out _).mono ?_
    rintro e w1 ⟨v1, rfl, _, hg1⟩
    go_wp2_with fail
    refine (HL.out _ hg1).mono ?_
    rintro e w2 ⟨rfl, hg2⟩
    go_wp2_with fail
    go_ret
    exact ⟨rfl, hg1.trans hg2⟩
  | false =>
    rw [hg] at HF
    replace HF := Lib.hid HF
    clear hg
    go_enter Tryz.func66, Tryz.ntmps66
    go_wp2_with fail
    refine (HF.out _).mono ?_
    rintro e w1 ⟨v1, rfl, _, hg1⟩
    go_wp2_with fail
    go_ret
    exact ⟨rfl, hg1⟩

theorem isSequent_c (v : Value) (L : List ByteArray) (s : ByteArray) (w : World) (h : Strs w v L) (hs : Fits L) (hn : L.length ≤ 1048576) (hsz : s.size ≤ 140737488355328) :
    Calls Tryz.prog 43 #[v, .string s] w fun e w' => e = .returned (.bool (gp s && (ascP L && decide (L.length ≤ 12)))) ∧ Grew w w' := by
  have HF := Lib.hid (fun w => isPlainText_c s w hsz)
  have HL := isLeftSide_c v L w h hs hn
  clear h hs
  generalize (ascP L && decide (L.length ≤ 12)) = R at *
  generalize gp s = q at *
  cases R with
  | true =>
    replace HL := Lib.hid HL
    go_enter Tryz.func43, Tryz.ntmps43
    go_wp2_with fail
    refine HL.out.mono ?_
    rintro e w1 ⟨rfl, hg1⟩
    go_wp2_with fail
    refine (HF.out _).mono ?_
    rintro e w2 ⟨rfl, hg2⟩
    go_wp2_with fail
    go_ret
    exact ⟨by simp, hg1.trans hg2⟩
  | false =>
    replace HL := Lib.hid HL
    go_enter Tryz.func43, Tryz.ntmps43
    go_wp2_with fail
    refine HL.out.mono ?_
    rintro e w1 ⟨rfl, hg1⟩
    go_wp2_with fail
    go_ret
    exact ⟨by simp, hg1⟩
end Go.Proofs.YtmdbhcoioimlmaaGreat

/- l22Formulas of the reference: the formulas of texts. -/
namespace Go.Proofs.YtmdbhcoioimlmaaGreat
open Go.RowKit
open Fm (Nd)

theorem l22Formulas_c (v : Value) (L : List ByteArray) (w : World) (h : Strs w v L) (hs : Fits L) (hn : L.length ≤ 1048576) :
    Calls Tryz.prog 42 #[v] w (GivesL w (lf L)) := by
  rcases h.open_ with ⟨rfl, rfl⟩ | ⟨b, o, c, rfl, hc, hm, hb, hcell⟩
  · clear h hs
    go_enter Tryz.func42, Tryz.ntmps42
    go_wp2_with fail
    refine wp_loop_rounds 1 ?_; rw [rounds_succ]
    go_wp2_with fail
    go_ret
    exact ⟨_, rfl, .inr ⟨w.heap.size, 0, 0, rfl, by simp [lf], by omega, by simp, fun i hi => absurd hi (by simp [lf])⟩, (Grew.refl w).alloc _⟩
  have HE := Lib.hid (fun w' v us (h1 : OwnV w' w.heap.size v us) h2 h3 => @lists_of w' w.heap.size v us L h1 h2 h3)
  have HC := Lib.hid hcell
  have HS := Lib.hid hs
  have HA := Lib.hid (fun i h => @lf_at L i h)
  clear hcell h hs
  unfold Fits at HS
  generalize hN : L.length = n at *
  clear hN
  go_enter Tryz.func42, Tryz.ntmps42
  go_wp2_with fail
  go_loopw [3, 4] (fun vv i wr => ∃ (j : Nat) (us : List Value), j ≤ n ∧ us.length = j ∧ i = .int .i64 j ∧ OwnV wr w.heap.size vv us ∧ Grew w wr ∧ Hid (Hold wr w.heap.size us L)) (fun _ i _ => n - (intOf i).toNat)
  case atStart => exact ⟨0, [], Nat.zero_le _, rfl, rfl, own_empty w, (Grew.refl w).alloc _, fun i hi => absurd hi (by simp)⟩
  case round =>
    obtain ⟨j, us, hj, hu, rfl, hO, hB, HH⟩ := hrel
    by_cases hlt : j < n
    · have k1 := HC.out j hlt _ hB
      have hsz := HS.out j hlt
      have hP := Lib.hid (fun w => l22Formula_c (st L j) w (by omega))
      have hA : (lf L).getD us.length [] = (Fm.pf (st L j)).1 := by rw [hu]; exact HA.out j hlt
      have hA := Lib.hid hA
      generalize st L j = x at *
      go_wp2_with fail
      refine (hP.out _).mono ?_
      rintro e w1 ⟨u, rfl, ho1, hg1⟩
      obtain ⟨A, cc, rfl⟩ := nodes_slice ho1.nodes
      have hB1 := hB.trans hg1
      have hu1 := (ho1.base hB.size).grew ((Grew.refl w1).alloc (.cells #[.slice A (Fm.pf x).1.length cc] 42))
      have hO1 : OwnV (w1.alloc (.cells #[.slice A (Fm.pf x).1.length cc] 42)) w.heap.size u3 us := own_grew hO (hg1.trans ((Grew.refl w1).alloc _))
      have HH1 := Lib.hid (HH.out.grew (hg1.trans ((Grew.refl w1).alloc (.cells #[.slice A (Fm.pf x).1.length cc] 42))))
      have hone := own_one ho1
      go_wp2_with (first | (at_builtin; refine wpList_appV (w0 := w) _ _ rfl rfl _ us rfl hO1 (hB1.alloc _) _ _ rfl (rd_lit _ _ _) hone (by omega) ?_; intro v2 w2 hown2 hg2 hgr2))
      go_roundw
      case rel => exact ⟨j + 1, _, by omega, by rw [List.length_append, hu]; rfl, by go_num, hown2, hg2, Hold.snoc (HH1.out.app hO1 hgr2) (by rw [hA.out]; exact own_app hu1 hO1 hgr2)⟩
      case measure => simp [intOf]; omega
    · obtain rfl : j = n := by omega
      go_wp2_with fail
      go_ret
      exact ⟨_, rfl, HE.out _ _ _ hO HH.out hu, hB⟩

/-- Are the two sides a sequent? -/
noncomputable def isQ (L : List ByteArray) (s : ByteArray) : Bool := gp s && (ascP L && decide (L.length ≤ 12))
end Go.Proofs.YtmdbhcoioimlmaaGreat

/- The code of a sequent that is decided: goalCode of the program, l23Code of the reference. -/
namespace Go.Proofs.YtmdbhcoioimlmaaGreat
open Go.RowKit
open Fm (Nd)

/-- How many nodes the formulas of texts have. -/
def szL (L : List ByteArray) : Nat := total (lf L) L.length
theorem total_le (L : List ByteArray) : ∀ j, total (lf L) j ≤ 40 * j := by
  intro j
  induction j with
  | zero => rw [total_zero]; omega
  | succ j ih =>
    rcases Nat.lt_or_ge j (lf L).length with h | h
    · rw [total_succ h, lf_at (by rwa [lf_length] at h)]
      have := Fm.pf_len (st L j)
      omega
    · have e : total (lf L) (j + 1) = total (lf L) j := by
        unfold total
        rw [List.take_of_length_le (by omega), List.take_of_length_le h]
      rw [e]; omega
theorem szL_le (L : List ByteArray) : szL L ≤ 40 * L.length := total_le L _
theorem total_step {L : List ByteArray} {j : Nat} (h : j < L.length) : total (lf L) (j + 1) = total (lf L) j + (Fm.pf (st L j)).1.length := by
  rw [total_succ (by rwa [lf_length]), lf_at h]
theorem strs_litQ (a : ByteArray) (W : World) : Strs (W.alloc (.cells #[.string a] 9)) (.slice (some ⟨W.heap.size, 0, none⟩) 1 1) [a] := rd_lit W (.string a) 9

set_option maxHeartbeats 2000000 in
theorem nodesOf_c (v : Value) (L : List ByteArray) (w : World) (h : Strs w v L) (hs : Fits L) (hn : L.length ≤ 1048576) :
    Calls Tryz.prog 46 #[v] w fun e w' => e = .returned (.int .i64 (szL L : Nat)) ∧ Grew w w' := by
  rcases h.open_ with ⟨rfl, rfl⟩ | ⟨b, o, c, rfl, hc, hm, hb, hcell⟩
  · clear h hs
    go_enter Tryz.func46, Tryz.ntmps46
    go_wp2_with fail
    refine wp_loop_rounds 1 ?_; rw [rounds_succ]
    go_wp2_with fail
    go_ret
    exact ⟨rfl, Grew.refl _⟩
  have HC := Lib.hid hcell
  have HS := Lib.hid hs
  have HT := Lib.hid (fun j h => @total_step L j h)
  have HL := Lib.hid (fun j => total_le L j)
  have H0 := Lib.hid (total_zero (lf L))
  unfold szL
  clear hcell h hs
  unfold Fits at HS
  generalize hN : L.length = n at *
  clear hN
  go_enter Tryz.func46, Tryz.ntmps46
  go_wp2_with fail
  go_loopw [3, 8] (fun s i wr => ∃ j : Nat, j ≤ n ∧ i = .int .i64 j ∧ s = .int .i64 (total (lf L) j : Nat) ∧ Grew w wr) (fun _ i _ => n - (intOf i).toNat)
  case atStart => exact ⟨0, Nat.zero_le _, rfl, by rw [H0.out]; rfl, Grew.refl _⟩
  case round =>
    obtain ⟨j, hj, rfl, rfl, hB⟩ := hrel
    by_cases hlt : j < n
    · have k1 := HC.out j hlt _ hB
      have hsz := HS.out j hlt
      have hP := Lib.hid (fun w => parsed_c (st L j) w (by omega))
      have hT := Lib.hid (HT.out j hlt)
      have hl1 := HL.out j
      have hl2 := Fm.pf_len (st L j)
      generalize st L j = x at *
      generalize (Fm.pf x).1 = y at *
      generalize total (lf L) j = t0 at *
      go_wp2_with fail
      refine (hP.out _).mono ?_
      rintro e w1 ⟨u, rfl, ho1, hg1, _⟩
      obtain ⟨A, cc, rfl⟩ := nodes_slice ho1.nodes
      have hB1 := hB.trans hg1
      clear ho1
      generalize y.length = m at *
      go_wp2_with fail
      go_roundw
      case rel => exact ⟨j + 1, by omega, by go_num, by rw [hT.out]; go_num, hB1⟩
      case measure => simp [intOf]; omega
    · obtain rfl : j = n := by omega
      go_wp2_with fail
      go_ret
      exact ⟨rfl, hB⟩
theorem isSmallGoal_c (v v2 : Value) (L K : List ByteArray) (w : World) (h : Strs w v L) (h2 : Strs w v2 K) (hs : Fits L) (hs2 : Fits K) (hn : L.length ≤ 1048576) (hn2 : K.length ≤ 1048576) :
    Calls Tryz.prog 52 #[v, v2] w fun e w' => e = .returned (.bool (decide (szL L + szL K ≤ 20))) ∧ Grew w w' := by
  have K1 := Lib.hid (nodesOf_c v L w h hs hn)
  have K2 := Lib.hid (fun W (hW : Grew w W) => nodesOf_c v2 K W (h2.grew hW) hs2 hn2)
  have b1 := szL_le L
  have b2 := szL_le K
  clear h h2 hs hs2
  generalize szL L = x at *
  generalize szL K = y at *
  have hd : decide (x + y ≤ 20) = decide ((x : Int) + (y : Int) ≤ 20) := by congr 1; apply propext; omega
  rw [hd]
  clear hd
  go_enter Tryz.func52, Tryz.ntmps52
  go_wp2_with fail
  refine (K1.out).mono ?_
  rintro e w1 ⟨rfl, hg1⟩
  go_wp2_with fail
  refine (K2.out _ hg1).mono ?_
  rintro e w2 ⟨rfl, hg2⟩
  go_wp2_with fail
  go_ret
  exact ⟨rfl, hg1.trans hg2⟩
set_option maxHeartbeats 2000000 in
theorem l23Size_c (v : Value) (L : List ByteArray) (w : World) (h : Strs w v L) (hs : Fits L) (hn : L.length ≤ 1048576) :
    Calls Tryz.prog 40 #[v] w fun e w' => e = .returned (.int .i64 (szL L : Nat)) ∧ Grew w w' := by
  have KF := Lib.hid (l22Formulas_c v L w h hs hn)
  have HT := Lib.hid (fun j h => @total_step L j h)
  have HL := Lib.hid (fun j => total_le L j)
  have H0 := Lib.hid (total_zero (lf L))
  have HA := Lib.hid (fun i h => @lf_at L i h)
  have hll := lf_length L
  have HN0 := Lib.hid (fun (h : lf L = []) => (by have := lf_length L; rw [h] at this; simpa using this.symm : L.length = 0))
  unfold szL
  unfold GivesL Lists at KF
  rw [hll] at KF
  clear h hs hll
  generalize hN : L.length = n at *
  clear hN
  go_enter Tryz.func40, Tryz.ntmps40
  go_wp2_with fail
  refine (KF.out).mono ?_
  rintro e w1 ⟨u, rfl, hu, hg1⟩
  rcases hu with ⟨rfl, h0⟩ | ⟨b, o, c, rfl, hc, hm, hb, hcell⟩
  · have hn0 : n = 0 := HN0.out h0
    subst hn0
    go_wp2_with fail
    refine wp_loop_rounds 1 ?_; rw [rounds_succ]
    go_wp2_with fail
    go_ret
    exact ⟨by rw [H0.out]; rfl, hg1⟩
  have HC := Lib.hid hcell
  clear hcell
  go_wp2_with fail
  go_loopw [3, 5] (fun s i wr => ∃ j : Nat, j ≤ n ∧ i = .int .i64 j ∧ s = .int .i64 (total (lf L) j : Nat) ∧ Grew w1 wr) (fun _ i _ => n - (intOf i).toNat)
  case atStart => exact ⟨0, Nat.zero_le _, rfl, by rw [H0.out]; rfl, Grew.refl _⟩
  case round =>
    obtain ⟨j, hj, rfl, rfl, hB⟩ := hrel
    by_cases hlt : j < n
    · obtain ⟨u, k0, hu⟩ := HC.out j hlt
      have k1 := (hB.cell (p := ⟨b, o + j, none⟩) hb).trans k0
      rw [HA.out j hlt] at hu
      have hT := Lib.hid (HT.out j hlt)
      have hl1 := HL.out j
      have hl2 := Fm.pf_len (st L j)
      generalize (Fm.pf (st L j)).1 = y at *
      obtain ⟨A, cc, rfl⟩ := nodes_slice hu
      clear hu k0
      generalize total (lf L) j = t0 at *
      generalize y.length = m at *
      go_wp2_with fail
      go_roundw
      case rel => exact ⟨j + 1, by omega, by go_num, by rw [hT.out]; go_num, hB⟩
      case measure => simp [intOf]; omega
    · obtain rfl : j = n := by omega
      go_wp2_with fail
      go_ret
      exact ⟨rfl, hg1.trans hB⟩
noncomputable def qcode (L : List ByteArray) (s : ByteArray) : Int := if isQ L s = true then (if szL L + szL [s] ≤ 20 then 0 else 3) else 1
theorem fits_one {s : ByteArray} (h : s.size ≤ 1048576) : Fits [s] := fun i hi => by
  obtain rfl : i = 0 := by simpa using hi
  exact h
theorem goalCode_c (v : Value) (L : List ByteArray) (s : ByteArray) (w : World) (h : Strs w v L) (hs : Fits L) (hn : L.length ≤ 1048576) (hsz : s.size ≤ 1048576) :
    Calls Tryz.prog 31 #[v, .string s] w fun e w' => e = .returned (.int .i64 (qcode L s)) ∧ Grew w w' := by
  have K1 := Lib.hid (isSequent_c v L s w h hs hn (by omega))
  have K2 := Lib.hid (fun W (hW : Grew w W) => isSmallGoal_c v _ L [s] (W.alloc (.cells #[.string s] 9)) ((h.grew hW).grew ((Grew.refl W).alloc _)) (strs_litQ s W) hs (fits_one hsz) hn (by simp))
  have hQ : (gp s && (ascP L && decide (L.length ≤ 12))) = isQ L s := rfl
  rw [hQ] at K1
  unfold qcode
  obtain ⟨A, c, rfl⟩ := strs_slice h
  clear h hs hQ
  generalize isQ L s = q at *
  generalize szL L + szL [s] = z at *
  cases q with
  | false =>
    go_enter Tryz.func31, Tryz.ntmps31
    go_wp2_with fail
    refine (K1.out).mono ?_
    rintro e w1 ⟨rfl, hg1⟩
    go_wp2_with fail
    go_ret
    exact ⟨rfl, hg1⟩
  | true =>
    rw [if_pos rfl]
    by_cases hz : z ≤ 20
    · rw [if_pos hz]
      rw [decide_eq_true hz] at K2
      go_enter Tryz.func31, Tryz.ntmps31
      go_wp2_with fail
      refine (K1.out).mono ?_
      rintro e w1 ⟨rfl, hg1⟩
      go_wp2_with fail
      refine (K2.out _ hg1).mono ?_
      rintro e w2 ⟨rfl, hg2⟩
      go_wp2_with fail
      go_ret
      exact ⟨rfl, (hg1.alloc _).trans hg2⟩
    · rw [if_neg hz]
      rw [decide_eq_false hz] at K2
      go_enter Tryz.func31, Tryz.ntmps31
      go_wp2_with fail
      refine (K1.out).mono ?_
      rintro e w1 ⟨rfl, hg1⟩
      go_wp2_with fail
      refine (K2.out _ hg1).mono ?_
      rintro e w2 ⟨rfl, hg2⟩
      go_wp2_with fail
      go_ret
      exact ⟨rfl, (hg1.alloc _).trans hg2⟩
theorem l23Code_c (v : Value) (L : List ByteArray) (s : ByteArray) (w : World) (h : Strs w v L) (hs : Fits L) (hn : L.length ≤ 1048576) (hsz : s.size ≤ 1048576) :
    Calls Tryz.prog 29 #[v, .string s] w fun e w' => e = .returned (.int .i64 (qcode L s)) ∧ Grew w w' := by
  have K1 := Lib.hid (l22Is_c v L s w h hs hn (by omega))
  have K2 := Lib.hid (fun W (hW : Grew w W) => l23Size_c v L W (h.grew hW) hs hn)
  have K3 := Lib.hid (fun W => l23Size_c _ [s] (W.alloc (.cells #[.string s] 9)) (strs_litQ s W) (fits_one hsz) (by simp))
  have hQ : (gp s && (ascP L && decide (L.length ≤ 12))) = isQ L s := rfl
  rw [hQ] at K1
  unfold qcode
  have b1 := szL_le L
  have b2 := szL_le [s]
  simp only [List.length_singleton] at b2
  obtain ⟨A, c, rfl⟩ := strs_slice h
  clear h hs hQ
  generalize isQ L s = q at *
  generalize szL L = x at *
  generalize szL [s] = y at *
  cases q with
  | false =>
    go_enter Tryz.func29, Tryz.ntmps29
    go_wp2_with fail
    refine (K1.out).mono ?_
    rintro e w1 ⟨rfl, hg1⟩
    go_wp2_with fail
    go_ret
    exact ⟨rfl, hg1⟩
  | true =>
    rw [if_pos rfl]
    by_cases hz : x + y ≤ 20
    · rw [if_pos hz]
      go_enter Tryz.func29, Tryz.ntmps29
      go_wp2_with fail
      refine (K1.out).mono ?_
      rintro e w1 ⟨rfl, hg1⟩
      go_wp2_with fail
      refine (K2.out _ hg1).mono ?_
      rintro e w2 ⟨rfl, hg2⟩
      go_wp2_with fail
      refine (K3.out _).mono ?_
      rintro e w3 ⟨rfl, hg3⟩
      go_wp2_with fail
      go_ret
      exact ⟨rfl, ((hg1.trans hg2).alloc _).trans hg3⟩
    · rw [if_neg hz]
      go_enter Tryz.func29, Tryz.ntmps29
      go_wp2_with fail
      refine (K1.out).mono ?_
      rintro e w1 ⟨rfl, hg1⟩
      go_wp2_with fail
      refine (K2.out _ hg1).mono ?_
      rintro e w2 ⟨rfl, hg2⟩
      go_wp2_with fail
      refine (K3.out _).mono ?_
      rintro e w3 ⟨rfl, hg3⟩
      go_wp2_with fail
      go_ret
      exact ⟨rfl, ((hg1.trans hg2).alloc _).trans hg3⟩
end Go.Proofs.YtmdbhcoioimlmaaGreat

/- Intuitionistic consequence by Kripke models; the rules of a terminating search, each an equivalence; a measure. No program is in sight. -/
namespace Go.Proofs.YtmdbhcoioimlmaaGreat
namespace Fm

structure Kr where
  W : Type
  le : W → W → Prop
  val : W → Fin 6 → Prop
  refl : ∀ w, le w w
  trans : ∀ {a b c}, le a b → le b c → le a c
  mono : ∀ {a b v}, le a b → val a v → val b v

namespace Kr
def force (K : Kr) : K.W → Tree → Prop
  | w, .var v => K.val w v
  | _, .fls => False
  | w, .and a b => K.force w a ∧ K.force w b
  | w, .or a b => K.force w a ∨ K.force w b
  | w, .imp a b => ∀ u, K.le w u → K.force u a → K.force u b
  | _, .box _ => False
  | _, .dia _ => False
theorem force_mono (K : Kr) {w u : K.W} (h : K.le w u) : ∀ {a : Tree}, K.force w a → K.force u a := by
  intro a
  induction a with
  | var v => exact K.mono h
  | fls => exact id
  | and a b ha hb => exact fun ⟨h1, h2⟩ => ⟨ha h1, hb h2⟩
  | or a b ha hb => exact fun h1 => h1.elim (fun h => .inl (ha h)) (fun h => .inr (hb h))
  | imp a b _ _ => exact fun h1 v hv => h1 v (K.trans h hv)
  | box a _ => exact id
  | dia a _ => exact id

/-- A new root below the roots of some models. -/
def glue (ι : Type) (M : ι → Kr) (r : ∀ i, (M i).W) (p : Fin 6 → Prop) (hp : ∀ v, p v → ∀ i, (M i).val (r i) v) : Kr where
  W := Option (Σ i, (M i).W)
  le x y := match x, y with
    | none, none => True
    | none, some ⟨i, u⟩ => (M i).le (r i) u
    | some _, none => False
    | some ⟨i, u⟩, some ⟨j, v⟩ => ∃ h : i = j, (M j).le (h ▸ u) v
  val x v := match x with
    | none => p v
    | some ⟨i, u⟩ => (M i).val u v
  refl := by
    intro x
    cases x with
    | none => trivial
    | some x => exact ⟨rfl, (M x.1).refl _⟩
  trans := by
    intro a b c h1 h2
    match a, b, c, h1, h2 with
    | none, none, none, _, _ => trivial
    | none, none, some _, _, h2 => exact h2
    | none, some ⟨i, u⟩, some ⟨j, v⟩, h1, h2 =>
      obtain ⟨rfl, h2⟩ := h2
      exact (M i).trans h1 h2
    | some ⟨i, u⟩, some ⟨j, v⟩, some ⟨k, x⟩, h1, h2 =>
      obtain ⟨rfl, h1⟩ := h1
      obtain ⟨rfl, h2⟩ := h2
      exact ⟨rfl, (M i).trans h1 h2⟩
  mono := by
    intro a b v h1 h2
    match a, b, h1, h2 with
    | none, none, _, h2 => exact h2
    | none, some ⟨i, u⟩, h1, h2 => exact (M i).mono h1 (hp v h2 i)
    | some ⟨i, u⟩, some ⟨j, x⟩, h1, h2 =>
      obtain ⟨rfl, h1⟩ := h1
      exact (M i).mono h1 h2

theorem glue_force {ι : Type} {M : ι → Kr} {r : ∀ i, (M i).W} {p : Fin 6 → Prop} {hp : ∀ v, p v → ∀ i, (M i).val (r i) v} (i : ι) : ∀ (a : Tree) (u : (M i).W), (glue ι M r p hp).force (some ⟨i, u⟩) a ↔ (M i).force u a := by
  intro a
  induction a with
  | var v => intro u; exact Iff.rfl
  | fls => intro u; exact Iff.rfl
  | and a b ha hb => intro u; exact and_congr (ha u) (hb u)
  | or a b ha hb => intro u; exact or_congr (ha u) (hb u)
  | imp a b ha hb =>
    intro u
    constructor
    · intro h v hv h1
      exact (hb v).1 (h (some ⟨i, v⟩) ⟨rfl, hv⟩ ((ha v).2 h1))
    · intro h x hx h1
      match x, hx, h1 with
      | some ⟨j, v⟩, hx, h1 =>
        obtain ⟨rfl, hx⟩ := hx
        exact (hb v).2 (h v hx ((ha v).1 h1))
  | box a _ => intro u; exact Iff.rfl
  | dia a _ => intro u; exact Iff.rfl
end Kr

/-- c follows from the formulas of G. -/
def Ent (G : Tree → Prop) (c : Tree) : Prop := ∀ (K : Kr) (w : K.W), (∀ a, G a → K.force w a) → K.force w c
theorem Ent.congr {G H : Tree → Prop} {c : Tree} (h : ∀ a, G a ↔ H a) : Ent G c ↔ Ent H c := by
  have : G = H := funext fun a => propext (h a)
  rw [this]
theorem Ent.more {G H : Tree → Prop} {c : Tree} (h : ∀ a, G a → H a) (hG : Ent G c) : Ent H c := fun K w hw => hG K w fun a ha => hw a (h a ha)
/-- G with one formula more. -/
def plus (G : Tree → Prop) (x : Tree) : Tree → Prop := fun a => G a ∨ a = x

theorem ent_mem {G : Tree → Prop} {c : Tree} (h : G c) : Ent G c := fun _ _ hw => hw c h
theorem ent_fls {G : Tree → Prop} {c : Tree} (h : G .fls) : Ent G c := fun _ _ hw => (hw .fls h).elim
/-- Formulas x that are forced exactly where those of the list are. -/
theorem ent_swap {R : Tree → Prop} {x c : Tree} {H : Tree → Prop} (h : ∀ (K : Kr) (w : K.W), (∀ a, R a → K.force w a) → (K.force w x ↔ ∀ a, H a → K.force w a)) : Ent (plus R x) c ↔ Ent (fun a => R a ∨ H a) c := by
  constructor
  · intro h1 K w hw
    refine h1 K w fun a ha => ?_
    rcases ha with ha | rfl
    · exact hw a (.inl ha)
    · exact (h K w fun a ha => hw a (.inl ha)).2 fun a ha => hw a (.inr ha)
  · intro h1 K w hw
    refine h1 K w fun a ha => ?_
    rcases ha with ha | ha
    · exact hw a (.inl ha)
    · exact (h K w fun a ha => hw a (.inl ha)).1 (hw x (.inr rfl)) a ha
theorem ent_drop {R : Tree → Prop} {x c : Tree} (h : ∀ (K : Kr) (w : K.W), (∀ a, R a → K.force w a) → K.force w x) : Ent (plus R x) c ↔ Ent R c := by
  constructor
  · intro h1 K w hw
    refine h1 K w fun a ha => ?_
    rcases ha with ha | rfl
    · exact hw a ha
    · exact h K w hw
  · exact Ent.more fun a ha => .inl ha
theorem ent_or_useless {R : Tree → Prop} {x y c : Tree} (h : R x ∨ R y) : Ent (plus R (.or x y)) c ↔ Ent R c :=
  ent_drop fun _ _ hw => h.elim (fun h => .inl (hw _ h)) (fun h => .inr (hw _ h))
theorem ent_imp_useless {R : Tree → Prop} {x y c : Tree} (h : R y) : Ent (plus R (.imp x y)) c ↔ Ent R c :=
  ent_drop fun K _ hw _ hu _ => K.force_mono hu (hw _ h)
theorem ent_fls_imp {R : Tree → Prop} {y c : Tree} : Ent (plus R (.imp .fls y)) c ↔ Ent R c :=
  ent_drop fun _ _ _ _ _ h => h.elim
theorem ent_and {R : Tree → Prop} {x y c : Tree} : Ent (plus R (.and x y)) c ↔ Ent (plus (plus R x) y) c := by
  refine (ent_swap (x := .and x y) (H := fun a => a = x ∨ a = y) fun K w _ => ⟨fun h a ha => ?_, fun h => ⟨h x (.inl rfl), h y (.inr rfl)⟩⟩).trans (Ent.congr fun a => ?_)
  · rcases ha with rfl | rfl
    · exact h.1
    · exact h.2
  · exact or_assoc.symm
theorem ent_or {R : Tree → Prop} {x y c : Tree} : Ent (plus R (.or x y)) c ↔ Ent (plus R x) c ∧ Ent (plus R y) c := by
  constructor
  · intro h
    refine ⟨fun K w hw => h K w fun a ha => ?_, fun K w hw => h K w fun a ha => ?_⟩
    · rcases ha with ha | rfl
      · exact hw a (.inl ha)
      · exact .inl (hw x (.inr rfl))
    · rcases ha with ha | rfl
      · exact hw a (.inl ha)
      · exact .inr (hw y (.inr rfl))
  · intro ⟨h1, h2⟩ K w hw
    rcases hw _ (.inr rfl) with h | h
    · refine h1 K w fun a ha => ?_
      rcases ha with ha | rfl
      · exact hw a (.inl ha)
      · exact h
    · refine h2 K w fun a ha => ?_
      rcases ha with ha | rfl
      · exact hw a (.inl ha)
      · exact h
theorem ent_one {R : Tree → Prop} {x y c : Tree} (h : ∀ (K : Kr) (w : K.W), (∀ a, R a → K.force w a) → (K.force w x ↔ K.force w y)) : Ent (plus R x) c ↔ Ent (plus R y) c :=
  (ent_swap (H := fun a => a = y) fun K w hw => ⟨fun hx a ha => by rw [ha]; exact (h K w hw).1 hx, fun ha => (h K w hw).2 (ha y rfl)⟩)
theorem ent_mp {R : Tree → Prop} {x y c : Tree} (h : R x) : Ent (plus R (.imp x y)) c ↔ Ent (plus R y) c :=
  ent_one fun K w hw => ⟨fun hi => hi w (K.refl w) (hw x h), fun hy _ hu _ => K.force_mono hu hy⟩
theorem ent_and_imp {R : Tree → Prop} {x y z c : Tree} : Ent (plus R (.imp (.and x y) z)) c ↔ Ent (plus R (.imp x (.imp y z))) c :=
  ent_one fun K _ _ => ⟨fun h u hu hx v hv hy => h v (K.trans hu hv) ⟨K.force_mono hv hx, hy⟩, fun h u hu ⟨hx, hy⟩ => h u hu hx u (K.refl u) hy⟩
theorem ent_or_imp {R : Tree → Prop} {x y z c : Tree} : Ent (plus R (.imp (.or x y) z)) c ↔ Ent (plus (plus R (.imp x z)) (.imp y z)) c := by
  refine (ent_swap (x := .imp (.or x y) z) (H := fun a => a = .imp x z ∨ a = .imp y z) fun K w _ => ⟨fun h a ha => ?_, fun h u hu hxy => ?_⟩).trans (Ent.congr fun a => ?_)
  · rcases ha with rfl | rfl
    · exact fun u hu hx => h u hu (.inl hx)
    · exact fun u hu hy => h u hu (.inr hy)
  · rcases hxy with hx | hy
    · exact h _ (.inl rfl) u hu hx
    · exact h _ (.inr rfl) u hu hy
  · exact or_assoc.symm
theorem ent_r_and {G : Tree → Prop} {x y : Tree} : Ent G (.and x y) ↔ Ent G x ∧ Ent G y :=
  ⟨fun h => ⟨fun K w hw => (h K w hw).1, fun K w hw => (h K w hw).2⟩, fun h K w hw => ⟨h.1 K w hw, h.2 K w hw⟩⟩
theorem ent_r_imp {G : Tree → Prop} {x y : Tree} : Ent G (.imp x y) ↔ Ent (plus G x) y := by
  constructor
  · intro h K w hw
    exact h K w (fun a ha => hw a (.inl ha)) w (K.refl w) (hw x (.inr rfl))
  · intro h K w hw u hu hx
    refine h K u fun a ha => ?_
    rcases ha with ha | rfl
    · exact K.force_mono hu (hw a ha)
    · exact hx
theorem ent_r_or1 {G : Tree → Prop} {x y : Tree} (h : Ent G x) : Ent G (.or x y) := fun K w hw => .inl (h K w hw)
theorem ent_r_or2 {G : Tree → Prop} {x y : Tree} (h : Ent G y) : Ent G (.or x y) := fun K w hw => .inr (h K w hw)
/-- The rule for (x>y)>z is sound. -/
theorem ent_imp_imp {R : Tree → Prop} {x y z c : Tree} (h1 : Ent (plus (plus R (.imp y z)) x) y) (h2 : Ent (plus R z) c) : Ent (plus R (.imp (.imp x y) z)) c := by
  intro K w hw
  have hz : K.force w z := by
    refine hw _ (.inr rfl) w (K.refl w) fun u hu hx => ?_
    refine h1 K u fun a ha => ?_
    rcases ha with (ha | rfl) | rfl
    · exact K.force_mono hu (hw a (.inl ha))
    · intro v hv hy
      exact hw _ (.inr rfl) v (K.trans hu hv) fun s hs _ => K.force_mono hs hy
    · exact hx
  refine h2 K w fun a ha => ?_
  rcases ha with ha | rfl
  · exact hw a (.inl ha)
  · exact hz

theorem not_ent {G : Tree → Prop} {c : Tree} (h : ¬ Ent G c) : ∃ (K : Kr) (w : K.W), (∀ a, G a → K.force w a) ∧ ¬ K.force w c := by
  by_cases hx : ∃ (K : Kr) (w : K.W), (∀ a, G a → K.force w a) ∧ ¬ K.force w c
  · exact hx
  · refine absurd (fun K w hw => ?_) h
    by_cases hc : K.force w c
    · exact hc
    · exact absurd ⟨K, w, hw, hc⟩ hx

/-- A formula to which no rule of the left side applies that loses nothing. -/
def Stuck (G : Tree → Prop) (a : Tree) : Prop := (∃ v, a = .var v) ∨ (∃ v y, a = .imp (.var v) y ∧ ¬ G (.var v)) ∨ (∃ x y z, a = .imp (.imp x y) z)

/-- Where every formula is stuck, a consequence comes by one of the ways. -/
theorem ent_ways {G : Tree → Prop} {c : Tree} (hs : ∀ a, G a → Stuck G a) (hc : ¬ G c) (hk : (∃ v, c = .var v) ∨ c = .fls ∨ ∃ x y, c = .or x y) (h : Ent G c) :
    (∃ x y, c = .or x y ∧ (Ent G x ∨ Ent G y)) ∨ ∃ x y z, G (.imp (.imp x y) z) ∧ Ent (fun a => (G a ∧ a ≠ .imp (.imp x y) z) ∨ a = .imp y z ∨ a = x) y ∧ Ent (fun a => (G a ∧ a ≠ .imp (.imp x y) z) ∨ a = z) c := by
  by_cases hno : (∃ x y, c = .or x y ∧ (Ent G x ∨ Ent G y)) ∨ ∃ x y z, G (.imp (.imp x y) z) ∧ Ent (fun a => (G a ∧ a ≠ .imp (.imp x y) z) ∨ a = .imp y z ∨ a = x) y ∧ Ent (fun a => (G a ∧ a ≠ .imp (.imp x y) z) ∨ a = z) c
  · exact hno
  exfalso
  -- the right premise of every such implication follows, since its conclusion does
  have hr : ∀ x y z, G (.imp (.imp x y) z) → Ent (fun a => (G a ∧ a ≠ .imp (.imp x y) z) ∨ a = z) c := by
    intro x y z hG K w hw
    refine h K w fun a ha => ?_
    by_cases e : a = .imp (.imp x y) z
    · subst e
      exact fun u hu _ => K.force_mono hu (hw z (.inr rfl))
    · exact hw a (.inl ⟨ha, e⟩)
  have hl : ∀ x y z, G (.imp (.imp x y) z) → ¬ Ent (fun a => (G a ∧ a ≠ .imp (.imp x y) z) ∨ a = .imp y z ∨ a = x) y := fun x y z hG hE => hno (.inr ⟨x, y, z, hG, hE, hr x y z hG⟩)
  -- the models: one for each implication of an implication, two for a disjunction
  let I := { q : Tree × Tree × Tree // G (.imp (.imp q.1 q.2.1) q.2.2) }
  have hm1 : ∀ i : I, ∃ (K : Kr) (w : K.W), (∀ a, ((G a ∧ a ≠ .imp (.imp i.1.1 i.1.2.1) i.1.2.2) ∨ a = .imp i.1.2.1 i.1.2.2 ∨ a = i.1.1) → K.force w a) ∧ ¬ K.force w i.1.2.1 := fun i => not_ent (hl _ _ _ i.2)
  let J := { q : Tree × Tree // c = .or q.1 q.2 } × Bool
  have hm2 : ∀ j : J, ∃ (K : Kr) (w : K.W), (∀ a, G a → K.force w a) ∧ ¬ K.force w (if j.2 then j.1.1.1 else j.1.1.2) := by
    rintro ⟨⟨⟨x, y⟩, hq⟩, b⟩
    cases b with
    | true => exact not_ent fun hE => hno (.inl ⟨x, y, hq, .inl hE⟩)
    | false => exact not_ent fun hE => hno (.inl ⟨x, y, hq, .inr hE⟩)
  let M : I ⊕ J → Kr := fun s => match s with
    | .inl i => Classical.choose (hm1 i)
    | .inr j => Classical.choose (hm2 j)
  let r : ∀ s : I ⊕ J, (M s).W := fun s => match s with
    | .inl i => Classical.choose (Classical.choose_spec (hm1 i))
    | .inr j => Classical.choose (Classical.choose_spec (hm2 j))
  have s1 : ∀ i : I, (∀ a, ((G a ∧ a ≠ .imp (.imp i.1.1 i.1.2.1) i.1.2.2) ∨ a = .imp i.1.2.1 i.1.2.2 ∨ a = i.1.1) → (M (.inl i)).force (r (.inl i)) a) ∧ ¬ (M (.inl i)).force (r (.inl i)) i.1.2.1 := fun i => Classical.choose_spec (Classical.choose_spec (hm1 i))
  have s2 : ∀ j : J, (∀ a, G a → (M (.inr j)).force (r (.inr j)) a) ∧ ¬ (M (.inr j)).force (r (.inr j)) (if j.2 then j.1.1.1 else j.1.1.2) := fun j => Classical.choose_spec (Classical.choose_spec (hm2 j))
  -- every model's root forces all of G
  have hall : ∀ (s : I ⊕ J) a, G a → (M s).force (r s) a := by
    intro s a ha
    match s with
    | .inr j => exact (s2 j).1 a ha
    | .inl i =>
      by_cases e : a = .imp (.imp i.1.1 i.1.2.1) i.1.2.2
      · rw [e]
        intro u hu hxy
        have hx := (s1 i).1 i.1.1 (.inr (.inr rfl))
        have hyz := (s1 i).1 (.imp i.1.2.1 i.1.2.2) (.inr (.inl rfl))
        exact hyz u hu (hxy u ((M (.inl i)).refl u) ((M (.inl i)).force_mono hu hx))
      · exact (s1 i).1 a (.inl ⟨ha, e⟩)
  let N := Kr.glue (I ⊕ J) M r (fun v => G (.var v)) (fun v hv s => hall s (.var v) hv)
  have hsome : ∀ (s : I ⊕ J) a, N.force (some ⟨s, r s⟩) a ↔ (M s).force (r s) a := fun s a => Kr.glue_force s a (r s)
  have hup : ∀ s : I ⊕ J, N.le none (some ⟨s, r s⟩) := fun s => (M s).refl (r s)
  -- the root forces all of G
  have hroot : ∀ a, G a → N.force none a := by
    intro a ha
    -- above the root, all of G is forced
    have habove : ∀ s u, (M s).le (r s) u → (M s).force u a := fun s u hu => (M s).force_mono hu (hall s a ha)
    rcases hs a ha with ⟨v, rfl⟩ | ⟨v, y, rfl, hv⟩ | ⟨x, y, z, rfl⟩
    · exact ha
    · intro w hw hp
      match w, hw, hp with
      | none, _, hp => exact absurd hp hv
      | some ⟨s, u⟩, hw, hp =>
        have h1 := habove s u hw
        exact (Kr.glue_force s y u).2 (h1 u ((M s).refl u) ((Kr.glue_force s (.var v) u).1 hp))
    · intro w hw hp
      match w, hw, hp with
      | none, _, hp =>
        have i : I := ⟨(x, y, z), ha⟩
        exfalso
        have hy := hp (some ⟨.inl ⟨(x, y, z), ha⟩, r (.inl ⟨(x, y, z), ha⟩)⟩) (hup (.inl ⟨(x, y, z), ha⟩)) ((hsome _ x).2 ((s1 ⟨(x, y, z), ha⟩).1 x (.inr (.inr rfl))))
        exact (s1 ⟨(x, y, z), ha⟩).2 ((hsome _ y).1 hy)
      | some ⟨s, u⟩, hw, hp =>
        have h1 := habove s u hw
        exact (Kr.glue_force s z u).2 (h1 u ((M s).refl u) ((Kr.glue_force s (.imp x y) u).1 hp))
  have hcf := h N none hroot
  rcases hk with ⟨v, rfl⟩ | rfl | ⟨x, y, rfl⟩
  · exact hc hcf
  · exact hcf
  · rcases hcf with hx | hy
    · have h1 := N.force_mono (hup (.inr (⟨(x, y), rfl⟩, true))) hx
      exact (s2 (⟨(x, y), rfl⟩, true)).2 ((hsome _ _).1 h1)
    · have h1 := N.force_mono (hup (.inr (⟨(x, y), rfl⟩, false))) hy
      exact (s2 (⟨(x, y), rfl⟩, false)).2 ((hsome _ _).1 h1)
end Fm
end Go.Proofs.YtmdbhcoioimlmaaGreat

/- Plain formulas of the size of a text, and their texts. No program is in sight. -/
namespace Go.Proofs.YtmdbhcoioimlmaaGreat
open Go.RowKit

/-- The text of a formula. -/
def tx (A : Fm.Tree) : ByteArray := bs (Fm.txt A 0)
/-- A formula of the size of a text. -/
def FmOk (A : Fm.Tree) : Prop := (Fm.enc A).length ≤ 40 ∧ anyP isBD (Fm.enc A) = false
theorem tx_pf {A : Fm.Tree} (h : (Fm.enc A).length ≤ 40) : Fm.pf (tx A) = (Fm.enc A, 0, 0) := Fm.pf_txt A (by have := Fm.txt_len A 0; omega) h
theorem tx_size {A : Fm.Tree} (h : (Fm.enc A).length ≤ 40) : (tx A).size ≤ 160 := by
  unfold tx
  rw [bs_size]
  have := Fm.txt_len A 0
  omega
theorem tx_inj {A B : Fm.Tree} (ha : (Fm.enc A).length ≤ 40) (hb : (Fm.enc B).length ≤ 40) (h : tx A = tx B) : A = B := by
  have h1 := tx_pf ha
  rw [h, tx_pf hb] at h1
  simp only [Prod.mk.injEq, and_true] at h1
  exact (enc_inj h1).symm
theorem gp_tx {A : Fm.Tree} (h : FmOk A) : gp (tx A) = true := by
  unfold gp
  rw [gd_true ⟨A, tx_pf h.1, rfl⟩, tx_pf h.1]
  simp [h.2]
theorem gp_tree {s : ByteArray} (h : gp s = true) : ∃ A, FmOk A ∧ tx A = s := by
  unfold gp at h
  simp only [Bool.and_eq_true, Bool.not_eq_true'] at h
  have hg : IsGood s := by
    by_cases hg : IsGood s
    · exact hg
    · rw [gd_false hg] at h; exact absurd h.1 (by simp)
  obtain ⟨A, h1, h2⟩ := hg
  have hl := Fm.pf_len s
  rw [h1] at hl h
  exact ⟨A, ⟨hl, h.2⟩, h2⟩
theorem tx_ne (A : Fm.Tree) : (tx A).toList.isEmpty = false := by
  have h1 := Fm.txt_pos A 0
  unfold tx
  cases he : Fm.txt A 0 with
  | nil => rw [he] at h1; simp at h1
  | cons x xs =>
    have := Lib.bytes_beq_iff (bs (x :: xs)) ByteArray.empty
    cases hq : (bs (x :: xs)).toList.isEmpty with
    | false => rfl
    | true =>
      exfalso
      have h2 : (bs (x :: xs)).toList = ByteArray.empty.toList := by
        rw [List.isEmpty_iff] at hq
        rw [hq]; exact (by unfold ByteArray.toList ByteArray.toList.loop; rfl : ([] : List UInt8) = ByteArray.empty.toList)
      have h3 := this.1 (by rw [h2]; simp)
      have h4 := congrArg ByteArray.size h3
      rw [bs_size] at h4
      simp at h4

/-- The formula that a text is the text of. -/
noncomputable def fo (s : ByteArray) : Fm.Tree := @dite _ (gp s = true) (Classical.propDecidable _) (fun h => Classical.choose (gp_tree h)) (fun _ => .fls)
theorem fo_ok {s : ByteArray} (h : gp s = true) : FmOk (fo s) ∧ tx (fo s) = s := by
  unfold fo
  rw [dif_pos h]
  exact Classical.choose_spec (gp_tree h)

/-- The formula, if it has not too many nodes. -/
def smallF (A : Fm.Tree) : Option Fm.Tree := if (Fm.enc A).length ≤ 40 then some A else none
theorem anyP_mem {p : Int → Int → Bool} {xs : List Fm.Nd} : anyP p xs = false ↔ ∀ x ∈ xs, p x.1 x.2 = false := by
  constructor
  · intro h x hx
    obtain ⟨i, hi, rfl⟩ := List.getElem_of_mem hx
    cases hq : p xs[i].1 xs[i].2 with
    | false => rfl
    | true =>
      have := anyP_at (p := p) hi (by simpa [kd, sy, List.getD, hi] using hq)
      rw [this] at h; cases h
  · intro h
    apply anyP_no
    intro i hi
    have := h xs[i] (List.getElem_mem hi)
    simpa [kd, sy, List.getD, hi] using this
theorem FmOk.bin {k : Int} {A B : Fm.Tree} {C : Fm.Tree} (he : Fm.enc C = (k, 0) :: (Fm.enc A ++ Fm.enc B)) (h : FmOk C) : FmOk A ∧ FmOk B := by
  obtain ⟨h1, h2⟩ := h
  rw [he] at h1 h2
  rw [anyP_mem] at h2
  simp only [List.length_cons, List.length_append] at h1
  exact ⟨⟨by omega, anyP_mem.2 fun x hx => h2 x (by simp [hx])⟩, ⟨by omega, anyP_mem.2 fun x hx => h2 x (by simp [hx])⟩⟩
theorem FmOk.join {k : Int} {A B : Fm.Tree} {C : Fm.Tree} (he : Fm.enc C = (k, 0) :: (Fm.enc A ++ Fm.enc B)) (hk : k ≠ 5 ∧ k ≠ 6) (hA : FmOk A) (hB : FmOk B) (hl : (Fm.enc C).length ≤ 40) : FmOk C := by
  refine ⟨hl, anyP_mem.2 ?_⟩
  rw [he]
  intro x hx
  simp only [List.mem_cons, List.mem_append] at hx
  rcases hx with rfl | hx | hx
  · unfold isBD
    have h5 : (k == 5) = false := by simpa using hk.1
    have h6 : (k == 6) = false := by simpa using hk.2
    show (k == 5 || k == 6) = false
    rw [h5, h6]; rfl
  · exact anyP_mem.1 hA.2 x hx
  · exact anyP_mem.1 hB.2 x hx
theorem smallF_ok {A B : Fm.Tree} (h : smallF A = some B) : A = B ∧ (Fm.enc B).length ≤ 40 := by
  unfold smallF at h
  split at h
  · simp at h; subst h; exact ⟨rfl, ‹_›⟩
  · cases h
theorem fmOk_and {p q : Fm.Tree} (h : FmOk (.and p q)) : FmOk p ∧ FmOk q := FmOk.bin (k := 2) rfl h
theorem fmOk_or {p q : Fm.Tree} (h : FmOk (.or p q)) : FmOk p ∧ FmOk q := FmOk.bin (k := 3) rfl h
theorem fmOk_imp {p q : Fm.Tree} (h : FmOk (.imp p q)) : FmOk p ∧ FmOk q := FmOk.bin (k := 4) rfl h
theorem small_and {p q B : Fm.Tree} (hp : FmOk p) (hq : FmOk q) (h : smallF (.and p q) = some B) : FmOk B := by
  obtain ⟨rfl, hl⟩ := smallF_ok h
  exact FmOk.join (k := 2) rfl (by decide) hp hq hl
theorem small_or {p q B : Fm.Tree} (hp : FmOk p) (hq : FmOk q) (h : smallF (.or p q) = some B) : FmOk B := by
  obtain ⟨rfl, hl⟩ := smallF_ok h
  exact FmOk.join (k := 3) rfl (by decide) hp hq hl
theorem small_imp {p q B : Fm.Tree} (hp : FmOk p) (hq : FmOk q) (h : smallF (.imp p q) = some B) : FmOk B := by
  obtain ⟨rfl, hl⟩ := smallF_ok h
  exact FmOk.join (k := 4) rfl (by decide) hp hq hl
end Go.Proofs.YtmdbhcoioimlmaaGreat

/- The rules of a search over lists of formulas: what follows, and what grows smaller. No program is in sight. -/
namespace Go.Proofs.YtmdbhcoioimlmaaGreat
open Go.RowKit
open Fm (Tree Ent)

noncomputable def dc (p : Prop) : Bool := @decide p (Classical.propDecidable _)
theorem dc_true {p : Prop} (h : p) : dc p = true := @decide_eq_true _ (Classical.propDecidable _) h
theorem dc_false {p : Prop} (h : ¬ p) : dc p = false := @decide_eq_false _ (Classical.propDecidable _) h
theorem of_dc {p : Prop} (h : dc p = true) : p := @of_decide_eq_true _ (Classical.propDecidable _) h
theorem not_dc {p : Prop} (h : dc p = false) : ¬ p := @of_decide_eq_false _ (Classical.propDecidable _) h
theorem dc_congr {p q : Prop} (h : p ↔ q) : dc p = dc q := by rw [propext h]
theorem dc_and (p q : Prop) : dc (p ∧ q) = (dc p && dc q) := by
  by_cases hp : p
  · by_cases hq : q
    · rw [dc_true hp, dc_true hq, dc_true ⟨hp, hq⟩]; rfl
    · rw [dc_true hp, dc_false hq, dc_false fun h => hq h.2]; rfl
  · rw [dc_false hp, dc_false fun h => hp h.1]; rfl

/-- The formula follows from those of the list. -/
def EntL (L : List Tree) (c : Tree) : Prop := Ent (fun a => a ∈ L) c
theorem entL_congr {L K : List Tree} {c : Tree} (h : ∀ a, a ∈ L ↔ a ∈ K) : EntL L c ↔ EntL K c := Ent.congr h
theorem entL_more {L K : List Tree} {c : Tree} (h : ∀ a, a ∈ L → a ∈ K) (hL : EntL L c) : EntL K c := Ent.more h hL
/-- L is R with one formula more. -/
def Adds (L R : List Tree) (x : Tree) : Prop := ∀ b, b ∈ L ↔ b ∈ R ∨ b = x
theorem adds_ent {L R : List Tree} {x c : Tree} (h : Adds L R x) : EntL L c ↔ Ent (Fm.plus (fun b => b ∈ R) x) c := Ent.congr h
/-- L is R with two formulas more. -/
def Adds2 (L R : List Tree) (x y : Tree) : Prop := ∀ b, b ∈ L ↔ b ∈ R ∨ b = x ∨ b = y
theorem adds2_ent {L R : List Tree} {x y c : Tree} (h : Adds2 L R x y) : EntL L c ↔ Ent (Fm.plus (Fm.plus (fun b => b ∈ R) x) y) c :=
  Ent.congr fun b => (h b).trans or_assoc.symm

theorem el_mem {L : List Tree} {c : Tree} (h : c ∈ L) : EntL L c := Fm.ent_mem h
theorem el_fls {L : List Tree} {c : Tree} (h : Tree.fls ∈ L) : EntL L c := Fm.ent_fls h
theorem el_or_useless {L R : List Tree} {x y c : Tree} (ha : Adds L R (.or x y)) (h : x ∈ R ∨ y ∈ R) : EntL L c ↔ EntL R c := (adds_ent ha).trans (Fm.ent_or_useless h)
theorem el_imp_useless {L R : List Tree} {x y c : Tree} (ha : Adds L R (.imp x y)) (h : y ∈ R) : EntL L c ↔ EntL R c := (adds_ent ha).trans (Fm.ent_imp_useless h)
theorem el_fls_imp {L R : List Tree} {y c : Tree} (ha : Adds L R (.imp .fls y)) : EntL L c ↔ EntL R c := (adds_ent ha).trans Fm.ent_fls_imp
theorem el_and {L R K : List Tree} {x y c : Tree} (ha : Adds L R (.and x y)) (hk : Adds2 K R x y) : EntL L c ↔ EntL K c := (adds_ent ha).trans (Fm.ent_and.trans (adds2_ent hk).symm)
theorem el_or {L R K1 K2 : List Tree} {x y c : Tree} (ha : Adds L R (.or x y)) (h1 : Adds K1 R x) (h2 : Adds K2 R y) : EntL L c ↔ EntL K1 c ∧ EntL K2 c :=
  (adds_ent ha).trans (Fm.ent_or.trans (and_congr (adds_ent h1).symm (adds_ent h2).symm))
theorem el_and_imp {L R K : List Tree} {x y z c : Tree} (ha : Adds L R (.imp (.and x y) z)) (hk : Adds K R (.imp x (.imp y z))) : EntL L c ↔ EntL K c := (adds_ent ha).trans (Fm.ent_and_imp.trans (adds_ent hk).symm)
theorem el_or_imp {L R K : List Tree} {x y z c : Tree} (ha : Adds L R (.imp (.or x y) z)) (hk : Adds2 K R (.imp x z) (.imp y z)) : EntL L c ↔ EntL K c := (adds_ent ha).trans (Fm.ent_or_imp.trans (adds2_ent hk).symm)
theorem el_mp {L R K : List Tree} {x y c : Tree} (ha : Adds L R (.imp x y)) (hx : x ∈ R) (hk : Adds K R y) : EntL L c ↔ EntL K c := (adds_ent ha).trans ((Fm.ent_mp hx).trans (adds_ent hk).symm)
theorem el_r_and {L : List Tree} {x y : Tree} : EntL L (.and x y) ↔ EntL L x ∧ EntL L y := Fm.ent_r_and
theorem el_r_imp {L K : List Tree} {x y : Tree} (hk : Adds K L x) : EntL L (.imp x y) ↔ EntL K y := Fm.ent_r_imp.trans (adds_ent hk).symm
theorem el_r_or1 {L : List Tree} {x y : Tree} (h : EntL L x) : EntL L (.or x y) := Fm.ent_r_or1 h
theorem el_r_or2 {L : List Tree} {x y : Tree} (h : EntL L y) : EntL L (.or x y) := Fm.ent_r_or2 h
theorem el_imp_imp {L R K1 K2 : List Tree} {x y z c : Tree} (ha : Adds L R (.imp (.imp x y) z)) (h1 : Adds2 K1 R (.imp y z) x) (h2 : Adds K2 R z) (e1 : EntL K1 y) (e2 : EntL K2 c) : EntL L c :=
  (adds_ent ha).2 (Fm.ent_imp_imp ((adds2_ent h1).1 e1) ((adds_ent h2).1 e2))

/-- No rule of the left side applies to a formula that loses nothing. -/
def StuckL (L : List Tree) (a : Tree) : Prop := Fm.Stuck (fun b => b ∈ L) a
/-- Where every formula is stuck, a consequence comes by one of the ways. -/
theorem el_ways {L : List Tree} {c : Tree} (hs : ∀ a, a ∈ L → StuckL L a) (hc : ¬ c ∈ L) (hk : (∃ v, c = .var v) ∨ c = .fls ∨ ∃ x y, c = .or x y) (h : EntL L c) :
    (∃ x y, c = .or x y ∧ (EntL L x ∨ EntL L y)) ∨ ∃ x y z, (Tree.imp (.imp x y) z) ∈ L ∧
      ∀ R, (∀ b, b ∈ L → b ≠ .imp (.imp x y) z → b ∈ R) → (∀ K, Adds2 K R (.imp y z) x → EntL K y) ∧ ∀ K, Adds K R z → EntL K c := by
  rcases Fm.ent_ways hs hc hk h with h1 | ⟨x, y, z, h1, h2, h3⟩
  · exact .inl h1
  · refine .inr ⟨x, y, z, h1, fun R hR => ⟨fun K hK => ?_, fun K hK => ?_⟩⟩
    · refine Ent.more (fun b hb => (hK b).2 ?_) h2
      rcases hb with ⟨hb, hne⟩ | hb | hb
      · exact .inl (hR b hb hne)
      · exact .inr (.inl hb)
      · exact .inr (.inr hb)
    · refine Ent.more (fun b hb => (hK b).2 ?_) h3
      rcases hb with ⟨hb, hne⟩ | hb
      · exact .inl (hR b hb hne)
      · exact .inr hb

/-! What grows smaller. -/
def wt : Tree → Nat
  | .var _ => 1
  | .fls => 1
  | .and a b => wt a + wt b + 2
  | .or a b => wt a + wt b + 1
  | .imp a b => wt a + wt b + 1
  | .box a => wt a + 1
  | .dia a => wt a + 1
theorem wt_pos (t : Tree) : 1 ≤ wt t := by cases t <;> simp [wt]
def nn (t : Tree) : Nat := (Fm.enc t).length
theorem nn_pos (t : Tree) : 1 ≤ nn t := Fm.enc_pos t
theorem nn_and (a b : Tree) : nn (.and a b) = nn a + nn b + 1 := by simp [nn, Fm.enc]
theorem nn_or (a b : Tree) : nn (.or a b) = nn a + nn b + 1 := by simp [nn, Fm.enc]
theorem nn_imp (a b : Tree) : nn (.imp a b) = nn a + nn b + 1 := by simp [nn, Fm.enc]
def tot (f : Tree → Nat) (L : List Tree) : Nat := (L.map f).sum
theorem tot_nil (f : Tree → Nat) : tot f [] = 0 := rfl
theorem tot_cons (f : Tree → Nat) (a : Tree) (L : List Tree) : tot f (a :: L) = f a + tot f L := by simp [tot]
theorem tot_app (f : Tree → Nat) (L K : List Tree) : tot f (L ++ K) = tot f L + tot f K := by simp [tot]
theorem tot_one (f : Tree → Nat) (a : Tree) : tot f [a] = f a := by simp [tot]
theorem tot_two (f : Tree → Nat) (a b : Tree) : tot f [a, b] = f a + f b := by simp [tot]
theorem tot_perm {f : Tree → Nat} {L K : List Tree} (h : L.Perm K) : tot f L = tot f K := (h.map f).sum_nat
theorem tot_sub {f : Tree → Nat} {L K : List Tree} (h : L.Sublist K) : tot f L ≤ tot f K := by
  induction h with
  | slnil => exact Nat.le_refl _
  | cons a _ ih => rw [tot_cons]; omega
  | cons_cons a _ ih => rw [tot_cons, tot_cons]; omega
def f4 (t : Tree) : Nat := 4 ^ wt t
def f2 (t : Tree) : Nat := 2 ^ nn t
def mu (L : List Tree) (c : Tree) : Nat := tot f4 L + f4 c
def nu (L : List Tree) (c : Tree) : Nat := tot f2 L + f2 c
theorem p4_lt {a b : Nat} (h : a < b) : 4 * 4 ^ a ≤ 4 ^ b := by
  obtain ⟨k, rfl⟩ : ∃ k, b = a + 1 + k := ⟨b - a - 1, by omega⟩
  rw [Nat.pow_add, Nat.pow_succ]
  have := Nat.pow_pos (n := k) (show 0 < 4 by omega)
  calc 4 * 4 ^ a = 4 ^ a * 4 * 1 := by omega
    _ ≤ 4 ^ a * 4 * 4 ^ k := Nat.mul_le_mul_left _ this
theorem p4_pos (a : Nat) : 1 ≤ 4 ^ a := Nat.pow_pos (by omega)
theorem p2_lt {a b : Nat} (h : a < b) : 2 * 2 ^ a ≤ 2 ^ b := by
  obtain ⟨k, rfl⟩ : ∃ k, b = a + 1 + k := ⟨b - a - 1, by omega⟩
  rw [Nat.pow_add, Nat.pow_succ]
  have := Nat.pow_pos (n := k) (show 0 < 2 by omega)
  calc 2 * 2 ^ a = 2 ^ a * 2 * 1 := by omega
    _ ≤ 2 ^ a * 2 * 2 ^ k := Nat.mul_le_mul_left _ this
theorem p2_lt2 {a b : Nat} (h : a + 2 ≤ b) : 4 * 2 ^ a ≤ 2 ^ b := by
  have h1 := p2_lt (show a < a + 1 by omega)
  have h2 := p2_lt (show a + 1 < b by omega)
  omega
theorem p2_pos (a : Nat) : 1 ≤ 2 ^ a := Nat.pow_pos (by omega)

theorem f4_pos (a : Tree) : 1 ≤ f4 a := p4_pos _
theorem f4_and (a b : Tree) : f4 a + f4 b < f4 (.and a b) := by
  have h1 := p4_lt (show wt a < wt (.and a b) by simp only [wt]; omega)
  have h2 := p4_lt (show wt b < wt (.and a b) by simp only [wt]; omega)
  have := f4_pos a
  unfold f4 at *; omega
theorem f4_or (a b : Tree) : f4 a + f4 b < f4 (.or a b) := by
  have h1 := p4_lt (show wt a < wt (.or a b) by have := wt_pos b; simp only [wt]; omega)
  have h2 := p4_lt (show wt b < wt (.or a b) by have := wt_pos a; simp only [wt]; omega)
  have := f4_pos a
  unfold f4 at *; omega
theorem f4_imp (a b : Tree) : f4 a + f4 b < f4 (.imp a b) := by
  have h1 := p4_lt (show wt a < wt (.imp a b) by have := wt_pos b; simp only [wt]; omega)
  have h2 := p4_lt (show wt b < wt (.imp a b) by have := wt_pos a; simp only [wt]; omega)
  have := f4_pos a
  unfold f4 at *; omega
theorem f4_and_imp (x y z : Tree) : f4 (.imp x (.imp y z)) < f4 (.imp (.and x y) z) := by
  have h1 := p4_lt (show wt (.imp x (.imp y z)) < wt (.imp (.and x y) z) by simp only [wt]; omega)
  have := f4_pos (.imp x (.imp y z))
  unfold f4 at *; omega
theorem f4_or_imp (x y z : Tree) : f4 (.imp x z) + f4 (.imp y z) < f4 (.imp (.or x y) z) := by
  have h1 := p4_lt (show wt (.imp x z) < wt (.imp (.or x y) z) by have := wt_pos y; simp only [wt]; omega)
  have h2 := p4_lt (show wt (.imp y z) < wt (.imp (.or x y) z) by have := wt_pos x; simp only [wt]; omega)
  have := f4_pos (.imp x z)
  unfold f4 at *; omega
theorem f4_imp_imp (x y z : Tree) : f4 (.imp y z) + f4 x + f4 y < f4 (.imp (.imp x y) z) := by
  have h1 := p4_lt (show wt (.imp y z) < wt (.imp (.imp x y) z) by have := wt_pos x; simp only [wt]; omega)
  have h2 := p4_lt (show wt x < wt (.imp (.imp x y) z) by have := wt_pos y; simp only [wt]; omega)
  have h3 := p4_lt (show wt y < wt (.imp (.imp x y) z) by have := wt_pos x; simp only [wt]; omega)
  have := f4_pos x
  unfold f4 at *; omega
theorem f4_imp_imp' (x y z : Tree) : f4 (.imp y z) + f4 (.imp x y) < f4 (.imp (.imp x y) z) := by
  have h1 := p4_lt (show wt (.imp y z) < wt (.imp (.imp x y) z) by have := wt_pos x; simp only [wt]; omega)
  have h2 := p4_lt (show wt (.imp x y) < wt (.imp (.imp x y) z) by have := wt_pos z; simp only [wt]; omega)
  have := f4_pos (.imp x y)
  unfold f4 at *; omega
theorem f2_pos (a : Tree) : 1 ≤ f2 a := p2_pos _
theorem f2_and (a b : Tree) : f2 a + f2 b ≤ f2 (.and a b) := by
  have h1 := p2_lt (show nn a < nn (.and a b) by rw [nn_and]; omega)
  have h2 := p2_lt (show nn b < nn (.and a b) by rw [nn_and]; omega)
  unfold f2 at *; omega
theorem f2_or (a b : Tree) : f2 a + f2 b ≤ f2 (.or a b) := by
  have h1 := p2_lt (show nn a < nn (.or a b) by rw [nn_or]; omega)
  have h2 := p2_lt (show nn b < nn (.or a b) by rw [nn_or]; omega)
  unfold f2 at *; omega
theorem f2_imp (a b : Tree) : f2 a + f2 b ≤ f2 (.imp a b) := by
  have h1 := p2_lt (show nn a < nn (.imp a b) by rw [nn_imp]; omega)
  have h2 := p2_lt (show nn b < nn (.imp a b) by rw [nn_imp]; omega)
  unfold f2 at *; omega
theorem f2_and_imp (x y z : Tree) : f2 (.imp x (.imp y z)) = f2 (.imp (.and x y) z) := by
  unfold f2
  congr 1
  simp only [nn_imp, nn_and]; omega
theorem f2_or_imp (x y z : Tree) : f2 (.imp x z) + f2 (.imp y z) ≤ f2 (.imp (.or x y) z) := by
  have h1 := p2_lt (show nn (.imp x z) < nn (.imp (.or x y) z) by simp only [nn_imp, nn_or]; omega)
  have h2 := p2_lt (show nn (.imp y z) < nn (.imp (.or x y) z) by simp only [nn_imp, nn_or]; omega)
  unfold f2 at *; omega
theorem f2_imp_imp (x y z : Tree) : f2 (.imp y z) + f2 x + f2 y ≤ f2 (.imp (.imp x y) z) := by
  have h1 := p2_lt2 (show nn (.imp y z) + 2 ≤ nn (.imp (.imp x y) z) by have := nn_pos x; simp only [nn_imp]; omega)
  have h2 := p2_lt2 (show nn x + 2 ≤ nn (.imp (.imp x y) z) by simp only [nn_imp]; omega)
  have h3 := p2_lt2 (show nn y + 2 ≤ nn (.imp (.imp x y) z) by simp only [nn_imp]; omega)
  unfold f2 at *; omega
theorem f2_imp_imp' (x y z : Tree) : f2 (.imp y z) + f2 (.imp x y) ≤ f2 (.imp (.imp x y) z) := by
  have h1 := p2_lt (show nn (.imp y z) < nn (.imp (.imp x y) z) by simp only [nn_imp]; omega)
  have h2 := p2_lt (show nn (.imp x y) < nn (.imp (.imp x y) z) by simp only [nn_imp]; omega)
  unfold f2 at *; omega
theorem len_tot (L : List Tree) : L.length ≤ tot f2 L := by
  induction L with
  | nil => exact Nat.le_refl _
  | cons a L ih => rw [tot_cons]; have := f2_pos a; simp only [List.length_cons]; omega
theorem len_nu (L : List Tree) (c : Tree) : L.length ≤ nu L c := by have := len_tot L; unfold nu; omega
theorem tot2_pow (L : List Tree) : tot f2 L ≤ 2 ^ tot nn L ∧ (1 ≤ L.length → 1 ≤ tot nn L) ∧ (L = [] → tot f2 L = 0) := by
  induction L with
  | nil => exact ⟨by simp [tot], by simp, fun _ => rfl⟩
  | cons a L ih =>
    have ha := nn_pos a
    refine ⟨?_, fun _ => by rw [tot_cons]; omega, by simp⟩
    rw [tot_cons, tot_cons]
    cases L with
    | nil => simp [tot, f2]
    | cons b K =>
      have h1 := ih.2.1 (by simp)
      have h2 := p2_lt (show nn a < nn a + tot nn (b :: K) by omega)
      have h3 := p2_lt (show tot nn (b :: K) < nn a + tot nn (b :: K) by omega)
      have h4 := ih.1
      unfold f2 at *
      omega
theorem nu_pow (L : List Tree) (c : Tree) : nu L c ≤ 2 ^ (tot nn L + nn c) := by
  have hc := nn_pos c
  cases L with
  | nil => simp [nu, tot, f2]
  | cons b K =>
    have h1 := (tot2_pow (b :: K)).2.1 (by simp)
    have h2 := p2_lt (show tot nn (b :: K) < tot nn (b :: K) + nn c by omega)
    have h3 := p2_lt (show nn c < tot nn (b :: K) + nn c by omega)
    have h4 := (tot2_pow (b :: K)).1
    unfold nu
    have h5 : f2 c = 2 ^ nn c := rfl
    omega
theorem nu_small {L : List Tree} {c : Tree} (h : tot nn L + nn c ≤ 20) : nu L c ≤ 1048576 := by
  have h1 := nu_pow L c
  have h2 : 2 ^ (tot nn L + nn c) ≤ 2 ^ 20 := Nat.pow_le_pow_right (by omega) h
  have h3 : (2 : Nat) ^ 20 = 1048576 := by decide
  omega

/-! Formulas of the search. -/
theorem fmOk_nn {A : Tree} (h : FmOk A) : nn A ≤ 40 := h.1
theorem fmOk_imp_mk {A B : Tree} (hA : FmOk A) (hB : FmOk B) (h : nn A + nn B + 1 ≤ 40) : FmOk (.imp A B) := FmOk.join (k := 4) rfl (by omega) hA hB (by have := nn_imp A B; unfold nn at *; omega)
theorem fmOk_and_imp {x y z : Tree} (h : FmOk (.imp (.and x y) z)) : FmOk (.imp x (.imp y z)) := by
  obtain ⟨h1, h2⟩ := fmOk_imp h
  obtain ⟨h3, h4⟩ := fmOk_and h1
  have h5 := fmOk_nn h
  simp only [nn_imp, nn_and] at h5
  exact fmOk_imp_mk h3 (fmOk_imp_mk h4 h2 (by omega)) (by rw [nn_imp]; omega)
theorem fmOk_or_imp {x y z : Tree} (h : FmOk (.imp (.or x y) z)) : FmOk (.imp x z) ∧ FmOk (.imp y z) := by
  obtain ⟨h1, h2⟩ := fmOk_imp h
  obtain ⟨h3, h4⟩ := fmOk_or h1
  have h5 := fmOk_nn h
  simp only [nn_imp, nn_or] at h5
  exact ⟨fmOk_imp_mk h3 h2 (by omega), fmOk_imp_mk h4 h2 (by omega)⟩
theorem fmOk_imp_imp {x y z : Tree} (h : FmOk (.imp (.imp x y) z)) : FmOk x ∧ FmOk y ∧ FmOk z ∧ FmOk (.imp x y) ∧ FmOk (.imp y z) := by
  obtain ⟨h1, h2⟩ := fmOk_imp h
  obtain ⟨h3, h4⟩ := fmOk_imp h1
  have h5 := fmOk_nn h
  simp only [nn_imp] at h5
  exact ⟨h3, h4, h2, h1, fmOk_imp_mk h4 h2 (by omega)⟩
/-- A formula without modalities is of one of five kinds. -/
theorem fm_five {A : Tree} (h : FmOk A) : (∃ v, A = .var v) ∨ A = .fls ∨ (∃ x y, A = .and x y) ∨ (∃ x y, A = .or x y) ∨ ∃ x y, A = .imp x y := by
  cases A with
  | var v => exact .inl ⟨v, rfl⟩
  | fls => exact .inr (.inl rfl)
  | and x y => exact .inr (.inr (.inl ⟨x, y, rfl⟩))
  | or x y => exact .inr (.inr (.inr (.inl ⟨x, y, rfl⟩)))
  | imp x y => exact .inr (.inr (.inr (.inr ⟨x, y, rfl⟩)))
  | box x => exact absurd (anyP_mem.1 h.2 (5, 0) (by simp [Fm.enc])) (by simp [isBD])
  | dia x => exact absurd (anyP_mem.1 h.2 (6, 0) (by simp [Fm.enc])) (by simp [isBD])
/-- A state of the search. -/
def OkS (L : List Tree) (c : Tree) : Prop := (∀ a ∈ L, FmOk a) ∧ FmOk c ∧ nu L c ≤ 1048576
end Go.Proofs.YtmdbhcoioimlmaaGreat

/- The moves of the search on lists: each is sound, loses nothing where it must not, and makes the sequent smaller. No program is in sight. -/
namespace Go.Proofs.YtmdbhcoioimlmaaGreat
open Go.RowKit
open Fm (Tree Ent)

noncomputable def hasL (L : List Tree) (x : Tree) : Bool := dc (x ∈ L)
theorem hasL_true {L : List Tree} {x : Tree} : hasL L x = true ↔ x ∈ L := ⟨of_dc, dc_true⟩
theorem hasL_false {L : List Tree} {x : Tree} : hasL L x = false ↔ ¬ x ∈ L := ⟨not_dc, dc_false⟩
noncomputable def with1 (L : List Tree) (x : Tree) : List Tree := if hasL L x then L else L ++ [x]
noncomputable def withL (L xs : List Tree) : List Tree := xs.foldl with1 L
theorem with1_mem {L : List Tree} {x b : Tree} : b ∈ with1 L x ↔ b ∈ L ∨ b = x := by
  unfold with1
  cases h : hasL L x with
  | true =>
    have := hasL_true.1 h
    simp only [if_true]
    exact ⟨.inl, fun k => k.elim id (fun e => e ▸ this)⟩
  | false => simp
theorem with1_adds (L : List Tree) (x : Tree) : Adds (withL L [x]) L x := fun _ => with1_mem
theorem with2_adds (L : List Tree) (x y : Tree) : Adds2 (withL L [x, y]) L x y := fun b => by
  show b ∈ with1 (with1 L x) y ↔ _
  rw [with1_mem, with1_mem, or_assoc]
theorem with1_tot (f : Tree → Nat) (L : List Tree) (x : Tree) : tot f (with1 L x) ≤ tot f L + f x := by
  unfold with1
  split
  · omega
  · rw [tot_app, tot_one]; exact Nat.le_refl _
theorem withL_tot1 (f : Tree → Nat) (L : List Tree) (x : Tree) : tot f (withL L [x]) ≤ tot f L + f x := with1_tot f L x
theorem withL_tot2 (f : Tree → Nat) (L : List Tree) (x y : Tree) : tot f (withL L [x, y]) ≤ tot f L + f x + f y := by
  have h1 := with1_tot f (with1 L x) y
  have h2 := with1_tot f L x
  show tot f (with1 (with1 L x) y) ≤ _
  omega

theorem erase_tot (f : Tree → Nat) : ∀ (L : List Tree) (i : Nat) (a : Tree), L[i]? = some a → tot f L = tot f (L.eraseIdx i) + f a
  | [], i, a, h => by simp at h
  | b :: L, 0, a, h => by
    obtain rfl : b = a := by simpa using h
    rw [tot_cons]
    show f b + tot f L = tot f L + f b
    omega
  | b :: L, i + 1, a, h => by
    have := erase_tot f L i a (by simpa using h)
    rw [tot_cons]
    show f b + tot f L = tot f (b :: L.eraseIdx i) + f a
    rw [tot_cons]
    omega
theorem erase_adds : ∀ (L : List Tree) (i : Nat) (a : Tree), L[i]? = some a → Adds L (L.eraseIdx i) a
  | [], i, a, h => by simp at h
  | b :: L, 0, a, h => by
    obtain rfl : b = a := by simpa using h
    intro x
    show x ∈ b :: L ↔ x ∈ L ∨ x = b
    rw [List.mem_cons, Or.comm]
  | b :: L, i + 1, a, h => by
    intro x
    have := erase_adds L i a (by simpa using h) x
    show x ∈ b :: L ↔ x ∈ b :: L.eraseIdx i ∨ x = a
    rw [List.mem_cons, List.mem_cons, this, or_assoc]
theorem erase_mem {L : List Tree} {i : Nat} {a : Tree} (hi : L[i]? = some a) {b : Tree} (hb : b ∈ L) (hne : b ≠ a) : b ∈ L.eraseIdx i := ((erase_adds L i a hi b).1 hb).resolve_right hne
theorem at_mem {L : List Tree} {i : Nat} {a : Tree} (hi : L[i]? = some a) : a ∈ L := List.mem_of_getElem? hi

/-- A smaller state. -/
def Mv (L : List Tree) (c : Tree) (K : List Tree) (d : Tree) : Prop := OkS K d ∧ mu K d < mu L c
theorem mv_mk {L K : List Tree} {c d : Tree} (hS : OkS L c) (h1 : ∀ a ∈ K, FmOk a) (h2 : FmOk d) (h3 : tot f4 K + f4 d < tot f4 L + f4 c) (h4 : tot f2 K + f2 d ≤ tot f2 L + f2 c) : Mv L c K d :=
  ⟨⟨h1, h2, by have := hS.2.2; unfold nu at *; omega⟩, h3⟩

section
variable {L : List Tree} {c : Tree} {i : Nat}

theorem ok_erase (hS : OkS L c) : ∀ b ∈ L.eraseIdx i, FmOk b := fun b hb => hS.1 b ((List.eraseIdx_sublist L i).subset hb)
theorem ok_with1 {K : List Tree} {x : Tree} (h : ∀ b ∈ K, FmOk b) (hx : FmOk x) : ∀ b ∈ withL K [x], FmOk b := fun b hb => ((with1_adds K x b).1 hb).elim (h b) (fun e => e ▸ hx)
theorem ok_with2 {K : List Tree} {x y : Tree} (h : ∀ b ∈ K, FmOk b) (hx : FmOk x) (hy : FmOk y) : ∀ b ∈ withL K [x, y], FmOk b := fun b hb =>
  ((with2_adds K x y b).1 hb).elim (h b) (fun e => e.elim (fun e => e ▸ hx) (fun e => e ▸ hy))

/-- A formula follows from another one at once. -/
noncomputable def usl (R : List Tree) : Tree → Bool
  | .or x y => hasL R x || hasL R y
  | .imp x y => Fm.isF x || hasL R y
  | _ => false

theorem mv_useless (hS : OkS L c) {a : Tree} (hi : L[i]? = some a) (hu : usl (L.eraseIdx i) a = true) : Mv L c (L.eraseIdx i) c ∧ dc (EntL L c) = dc (EntL (L.eraseIdx i) c) := by
  have ha := erase_adds L i a hi
  refine ⟨mv_mk hS (ok_erase hS) hS.2.1 ?_ ?_, dc_congr ?_⟩
  · have := erase_tot f4 L i a hi; have := f4_pos a; omega
  · have := erase_tot f2 L i a hi; omega
  · cases a with
    | or x y =>
      refine el_or_useless ha ?_
      rcases Bool.or_eq_true_iff.1 hu with h | h
      · exact .inl (hasL_true.1 h)
      · exact .inr (hasL_true.1 h)
    | imp x y =>
      rcases Bool.or_eq_true_iff.1 hu with h | h
      · obtain rfl := Fm.isF_eq h
        exact el_fls_imp ha
      · exact el_imp_useless ha (hasL_true.1 h)
    | _ => cases hu
theorem mv_and (hS : OkS L c) {x y : Tree} (hi : L[i]? = some (.and x y)) : Mv L c (withL (L.eraseIdx i) [x, y]) c ∧ dc (EntL L c) = dc (EntL (withL (L.eraseIdx i) [x, y]) c) := by
  obtain ⟨hx, hy⟩ := fmOk_and (hS.1 _ (at_mem hi))
  refine ⟨mv_mk hS (ok_with2 (ok_erase hS) hx hy) hS.2.1 ?_ ?_, dc_congr (el_and (erase_adds L i _ hi) (with2_adds _ x y))⟩
  · have := erase_tot f4 L i _ hi; have := f4_and x y; have := withL_tot2 f4 (L.eraseIdx i) x y; omega
  · have := erase_tot f2 L i _ hi; have := f2_and x y; have := withL_tot2 f2 (L.eraseIdx i) x y; omega
theorem mv_or (hS : OkS L c) {x y : Tree} (hi : L[i]? = some (.or x y)) : Mv L c (withL (L.eraseIdx i) [x]) c ∧ Mv L c (withL (L.eraseIdx i) [y]) c ∧ dc (EntL L c) = (dc (EntL (withL (L.eraseIdx i) [x]) c) && dc (EntL (withL (L.eraseIdx i) [y]) c)) := by
  obtain ⟨hx, hy⟩ := fmOk_or (hS.1 _ (at_mem hi))
  have h4 := erase_tot f4 L i _ hi
  have h2 := erase_tot f2 L i _ hi
  have k4 := f4_or x y
  have k2 := f2_or x y
  refine ⟨mv_mk hS (ok_with1 (ok_erase hS) hx) hS.2.1 ?_ ?_, mv_mk hS (ok_with1 (ok_erase hS) hy) hS.2.1 ?_ ?_, ?_⟩
  · have := withL_tot1 f4 (L.eraseIdx i) x; omega
  · have := withL_tot1 f2 (L.eraseIdx i) x; omega
  · have := withL_tot1 f4 (L.eraseIdx i) y; omega
  · have := withL_tot1 f2 (L.eraseIdx i) y; omega
  · rw [← dc_and]
    exact dc_congr (el_or (erase_adds L i _ hi) (with1_adds _ x) (with1_adds _ y))
theorem mv_and_imp (hS : OkS L c) {x y z : Tree} (hi : L[i]? = some (.imp (.and x y) z)) : Mv L c (withL (L.eraseIdx i) [.imp x (.imp y z)]) c ∧ dc (EntL L c) = dc (EntL (withL (L.eraseIdx i) [.imp x (.imp y z)]) c) := by
  have hx := fmOk_and_imp (hS.1 _ (at_mem hi))
  refine ⟨mv_mk hS (ok_with1 (ok_erase hS) hx) hS.2.1 ?_ ?_, dc_congr (el_and_imp (erase_adds L i _ hi) (with1_adds _ _))⟩
  · have := erase_tot f4 L i _ hi; have := f4_and_imp x y z; have := withL_tot1 f4 (L.eraseIdx i) (.imp x (.imp y z)); omega
  · have := erase_tot f2 L i _ hi; have := f2_and_imp x y z; have := withL_tot1 f2 (L.eraseIdx i) (.imp x (.imp y z)); omega
theorem mv_or_imp (hS : OkS L c) {x y z : Tree} (hi : L[i]? = some (.imp (.or x y) z)) : Mv L c (withL (L.eraseIdx i) [.imp x z, .imp y z]) c ∧ dc (EntL L c) = dc (EntL (withL (L.eraseIdx i) [.imp x z, .imp y z]) c) := by
  obtain ⟨hx, hy⟩ := fmOk_or_imp (hS.1 _ (at_mem hi))
  refine ⟨mv_mk hS (ok_with2 (ok_erase hS) hx hy) hS.2.1 ?_ ?_, dc_congr (el_or_imp (erase_adds L i _ hi) (with2_adds _ _ _))⟩
  · have := erase_tot f4 L i _ hi; have := f4_or_imp x y z; have := withL_tot2 f4 (L.eraseIdx i) (.imp x z) (.imp y z); omega
  · have := erase_tot f2 L i _ hi; have := f2_or_imp x y z; have := withL_tot2 f2 (L.eraseIdx i) (.imp x z) (.imp y z); omega
theorem mv_mp (hS : OkS L c) {x y : Tree} (hi : L[i]? = some (.imp x y)) (hx : hasL (L.eraseIdx i) x = true) : Mv L c (withL (L.eraseIdx i) [y]) c ∧ dc (EntL L c) = dc (EntL (withL (L.eraseIdx i) [y]) c) := by
  obtain ⟨_, hy⟩ := fmOk_imp (hS.1 _ (at_mem hi))
  refine ⟨mv_mk hS (ok_with1 (ok_erase hS) hy) hS.2.1 ?_ ?_, dc_congr (el_mp (erase_adds L i _ hi) (hasL_true.1 hx) (with1_adds _ _))⟩
  · have := erase_tot f4 L i _ hi; have := f4_imp x y; have := withL_tot1 f4 (L.eraseIdx i) y; omega
  · have := erase_tot f2 L i _ hi; have := f2_imp x y; have := withL_tot1 f2 (L.eraseIdx i) y; omega
theorem mv_r_and {x y : Tree} (hS : OkS L (.and x y)) : Mv L (.and x y) L x ∧ Mv L (.and x y) L y ∧ dc (EntL L (.and x y)) = (dc (EntL L x) && dc (EntL L y)) := by
  obtain ⟨hx, hy⟩ := fmOk_and hS.2.1
  have k4 := f4_and x y
  have k2 := f2_and x y
  exact ⟨mv_mk hS hS.1 hx (by omega) (by omega), mv_mk hS hS.1 hy (by omega) (by omega), by rw [← dc_and]; exact dc_congr el_r_and⟩
theorem mv_r_imp {x y : Tree} (hS : OkS L (.imp x y)) : Mv L (.imp x y) (withL L [x]) y ∧ dc (EntL L (.imp x y)) = dc (EntL (withL L [x]) y) := by
  obtain ⟨hx, hy⟩ := fmOk_imp hS.2.1
  have k4 := f4_imp x y
  have k2 := f2_imp x y
  have l4 := withL_tot1 f4 L x
  have l2 := withL_tot1 f2 L x
  exact ⟨mv_mk hS (ok_with1 hS.1 hx) hy (by omega) (by omega), dc_congr (el_r_imp (with1_adds _ _))⟩
theorem mv_r_or {x y : Tree} (hS : OkS L (.or x y)) : Mv L (.or x y) L x ∧ Mv L (.or x y) L y ∧ (dc (EntL L x) = true → dc (EntL L (.or x y)) = true) ∧ (dc (EntL L y) = true → dc (EntL L (.or x y)) = true) := by
  obtain ⟨hx, hy⟩ := fmOk_or hS.2.1
  have k4 := f4_or x y
  have k2 := f2_or x y
  exact ⟨mv_mk hS hS.1 hx (by omega) (by omega), mv_mk hS hS.1 hy (by omega) (by omega), fun h => dc_true (el_r_or1 (of_dc h)), fun h => dc_true (el_r_or2 (of_dc h))⟩
theorem mv_imp_imp (hS : OkS L c) {x y z : Tree} (hi : L[i]? = some (.imp (.imp x y) z)) : Mv L c (withL (L.eraseIdx i) [.imp y z, x]) y ∧ Mv L c (withL (L.eraseIdx i) [z]) c ∧
    (dc (EntL (withL (L.eraseIdx i) [.imp y z, x]) y) = true → dc (EntL (withL (L.eraseIdx i) [z]) c) = true → dc (EntL L c) = true) := by
  obtain ⟨hx, hy, hz, _, hyz⟩ := fmOk_imp_imp (hS.1 _ (at_mem hi))
  have h4 := erase_tot f4 L i _ hi
  have h2 := erase_tot f2 L i _ hi
  have k4 := f4_imp_imp x y z
  have k2 := f2_imp_imp x y z
  have j4 := f4_imp (.imp x y) z
  have j2 := f2_imp (.imp x y) z
  refine ⟨mv_mk hS (ok_with2 (ok_erase hS) hyz hx) hy ?_ ?_, mv_mk hS (ok_with1 (ok_erase hS) hz) hS.2.1 ?_ ?_, fun e1 e2 => dc_true (el_imp_imp (erase_adds L i _ hi) (with2_adds _ _ _) (with1_adds _ _) (of_dc e1) (of_dc e2))⟩
  · have := withL_tot2 f4 (L.eraseIdx i) (.imp y z) x; omega
  · have := withL_tot2 f2 (L.eraseIdx i) (.imp y z) x; omega
  · have := withL_tot1 f4 (L.eraseIdx i) z; omega
  · have := withL_tot1 f2 (L.eraseIdx i) z; omega

/-- The first k formulas are stuck. -/
def StuckN (L : List Tree) (k : Nat) : Prop := ∀ j a, j < k → L[j]? = some a → StuckL L a
theorem StuckN.zero (L : List Tree) : StuckN L 0 := fun j _ hj => absurd hj (by omega)
theorem StuckN.succ {L : List Tree} {k : Nat} {a : Tree} (h : StuckN L k) (hk : L[k]? = some a) (ha : StuckL L a) : StuckN L (k + 1) := by
  intro j b hj hb
  rcases Nat.lt_or_ge j k with h1 | h1
  · exact h j b h1 hb
  · obtain rfl : j = k := by omega
    rw [hk] at hb
    cases hb
    exact ha
theorem stuck_var (v : Fin 6) : StuckL L (.var v) := .inl ⟨v, rfl⟩
theorem stuck_imp_var {v : Fin 6} {y : Tree} (hi : L[i]? = some (.imp (.var v) y)) (h : hasL (L.eraseIdx i) (.var v) = false) : StuckL L (.imp (.var v) y) :=
  .inr (.inl ⟨v, y, rfl, fun hm => hasL_false.1 h (erase_mem hi hm (by simp))⟩)
theorem stuck_imp_imp (x y z : Tree) : StuckL L (.imp (.imp x y) z) := .inr (.inr ⟨x, y, z, rfl⟩)
/-- A right side at which the search goes to the left. -/
def Shut (L : List Tree) (c : Tree) : Prop := (∃ v, c = .var v) ∨ c = .fls ∨ ∃ x y, c = .or x y ∧ dc (EntL L x) = false ∧ dc (EntL L y) = false
theorem ways_fail (hst : StuckN L L.length) (hc : hasL L c = false) (hk : Shut L c)
    (hno : ∀ i x y z, L[i]? = some (.imp (.imp x y) z) → (dc (EntL (withL (L.eraseIdx i) [.imp y z, x]) y) && dc (EntL (withL (L.eraseIdx i) [z]) c)) = false) : dc (EntL L c) = false := by
  refine dc_false fun hE => ?_
  have hs : ∀ a, a ∈ L → StuckL L a := fun a ha => by
    obtain ⟨j, hj, he⟩ := List.getElem_of_mem ha
    exact hst j a hj (by rw [List.getElem?_eq_getElem hj, he])
  have hk2 : (∃ v, c = .var v) ∨ c = .fls ∨ ∃ x y, c = .or x y := hk.imp id (fun h => h.imp id (fun ⟨x, y, h, _⟩ => ⟨x, y, h⟩))
  rcases el_ways hs (hasL_false.1 hc) hk2 hE with ⟨x, y, rfl, h⟩ | ⟨x, y, z, hm, h⟩
  · rcases hk with ⟨v, hv⟩ | hf | ⟨x', y', he, hx, hy⟩
    · cases hv
    · cases hf
    · cases he
      exact h.elim (not_dc hx) (not_dc hy)
  · obtain ⟨j, hj, he⟩ := List.getElem_of_mem hm
    have hj2 : L[j]? = some (.imp (.imp x y) z) := by rw [List.getElem?_eq_getElem hj, he]
    obtain ⟨h1, h2⟩ := h (L.eraseIdx j) (fun b hb hne => erase_mem hj2 hb hne)
    have := hno j x y z hj2
    rw [dc_true (h1 _ (with2_adds _ _ _)), dc_true (h2 _ (with1_adds _ _))] at this
    cases this
theorem ok_one {x : Tree} (hx : FmOk x) : ∀ a ∈ [x], FmOk a := fun a ha => by rw [List.mem_singleton] at ha; rw [ha]; exact hx
theorem ok_two {x y : Tree} (hx : FmOk x) (hy : FmOk y) : ∀ a ∈ [x, y], FmOk a := fun a ha => by
  rcases List.mem_cons.1 ha with rfl | ha
  · exact hx
  · rw [List.mem_singleton] at ha; rw [ha]; exact hy
/-- None of the first k implications of an implication gives the formula. -/
def NoWay (L : List Tree) (c : Tree) (k : Nat) : Prop := ∀ i, i < k → ∀ x y z, L[i]? = some (.imp (.imp x y) z) → (dc (EntL (withL (L.eraseIdx i) [.imp y z, x]) y) && dc (EntL (withL (L.eraseIdx i) [z]) c)) = false
theorem NoWay.zero (L : List Tree) (c : Tree) : NoWay L c 0 := fun i hi => absurd hi (by omega)
theorem NoWay.succ {k : Nat} {t : Tree} (h : NoWay L c k) (hk : L[k]? = some t) (ht : ∀ x y z, t = .imp (.imp x y) z → (dc (EntL (withL (L.eraseIdx k) [.imp y z, x]) y) && dc (EntL (withL (L.eraseIdx k) [z]) c)) = false) : NoWay L c (k + 1) := by
  intro i hi x y z hx
  rcases Nat.lt_or_ge i k with h1 | h1
  · exact h i h1 x y z hx
  · obtain rfl : i = k := by omega
    rw [hk] at hx
    injection hx with hx
    exact ht x y z hx
theorem NoWay.all (h : NoWay L c L.length) : ∀ i x y z, L[i]? = some (.imp (.imp x y) z) → (dc (EntL (withL (L.eraseIdx i) [.imp y z, x]) y) && dc (EntL (withL (L.eraseIdx i) [z]) c)) = false :=
  fun i x y z hi => h i (List.getElem?_eq_some_iff.1 hi).1 x y z hi
end
end Go.Proofs.YtmdbhcoioimlmaaGreat

/- Small sequents; what is returned with a code. -/
namespace Go.Proofs.YtmdbhcoioimlmaaGreat
open Go.RowKit
open Fm (Tree)

theorem okS_mk {L : List Tree} {c : Tree} (hL : ∀ a ∈ L, FmOk a) (hc : FmOk c) (h : tot nn L + nn c ≤ 20) : OkS L c := ⟨hL, hc, nu_small h⟩
theorem okS_one {a b : Tree} (ha : FmOk a) (hb : FmOk b) (h : nn a + nn b ≤ 20) : OkS [a] b := okS_mk (ok_one ha) hb (by rw [tot_one]; exact h)
theorem okS_none {a : Tree} (ha : FmOk a) (h : nn a ≤ 20) : OkS [] a := okS_mk (fun _ h => by cases h) ha (by rw [tot_nil]; omega)

/-- A yes or no, and a code. -/
def GivesBI (w : World) (r : Bool × Int) (e : Ending) (w' : World) : Prop := e = .returned (.tuple #[.bool r.1, .int .i64 r.2]) ∧ Grew w w'
def GivesII (w : World) (r : Int × Int) (e : Ending) (w' : World) : Prop := e = .returned (.tuple #[.int .i64 r.1, .int .i64 r.2]) ∧ Grew w w'
end Go.Proofs.YtmdbhcoioimlmaaGreat

/- The keys of the sequents that are remembered: equal keys are keys of equal sequents. No program is in sight. -/
namespace Go.Proofs.YtmdbhcoioimlmaaGreat
open Go.RowKit
open Fm (Tree)

/-- A byte that is no separator. -/
def inner1 (b : UInt8) : Prop := b ≠ 47 ∧ b ≠ 59
theorem inner_wrap {l o : Nat} {s : List UInt8} (h : ∀ b ∈ s, inner1 b) : ∀ b ∈ Fm.wrap l o s, inner1 b := by
  unfold Fm.wrap
  split
  · intro b hb
    rcases List.mem_append.1 hb with hb | hb
    · rcases List.mem_append.1 hb with hb | hb
      · rw [List.mem_singleton] at hb; subst hb; exact ⟨by decide, by decide⟩
      · exact h b hb
    · rw [List.mem_singleton] at hb; subst hb; exact ⟨by decide, by decide⟩
  · exact h
theorem inner_bin {x y : List UInt8} {c : UInt8} (hx : ∀ b ∈ x, inner1 b) (hc : inner1 c) (hy : ∀ b ∈ y, inner1 b) : ∀ b ∈ x ++ [c] ++ y, inner1 b := by
  intro b hb
  simp only [List.mem_append, List.mem_singleton] at hb
  rcases hb with (hb | rfl) | hb
  · exact hx b hb
  · exact hc
  · exact hy b hb
theorem inner_txt (t : Tree) : ∀ l, ∀ b ∈ Fm.txt t l, inner1 b := by
  induction t with
  | var v =>
    intro l b hb
    simp only [Fm.txt, List.mem_singleton] at hb
    subst hb
    have h : ∀ v : Fin 6, UInt8.ofNat (112 + v.val) ≠ 47 ∧ UInt8.ofNat (112 + v.val) ≠ 59 := by decide
    exact h v
  | fls =>
    intro l b hb
    simp only [Fm.txt, List.mem_singleton] at hb
    subst hb
    exact ⟨by decide, by decide⟩
  | and x y hx hy => intro l; exact inner_wrap (inner_bin (hx 2) ⟨by decide, by decide⟩ (hy 3))
  | or x y hx hy => intro l; exact inner_wrap (inner_bin (hx 1) ⟨by decide, by decide⟩ (hy 2))
  | imp x y hx hy =>
    intro l
    simp only [Fm.txt]
    split
    · split
      · intro b hb
        simp only [List.mem_singleton] at hb
        subst hb
        exact ⟨by decide, by decide⟩
      · intro b hb
        simp only [List.cons_append, List.nil_append, List.mem_cons] at hb
        rcases hb with rfl | hb
        · exact ⟨by decide, by decide⟩
        · exact hx 3 b hb
    · exact inner_wrap (inner_bin (hx 1) ⟨by decide, by decide⟩ (hy 0))
  | box x hx =>
    intro l b hb
    simp only [Fm.txt, List.cons_append, List.nil_append, List.mem_cons] at hb
    rcases hb with rfl | rfl | hb
    · exact ⟨by decide, by decide⟩
    · exact ⟨by decide, by decide⟩
    · exact hx 3 b hb
  | dia x hx =>
    intro l b hb
    simp only [Fm.txt, List.cons_append, List.nil_append, List.mem_cons] at hb
    rcases hb with rfl | rfl | hb
    · exact ⟨by decide, by decide⟩
    · exact ⟨by decide, by decide⟩
    · exact hx 3 b hb

/-- The key of texts, each with a mark behind it. -/
def keyL (T : List ByteArray) : List UInt8 := T.flatMap fun t => t.data.toList ++ [47]
theorem keyL_snoc (T : List ByteArray) (t : ByteArray) : keyL (T ++ [t]) = keyL T ++ (t.data.toList ++ [47]) := by simp [keyL, List.flatMap_append]
/-- The key of a sequent. -/
def skey (T : List ByteArray) (r : ByteArray) : ByteArray := bs (keyL T ++ [59] ++ (r.data.toList ++ [47]))
theorem split_at {c : UInt8} : ∀ {x y A B : List UInt8}, (∀ b ∈ x, b ≠ c) → (∀ b ∈ y, b ≠ c) → x ++ c :: A = y ++ c :: B → x = y ∧ A = B
  | [], [], A, B, _, _, h => ⟨rfl, by simpa using h⟩
  | [], b :: y, A, B, _, hy, h => by
    simp only [List.nil_append, List.cons_append, List.cons.injEq] at h
    exact absurd h.1.symm (hy b (.head _))
  | a :: x, [], A, B, hx, _, h => by
    simp only [List.nil_append, List.cons_append, List.cons.injEq] at h
    exact absurd h.1 (hx a (.head _))
  | a :: x, b :: y, A, B, hx, hy, h => by
    simp only [List.cons_append, List.cons.injEq] at h
    obtain ⟨h1, h2⟩ := split_at (fun b hb => hx b (.tail _ hb)) (fun b hb => hy b (.tail _ hb)) h.2
    exact ⟨by rw [h.1, h1], h2⟩
theorem key_inj : ∀ {T S : List ByteArray} {A B : List UInt8}, (∀ t ∈ T, ∀ b ∈ t.data.toList, inner1 b) → (∀ t ∈ S, ∀ b ∈ t.data.toList, inner1 b) → keyL T ++ 59 :: A = keyL S ++ 59 :: B → T.map (·.data.toList) = S.map (·.data.toList) ∧ A = B
  | [], [], A, B, _, _, h => ⟨rfl, by simpa [keyL] using h⟩
  | [], s :: S, A, B, _, hS, h => by
    exfalso
    simp only [keyL, List.flatMap_nil, List.nil_append, List.flatMap_cons, List.append_assoc] at h
    have hs := hS s (.head _)
    cases hd : s.data.toList with
    | nil => rw [hd] at h; simp at h
    | cons b r =>
      rw [hd] at h hs
      simp only [List.cons_append, List.cons.injEq] at h
      exact (hs b (.head _)).2 h.1.symm
  | t :: T, [], A, B, hT, _, h => by
    exfalso
    simp only [keyL, List.flatMap_nil, List.nil_append, List.flatMap_cons, List.append_assoc] at h
    have hs := hT t (.head _)
    cases hd : t.data.toList with
    | nil => rw [hd] at h; simp at h
    | cons b r =>
      rw [hd] at h hs
      simp only [List.cons_append, List.cons.injEq] at h
      exact (hs b (.head _)).2 h.1
  | t :: T, s :: S, A, B, hT, hS, h => by
    have h2 : t.data.toList ++ 47 :: (keyL T ++ 59 :: A) = s.data.toList ++ 47 :: (keyL S ++ 59 :: B) := by
      simpa [keyL, List.flatMap_cons, List.append_assoc] using h
    obtain ⟨h3, h4⟩ := split_at (fun b hb => (hT t (.head _) b hb).1) (fun b hb => (hS s (.head _) b hb).1) h2
    obtain ⟨h5, h6⟩ := key_inj (fun t ht => hT t (.tail _ ht)) (fun t ht => hS t (.tail _ ht)) h4
    exact ⟨by simp only [List.map_cons, h3, h5], h6⟩
theorem tx_inner (A : Tree) : ∀ b ∈ (tx A).data.toList, inner1 b := by
  unfold tx
  rw [bs_list]
  exact inner_txt A 0
theorem map_tx_inj {L K : List Tree} (hL : ∀ a ∈ L, FmOk a) (hK : ∀ a ∈ K, FmOk a) (h : (L.map tx).map (·.data.toList) = (K.map tx).map (·.data.toList)) : L = K := by
  induction L generalizing K with
  | nil =>
    cases K with
    | nil => rfl
    | cons b K => simp at h
  | cons a L ih =>
    cases K with
    | nil => simp at h
    | cons b K =>
      simp only [List.map_cons, List.cons.injEq] at h
      have h1 : tx a = tx b := by rw [← bs_eq (tx a), ← bs_eq (tx b), h.1]
      have h2 := tx_inj (hL a (.head _)).1 (hK b (.head _)).1 h1
      rw [h2, ih (fun a ha => hL a (.tail _ ha)) (fun a ha => hK a (.tail _ ha)) h.2]
theorem skey_inj {L K : List Tree} {c d : Tree} (hL : ∀ a ∈ L, FmOk a) (hK : ∀ a ∈ K, FmOk a) (hc : FmOk c) (hd : FmOk d) (h : skey (L.map tx) (tx c) = skey (K.map tx) (tx d)) : L = K ∧ c = d := by
  have h1 : keyL (L.map tx) ++ 59 :: ((tx c).data.toList ++ [47]) = keyL (K.map tx) ++ 59 :: ((tx d).data.toList ++ [47]) := by
    have h2 := congrArg (fun s : ByteArray => s.data.toList) h
    unfold skey at h2
    simp only [bs_list] at h2
    simpa [List.append_assoc] using h2
  have hT : ∀ {M : List Tree}, ∀ t ∈ M.map tx, ∀ b ∈ t.data.toList, inner1 b := fun t ht => by
    obtain ⟨A, _, rfl⟩ := List.mem_map.1 ht
    exact tx_inner A
  obtain ⟨h3, h4⟩ := key_inj hT hT h1
  refine ⟨map_tx_inj hL hK h3, ?_⟩
  have h5 : (tx c).data.toList = (tx d).data.toList := (split_at (c := 47) (A := []) (B := []) (fun b hb => (tx_inner c b hb).1) (fun b hb => (tx_inner d b hb).1) h4).1
  exact tx_inj hc.1 hd.1 (by rw [← bs_eq (tx c), ← bs_eq (tx d), h5])

/-- What may be remembered at a key. -/
def MemoI (k : ByteArray) (r : Bool) : Prop := ∀ (L : List Tree) (c : Tree), (∀ a ∈ L, FmOk a) → FmOk c → k = skey (L.map tx) (tx c) → r = dc (EntL L c)
theorem memoI_mk {L : List Tree} {c : Tree} (hL : ∀ a ∈ L, FmOk a) (hc : FmOk c) : MemoI (skey (L.map tx) (tx c)) (dc (EntL L c)) := fun K d hK hd h => by
  obtain ⟨rfl, rfl⟩ := skey_inj hL hK hc hd h
  rfl
end Go.Proofs.YtmdbhcoioimlmaaGreat

/- Contracts of the library (sorting, compacting strings), laid at this program. -/
namespace Go.Proofs
open Go.Shelf
def Tryz.lays190_ren : Go.Shelf.Ren := ⟨fun | 190 => 101 | 125 => 120 | 258 => 119 | 128 => 141 | 129 => 142 | 302 => 132 | 303 => 133 | 304 => 134 | 305 => 135 | 306 => 136 | 307 => 137 | 308 => 138 | 309 => 139 | 310 => 140 | 333 => 154 | 329 => 155 | 330 => 156 | 334 => 157 | 335 => 158 | 336 => 159 | 344 => 163 | n => n, fun | 31 => 22 | 9 => 9 | 3 => 3 | 46 => 89 | 0 => 0 | 51 => 140 | 53 => 86 | 4 => 4 | 183 => 132 | 182 => 131 | 131 => 137 | 5 => 5 | 218 => 147 | 222 => 151 | 228 => 154 | 229 => 155 | n => n, fun | n => n⟩
theorem Tryz.lays190 : Go.Proofs.Lays.n190 Tryz.prog Tryz.lays190_ren := {
  mixed := by kernel_rfl
  f125 := Tryz.func120.trans (congrArg some (by kernel_rfl))
  f128 := Tryz.func141.trans (congrArg some (by kernel_rfl))
  f129 := Tryz.func142.trans (congrArg some (by kernel_rfl))
  f190 := Tryz.func101.trans (congrArg some (by kernel_rfl))
  f258 := Tryz.func119.trans (congrArg some (by kernel_rfl))
  f302 := Tryz.func132.trans (congrArg some (by kernel_rfl))
  f303 := Tryz.func133.trans (congrArg some (by kernel_rfl))
  f304 := Tryz.func134.trans (congrArg some (by kernel_rfl))
  f305 := Tryz.func135.trans (congrArg some (by kernel_rfl))
  f306 := Tryz.func136.trans (congrArg some (by kernel_rfl))
  f307 := Tryz.func137.trans (congrArg some (by kernel_rfl))
  f308 := Tryz.func138.trans (congrArg some (by kernel_rfl))
  f309 := Tryz.func139.trans (congrArg some (by kernel_rfl))
  f310 := Tryz.func140.trans (congrArg some (by kernel_rfl))
  f329 := Tryz.func155.trans (congrArg some (by kernel_rfl))
  f330 := Tryz.func156.trans (congrArg some (by kernel_rfl))
  f333 := Tryz.func154.trans (congrArg some (by kernel_rfl))
  f334 := Tryz.func157.trans (congrArg some (by kernel_rfl))
  f335 := Tryz.func158.trans (congrArg some (by kernel_rfl))
  f336 := Tryz.func159.trans (congrArg some (by kernel_rfl))
  f344 := Tryz.func163.trans (congrArg some (by kernel_rfl))
  t0 := Tryz.underlying0
  a0 := Tryz.isAgg0
  z0 := Tryz.sizeOf0
  v0 := Tryz.zeroValue0
  t3 := Tryz.underlying3
  a3 := Tryz.isAgg3
  z3 := Tryz.sizeOf3
  v3 := Tryz.zeroValue3
  t4 := Tryz.underlying4
  a4 := Tryz.isAgg4
  z4 := Tryz.sizeOf4
  v4 := Tryz.zeroValue4
  t5 := Tryz.underlying5
  a5 := Tryz.isAgg5
  z5 := Tryz.sizeOf5
  v5 := Tryz.zeroValue5
  t9 := Tryz.underlying9
  a9 := Tryz.isAgg9
  z9 := Tryz.sizeOf9
  v9 := Tryz.zeroValue9
  t31 := Tryz.underlying22
  a31 := Tryz.isAgg22
  z31 := Tryz.sizeOf22
  v31 := Tryz.zeroValue22
  t46 := Tryz.underlying89
  a46 := Tryz.isAgg89
  z46 := Tryz.sizeOf89
  v46 := Tryz.zeroValue89
  t51 := Tryz.underlying140
  a51 := Tryz.isAgg140
  z51 := Tryz.sizeOf140
  v51 := Tryz.zeroValue140
  t53 := Tryz.underlying86
  a53 := Tryz.isAgg86
  z53 := Tryz.sizeOf86
  v53 := Tryz.zeroValue86
  t131 := Tryz.underlying137
  a131 := Tryz.isAgg137
  z131 := Tryz.sizeOf137
  v131 := Tryz.zeroValue137
  t182 := Tryz.underlying131
  a182 := Tryz.isAgg131
  z182 := Tryz.sizeOf131
  v182 := Tryz.zeroValue131
  t183 := Tryz.underlying132
  a183 := Tryz.isAgg132
  z183 := Tryz.sizeOf132
  v183 := Tryz.zeroValue132
  t218 := Tryz.underlying147
  a218 := Tryz.isAgg147
  z218 := Tryz.sizeOf147
  v218 := Tryz.zeroValue147
  t222 := Tryz.underlying151
  a222 := Tryz.isAgg151
  z222 := Tryz.sizeOf151
  v222 := Tryz.zeroValue151
  t228 := Tryz.underlying154
  a228 := Tryz.isAgg154
  z228 := Tryz.sizeOf154
  v228 := Tryz.zeroValue154
  t229 := Tryz.underlying155
  a229 := Tryz.isAgg155
  z229 := Tryz.sizeOf155
  v229 := Tryz.zeroValue155 }
open Go.Sort Go.RowKit in
theorem Tryz.slices_Sort_string (blk off cap : Nat) (ss : List (List UInt8)) (w : World) (hH : Holds encStr w blk off ss.toArray) (hblk : blk < w.heap.size) (hsz : ss.length < 4611686018427387904) :
    Calls Tryz.prog 101 #[.slice (some ⟨blk, off, none⟩) ss.length cap] w fun e w' =>
      e = .returned (.tuple #[]) ∧ ∃ n os, w' = grow (putRow encStr (Sort.ahead w n) blk off (ss.mergeSort fun x y => decide (x ≤ y)).toArray) os := Any.slices_Sort_string Tryz.lays190 blk off cap ss w hH hblk hsz
def Tryz.lays194_ren : Go.Shelf.Ren := ⟨fun | 194 => 102 | n => n, fun | 31 => 22 | 9 => 9 | 3 => 3 | 4 => 4 | 0 => 0 | n => n, fun | n => n⟩
theorem Tryz.lays194 : Go.Proofs.Lays.n194 Tryz.prog Tryz.lays194_ren := {
  mixed := by kernel_rfl
  f194 := Tryz.func102.trans (congrArg some (by kernel_rfl))
  t0 := Tryz.underlying0
  a0 := Tryz.isAgg0
  z0 := Tryz.sizeOf0
  v0 := Tryz.zeroValue0
  t3 := Tryz.underlying3
  a3 := Tryz.isAgg3
  z3 := Tryz.sizeOf3
  v3 := Tryz.zeroValue3
  t4 := Tryz.underlying4
  a4 := Tryz.isAgg4
  z4 := Tryz.sizeOf4
  v4 := Tryz.zeroValue4
  t9 := Tryz.underlying9
  a9 := Tryz.isAgg9
  z9 := Tryz.sizeOf9
  v9 := Tryz.zeroValue9
  t31 := Tryz.underlying22
  a31 := Tryz.isAgg22
  z31 := Tryz.sizeOf22
  v31 := Tryz.zeroValue22 }
open Go.RowKit Go.Lib Go.Sort in
theorem Tryz.slices_Compact_string (blk off cap : Nat) (zs : List (List UInt8)) (w : World) (hH : Holds encStr w blk off zs.toArray) (hsz : zs.length ≤ 9223372036854775807) (hcap : zs.length ≤ cap) :
    Calls Tryz.prog 102 #[.slice (some ⟨blk, off, none⟩) zs.length cap] w fun e w' => e = .returned (.slice (some ⟨blk, off, none⟩) (Lib.compact zs).length cap) ∧ ∃ q, w' = putRow encStr (Sort.ahead w q) blk off (Lib.compact zs ++ List.replicate (zs.length - (Lib.compact zs).length) []).toArray := Any.slices_Compact_string Tryz.lays194 blk off cap zs w hH hsz hcap
open Go.RowKit Go.Lib Go.Sort in
theorem Tryz.slices_Compact_string_empty (a : Option Addr) (cap : Nat) (w : World) :
    Calls Tryz.prog 102 #[.slice a 0 cap] w fun e w' => e = .returned (.slice a 0 cap) ∧ w' = w := Any.slices_Compact_string_empty Tryz.lays194 a cap w
open Go.RowKit Go.Sort in
theorem Tryz.slices_Sort_string_none (p : Option Addr) (cap : Nat) (w : World) :
    Calls Tryz.prog 101 #[.slice p 0 cap] w fun e w' => e = .returned (.tuple #[]) ∧ w' = w := Any.slices_Sort_string_none Tryz.lays190 p cap w
def Tryz.laysSlH10_f170_ren : Go.Shelf.Ren := ⟨fun | 10 => 53 | 6 => 87 | n => n, fun | 22 => 22 | 23 => 9 | 25 => 55 | 3 => 3 | 4 => 4 | 0 => 0 | n => n, fun | n => n⟩
theorem Tryz.laysSlH10_f170 : Go.Proofs.SlLaysH.n10 Tryz.prog Tryz.laysSlH10_f170_ren := {
  mixed := by kernel_rfl
  f6 := ⟨Tryz.f87.name, by decide, Tryz.func87.trans (congrArg some (by kernel_rfl))⟩
  f10 := ⟨Tryz.f53.name, by decide, Tryz.func53.trans (congrArg some (by kernel_rfl))⟩
  t0 := Tryz.underlying0
  a0 := Tryz.isAgg0
  z0 := Tryz.sizeOf0
  v0 := Tryz.zeroValue0
  t3 := Tryz.underlying3
  a3 := Tryz.isAgg3
  z3 := Tryz.sizeOf3
  v3 := Tryz.zeroValue3
  t4 := Tryz.underlying4
  a4 := Tryz.isAgg4
  z4 := Tryz.sizeOf4
  v4 := Tryz.zeroValue4
  t22 := Tryz.underlying22
  a22 := Tryz.isAgg22
  z22 := Tryz.sizeOf22
  v22 := Tryz.zeroValue22
  a23 := Tryz.isAgg9
  z23 := Tryz.sizeOf9
  t25 := Tryz.underlying55
  a25 := Tryz.isAgg55
  z25 := Tryz.sizeOf55
  v25 := Tryz.zeroValue55 }
open Go.RowKit Go.Lib Go.Sort in
theorem Tryz.slices_DeleteFunc {α : Type} [Inhabited α] (enc : α → Value) (hO : OneCell enc) (p : α → Bool) (g : Nat) (lb : Array Value) (eg : ∀ args w, (callFunc g args).run Tryz.prog w = .ok (.enter g args) w) (zr : α) (v23 : ∀ w, (zeroValue 9).run Tryz.prog w = .ok (enc zr) w) (blk off cap : Nat) (d : Array α) (w : World) (hp : PredAt Tryz.prog g lb enc p w) (hpo : PredOver Tryz.prog g lb enc p blk off d.size w) (hH : Holds enc w blk off d) (hsz : d.size ≤ 9223372036854775807) (hcap : d.size ≤ cap) :
    Calls Tryz.prog 53 #[.slice (some ⟨blk, off, none⟩) d.size cap, .func (.func g) #[] lb] w fun e w' => e = .returned (.slice (some ⟨blk, off, none⟩) (d.toList.filter fun x => !p x).length cap) ∧ ∃ q, w' = putRow enc (Sort.ahead w q) blk off ((d.toList.filter fun x => !p x) ++ List.replicate (d.size - (d.toList.filter fun x => !p x).length) zr).toArray := AnyE.slices_DeleteFunc Tryz.laysSlH10_f170 enc hO p g lb eg zr v23 blk off cap d w hp hpo hH hsz hcap
end Go.Proofs

/- Texts put to a sorted list (put of the program): concat, sort, compact. -/
namespace Go.Proofs.YtmdbhcoioimlmaaGreat
open Go.RowKit Go.Sort

/-! What compacting leaves. -/
theorem compact_sub (zs : List (List UInt8)) : (Lib.compact zs).Sublist zs := by
  have h : ((List.range zs.toArray.size).map (zs.toArray[·]!)) = zs := by have := Lib.range_map_get zs.toArray; simpa using this
  unfold Lib.compact Lib.compactUpTo
  have h2 := ((List.filter_sublist (l := List.range zs.length) (p := Lib.keeps zs.toArray)).map (zs.toArray[·]!))
  rw [show (List.range zs.length).map (zs.toArray[·]!) = zs by simpa using h] at h2
  exact h2
theorem compact_has (d : Array (List UInt8)) (m : Nat) : ∀ j, j < m → d[j]! ∈ Lib.compactUpTo d m := by
  intro j
  induction j with
  | zero =>
    intro hj
    exact List.mem_map.2 ⟨0, List.mem_filter.2 ⟨List.mem_range.2 hj, Lib.keeps_lt_one d 0 (by omega)⟩, rfl⟩
  | succ j ih =>
    intro hj
    by_cases h : d[j + 1]! = d[j]!
    · rw [h]; exact ih (by omega)
    · exact List.mem_map.2 ⟨j + 1, List.mem_filter.2 ⟨List.mem_range.2 hj, Lib.keeps_pos (by simpa using h)⟩, rfl⟩
theorem compact_mem (zs : List (List UInt8)) (x : List UInt8) : x ∈ Lib.compact zs ↔ x ∈ zs := by
  constructor
  · exact fun h => (compact_sub zs).subset h
  · intro h
    obtain ⟨j, hj, rfl⟩ := List.getElem_of_mem h
    have := compact_has zs.toArray zs.length j hj
    simpa [Lib.compact, getElem!_pos, hj] using this

/-- The bytes of texts. -/
def bl (L : List ByteArray) : List (List UInt8) := L.map (·.data.toList)
/-- Texts put together, sorted, each once. -/
def putB (L : List ByteArray) : List (List UInt8) := Lib.compact ((bl L).mergeSort fun x y => decide (x ≤ y))
theorem putB_mem (L : List ByteArray) (x : List UInt8) : x ∈ putB L ↔ x ∈ bl L := by
  unfold putB
  rw [compact_mem, (List.mergeSort_perm _ _).mem_iff]
/-- A part of them in some order. -/
theorem putB_perm (L : List ByteArray) : ∃ M, (putB L).Sublist M ∧ M.Perm (bl L) := ⟨_, compact_sub _, List.mergeSort_perm _ _⟩
theorem scells_bl (L : List ByteArray) : scells L = (bl L).map encStr := by
  unfold scells bl
  rw [List.map_map]
  apply List.map_congr_left
  intro x _
  rfl
theorem ofB (M : List (List UInt8)) : scells (M.map fun b => (⟨b.toArray⟩ : ByteArray)) = M.map encStr := by
  unfold scells
  rw [List.map_map]
  rfl
def putS (L : List ByteArray) : List ByteArray := (putB L).map fun b => (⟨b.toArray⟩ : ByteArray)

theorem growS_c (n : Nat) (w : World) (hn : n ≤ 1099511627776) :
    Calls Tryz.prog 118 #[.slice none 0 0, .int .i64 n] w (GivesS w []) := by
  obtain ⟨i0, hi0, hz0, hz1, hz2⟩ := info_parts Tryz.infoStr
  rcases Nat.eq_zero_or_pos n with rfl | h0
  · go_enter Tryz.func118, Tryz.ntmps118
    go_wp2_with fail
    go_ret
    exact ⟨_, rfl, OwnS.nil_ _ _, Grew.refl _⟩
  · have hr := fun ty => run_grow_nil (P := Tryz.prog) w 22 3 ty 9 i0 _ 1 Tryz.underlying22 Tryz.underlying3 hi0 hz0 hz1 rfl (by omega) n h0 (by rw [hz2]; omega) (by omega)
    have HR := Lib.hid hr
    clear hr hz0 hz1 hz2 hi0
    go_enter Tryz.func118, Tryz.ntmps118
    go_wp2_with (at_builtin; obtain ⟨G, cs, hG1, hG2, hcs, hrun⟩ := HR.out _; refine Lib.wpList_append_run _ rfl _ _ _ _ rfl _ _ rfl rfl _ _ hrun ?_; have HC := Lib.hid hcs; clear hcs hrun)
    go_ret
    refine ⟨_, rfl, ?_, ((Grew.refl w).alloc _).drew⟩
    exact OwnS.mk_ (L := []) (Nat.le_refl _) (blk_new w _) (by simp) hG2 (by have := HC.out; omega) (by simp)

/-- 'out = append(out, xs...)', out a row of strings of the call's own. -/
theorem wpList_appSs {ops : Array Oper} {rest : List Oper} {o : Oper} {a : Act} {Q : Exit → Act → World → Prop} {w w0 : World} (s x : Operand) (hgd : o.guard = none)
    (ho : o.op = .call { callee := .builtin .append, args := #[s, x], argTypes := #[22, 22] })
    (v : Value) (L : List ByteArray) (hs : a.eval s = v) (hown : OwnS w w0.heap.size v L) (hg : Grew w0 w) (vx : Value) (K : List ByteArray) (hx : a.eval x = vx) (hr : Strs w vx K) (hn : L.length + K.length ≤ 1099511627776)
    (h : ∀ v' w', OwnS w' w0.heap.size v' (L ++ K) → Grew w0 w' → w.grownBy w' v.ownBlock → wpList Tryz.prog ops Q rest (a.put o.dst v') w') : wpList Tryz.prog ops Q (o :: rest) a w := by
  obtain ⟨i0, hi0, hz0, hz1, hz2⟩ := info_parts Tryz.infoStr
  refine wpList_append_rd w hgd s x _ ho w0.heap.size 9 i0 _ 1 16 Tryz.underlying22 hi0 hz0 hz1 hz2 rfl (by omega) v L.length (scells L) hs hown vx K.length (scells K) hx hr (scells_one K) (by unfold maxLen; omega) (by omega) hg.size ?_
  intro v' w' h1 h2 h3
  refine h v' w' ?_ (hg.grown h2 fun k hk => (hown.lt k hk).1) h2
  unfold OwnS
  rw [List.length_append, scells_append]
  exact h1

set_option maxHeartbeats 2000000 in
/-- Two lists, one behind the other. -/
theorem concat2_c (b : Nat) (A1 A2 : Option Addr) (c1 c2 : Nat) (L K : List ByteArray) (w : World) (h1 : Strs w (.slice A1 L.length c1) L) (h2 : Strs w (.slice A2 K.length c2) K)
    (k1 : ∀ W, Grew w W → W.cell? ⟨b, 0, none⟩ = some (.slice A1 L.length c1)) (k2 : ∀ W, Grew w W → W.cell? ⟨b, 1, none⟩ = some (.slice A2 K.length c2)) (hn : L.length + K.length ≤ 1099511627776) :
    Calls Tryz.prog 100 #[.slice (some ⟨b, 0, none⟩) 2 2] w (GivesS w (L ++ K)) := by
  have H1 := Lib.hid h1
  have H2 := Lib.hid h2
  have KG := Lib.hid (growS_c (L.length + K.length) w hn)
  have e1 : IntKind.i64.wrap ((L.length : Int) + (K.length : Int)) = (L.length : Int) + (K.length : Int) := by rw [IntKind.wrap_i64]; omega
  have p1 := k1 _ (Grew.refl _)
  have p2 := k2 _ (Grew.refl _)
  have eKG : ((L.length + K.length : Nat) : Int) = (L.length : Int) + (K.length : Int) := by omega
  rw [eKG] at KG
  have hL0 : (0 : Int) ≤ (L.length : Int) := by omega
  have hK0 : (0 : Int) ≤ (L.length : Int) + (K.length : Int) := by omega
  have hL1 : L.length ≤ 1099511627776 := by omega
  clear h1 h2 eKG
  go_enter Tryz.func100, Tryz.ntmps100
  go_wp2_with fail
  refine wp_loop_rounds 3 ?_
  rw [rounds_succ]
  go_wp2_with fail
  rw [rounds_succ]
  go_wp2_with fail
  rw [rounds_succ]
  go_wp2_with fail
  refine (KG.out).mono ?_
  rintro e w1 ⟨v1, rfl, ho1, hg1⟩
  have q1 := k1 _ hg1
  have r1 := Lib.hid (H1.out.grew hg1)
  go_wp2_with fail
  refine wp_loop_rounds 3 ?_
  rw [rounds_succ]
  go_wp2_with (first | (at_builtin; refine wpList_appSs (w0 := w) _ _ rfl rfl _ [] rfl ho1 hg1 _ L rfl r1.out (by simp; omega) ?_; intro v2 w2 hown2 hg2 _))
  rw [rounds_succ]
  have q2 := k2 _ hg2
  have r2 := Lib.hid (H2.out.grew hg2)
  go_wp2_with (first | (at_builtin; refine wpList_appSs (w0 := w) _ _ rfl rfl _ _ rfl hown2 hg2 _ K rfl r2.out (by simp; omega) ?_; intro v3 w3 hown3 hg3 _))
  rw [rounds_succ]
  go_wp2_with fail
  go_ret
  exact ⟨_, rfl, by simpa using hown3, hg3⟩
end Go.Proofs.YtmdbhcoioimlmaaGreat

/- put of the program. -/
namespace Go.Proofs.YtmdbhcoioimlmaaGreat
open Go.RowKit Go.Sort

theorem left_put {w w1 : World} {g cap n nn q : Nat} {os : Array Obj} {ss : List (List UInt8)} (hown : w1.ownsRow w.heap.size 9 1 (.slice (some ⟨g, 0, none⟩) n cap) n (ss.map encStr)) (hbel : Grew w w1) (hbg : w.heap.size ≤ g) (hlen : ss.length = n) :
    (putRow encStr (Sort.ahead (grow (putRow encStr (Sort.ahead w1 nn) g 0 (ss.mergeSort fun x y => decide (x ≤ y)).toArray) os) q) g 0 (Lib.compact (ss.mergeSort fun x y => decide (x ≤ y)) ++ List.replicate (n - (Lib.compact (ss.mergeSort fun x y => decide (x ≤ y))).length) []).toArray).ownsRow w.heap.size 9 1 (.slice (some ⟨g, 0, none⟩) (Lib.compact (ss.mergeSort fun x y => decide (x ≤ y))).length cap) (Lib.compact (ss.mergeSort fun x y => decide (x ≤ y))).length ((Lib.compact (ss.mergeSort fun x y => decide (x ≤ y))).map encStr) ∧
    Grew w (putRow encStr (Sort.ahead (grow (putRow encStr (Sort.ahead w1 nn) g 0 (ss.mergeSort fun x y => decide (x ≤ y)).toArray) os) q) g 0 (Lib.compact (ss.mergeSort fun x y => decide (x ≤ y)) ++ List.replicate (n - (Lib.compact (ss.mergeSort fun x y => decide (x ≤ y))).length) []).toArray) := by
  have hl2 : (ss.mergeSort fun x y => decide (x ≤ y)).length = ss.length := List.length_mergeSort ss
  have hle := Lib.compact_length_le (ss.mergeSort fun x y => decide (x ≤ y))
  subst hlen
  rcases hown.2 with ⟨h0, _⟩ | ⟨g', cap', cur, hv, hbase, hb, h1, h2, h3, h4⟩
  · cases h0
  cases hv
  have hs := ownsRow_sorted (n := nn) (os := os) (ts := ss.mergeSort fun x y => decide (x ≤ y)) hl2 hbase hb h1 h2 h3
  have hc := Lib.ownsRow_putRow (q := q) (k := (Lib.compact (ss.mergeSort fun x y => decide (x ≤ y))).length) (ys := Lib.compact (ss.mergeSort fun x y => decide (x ≤ y)) ++ List.replicate (ss.length - (Lib.compact (ss.mergeSort fun x y => decide (x ≤ y))).length) []) hs (by simp; omega) (by omega)
  rw [List.take_left] at hc
  exact ⟨hc, Lib.below_putRow (Below.grown hbel (grownBy_sorted _) hbel.size (fun j hj => by cases hj; exact hbase)) hbg⟩

theorem putS_nil : putS [] = [] := by simp [putS, putB, bl, Lib.compact, Lib.compactUpTo]

set_option maxHeartbeats 2000000 in
theorem put_c (v vt : Value) (L K : List ByteArray) (w : World) (h : Strs w v L) (hk : Strs w vt K) (hn : L.length + K.length ≤ 1099511627776) :
    Calls Tryz.prog 76 #[v, vt] w fun e w' => ∃ u, e = .returned u ∧ OwnS w' w.heap.size u (putS (L ++ K)) ∧ Grew w w' := by
  obtain ⟨A1, c1, rfl⟩ := strs_slice h
  obtain ⟨A2, c2, rfl⟩ := strs_slice hk
  have HAL := Lib.hid ((Grew.refl w).alloc (.cells #[.slice A1 L.length c1, .slice A2 K.length c2] 22))
  have KC := Lib.hid (concat2_c w.heap.size A1 A2 c1 c2 L K (w.alloc (.cells #[.slice A1 L.length c1, .slice A2 K.length c2] 22)) (h.grew HAL.out) (hk.grew HAL.out)
    (fun W hW => (hW.cell (p := ⟨w.heap.size, 0, none⟩) (by simp)).trans (by simp)) (fun W hW => (hW.cell (p := ⟨w.heap.size, 1, none⟩) (by simp)).trans (by simp)) hn)
  have hll : (L ++ K).length ≤ 1099511627776 := by rw [List.length_append]; exact hn
  clear h hk
  generalize L ++ K = M at *
  by_cases hM : M = []
  · subst hM
    rw [putS_nil]
    have KS := Lib.hid (fun p cap w => Tryz.slices_Sort_string_none p cap w)
    have KT := Lib.hid (fun p cap w => Tryz.slices_Compact_string_empty p cap w)
    go_enter Tryz.func76, Tryz.ntmps76
    go_wp2_with fail
    refine (KC.out).mono ?_
    rintro e w1 ⟨v1, rfl, ho1, hg1⟩
    obtain ⟨A, c, rfl⟩ := strs_slice ho1.strs
    simp only [List.length_nil]
    go_wp2_with fail
    refine (KS.out _ _ _).mono ?_
    rintro e w2 ⟨rfl, rfl⟩
    go_wp2_with fail
    refine (KT.out _ _ _).mono ?_
    rintro e w3 ⟨rfl, rfl⟩
    go_wp2_with fail
    go_ret
    exact ⟨_, rfl, ho1.base HAL.out.size, HAL.out.trans hg1⟩
  · have hpos : 0 < M.length := List.length_pos_iff.2 hM
    have hbl : (bl M).length = M.length := by simp [bl]
    have hP : putS M = (Lib.compact ((bl M).mergeSort fun x y => decide (x ≤ y))).map fun b => (⟨b.toArray⟩ : ByteArray) := rfl
    have hPL : (putS M).length = (Lib.compact ((bl M).mergeSort fun x y => decide (x ≤ y))).length := by rw [hP]; simp
    have HEND := Lib.hid (fun (w' : World) g cap (hown : w'.ownsRow w.heap.size 9 1 (.slice (some ⟨g, 0, none⟩) (Lib.compact ((bl M).mergeSort fun x y => decide (x ≤ y))).length cap) (Lib.compact ((bl M).mergeSort fun x y => decide (x ≤ y))).length ((Lib.compact ((bl M).mergeSort fun x y => decide (x ≤ y))).map encStr)) =>
      (show OwnS w' w.heap.size (.slice (some ⟨g, 0, none⟩) (Lib.compact ((bl M).mergeSort fun x y => decide (x ≤ y))).length cap) (putS M) from by
        have hr := hown
        unfold OwnS
        rw [hPL]
        have e := ofB (Lib.compact ((bl M).mergeSort fun x y => decide (x ≤ y)))
        rw [← hP] at e
        rw [e]
        exact hr))
    have HSC := scells_bl M
    clear hM hP hPL
    go_enter Tryz.func76, Tryz.ntmps76
    go_wp2_with fail
    refine (KC.out).mono ?_
    rintro e w1 ⟨v1, rfl, ho1, hg1⟩
    have g1 := HAL.out.trans hg1
    have ho2 : w1.ownsRow w.heap.size 9 1 v1 M.length ((bl M).map encStr) := by
      have := ho1.base HAL.out.size
      unfold OwnS at this
      rw [HSC] at this
      exact this
    obtain ⟨g, cap, rfl, hbg, hgl, hncap, hcm, hlen, hH⟩ := Lib.holds_of_ownsRow ho2 (by
      intro h0
      rw [h0] at ho2
      rcases ho2.2 with ⟨_, h3⟩ | ⟨_, _, _, h3, _⟩
      · omega
      · cases h3)
    have hcm2 : cap ≤ 9223372036854775807 := hcm
    have KS := Tryz.slices_Sort_string g 0 cap (bl M) w1 hH hgl (by omega)
    rw [hlen] at KS
    replace KS := Lib.hid KS
    have X := Lib.hid (show _ ∧ _ from ⟨ho2, hH⟩)
    have KT := Lib.hid (fun (nn : Nat) (os : Array Obj) => (by
      have hl2 : ((bl M).mergeSort fun x y => decide (x ≤ y)).length = M.length := by rw [List.length_mergeSort]; exact hlen
      have hH2 : Holds encStr (grow (putRow encStr (Sort.ahead w1 nn) g 0 ((bl M).mergeSort fun x y => decide (x ≤ y)).toArray) os) g 0 ((bl M).mergeSort fun x y => decide (x ≤ y)).toArray :=
        holds_grow encStr _ os g 0 _ (by simpa [putRow, mapBlock, Sort.ahead] using hgl) (holds_putRow encStr _ g 0 _ _ (holds_ahead encStr w1 nn g 0 _ hH) (by simp))
      have hc := Tryz.slices_Compact_string g 0 cap ((bl M).mergeSort fun x y => decide (x ≤ y)) _ hH2 (by omega) (by omega)
      rw [hl2] at hc
      exact hc))
    clear ho1 ho2 hH HSC hbl
    go_wp2_with fail
    refine (KS.out).mono ?_
    rintro e w2 ⟨rfl, nn, os, rfl⟩
    go_wp2_with fail
    refine (KT.out nn os).mono ?_
    rintro e w3 ⟨rfl, q, rfl⟩
    go_wp2_with fail
    go_ret
    obtain ⟨z1, z2⟩ := left_put (nn := nn) (q := q) (os := os) X.out.1 g1 hbg hlen
    exact ⟨_, rfl, HEND.out _ _ _ z1, z2⟩
end Go.Proofs.YtmdbhcoioimlmaaGreat

/- slices.Index, slices.Contains, slices.Clone at texts. -/
namespace Go.Proofs.YtmdbhcoioimlmaaGreat
open Go.RowKit

theorem bytes_ne' {a b : ByteArray} (h : a ≠ b) : (a.toList == b.toList) = false := by
  rw [beq_eq_false_iff_ne]
  intro he
  exact h (by rw [Lib.toList_data, Lib.toList_data] at he; cases a; cases b; simpa using he)
theorem bytes_eq' (a : ByteArray) : (a.toList == a.toList) = true := by simp
/-- The first k texts are others. -/
def NotS (L : List ByteArray) (s : ByteArray) (k : Nat) : Prop := ∀ i, i < k → st L i ≠ s
theorem NotS.zero (L : List ByteArray) (s : ByteArray) : NotS L s 0 := fun i hi => absurd hi (by omega)
theorem NotS.succ {L : List ByteArray} {s : ByteArray} {k : Nat} (h : NotS L s k) (h1 : st L k ≠ s) : NotS L s (k + 1) := by
  intro i hi
  rcases Nat.lt_or_ge i k with hk | hk
  · exact h i hk
  · obtain rfl : i = k := by omega
    exact h1
theorem notS_all {L : List ByteArray} {s : ByteArray} (h : NotS L s L.length) : ¬ s ∈ L := by
  intro hm
  obtain ⟨i, hi, he⟩ := List.getElem_of_mem hm
  exact h i hi (by rw [← st_get hi, he])
theorem st_mem {L : List ByteArray} {k : Nat} (hk : k < L.length) : st L k ∈ L := by rw [← st_get hk]; exact List.getElem_mem hk

theorem indexS_c (v : Value) (L : List ByteArray) (s : ByteArray) (w : World) (h : Strs w v L) (hn : L.length ≤ 1099511627776) :
    Calls Tryz.prog 97 #[v, .string s] w fun e w' => ∃ r : Int, e = .returned (.int .i64 r) ∧ Grew w w' ∧ decide (0 ≤ r) = dc (s ∈ L) := by
  obtain ⟨R, hR⟩ : ∃ R, R = dc (s ∈ L) := ⟨_, rfl⟩
  rw [← hR]
  rcases h.open_ with ⟨rfl, rfl⟩ | ⟨b, o, c, rfl, hc, hm, hb, hcell⟩
  · have hv := Lib.hid (hR.trans (dc_false (by simp)))
    clear h hR
    go_enter Tryz.func97, Tryz.ntmps97
    go_wp2_with fail
    refine wp_loop_rounds 1 ?_; rw [rounds_succ]
    go_wp2_with fail
    go_ret
    exact ⟨_, rfl, Grew.refl _, by rw [hv.out]; rfl⟩
  have HA := Lib.hid (fun k (hk : k < L.length) (he : st L k = s) => hR.trans (dc_true (by rw [← he]; exact st_mem hk)))
  have HZ := Lib.hid (fun h => hR.trans (dc_false (@notS_all L s h)))
  have HC := Lib.hid hcell
  clear h hcell hR
  generalize hN : L.length = n at *
  clear hN
  go_enter Tryz.func97, Tryz.ntmps97
  go_wp2_with fail
  go_loopw [8] (fun i wr => ∃ j : Nat, j ≤ n ∧ i = .int .i64 j ∧ Grew w wr ∧ Hid (NotS L s j)) (fun i _ => n - (intOf i).toNat)
  case atStart => exact ⟨0, Nat.zero_le _, rfl, Grew.refl _, NotS.zero _ _⟩
  case round =>
    obtain ⟨j, hj, rfl, hB, HJ⟩ := hrel
    by_cases hlt : j < n
    · have k1 := HC.out j hlt _ hB
      have hA := Lib.hid (HA.out j hlt)
      have hS := Lib.hid (fun h => HJ.out.succ (k := j) h)
      generalize st L j = x at *
      by_cases hx : x = s
      · have hv := Lib.hid (hA.out hx)
        subst hx
        have q1 := bytes_eq' x
        clear hA hS
        go_wp2_with fail
        go_ret
        exact ⟨_, rfl, hB, by rw [hv.out]; simp⟩
      · have hs := Lib.hid (hS.out hx)
        have q1 := bytes_ne' (fun e : s = x => hx e.symm)
        have q2 := bytes_ne' hx
        clear hA hS hx
        go_wp2_with fail
        go_roundw
        case rel => exact ⟨j + 1, by omega, by go_num, hB, hs⟩
        case measure => simp [intOf]; omega
    · obtain rfl : j = n := by omega
      have hv := Lib.hid (HZ.out HJ.out)
      go_wp2_with fail
      go_ret
      exact ⟨_, rfl, hB, by rw [hv.out]; rfl⟩
theorem containsS_c (v : Value) (L : List ByteArray) (s : ByteArray) (w : World) (h : Strs w v L) (hn : L.length ≤ 1099511627776) :
    Calls Tryz.prog 73 #[v, .string s] w fun e w' => e = .returned (.bool (dc (s ∈ L))) ∧ Grew w w' := by
  have HI := Lib.hid (indexS_c v L s w h hn)
  obtain ⟨A, c, rfl⟩ := strs_slice h
  clear h
  generalize dc (s ∈ L) = R at *
  go_enter Tryz.func73, Tryz.ntmps73
  go_wp2_with fail
  refine HI.out.mono ?_
  rintro e w1 ⟨r, rfl, hg1, hr⟩
  go_wp2_with fail
  go_ret
  exact ⟨by rw [← hr]; rfl, hg1⟩

theorem own_emptyS' (w : World) : OwnS (w.alloc (.cells #[] 9)) w.heap.size (.slice (some ⟨w.heap.size, 0, none⟩) 0 0) [] :=
  World.ownsRow_lit (e := 9) (size := 1) w #[] 0 (Nat.le_refl _) (by omega) rfl
theorem cloneS_c (v : Value) (L : List ByteArray) (w : World) (h : Strs w v L) (hn : L.length ≤ 1099511627776) :
    Calls Tryz.prog 54 #[v] w (GivesS w L) := by
  have q : ∀ (w : World) (a : Option Addr) (n c n' c' : Nat), (binOp .eql 22 (.slice a n c) (.slice none n' c')).run Tryz.prog w = .ok (.bool a.isNone) w := fun w a n c n' c' => Lib.run_eql_slice_nil w _ _ a n c n' c' Tryz.underlying22
  have he := own_emptyS' w
  rcases h.open_ with ⟨rfl, rfl⟩ | ⟨b, o, c, rfl, hc, hm, hb, hf⟩
  · clear he h
    go_enter Tryz.func54, Tryz.ntmps54
    go_wp2_with fail
    go_ret
    exact ⟨_, rfl, OwnS.nil_ _ _, Grew.refl _⟩
  · clear hf
    go_enter Tryz.func54, Tryz.ntmps54
    go_wp2_with (first
      | (at_builtin; refine wpList_appSs (w0 := w) _ _ rfl rfl _ [] rfl he ((Grew.refl w).alloc _) _ L rfl (h.grew ((Grew.refl w).alloc _)) (by simp; omega) ?_; intro v1 w1 hown1 hg1 _))
    go_ret
    exact ⟨_, rfl, by simpa using hown1, hg1⟩
end Go.Proofs.YtmdbhcoioimlmaaGreat

/- drop of the program: a list without a text. -/
namespace Go.Proofs.YtmdbhcoioimlmaaGreat
open Go.RowKit Go.Sort

/-- A list without a text. -/
noncomputable def dropS (L : List ByteArray) (t : ByteArray) : List ByteArray := L.filter fun x => !dc (x = t)
theorem dropS_nil (t : ByteArray) : dropS [] t = [] := rfl

theorem drop1_c (s t : ByteArray) (bt : Nat) (W : World) (k : W.cell? ⟨bt, 0, none⟩ = some (.string t)) :
    Calls Tryz.prog 89 #[.string s, .pointer (some ⟨bt, 0, none⟩)] W fun e W' => e = .returned (.bool (dc (s = t))) ∧ W' = W := by
  by_cases h : s = t
  · rw [dc_true h]
    subst h
    have q1 := bytes_eq' s
    go_enter Tryz.func89, Tryz.ntmps89
    go_wp2_with fail
    go_ret
    exact ⟨rfl, rfl⟩
  · rw [dc_false h]
    have q1 := bytes_ne' h
    go_enter Tryz.func89, Tryz.ntmps89
    go_wp2_with fail
    go_ret
    exact ⟨rfl, rfl⟩

theorem indexFunc0_c (A : Option Addr) (c : Nat) (fv : Value) (w : World) : Calls Tryz.prog 87 #[.slice A 0 c, fv] w fun e w' => e = .returned (.int .i64 (-1)) ∧ w' = w := by
  go_enter Tryz.func87, Tryz.ntmps87
  go_wp2_with fail
  refine wp_loop_rounds 1 ?_; rw [rounds_succ]
  go_wp2_with fail
  go_ret
  exact ⟨rfl, rfl⟩
theorem deleteFunc0_c (A : Option Addr) (c : Nat) (fv : Value) (w : World) : Calls Tryz.prog 53 #[.slice A 0 c, fv] w fun e w' => e = .returned (.slice A 0 c) ∧ w' = w := by
  have K := Lib.hid (indexFunc0_c A c fv w)
  go_enter Tryz.func53, Tryz.ntmps53
  go_wp2_with fail
  refine (K.out).mono ?_
  rintro e w1 ⟨rfl, rfl⟩
  go_wp2_with fail
  go_ret
  exact ⟨rfl, rfl⟩
theorem oneS : OneCell Value.string := fun _ => rfl

/-- The world behind DeleteFunc. -/
theorem left_drop {w0 w : World} {L : List ByteArray} {t : ByteArray} {g cap q : Nat} (hown : w.ownsRow w0.heap.size 9 1 (.slice (some ⟨g, 0, none⟩) L.length cap) L.length (L.map Value.string)) (hg : w0.heap.size ≤ g) (hb : Grew w0 w) :
    OwnS (putRow Value.string (Sort.ahead w q) g 0 ((L.toArray.toList.filter fun x => !dc (x = t)) ++ List.replicate (L.toArray.size - (L.toArray.toList.filter fun x => !dc (x = t)).length) ByteArray.empty).toArray) w0.heap.size (.slice (some ⟨g, 0, none⟩) (L.toArray.toList.filter fun x => !dc (x = t)).length cap) (dropS L t) ∧
    Grew w0 (putRow Value.string (Sort.ahead w q) g 0 ((L.toArray.toList.filter fun x => !dc (x = t)) ++ List.replicate (L.toArray.size - (L.toArray.toList.filter fun x => !dc (x = t)).length) ByteArray.empty).toArray) := by
  have hle : (L.filter fun x => !dc (x = t)).length ≤ L.length := List.length_filter_le _ _
  have hc := Lib.ownsRow_putRow (q := q) (k := (L.filter fun x => !dc (x = t)).length) (ys := (L.filter fun x => !dc (x = t)) ++ List.replicate (L.length - (L.filter fun x => !dc (x = t)).length) ByteArray.empty) hown (by simp; omega) hle
  rw [List.take_left] at hc
  exact ⟨hc, Lib.below_putRow hb hg⟩

set_option maxHeartbeats 2000000 in
theorem dropO_c (v : Value) (L : List ByteArray) (t : ByteArray) (w : World) (h : Strs w v L) (hn : L.length ≤ 1099511627776) :
    Calls Tryz.prog 58 #[v, .string t] w (GivesS w (dropS L t)) := by
  have hal := Lib.hid ((Grew.refl w).alloc (.cells #[.string t] 9))
  have KC := Lib.hid (cloneS_c v L _ (h.grew hal.out) hn)
  obtain ⟨A, c, rfl⟩ := strs_slice h
  clear h
  by_cases hL : L = []
  · subst hL
    rw [dropS_nil]
    have KD := Lib.hid (fun A c fv w => deleteFunc0_c A c fv w)
    go_enter Tryz.func58, Tryz.ntmps58
    go_wp2_with fail
    refine (KC.out).mono ?_
    rintro e w1 ⟨v1, rfl, ho1, hg1⟩
    obtain ⟨A1, c1, rfl⟩ := strs_slice ho1.strs
    simp only [List.length_nil]
    go_wp2_with fail
    refine (KD.out _ _ _ _).mono ?_
    rintro e w2 ⟨rfl, rfl⟩
    go_wp2_with fail
    go_ret
    exact ⟨_, rfl, ho1.base hal.out.size, hal.out.trans hg1⟩
  · have hpos : 0 < L.length := List.length_pos_iff.2 hL
    have eg : ∀ args w, (callFunc 89 args).run Tryz.prog w = .ok (.enter 89 args) w := enters_of Tryz.func89 (by kernel_rfl) rfl
    have zr : ∀ w, (zeroValue 9).run Tryz.prog w = .ok (.string ByteArray.empty) w := Tryz.zeroValue9
    clear hL
    go_enter Tryz.func58, Tryz.ntmps58
    go_wp2_with fail
    refine (KC.out).mono ?_
    rintro e w1 ⟨v1, rfl, ho1, hg1⟩
    have g1 := hal.out.trans hg1
    have hbt : w1.cell? ⟨w.heap.size, 0, none⟩ = some (.string t) := (hg1.cell (p := ⟨w.heap.size, 0, none⟩) (by simp)).trans (by simp)
    have hbl : w.heap.size < w1.heap.size := by have := hg1.size; simp at this; omega
    have ho2 : w1.ownsRow (w.alloc (.cells #[.string t] 9)).heap.size 9 1 v1 L.length (L.map Value.string) := ho1
    obtain ⟨g, cap, rfl, hbg, hgl, hncap, hcm, hlen, hH⟩ := Lib.holds_of_ownsRow ho2 (by
      intro h0
      rw [h0] at ho2
      rcases ho2.2 with ⟨_, h3⟩ | ⟨_, _, _, h3, _⟩
      · omega
      · cases h3)
    have hcm2 : cap ≤ 9223372036854775807 := hcm
    have hgw : w.heap.size < g := by simp at hbg; omega
    have KD := Tryz.slices_DeleteFunc Value.string oneS (fun x => dc (x = t)) 89 #[.pointer (some ⟨w.heap.size, 0, none⟩)] eg ByteArray.empty zr g 0 cap L.toArray w1
      (fun W x hb => (drop1_c x t w.heap.size W ((hb.cell (p := ⟨w.heap.size, 0, none⟩) hbl).trans hbt)).mono fun e W' ⟨h1, h2⟩ => ⟨h1, 0, by rw [h2]; rfl⟩)
      (fun n os dk x hs => (drop1_c x t w.heap.size _ (by
        unfold sortWorld
        rw [cell?_grow _ _ _ (by simpa [putRow, mapBlock, Sort.ahead] using hbl), cell?_putRow_other _ _ _ _ _ _ (.inl (by show w.heap.size ≠ g; omega))]
        exact hbt)).mono fun e W' ⟨h1, h2⟩ => ⟨h1, 0, by rw [h2]; rfl⟩)
      hH (by simp; omega) (by simp; omega)
    have KE : L.toArray.size = L.length := by simp
    rw [show (Value.slice (some ⟨g, 0, none⟩) L.toArray.size cap) = .slice (some ⟨g, 0, none⟩) L.length cap by rw [KE]] at KD
    replace KD := Lib.hid KD
    have HEND := Lib.hid (fun q => @left_drop w w1 L t g cap q (own_base ho2 (by simp)) (by omega) g1)
    clear ho1 ho2 hH eg zr KE
    go_wp2_with fail
    refine (KD.out).mono ?_
    rintro e w2 ⟨rfl, q, rfl⟩
    go_wp2_with fail
    go_ret
    obtain ⟨z1, z2⟩ := HEND.out q
    exact ⟨_, rfl, z1, z2⟩
theorem drop_c (v : Value) (L : List ByteArray) (t : ByteArray) (w : World) (h : Strs w v L) (hn : L.length ≤ 1099511627776) :
    Calls Tryz.prog 58 #[v, .string t] w fun e w' => ∃ u, e = .returned u ∧ Strs w' u (dropS L t) ∧ Grew w w' :=
  (dropO_c v L t w h hn).mono fun _ _ ⟨u, h1, h2, h3⟩ => ⟨u, h1, h2.strs, h3⟩
end Go.Proofs.YtmdbhcoioimlmaaGreat

/- The moves of the program's search: lists of formulas by their texts. No walk is in sight. -/
namespace Go.Proofs.YtmdbhcoioimlmaaGreat
open Go.RowKit
open Fm (Tree)

theorem fo_tx {a : Tree} (h : FmOk a) : fo (tx a) = a := by
  obtain ⟨h1, h2⟩ := fo_ok (gp_tx h)
  exact tx_inj h1.1 h.1 h2
theorem map_fo_tx {L : List Tree} (h : ∀ a ∈ L, FmOk a) : (L.map tx).map fo = L := by
  rw [List.map_map]
  have : ∀ a ∈ L, (fo ∘ tx) a = id a := fun a ha => fo_tx (h a ha)
  rw [List.map_congr_left this, List.map_id]
def mkB (b : List UInt8) : ByteArray := ⟨b.toArray⟩
theorem mkB_data (s : ByteArray) : mkB s.data.toList = s := by cases s; simp [mkB]
theorem map_mkB (T : List ByteArray) : (bl T).map mkB = T := by
  unfold bl
  rw [List.map_map]
  have : ∀ s ∈ T, (mkB ∘ fun x : ByteArray => x.data.toList) s = id s := fun s _ => mkB_data s
  rw [List.map_congr_left this, List.map_id]
theorem mkB_inj {a b : List UInt8} (h : mkB a = mkB b) : a = b := by
  have := congrArg (fun s : ByteArray => s.data.toList) h
  simpa [mkB] using this

/-- What put leaves of formulas. -/
structure PutOf (M P : List Tree) : Prop where
  ok : ∀ a ∈ P, FmOk a
  mem : ∀ a, a ∈ P ↔ a ∈ M
  tot : ∀ f : Tree → Nat, tot f P ≤ tot f M
theorem putS_of {M : List Tree} (hM : ∀ a ∈ M, FmOk a) : ∃ P, putS (M.map tx) = P.map tx ∧ PutOf M P := by
  have hmem : ∀ s, s ∈ putS (M.map tx) ↔ s ∈ M.map tx := fun s => by
    unfold putS
    constructor
    · intro h
      obtain ⟨b, hb, rfl⟩ := List.mem_map.1 h
      rw [putB_mem] at hb
      obtain ⟨s, hs, rfl⟩ := List.mem_map.1 hb
      have e : (⟨s.data.toList.toArray⟩ : ByteArray) = s := mkB_data s
      rw [e]; exact hs
    · intro h
      exact List.mem_map.2 ⟨s.data.toList, (putB_mem _ _).2 (List.mem_map.2 ⟨s, h, rfl⟩), mkB_data s⟩
  have hall : ∀ s ∈ putS (M.map tx), ∃ a ∈ M, tx a = s := fun s hs => List.mem_map.1 ((hmem s).1 hs)
  refine ⟨(putS (M.map tx)).map fo, ?_, ⟨?_, ?_, ?_⟩⟩
  · rw [List.map_map]
    have : ∀ s ∈ putS (M.map tx), (tx ∘ fo) s = id s := fun s hs => by
      obtain ⟨a, ha, rfl⟩ := hall s hs
      show tx (fo (tx a)) = tx a
      rw [fo_tx (hM a ha)]
    rw [List.map_congr_left this, List.map_id]
  · intro a ha
    obtain ⟨s, hs, rfl⟩ := List.mem_map.1 ha
    obtain ⟨b, hb, rfl⟩ := hall s hs
    rw [fo_tx (hM b hb)]; exact hM b hb
  · intro a
    constructor
    · intro ha
      obtain ⟨s, hs, rfl⟩ := List.mem_map.1 ha
      obtain ⟨b, hb, rfl⟩ := hall s hs
      rw [fo_tx (hM b hb)]; exact hb
    · intro ha
      exact List.mem_map.2 ⟨tx a, (hmem _).2 (List.mem_map.2 ⟨a, ha, rfl⟩), fo_tx (hM a ha)⟩
  · intro f
    obtain ⟨N, h1, h2⟩ := putB_perm (M.map tx)
    have e : (putS (M.map tx)).map fo = (putB (M.map tx)).map fun b => fo (mkB b) := by unfold putS; rw [List.map_map]; rfl
    rw [e]
    have h3 := tot_sub (f := f) (h1.map fun b => fo (mkB b))
    have h4 := tot_perm (f := f) (h2.map fun b => fo (mkB b))
    have h5 : (bl (M.map tx)).map (fun b => fo (mkB b)) = M := by
      have : (bl (M.map tx)).map (fun b => fo (mkB b)) = ((bl (M.map tx)).map mkB).map fo := by rw [List.map_map]; rfl
      rw [this, map_mkB, map_fo_tx hM]
    rw [h5] at h4
    omega

/-- A list without a formula. -/
noncomputable def dropT (L : List Tree) (t : Tree) : List Tree := L.filter fun a => !dc (a = t)
theorem dropT_mem {L : List Tree} {t a : Tree} : a ∈ dropT L t ↔ a ∈ L ∧ a ≠ t := by
  unfold dropT
  rw [List.mem_filter]
  constructor
  · rintro ⟨h1, h2⟩
    exact ⟨h1, fun e => by rw [dc_true e] at h2; cases h2⟩
  · rintro ⟨h1, h2⟩
    exact ⟨h1, by rw [dc_false h2]; rfl⟩
theorem dropS_of {L : List Tree} {t : Tree} (hL : ∀ a ∈ L, FmOk a) (ht : FmOk t) : dropS (L.map tx) (tx t) = (dropT L t).map tx := by
  unfold dropS dropT
  rw [List.filter_map]
  congr 1
  apply List.filter_congr
  intro a ha
  show (!dc (tx a = tx t)) = !dc (a = t)
  rw [dc_congr ⟨fun h => tx_inj (hL a ha).1 ht.1 h, fun h => by rw [h]⟩]
theorem dropT_ok {L : List Tree} {t : Tree} (hL : ∀ a ∈ L, FmOk a) : ∀ a ∈ dropT L t, FmOk a := fun a ha => hL a (dropT_mem.1 ha).1
theorem dropT_tot (f : Tree → Nat) {L : List Tree} {t : Tree} (ht : t ∈ L) : tot f (dropT L t) + f t ≤ tot f L := by
  induction L with
  | nil => cases ht
  | cons a L ih =>
    unfold dropT at *
    rw [List.filter_cons, tot_cons]
    by_cases h : a = t
    · subst h
      rw [dc_true rfl]
      have h2 : tot f (L.filter fun b => !dc (b = a)) ≤ tot f L := tot_sub List.filter_sublist
      simp only [Bool.not_true, Bool.false_eq_true, if_false]
      omega
    · rw [dc_false h]
      have := ih ((List.mem_cons.1 ht).resolve_left (fun e => h e.symm))
      simp only [Bool.not_false, if_true]
      rw [tot_cons]
      omega
theorem dropT_adds {L : List Tree} {t : Tree} (ht : t ∈ L) : Adds L (dropT L t) t := fun b => by
  rw [dropT_mem]
  constructor
  · intro hb
    by_cases h : b = t
    · exact .inr h
    · exact .inl ⟨hb, h⟩
  · rintro (h | rfl)
    · exact h.1
    · exact ht
/-- A list with formulas in the place of one. -/
def Ins (L : List Tree) (t : Tree) (K P : List Tree) : Prop := PutOf (dropT L t ++ K) P
theorem Ins.adds {L : List Tree} {t x : Tree} {P : List Tree} (h : Ins L t [x] P) : Adds P (dropT L t) x := fun b => by rw [h.mem, List.mem_append, List.mem_singleton]
theorem Ins.adds2 {L : List Tree} {t x y : Tree} {P : List Tree} (h : Ins L t [x, y] P) : Adds2 P (dropT L t) x y := fun b => by rw [h.mem, List.mem_append, List.mem_cons, List.mem_singleton]
theorem Ins.same {L : List Tree} {t : Tree} {P : List Tree} (h : Ins L t [] P) : ∀ b, b ∈ P ↔ b ∈ dropT L t := fun b => by rw [h.mem, List.append_nil]
theorem Ins.le (f : Tree → Nat) {L : List Tree} {t : Tree} {K P : List Tree} (h : Ins L t K P) (ht : t ∈ L) : tot f P + f t ≤ tot f L + tot f K := by
  have h1 := h.tot f
  rw [tot_app] at h1
  have h2 := dropT_tot f ht
  omega

/-- The premises of a rule. -/
abbrev Gl := List Tree × Tree
noncomputable def allB (ps : List Gl) : Bool := ps.all fun p => dc (EntL p.1 p.2)
/-- What is known of the premises that a formula of the left side gives. -/
def Taken (L : List Tree) (c t : Tree) (ps : List Gl) (ok : Bool) : Prop :=
  (ok = true → (∀ p ∈ ps, Mv L c p.1 p.2) ∧ dc (EntL L c) = allB ps) ∧ (ok = false → StuckL L t)
section
variable {L : List Tree} {c t : Tree}
theorem tk_one {P : List Tree} (hM : Mv L c P c) (hE : EntL L c ↔ EntL P c) : Taken L c t [(P, c)] true :=
  ⟨fun _ => ⟨fun p hp => by rw [List.mem_singleton] at hp; rw [hp]; exact hM, by simp [allB, dc_congr hE]⟩, fun h => by cases h⟩
theorem tk_and (hS : OkS L c) {x y : Tree} (ht : (.and x y) ∈ L) {P : List Tree} (h : Ins L (.and x y) [x, y] P) : Taken L c (.and x y) [(P, c)] true := by
  have a4 := h.le f4 ht
  have a2 := h.le f2 ht
  rw [tot_two] at a4 a2
  have b4 := f4_and x y
  have b2 := f2_and x y
  exact tk_one (mv_mk hS h.ok hS.2.1 (by omega) (by omega)) (el_and (dropT_adds ht) h.adds2)
theorem tk_or (hS : OkS L c) {x y : Tree} (ht : (.or x y) ∈ L) {P Q : List Tree} (h : Ins L (.or x y) [x] P) (h' : Ins L (.or x y) [y] Q) : Taken L c (.or x y) [(P, c), (Q, c)] true := by
  have a4 := h.le f4 ht
  have a2 := h.le f2 ht
  have c4 := h'.le f4 ht
  have c2 := h'.le f2 ht
  rw [tot_one] at a4 a2 c4 c2
  have b4 := f4_or x y
  have b2 := f2_or x y
  refine ⟨fun _ => ⟨fun p hp => ?_, ?_⟩, fun h => by cases h⟩
  · rcases List.mem_cons.1 hp with rfl | hp
    · exact mv_mk hS h.ok hS.2.1 (by show tot f4 P + f4 c < _; omega) (by show tot f2 P + f2 c ≤ _; omega)
    · rw [List.mem_singleton] at hp
      rw [hp]
      exact mv_mk hS h'.ok hS.2.1 (by show tot f4 Q + f4 c < _; omega) (by show tot f2 Q + f2 c ≤ _; omega)
  · have e := dc_congr (el_or (c := c) (dropT_adds ht) h.adds h'.adds)
    rw [dc_and] at e
    simp [allB, e]
theorem tk_fls (hS : OkS L c) {y : Tree} (ht : (.imp .fls y) ∈ L) {P : List Tree} (h : Ins L (.imp .fls y) [] P) : Taken L c (.imp .fls y) [(P, c)] true := by
  have a4 := h.le f4 ht
  have a2 := h.le f2 ht
  rw [tot_nil] at a4 a2
  have b4 := f4_pos (.imp .fls y)
  exact tk_one (mv_mk hS h.ok hS.2.1 (by omega) (by omega)) ((el_fls_imp (dropT_adds ht)).trans (entL_congr fun b => (h.same b).symm))
theorem tk_var (hS : OkS L c) {v : Fin 6} {y : Tree} (ht : (.imp (.var v) y) ∈ L) {P : List Tree} (h : Ins L (.imp (.var v) y) [y] P) : Taken L c (.imp (.var v) y) [(P, c)] (hasL L (.var v)) := by
  cases hh : hasL L (.var v) with
  | false => exact ⟨fun h => (by cases h), fun _ => .inr (.inl ⟨v, y, rfl, hasL_false.1 hh⟩)⟩
  | true =>
    have a4 := h.le f4 ht
    have a2 := h.le f2 ht
    rw [tot_one] at a4 a2
    have b4 := f4_imp (.var v) y
    have b2 := f2_imp (.var v) y
    exact tk_one (mv_mk hS h.ok hS.2.1 (by omega) (by omega)) (el_mp (dropT_adds ht) (dropT_mem.2 ⟨hasL_true.1 hh, by simp⟩) h.adds)
theorem tk_and_imp (hS : OkS L c) {x y z : Tree} (ht : (.imp (.and x y) z) ∈ L) {P : List Tree} (h : Ins L (.imp (.and x y) z) [.imp x (.imp y z)] P) : Taken L c (.imp (.and x y) z) [(P, c)] true := by
  have a4 := h.le f4 ht
  have a2 := h.le f2 ht
  rw [tot_one] at a4 a2
  have b4 := f4_and_imp x y z
  have b2 := f2_and_imp x y z
  exact tk_one (mv_mk hS h.ok hS.2.1 (by omega) (by omega)) (el_and_imp (dropT_adds ht) h.adds)
theorem tk_or_imp (hS : OkS L c) {x y z : Tree} (ht : (.imp (.or x y) z) ∈ L) {P : List Tree} (h : Ins L (.imp (.or x y) z) [.imp x z, .imp y z] P) : Taken L c (.imp (.or x y) z) [(P, c)] true := by
  have a4 := h.le f4 ht
  have a2 := h.le f2 ht
  rw [tot_two] at a4 a2
  have b4 := f4_or_imp x y z
  have b2 := f2_or_imp x y z
  exact tk_one (mv_mk hS h.ok hS.2.1 (by omega) (by omega)) (el_or_imp (dropT_adds ht) h.adds2)
theorem tk_none {ps : List Gl} (h : StuckL L t) : Taken L c t ps false := ⟨fun h => (by cases h), fun _ => h⟩
/-- The two premises for an implication of an implication. -/
theorem mv_ii (hS : OkS L c) {x y z : Tree} (ht : (.imp (.imp x y) z) ∈ L) {P Q : List Tree} (h : Ins L (.imp (.imp x y) z) [.imp y z] P) (h' : Ins L (.imp (.imp x y) z) [z] Q) : Mv L c P (.imp x y) ∧ Mv L c Q c ∧ (EntL P (.imp x y) → EntL Q c → EntL L c) := by
  have a4 := h.le f4 ht
  have a2 := h.le f2 ht
  have c4 := h'.le f4 ht
  have c2 := h'.le f2 ht
  rw [tot_one] at a4 a2 c4 c2
  have b4 := f4_imp_imp' x y z
  have b2 := f2_imp_imp' x y z
  have d4 := f4_imp (.imp x y) z
  have d2 := f2_imp (.imp x y) z
  obtain ⟨_, _, _, hxy, _⟩ := fmOk_imp_imp (hS.1 _ ht)
  refine ⟨mv_mk hS h.ok hxy (by omega) (by omega), mv_mk hS h'.ok hS.2.1 (by omega) (by omega), fun e1 e2 => ?_⟩
  have hK : Adds2 (dropT L (.imp (.imp x y) z) ++ [.imp y z, x]) (dropT L (.imp (.imp x y) z)) (.imp y z) x := fun b => by rw [List.mem_append, List.mem_cons, List.mem_singleton]
  have e3 : EntL (dropT L (.imp (.imp x y) z) ++ [.imp y z, x]) y := by
    have hA : Adds (dropT L (.imp (.imp x y) z) ++ [.imp y z, x]) P x := fun b => by
      rw [hK b, h.adds b, or_assoc]
    exact (el_r_imp hA).1 e1
  exact el_imp_imp (dropT_adds ht) hK h'.adds e3 e2
/-- None of the first k texts' formulas gives the right side. -/
def NoWayP (L : List Tree) (c : Tree) (k : Nat) : Prop := ∀ i, i < k → ∀ x y z, L[i]? = some (.imp (.imp x y) z) → ∀ P Q, Ins L (.imp (.imp x y) z) [.imp y z] P → Ins L (.imp (.imp x y) z) [z] Q → (dc (EntL P (.imp x y)) && dc (EntL Q c)) = false
theorem waysP_fail (hst : StuckN L L.length) (hc : hasL L c = false) (hk : Shut L c) (hno : NoWayP L c L.length) (hex : ∀ t K, t ∈ L → (∀ a ∈ K, FmOk a) → ∃ P, Ins L t K P) (hok : ∀ a ∈ L, FmOk a) : dc (EntL L c) = false := by
  refine dc_false fun hE => ?_
  have hs : ∀ a, a ∈ L → StuckL L a := fun a ha => by
    obtain ⟨j, hj, he⟩ := List.getElem_of_mem ha
    exact hst j a hj (by rw [List.getElem?_eq_getElem hj, he])
  have hk2 : (∃ v, c = .var v) ∨ c = .fls ∨ ∃ x y, c = .or x y := hk.imp id (fun h => h.imp id (fun ⟨x, y, h, _⟩ => ⟨x, y, h⟩))
  rcases el_ways hs (hasL_false.1 hc) hk2 hE with ⟨x, y, rfl, h⟩ | ⟨x, y, z, hm, h⟩
  · rcases hk with ⟨v, hv⟩ | hf | ⟨x', y', he, hx, hy⟩
    · cases hv
    · cases hf
    · cases he
      exact h.elim (not_dc hx) (not_dc hy)
  · obtain ⟨j, hj, he⟩ := List.getElem_of_mem hm
    have hj2 : L[j]? = some (.imp (.imp x y) z) := by rw [List.getElem?_eq_getElem hj, he]
    obtain ⟨hx, hy, hz, _, hyz⟩ := fmOk_imp_imp (hok _ hm)
    obtain ⟨P, hP⟩ := hex _ [.imp y z] hm (ok_one hyz)
    obtain ⟨Q, hQ⟩ := hex _ [z] hm (ok_one hz)
    obtain ⟨h1, h2⟩ := h (dropT L (.imp (.imp x y) z)) (fun b hb hne => dropT_mem.2 ⟨hb, hne⟩)
    have := hno j hj x y z hj2 P Q hP hQ
    have e1 : EntL P (.imp x y) := by
      refine (el_r_imp (K := P ++ [x]) (fun b => by rw [List.mem_append, List.mem_singleton])).2 (h1 _ fun b => ?_)
      rw [List.mem_append, List.mem_singleton, hP.adds b, or_assoc]
    rw [dc_true e1, dc_true (h2 _ hQ.adds)] at this
    cases this
theorem ins_ex {L : List Tree} (hL : ∀ a ∈ L, FmOk a) (t : Tree) (K : List Tree) (hK : ∀ a ∈ K, FmOk a) : ∃ P, Ins L t K P := by
  obtain ⟨P, _, h⟩ := putS_of (M := dropT L t ++ K) (fun a ha => (List.mem_append.1 ha).elim (dropT_ok hL a) (hK a))
  exact ⟨P, h⟩
end
end Go.Proofs.YtmdbhcoioimlmaaGreat

/- Sequents of the program: with, instead, proving. -/
namespace Go.Proofs.YtmdbhcoioimlmaaGreat
open Go.RowKit
open Fm (Tree)

/-- The value reads as the texts of the formulas. -/
def TL (w : World) (v : Value) (L : List Tree) : Prop := Strs w v (L.map tx)
theorem TL.grew {w w' : World} {v : Value} {L : List Tree} (h : TL w v L) (hg : Grew w w') : TL w' v L := Strs.grew h hg
theorem TL.slice {w : World} {v : Value} {L : List Tree} (h : TL w v L) : ∃ A n c, v = .slice A n c := by
  obtain ⟨A, c, e⟩ := strs_slice h
  exact ⟨A, _, c, e⟩
theorem TL.nil_ (w : World) : TL w (.slice none 0 0) [] := Strs.nil_ w

theorem put_t (v vt : Value) (L K : List Tree) (w : World) (h : TL w v L) (hk : TL w vt K) (hL : ∀ a ∈ L, FmOk a) (hK : ∀ a ∈ K, FmOk a) (hn : L.length + K.length ≤ 1099511627776) :
    Calls Tryz.prog 76 #[v, vt] w fun e w' => ∃ u P, e = .returned u ∧ PutOf (L ++ K) P ∧ OwnS w' w.heap.size u (P.map tx) ∧ Grew w w' := by
  refine (put_c v vt (L.map tx) (K.map tx) w h hk (by simpa using hn)).mono ?_
  rintro e w' ⟨u, rfl, h1, h2⟩
  rw [← List.map_append] at h1
  obtain ⟨P, e1, hP⟩ := putS_of (M := L ++ K) (fun a ha => (List.mem_append.1 ha).elim (hL a) (hK a))
  rw [e1] at h1
  exact ⟨u, P, rfl, hP, h1, h2⟩
theorem drop_t (v : Value) (L : List Tree) (t : Tree) (w : World) (h : TL w v L) (hL : ∀ a ∈ L, FmOk a) (ht : FmOk t) (hn : L.length ≤ 1099511627776) :
    Calls Tryz.prog 58 #[v, .string (tx t)] w fun e w' => ∃ u, e = .returned u ∧ TL w' u (dropT L t) ∧ Grew w w' := by
  refine (drop_c v (L.map tx) (tx t) w h (by simpa using hn)).mono ?_
  rintro e w' ⟨u, rfl, h1, h2⟩
  rw [dropS_of hL ht] at h1
  exact ⟨u, rfl, h1, h2⟩
theorem dropT_len (L : List Tree) (t : Tree) : (dropT L t).length ≤ L.length := List.length_filter_le _ _

theorem infoG : (Tryz.prog.info? 85).map (fun i => (i.zero, i.size, i.bytes)) = some (some (.agg #[.slice none 0 0, .string ByteArray.empty]), 2, 40) := by kernel_rfl
theorem infoG2 : (Tryz.prog.info? 85).map (·.size) = some 2 := by kernel_rfl

theorem proving_c (A : Option Addr) (n c : Nat) (r s : ByteArray) (w : World) :
    Calls Tryz.prog 127 #[.agg #[.slice A n c, .string r], .string s] w fun e w' => e = .returned (.agg #[.slice A n c, .string s]) ∧ Grew w w' := by
  have hinfo := infoG2
  have hb : ∀ o1 o2, ((w.alloc o1).alloc o2).heap[w.heap.size + 1]? = some o2 := fun o1 o2 => by
    have h := blk_new (w.alloc o1) o2
    have e : (w.alloc o1).heap.size = w.heap.size + 1 := by simp
    rwa [e] at h
  go_enter Tryz.func127, Tryz.ntmps127
  go_wp2_with fail
  (try simp only [Exit.inBlock, Exit.then])
  refine bodyPost_ret (results_cell_row rfl _ _ (w.heap.size + 1) _ _ _ _ rfl (hb _ _) Tryz.underlying85 rfl hinfo) rfl ?_
  exact ⟨rfl, ((Grew.refl w).alloc _).alloc _⟩

set_option maxHeartbeats 2000000 in
theorem with_c (v vt : Value) (L K : List Tree) (r : ByteArray) (w : World) (h : TL w v L) (hk : TL w vt K) (hL : ∀ a ∈ L, FmOk a) (hK : ∀ a ∈ K, FmOk a) (hn : L.length + K.length ≤ 1099511627776) :
    Calls Tryz.prog 128 #[.agg #[v, .string r], vt] w fun e w' => ∃ u P, e = .returned (.agg #[u, .string r]) ∧ PutOf (L ++ K) P ∧ TL w' u P ∧ Grew w w' := by
  have KP := Lib.hid (fun W (hW : Grew w W) => put_t v vt L K W (h.grew hW) (hk.grew hW) hL hK hn)
  obtain ⟨A, n, c, rfl⟩ := h.slice
  obtain ⟨B, m, d, rfl⟩ := hk.slice
  clear h hk
  have hinfo := infoG2
  go_enter Tryz.func128, Tryz.ntmps128
  go_wp2_with fail
  have hgg := Lib.hid (((Grew.refl w).alloc (.cells #[.slice A n c, .string r] 85)).alloc (.cells #[.slice none 0 0, .string ⟨#[]⟩] 85))
  have hb := blk_new (w.alloc (.cells #[.slice A n c, .string r] 85)) (.cells #[.slice none 0 0, .string ⟨#[]⟩] 85)
  rw [show (w.alloc (.cells #[.slice A n c, .string r] 85)).heap.size = w.heap.size + 1 by simp] at hb
  have hbd : ((w.alloc (.cells #[.slice A n c, .string r] 85)).alloc (.cells #[.slice none 0 0, .string ⟨#[]⟩] 85)).heap[w.heap.size]? = some (.cells #[.slice A n c, .string r] 85 (0, 0)) :=
    (((Grew.refl (w.alloc (.cells #[.slice A n c, .string r] 85))).alloc _).block (k := w.heap.size) (by simp)).trans (blk_new w _)
  generalize hw2 : (w.alloc (.cells #[.slice A n c, .string r] 85)).alloc (.cells #[.slice none 0 0, .string ⟨#[]⟩] 85) = w2 at *
  clear hw2
  have HB := Lib.hid (fun W (hW : Grew w2 W) => (hW.block (blk_lt hb)).trans hb)
  have HD := Lib.hid hbd
  have c1 : ∀ W, Only (w.heap.size + 1) w2 W → W.cell? ⟨w.heap.size, 0, none⟩ = some (.slice A n c) := fun W hW => (hW.cell (p := ⟨w.heap.size, 0, none⟩) (blk_lt hbd) (by show w.heap.size ≠ w.heap.size + 1; omega)).trans (blk_cell hbd 0)
  have c2 : ∀ W, Only (w.heap.size + 1) w2 W → W.cell? ⟨w.heap.size, 1, none⟩ = some (.string r) := fun W hW => (hW.cell (p := ⟨w.heap.size, 1, none⟩) (blk_lt hbd) (by show w.heap.size ≠ w.heap.size + 1; omega)).trans (blk_cell hbd 1)
  have c3 : ∀ W, Grew w2 W → W.cell? ⟨w.heap.size + 1, 0, none⟩ = some (.slice none 0 0) := fun W hW => blk_cell (HB.out W hW) 0
  have c4 : ∀ W, Grew w2 W → W.cell? ⟨w.heap.size + 1, 1, none⟩ = some (.string ⟨#[]⟩) := fun W hW => blk_cell (HB.out W hW) 1
  have c5 : ∀ W, Grew w2 W → W.frozen? ⟨w.heap.size + 1, 0, none⟩ = false := fun W hW => blk_frozen (HB.out W hW) 0
  have c6 : ∀ W, Grew w2 W → W.frozen? ⟨w.heap.size + 1, 1, none⟩ = false := fun W hW => blk_frozen (HB.out W hW) 1
  have hO1 : Only (w.heap.size + 1) w2 w2 := Only.refl _ _
  have hOd : Only (w.heap.size + 1) w2 w2.drew := hO1.drew
  have hd1 := (Grew.refl w2).drew
  have gd := hgg.out.trans hd1
  clear hb hbd
  go_region_held3 (fun w' => Only (w.heap.size + 1) w2 w') (first | with_reducible assumption | exact Only.setCell (Only.setCell (by with_reducible assumption) _) _)
    (first | (go_at_call 76; refine (KP.out _ gd).mono ?_; rintro e w3 ⟨u, P, rfl, hP, hu, hg3⟩; have hk2 : Grew w2 w3 := hd1.trans hg3; have hO2 : Only (w.heap.size + 1) w2 w3 := hk2.only; have HU := Lib.hid hu; obtain ⟨A2, n2, k2, rfl⟩ := TL.slice hu.strs; clear hu))
  go_wp2_with fail
  (try simp only [Exit.inBlock, Exit.then])
  have hb6 : ((w3.setCell ⟨w.heap.size + 1, 0, none⟩ (.slice A2 n2 k2)).setCell ⟨w.heap.size + 1, 1, none⟩ (.string r)).heap[w.heap.size + 1]? = some (.cells #[.slice A2 n2 k2, .string r] 85 (0, 0)) :=
    blk_set (blk_set (HB.out _ hk2) _ _) _ _
  refine bodyPost_ret (results_cell_row rfl _ _ (w.heap.size + 1) _ _ _ _ rfl hb6 Tryz.underlying85 rfl hinfo) rfl ?_
  have hsz : w2.drew.heap.size = w2.heap.size := rfl
  have hlt : w.heap.size + 1 < w2.heap.size := blk_lt (HB.out _ (Grew.refl _))
  have e1 := own_only HU.out (((Only.refl (w.heap.size + 1) w3).setCell (o := 0) (.slice A2 n2 k2)).setCell (o := 1) (.string r)) (fun h => by have := own_of_ge HU.out h; omega)
  exact ⟨_, P, rfl, hP, OwnS.strs e1, ((hgg.out.trans hk2).setCell (by show w.heap.size ≤ w.heap.size + 1; omega) _).setCell (by show w.heap.size ≤ w.heap.size + 1; omega) _⟩
end Go.Proofs.YtmdbhcoioimlmaaGreat

/- Sequents of the program: instead. -/
namespace Go.Proofs.YtmdbhcoioimlmaaGreat
open Go.RowKit
open Fm (Tree)

set_option maxHeartbeats 2000000 in
theorem instead_c (v vt : Value) (L K : List Tree) (t : Tree) (r : ByteArray) (w : World) (h : TL w v L) (hk : TL w vt K) (hL : ∀ a ∈ L, FmOk a) (hK : ∀ a ∈ K, FmOk a) (ht : FmOk t) (hn : L.length + K.length ≤ 1099511627776) :
    Calls Tryz.prog 147 #[.agg #[v, .string r], .string (tx t), vt] w fun e w' => ∃ u P, e = .returned (.agg #[u, .string r]) ∧ Ins L t K P ∧ TL w' u P ∧ Grew w w' := by
  have KD := Lib.hid (fun W (hW : Grew w W) => drop_t v L t W (h.grew hW) hL ht (by omega))
  have KP := Lib.hid (fun u W (hW : Grew w W) (hu : TL W u (dropT L t)) => put_t u vt (dropT L t) K W hu (hk.grew hW) (dropT_ok hL) hK (by have := dropT_len L t; omega))
  obtain ⟨A, n, c, rfl⟩ := h.slice
  obtain ⟨B, m, d, rfl⟩ := hk.slice
  clear h hk
  have hinfo := infoG2
  go_enter Tryz.func147, Tryz.ntmps147
  go_wp2_with fail
  have hgg := Lib.hid (((Grew.refl w).alloc (.cells #[.slice A n c, .string r] 85)).alloc (.cells #[.slice none 0 0, .string ⟨#[]⟩] 85))
  have hb := blk_new (w.alloc (.cells #[.slice A n c, .string r] 85)) (.cells #[.slice none 0 0, .string ⟨#[]⟩] 85)
  rw [show (w.alloc (.cells #[.slice A n c, .string r] 85)).heap.size = w.heap.size + 1 by simp] at hb
  have hbd : ((w.alloc (.cells #[.slice A n c, .string r] 85)).alloc (.cells #[.slice none 0 0, .string ⟨#[]⟩] 85)).heap[w.heap.size]? = some (.cells #[.slice A n c, .string r] 85 (0, 0)) :=
    (((Grew.refl (w.alloc (.cells #[.slice A n c, .string r] 85))).alloc _).block (k := w.heap.size) (by simp)).trans (blk_new w _)
  generalize hw2 : (w.alloc (.cells #[.slice A n c, .string r] 85)).alloc (.cells #[.slice none 0 0, .string ⟨#[]⟩] 85) = w2 at *
  clear hw2
  have HB := Lib.hid (fun W (hW : Grew w2 W) => (hW.block (blk_lt hb)).trans hb)
  have HD := Lib.hid hbd
  have c1 : ∀ W, Only (w.heap.size + 1) w2 W → W.cell? ⟨w.heap.size, 0, none⟩ = some (.slice A n c) := fun W hW => (hW.cell (p := ⟨w.heap.size, 0, none⟩) (blk_lt hbd) (by show w.heap.size ≠ w.heap.size + 1; omega)).trans (blk_cell hbd 0)
  have c2 : ∀ W, Only (w.heap.size + 1) w2 W → W.cell? ⟨w.heap.size, 1, none⟩ = some (.string r) := fun W hW => (hW.cell (p := ⟨w.heap.size, 1, none⟩) (blk_lt hbd) (by show w.heap.size ≠ w.heap.size + 1; omega)).trans (blk_cell hbd 1)
  have c3 : ∀ W, Grew w2 W → W.cell? ⟨w.heap.size + 1, 0, none⟩ = some (.slice none 0 0) := fun W hW => blk_cell (HB.out W hW) 0
  have c4 : ∀ W, Grew w2 W → W.cell? ⟨w.heap.size + 1, 1, none⟩ = some (.string ⟨#[]⟩) := fun W hW => blk_cell (HB.out W hW) 1
  have c5 : ∀ W, Grew w2 W → W.frozen? ⟨w.heap.size + 1, 0, none⟩ = false := fun W hW => blk_frozen (HB.out W hW) 0
  have c6 : ∀ W, Grew w2 W → W.frozen? ⟨w.heap.size + 1, 1, none⟩ = false := fun W hW => blk_frozen (HB.out W hW) 1
  have hO1 : Only (w.heap.size + 1) w2 w2 := Only.refl _ _
  have hOd : Only (w.heap.size + 1) w2 w2.drew := hO1.drew
  have hd1 := (Grew.refl w2).drew
  have gd := hgg.out.trans hd1
  clear hb hbd
  go_region_held3 (fun w' => Only (w.heap.size + 1) w2 w') (first | with_reducible assumption | exact Only.setCell (Only.setCell (by with_reducible assumption) _) _)
    (first
     | (go_at_call 76; refine (KP.out _ _ gD HUd.out).mono ?_; rintro e w4 ⟨u, P, rfl, hP, hu, hg4⟩; have hk4 : Grew w2 w4 := hk2.trans hg4; have hO4 : Only (w.heap.size + 1) w2 w4 := hk4.only; have hsz4 := hk2.size; have HU := Lib.hid hu; obtain ⟨A2, n2, k2, rfl⟩ := TL.slice hu.strs; clear hu)
     | (go_at_call 58; refine (KD.out _ gd).mono ?_; rintro e w3 ⟨u1, rfl, hu1, hg3⟩; have hk2 : Grew w2 w3 := hd1.trans hg3; have gD := hgg.out.trans hk2; have hO2 : Only (w.heap.size + 1) w2 w3 := hk2.only; have HUd := Lib.hid hu1; obtain ⟨A1, n1, k1, rfl⟩ := hu1.slice; clear hu1))
  go_wp2_with fail
  (try simp only [Exit.inBlock, Exit.then])
  have hb6 : ((w4.setCell ⟨w.heap.size + 1, 0, none⟩ (.slice A2 n2 k2)).setCell ⟨w.heap.size + 1, 1, none⟩ (.string r)).heap[w.heap.size + 1]? = some (.cells #[.slice A2 n2 k2, .string r] 85 (0, 0)) :=
    blk_set (blk_set (HB.out _ hk4) _ _) _ _
  refine bodyPost_ret (results_cell_row rfl _ _ (w.heap.size + 1) _ _ _ _ rfl hb6 Tryz.underlying85 rfl hinfo) rfl ?_
  have hlt : w.heap.size + 1 < w2.heap.size := blk_lt (HB.out _ (Grew.refl _))
  have e1 := own_only HU.out (((Only.refl (w.heap.size + 1) w4).setCell (o := 0) (.slice A2 n2 k2)).setCell (o := 1) (.string r)) (fun h => by have := own_of_ge HU.out h; omega)
  exact ⟨_, P, rfl, hP, OwnS.strs e1, ((hgg.out.trans hk4).setCell (by show w.heap.size ≤ w.heap.size + 1; omega) _).setCell (by show w.heap.size ≤ w.heap.size + 1; omega) _⟩
end Go.Proofs.YtmdbhcoioimlmaaGreat

/- Formulas of two parts. -/
namespace Go.Proofs.YtmdbhcoioimlmaaGreat
open Go.RowKit

/-- The formula has two parts. -/
def TwoF (A p q : Fm.Tree) : Prop := Fm.enc A = (kindOf A, 0) :: (Fm.enc p ++ Fm.enc q)
theorem TwoF.len {A p q : Fm.Tree} (h : TwoF A p q) : (Fm.enc A).length = 1 + (Fm.enc p).length + (Fm.enc q).length := by rw [h]; simp; omega
end Go.Proofs.YtmdbhcoioimlmaaGreat

/- The parts of a formula: parts, partTexts of the program. -/
namespace Go.Proofs.YtmdbhcoioimlmaaGreat
open Go.RowKit

/-- 'out = append(out, s)', out a row of strings of the call's own. -/
theorem wpList_appStr {ops : Array Oper} {rest : List Oper} {o : Oper} {a : Act} {Q : Exit → Act → World → Prop} {w w0 : World} (s x : Operand) (hgd : o.guard = none)
    (ho : o.op = .call { callee := .builtin .append, args := #[s, x], argTypes := #[22, 22] })
    (v : Value) (L : List ByteArray) (hs : a.eval s = v) (hown : OwnS w w0.heap.size v L) (hg : Grew w0 w) (vx : Value) (k : ByteArray) (hx : a.eval x = vx) (hr : Rd w 1 vx 1 [.string k]) (hn : L.length ≤ 1048576)
    (h : ∀ v' w', OwnS w' w0.heap.size v' (L ++ [k]) → Grew w0 w' → w.grownBy w' v.ownBlock → wpList Tryz.prog ops Q rest (a.put o.dst v') w') : wpList Tryz.prog ops Q (o :: rest) a w := by
  obtain ⟨i0, hi0, hz0, hz1, hz2⟩ := info_parts Tryz.infoStr
  refine wpList_append_rd w hgd s x _ ho w0.heap.size 9 i0 _ 1 16 Tryz.underlying22 hi0 hz0 hz1 hz2 rfl (by omega) v L.length (scells L) hs hown vx 1 [.string k] hx hr (by simp [Value.oneCell']) (by unfold maxLen; omega) (by omega) hg.size ?_
  intro v' w' h1 h2 h3
  refine h v' w' ?_ (hg.grown h2 fun k hk => (hown.lt k hk).1) h2
  unfold OwnS
  rw [List.length_append, scells_append]
  exact h1

/-- A slice of two slices that read as the two parts. -/
def Two (w : World) (v : Value) (p q : Fm.Tree) : Prop := ∃ g u1 u2, v = .slice (some ⟨g, 0, none⟩) 2 2 ∧ (∀ W, Grew w W → W.cell? ⟨g, 0, none⟩ = some u1) ∧ (∀ W, Grew w W → W.cell? ⟨g, 1, none⟩ = some u2) ∧ Nodes w u1 (Fm.enc p) ∧ Nodes w u2 (Fm.enc q)

theorem parts_two (v : Value) (A p q : Fm.Tree) (w : World) (h : Nodes w v (Fm.enc A)) (hl : (Fm.enc A).length ≤ 40) (h2 : TwoF A p q) (hk : kindOf A = 2 ∨ kindOf A = 3 ∨ kindOf A = 4) :
    Calls Tryz.prog 144 #[v] w fun e w' => ∃ u, e = .returned u ∧ Two w' u p q ∧ Grew w w' := by
  have HH := Lib.hid h
  obtain ⟨b, o, c, rfl, hc, hm, k0⟩ := nodes_head h
  have K1 := Lib.hid (fun W (hW : Grew w W) => first_c _ (Fm.enc A) p W (h.grew hW) (by omega) (at_first h2))
  have K2 := Lib.hid (fun W (hW : Grew w W) => second_c _ (Fm.enc A) p q W (h.grew hW) (by omega) (at_first h2) (at_second h2))
  have KO := Lib.hid (fun w => partsOf_c (kindOf A) w)
  have ha : (Fm.arity (kindOf A) : Int) = 2 := by unfold Fm.arity; rw [if_pos hk]; rfl
  rw [ha] at KO
  have r0 := Grew.refl w
  have hpos := Fm.enc_pos A
  clear h h2 hk ha HH
  generalize kindOf A = kk at *
  generalize (Fm.enc A).length = n at *
  go_enter Tryz.func144, Tryz.ntmps144
  go_wp2_with fail
  refine (KO.out _).mono ?_
  rintro e w1 ⟨rfl, hg1⟩
  go_wp2_with fail
  refine (K1.out _ hg1).mono ?_
  rintro e w2 ⟨u1, rfl, hn1, hg2⟩
  have H1 := Lib.hid hn1
  obtain ⟨A1, c1, rfl⟩ := nodes_slice hn1
  clear hn1
  have g2 := hg1.trans hg2
  go_wp2_with fail
  refine (K2.out _ g2).mono ?_
  rintro e w3 ⟨u2, rfl, hn2, hg3⟩
  have H2 := Lib.hid hn2
  obtain ⟨A2, c2, rfl⟩ := nodes_slice hn2
  clear hn2
  go_wp2_with fail
  go_ret
  have hal := (Grew.refl w3).alloc (.cells #[.slice A1 (Fm.enc p).length c1, .slice A2 (Fm.enc q).length c2] 42)
  exact ⟨_, rfl, ⟨w3.heap.size, _, _, rfl, fun W hW => (hW.cell (by simp)).trans (by simp), fun W hW => (hW.cell (by simp)).trans (by simp), (H1.out.grew hg3).grew hal, H2.out.grew hal⟩, (g2.trans hg3).trans hal⟩

theorem parts_none (v : Value) (A : Fm.Tree) (w : World) (h : Nodes w v (Fm.enc A)) (hk : kindOf A = 0 ∨ kindOf A = 1) :
    Calls Tryz.prog 144 #[v] w fun e w' => e = .returned (.slice none 0 0) ∧ Grew w w' := by
  obtain ⟨b, o, c, rfl, hc, hm, k0⟩ := nodes_head h
  have KO := Lib.hid (fun w => partsOf_c (kindOf A) w)
  have ha : (Fm.arity (kindOf A) : Int) = 0 := by unfold Fm.arity; rw [if_neg (by omega), if_neg (by omega)]; rfl
  rw [ha] at KO
  have r0 := Grew.refl w
  have hpos := Fm.enc_pos A
  clear h hk ha
  generalize kindOf A = kk at *
  generalize (Fm.enc A).length = n at *
  go_enter Tryz.func144, Tryz.ntmps144
  go_wp2_with fail
  refine (KO.out _).mono ?_
  rintro e w1 ⟨rfl, hg1⟩
  go_wp2_with fail
  go_ret
  exact ⟨rfl, hg1⟩

theorem partTexts_none (v : Value) (A : Fm.Tree) (w : World) (h : Nodes w v (Fm.enc A)) (hk : kindOf A = 0 ∨ kindOf A = 1) :
    Calls Tryz.prog 125 #[v] w fun e w' => e = .returned (.slice none 0 0) ∧ Grew w w' := by
  have KP := Lib.hid (parts_none v A w h hk)
  obtain ⟨b, o, c, rfl, hc, hm, k0⟩ := nodes_head h
  clear h hk k0
  generalize (Fm.enc A).length = n at *
  go_enter Tryz.func125, Tryz.ntmps125
  go_wp2_with fail
  refine KP.out.mono ?_
  rintro e w1 ⟨rfl, hg1⟩
  go_wp2_with fail
  refine wp_loop_rounds 1 ?_; rw [rounds_succ]
  go_wp2_with fail
  go_ret
  exact ⟨rfl, hg1⟩

theorem partTexts_two (v : Value) (A p q : Fm.Tree) (w : World) (h : Nodes w v (Fm.enc A)) (hl : (Fm.enc A).length ≤ 40) (h2 : TwoF A p q) (hk : kindOf A = 2 ∨ kindOf A = 3 ∨ kindOf A = 4) :
    Calls Tryz.prog 125 #[v] w (GivesS w [tx p, tx q]) := by
  have KP := Lib.hid (parts_two v A p q w h hl h2 hk)
  have hlen := h2.len
  have K1 := Lib.hid (fun v w h => text0_c p v w h (by omega))
  have K2 := Lib.hid (fun v w h => text0_c q v w h (by omega))
  have e1 : bs (Fm.txt p 0) = tx p := rfl
  have e2 : bs (Fm.txt q 0) = tx q := rfl
  unfold Says at K1 K2
  rw [e1] at K1
  rw [e2] at K2
  obtain ⟨b, o, c, rfl, hc, hm, k0⟩ := nodes_head h
  clear h h2 hk k0 e1 e2 hlen
  generalize (Fm.enc A).length = n at *
  generalize tx p = sp at *
  generalize tx q = sq at *
  go_enter Tryz.func125, Tryz.ntmps125
  go_wp2_with fail
  refine KP.out.mono ?_
  rintro e w1 ⟨u, rfl, ⟨g, u1, u2, rfl, c1, c2, hn1, hn2⟩, hg1⟩
  have H1 := Lib.hid hn1
  have H2 := Lib.hid hn2
  obtain ⟨A1, d1, rfl⟩ := nodes_slice hn1
  obtain ⟨A2, d2, rfl⟩ := nodes_slice hn2
  clear hn1 hn2
  have r1 := Grew.refl w1
  have HO1 := OwnS.nil_ w1 w.heap.size
  go_wp2_with fail
  refine wp_loop_rounds 3 ?_; rw [rounds_succ]
  go_wp2_with fail
  refine (K1.out _ _ H1.out).mono ?_
  rintro e w2 ⟨rfl, hg2⟩
  have hB2 := hg1.trans hg2
  have hO2 := HO1.grew (hg2.trans ((Grew.refl w2).alloc (.cells #[.string sp] 9)))
  go_wp2_with (first | (at_builtin; refine wpList_appStr (w0 := w) _ _ rfl rfl _ [] rfl hO2 (hB2.alloc _) _ sp rfl (rd_lit _ _ _) (by simp) ?_; intro v3 w3 hown3 hg3 hgr3))
  have g13 : Grew w1 w3 := (hg2.trans ((Grew.refl w2).alloc (.cells #[.string sp] 9))).trans (by
    have hg' : (w2.alloc (.cells #[.string sp] 9)).grownBy w3 none := hgr3
    exact ⟨hg'.os, hg'.tape, hg'.output, hg'.size, fun i hi => hg'.block i hi (by simp)⟩)
  clear HO1 hO2 hgr3 hB2
  rw [rounds_succ]
  go_wp2_with fail
  refine (K2.out _ _ (H2.out.grew g13)).mono ?_
  rintro e w4 ⟨rfl, hg4⟩
  have hB4 := hg3.trans hg4
  have hO4 := hown3.grew (hg4.trans ((Grew.refl w4).alloc (.cells #[.string sq] 9)))
  go_wp2_with (first | (at_builtin; refine wpList_appStr (w0 := w) _ _ rfl rfl _ [sp] rfl hO4 (hB4.alloc _) _ sq rfl (rd_lit _ _ _) (by simp) ?_; intro v5 w5 hown5 hg5 hgr5))
  rw [rounds_succ]
  go_wp2_with fail
  go_ret
  exact ⟨_, rfl, hown5, hg5⟩
end Go.Proofs.YtmdbhcoioimlmaaGreat

/- Slices of slices of nodes that read as formulas. -/
namespace Go.Proofs.YtmdbhcoioimlmaaGreat
open Go.RowKit
open Fm (Nd Tree)

/-- The values read as the formulas. -/
def VT (w : World) (us : List Value) (L : List Tree) : Prop := us.length = L.length ∧ ∀ (i : Nat) (t : Tree), L[i]? = some t → ∃ u : Value, us[i]? = some u ∧ Nodes w u (Fm.enc t)
theorem VT.grew {w w' : World} {us : List Value} {L : List Tree} (h : VT w us L) (hg : Grew w w') : VT w' us L :=
  ⟨h.1, fun i t ht => let ⟨u, h1, h2⟩ := h.2 i t ht; ⟨u, h1, h2.grew hg⟩⟩
theorem VT.nil_ (w : World) : VT w [] [] := ⟨rfl, fun i t h => by simp at h⟩
theorem VT.one {w : World} {u : Value} {t : Tree} (h : Nodes w u (Fm.enc t)) : VT w [u] [t] := ⟨rfl, fun i t' ht => by
  have hi : i = 0 := by have := (List.getElem?_eq_some_iff.1 ht).1; simp at this; omega
  subst hi
  obtain rfl : t = t' := by simpa using ht
  exact ⟨u, rfl, h⟩⟩
theorem VT.app {w : World} {us vs : List Value} {L K : List Tree} (h : VT w us L) (k : VT w vs K) : VT w (us ++ vs) (L ++ K) := by
  refine ⟨by rw [List.length_append, List.length_append, h.1, k.1], fun i t ht => ?_⟩
  rw [List.getElem?_append] at ht ⊢
  rw [h.1]
  split at ht
  · rename_i hlt
    rw [if_pos hlt]; exact h.2 i t ht
  · rename_i hlt
    rw [if_neg hlt]; exact k.2 _ t ht
theorem VT.take {w : World} {us : List Value} {L : List Tree} (h : VT w us L) (k : Nat) : VT w (us.take k) (L.take k) := by
  refine ⟨by simp [h.1], fun i t ht => ?_⟩
  rw [List.getElem?_take] at ht ⊢
  split at ht
  · rename_i hlt
    rw [if_pos hlt]; exact h.2 i t ht
  · cases ht
theorem VT.drop {w : World} {us : List Value} {L : List Tree} (h : VT w us L) (k : Nat) : VT w (us.drop k) (L.drop k) := by
  refine ⟨by simp [h.1], fun i t ht => ?_⟩
  rw [List.getElem?_drop] at ht ⊢
  exact h.2 _ t ht
theorem VT.cell1 {w : World} {us : List Value} {L : List Tree} (h : VT w us L) : ∀ u ∈ us, u.oneCell' = true := by
  intro u hu
  obtain ⟨i, hi, rfl⟩ := List.getElem_of_mem hu
  have hi2 : i < L.length := by rw [← h.1]; exact hi
  obtain ⟨u', h1, h2⟩ := h.2 i L[i] (List.getElem?_eq_getElem hi2)
  rw [List.getElem?_eq_getElem hi] at h1
  cases h1
  obtain ⟨A, c, e⟩ := nodes_slice h2
  rw [e]; rfl

/-- The value reads as the list of formulas. -/
def LT (w : World) (v : Value) (L : List Tree) : Prop := ∃ us, Rd w 1 v L.length us ∧ VT w us L
theorem LT.grew {w w' : World} {v : Value} {L : List Tree} (h : LT w v L) (hg : Grew w w') : LT w' v L := let ⟨us, h1, h2⟩ := h; ⟨us, h1.grew hg, h2.grew hg⟩
theorem LT.of_own {w : World} {B : Nat} {v : Value} {us : List Value} {L : List Tree} (h : OwnV w B v us) (k : VT w us L) : LT w v L := ⟨us, by have := Rd.of_own h; rw [k.1] at this; exact this, k⟩
theorem LT.open_ {w : World} {v : Value} {L : List Tree} (h : LT w v L) : (v = .slice none 0 0 ∧ L = []) ∨ ∃ b o c, v = .slice (some ⟨b, o, none⟩) L.length c ∧ L.length ≤ c ∧ c ≤ 9223372036854775807 ∧ b < w.heap.size ∧
    ∀ i t, L[i]? = some t → ∃ u, (∀ W, Grew w W → W.cell? ⟨b, o + i, none⟩ = some u) ∧ Nodes w u (Fm.enc t) := by
  obtain ⟨us, ⟨h1, h2, h3⟩, h4, h5⟩ := h
  rcases h3 with ⟨h6, h7⟩ | ⟨b, o, c, h6, h7, h8, h9, h10⟩
  · exact .inl ⟨h6, List.eq_nil_of_length_eq_zero h7⟩
  · refine .inr ⟨b, o, c, h6, h7, h8, h9, fun i t ht => ?_⟩
    obtain ⟨u, k1, k2⟩ := h5 i t ht
    exact ⟨u, fun W hW => (hW.cell (p := ⟨b, o + i, none⟩) h9).trans (h10 i u k1), k2⟩
theorem lt_slice {w : World} {v : Value} {L : List Tree} (h : LT w v L) : ∃ A c, v = .slice A L.length c := by
  rcases h.open_ with ⟨rfl, rfl⟩ | ⟨b, o, c, rfl, _⟩
  · exact ⟨_, _, rfl⟩
  · exact ⟨_, _, rfl⟩
theorem LT.openA {w : World} {A : Option Addr} {n c : Nat} {L : List Tree} (h : LT w (.slice A n c) L) (hn : L.length = n) : ∀ j, j < n → ∃ b o, A = some ⟨b, o, none⟩ ∧ n ≤ c ∧ c ≤ 9223372036854775807 ∧ b < w.heap.size ∧
    ∀ i t, L[i]? = some t → ∃ u, (∀ W, Grew w W → W.cell? ⟨b, o + i, none⟩ = some u) ∧ Nodes w u (Fm.enc t) := by
  intro j hj
  rcases h.open_ with ⟨_, h0⟩ | ⟨b, o, c', hv, h2, h3, h4, h5⟩
  · rw [h0] at hn; simp at hn; omega
  · obtain ⟨rfl, _, rfl⟩ : A = some ⟨b, o, none⟩ ∧ n = L.length ∧ c = c' := by simpa using hv
    exact ⟨b, o, rfl, by omega, h3, h4, h5⟩
theorem LT.one {w : World} {T : TypeId} {u : Value} {t : Tree} (h : Nodes w u (Fm.enc t)) : LT (w.alloc (.cells #[u] T)) (.slice (some ⟨w.heap.size, 0, none⟩) 1 1) [t] :=
  ⟨[u], rd_lit w u T, (VT.one h).grew ((Grew.refl w).alloc _)⟩
theorem rd_lit2 (w : World) (u u2 : Value) (t : TypeId) : Rd (w.alloc (.cells #[u, u2] t)) 1 (.slice (some ⟨w.heap.size, 0, none⟩) 2 2) 2 [u, u2] := by
  refine ⟨rfl, by omega, .inr ⟨w.heap.size, 0, 2, rfl, by omega, by omega, by simp, fun j x hx => ?_⟩⟩
  have hj : j < 2 := by simpa using (List.getElem?_eq_some_iff.1 hx).1
  match j, hj with
  | 0, _ =>
    obtain rfl : u = x := by simpa using hx
    simp
  | 1, _ =>
    obtain rfl : u2 = x := by simpa using hx
    simp
theorem LT.two {w : World} {T : TypeId} {u u2 : Value} {t s : Tree} (h : Nodes w u (Fm.enc t)) (h2 : Nodes w u2 (Fm.enc s)) : LT (w.alloc (.cells #[u, u2] T)) (.slice (some ⟨w.heap.size, 0, none⟩) 2 2) [t, s] :=
  ⟨[u, u2], rd_lit2 w u u2 T, ((VT.one h).app (VT.one h2)).grew ((Grew.refl w).alloc _)⟩
theorem slice3 {w : World} {u : Value} {xs : List Nd} (h : Nodes w u xs) : ∃ A n c, u = .slice A n c := by
  obtain ⟨A, c, e⟩ := nodes_slice h
  exact ⟨A, _, c, e⟩
/-- Slices of a slice of slices. -/
theorem rd_take {w : World} {A : Option Addr} {n c : Nat} {us : List Value} (h : Rd w 1 (.slice A n c) n us) (i : Nat) (hi : i ≤ n) : Rd w 1 (.slice A i c) i (us.take i) := by
  obtain ⟨h1, h2, h3⟩ := h
  refine ⟨by simp; omega, by omega, ?_⟩
  rcases h3 with ⟨h4, h5⟩ | ⟨b, o, c', h4, h5, h6, h7, h8⟩
  · cases h4
    obtain rfl : i = 0 := by omega
    exact .inl ⟨rfl, rfl⟩
  · obtain ⟨rfl, rfl⟩ : A = some ⟨b, o, none⟩ ∧ c = c' := by simpa using h4
    refine .inr ⟨b, o, c, rfl, by omega, h6, h7, fun j u hu => ?_⟩
    rw [List.getElem?_take] at hu
    split at hu
    · exact h8 j u hu
    · cases hu
theorem rd_drop {w : World} {b o n c : Nat} {us : List Value} (h : Rd w 1 (.slice (some ⟨b, o, none⟩) n c) n us) (i : Nat) (hi : i ≤ n) : Rd w 1 (.slice (some ⟨b, o + i, none⟩) (n - i) (c - i)) (n - i) (us.drop i) := by
  obtain ⟨h1, h2, h3⟩ := h
  refine ⟨by simp; omega, by omega, ?_⟩
  rcases h3 with ⟨h4, h5⟩ | ⟨b', o', c', h4, h5, h6, h7, h8⟩
  · cases h4
  · obtain ⟨⟨rfl, rfl⟩, rfl⟩ : (b = b' ∧ o = o') ∧ c = c' := by simpa using h4
    refine .inr ⟨b, o + i, c - i, rfl, by omega, by omega, h7, fun j u hu => ?_⟩
    rw [List.getElem?_drop] at hu
    rw [Nat.add_assoc]
    exact h8 _ u hu

/-- The slice behind an index, as the walk spells it. -/
theorem rd_tail {w : World} {b o n c : Nat} {us : List Value} (h : Rd w 1 (.slice (some ⟨b, o, none⟩) n c) n us) (i : Nat) (hi : i ≤ n) (hn : n ≤ c) : Rd w 1 (.slice (if c = i then some ⟨b, o, none⟩ else some ⟨b, o + i, none⟩) (n - i) (c - i)) (n - i) (us.drop i) := by
  by_cases hc : c = i
  · rw [if_pos hc]
    have h0 : n - i = 0 := by omega
    have h1 := h.1
    refine ⟨by simp; omega, by omega, ?_⟩
    obtain ⟨_, _, h3⟩ := h
    rcases h3 with ⟨h4, _⟩ | ⟨b', o', c', h4, h5, h6, h7, h8⟩
    · cases h4
    · obtain ⟨⟨rfl, rfl⟩, rfl⟩ : (b = b' ∧ o = o') ∧ c = c' := by simpa using h4
      refine .inr ⟨b, o, c - i, rfl, by omega, by omega, h7, fun j u hu => ?_⟩
      rw [List.getElem?_drop, List.getElem?_eq_none (by omega)] at hu
      cases hu
  · rw [if_neg hc]
    exact rd_drop h i hi

/-- An append onto a row of the call's own, at a step of a region that draws its order. -/
theorem step_append_rd {P : Program} (w : World) {ops : Array Oper} {o : Oper} {a : Act} {K : Act → World → Prop} {Q : Exit → Act → World → Prop} {E : Prop} (hgd : o.guard = none) (s x : Operand) (t : TypeId)
    (ho : o.op = .call { callee := .builtin .append, args := #[s, x], argTypes := #[t, t] })
    (base : Nat) (e : TypeId) (i : TypeInfo) (z : Value) (size bytes : Nat) (ht : P.underlying t = some (.slice e)) (hi : P.info? e = some i) (hz : i.zero = some z)
    (hsize : i.size = size) (hby : i.bytes = bytes) (hzs : z.cells.size = size) (hsz : 0 < size)
    (v : Value) (n : Nat) (xs : List Value) (hs : a.eval s = v) (hown : w.ownsRow base e size v n xs)
    (vx : Value) (m : Nat) (news : List Value) (hx : a.eval x = vx) (hr : Rd w size vx m news) (h1 : ∀ u ∈ news, u.oneCell' = true)
    (h63 : n + m ≤ maxLen) (hbytes : (n + m) * bytes ≤ 140737488355328) (hbase : base ≤ w.heap.size)
    (h : ∀ v' w', w'.ownsRow base e size v' (n + m) (xs ++ news) → w.grownBy w' v.ownBlock → K (a.put o.dst v') w') :
    if Region.wanted o (yielded ops a.tmps) = true then Oper.wp P o a w K Q else E := by
  have hw : Region.wanted o (yielded ops a.tmps) = true := by simp [Region.wanted, hgd]
  rw [if_pos hw]
  obtain ⟨hl, _, hr⟩ := hr
  rcases hr with ⟨rfl, rfl⟩ | ⟨b, of, c, rfl, _, _, _, hc⟩
  · have hnews : news = [] := List.eq_nil_of_length_eq_zero (by simpa using hl)
    subst hnews
    have hrun := run_append_owned_none (P := P) w base t o.type e i size ht hi v n xs hown
    unfold Oper.wp execOp
    simp only [ho, resolve, invoke, builtin, Sem.run_bind, Sem.run_pure, Result.andThen_ok, List.map_toArray, List.map_cons, List.map_nil, hs, hx, hrun]
    exact h v w (by simpa using hown) (World.grownBy.refl _ _)
  · obtain ⟨v', w', hrun, h2, h3, _, _⟩ := run_append_own_at (P := P) w base t o.type e i z size bytes ht hi hz hsize hby hzs hsz v n xs hown ⟨b, of, none⟩ m c news hl (fun j u hu => by rw [Addr.add_lit]; exact hc j u hu) h1 h63 hbytes hbase
    unfold Oper.wp execOp
    simp only [ho, resolve, invoke, builtin, Sem.run_bind, Sem.run_pure, Result.andThen_ok, List.map_toArray, List.map_cons, List.map_nil, hs, hx, hrun]
    exact h v' w' h2 h3

theorem bigV {n m : Nat} (h : n + m ≤ 4294967296) : n + m ≤ maxLen ∧ (n + m) * 24 ≤ 140737488355328 := by
  unfold maxLen; omega
/-- 'out = append(out, xs...)' in a region that draws its order. -/
theorem step_appV {ops : Array Oper} {o : Oper} {a : Act} {K : Act → World → Prop} {Q : Exit → Act → World → Prop} {E : Prop} {w w0 : World} (hgd : o.guard = none) (s x : Operand)
    (ho : o.op = .call { callee := .builtin .append, args := #[s, x], argTypes := #[53, 53] })
    (v : Value) (us : List Value) (hs : a.eval s = v) (hown : OwnV w w0.heap.size v us) (hg : Grew w0 w) (vx : Value) (m : Nat) (vs : List Value) (hx : a.eval x = vx) (hr : Rd w 1 vx m vs) (h1 : ∀ u ∈ vs, u.oneCell' = true) (hn : us.length + m ≤ 4294967296)
    (h : ∀ v' w', OwnV w' w0.heap.size v' (us ++ vs) → Grew w0 w' → K (a.put o.dst v') w') : if Region.wanted o (yielded ops a.tmps) = true then Oper.wp Tryz.prog o a w K Q else E := by
  obtain ⟨i0, hi0, hz0, hz1, hz2⟩ := info_parts infoSl
  have hm : vs.length = m := by have := hr.1; omega
  refine step_append_rd w hgd s x _ ho w0.heap.size 42 i0 _ 1 24 Tryz.underlying53 hi0 hz0 hz1 hz2 rfl (by omega) v us.length us hs hown vx m vs hx hr h1 (bigV hn).1 (bigV hn).2 hg.size ?_
  intro v' w' h2 h3
  refine h v' w' ?_ (hg.grown h3 fun k hk => (hown.lt k hk).1)
  unfold OwnV
  rw [List.length_append, hm]
  exact h2
theorem wpList_appVs {ops : Array Oper} {rest : List Oper} {o : Oper} {a : Act} {Q : Exit → Act → World → Prop} {w w0 : World} (s x : Operand) (hgd : o.guard = none)
    (ho : o.op = .call { callee := .builtin .append, args := #[s, x], argTypes := #[53, 53] })
    (v : Value) (us : List Value) (hs : a.eval s = v) (hown : OwnV w w0.heap.size v us) (hg : Grew w0 w) (vx : Value) (m : Nat) (vs : List Value) (hx : a.eval x = vx) (hr : Rd w 1 vx m vs) (h1 : ∀ u ∈ vs, u.oneCell' = true) (hn : us.length + m ≤ 4294967296)
    (h : ∀ v' w', OwnV w' w0.heap.size v' (us ++ vs) → Grew w0 w' → wpList Tryz.prog ops Q rest (a.put o.dst v') w') : wpList Tryz.prog ops Q (o :: rest) a w := by
  obtain ⟨i0, hi0, hz0, hz1, hz2⟩ := info_parts infoSl
  have hm : vs.length = m := by have := hr.1; omega
  refine wpList_append_rd w hgd s x _ ho w0.heap.size 42 i0 _ 1 24 Tryz.underlying53 hi0 hz0 hz1 hz2 rfl (by omega) v us.length us hs hown vx m vs hx hr h1 (bigV hn).1 (bigV hn).2 hg.size ?_
  intro v' w' h2 h3 _
  refine h v' w' ?_ (hg.grown h3 fun k hk => (hown.lt k hk).1)
  unfold OwnV
  rw [List.length_append, hm]
  exact h2
end Go.Proofs.YtmdbhcoioimlmaaGreat

/- The reference's lists of formulas: l23Has, l23With, l23Useless. -/
namespace Go.Proofs.YtmdbhcoioimlmaaGreat
open Go.RowKit
open Fm (Nd Tree)

theorem enc_iff {a b : Tree} : Fm.enc a = Fm.enc b ↔ a = b := ⟨enc_inj, fun h => by rw [h]⟩
/-- The first j formulas are not this one. -/
def NoneT (L : List Tree) (x : Tree) (j : Nat) : Prop := ∀ i, i < j → ∀ t, L[i]? = some t → t ≠ x
theorem noneT_all {L : List Tree} {x : Tree} (h : NoneT L x L.length) : hasL L x = false := by
  refine dc_false fun hm => ?_
  obtain ⟨i, hi, he⟩ := List.getElem_of_mem hm
  exact h i hi _ (List.getElem?_eq_getElem hi) he
theorem noneT_succ {L : List Tree} {x t : Tree} {j : Nat} (h : NoneT L x j) (ht : L[j]? = some t) (hne : t ≠ x) : NoneT L x (j + 1) := by
  intro i hi s hs
  rcases Nat.lt_or_ge i j with hk | hk
  · exact h i hk s hs
  · obtain rfl : i = j := by omega
    rw [ht] at hs; cases hs; exact hne

theorem l23Has_c (v vc : Value) (L : List Tree) (x : Tree) (w : World) (h : LT w v L) (hc : Nodes w vc (Fm.enc x)) (hL : ∀ a ∈ L, FmOk a) (hn : L.length ≤ 4194304) :
    Calls Tryz.prog 78 #[v, vc] w fun e w' => e = .returned (.bool (hasL L x)) ∧ Grew w w' := by
  obtain ⟨R, hR⟩ : ∃ R, R = hasL L x := ⟨_, rfl⟩
  rw [← hR]
  obtain ⟨A', c', rfl⟩ := nodes_slice hc
  rcases h.open_ with ⟨rfl, rfl⟩ | ⟨b, o, c, rfl, hlc, hm, hb, hcell⟩
  · have hv := Lib.hid (hR.trans (dc_false (by simp)))
    clear h hc hL hR
    go_enter Tryz.func78, Tryz.ntmps78
    go_wp2_with fail
    refine wp_loop_rounds 1 ?_; rw [rounds_succ]
    go_wp2_with fail
    go_ret
    exact ⟨congrArg (fun k => Ending.returned (Value.bool k)) hv.out.symm, Grew.refl _⟩
  have HX := Lib.hid (fun j (hj : j < L.length) => (⟨L[j], List.getElem?_eq_getElem hj, hL _ (List.getElem_mem hj)⟩ : ∃ t, L[j]? = some t ∧ FmOk t))
  have HT := Lib.hid (fun j (hj : L[j]? = some x) => hR.trans (hasL_true.2 (at_mem hj)))
  have HZ := Lib.hid (fun h => hR.trans (@noneT_all L x h))
  have HC := Lib.hid hcell
  have HQ := Lib.hid hc
  clear h hc hcell hL hR
  generalize hN : L.length = n at *
  clear hN
  generalize (Fm.enc x).length = nx at *
  go_enter Tryz.func78, Tryz.ntmps78
  go_wp2_with fail
  go_loopw [5] (fun i wr => ∃ j : Nat, j ≤ n ∧ i = .int .i64 j ∧ Grew w wr ∧ Hid (NoneT L x j)) (fun i _ => n - (intOf i).toNat)
  case atStart => exact ⟨0, Nat.zero_le _, rfl, Grew.refl _, Lib.hid (fun i hi => absurd hi (by omega))⟩
  case round =>
    obtain ⟨j, hj, rfl, hB, HJ⟩ := hrel
    by_cases hlt : j < n
    · obtain ⟨t, ht, hf⟩ := HX.out j hlt
      obtain ⟨u, k0, hu⟩ := HC.out j t ht
      have k1 := k0 _ hB
      have KE := Lib.hid (l02Equal_c u _ (Fm.enc t) (Fm.enc x) wr (hu.grew hB) (HQ.out.grew hB) (by have := hf.1; omega))
      obtain ⟨A1, c1, rfl⟩ := nodes_slice hu
      have HS := Lib.hid (fun hne => noneT_succ HJ.out ht hne)
      have HV := Lib.hid (fun (e : t = x) => HT.out j (by rw [ht, e]))
      clear k0 hu ht hf
      by_cases he : t = x
      · have hv := Lib.hid (HV.out he)
        rw [decide_eq_true (enc_iff.2 he)] at KE
        clear he HS HV
        generalize (Fm.enc t).length = nt at *
        go_wp2_with fail
        refine (KE.out).mono ?_
        rintro e w1 ⟨rfl, hg1⟩
        go_wp2_with fail
        go_ret
        exact ⟨congrArg (fun k => Ending.returned (Value.bool k)) hv.out.symm, hB.trans hg1⟩
      · have hs := Lib.hid (HS.out he)
        rw [decide_eq_false (fun h => he (enc_iff.1 h))] at KE
        clear he HS HV
        generalize (Fm.enc t).length = nt at *
        go_wp2_with fail
        refine (KE.out).mono ?_
        rintro e w1 ⟨rfl, hg1⟩
        go_wp2_with fail
        go_roundw
        case rel => exact ⟨j + 1, by omega, by go_num, hB.trans hg1, hs⟩
        case measure => simp [intOf]; omega
    · obtain rfl : j = n := by omega
      have hv := Lib.hid (HZ.out HJ.out)
      go_wp2_with fail
      go_ret
      exact ⟨congrArg (fun k => Ending.returned (Value.bool k)) hv.out.symm, hB⟩

/-- The call returns a list of formulas. -/
def GivesLT (w : World) (L : List Tree) (e : Ending) (w' : World) : Prop := ∃ v, e = .returned v ∧ LT w' v L ∧ Grew w w'
theorem withL_take {L xs : List Tree} {j : Nat} {t : Tree} (ht : xs[j]? = some t) : withL L (xs.take (j + 1)) = with1 (withL L (xs.take j)) t := by
  have hj : j < xs.length := (List.getElem?_eq_some_iff.1 ht).1
  rw [List.take_succ_eq_append_getElem hj, (List.getElem?_eq_some_iff.1 ht).2]
  unfold withL
  rw [List.foldl_append]; rfl
theorem with1_len (L : List Tree) (x : Tree) : (with1 L x).length ≤ L.length + 1 := by
  unfold with1
  split
  · omega
  · simp
theorem withL_len (L : List Tree) : ∀ (xs : List Tree), (withL L xs).length ≤ L.length + xs.length := by
  intro xs
  induction xs generalizing L with
  | nil => exact Nat.le_refl _
  | cons x xs ih =>
    have h1 := ih (with1 L x)
    have h2 := with1_len L x
    show (withL (with1 L x) xs).length ≤ L.length + (xs.length + 1)
    omega
theorem with1_yes {L : List Tree} {x : Tree} (h : hasL L x = true) : with1 L x = L := by unfold with1; rw [h]; rfl
theorem with1_no {L : List Tree} {x : Tree} (h : hasL L x = false) : with1 L x = L ++ [x] := by unfold with1; rw [h]; rfl
theorem withL_ok {L xs : List Tree} (h1 : ∀ a ∈ L, FmOk a) (h2 : ∀ a ∈ xs, FmOk a) : ∀ a ∈ withL L xs, FmOk a := by
  induction xs generalizing L with
  | nil => exact h1
  | cons x xs ih =>
    refine ih (L := with1 L x) (fun a ha => ?_) (fun a ha => h2 a (.tail _ ha))
    rcases with1_mem.1 ha with h | rfl
    · exact h1 a h
    · exact h2 _ (.head _)

set_option maxHeartbeats 2000000 in
theorem l23With_c (v vm : Value) (L M : List Tree) (w : World) (h : LT w v L) (hm : LT w vm M) (hL : ∀ a ∈ L, FmOk a) (hM : ∀ a ∈ M, FmOk a) (hn : L.length ≤ 2097152) (hk : M.length ≤ 12) :
    Calls Tryz.prog 81 #[v, vm] w (GivesLT w (withL L M)) := by
  unfold GivesLT
  obtain ⟨us, hr, hv⟩ := h
  obtain ⟨A, c, rfl⟩ := lt_slice ⟨us, hr, hv⟩
  have HO := Lib.hid (own_empty w)
  have HAL := Lib.hid ((Grew.refl w).alloc (.cells #[] 42))
  have HR := Lib.hid hr
  have HU := Lib.hid hv
  have HX := Lib.hid (fun j (hj : j < M.length) => (⟨M[j], List.getElem?_eq_getElem hj, hM _ (List.getElem_mem hj)⟩ : ∃ t, M[j]? = some t ∧ FmOk t))
  have HLen := Lib.hid (fun j => Nat.le_trans (withL_len L (M.take j)) (Nat.add_le_add_left (Nat.le_trans (by rw [List.length_take]; omega : (M.take j).length ≤ M.length) hk) _))
  have HOk := Lib.hid (fun j => withL_ok hL (fun a (ha : a ∈ M.take j) => hM a (List.mem_of_mem_take ha)))
  have HS := Lib.hid (fun j t ht => @withL_take L M j t ht)
  have H0 : withL L (M.take 0) = L := rfl
  have HZ : withL L (M.take M.length) = withL L M := by rw [List.take_length]
  rw [← HZ]
  have h1 := Lib.hid hv.cell1
  clear hr hv hL hM HZ
  rcases hm.open_ with ⟨rfl, rfl⟩ | ⟨b, o, cm, rfl, hlc, hmm, hb, hcell⟩
  · clear HX HLen HOk HS hm
    go_enter Tryz.func81, Tryz.ntmps81
    go_wp2_with (first | (at_builtin; refine wpList_appVs (w0 := w) _ _ rfl rfl _ [] rfl HO.out HAL.out _ L.length us rfl (HR.out.grew HAL.out) h1.out (by simp; omega) ?_; intro v2 w2 hown2 hg2))
    refine wp_loop_rounds 1 ?_; rw [rounds_succ]
    go_wp2_with fail
    go_ret
    exact ⟨_, rfl, LT.of_own (us := us) hown2 (HU.out.grew hg2), hg2⟩
  have HC := Lib.hid hcell
  clear hcell hm
  generalize hN : M.length = n at *
  clear hN
  go_enter Tryz.func81, Tryz.ntmps81
  go_wp2_with (first | (at_builtin; refine wpList_appVs (w0 := w) _ _ rfl rfl _ [] rfl HO.out HAL.out _ L.length us rfl (HR.out.grew HAL.out) h1.out (by simp; omega) ?_; intro v2 w2 hown2 hg2))
  go_loopw [5, 6] (fun vv i wr => ∃ (j : Nat) (vs : List Value), j ≤ n ∧ i = .int .i64 j ∧ Hid (OwnV wr w.heap.size vv vs) ∧ Grew w wr ∧ Hid (VT w vs (withL L (M.take j)))) (fun _ i _ => n - (intOf i).toNat)
  case atStart => exact ⟨0, us, Nat.zero_le _, rfl, Lib.hid hown2, hg2, Lib.hid (by rw [H0]; exact HU.out)⟩
  clear hown2 hg2 HO HAL HR HU H0 h1
  case round =>
    obtain ⟨j, vs, hj, rfl, hO, hB, hV⟩ := hrel
    by_cases hlt : j < n
    · obtain ⟨t, ht, hf⟩ := HX.out j hlt
      obtain ⟨u, k0, hu⟩ := HC.out j t ht
      have k1 := k0 _ hB
      have hll := HLen.out j
      have hstep := Lib.hid (HS.out j t ht)
      have KH := Lib.hid (l23Has_c _ u (withL L (M.take j)) t wr (LT.of_own hO.out (hV.out.grew hB)) (hu.grew hB) (HOk.out j) (by omega))
      generalize withL L (M.take j) = K at *
      have k2 := fun W (hW : Grew wr W) => k0 W (hB.trans hW)
      obtain ⟨A1, c1, rfl⟩ := nodes_slice hu
      have hvb : vs.length ≤ 2097164 := by have := hV.out.1; omega
      obtain ⟨Av, cv, rfl⟩ : ∃ A c, u5 = .slice A vs.length c := by
        obtain ⟨A', c', e⟩ := lt_slice (LT.of_own hO.out (hV.out.grew hB))
        exact ⟨A', c', by rw [e, hV.out.1]⟩
      cases hh : hasL K t with
      | true =>
        rw [hh] at KH
        have hst := Lib.hid (hstep.out.trans (with1_yes hh))
        clear hh k0 ht hf k2 hstep
        generalize (Fm.enc t).length = nt at *
        go_wp2_with fail
        refine (KH.out).mono ?_
        rintro e w1 ⟨rfl, hg1⟩
        go_wp2_with fail
        go_roundw
        case rel => exact ⟨j + 1, vs, by omega, by go_num, Lib.hid (own_grew hO.out hg1), hB.trans hg1, Lib.hid (by rw [hst.out]; exact hV.out)⟩
        case measure => simp [intOf]; omega
      | false =>
        rw [hh] at KH
        have hst := Lib.hid (hstep.out.trans (with1_no hh))
        have hu1 := Lib.hid (hV.out.app (VT.one hu))
        clear hh k0 ht hf hstep hu
        generalize (Fm.enc t).length = nt at *
        go_wp2_with fail
        refine (KH.out).mono ?_
        rintro e w1 ⟨rfl, hg1⟩
        have k3 := k2 _ hg1
        have hB1 := (hB.trans hg1).alloc (.cells #[.slice A1 nt c1] 42)
        have hgr := hg1.alloc (.cells #[.slice A1 nt c1] 42)
        have hO1 : OwnV (w1.alloc (.cells #[.slice A1 nt c1] 42)) w.heap.size (.slice Av vs.length cv) vs := own_grew hO.out hgr
        go_wp2_with (first | (at_builtin; refine wpList_appVs (w0 := w) _ _ rfl rfl _ vs rfl hO1 hB1 _ 1 [.slice A1 nt c1] rfl (rd_lit _ _ _) (by simp [Value.oneCell']) (by omega) ?_; intro v3 w3 hown3 hg3))
        go_roundw
        case rel => exact ⟨j + 1, _, by omega, by go_num, Lib.hid hown3, hg3, Lib.hid (by rw [hst.out]; exact hu1.out)⟩
        case measure => simp [intOf]; omega
    · obtain rfl : j = n := by omega
      go_wp2_with fail
      go_ret
      exact ⟨_, rfl, LT.of_own hO.out (hV.out.grew hB), hB⟩
end Go.Proofs.YtmdbhcoioimlmaaGreat

/- The parts of a formula in the reference; l23Useless. -/
namespace Go.Proofs.YtmdbhcoioimlmaaGreat
open Go.RowKit
open Fm (Nd Tree)

theorem left_t {A x y : Tree} (h2 : TwoF A x y) (hA : FmOk A) (v : Value) (w : World) (h : Nodes w v (Fm.enc A)) : Calls Tryz.prog 70 #[v] w (Cuts w (Fm.enc x)) :=
  l02Left_c v (Fm.enc A) x w h (by have := hA.1; omega) (at_first h2)
theorem right_t {A x y : Tree} (h2 : TwoF A x y) (hA : FmOk A) (v : Value) (w : World) (h : Nodes w v (Fm.enc A)) : Calls Tryz.prog 71 #[v] w (Cuts w (Fm.enc y)) :=
  l02Right_c v (Fm.enc A) x y w h (by have := hA.1; omega) (at_first h2) (at_second h2) h2.len
theorem two_and (x y : Tree) : TwoF (.and x y) x y := rfl
theorem two_or (x y : Tree) : TwoF (.or x y) x y := rfl
theorem two_imp (x y : Tree) : TwoF (.imp x y) x y := rfl
/-- A head's cell. -/
theorem head_t {w : World} {v : Value} {t : Tree} (h : Nodes w v (Fm.enc t)) : ∃ b o n c, v = .slice (some ⟨b, o, none⟩) n c ∧ 0 < n ∧ n = (Fm.enc t).length ∧ ∀ W, Grew w W → W.cell? ⟨b, o, none⟩ = some (.int .i64 (kindOf t)) := by
  obtain ⟨b, o, c, h1, _, _, h4⟩ := nodes_head h
  exact ⟨b, o, _, c, h1, Fm.enc_pos t, rfl, h4⟩

theorem not_imp_kind {t : Tree} (h : ∀ p q, t ≠ .imp p q) : (kindOf t != 4) = true := by
  cases t with
  | imp p q => exact absurd rfl (h p q)
  | _ => rfl

set_option maxHeartbeats 2000000 in
theorem l23Useless_c (v va : Value) (R : List Tree) (a : Tree) (w : World) (h : LT w v R) (hc : Nodes w va (Fm.enc a)) (hR : ∀ b ∈ R, FmOk b) (ha : FmOk a) (hn : R.length ≤ 4194304) :
    Calls Tryz.prog 80 #[v, va] w fun e w' => e = .returned (.bool (usl R a)) ∧ Grew w w' := by
  have KH := Lib.hid (fun x u W (hW : Grew w W) (hu : Nodes W u (Fm.enc x)) => l23Has_c v u R x W (h.grew hW) hu hR hn)
  have HN := Lib.hid hc
  obtain ⟨A, cA, rfl⟩ := lt_slice h
  obtain ⟨b, o, n, c, rfl, hn0, hne, hk⟩ := head_t hc
  have r0 := Grew.refl w
  have k0 := hk _ r0
  have hnn : (0 : Int) < (n : Int) := by omega
  clear h hc hk hR hn
  generalize R.length = m at *
  rcases fm_five ha with ⟨x, rfl⟩ | rfl | ⟨x, y, rfl⟩ | ⟨x, y, rfl⟩ | ⟨x, y, rfl⟩
  · simp only [kindOf] at k0
    clear HN KH ha hne
    go_enter Tryz.func80, Tryz.ntmps80
    go_wp2_with fail
    go_ret
    exact ⟨rfl, r0⟩
  · simp only [kindOf] at k0
    clear HN KH ha hne
    go_enter Tryz.func80, Tryz.ntmps80
    go_wp2_with fail
    go_ret
    exact ⟨rfl, r0⟩
  · simp only [kindOf] at k0
    clear HN KH ha hne
    go_enter Tryz.func80, Tryz.ntmps80
    go_wp2_with fail
    go_ret
    exact ⟨rfl, r0⟩
  · simp only [kindOf] at k0
    have KL := Lib.hid (left_t (two_or x y) ha _ w HN.out)
    have KR := Lib.hid (fun W (hW : Grew w W) => right_t (two_or x y) ha _ W (HN.out.grew hW))
    show Calls _ _ _ _ fun e w' => e = .returned (.bool (hasL R x || hasL R y)) ∧ Grew w w'
    clear HN ha hne
    cases h1 : hasL R x with
    | true =>
      have KH1 := Lib.hid (fun u W hW hu => h1 ▸ KH.out x u W hW hu)
      clear KH h1 KR
      go_enter Tryz.func80, Tryz.ntmps80
      go_wp2_with fail
      refine (KL.out).mono ?_
      rintro e w1 ⟨u, rfl, hu, hg1⟩
      go_wp2_with fail
      refine (KH1.out _ _ hg1 hu).mono ?_
      rintro e w2 ⟨rfl, hg2⟩
      go_wp2_with fail
      go_ret
      exact ⟨rfl, hg1.trans hg2⟩
    | false =>
      have KH1 := Lib.hid (fun u W hW hu => h1 ▸ KH.out x u W hW hu)
      have KH2 := Lib.hid (fun u W hW hu => KH.out y u W hW hu)
      clear KH h1
      generalize hasL R y = q at *
      go_enter Tryz.func80, Tryz.ntmps80
      go_wp2_with fail
      refine (KL.out).mono ?_
      rintro e w1 ⟨u, rfl, hu, hg1⟩
      go_wp2_with fail
      refine (KH1.out _ _ hg1 hu).mono ?_
      rintro e w2 ⟨rfl, hg2⟩
      have g2 := hg1.trans hg2
      clear hu
      go_wp2_with fail
      refine (KR.out _ g2).mono ?_
      rintro e w3 ⟨u, rfl, hu, hg3⟩
      have g3 := g2.trans hg3
      go_wp2_with fail
      refine (KH2.out _ _ g3 hu).mono ?_
      rintro e w4 ⟨rfl, hg4⟩
      go_wp2_with fail
      go_ret
      exact ⟨rfl, g3.trans hg4⟩
  · simp only [kindOf] at k0
    have KL := Lib.hid (left_t (two_imp x y) ha _ w HN.out)
    have KR := Lib.hid (fun W (hW : Grew w W) => right_t (two_imp x y) ha _ W (HN.out.grew hW))
    show Calls _ _ _ _ fun e w' => e = .returned (.bool (Fm.isF x || hasL R y)) ∧ Grew w w'
    clear HN ha hne
    cases h1 : Fm.isF x with
    | true =>
      have hx := Fm.isF_eq h1
      subst hx
      clear KH h1 KR
      go_enter Tryz.func80, Tryz.ntmps80
      go_wp2_with fail
      refine (KL.out).mono ?_
      rintro e w1 ⟨u, rfl, hu, hg1⟩
      obtain ⟨b1, o1, n1, c1, rfl, hn1, hne1, hk1⟩ := head_t hu
      have k1 := hk1 _ (Grew.refl _)
      have hnn1 : (0 : Int) < (n1 : Int) := by omega
      simp only [kindOf] at k1
      clear hu hk1 hne1
      go_wp2_with fail
      go_ret
      exact ⟨rfl, hg1⟩
    | false =>
      have KH2 := Lib.hid (fun u W hW hu => KH.out y u W hW hu)
      have hq : (kindOf x == 1) = false := by rw [← isF_kind]; exact h1
      clear KH h1
      generalize hasL R y = q at *
      go_enter Tryz.func80, Tryz.ntmps80
      go_wp2_with fail
      refine (KL.out).mono ?_
      rintro e w1 ⟨u, rfl, hu, hg1⟩
      obtain ⟨b1, o1, n1, c1, rfl, hn1, hne1, hk1⟩ := head_t hu
      have k1 := hk1 _ (Grew.refl _)
      have hnn1 : (0 : Int) < (n1 : Int) := by omega
      clear hu hk1 hne1
      generalize kindOf x = kx at *
      go_wp2_with fail
      refine (KR.out _ hg1).mono ?_
      rintro e w3 ⟨u, rfl, hu, hg3⟩
      have g3 := hg1.trans hg3
      go_wp2_with fail
      refine (KH2.out _ _ g3 hu).mono ?_
      rintro e w4 ⟨rfl, hg4⟩
      go_wp2_with fail
      go_ret
      exact ⟨rfl, g3.trans hg4⟩
end Go.Proofs.YtmdbhcoioimlmaaGreat

/- treeOf and arrow of the program; its contracts on formulas. -/
namespace Go.Proofs.YtmdbhcoioimlmaaGreat
open Go.RowKit
open Fm (Tree)

/-- The call returns a formula. -/
def GivesF (w : World) (a : Tree) (e : Ending) (w' : World) : Prop := ∃ u, e = .returned u ∧ Nodes w' u (Fm.enc a) ∧ Grew w w'
theorem treeOf_c (a : Tree) (w : World) (ha : FmOk a) : Calls Tryz.prog 124 #[.string (tx a)] w (GivesF w a) := by
  have hsz := tx_size ha.1
  have hrd : Fm.parse (tx a).data.toList Fm.fuel = (Fm.enc a, ((Fm.txt a 0).length, false)) := by
    have h := Fm.read_txt a (by have := Fm.txt_len a 0; have := ha.1; unfold Fm.fuel; omega)
    exact h
  have HT := Lib.hid (fun g w hR => imply_top 99 (by decide) (tx a) Fm.fuel (by omega) (by unfold Fm.fuel; omega) g w hR)
  rw [hrd] at HT
  have HR0 := Lib.hid (Rdr.new w 99 (tx a))
  clear hrd ha
  generalize tx a = s at *
  generalize (Fm.txt a 0).length = p at *
  unfold GivesF
  generalize Fm.enc a = xs at *
  go_enter Tryz.func124, Tryz.ntmps124
  go_wp2_with fail
  refine (HT.out _ _ HR0.out).mono ?_
  rintro e w1 ⟨v1, rfl, ho1, hR1, hO1⟩
  have hG := hO1.grew_of ((Grew.refl w).alloc _) (Nat.le_refl _)
  go_wp2_with fail
  go_ret
  exact ⟨_, rfl, ho1.nodes, hG⟩

theorem first_t {A x y : Tree} (h2 : TwoF A x y) (hA : FmOk A) (v : Value) (w : World) (h : Nodes w v (Fm.enc A)) : Calls Tryz.prog 74 #[v] w (GivesF w x) :=
  (first_c v (Fm.enc A) x w h (by have := hA.1; omega) (at_first h2)).mono fun _ _ h => h
theorem second_t {A x y : Tree} (h2 : TwoF A x y) (hA : FmOk A) (v : Value) (w : World) (h : Nodes w v (Fm.enc A)) : Calls Tryz.prog 75 #[v] w (GivesF w y) :=
  (second_c v (Fm.enc A) x y w h (by have := hA.1; omega) (at_first h2) (at_second h2)).mono fun _ _ h => h
theorem text_t (a : Tree) (v : Value) (w : World) (ha : FmOk a) (h : Nodes w v (Fm.enc a)) : Calls Tryz.prog 47 #[v] w fun e w' => e = .returned (.string (tx a)) ∧ Grew w w' :=
  (text_c a v w h (by have := ha.1; omega)).mono fun _ _ h => h

/-- Two formulas: the implication. -/
theorem arrow2_c (b : Nat) (A1 A2 : Option Addr) (n1 n2 c1 c2 : Nat) (x y : Tree) (w : World) (hx : Nodes w (.slice A1 n1 c1) (Fm.enc x)) (hy : Nodes w (.slice A2 n2 c2) (Fm.enc y)) (hl : nn x + nn y ≤ 100)
    (k1 : ∀ W, Grew w W → W.cell? ⟨b, 0, none⟩ = some (.slice A1 n1 c1)) (k2 : ∀ W, Grew w W → W.cell? ⟨b, 1, none⟩ = some (.slice A2 n2 c2)) :
    Calls Tryz.prog 151 #[.slice (some ⟨b, 0, none⟩) 2 2] w (GivesF w (.imp x y)) := by
  unfold nn at hl
  have KJ := Lib.hid (fun W (hW : Grew w W) => join_c 4 _ _ (Fm.enc x) (Fm.enc y) W (hx.grew hW) (hy.grew hW) (by omega))
  have r0 := Grew.refl w
  have p1 := k1 _ r0
  have p2 := k2 _ r0
  clear hx hy hl
  go_enter Tryz.func151, Tryz.ntmps151
  go_wp2_with fail
  refine wp_loop_rounds 2 ?_
  rw [rounds_succ]
  go_wp2_with fail
  refine (KJ.out _ r0).mono ?_
  rintro e w1 ⟨u, rfl, hu, hg1⟩
  go_wp2_with fail
  rw [rounds_succ]
  go_wp2_with fail
  go_ret
  exact ⟨_, rfl, hu.nodes, hg1⟩
/-- Three formulas. -/
theorem arrow3_c (b : Nat) (A1 A2 A3 : Option Addr) (n1 n2 n3 c1 c2 c3 : Nat) (x y z : Tree) (w : World) (hx : Nodes w (.slice A1 n1 c1) (Fm.enc x)) (hy : Nodes w (.slice A2 n2 c2) (Fm.enc y)) (hz : Nodes w (.slice A3 n3 c3) (Fm.enc z)) (hl : nn x + nn y + nn z ≤ 100)
    (k1 : ∀ W, Grew w W → W.cell? ⟨b, 0, none⟩ = some (.slice A1 n1 c1)) (k2 : ∀ W, Grew w W → W.cell? ⟨b, 1, none⟩ = some (.slice A2 n2 c2)) (k3 : ∀ W, Grew w W → W.cell? ⟨b, 2, none⟩ = some (.slice A3 n3 c3)) :
    Calls Tryz.prog 151 #[.slice (some ⟨b, 0, none⟩) 3 3] w (GivesF w (.imp x (.imp y z))) := by
  unfold nn at hl
  have KJ := Lib.hid (fun W (hW : Grew w W) => join_c 4 _ _ (Fm.enc y) (Fm.enc z) W (hy.grew hW) (hz.grew hW) (by omega))
  have KI := Lib.hid (fun u W (hW : Grew w W) (hu : Nodes W u (Fm.join 4 (Fm.enc y) (Fm.enc z))) => join_c 4 _ u (Fm.enc x) _ W (hx.grew hW) hu (by simp only [Fm.join, List.length_cons, List.length_append]; omega))
  have r0 := Grew.refl w
  have p1 := k1 _ r0
  have p2 := k2 _ r0
  have p3 := k3 _ r0
  clear hx hy hz hl
  go_enter Tryz.func151, Tryz.ntmps151
  go_wp2_with fail
  refine wp_loop_rounds 3 ?_
  rw [rounds_succ]
  go_wp2_with fail
  refine (KJ.out _ r0).mono ?_
  rintro e w1 ⟨u, rfl, hu, hg1⟩
  have q1 := k1 _ hg1
  go_wp2_with fail
  rw [rounds_succ]
  go_wp2_with fail
  refine (KI.out _ _ hg1 hu.nodes).mono ?_
  rintro e w2 ⟨u2, rfl, hu2, hg2⟩
  go_wp2_with fail
  rw [rounds_succ]
  go_wp2_with fail
  go_ret
  exact ⟨_, rfl, hu2.nodes, hg1.trans hg2⟩
end Go.Proofs.YtmdbhcoioimlmaaGreat

/- isText of the program. -/
import Derived.Test.YthofkdpmgjkgkaaGreatGood
import Derived.Test.YthofkdpmgjkgkaaGreatText
import Derived.Test.YthofkdpmgjkgkaaGreatParsed
import Derived.Test.YthofkdpmgjkgkaaGreatStrs
import Derived.Deep.RegionHeld3
import Derived.Deep.QuietTactic
import Derived.BigQuiet
import Derived.Deep.LoopGhost
import Derived.WalkSpells
import Derived.WalkLawsBesides
import Derived.Outline
namespace Go.Proofs.YthofkdpmgjkgkaaGreat
open Go.RowKit
open Fm (Nd)

theorem text0_c (t : Fm.Tree) (v : Value) (w : World) (h : Nodes w v (Fm.enc t)) (hn : (Fm.enc t).length ≤ 1048576) :
    Calls Tryz.prog 157 #[v] w (Says w (Fm.txt t 0)) := text_c t v w h hn

theorem isText_c (s : ByteArray) (w : World) (hs : s.size ≤ 140737488355328) :
    Calls Tryz.prog 131 #[.string s] w fun e w' => e = .returned (.bool (gd s)) ∧ Grew w w' := by
  have HP := fun w => parsed_c s w hs
  rcases pf_cases s with ⟨t, ht⟩ | ⟨p, c, hp, hc⟩
  · have hn := Fm.pf_len s
    have hpos := Fm.enc_pos t
    rw [gd_tree ht]
    rw [ht] at HP hn
    simp only at HP hn
    replace HP := Lib.hid HP
    have HT := Lib.hid (fun v w h => text0_c t v w h (by omega))
    have HO := Lib.hid (fun w (v : Value) (h : Own w w.heap.size v (Fm.enc t)) => h)
    clear ht HO
    have hne := fun w (b : Option Addr) n c => run_neq_slice_nil_any (P := Tryz.prog) w 101 135 b n c 0 0 Tryz.underlying101
    generalize Fm.enc t = xs at *
    go_enter Tryz.func131, Tryz.ntmps131
    go_wp2_with fail
    refine (HP.out _).mono ?_
    rintro e w1 ⟨v1, rfl, ho1, hg1, _⟩
    rcases ho1.open_ with ⟨rfl, h0⟩ | ⟨g, c, cur, rfl, _⟩
    · rw [h0] at hpos; cases hpos
    go_wp2_with fail
    refine (HT.out _ _ ho1.nodes).mono ?_
    rintro e w2 ⟨rfl, hg2⟩
    go_wp2_with fail
    go_ret
    exact ⟨rfl, hg1.trans hg2⟩
  · rw [gd_bad hp hc]
    rw [hp] at HP
    replace HP := Lib.hid HP
    clear hp
    go_enter Tryz.func131, Tryz.ntmps131
    go_wp2_with fail
    refine (HP.out _).mono ?_
    rintro e w1 ⟨v1, rfl, ho1, hg1, hz1⟩
    obtain rfl := hz1 rfl
    go_wp2_with fail
    go_ret
    exact ⟨rfl, hg1⟩
end Go.Proofs.YthofkdpmgjkgkaaGreat

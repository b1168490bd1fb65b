/- Texts in one file: TySB TySC TySZ S12 Pw TyV TyW1 TyW2 TyW3 TyW FitS StCf StCont TyD Nr NrS NrD SnE TtT Dec0 TtD TtS Sn SnP StrLaw LawSn Args. -/
import Derived.Deep.RegionHeld3
import Derived.Deep.QuietTactic
import Derived.BigQuiet
import Derived.Deep.LoopGhost
import Derived.WalkLawsBesides
import Derived.Outline
import Derived.Shelf.Abstract
import Derived.Test.YtfpkfgimhanekaaGreatProg
import Derived.Lib.SliceRun
import Derived.Lib.SlicesS
import Derived.Lib.ItoaNum
import Derived.Laws.BytesArg
import Derived.Deep.RegionWith
import Derived.IntWalk
import Derived.Deep.OwnRows
import Derived.Deep.Strs
import Derived.Lib.SmallJoins
import Derived.Carry
import Derived.ProofKit
import Derived.Test.YtfpkfgimhanekaaGreatPa1
import Derived.Test.YtfpkfgimhanekaaGreatPa2
import Derived.Test.YtfpkfgimhanekaaGreatPa3
set_option linter.all false

/- l26Type of an abort. -/
namespace Go.Proofs.YtfpkfgimhanekaaGreat
open Go.RowKit
open Tr (Tm)

theorem l26Type_abort (x : Tn) (a : Tm) (hg : Good (.t1 x a)) (hk : x.1 = 9) (G : List Fm.Tree) (hG : ∀ A ∈ G, FmOk A) (hl : G.length ≤ 12) (IH : TypS a G) (va v : Value) (w : World) (hs : Strs w va (G.map tx)) (h : Tms w v (Tr.enc (.t1 x a))) (hn : (Tr.enc (.t1 x a)).length ≤ 60) :
    Calls Tryz.prog 46 #[va, v] w fun e w' => e = .returned (.string (otx (ty G (.t1 x a)))) ∧ Grew w w' := by
  have hty : ty G (.t1 x a) = (ty G a).bind (ty1 9 (fo x.2.2)) := by
    rw [ty, if_neg (by rw [hk]; decide), hk]
  rw [hty]
  have KP := Lib.hid (fun W (hW : Grew w W) => by
    have h1 := l26Part_c v (.t1 x a) 0 W (h.grew hW) hg (by omega) (by decide : 0 < 1)
    rw [show Tr.kid (.t1 x a) 0 = a from rfl] at h1
    exact h1)
  obtain ⟨b, o, c, rfl, hc, hm, hb, hcl⟩ := tms_head h
  have k0 := fun W (hW : Grew w W) => (hcl W hW).1
  have k1 := fun W (hW : Grew w W) => (hcl W hW).2.1
  have k2 := fun W (hW : Grew w W) => (hcl W hW).2.2
  change ∀ W, Grew w W → W.cell? ⟨b, o, none⟩ = some (.int .i64 x.1) at k0
  change ∀ W, Grew w W → W.cell? ⟨b, o + 1, none⟩ = some (.int .i64 x.2.1) at k1
  change ∀ W, Grew w W → W.cell? ⟨b, o + 2, none⟩ = some (.string x.2.2) at k2
  rw [hk] at k0
  have hpos := Tr.enc_pos (.t1 x a)
  have hal := (Grew.refl w).alloc (.cells #[.int .i64 9, .int .i64 x.2.1, .string x.2.2] 45)
  have hr := Grew.refl w
  have HOK := fun B hB => ty_ok a hg.2 G B hG hB
  have KI := fun u W (hW : Grew w W) hu => IH va u W (hs.grew hW) hu
  obtain ⟨D, d, rfl⟩ := (strs_map hs).1
  have hA := fo_ok (goodN_text hg.1.2 (by rw [hk]; rfl) (by rw [hk]; decide))
  clear hcl h hg hty IH hs hG
  generalize fo x.2.2 = A at *
  rw [← hA.2] at k2 hal
  generalize x.2.1 = xn at *
  generalize (Tr.enc (.t1 x a)).length = n at *
  generalize G.length = gl at *
  have hC : ty G a = none ∨ (ty G a = some .fls) ∨ ∃ C, ty G a = some C ∧ C ≠ .fls ∧ ty1 9 A C = none := by
    cases ty G a with
    | none => exact .inl rfl
    | some C =>
      cases C with
      | fls => exact .inr (.inl rfl)
      | _ => exact .inr (.inr ⟨_, rfl, by simp, by simp [ty1]⟩)
  rcases hC with hC | hC | ⟨C, hC, hne9, h1⟩
  · rw [hC] at KI ⊢
    change Calls _ _ _ _ (fun e w' => e = .returned (.string ByteArray.empty) ∧ Grew w w')
    rw [show otx none = ByteArray.empty from rfl] at KI
    clear HOK hC hA
    generalize tx A = ta at *
    replace KI := Lib.hid KI
    go_enter Tryz.func46, Tryz.ntmps46
    go_wp2_with fail
    refine (KP.out _ hal).mono ?_
    rintro e w1 ⟨u, rfl, hu, hg1⟩
    have HU := Lib.hid hu
    obtain ⟨U, e1, rfl⟩ := tms_slice hu
    clear hu
    have g1 := hal.trans hg1
    have f0 : ∀ W, Grew w1 W → W.cell? ⟨w.heap.size, 0, none⟩ = some (.int .i64 9) := fun W hW => ((hg1.trans hW).cell (p := ⟨w.heap.size, 0, none⟩) (by simp)).trans (by simp)
    go_wp2_with fail
    refine (KI.out _ _ g1 HU.out).mono ?_
    rintro e w2 ⟨rfl, hg2⟩
    have g2 := g1.trans hg2
    go_wp2_with fail
    go_ret
    exact ⟨rfl, g2⟩
  · rw [hC] at KI ⊢
    change Calls _ _ _ _ (fun e w' => e = .returned (.string (tx A)) ∧ Grew w w')
    have hF : tx .fls = ⟨#[70]⟩ := rfl
    rw [show otx (some .fls) = tx .fls from rfl, hF] at KI
    clear HOK hC hA hF
    generalize tx A = ta at *
    replace KI := Lib.hid KI
    go_enter Tryz.func46, Tryz.ntmps46
    go_wp2_with fail
    refine (KP.out _ hal).mono ?_
    rintro e w1 ⟨u, rfl, hu, hg1⟩
    have HU := Lib.hid hu
    obtain ⟨U, e1, rfl⟩ := tms_slice hu
    clear hu
    have g1 := hal.trans hg1
    have f0 : ∀ W, Grew w1 W → W.cell? ⟨w.heap.size, 0, none⟩ = some (.int .i64 9) := fun W hW => ((hg1.trans hW).cell (p := ⟨w.heap.size, 0, none⟩) (by simp)).trans (by simp)
    go_wp2_with fail
    refine (KI.out _ _ g1 HU.out).mono ?_
    rintro e w2 ⟨rfl, hg2⟩
    have g2 := g1.trans hg2
    have f2 : ∀ W, Grew w2 W → W.cell? ⟨w.heap.size, 2, none⟩ = some (.string ta) := fun W hW => (((hg1.trans hg2).trans hW).cell (p := ⟨w.heap.size, 2, none⟩) (by simp)).trans (by simp)
    have r2 := Grew.refl w2
    go_wp2_with fail
    go_ret
    exact ⟨rfl, g2⟩
  · rw [hC] at KI ⊢
    rw [show (some C).bind (ty1 9 A) = none from h1]
    change Calls _ _ _ _ (fun e w' => e = .returned (.string ByteArray.empty) ∧ Grew w w')
    have hok := HOK _ hC
    have hne := tx_ne C
    rw [show otx (some C) = tx C from rfl] at KI
    have hneq : tx C ≠ tx .fls := fun hh => hne9 (tx_inj hok.1 (by decide) hh)
    have hb1 : ((tx C).toList == (tx .fls).toList) = false := by
        cases hq : ((tx C).toList == (tx .fls).toList) with
        | false => rfl
        | true => exact absurd ((Lib.bytes_beq_iff _ _).1 hq) hneq
    have hF : tx .fls = ⟨#[70]⟩ := rfl
    rw [hF] at hb1
    have h70 : (⟨#[70]⟩ : ByteArray).toList = [70] := by first | rfl | decide | (simp; done) | (unfold ByteArray.toList ByteArray.toList.loop; simp [ByteArray.size]; unfold ByteArray.toList.loop; simp [ByteArray.size]; done)
    rw [h70] at hb1
    clear HOK hC hok hneq hF hA h1 hne9 h70
    generalize tx C = tc at *
    generalize tx A = ta at *
    replace KI := Lib.hid KI
    go_enter Tryz.func46, Tryz.ntmps46
    go_wp2_with fail
    refine (KP.out _ hal).mono ?_
    rintro e w1 ⟨u, rfl, hu, hg1⟩
    have HU := Lib.hid hu
    obtain ⟨U, e1, rfl⟩ := tms_slice hu
    clear hu
    have g1 := hal.trans hg1
    have f0 : ∀ W, Grew w1 W → W.cell? ⟨w.heap.size, 0, none⟩ = some (.int .i64 9) := fun W hW => ((hg1.trans hW).cell (p := ⟨w.heap.size, 0, none⟩) (by simp)).trans (by simp)
    go_wp2_with fail
    refine (KI.out _ _ g1 HU.out).mono ?_
    rintro e w2 ⟨rfl, hg2⟩
    have g2 := g1.trans hg2
    have f2 : ∀ W, Grew w2 W → W.cell? ⟨w.heap.size, 2, none⟩ = some (.string ta) := fun W hW => (((hg1.trans hg2).trans hW).cell (p := ⟨w.heap.size, 2, none⟩) (by simp)).trans (by simp)
    have r2 := Grew.refl w2
    go_wp2_with fail
    go_ret
    exact ⟨rfl, g2⟩
end Go.Proofs.YtfpkfgimhanekaaGreat

/- l26Type of a case. -/
namespace Go.Proofs.YtfpkfgimhanekaaGreat
open Go.RowKit
open Tr (Tm)

theorem otx_eq {r s : Option Fm.Tree} (hr : ∀ A, r = some A → FmOk A) (hs : ∀ A, s = some A → FmOk A) :
    otx (r.bind fun R => s.bind fun S => if @decide (R = S) (Classical.propDecidable _) then some R else none) = if otx r = otx s then otx r else ByteArray.empty := by
  cases r with
  | none =>
    show ByteArray.empty = if ByteArray.empty = otx s then ByteArray.empty else ByteArray.empty
    rw [ite_self]
  | some R =>
    have hR := (hr R rfl).1
    cases s with
    | none =>
      have hne := tx_ne R
      have : otx (some R) ≠ otx none := by
        intro h
        rw [show otx (some R) = tx R from rfl, show otx none = ByteArray.empty from rfl] at h
        rw [h] at hne
        have h2 : ByteArray.empty.toList.isEmpty = true := by unfold ByteArray.toList ByteArray.toList.loop; rfl
        rw [h2] at hne
        cases hne
      rw [if_neg this]
      rfl
    | some S =>
      have hS := (hs S rfl).1
      by_cases h : R = S
      · subst h; simp [otx]
      · have : otx (some R) ≠ otx (some S) := fun hh => h (tx_inj hR hS hh)
        rw [if_neg this]
        simp [h, otx]

/-- The type of a case whose first part has a type. -/
noncomputable def tyCs (G : List Fm.Tree) (a b : Tm) : Fm.Tree → Option Fm.Tree
  | .or p q => if G.length < 12 then ((ty (G ++ [p]) a).bind fun R => (ty (G ++ [q]) b).bind fun S => if @decide (R = S) (Classical.propDecidable _) then some R else none) else none
  | _ => none
theorem ty_case (x : Tn) (c a b : Tm) (G : List Fm.Tree) : ty G (.t3 x c a b) = (ty G c).bind (tyCs G a b) := by
  rw [ty]
  congr 1
theorem tyCs_not {G : List Fm.Tree} {a b : Tm} {C : Fm.Tree} (h : (kindOf C == 3) = false) : tyCs G a b C = none := by
  cases C with
  | or p q => simp [kindOf] at h
  | _ => rfl

theorem l26Type_case (x : Tn) (c0 a b : Tm) (hg : Good (.t3 x c0 a b)) (hk : x.1 = 8) (G : List Fm.Tree) (hG : ∀ A ∈ G, FmOk A) (hl : G.length ≤ 12) (IHc : TypS c0 G) (IHa : ∀ A, FmOk A → G.length < 12 → TypS a (G ++ [A])) (IHb : ∀ A, FmOk A → G.length < 12 → TypS b (G ++ [A])) (va v : Value) (w : World) (hs : Strs w va (G.map tx)) (h : Tms w v (Tr.enc (.t3 x c0 a b))) (hn : (Tr.enc (.t3 x c0 a b)).length ≤ 60) :
    Calls Tryz.prog 46 #[va, v] w fun e w' => e = .returned (.string (otx (ty G (.t3 x c0 a b)))) ∧ Grew w w' := by
  have KP := Lib.hid (fun W (hW : Grew w W) => by
    have h1 := l26Part_c v (.t3 x c0 a b) 0 W (h.grew hW) hg (by omega) (by decide : 0 < 3)
    rw [show Tr.kid (.t3 x c0 a b) 0 = c0 from rfl] at h1
    exact h1)
  have KQ := Lib.hid (fun W (hW : Grew w W) => by
    have h1 := l26Part_c v (.t3 x c0 a b) 1 W (h.grew hW) hg (by omega) (by decide : 1 < 3)
    rw [show Tr.kid (.t3 x c0 a b) 1 = a from rfl] at h1
    exact h1)
  have KR := Lib.hid (fun W (hW : Grew w W) => by
    have h1 := l26Part_c v (.t3 x c0 a b) 2 W (h.grew hW) hg (by omega) (by decide : 2 < 3)
    rw [show Tr.kid (.t3 x c0 a b) 2 = b from rfl] at h1
    exact h1)
  have hgl : ∀ A, FmOk A → ∀ B ∈ G ++ [A], FmOk B := fun A hA B hB => by
    rw [List.mem_append] at hB
    rcases hB with hB | hB
    · exact hG B hB
    · simp at hB; subst hB; exact hA
  have HOC := fun B hB => ty_ok c0 hg.2.1 G B hG hB
  have HOA := fun A hA B hB => ty_ok a hg.2.2.1 (G ++ [A]) B (hgl A hA) hB
  have HOB := fun A hA B hB => ty_ok b hg.2.2.2 (G ++ [A]) B (hgl A hA) hB
  have KI := fun u W (hW : Grew w W) hu => IHc va u W (hs.grew hW) hu
  have KA := fun A (hA : FmOk A) u W (hW : Grew w W) hu => l26Under_c A a G (IHa A hA) va u W (hs.grew hW) hu hl
  have KB := fun A (hA : FmOk A) u W (hW : Grew w W) hu => l26Under_c A b G (IHb A hA) va u W (hs.grew hW) hu hl
  have hty : ty G (.t3 x c0 a b) = (ty G c0).bind (tyCs G a b) := ty_case x c0 a b G
  rw [hty]
  obtain ⟨bb, o, c, rfl, hc, hm, hb, hcl⟩ := tms_head h
  have k0 := fun W (hW : Grew w W) => (hcl W hW).1
  have k1 := fun W (hW : Grew w W) => (hcl W hW).2.1
  have k2 := fun W (hW : Grew w W) => (hcl W hW).2.2
  change ∀ W, Grew w W → W.cell? ⟨bb, o, none⟩ = some (.int .i64 x.1) at k0
  change ∀ W, Grew w W → W.cell? ⟨bb, o + 1, none⟩ = some (.int .i64 x.2.1) at k1
  change ∀ W, Grew w W → W.cell? ⟨bb, o + 2, none⟩ = some (.string x.2.2) at k2
  rw [hk] at k0
  have hpos := Tr.enc_pos (.t3 x c0 a b)
  have hal := (Grew.refl w).alloc (.cells #[.int .i64 8, .int .i64 x.2.1, .string x.2.2] 45)
  have hr := Grew.refl w
  obtain ⟨D0, d, rfl⟩ := (strs_map hs).1
  clear hcl h hg hty IHa IHb IHc hs hG hgl
  generalize x.2.1 = xn at *
  generalize x.2.2 = xs at *
  generalize (Tr.enc (.t3 x c0 a b)).length = n at *
  generalize ty G c0 = rc at *
  cases rc with
  | none =>
    change Calls _ _ _ _ (fun e w' => e = .returned (.string ByteArray.empty) ∧ Grew w w')
    rw [show otx none = ByteArray.empty from rfl] at KI
    clear HOC HOA HOB KA KB KQ KR hl
    generalize G.length = gl at *
    replace KI := Lib.hid KI
    go_enter Tryz.func46, Tryz.ntmps46
    go_wp2_with fail
    refine (KP.out _ hal).mono ?_
    rintro e w1 ⟨u, rfl, hu, hg1⟩
    have HU := Lib.hid hu
    obtain ⟨U, e1, rfl⟩ := tms_slice hu
    clear hu
    have g1 := hal.trans hg1
    have f0 : ∀ W, Grew w1 W → W.cell? ⟨w.heap.size, 0, none⟩ = some (.int .i64 8) := fun W hW => ((hg1.trans hW).cell (p := ⟨w.heap.size, 0, none⟩) (by simp)).trans (by simp)
    go_wp2_with fail
    refine (KI.out _ _ g1 HU.out).mono ?_
    rintro e w2 ⟨rfl, hg2⟩
    have g2 := g1.trans hg2
    have f1 := f0 _ hg2
    go_wp2_with fail
    go_ret
    exact ⟨rfl, g2⟩
  | some C =>
    have hneC := tx_ne C
    have hokC := HOC C rfl
    rw [show otx (some C) = tx C from rfl] at KI
    have hCC : (∃ p q, C = .or p q) ∨ (kindOf C ≠ 3 ∧ (some C).bind (tyCs G a b) = none) := by
      cases C with
      | or p q => exact .inl ⟨p, q, rfl⟩
      | _ => exact .inr ⟨by simp [kindOf], rfl⟩
    rcases hCC with ⟨p, q, rfl⟩ | ⟨hk3, hno⟩
    · have KL := Lib.hid (fun w => l25Parts_yes 3 (.or p q) p q w hokC rfl rfl)
      obtain ⟨hp, hq⟩ := fmOk_or hokC
      replace KA := KA p hp
      replace KB := KB q hq
      have hR : otx ((some (Fm.Tree.or p q)).bind (tyCs G a b)) = if otx (if G.length < 12 then ty (G ++ [p]) a else none) = otx (if G.length < 12 then ty (G ++ [q]) b else none) then otx (if G.length < 12 then ty (G ++ [p]) a else none) else ByteArray.empty := by
        by_cases h12 : G.length < 12
        · rw [if_pos h12, if_pos h12, ← otx_eq (HOA p hp) (HOB q hq), Option.bind_some, tyCs, if_pos h12]
        · rw [if_neg h12, if_neg h12, Option.bind_some, tyCs, if_neg h12, if_pos rfl]
      rw [hR]
      clear HOC HOA HOB hokC hR hp hq hl
      generalize otx (if G.length < 12 then ty (G ++ [p]) a else none) = sa at *
      generalize otx (if G.length < 12 then ty (G ++ [q]) b else none) = sb at *
      generalize tx (.or p q) = tc at *
      generalize tx p = tp at *
      generalize tx q = tq at *
      generalize G.length = gl at *
      replace KI := Lib.hid KI
      replace KA := Lib.hid KA
      replace KB := Lib.hid KB
      by_cases hab : sa = sb
      · rw [if_pos hab]
        subst hab
        have hx : (sa.toList != sa.toList) = false := by simp
        go_enter Tryz.func46, Tryz.ntmps46
        go_wp2_with fail
        refine (KP.out _ hal).mono ?_
        rintro e w1 ⟨u, rfl, hu, hg1⟩
        have HU := Lib.hid hu
        obtain ⟨U, e1, rfl⟩ := tms_slice hu
        clear hu
        have g1 := hal.trans hg1
        have f0 : ∀ W, Grew w1 W → W.cell? ⟨w.heap.size, 0, none⟩ = some (.int .i64 8) := fun W hW => ((hg1.trans hW).cell (p := ⟨w.heap.size, 0, none⟩) (by simp)).trans (by simp)
        go_wp2_with fail
        refine (KI.out _ _ g1 HU.out).mono ?_
        rintro e w2 ⟨rfl, hg2⟩
        have g2 := g1.trans hg2
        have f1 := f0 _ hg2
        go_wp2_with fail
        refine (KL.out _).mono ?_
        rintro e w3 ⟨rfl, hg3⟩
        have g3 := g2.trans hg3
        go_wp2_with fail
        refine (KQ.out _ g3).mono ?_
        rintro e w4 ⟨u4, rfl, hu4, hg4⟩
        have H4 := Lib.hid hu4
        obtain ⟨U4, e4, rfl⟩ := tms_slice hu4
        clear hu4
        have g4 := g3.trans hg4
        go_wp2_with fail
        refine (KA.out _ _ g4 H4.out).mono ?_
        rintro e w5 ⟨rfl, hg5⟩
        have g5 := g4.trans hg5
        go_wp2_with fail
        refine (KR.out _ g5).mono ?_
        rintro e w6 ⟨u6, rfl, hu6, hg6⟩
        have H6 := Lib.hid hu6
        obtain ⟨U6, e6, rfl⟩ := tms_slice hu6
        clear hu6
        have g6 := g5.trans hg6
        go_wp2_with fail
        refine (KB.out _ _ g6 H6.out).mono ?_
        rintro e w7 ⟨rfl, hg7⟩
        have g7 := g6.trans hg7
        go_wp2_with fail
        go_ret
        exact ⟨rfl, g7⟩
      · rw [if_neg hab]
        have hb1 : (sa.toList == sb.toList) = false := by
          cases hq : (sa.toList == sb.toList) with
          | false => rfl
          | true => exact absurd ((Lib.bytes_beq_iff _ _).1 hq) hab
        have hb2 : (sa.toList != sb.toList) = true := by rw [bne, hb1]; rfl
        clear hab
        go_enter Tryz.func46, Tryz.ntmps46
        go_wp2_with fail
        refine (KP.out _ hal).mono ?_
        rintro e w1 ⟨u, rfl, hu, hg1⟩
        have HU := Lib.hid hu
        obtain ⟨U, e1, rfl⟩ := tms_slice hu
        clear hu
        have g1 := hal.trans hg1
        have f0 : ∀ W, Grew w1 W → W.cell? ⟨w.heap.size, 0, none⟩ = some (.int .i64 8) := fun W hW => ((hg1.trans hW).cell (p := ⟨w.heap.size, 0, none⟩) (by simp)).trans (by simp)
        go_wp2_with fail
        refine (KI.out _ _ g1 HU.out).mono ?_
        rintro e w2 ⟨rfl, hg2⟩
        have g2 := g1.trans hg2
        have f1 := f0 _ hg2
        go_wp2_with fail
        refine (KL.out _).mono ?_
        rintro e w3 ⟨rfl, hg3⟩
        have g3 := g2.trans hg3
        go_wp2_with fail
        refine (KQ.out _ g3).mono ?_
        rintro e w4 ⟨u4, rfl, hu4, hg4⟩
        have H4 := Lib.hid hu4
        obtain ⟨U4, e4, rfl⟩ := tms_slice hu4
        clear hu4
        have g4 := g3.trans hg4
        go_wp2_with fail
        refine (KA.out _ _ g4 H4.out).mono ?_
        rintro e w5 ⟨rfl, hg5⟩
        have g5 := g4.trans hg5
        go_wp2_with fail
        refine (KR.out _ g5).mono ?_
        rintro e w6 ⟨u6, rfl, hu6, hg6⟩
        have H6 := Lib.hid hu6
        obtain ⟨U6, e6, rfl⟩ := tms_slice hu6
        clear hu6
        have g6 := g5.trans hg6
        go_wp2_with fail
        refine (KB.out _ _ g6 H6.out).mono ?_
        rintro e w7 ⟨rfl, hg7⟩
        have g7 := g6.trans hg7
        go_wp2_with fail
        go_ret
        exact ⟨rfl, g7⟩
    · have KL := Lib.hid (fun w => l25Parts_no 3 C w hokC hk3)
      rw [hno]
      change Calls _ _ _ _ (fun e w' => e = .returned (.string ByteArray.empty) ∧ Grew w w')
      clear HOC HOA HOB KA KB KQ KR hokC hk3 hno hl
      generalize tx C = tc at *
      generalize G.length = gl at *
      replace KI := Lib.hid KI
      go_enter Tryz.func46, Tryz.ntmps46
      go_wp2_with fail
      refine (KP.out _ hal).mono ?_
      rintro e w1 ⟨u, rfl, hu, hg1⟩
      have HU := Lib.hid hu
      obtain ⟨U, e1, rfl⟩ := tms_slice hu
      clear hu
      have g1 := hal.trans hg1
      have f0 : ∀ W, Grew w1 W → W.cell? ⟨w.heap.size, 0, none⟩ = some (.int .i64 8) := fun W hW => ((hg1.trans hW).cell (p := ⟨w.heap.size, 0, none⟩) (by simp)).trans (by simp)
      go_wp2_with fail
      refine (KI.out _ _ g1 HU.out).mono ?_
      rintro e w2 ⟨rfl, hg2⟩
      have g2 := g1.trans hg2
      have f1 := f0 _ hg2
      go_wp2_with fail
      refine (KL.out _).mono ?_
      rintro e w5 ⟨rfl, hg5⟩
      go_wp2_with fail
      go_ret
      exact ⟨rfl, g2.trans hg5⟩
end Go.Proofs.YtfpkfgimhanekaaGreat

/- l26Type of every term. -/
namespace Go.Proofs.YtfpkfgimhanekaaGreat
open Go.RowKit
open Tr (Tm)

theorem l26Type_c : ∀ t : Tm, Good t → (Tr.enc t).length ≤ 60 → ∀ G : List Fm.Tree, (∀ A ∈ G, FmOk A) → G.length ≤ 12 → TypS t G := by
  intro t
  have hmore : ∀ (G : List Fm.Tree) (A : Fm.Tree), (∀ B ∈ G, FmOk B) → FmOk A → ∀ B ∈ G ++ [A], FmOk B := fun G A hG hA B hB => by
    rw [List.mem_append] at hB
    rcases hB with hB | hB
    · exact hG B hB
    · simp at hB; subst hB; exact hA
  have hlen1 : ∀ (G : List Fm.Tree) (A : Fm.Tree), G.length < 12 → (G ++ [A]).length ≤ 12 := fun G A h => by simp; omega
  induction t with
  | t0 x => exact fun hg hn G hG hl va v w hs h => l26Type_var x hg G va v w hl hs h
  | t1 x a iha =>
    intro hg hn G hG hl va v w hs h
    have hk := ar_one (show Tr.ar x.1 = 1 from hg.1.1)
    have ha : (Tr.enc a).length ≤ 60 := by simp [Tr.enc] at hn; omega
    have IH := iha hg.2 ha
    rcases hk with hk | hk | hk | hk | hk | hk
    · have hA := (fo_ok (goodN_text hg.1.2 (by rw [hk]; rfl) (by rw [hk]; decide))).1
      exact l26Type_lam x a hg hk G hG hl (fun h12 => IH _ (hmore G _ hG hA) (hlen1 G _ h12)) va v w hs h
    · exact l26Type_fst x a hg hk G hG hl (IH G hG hl) va v w hs h hn
    · exact l26Type_snd x a hg hk G hG hl (IH G hG hl) va v w hs h hn
    · exact l26Type_inl x a hg hk G hG hl (IH G hG hl) va v w hs h hn
    · exact l26Type_inr x a hg hk G hG hl (IH G hG hl) va v w hs h hn
    · exact l26Type_abort x a hg hk G hG hl (IH G hG hl) va v w hs h hn
  | t2 x a b iha ihb =>
    intro hg hn G hG hl va v w hs h
    have hk := ar_two (show Tr.ar x.1 = 2 from hg.1.1)
    have ha : (Tr.enc a).length ≤ 60 := by simp [Tr.enc] at hn; omega
    have hb : (Tr.enc b).length ≤ 60 := by simp [Tr.enc] at hn; omega
    rcases hk with hk | hk
    · exact l26Type_app x a b hg hk G hG hl (iha hg.2.1 ha G hG hl) (ihb hg.2.2 hb G hG hl) va v w hs h hn
    · exact l26Type_pair x a b hg hk G hG hl (iha hg.2.1 ha G hG hl) (ihb hg.2.2 hb G hG hl) va v w hs h hn
  | t3 x c a b ihc iha ihb =>
    intro hg hn G hG hl va v w hs h
    have hk := ar_three (show Tr.ar x.1 = 3 from hg.1.1)
    have hc : (Tr.enc c).length ≤ 60 := by simp [Tr.enc] at hn; omega
    have ha : (Tr.enc a).length ≤ 60 := by simp [Tr.enc] at hn; omega
    have hb : (Tr.enc b).length ≤ 60 := by simp [Tr.enc] at hn; omega
    exact l26Type_case x c a b hg hk G hG hl (ihc hg.2.1 hc G hG hl) (fun A hA h12 => iha hg.2.2.1 ha _ (hmore G A hG hA) (hlen1 G A h12)) (fun A hA h12 => ihb hg.2.2.2 hb _ (hmore G A hG hA) (hlen1 G A h12)) va v w hs h hn
end Go.Proofs.YtfpkfgimhanekaaGreat

/- Lists of one and of two strings. -/
namespace Go.Proofs.YtfpkfgimhanekaaGreat
open Go.RowKit

theorem strs_one {w : World} {v : Value} {a : ByteArray} (h : Strs w v [a]) : ∃ b o c, v = .slice (some ⟨b, o, none⟩) 1 c ∧ 1 ≤ c ∧ c ≤ 9223372036854775807 ∧ b < w.heap.size ∧ ∀ W, Grew w W → W.cell? ⟨b, o, none⟩ = some (.string a) := by
  rcases h.open_ with ⟨_, h0⟩ | ⟨b, o, c, rfl, hc, hm, hb, hf⟩
  · cases h0
  · exact ⟨b, o, c, rfl, hc, hm, hb, fun W hW => by simpa [st] using hf 0 (by simp) W hW⟩
theorem strs_two {w : World} {v : Value} {a a2 : ByteArray} (h : Strs w v [a, a2]) : ∃ b o c, v = .slice (some ⟨b, o, none⟩) 2 c ∧ 2 ≤ c ∧ c ≤ 9223372036854775807 ∧ b < w.heap.size ∧ ∀ W, Grew w W → W.cell? ⟨b, o, none⟩ = some (.string a) ∧ W.cell? ⟨b, o + 1, none⟩ = some (.string a2) := by
  rcases h.open_ with ⟨_, h0⟩ | ⟨b, o, c, rfl, hc, hm, hb, hf⟩
  · cases h0
  · exact ⟨b, o, c, rfl, hc, hm, hb, fun W hW => ⟨by simpa [st] using hf 0 (by simp) W hW, by simpa [st] using hf 1 (by simp) W hW⟩⟩

end Go.Proofs.YtfpkfgimhanekaaGreat

/- Lists of one and of two strings; partsWith where the kind is another. -/
namespace Go.Proofs.YtfpkfgimhanekaaGreat
open Go.RowKit

theorem fm_kinds {A : Fm.Tree} (h : FmOk A) : (kindOf A = 0 ∨ kindOf A = 1) ∨ ∃ p q, TwoF A p q ∧ (kindOf A = 2 ∨ kindOf A = 3 ∨ kindOf A = 4) := by
  cases A with
  | var v => exact .inl (.inl rfl)
  | fls => exact .inl (.inr rfl)
  | and p q => exact .inr ⟨p, q, rfl, .inl rfl⟩
  | or p q => exact .inr ⟨p, q, rfl, .inr (.inl rfl)⟩
  | imp p q => exact .inr ⟨p, q, rfl, .inr (.inr rfl)⟩
  | box p =>
    have := anyP_mem.1 h.2 (5, 0) (by simp [Fm.enc])
    exact absurd this (by decide)
  | dia p =>
    have := anyP_mem.1 h.2 (6, 0) (by simp [Fm.enc])
    exact absurd this (by decide)
theorem partsWith_not (k : Int) (A : Fm.Tree) (w : World) (hA : FmOk A) (hk : (kindOf A == k) = false) :
    Calls Tryz.prog 96 #[.string (tx A), .int .i64 k] w fun e w' => ∃ v, e = .returned (.tuple #[v, .bool false]) ∧ (∃ A n c, v = .slice A n c) ∧ Grew w w' := by
  rcases fm_kinds hA with h0 | ⟨p, q, h2, h3⟩
  · refine (partsWith_none k A w hA h0).mono fun e w' h => ?_
    obtain ⟨rfl, hg⟩ := h
    exact ⟨_, by rw [hk], ⟨_, _, _, rfl⟩, hg⟩
  · refine (partsWith_two k A p q w hA h2 h3).mono fun e w' h => ?_
    obtain ⟨v, rfl, ho, hg⟩ := h
    obtain ⟨B, c, rfl⟩ := strs_slice ho.strs
    exact ⟨_, by rw [hk], ⟨_, _, _, rfl⟩, hg⟩

end Go.Proofs.YtfpkfgimhanekaaGreat

/- nodeType of the program. -/
namespace Go.Proofs.YtfpkfgimhanekaaGreat
open Go.RowKit

/-- The call gives a type, or none. -/
def GivesTy (w : World) (r : Option Fm.Tree) (e : Ending) (w' : World) : Prop := ∃ s, e = .returned (.tuple #[.string s, .bool r.isSome]) ∧ (∀ B, r = some B → s = tx B) ∧ Grew w w'
theorem small_gives {C : Fm.Tree} {w w' : World} (h : Grew w w') : GivesTy w (smallF C) (.returned (.tuple #[.string (tx C), .bool (decide ((Fm.enc C).length ≤ 40))])) w' := by
  refine ⟨tx C, ?_, fun B hB => by rw [(smallF_ok hB).1], h⟩
  unfold smallF
  split
  · rename_i h1; rw [decide_eq_true h1]; rfl
  · rename_i h1; rw [decide_eq_false h1]; rfl
theorem none_gives {s : ByteArray} {w w' : World} (h : Grew w w') : GivesTy w none (.returned (.tuple #[.string s, .bool false])) w' := ⟨s, rfl, fun B hB => (by cases hB), h⟩
theorem some_gives {A : Fm.Tree} {w w' : World} (h : Grew w w') : GivesTy w (some A) (.returned (.tuple #[.string (tx A), .bool true])) w' := ⟨tx A, rfl, fun B hB => (by injection hB with hB; rw [hB]), h⟩

theorem nodeType_lam (m : Int) (A B : Fm.Tree) (vt : Value) (w : World) (hA : FmOk A) (hB : FmOk B) (hs : Strs w vt [tx B]) :
    Calls Tryz.prog 62 #[.agg #[.int .i64 1, .int .i64 m, .string (tx A)], vt] w (GivesTy w (smallF (.imp A B))) := by
  obtain ⟨b, o, c, rfl, hc, hm, hb, hf⟩ := strs_one hs
  have KJ := Lib.hid (fun w => joinTexts_c 4 A B (.imp A B) w hA.1 hB.1 rfl)
  have HE := Lib.hid (fun w' (h : Grew w w') => small_gives (C := .imp A B) h)
  clear hs hA hB
  generalize decide ((Fm.enc (.imp A B)).length ≤ 40) = dd at *
  generalize tx (.imp A B) = tc at *
  generalize tx A = ta at *
  generalize tx B = tb at *
  have hal := (Grew.refl w).alloc (.cells #[.int .i64 1, .int .i64 m, .string ta] 45)
  have r0 := Grew.refl (w.alloc (.cells #[.int .i64 1, .int .i64 m, .string ta] 45))
  have d0 := r0.drew
  have f2 : ∀ W, Grew (w.alloc (.cells #[.int .i64 1, .int .i64 m, .string ta] 45)) W → W.cell? ⟨w.heap.size, 2, none⟩ = some (.string ta) := fun W hW => (hW.cell (p := ⟨w.heap.size, 2, none⟩) (by simp)).trans (by simp)
  have f3 : ∀ W, Grew (w.alloc (.cells #[.int .i64 1, .int .i64 m, .string ta] 45)) W → W.cell? ⟨b, o, none⟩ = some (.string tb) := fun W hW => hf W (hal.trans hW)
  clear hf
  go_enter Tryz.func62, Tryz.ntmps62
  go_wp2_with fail
  go_region_held3 (fun w' => Grew (w.alloc (.cells #[.int .i64 1, .int .i64 m, .string ta] 45)) w') (with_reducible assumption)
    (first | (go_at_call 98; refine (KJ.out _).mono ?_; rintro e w1 ⟨rfl, hg1⟩; have hk1 := d0.trans hg1))
  go_wp2_with fail
  go_ret2
  exact HE.out _ (hal.trans hk1)
theorem nodeType_inl (m : Int) (A B : Fm.Tree) (vt : Value) (w : World) (hA : FmOk A) (hB : FmOk B) (hs : Strs w vt [tx B]) :
    Calls Tryz.prog 62 #[.agg #[.int .i64 6, .int .i64 m, .string (tx A)], vt] w (GivesTy w (smallF (.or B A))) := by
  obtain ⟨b, o, c, rfl, hc, hm, hb, hf⟩ := strs_one hs
  have KJ := Lib.hid (fun w => joinTexts_c 3 B A (.or B A) w hB.1 hA.1 rfl)
  have HE := Lib.hid (fun w' (h : Grew w w') => small_gives (C := .or B A) h)
  clear hs hA hB
  generalize decide ((Fm.enc (.or B A)).length ≤ 40) = dd at *
  generalize tx (.or B A) = tc at *
  generalize tx A = ta at *
  generalize tx B = tb at *
  have hal := (Grew.refl w).alloc (.cells #[.int .i64 6, .int .i64 m, .string ta] 45)
  have r0 := Grew.refl (w.alloc (.cells #[.int .i64 6, .int .i64 m, .string ta] 45))
  have d0 := r0.drew
  have f2 : ∀ W, Grew (w.alloc (.cells #[.int .i64 6, .int .i64 m, .string ta] 45)) W → W.cell? ⟨w.heap.size, 2, none⟩ = some (.string ta) := fun W hW => (hW.cell (p := ⟨w.heap.size, 2, none⟩) (by simp)).trans (by simp)
  have f3 : ∀ W, Grew (w.alloc (.cells #[.int .i64 6, .int .i64 m, .string ta] 45)) W → W.cell? ⟨b, o, none⟩ = some (.string tb) := fun W hW => hf W (hal.trans hW)
  clear hf
  go_enter Tryz.func62, Tryz.ntmps62
  go_wp2_with fail
  go_region_held3 (fun w' => Grew (w.alloc (.cells #[.int .i64 6, .int .i64 m, .string ta] 45)) w') (with_reducible assumption)
    (first | (go_at_call 98; refine (KJ.out _).mono ?_; rintro e w1 ⟨rfl, hg1⟩; have hk1 := d0.trans hg1))
  go_wp2_with fail
  go_ret2
  exact HE.out _ (hal.trans hk1)
theorem nodeType_inr (m : Int) (A B : Fm.Tree) (vt : Value) (w : World) (hA : FmOk A) (hB : FmOk B) (hs : Strs w vt [tx B]) :
    Calls Tryz.prog 62 #[.agg #[.int .i64 7, .int .i64 m, .string (tx A)], vt] w (GivesTy w (smallF (.or A B))) := by
  obtain ⟨b, o, c, rfl, hc, hm, hb, hf⟩ := strs_one hs
  have KJ := Lib.hid (fun w => joinTexts_c 3 A B (.or A B) w hA.1 hB.1 rfl)
  have HE := Lib.hid (fun w' (h : Grew w w') => small_gives (C := .or A B) h)
  clear hs hA hB
  generalize decide ((Fm.enc (.or A B)).length ≤ 40) = dd at *
  generalize tx (.or A B) = tc at *
  generalize tx A = ta at *
  generalize tx B = tb at *
  have hal := (Grew.refl w).alloc (.cells #[.int .i64 7, .int .i64 m, .string ta] 45)
  have r0 := Grew.refl (w.alloc (.cells #[.int .i64 7, .int .i64 m, .string ta] 45))
  have d0 := r0.drew
  have f2 : ∀ W, Grew (w.alloc (.cells #[.int .i64 7, .int .i64 m, .string ta] 45)) W → W.cell? ⟨w.heap.size, 2, none⟩ = some (.string ta) := fun W hW => (hW.cell (p := ⟨w.heap.size, 2, none⟩) (by simp)).trans (by simp)
  have f3 : ∀ W, Grew (w.alloc (.cells #[.int .i64 7, .int .i64 m, .string ta] 45)) W → W.cell? ⟨b, o, none⟩ = some (.string tb) := fun W hW => hf W (hal.trans hW)
  clear hf
  go_enter Tryz.func62, Tryz.ntmps62
  go_wp2_with fail
  go_region_held3 (fun w' => Grew (w.alloc (.cells #[.int .i64 7, .int .i64 m, .string ta] 45)) w') (with_reducible assumption)
    (first | (go_at_call 98; refine (KJ.out _).mono ?_; rintro e w1 ⟨rfl, hg1⟩; have hk1 := d0.trans hg1))
  go_wp2_with fail
  go_ret2
  exact HE.out _ (hal.trans hk1)
theorem nodeType_pair (m : Int) (ts : ByteArray) (A B : Fm.Tree) (vt : Value) (w : World) (hA : FmOk A) (hB : FmOk B) (hs : Strs w vt [tx A, tx B]) :
    Calls Tryz.prog 62 #[.agg #[.int .i64 3, .int .i64 m, .string ts], vt] w (GivesTy w (smallF (.and A B))) := by
  obtain ⟨b, o, c, rfl, hc, hm, hb, hf⟩ := strs_two hs
  have KJ := Lib.hid (fun w => joinTexts_c 2 A B (.and A B) w hA.1 hB.1 rfl)
  have HE := Lib.hid (fun w' (h : Grew w w') => small_gives (C := .and A B) h)
  clear hs hA hB
  generalize decide ((Fm.enc (.and A B)).length ≤ 40) = dd at *
  generalize tx (.and A B) = tc at *
  generalize tx A = ta at *
  generalize tx B = tb at *
  have hal := (Grew.refl w).alloc (.cells #[.int .i64 3, .int .i64 m, .string ts] 45)
  have r0 := Grew.refl (w.alloc (.cells #[.int .i64 3, .int .i64 m, .string ts] 45))
  have d0 := r0.drew
  have f2 : ∀ W, Grew (w.alloc (.cells #[.int .i64 3, .int .i64 m, .string ts] 45)) W → W.cell? ⟨b, o, none⟩ = some (.string ta) := fun W hW => (hf W (hal.trans hW)).1
  have f3 : ∀ W, Grew (w.alloc (.cells #[.int .i64 3, .int .i64 m, .string ts] 45)) W → W.cell? ⟨b, o + 1, none⟩ = some (.string tb) := fun W hW => (hf W (hal.trans hW)).2
  clear hf
  go_enter Tryz.func62, Tryz.ntmps62
  go_wp2_with fail
  go_region_held3 (fun w' => Grew (w.alloc (.cells #[.int .i64 3, .int .i64 m, .string ts] 45)) w') (with_reducible assumption)
    (first | (go_at_call 98; refine (KJ.out _).mono ?_; rintro e w1 ⟨rfl, hg1⟩; have hk1 := d0.trans hg1))
  go_wp2_with fail
  go_ret2
  exact HE.out _ (hal.trans hk1)
theorem nodeType_abort (m : Int) (A B : Fm.Tree) (vt : Value) (w : World) (hA : FmOk A) (hB : FmOk B) (hs : Strs w vt [tx B]) :
    Calls Tryz.prog 62 #[.agg #[.int .i64 9, .int .i64 m, .string (tx A)], vt] w (GivesTy w (ty1 9 A B)) := by
  obtain ⟨b, o, c, rfl, hc, hm, hb, hf⟩ := strs_one hs
  have hq : ((tx B).toList == [70]) = (ty1 9 A B).isSome := by
    have h70 : (⟨#[70]⟩ : ByteArray).toList = [70] := by first | rfl | decide | (simp; done) | (unfold ByteArray.toList ByteArray.toList.loop; simp [ByteArray.size]; unfold ByteArray.toList.loop; simp [ByteArray.size]; done)
    have hF : tx .fls = ⟨#[70]⟩ := rfl
    rw [← h70, ← hF]
    by_cases hh : B = .fls
    · subst hh; simp [ty1]
    · have hneq : tx B ≠ tx .fls := fun h => hh (tx_inj hB.1 (by decide) h)
      have hb1 : ((tx B).toList == (tx .fls).toList) = false := by
        cases hq : ((tx B).toList == (tx .fls).toList) with
        | false => rfl
        | true => exact absurd ((Lib.bytes_beq_iff _ _).1 hq) hneq
      rw [hb1]
      cases B with
      | fls => exact absurd rfl hh
      | _ => simp [ty1]
  have hs2 : ∀ C, ty1 9 A B = some C → tx A = tx C := by
    intro C hC
    cases B with
    | fls => simp [ty1] at hC; rw [hC]
    | _ => simp [ty1] at hC
  have HE := Lib.hid (fun w' (h : Grew w w') => (⟨tx A, by rw [hq], hs2, h⟩ : GivesTy w (ty1 9 A B) (.returned (.tuple #[.string (tx A), .bool ((tx B).toList == [70])])) w'))
  clear hs hA hB hq hs2
  generalize tx A = ta at *
  generalize tx B = tb at *
  have hal := (Grew.refl w).alloc (.cells #[.int .i64 9, .int .i64 m, .string ta] 45)
  have r0 := Grew.refl (w.alloc (.cells #[.int .i64 9, .int .i64 m, .string ta] 45))
  have d0 := r0.drew
  have f2 : ∀ W, Grew (w.alloc (.cells #[.int .i64 9, .int .i64 m, .string ta] 45)) W → W.cell? ⟨w.heap.size, 2, none⟩ = some (.string ta) := fun W hW => (hW.cell (p := ⟨w.heap.size, 2, none⟩) (by simp)).trans (by simp)
  have f3 : ∀ W, Grew (w.alloc (.cells #[.int .i64 9, .int .i64 m, .string ta] 45)) W → W.cell? ⟨b, o, none⟩ = some (.string tb) := fun W hW => hf W (hal.trans hW)
  clear hf
  go_enter Tryz.func62, Tryz.ntmps62
  go_wp2_with fail
  go_quiet (fail)
  go_wp2_with fail
  go_ret2
  exact HE.out _ (hal.drewN _)
theorem nodeType_fst (m : Int) (ts : ByteArray) (T B : Fm.Tree) (vt : Value) (w : World) (hB : FmOk B) (hs : Strs w vt [tx B]) :
    Calls Tryz.prog 62 #[.agg #[.int .i64 4, .int .i64 m, .string ts], vt] w (GivesTy w (ty1 4 T B)) := by
  obtain ⟨b, o, c, rfl, hc, hm, hb, hf⟩ := strs_one hs
  have hBB : (∃ p q, B = .and p q) ∨ ((kindOf B == 2) = false ∧ ty1 4 T B = none) := by
    cases B with
    | and p q => exact .inl ⟨p, q, rfl⟩
    | _ => exact .inr ⟨by simp [kindOf], by simp [ty1]⟩
  rcases hBB with ⟨p, q, rfl⟩ | ⟨hk2, hno⟩
  · have KP := Lib.hid (fun w => partsWith_two 2 (.and p q) p q w hB rfl (.inl rfl))
    rw [show ty1 4 T (.and p q) = some p from rfl]
    have HE := Lib.hid (fun w' (h : Grew w w') => some_gives (A := p) h)
    clear hs hB
    have hk2 : (kindOf (.and p q) == 2) = true := rfl
    rw [hk2] at KP
    generalize tx (.and p q) = tb at *
    generalize tx p = tp at *
    generalize tx q = tq at *
    have hal := (Grew.refl w).alloc (.cells #[.int .i64 4, .int .i64 m, .string ts] 45)
    have r0 := Grew.refl (w.alloc (.cells #[.int .i64 4, .int .i64 m, .string ts] 45))
    have d0 := r0.drew
    have f3 : ∀ W, Grew (w.alloc (.cells #[.int .i64 4, .int .i64 m, .string ts] 45)) W → W.cell? ⟨b, o, none⟩ = some (.string tb) := fun W hW => hf W (hal.trans hW)
    clear hf
    go_enter Tryz.func62, Tryz.ntmps62
    go_wp2_with fail
    refine (KP.out _).mono ?_
    rintro e w1 ⟨v1, rfl, ho1, hg1⟩
    obtain ⟨b1, o1, c1, rfl, hc1, hm1, hb1, hf1⟩ := strs_two ho1.strs
    clear ho1
    have k1 := fun W (hW : Grew w1 W) => (hf1 W hW).1
    have k2 := fun W (hW : Grew w1 W) => (hf1 W hW).2
    clear hf1
    have r1 := Grew.refl w1
    have f0 : ∀ W, Grew w1 W → W.cell? ⟨w.heap.size, 0, none⟩ = some (.int .i64 4) := fun W hW => ((hg1.trans hW).cell (p := ⟨w.heap.size, 0, none⟩) (by simp)).trans (by simp)
    go_wp2_with fail
    go_ret2
    exact HE.out _ (hal.trans hg1)
  · have HE := Lib.hid (fun w' (h : Grew w w') => (by rw [hno]; exact none_gives (s := ByteArray.empty) h : GivesTy w (ty1 4 T B) (.returned (.tuple #[.string ByteArray.empty, .bool false])) w'))
    have KP : ∀ w, Calls Tryz.prog 96 #[.string (tx B), .int .i64 2] w fun e w' => ∃ v, e = .returned (.tuple #[v, .bool false]) ∧ (∃ A n c, v = .slice A n c) ∧ Grew w w' := fun w => partsWith_not 2 B w hB hk2
    replace KP := Lib.hid KP
    clear hs hB hk2 hno
    generalize tx B = tb at *
    have hal := (Grew.refl w).alloc (.cells #[.int .i64 4, .int .i64 m, .string ts] 45)
    have r0 := Grew.refl (w.alloc (.cells #[.int .i64 4, .int .i64 m, .string ts] 45))
    have d0 := r0.drew
    have f3 : ∀ W, Grew (w.alloc (.cells #[.int .i64 4, .int .i64 m, .string ts] 45)) W → W.cell? ⟨b, o, none⟩ = some (.string tb) := fun W hW => hf W (hal.trans hW)
    clear hf
    go_enter Tryz.func62, Tryz.ntmps62
    go_wp2_with fail
    refine (KP.out _).mono ?_
    rintro e w1 ⟨v1, rfl, ⟨A1, n1, c1, rfl⟩, hg1⟩
    go_wp2_with fail
    go_ret2
    exact HE.out _ (hal.trans hg1)
theorem nodeType_snd (m : Int) (ts : ByteArray) (T B : Fm.Tree) (vt : Value) (w : World) (hB : FmOk B) (hs : Strs w vt [tx B]) :
    Calls Tryz.prog 62 #[.agg #[.int .i64 5, .int .i64 m, .string ts], vt] w (GivesTy w (ty1 5 T B)) := by
  obtain ⟨b, o, c, rfl, hc, hm, hb, hf⟩ := strs_one hs
  have hBB : (∃ p q, B = .and p q) ∨ ((kindOf B == 2) = false ∧ ty1 5 T B = none) := by
    cases B with
    | and p q => exact .inl ⟨p, q, rfl⟩
    | _ => exact .inr ⟨by simp [kindOf], by simp [ty1]⟩
  rcases hBB with ⟨p, q, rfl⟩ | ⟨hk2, hno⟩
  · have KP := Lib.hid (fun w => partsWith_two 2 (.and p q) p q w hB rfl (.inl rfl))
    rw [show ty1 5 T (.and p q) = some q from rfl]
    have HE := Lib.hid (fun w' (h : Grew w w') => some_gives (A := q) h)
    clear hs hB
    have hk2 : (kindOf (.and p q) == 2) = true := rfl
    rw [hk2] at KP
    generalize tx (.and p q) = tb at *
    generalize tx p = tp at *
    generalize tx q = tq at *
    have hal := (Grew.refl w).alloc (.cells #[.int .i64 5, .int .i64 m, .string ts] 45)
    have r0 := Grew.refl (w.alloc (.cells #[.int .i64 5, .int .i64 m, .string ts] 45))
    have d0 := r0.drew
    have f3 : ∀ W, Grew (w.alloc (.cells #[.int .i64 5, .int .i64 m, .string ts] 45)) W → W.cell? ⟨b, o, none⟩ = some (.string tb) := fun W hW => hf W (hal.trans hW)
    clear hf
    go_enter Tryz.func62, Tryz.ntmps62
    go_wp2_with fail
    refine (KP.out _).mono ?_
    rintro e w1 ⟨v1, rfl, ho1, hg1⟩
    obtain ⟨b1, o1, c1, rfl, hc1, hm1, hb1, hf1⟩ := strs_two ho1.strs
    clear ho1
    have k1 := fun W (hW : Grew w1 W) => (hf1 W hW).1
    have k2 := fun W (hW : Grew w1 W) => (hf1 W hW).2
    clear hf1
    have r1 := Grew.refl w1
    have f0 : ∀ W, Grew w1 W → W.cell? ⟨w.heap.size, 0, none⟩ = some (.int .i64 5) := fun W hW => ((hg1.trans hW).cell (p := ⟨w.heap.size, 0, none⟩) (by simp)).trans (by simp)
    go_wp2_with fail
    go_ret2
    exact HE.out _ (hal.trans hg1)
  · have HE := Lib.hid (fun w' (h : Grew w w') => (by rw [hno]; exact none_gives (s := ByteArray.empty) h : GivesTy w (ty1 5 T B) (.returned (.tuple #[.string ByteArray.empty, .bool false])) w'))
    have KP : ∀ w, Calls Tryz.prog 96 #[.string (tx B), .int .i64 2] w fun e w' => ∃ v, e = .returned (.tuple #[v, .bool false]) ∧ (∃ A n c, v = .slice A n c) ∧ Grew w w' := fun w => partsWith_not 2 B w hB hk2
    replace KP := Lib.hid KP
    clear hs hB hk2 hno
    generalize tx B = tb at *
    have hal := (Grew.refl w).alloc (.cells #[.int .i64 5, .int .i64 m, .string ts] 45)
    have r0 := Grew.refl (w.alloc (.cells #[.int .i64 5, .int .i64 m, .string ts] 45))
    have d0 := r0.drew
    have f3 : ∀ W, Grew (w.alloc (.cells #[.int .i64 5, .int .i64 m, .string ts] 45)) W → W.cell? ⟨b, o, none⟩ = some (.string tb) := fun W hW => hf W (hal.trans hW)
    clear hf
    go_enter Tryz.func62, Tryz.ntmps62
    go_wp2_with fail
    refine (KP.out _).mono ?_
    rintro e w1 ⟨v1, rfl, ⟨A1, n1, c1, rfl⟩, hg1⟩
    go_wp2_with fail
    go_ret2
    exact HE.out _ (hal.trans hg1)
theorem nodeType_app (m : Int) (ts : ByteArray) (B D : Fm.Tree) (vt : Value) (w : World) (hB : FmOk B) (hD : FmOk D) (hs : Strs w vt [tx B, tx D]) :
    Calls Tryz.prog 62 #[.agg #[.int .i64 2, .int .i64 m, .string ts], vt] w (GivesTy w (ty2 2 B D)) := by
  obtain ⟨b, o, c, rfl, hc, hm, hb, hf⟩ := strs_two hs
  have hBB : (∃ p q, B = .imp p q) ∨ ((kindOf B == 4) = false ∧ ty2 2 B D = none) := by
    cases B with
    | imp p q => exact .inl ⟨p, q, rfl⟩
    | _ => exact .inr ⟨by simp [kindOf], by simp [ty2]⟩
  rcases hBB with ⟨p, q, rfl⟩ | ⟨hk2, hno⟩
  · have KP := Lib.hid (fun w => partsWith_two 4 (.imp p q) p q w hB rfl (.inr (.inr rfl)))
    have hk2 : (kindOf (.imp p q) == 4) = true := rfl
    rw [hk2] at KP
    have hp := (fmOk_imp hB).1.1
    by_cases hpd : p = D
    · subst hpd
      rw [show ty2 2 (.imp p q) p = some q by simp [ty2]]
      have HE := Lib.hid (fun w' (h : Grew w w') => some_gives (A := q) h)
      clear hs hB hD hp
      generalize tx (.imp p q) = tb at *
      generalize tx p = td at *
      generalize tx q = tq at *
      have hal := (Grew.refl w).alloc (.cells #[.int .i64 2, .int .i64 m, .string ts] 45)
      have r0 := Grew.refl (w.alloc (.cells #[.int .i64 2, .int .i64 m, .string ts] 45))
      have d0 := r0.drew
      have f3 : ∀ W, Grew (w.alloc (.cells #[.int .i64 2, .int .i64 m, .string ts] 45)) W → W.cell? ⟨b, o, none⟩ = some (.string tb) := fun W hW => (hf W (hal.trans hW)).1
      have f4 : ∀ W, Grew (w.alloc (.cells #[.int .i64 2, .int .i64 m, .string ts] 45)) W → W.cell? ⟨b, o + 1, none⟩ = some (.string td) := fun W hW => (hf W (hal.trans hW)).2
      clear hf
      have hx : (td.toList != td.toList) = false := by simp
      go_enter Tryz.func62, Tryz.ntmps62
      go_wp2_with fail
      refine (KP.out _).mono ?_
      rintro e w1 ⟨v1, rfl, ho1, hg1⟩
      obtain ⟨b1, o1, c1, rfl, hc1, hm1, hb1, hf1⟩ := strs_two ho1.strs
      clear ho1
      have k1 := fun W (hW : Grew w1 W) => (hf1 W hW).1
      have k2 := fun W (hW : Grew w1 W) => (hf1 W hW).2
      clear hf1
      have r1 := Grew.refl w1
      have d1 := r1.drew
      have f5 := fun W (hW : Grew w1 W) => f4 W (hg1.trans hW)
      go_wp2_with fail
      go_quiet (fail)
      go_wp2_with fail
      go_ret2
      exact HE.out _ ((hal.trans hg1).drewN _)
    · rw [show ty2 2 (.imp p q) D = none by simp [ty2, hpd]]
      have HE := Lib.hid (fun w' (h : Grew w w') => none_gives (s := ByteArray.empty) h)
      have hneq : tx p ≠ tx D := fun hh => hpd (tx_inj hp hD.1 hh)
      have hb1 : ((tx p).toList == (tx D).toList) = false := by
        cases hq : ((tx p).toList == (tx D).toList) with
        | false => rfl
        | true => exact absurd ((Lib.bytes_beq_iff _ _).1 hq) hneq
      have hb2 : ((tx p).toList != (tx D).toList) = true := by rw [bne, hb1]; rfl
      have hb3 : (!(tx p).toList == (tx D).toList) = true := by rw [hb1]; rfl
      clear hs hB hD hp hneq hpd
      generalize tx (.imp p q) = tb at *
      generalize tx p = tp at *
      generalize tx D = td at *
      generalize tx q = tq at *
      have hal := (Grew.refl w).alloc (.cells #[.int .i64 2, .int .i64 m, .string ts] 45)
      have r0 := Grew.refl (w.alloc (.cells #[.int .i64 2, .int .i64 m, .string ts] 45))
      have d0 := r0.drew
      have f3 : ∀ W, Grew (w.alloc (.cells #[.int .i64 2, .int .i64 m, .string ts] 45)) W → W.cell? ⟨b, o, none⟩ = some (.string tb) := fun W hW => (hf W (hal.trans hW)).1
      have f4 : ∀ W, Grew (w.alloc (.cells #[.int .i64 2, .int .i64 m, .string ts] 45)) W → W.cell? ⟨b, o + 1, none⟩ = some (.string td) := fun W hW => (hf W (hal.trans hW)).2
      clear hf
      go_enter Tryz.func62, Tryz.ntmps62
      go_wp2_with fail
      refine (KP.out _).mono ?_
      rintro e w1 ⟨v1, rfl, ho1, hg1⟩
      obtain ⟨b1, o1, c1, rfl, hc1, hm1, hb1, hf1⟩ := strs_two ho1.strs
      clear ho1
      have k1 := fun W (hW : Grew w1 W) => (hf1 W hW).1
      have k2 := fun W (hW : Grew w1 W) => (hf1 W hW).2
      clear hf1
      have r1 := Grew.refl w1
      have d1 := r1.drew
      have f5 := fun W (hW : Grew w1 W) => f4 W (hg1.trans hW)
      go_wp2_with fail
      go_quiet (fail)
      go_wp2_with fail
      go_ret2
      exact HE.out _ ((hal.trans hg1).drewN _)
  · have HE := Lib.hid (fun w' (h : Grew w w') => (by rw [hno]; exact none_gives (s := ByteArray.empty) h : GivesTy w (ty2 2 B D) (.returned (.tuple #[.string ByteArray.empty, .bool false])) w'))
    have KP : ∀ w, Calls Tryz.prog 96 #[.string (tx B), .int .i64 4] w fun e w' => ∃ v, e = .returned (.tuple #[v, .bool false]) ∧ (∃ A n c, v = .slice A n c) ∧ Grew w w' := fun w => partsWith_not 4 B w hB hk2
    replace KP := Lib.hid KP
    clear hs hB hk2 hno
    generalize tx B = tb at *
    generalize tx D = td at *
    have hal := (Grew.refl w).alloc (.cells #[.int .i64 2, .int .i64 m, .string ts] 45)
    have r0 := Grew.refl (w.alloc (.cells #[.int .i64 2, .int .i64 m, .string ts] 45))
    have d0 := r0.drew
    have f3 : ∀ W, Grew (w.alloc (.cells #[.int .i64 2, .int .i64 m, .string ts] 45)) W → W.cell? ⟨b, o, none⟩ = some (.string tb) := fun W hW => (hf W (hal.trans hW)).1
    have f4 : ∀ W, Grew (w.alloc (.cells #[.int .i64 2, .int .i64 m, .string ts] 45)) W → W.cell? ⟨b, o + 1, none⟩ = some (.string td) := fun W hW => (hf W (hal.trans hW)).2
    clear hf
    go_enter Tryz.func62, Tryz.ntmps62
    go_wp2_with fail
    refine (KP.out _).mono ?_
    rintro e w1 ⟨v1, rfl, ⟨A1, n1, c1, rfl⟩, hg1⟩
    go_wp2_with fail
    go_quiet (fail)
    go_wp2_with fail
    go_ret2
    exact HE.out _ ((hal.trans hg1).drewN _)
end Go.Proofs.YtfpkfgimhanekaaGreat

/- typeOf of the program: variables, nodes with one part, nodes with two parts. -/
namespace Go.Proofs.YtfpkfgimhanekaaGreat
open Go.RowKit
open Tr (Tm)

/-- What typeOf gives at a term, whatever the values. -/
def TypV (t : Tm) (G : List Fm.Tree) : Prop := ∀ va v w, Strs w va (G.map tx) → Tms w v (Tr.enc t) → Calls Tryz.prog 33 #[va, v] w (GivesTy w (ty G t))

theorem sizeS_c (v : Value) (L : List ByteArray) (w : World) (h : Strs w v L) :
    Calls Tryz.prog 35 #[v] w fun e w' => e = .returned (.int .i64 L.length) ∧ Grew w w' := by
  obtain ⟨A, c, rfl⟩ := strs_slice h
  have hm := h.2.1
  clear h
  generalize L.length = n at *
  go_enter Tryz.func35, Tryz.ntmps35
  go_wp2_with fail
  go_ret
  exact ⟨rfl, Grew.refl _⟩

theorem typeOf_var (x : Tn) (hg : Good (.t0 x)) (G : List Fm.Tree) (va v : Value) (w : World) (hl : G.length ≤ 12) (hs : Strs w va (G.map tx)) (h : Tms w v (Tr.enc (.t0 x))) :
    Calls Tryz.prog 33 #[va, v] w (GivesTy w (ty G (.t0 x))) := by
  have hk : x.1 = 0 := (good_leaf hg).1 rfl
  have hn := tnB_num0 (Tr.hd_wf hg)
  have KS := Lib.hid (fun W (hW : Grew w W) => by
    have h1 := sizeS_c va (G.map tx) W (hs.grew hW)
    rw [List.length_map] at h1
    exact h1)
  obtain ⟨b, o, c, rfl, hc, hm, hb, hcl⟩ := tms_head h
  obtain ⟨⟨A, d, hva⟩, hat⟩ := strs_map hs
  have k0 := fun W (hW : Grew w W) => (hcl W hW).1
  have k1 := fun W (hW : Grew w W) => (hcl W hW).2.1
  change ∀ W, Grew w W → W.cell? ⟨b, o, none⟩ = some (.int .i64 x.1) at k0
  change ∀ W, Grew w W → W.cell? ⟨b, o + 1, none⟩ = some (.int .i64 x.2.1) at k1
  rw [hk] at k0
  have hR : ty G (.t0 x) = G[x.2.1.toNat]? := rfl
  rw [hR]
  have hr := Grew.refl w
  have hd := hr.drew
  have hx2 : (Tr.hd (.t0 x)).2.1 = x.2.1 := rfl
  rw [hx2] at hn
  have hl1 : (Tr.enc (.t0 x)).length = 1 := rfl
  rw [hl1]
  obtain ⟨m, hm2⟩ : ∃ m : Nat, x.2.1 = m := ⟨x.2.1.toNat, by omega⟩
  rw [hm2] at k1 hn ⊢
  rw [Int.toNat_natCast]
  clear hcl h hg hk hR hx2 hl1 hm2
  by_cases hlt : m < G.length
  · obtain ⟨gb, go, gc, hv, e1⟩ := hat m hlt
    subst hv
    have e2 : G[m]? = some G[m] := List.getElem?_eq_getElem hlt
    have HE := Lib.hid (fun w' (h : Grew w w') => (by rw [e2]; exact some_gives h : GivesTy w G[m]? (.returned (.tuple #[.string (otx G[m]?), .bool true])) w'))
    clear e2
    generalize otx G[m]? = R at *
    clear hat hs hva
    have hlt2 : (m : Int) < (G.length : Int) := by omega
    generalize G.length = gl at *
    go_enter Tryz.func33, Tryz.ntmps33
    go_wp2_with fail
    go_region_held3 (fun w' => Grew w w') (with_reducible assumption)
      (first | (go_at_call 35; refine (KS.out _ hd).mono ?_; rintro e w1 ⟨rfl, hg1⟩; have hk1 := hd.trans hg1))
    go_wp2_with fail
    go_ret2
    exact HE.out _ hk1
  · have hnone : G[m]? = none := List.getElem?_eq_none (by omega)
    rw [hnone]
    subst hva
    have HE := Lib.hid (fun w' (h : Grew w w') => none_gives (s := ByteArray.empty) h)
    clear hat hs hnone
    have hge : (G.length : Int) ≤ (m : Int) := by omega
    generalize G.length = gl at *
    go_enter Tryz.func33, Tryz.ntmps33
    go_wp2_with fail
    go_region_held3 (fun w' => Grew w w') (with_reducible assumption)
      (first | (go_at_call 35; refine (KS.out _ hd).mono ?_; rintro e w1 ⟨rfl, hg1⟩; have hk1 := hd.trans hg1))
    go_wp2_with fail
    go_ret2
    exact HE.out _ hk1
end Go.Proofs.YtfpkfgimhanekaaGreat

/- typeOf of the program: nodes with one part, with two parts, lambdas. -/
namespace Go.Proofs.YtfpkfgimhanekaaGreat
open Go.RowKit
open Tr (Tm)

/-- What nodeType gives at a node with one part that has a type. -/
def NodeOne (x : Tn) (f : Fm.Tree → Option Fm.Tree) : Prop := ∀ B vt W, FmOk B → Strs W vt [tx B] → Calls Tryz.prog 62 #[.agg #[.int .i64 x.1, .int .i64 x.2.1, .string x.2.2], vt] W (GivesTy W (f B))
def NodeTwo (x : Tn) (f : Fm.Tree → Fm.Tree → Option Fm.Tree) : Prop := ∀ B D vt W, FmOk B → FmOk D → Strs W vt [tx B, tx D] → Calls Tryz.prog 62 #[.agg #[.int .i64 x.1, .int .i64 x.2.1, .string x.2.2], vt] W (GivesTy W (f B D))

theorem us_one {w w' : World} {t a : Tm} {B : Nat} {u : Value} {us : List Value} (ho : OwnVT w' B u us) (hl : us.length = 1) (hh : HoldT w t us) (hk : Tr.kid t 0 = a) : ∃ g c v0, u = .slice (some ⟨g, 0, none⟩) 1 c ∧ 1 ≤ c ∧ c ≤ 9223372036854775807 ∧ (∀ W, Grew w' W → W.cell? ⟨g, 0, none⟩ = some v0) ∧ Tms w v0 (Tr.enc a) := by
  obtain ⟨g, c, rfl, h1, h2, h3, h4⟩ := ho.open_ (by omega)
  rw [hl] at h1 ho ⊢
  obtain ⟨v0, hv⟩ : ∃ v0, us[0]? = some v0 := ⟨_, List.getElem?_eq_getElem (by omega)⟩
  have hc := ho.cell hv
  refine ⟨g, c, v0, rfl, h1, h2, fun W hW => (hW.cell (p := ⟨g, 0, none⟩) h4).trans hc, ?_⟩
  have := hh 0 v0 hv
  rw [hk] at this
  exact this
theorem us_two {w w' : World} {t a b : Tm} {B : Nat} {u : Value} {us : List Value} (ho : OwnVT w' B u us) (hl : us.length = 2) (hh : HoldT w t us) (hk : Tr.kid t 0 = a) (hk2 : Tr.kid t 1 = b) : ∃ g c v0 v1, u = .slice (some ⟨g, 0, none⟩) 2 c ∧ 2 ≤ c ∧ c ≤ 9223372036854775807 ∧ (∀ W, Grew w' W → W.cell? ⟨g, 0, none⟩ = some v0) ∧ (∀ W, Grew w' W → W.cell? ⟨g, 1, none⟩ = some v1) ∧ Tms w v0 (Tr.enc a) ∧ Tms w v1 (Tr.enc b) := by
  obtain ⟨g, c, rfl, h1, h2, h3, h4⟩ := ho.open_ (by omega)
  rw [hl] at h1 ho ⊢
  obtain ⟨v0, hv⟩ : ∃ v0, us[0]? = some v0 := ⟨_, List.getElem?_eq_getElem (by omega)⟩
  obtain ⟨v1, hv1⟩ : ∃ v1, us[1]? = some v1 := ⟨_, List.getElem?_eq_getElem (by omega)⟩
  have hc := ho.cell hv
  have hc1 := ho.cell hv1
  refine ⟨g, c, v0, v1, rfl, h1, h2, fun W hW => (hW.cell (p := ⟨g, 0, none⟩) h4).trans hc, fun W hW => (hW.cell (p := ⟨g, 1, none⟩) h4).trans hc1, ?_, ?_⟩
  · have := hh 0 v0 hv
    rw [hk] at this
    exact this
  · have := hh 1 v1 hv1
    rw [hk2] at this
    exact this

theorem typeOf_one (x : Tn) (a : Tm) (hg : Good (.t1 x a)) (h0 : x.1 ≠ 0) (h8 : x.1 ≠ 8) (h1 : x.1 ≠ 1) (f : Fm.Tree → Option Fm.Tree) (G : List Fm.Tree) (hG : ∀ A ∈ G, FmOk A) (hl : G.length ≤ 12) (IH : TypV a G) (KN : NodeOne x f) (va v : Value) (w : World) (hs : Strs w va (G.map tx)) (h : Tms w v (Tr.enc (.t1 x a))) (hn : (Tr.enc (.t1 x a)).length ≤ 60) :
    Calls Tryz.prog 33 #[va, v] w (GivesTy w ((ty G a).bind f)) := by
  have KP := Lib.hid (fun W (hW : Grew w W) => inner_o v (.t1 x a) w W h hW hg (by omega))
  have HOK := fun B hB => ty_ok a hg.2 G B hG hB
  have KI := fun u W (hW : Grew w W) hu => IH va u W (hs.grew hW) hu

  obtain ⟨bb, o, c, rfl, hc, hm, hb, hcl⟩ := tms_head h
  have k0 := fun W (hW : Grew w W) => (hcl W hW).1
  have k1 := fun W (hW : Grew w W) => (hcl W hW).2.1
  have k2 := fun W (hW : Grew w W) => (hcl W hW).2.2
  change ∀ W, Grew w W → W.cell? ⟨bb, o, none⟩ = some (.int .i64 x.1) at k0
  change ∀ W, Grew w W → W.cell? ⟨bb, o + 1, none⟩ = some (.int .i64 x.2.1) at k1
  change ∀ W, Grew w W → W.cell? ⟨bb, o + 2, none⟩ = some (.string x.2.2) at k2
  have hpos := Tr.enc_pos (.t1 x a)
  have hr := Grew.refl w
  have b0 : (x.1 == 0) = false := by simpa using h0
  have b8 : (x.1 == 8) = false := by simpa using h8
  have b1 : (x.1 == 1) = false := by simpa using h1
  obtain ⟨D, d, rfl⟩ := (strs_map hs).1
  have HU := Lib.hid (fun w' B u us h1 h2 h3 => us_one (w := w) (w' := w') (B := B) (u := u) (us := us) (t := .t1 x a) (a := a) h1 h2 h3 rfl)
  have hkl : Hid ((Tr.kids (.t1 x a)).length = 1) := Lib.hid rfl
  unfold NodeOne at KN
  clear hcl h hg IH hs hG h0 h8 h1
  generalize x.1 = xk at *
  generalize x.2.1 = xn at *
  generalize x.2.2 = xs at *
  generalize (Tr.enc (.t1 x a)).length = n at *
  generalize hRR : ty G a = R at *
  generalize G.length = gl at *
  replace KN := Lib.hid KN
  have hl12 : (gl : Int) ≤ 12 := by omega
  cases R with
  | none =>
    unfold GivesTy at KI
    clear HOK hRR KN
    have HE := Lib.hid (fun w' (h : Grew w w') => none_gives (s := ByteArray.empty) h)
    change Calls _ _ _ _ (GivesTy w none)
    replace KI := Lib.hid KI
    go_enter Tryz.func33, Tryz.ntmps33
    go_wp2_with fail
    refine (KP.out _ hr).mono ?_
    rintro e w1 ⟨u, us, rfl, hU1, hul, hh, hg1⟩
    rw [hkl.out] at hul
    obtain ⟨g, cc, v0, rfl, hc2, hm2, f0, hv0⟩ := HU.out _ _ _ _ hU1 hul hh
    clear hU1 hul hh
    obtain ⟨U, e1, rfl⟩ := tms_slice hv0
    have HV := Lib.hid hv0
    clear hv0
    have r1 := Grew.refl w1
    go_wp2_with fail
    refine wp_loop_rounds 2 ?_; rw [rounds_succ]
    go_wp2_with fail
    refine (KI.out _ _ hg1 (HV.out.grew hg1)).mono ?_
    rintro e w2 ⟨s2, rfl, _, hg2⟩
    have g2 := hg1.trans hg2
    go_wp2_with fail
    go_ret2
    exact HE.out _ g2
  | some B =>
    unfold GivesTy at KI
    have hB := Lib.hid (HOK B rfl)
    clear HOK hRR
    change Calls _ _ _ _ (GivesTy w (f B))
    replace KI := Lib.hid KI
    have HO1 := OwnS.nil_ w w.heap.size
    go_enter Tryz.func33, Tryz.ntmps33
    go_wp2_with fail
    refine (KP.out _ hr).mono ?_
    rintro e w1 ⟨u, us, rfl, hU1, hul, hh, hg1⟩
    rw [hkl.out] at hul
    obtain ⟨g, cc, v0, rfl, hc2, hm2, f0, hv0⟩ := HU.out _ _ _ _ hU1 hul hh
    clear hU1 hul hh
    obtain ⟨U, e1, rfl⟩ := tms_slice hv0
    have HV := Lib.hid hv0
    clear hv0
    have r1 := Grew.refl w1
    go_wp2_with fail
    refine wp_loop_rounds 2 ?_; rw [rounds_succ]
    go_wp2_with fail
    refine (KI.out _ _ hg1 (HV.out.grew hg1)).mono ?_
    rintro e w2 ⟨s2, rfl, hs2, hg2⟩
    obtain rfl := hs2 B rfl
    clear hs2
    have g2 := hg1.trans hg2
    have hO2 := HO1.grew (g2.trans ((Grew.refl w2).alloc (.cells #[.string (tx B)] 9)))
    go_wp2_with (first | (at_builtin; refine wpList_appStr (w0 := w) _ _ rfl rfl _ [] rfl hO2 (g2.alloc _) _ (tx B) rfl (rd_lit _ _ _) (by simp) ?_; intro v2x w2x hown2 hg2x hgr2))
    have hS3 := Lib.hid hown2.strs
    obtain ⟨A3, c3, rfl⟩ := strs_slice hown2.strs
    have hg3 := hg2x
    clear hO2 hown2 hgr2 hg2x
    rw [rounds_succ]
    go_wp2_with fail
    refine (KN.out _ _ _ hB.out hS3.out).mono ?_
    rintro e w4 ⟨s4, rfl, hs4, hg4⟩
    go_wp2_with fail
    go_ret2
    exact ⟨s4, rfl, hs4, hg3.trans hg4⟩

theorem typeOf_lam (x : Tn) (a : Tm) (hg : Good (.t1 x a)) (h1 : x.1 = 1) (G : List Fm.Tree) (hG : ∀ A ∈ G, FmOk A) (hl : G.length < 12) (IH : TypV a (G ++ [fo x.2.2])) (KN : NodeOne x (fun B => smallF (.imp (fo x.2.2) B))) (va v : Value) (w : World) (hs : Strs w va (G.map tx)) (h : Tms w v (Tr.enc (.t1 x a))) (hn : (Tr.enc (.t1 x a)).length ≤ 60) :
    Calls Tryz.prog 33 #[va, v] w (GivesTy w (tyLam (fo x.2.2) (ty (G ++ [fo x.2.2]) a))) := by
  have KP := Lib.hid (fun W (hW : Grew w W) => inner_o v (.t1 x a) w W h hW hg (by omega))
  have hA := fo_ok (goodN_text hg.1.2 (by rw [h1]; rfl) (by rw [h1]; decide))
  have HOK := fun B hB => ty_ok a hg.2 (G ++ [fo x.2.2]) B (fun D hD => by
    rw [List.mem_append] at hD
    rcases hD with hD | hD
    · exact hG D hD
    · simp at hD; subst hD; exact hA.1) hB
  have KI := fun ub u W (hub : Strs W ub (G.map tx ++ [x.2.2])) hu => IH ub u W (by rw [List.map_append, List.map_singleton, hA.2]; exact hub) hu
  have KB := Lib.hid (fun W (hW : Grew w W) => behind_c va (G.map tx) x.2.2 W (hs.grew hW) (by rw [List.length_map]; omega))
  have hgl : (G.map tx ++ [x.2.2]).length = G.length + 1 := by simp

  obtain ⟨bb, o, c, rfl, hc, hm, hb, hcl⟩ := tms_head h
  have k0 := fun W (hW : Grew w W) => (hcl W hW).1
  have k1 := fun W (hW : Grew w W) => (hcl W hW).2.1
  have k2 := fun W (hW : Grew w W) => (hcl W hW).2.2
  change ∀ W, Grew w W → W.cell? ⟨bb, o, none⟩ = some (.int .i64 x.1) at k0
  change ∀ W, Grew w W → W.cell? ⟨bb, o + 1, none⟩ = some (.int .i64 x.2.1) at k1
  change ∀ W, Grew w W → W.cell? ⟨bb, o + 2, none⟩ = some (.string x.2.2) at k2
  have hpos := Tr.enc_pos (.t1 x a)
  have hr := Grew.refl w
  rw [h1] at k0
  obtain ⟨D, d, rfl⟩ := (strs_map hs).1
  have HU := Lib.hid (fun w' B u us h1 h2 h3 => us_one (w := w) (w' := w') (B := B) (u := u) (us := us) (t := .t1 x a) (a := a) h1 h2 h3 rfl)
  have hkl : Hid ((Tr.kids (.t1 x a)).length = 1) := Lib.hid rfl
  unfold NodeOne at KN
  rw [h1] at KN
  clear hcl h hg IH hs hG h1 hA
  unfold tyLam
  generalize fo x.2.2 = fA at *
  generalize G.map tx = gm at *
  generalize x.2.1 = xn at *
  generalize x.2.2 = xs at *
  generalize (Tr.enc (.t1 x a)).length = n at *
  generalize hRR : ty (G ++ [fA]) a = R at *
  generalize G.length = gl at *
  replace KN := Lib.hid KN
  have hl12 : (gl : Int) + 1 ≤ 12 := by omega
  have HGL := Lib.hid hgl
  clear hgl
  cases R with
  | none =>
    unfold GivesTy at KI
    clear HOK hRR KN
    have HE := Lib.hid (fun w' (h : Grew w w') => none_gives (s := ByteArray.empty) h)
    change Calls _ _ _ _ (GivesTy w none)
    replace KI := Lib.hid KI
    go_enter Tryz.func33, Tryz.ntmps33
    go_wp2_with fail
    refine (KP.out _ hr).mono ?_
    rintro e w1 ⟨u, us, rfl, hU1, hul, hh, hg1⟩
    rw [hkl.out] at hul
    obtain ⟨g, cc, v0, rfl, hc2, hm2, f0, hv0⟩ := HU.out _ _ _ _ hU1 hul hh
    clear hU1 hul hh
    obtain ⟨U, e1, rfl⟩ := tms_slice hv0
    have HV := Lib.hid hv0
    clear hv0
    have r1 := Grew.refl w1
    go_wp2_with fail
    refine (KB.out _ hg1).mono ?_
    rintro e wb ⟨ub, rfl, hob, hgb⟩
    have HB := Lib.hid hob.strs
    obtain ⟨UB, eb, rfl⟩ := strs_slice hob.strs
    rw [HGL.out] at HB ⊢
    clear hob
    have gb := hg1.trans hgb
    have rb := Grew.refl wb
    go_wp2_with fail
    refine wp_loop_rounds 2 ?_; rw [rounds_succ]
    go_wp2_with fail
    refine (KI.out _ _ _ HB.out (HV.out.grew gb)).mono ?_
    rintro e w2 ⟨s2, rfl, _, hg2⟩
    have g2 := gb.trans hg2
    go_wp2_with fail
    go_ret2
    exact HE.out _ g2
  | some B =>
    unfold GivesTy at KI
    have hB := Lib.hid (HOK B rfl)
    clear HOK hRR
    change Calls _ _ _ _ (GivesTy w (smallF (.imp fA B)))
    replace KI := Lib.hid KI
    have HO1 := OwnS.nil_ w w.heap.size
    go_enter Tryz.func33, Tryz.ntmps33
    go_wp2_with fail
    refine (KP.out _ hr).mono ?_
    rintro e w1 ⟨u, us, rfl, hU1, hul, hh, hg1⟩
    rw [hkl.out] at hul
    obtain ⟨g, cc, v0, rfl, hc2, hm2, f0, hv0⟩ := HU.out _ _ _ _ hU1 hul hh
    clear hU1 hul hh
    obtain ⟨U, e1, rfl⟩ := tms_slice hv0
    have HV := Lib.hid hv0
    clear hv0
    have r1 := Grew.refl w1
    go_wp2_with fail
    refine (KB.out _ hg1).mono ?_
    rintro e wb ⟨ub, rfl, hob, hgb⟩
    have HB := Lib.hid hob.strs
    obtain ⟨UB, eb, rfl⟩ := strs_slice hob.strs
    rw [HGL.out] at HB ⊢
    clear hob
    have gb := hg1.trans hgb
    have rb := Grew.refl wb
    go_wp2_with fail
    refine wp_loop_rounds 2 ?_; rw [rounds_succ]
    go_wp2_with fail
    refine (KI.out _ _ _ HB.out (HV.out.grew gb)).mono ?_
    rintro e w2 ⟨s2, rfl, hs2, hg2⟩
    obtain rfl := hs2 B rfl
    clear hs2
    have g2 := gb.trans hg2
    have hO2 := HO1.grew (g2.trans ((Grew.refl w2).alloc (.cells #[.string (tx B)] 9)))
    go_wp2_with (first | (at_builtin; refine wpList_appStr (w0 := w) _ _ rfl rfl _ [] rfl hO2 (g2.alloc _) _ (tx B) rfl (rd_lit _ _ _) (by simp) ?_; intro v2x w2x hown2 hg2x hgr2))
    have hS3 := Lib.hid hown2.strs
    obtain ⟨A3, c3, rfl⟩ := strs_slice hown2.strs
    have hg3 := hg2x
    clear hO2 hown2 hgr2 hg2x
    rw [rounds_succ]
    go_wp2_with fail
    refine (KN.out _ _ _ hB.out hS3.out).mono ?_
    rintro e w4 ⟨s4, rfl, hs4, hg4⟩
    go_wp2_with fail
    go_ret2
    exact ⟨s4, rfl, hs4, hg3.trans hg4⟩

theorem typeOf_full (x : Tn) (a : Tm) (hg : Good (.t1 x a)) (h1 : x.1 = 1) (G : List Fm.Tree) (hG : ∀ A ∈ G, FmOk A) (hl : 12 ≤ G.length ∧ G.length ≤ 12) (va v : Value) (w : World) (hs : Strs w va (G.map tx)) (h : Tms w v (Tr.enc (.t1 x a))) (hn : (Tr.enc (.t1 x a)).length ≤ 60) :
    Calls Tryz.prog 33 #[va, v] w (GivesTy w none) := by
  have KP := Lib.hid (fun W (hW : Grew w W) => inner_o v (.t1 x a) w W h hW hg (by omega))
  have KB := Lib.hid (fun W (hW : Grew w W) => behind_c va (G.map tx) x.2.2 W (hs.grew hW) (by rw [List.length_map]; omega))
  have hgl : Hid ((G.map tx ++ [x.2.2]).length = 13) := Lib.hid (by simp; omega)
  have HE := Lib.hid (fun w' (h : Grew w w') => none_gives (s := ByteArray.empty) h)

  obtain ⟨bb, o, c, rfl, hc, hm, hb, hcl⟩ := tms_head h
  have k0 := fun W (hW : Grew w W) => (hcl W hW).1
  have k1 := fun W (hW : Grew w W) => (hcl W hW).2.1
  have k2 := fun W (hW : Grew w W) => (hcl W hW).2.2
  change ∀ W, Grew w W → W.cell? ⟨bb, o, none⟩ = some (.int .i64 x.1) at k0
  change ∀ W, Grew w W → W.cell? ⟨bb, o + 1, none⟩ = some (.int .i64 x.2.1) at k1
  change ∀ W, Grew w W → W.cell? ⟨bb, o + 2, none⟩ = some (.string x.2.2) at k2
  have hpos := Tr.enc_pos (.t1 x a)
  have hr := Grew.refl w
  rw [h1] at k0
  obtain ⟨D, d, rfl⟩ := (strs_map hs).1
  clear hcl h hg hs hG h1
  generalize G.map tx ++ [x.2.2] = gm at *
  generalize x.2.1 = xn at *
  generalize x.2.2 = xs at *
  have hkl : Hid ((Tr.kids (.t1 x a)).length = 1) := Lib.hid rfl
  generalize (Tr.enc (.t1 x a)).length = n at *
  generalize G.length = gl at *
  go_enter Tryz.func33, Tryz.ntmps33
  go_wp2_with fail
  refine (KP.out _ hr).mono ?_
  rintro e w1 ⟨u, us, rfl, hU1, hul, hh, hg1⟩
  rw [hkl.out] at hul
  obtain ⟨g, cc, rfl, hc2, hm2, hB2, hg2⟩ := hU1.open_ (by omega)
  rw [hul]
  clear hul hh hU1
  go_wp2_with fail
  refine (KB.out _ hg1).mono ?_
  rintro e wb ⟨ub, rfl, hob, hgb⟩
  obtain ⟨UB, eb, rfl⟩ := strs_slice hob.strs
  rw [hgl.out]
  clear hob
  go_wp2_with fail
  go_ret2
  exact HE.out _ (hg1.trans hgb)

theorem typeOf_two (x : Tn) (a b : Tm) (hg : Good (.t2 x a b)) (h0 : x.1 ≠ 0) (h8 : x.1 ≠ 8) (h1 : x.1 ≠ 1) (f : Fm.Tree → Fm.Tree → Option Fm.Tree) (G : List Fm.Tree) (hG : ∀ A ∈ G, FmOk A) (hl : G.length ≤ 12) (IHa : TypV a G) (IHb : TypV b G) (KN : NodeTwo x f) (va v : Value) (w : World) (hs : Strs w va (G.map tx)) (h : Tms w v (Tr.enc (.t2 x a b))) (hn : (Tr.enc (.t2 x a b)).length ≤ 60) :
    Calls Tryz.prog 33 #[va, v] w (GivesTy w ((ty G a).bind fun C => (ty G b).bind fun D => f C D)) := by
  have KP := Lib.hid (fun W (hW : Grew w W) => inner_o v (.t2 x a b) w W h hW hg (by omega))
  have HA := fun B hB => ty_ok a hg.2.1 G B hG hB
  have HB := fun B hB => ty_ok b hg.2.2 G B hG hB
  have KI := fun u W (hW : Grew w W) hu => IHa va u W (hs.grew hW) hu
  have KJ := fun u W (hW : Grew w W) hu => IHb va u W (hs.grew hW) hu

  obtain ⟨bb, o, c, rfl, hc, hm, hb, hcl⟩ := tms_head h
  have k0 := fun W (hW : Grew w W) => (hcl W hW).1
  have k1 := fun W (hW : Grew w W) => (hcl W hW).2.1
  have k2 := fun W (hW : Grew w W) => (hcl W hW).2.2
  change ∀ W, Grew w W → W.cell? ⟨bb, o, none⟩ = some (.int .i64 x.1) at k0
  change ∀ W, Grew w W → W.cell? ⟨bb, o + 1, none⟩ = some (.int .i64 x.2.1) at k1
  change ∀ W, Grew w W → W.cell? ⟨bb, o + 2, none⟩ = some (.string x.2.2) at k2
  have hpos := Tr.enc_pos (.t2 x a b)
  have hr := Grew.refl w
  have b0 : (x.1 == 0) = false := by simpa using h0
  have b8 : (x.1 == 8) = false := by simpa using h8
  have b1 : (x.1 == 1) = false := by simpa using h1
  obtain ⟨D, d, rfl⟩ := (strs_map hs).1
  have HU := Lib.hid (fun w' B u us h1 h2 h3 => us_two (w := w) (w' := w') (B := B) (u := u) (us := us) (t := .t2 x a b) (a := a) (b := b) h1 h2 h3 rfl rfl)
  have hkl : Hid ((Tr.kids (.t2 x a b)).length = 2) := Lib.hid rfl
  unfold NodeTwo at KN
  clear hcl h hg IHa IHb hs hG h0 h8 h1
  generalize x.1 = xk at *
  generalize x.2.1 = xn at *
  generalize x.2.2 = xs at *
  generalize (Tr.enc (.t2 x a b)).length = n at *
  generalize ty G a = R at *
  generalize ty G b = S at *
  generalize G.length = gl at *
  replace KN := Lib.hid KN
  have hl12 : (gl : Int) ≤ 12 := by omega
  unfold GivesTy at KI KJ
  cases R with
  | none =>
    clear HA HB KN KJ
    change Calls _ _ _ _ (GivesTy w none)
    have HE := Lib.hid (fun w' (h : Grew w w') => none_gives (s := ByteArray.empty) h)
    replace KI := Lib.hid KI
    go_enter Tryz.func33, Tryz.ntmps33
    go_wp2_with fail
    refine (KP.out _ hr).mono ?_
    rintro e w1 ⟨u, us, rfl, hU1, hul, hh, hg1⟩
    rw [hkl.out] at hul
    obtain ⟨g, cc, v0, v1, rfl, hc2, hm2, f0, f1, hv0, hv1⟩ := HU.out _ _ _ _ hU1 hul hh
    clear hU1 hul hh
    obtain ⟨U, e1, rfl⟩ := tms_slice hv0
    obtain ⟨U1, e2, rfl⟩ := tms_slice hv1
    have HV := Lib.hid hv0
    have HV1 := Lib.hid hv1
    clear hv0 hv1
    have r1 := Grew.refl w1
    go_wp2_with fail
    refine wp_loop_rounds 3 ?_; rw [rounds_succ]
    go_wp2_with fail
    refine (KI.out _ _ hg1 (HV.out.grew hg1)).mono ?_
    rintro e w2 ⟨s2, rfl, _, hg2⟩
    have g2 := hg1.trans hg2
    go_wp2_with fail
    go_ret2
    exact HE.out _ g2
  | some B =>
    have hB := Lib.hid (HA B rfl)
    have HO1 := OwnS.nil_ w w.heap.size
    replace KI := Lib.hid KI
    replace KJ := Lib.hid KJ
    cases S with
    | none =>
      clear HA HB KN
      change Calls _ _ _ _ (GivesTy w none)
      have HE := Lib.hid (fun w' (h : Grew w w') => none_gives (s := ByteArray.empty) h)
      go_enter Tryz.func33, Tryz.ntmps33
      go_wp2_with fail
      refine (KP.out _ hr).mono ?_
      rintro e w1 ⟨u, us, rfl, hU1, hul, hh, hg1⟩
      rw [hkl.out] at hul
      obtain ⟨g, cc, v0, v1, rfl, hc2, hm2, f0, f1, hv0, hv1⟩ := HU.out _ _ _ _ hU1 hul hh
      clear hU1 hul hh
      obtain ⟨U, e1, rfl⟩ := tms_slice hv0
      obtain ⟨U1, e2, rfl⟩ := tms_slice hv1
      have HV := Lib.hid hv0
      have HV1 := Lib.hid hv1
      clear hv0 hv1
      have r1 := Grew.refl w1
      go_wp2_with fail
      refine wp_loop_rounds 3 ?_; rw [rounds_succ]
      go_wp2_with fail
      refine (KI.out _ _ hg1 (HV.out.grew hg1)).mono ?_
      rintro e w2 ⟨s2, rfl, hs2, hg2⟩
      obtain rfl := hs2 B rfl
      clear hs2
      have g2 := hg1.trans hg2
      have hO2 := HO1.grew (g2.trans ((Grew.refl w2).alloc (.cells #[.string (tx B)] 9)))
      go_wp2_with (first | (at_builtin; refine wpList_appStr (w0 := w) _ _ rfl rfl _ [] rfl hO2 (g2.alloc _) _ (tx B) rfl (rd_lit _ _ _) (by simp) ?_; intro v2x w2x hown2 hg2x hgr2))
      have hk2 : Grew w1 w2x := (hg2.trans ((Grew.refl w2).alloc (.cells #[.string (tx B)] 9))).trans (by
        have hq : (w2.alloc (.cells #[.string (tx B)] 9)).grownBy w2x none := hgr2
        exact ⟨hq.os, hq.tape, hq.output, hq.size, fun i hi => hq.block i hi (by simp)⟩)
      have HO3 := hown2
      obtain ⟨A3, c3, rfl⟩ := strs_slice hown2.strs
      clear hO2 hown2 hgr2
      rw [rounds_succ]
      go_wp2_with fail
      refine (KJ.out _ _ hg2x (HV1.out.grew hg2x)).mono ?_
      rintro e w4 ⟨s4, rfl, _, hg4⟩
      have g4 := hg2x.trans hg4
      go_wp2_with fail
      go_ret2
      exact HE.out _ g4
    | some C =>
      have hC := Lib.hid (HB C rfl)
      clear HA HB
      change Calls _ _ _ _ (GivesTy w (f B C))
      go_enter Tryz.func33, Tryz.ntmps33
      go_wp2_with fail
      refine (KP.out _ hr).mono ?_
      rintro e w1 ⟨u, us, rfl, hU1, hul, hh, hg1⟩
      rw [hkl.out] at hul
      obtain ⟨g, cc, v0, v1, rfl, hc2, hm2, f0, f1, hv0, hv1⟩ := HU.out _ _ _ _ hU1 hul hh
      clear hU1 hul hh
      obtain ⟨U, e1, rfl⟩ := tms_slice hv0
      obtain ⟨U1, e2, rfl⟩ := tms_slice hv1
      have HV := Lib.hid hv0
      have HV1 := Lib.hid hv1
      clear hv0 hv1
      have r1 := Grew.refl w1
      go_wp2_with fail
      refine wp_loop_rounds 3 ?_; rw [rounds_succ]
      go_wp2_with fail
      refine (KI.out _ _ hg1 (HV.out.grew hg1)).mono ?_
      rintro e w2 ⟨s2, rfl, hs2, hg2⟩
      obtain rfl := hs2 B rfl
      clear hs2
      have g2 := hg1.trans hg2
      have hO2 := HO1.grew (g2.trans ((Grew.refl w2).alloc (.cells #[.string (tx B)] 9)))
      go_wp2_with (first | (at_builtin; refine wpList_appStr (w0 := w) _ _ rfl rfl _ [] rfl hO2 (g2.alloc _) _ (tx B) rfl (rd_lit _ _ _) (by simp) ?_; intro v2x w2x hown2 hg2x hgr2))
      have hk2 : Grew w1 w2x := (hg2.trans ((Grew.refl w2).alloc (.cells #[.string (tx B)] 9))).trans (by
        have hq : (w2.alloc (.cells #[.string (tx B)] 9)).grownBy w2x none := hgr2
        exact ⟨hq.os, hq.tape, hq.output, hq.size, fun i hi => hq.block i hi (by simp)⟩)
      have HO3 := hown2
      obtain ⟨A3, c3, rfl⟩ := strs_slice hown2.strs
      clear hO2 hown2 hgr2
      rw [rounds_succ]
      go_wp2_with fail
      refine (KJ.out _ _ hg2x (HV1.out.grew hg2x)).mono ?_
      rintro e w4 ⟨s4, rfl, hs4, hg4⟩
      obtain rfl := hs4 C rfl
      clear hs4
      have g4 := hg2x.trans hg4
      have hO5 := HO3.grew (hg4.trans ((Grew.refl w4).alloc (.cells #[.string (tx C)] 9)))
      go_wp2_with (first | (at_builtin; refine wpList_appStr (w0 := w) _ _ rfl rfl _ [tx B] rfl hO5 (g4.alloc _) _ (tx C) rfl (rd_lit _ _ _) (by simp) ?_; intro v5x w5x hown5 hg5x hgr5))
      have hS5 := Lib.hid hown5.strs
      obtain ⟨A5, c5, rfl⟩ := strs_slice hown5.strs
      have g5 := hg5x
      clear hO5 hown5 hgr5 hg5x
      rw [rounds_succ]
      go_wp2_with fail
      refine (KN.out _ _ _ _ hB.out hC.out hS5.out).mono ?_
      rintro e w6 ⟨s6, rfl, hs6, hg6⟩
      go_wp2_with fail
      go_ret2
      exact ⟨s6, rfl, hs6, g5.trans hg6⟩
end Go.Proofs.YtfpkfgimhanekaaGreat

/- typeOf of the program at a case. -/
namespace Go.Proofs.YtfpkfgimhanekaaGreat
open Go.RowKit
open Tr (Tm)

set_option maxHeartbeats 2000000 in
theorem typeOfCase_c (c0 a b : Tm) (G : List Fm.Tree) (hl : G.length ≤ 12) (HOC : ∀ C, ty G c0 = some C → FmOk C) (HOA : ∀ A, FmOk A → ∀ B, ty (G ++ [A]) a = some B → FmOk B) (HOB : ∀ A, FmOk A → ∀ B, ty (G ++ [A]) b = some B → FmOk B) (IHc : TypV c0 G) (IHa : ∀ A, FmOk A → G.length < 12 → TypV a (G ++ [A])) (IHb : ∀ A, FmOk A → G.length < 12 → TypV b (G ++ [A])) (va : Value) (w0 w : World) (hs : Strs w0 va (G.map tx)) (hw : Grew w0 w) (g c : Nat) (v0 v1 v2 : Value) (hc : 3 ≤ c) (hm : c ≤ 9223372036854775807)
    (f0 : ∀ W, Grew w W → W.cell? ⟨g, 0, none⟩ = some v0) (f1 : ∀ W, Grew w W → W.cell? ⟨g, 1, none⟩ = some v1) (f2 : ∀ W, Grew w W → W.cell? ⟨g, 2, none⟩ = some v2) (h0 : Tms w0 v0 (Tr.enc c0)) (h1 : Tms w0 v1 (Tr.enc a)) (h2 : Tms w0 v2 (Tr.enc b)) :
    Calls Tryz.prog 60 #[va, .slice (some ⟨g, 0, none⟩) 3 c] w (GivesTy w ((ty G c0).bind (tyCs G a b))) := by
  have KI := fun W (hW : Grew w W) => IHc va v0 W (hs.grew (hw.trans hW)) (h0.grew (hw.trans hW))
  have KB := Lib.hid (fun s W (hW : Grew w W) => behind_c va (G.map tx) s W (hs.grew (hw.trans hW)) (by rw [List.length_map]; omega))
  have KA := fun A (hA : FmOk A) (h12 : G.length < 12) ub W (hW : Grew w W) (hub : Strs W ub (G.map tx ++ [tx A])) => IHa A hA h12 ub v1 W (by rw [List.map_append, List.map_singleton]; exact hub) (h1.grew (hw.trans hW))
  have KC := fun A (hA : FmOk A) (h12 : G.length < 12) ub W (hW : Grew w W) (hub : Strs W ub (G.map tx ++ [tx A])) => IHb A hA h12 ub v2 W (by rw [List.map_append, List.map_singleton]; exact hub) (h2.grew (hw.trans hW))
  have HL := Lib.hid (fun s => (by simp : (G.map tx ++ [s]).length = G.length + 1))
  have r0 := Grew.refl w
  obtain ⟨D, d, rfl⟩ := (strs_map hs).1
  obtain ⟨U0, e0, rfl⟩ := tms_slice h0
  obtain ⟨U1, e1, rfl⟩ := tms_slice h1
  obtain ⟨U2, e2, rfl⟩ := tms_slice h2
  clear hs h0 h1 h2 IHc IHa IHb hw
  unfold GivesTy at KI KA KC
  generalize (Tr.enc c0).length = n0 at *
  generalize (Tr.enc a).length = n1 at *
  generalize (Tr.enc b).length = n2 at *
  generalize hRC : ty G c0 = rc at *
  clear hRC
  cases rc with
  | none =>
    change Calls _ _ _ _ (GivesTy w none)
    have HE := Lib.hid (fun w' (h : Grew w w') => none_gives (s := ByteArray.empty) h)
    clear HOC HOA HOB KA KC KB HL
    generalize G.length = gl at *
    replace KI := Lib.hid KI
    go_enter Tryz.func60, Tryz.ntmps60
    go_wp2_with fail
    refine (KI.out _ r0).mono ?_
    rintro e w2 ⟨s1, rfl, _, hg1⟩
    go_wp2_with fail
    go_ret2
    exact HE.out _ hg1
  | some C =>
    have hC := HOC C rfl
    clear HOC
    by_cases h12 : G.length < 12
    · have hlt : (G.length : Int) < 12 := by omega
      by_cases hk3 : kindOf C = 3
      · obtain ⟨p, q, rfl⟩ : ∃ p q, C = .or p q := by
          cases C with
          | or p q => exact ⟨p, q, rfl⟩
          | _ => simp [kindOf] at hk3
        clear hk3
        obtain ⟨hp, hq⟩ := fmOk_or hC
        have KP := Lib.hid (fun w => partsWith_two 3 (.or p q) p q w hC rfl (.inr (.inl rfl)))
        have hk2 : (kindOf (.or p q) == 3) = true := rfl
        rw [hk2] at KP
        replace KA := KA p hp h12
        replace KC := KC q hq h12
        have hR : ((some (Fm.Tree.or p q)).bind (tyCs G a b)) = ((ty (G ++ [p]) a).bind fun R => (ty (G ++ [q]) b).bind fun S => if @decide (R = S) (Classical.propDecidable _) then some R else none) := by rw [Option.bind_some, tyCs, if_pos h12]
        rw [hR]
        replace HOA := HOA p hp
        replace HOB := HOB q hq
        clear hR hp hq h12 hk2 hC
        generalize ty (G ++ [p]) a = ra at *
        generalize ty (G ++ [q]) b = rb at *
        have HL1 := Lib.hid (HL.out (tx p))
        have HL2 := Lib.hid (HL.out (tx q))
        have KB1 := Lib.hid (KB.out (tx p))
        have KB2 := Lib.hid (KB.out (tx q))
        clear KB HL
        generalize G.map tx ++ [tx p] = Lp at *
        generalize G.map tx ++ [tx q] = Lq at *
        generalize tx p = tp at *
        generalize tx q = tq at *
        generalize G.length = gl at *
        replace KI := Lib.hid KI
        unfold GivesS at KB1 KB2
        replace KA := Lib.hid KA
        replace KC := Lib.hid KC
        cases ra with
        | none =>
          change Calls _ _ _ _ (GivesTy w none)
          have HE := Lib.hid (fun s w' (h : Grew w w') => none_gives (s := s) h)
          clear HOA HOB
          go_enter Tryz.func60, Tryz.ntmps60
          go_wp2_with fail
          refine (KI.out _ r0).mono ?_
          rintro e w1 ⟨s1, rfl, hs1, hg1⟩
          obtain rfl := hs1 _ rfl
          clear hs1
          go_wp2_with fail
          refine (KP.out _).mono ?_
          rintro e w2 ⟨u2, rfl, ho2, hg2⟩
          have g2 := hg1.trans hg2
          obtain ⟨b1, o1, c1, rfl, hc1, hm1, hb1, hf1⟩ := strs_two ho2.strs
          clear ho2
          have k1 := fun W (hW : Grew w2 W) => (hf1 W hW).1
          have k2 := fun W (hW : Grew w2 W) => (hf1 W hW).2
          clear hf1
          have r2 := Grew.refl w2
          have d2 := r2.drew
          have f1a := fun W (hW : Grew w2 W) => f1 W (g2.trans hW)
          have f2a := fun W (hW : Grew w2 W) => f2 W (g2.trans hW)
          have gd2 := g2.trans d2
          go_wp2_with fail
          go_region_held3 (fun w' => Grew w2 w') (with_reducible assumption)
            (first
              | (go_at_call 33; refine (KA.out _ _ gk3 HB3.out).mono ?_; rintro e w4 ⟨s4, rfl, hs4, hg4⟩; have gk4 := gk3.trans hg4; have hk4 := hk3.trans hg4)
              | (go_at_call 61; refine (KB1.out _ gd2).mono ?_; rintro e w3 ⟨ub, rfl, hob, hg3⟩; have HB3 := Lib.hid hob.strs; obtain ⟨X3, x3, rfl⟩ := strs_slice hob.strs; rw [HL1.out] at HB3 ⊢; clear hob; have gk3 := gd2.trans hg3; have hk3 := d2.trans hg3))
          clear f1a f2a gd2 r2 d2
          have r4 := Grew.refl w4
          have d4 := r4.drew
          have f2b := fun W (hW : Grew w4 W) => f2 W (gk4.trans hW)
          have k2b := fun W (hW : Grew w4 W) => k2 W (hk4.trans hW)
          have gd4 := gk4.trans d4
          have HS4 := Lib.hid hs4
          clear hs4
          go_wp2_with fail
          go_region_held3 (fun w' => Grew w4 w') (with_reducible assumption)
            (first
              | (go_at_call 33; refine (KC.out _ _ gk5 HB5.out).mono ?_; rintro e w6 ⟨s6, rfl, hs6, hg6⟩; have gk6 := gk5.trans hg6; have hk6 := hk5.trans hg6)
              | (go_at_call 61; refine (KB2.out _ gd4).mono ?_; rintro e w5 ⟨ub5, rfl, hob5, hg5⟩; have HB5 := Lib.hid hob5.strs; obtain ⟨X5, x5, rfl⟩ := strs_slice hob5.strs; rw [HL2.out] at HB5 ⊢; clear hob5; have gk5 := gd4.trans hg5; have hk5 := d4.trans hg5))
          have HS6 := Lib.hid hs6
          clear hs6
          go_wp2_with fail
          go_ret2
          exact HE.out _ _ gk6
        | some R =>
          cases rb with
          | none =>
            change Calls _ _ _ _ (GivesTy w none)
            have HE := Lib.hid (fun s w' (h : Grew w w') => none_gives (s := s) h)
            clear HOA HOB
            go_enter Tryz.func60, Tryz.ntmps60
            go_wp2_with fail
            refine (KI.out _ r0).mono ?_
            rintro e w1 ⟨s1, rfl, hs1, hg1⟩
            obtain rfl := hs1 _ rfl
            clear hs1
            go_wp2_with fail
            refine (KP.out _).mono ?_
            rintro e w2 ⟨u2, rfl, ho2, hg2⟩
            have g2 := hg1.trans hg2
            obtain ⟨b1, o1, c1, rfl, hc1, hm1, hb1, hf1⟩ := strs_two ho2.strs
            clear ho2
            have k1 := fun W (hW : Grew w2 W) => (hf1 W hW).1
            have k2 := fun W (hW : Grew w2 W) => (hf1 W hW).2
            clear hf1
            have r2 := Grew.refl w2
            have d2 := r2.drew
            have f1a := fun W (hW : Grew w2 W) => f1 W (g2.trans hW)
            have f2a := fun W (hW : Grew w2 W) => f2 W (g2.trans hW)
            have gd2 := g2.trans d2
            go_wp2_with fail
            go_region_held3 (fun w' => Grew w2 w') (with_reducible assumption)
              (first
                | (go_at_call 33; refine (KA.out _ _ gk3 HB3.out).mono ?_; rintro e w4 ⟨s4, rfl, hs4, hg4⟩; have gk4 := gk3.trans hg4; have hk4 := hk3.trans hg4)
                | (go_at_call 61; refine (KB1.out _ gd2).mono ?_; rintro e w3 ⟨ub, rfl, hob, hg3⟩; have HB3 := Lib.hid hob.strs; obtain ⟨X3, x3, rfl⟩ := strs_slice hob.strs; rw [HL1.out] at HB3 ⊢; clear hob; have gk3 := gd2.trans hg3; have hk3 := d2.trans hg3))
            clear f1a f2a gd2 r2 d2
            have r4 := Grew.refl w4
            have d4 := r4.drew
            have f2b := fun W (hW : Grew w4 W) => f2 W (gk4.trans hW)
            have k2b := fun W (hW : Grew w4 W) => k2 W (hk4.trans hW)
            have gd4 := gk4.trans d4
            have HS4 := Lib.hid hs4
            clear hs4
            go_wp2_with fail
            go_region_held3 (fun w' => Grew w4 w') (with_reducible assumption)
              (first
                | (go_at_call 33; refine (KC.out _ _ gk5 HB5.out).mono ?_; rintro e w6 ⟨s6, rfl, hs6, hg6⟩; have gk6 := gk5.trans hg6; have hk6 := hk5.trans hg6)
                | (go_at_call 61; refine (KB2.out _ gd4).mono ?_; rintro e w5 ⟨ub5, rfl, hob5, hg5⟩; have HB5 := Lib.hid hob5.strs; obtain ⟨X5, x5, rfl⟩ := strs_slice hob5.strs; rw [HL2.out] at HB5 ⊢; clear hob5; have gk5 := gd4.trans hg5; have hk5 := d4.trans hg5))
            have HS6 := Lib.hid hs6
            clear hs6
            go_wp2_with fail
            go_ret2
            exact HE.out _ _ gk6
          | some S =>
            have hR1 := (HOA R rfl).1
            have hS1 := (HOB S rfl).1
            clear HOA HOB
            have hpost : (some R).bind (fun R => (some S).bind fun S => if @decide (R = S) (Classical.propDecidable _) then some R else none) = if @decide (R = S) (Classical.propDecidable _) then some R else none := rfl
            rw [hpost]
            clear hpost
            by_cases hRS : R = S
            · subst hRS
              rw [if_pos (by simp)]
              have HE := Lib.hid (fun w' (h : Grew w w') => some_gives (A := R) h)
              have hx : ((tx R).toList == (tx R).toList) = true := by simp
              go_enter Tryz.func60, Tryz.ntmps60
              go_wp2_with fail
              refine (KI.out _ r0).mono ?_
              rintro e w1 ⟨s1, rfl, hs1, hg1⟩
              obtain rfl := hs1 _ rfl
              clear hs1
              go_wp2_with fail
              refine (KP.out _).mono ?_
              rintro e w2 ⟨u2, rfl, ho2, hg2⟩
              have g2 := hg1.trans hg2
              obtain ⟨b1, o1, c1, rfl, hc1, hm1, hb1, hf1⟩ := strs_two ho2.strs
              clear ho2
              have k1 := fun W (hW : Grew w2 W) => (hf1 W hW).1
              have k2 := fun W (hW : Grew w2 W) => (hf1 W hW).2
              clear hf1
              have r2 := Grew.refl w2
              have d2 := r2.drew
              have f1a := fun W (hW : Grew w2 W) => f1 W (g2.trans hW)
              have f2a := fun W (hW : Grew w2 W) => f2 W (g2.trans hW)
              have gd2 := g2.trans d2
              go_wp2_with fail
              go_region_held3 (fun w' => Grew w2 w') (with_reducible assumption)
                (first
                  | (go_at_call 33; refine (KA.out _ _ gk3 HB3.out).mono ?_; rintro e w4 ⟨s4, rfl, hs4, hg4⟩; have gk4 := gk3.trans hg4; have hk4 := hk3.trans hg4)
                  | (go_at_call 61; refine (KB1.out _ gd2).mono ?_; rintro e w3 ⟨ub, rfl, hob, hg3⟩; have HB3 := Lib.hid hob.strs; obtain ⟨X3, x3, rfl⟩ := strs_slice hob.strs; rw [HL1.out] at HB3 ⊢; clear hob; have gk3 := gd2.trans hg3; have hk3 := d2.trans hg3))
              clear f1a f2a gd2 r2 d2
              have r4 := Grew.refl w4
              have d4 := r4.drew
              have f2b := fun W (hW : Grew w4 W) => f2 W (gk4.trans hW)
              have k2b := fun W (hW : Grew w4 W) => k2 W (hk4.trans hW)
              have gd4 := gk4.trans d4
              have HS4 := Lib.hid hs4
              clear hs4
              go_wp2_with fail
              go_region_held3 (fun w' => Grew w4 w') (with_reducible assumption)
                (first
                  | (go_at_call 33; refine (KC.out _ _ gk5 HB5.out).mono ?_; rintro e w6 ⟨s6, rfl, hs6, hg6⟩; have gk6 := gk5.trans hg6; have hk6 := hk5.trans hg6)
                  | (go_at_call 61; refine (KB2.out _ gd4).mono ?_; rintro e w5 ⟨ub5, rfl, hob5, hg5⟩; have HB5 := Lib.hid hob5.strs; obtain ⟨X5, x5, rfl⟩ := strs_slice hob5.strs; rw [HL2.out] at HB5 ⊢; clear hob5; have gk5 := gd4.trans hg5; have hk5 := d4.trans hg5))
              have HS6 := Lib.hid hs6
              clear hs6
              obtain rfl := HS4.out _ rfl
              obtain rfl := HS6.out _ rfl
              go_wp2_with fail
              go_ret2
              exact HE.out _ gk6
            · rw [if_neg (by simp [hRS])]
              have HE := Lib.hid (fun s w' (h : Grew w w') => none_gives (s := s) h)
              have hneq : tx R ≠ tx S := fun hh => hRS (tx_inj hR1 hS1 hh)
              have hb1 : ((tx R).toList == (tx S).toList) = false := by
                cases hq : ((tx R).toList == (tx S).toList) with
                | false => rfl
                | true => exact absurd ((Lib.bytes_beq_iff _ _).1 hq) hneq
              clear hneq hRS hR1 hS1
              go_enter Tryz.func60, Tryz.ntmps60
              go_wp2_with fail
              refine (KI.out _ r0).mono ?_
              rintro e w1 ⟨s1, rfl, hs1, hg1⟩
              obtain rfl := hs1 _ rfl
              clear hs1
              go_wp2_with fail
              refine (KP.out _).mono ?_
              rintro e w2 ⟨u2, rfl, ho2, hg2⟩
              have g2 := hg1.trans hg2
              obtain ⟨b1, o1, c1, rfl, hc1, hm1, hb1, hf1⟩ := strs_two ho2.strs
              clear ho2
              have k1 := fun W (hW : Grew w2 W) => (hf1 W hW).1
              have k2 := fun W (hW : Grew w2 W) => (hf1 W hW).2
              clear hf1
              have r2 := Grew.refl w2
              have d2 := r2.drew
              have f1a := fun W (hW : Grew w2 W) => f1 W (g2.trans hW)
              have f2a := fun W (hW : Grew w2 W) => f2 W (g2.trans hW)
              have gd2 := g2.trans d2
              go_wp2_with fail
              go_region_held3 (fun w' => Grew w2 w') (with_reducible assumption)
                (first
                  | (go_at_call 33; refine (KA.out _ _ gk3 HB3.out).mono ?_; rintro e w4 ⟨s4, rfl, hs4, hg4⟩; have gk4 := gk3.trans hg4; have hk4 := hk3.trans hg4)
                  | (go_at_call 61; refine (KB1.out _ gd2).mono ?_; rintro e w3 ⟨ub, rfl, hob, hg3⟩; have HB3 := Lib.hid hob.strs; obtain ⟨X3, x3, rfl⟩ := strs_slice hob.strs; rw [HL1.out] at HB3 ⊢; clear hob; have gk3 := gd2.trans hg3; have hk3 := d2.trans hg3))
              clear f1a f2a gd2 r2 d2
              have r4 := Grew.refl w4
              have d4 := r4.drew
              have f2b := fun W (hW : Grew w4 W) => f2 W (gk4.trans hW)
              have k2b := fun W (hW : Grew w4 W) => k2 W (hk4.trans hW)
              have gd4 := gk4.trans d4
              have HS4 := Lib.hid hs4
              clear hs4
              go_wp2_with fail
              go_region_held3 (fun w' => Grew w4 w') (with_reducible assumption)
                (first
                  | (go_at_call 33; refine (KC.out _ _ gk5 HB5.out).mono ?_; rintro e w6 ⟨s6, rfl, hs6, hg6⟩; have gk6 := gk5.trans hg6; have hk6 := hk5.trans hg6)
                  | (go_at_call 61; refine (KB2.out _ gd4).mono ?_; rintro e w5 ⟨ub5, rfl, hob5, hg5⟩; have HB5 := Lib.hid hob5.strs; obtain ⟨X5, x5, rfl⟩ := strs_slice hob5.strs; rw [HL2.out] at HB5 ⊢; clear hob5; have gk5 := gd4.trans hg5; have hk5 := d4.trans hg5))
              have HS6 := Lib.hid hs6
              clear hs6
              obtain rfl := HS4.out _ rfl
              obtain rfl := HS6.out _ rfl
              go_wp2_with fail
              go_ret2
              exact HE.out _ _ gk6
      · have hkb : (kindOf C == 3) = false := by simpa using hk3
        have KP := Lib.hid (fun w => partsWith_not 3 C w hC hkb)
        have HE := Lib.hid (fun w' (h : Grew w w') => (by rw [Option.bind_some, tyCs_not hkb]; exact none_gives (s := ByteArray.empty) h : GivesTy w ((some C).bind (tyCs G a b)) (.returned (.tuple #[.string ByteArray.empty, .bool false])) w'))
        generalize (some C).bind (tyCs G a b) = rr at *
        clear HOA HOB KA KC KB HL hC hk3 hkb h12
        generalize G.length = gl at *
        replace KI := Lib.hid KI
        go_enter Tryz.func60, Tryz.ntmps60
        go_wp2_with fail
        refine (KI.out _ r0).mono ?_
        rintro e w1 ⟨s1, rfl, hs1, hg1⟩
        obtain rfl := hs1 _ rfl
        clear hs1
        go_wp2_with fail
        refine (KP.out _).mono ?_
        rintro e w2 ⟨u2, rfl, ⟨X, x, y, rfl⟩, hg2⟩
        go_wp2_with fail
        go_ret2
        exact HE.out _ (hg1.trans hg2)
    · have hge : G.length = 12 := by omega
      have HE := Lib.hid (fun w' (h : Grew w w') => (by
        have : (some C).bind (tyCs G a b) = none := by
          rw [Option.bind_some]
          cases C with
          | or p q => rw [tyCs, if_neg h12]
          | _ => rfl
        rw [this]; exact none_gives (s := ByteArray.empty) h : GivesTy w ((some C).bind (tyCs G a b)) (.returned (.tuple #[.string ByteArray.empty, .bool false])) w'))
      generalize (some C).bind (tyCs G a b) = rr at *
      clear HOA HOB KA KC KB HL hC h12
      have hge2 : ((G.length : Int) == 12) = true := by rw [hge]; rfl
      rw [hge] at KI ⊢
      clear hge hge2
      replace KI := Lib.hid KI
      go_enter Tryz.func60, Tryz.ntmps60
      go_wp2_with fail
      refine (KI.out _ r0).mono ?_
      rintro e w1 ⟨s1, rfl, hs1, hg1⟩
      clear hs1
      go_wp2_with fail
      go_ret2
      exact HE.out _ hg1
end Go.Proofs.YtfpkfgimhanekaaGreat

/- typeOf of every term. -/
namespace Go.Proofs.YtfpkfgimhanekaaGreat
open Go.RowKit
open Tr (Tm)

theorem typeOf_case (x : Tn) (c0 a b : Tm) (hg : Good (.t3 x c0 a b)) (hk : x.1 = 8) (G : List Fm.Tree) (hG : ∀ A ∈ G, FmOk A) (hl : G.length ≤ 12) (IHc : TypV c0 G) (IHa : ∀ A, FmOk A → G.length < 12 → TypV a (G ++ [A])) (IHb : ∀ A, FmOk A → G.length < 12 → TypV b (G ++ [A])) (va v : Value) (w : World) (hs : Strs w va (G.map tx)) (h : Tms w v (Tr.enc (.t3 x c0 a b))) (hn : (Tr.enc (.t3 x c0 a b)).length ≤ 60) :
    Calls Tryz.prog 33 #[va, v] w (GivesTy w (ty G (.t3 x c0 a b))) := by
  rw [ty_case]
  have KP := Lib.hid (fun W (hW : Grew w W) => inner_o v (.t3 x c0 a b) w W h hW hg (by omega))
  have hgl : ∀ A, FmOk A → ∀ B ∈ G ++ [A], FmOk B := fun A hA B hB => by
    rw [List.mem_append] at hB
    rcases hB with hB | hB
    · exact hG B hB
    · simp at hB; subst hB; exact hA
  have KC := Lib.hid (fun w1 g c v0 v1 v2 hw hc hm f0 f1 f2 h0 h1 h2 => typeOfCase_c c0 a b G hl (fun B hB => ty_ok c0 hg.2.1 G B hG hB) (fun A hA B hB => ty_ok a hg.2.2.1 (G ++ [A]) B (hgl A hA) hB) (fun A hA B hB => ty_ok b hg.2.2.2 (G ++ [A]) B (hgl A hA) hB) IHc IHa IHb va w w1 hs hw g c v0 v1 v2 hc hm f0 f1 f2 h0 h1 h2)
  obtain ⟨bb, o, c, rfl, hc, hm, hb, hcl⟩ := tms_head h
  have k0 := fun W (hW : Grew w W) => (hcl W hW).1
  change ∀ W, Grew w W → W.cell? ⟨bb, o, none⟩ = some (.int .i64 x.1) at k0
  rw [hk] at k0
  have hpos := Tr.enc_pos (.t3 x c0 a b)
  have hr := Grew.refl w
  obtain ⟨D, d, rfl⟩ := (strs_map hs).1
  have hkl : Hid ((Tr.kids (.t3 x c0 a b)).length = 3) := Lib.hid rfl
  have hkid : Hid (Tr.kid (.t3 x c0 a b) 0 = c0 ∧ Tr.kid (.t3 x c0 a b) 1 = a ∧ Tr.kid (.t3 x c0 a b) 2 = b) := Lib.hid ⟨rfl, rfl, rfl⟩
  clear hcl h hg IHa IHb IHc hs hG hgl hk
  generalize (Tr.enc (.t3 x c0 a b)).length = n at *
  generalize (ty G c0).bind (tyCs G a b) = R at *
  generalize G.length = gl at *
  unfold GivesTy at KC
  go_enter Tryz.func33, Tryz.ntmps33
  go_wp2_with fail
  refine (KP.out _ hr).mono ?_
  rintro e w1 ⟨u, us, rfl, hU1, hul, hh, hg1⟩
  rw [hkl.out] at hul
  obtain ⟨g, cc, rfl, hc2, hm2, hB2, hg2⟩ := hU1.open_ (by omega)
  rw [hul] at hc2 hU1 ⊢
  obtain ⟨v0, hv0⟩ : ∃ v0, us[0]? = some v0 := ⟨_, List.getElem?_eq_getElem (by omega)⟩
  obtain ⟨v1, hv1⟩ : ∃ v1, us[1]? = some v1 := ⟨_, List.getElem?_eq_getElem (by omega)⟩
  obtain ⟨v2, hv2⟩ : ∃ v2, us[2]? = some v2 := ⟨_, List.getElem?_eq_getElem (by omega)⟩
  have hT0 := hh 0 v0 hv0
  have hT1 := hh 1 v1 hv1
  have hT2 := hh 2 v2 hv2
  rw [hkid.out.1] at hT0
  rw [hkid.out.2.1] at hT1
  rw [hkid.out.2.2] at hT2
  have hcl0 := hU1.cell hv0
  have hcl1 := hU1.cell hv1
  have hcl2 := hU1.cell hv2
  have KD := Lib.hid (KC.out w1 g cc v0 v1 v2 hg1 hc2 hm2 (fun W hW => (hW.cell (p := ⟨g, 0, none⟩) hg2).trans hcl0) (fun W hW => (hW.cell (p := ⟨g, 1, none⟩) hg2).trans hcl1) (fun W hW => (hW.cell (p := ⟨g, 2, none⟩) hg2).trans hcl2) hT0 hT1 hT2)
  clear hul hh hv0 hv1 hv2 hT0 hT1 hT2 hcl0 hcl1 hcl2 hU1
  go_wp2_with fail
  refine KD.out.mono ?_
  rintro e w2 ⟨s, rfl, hs2, hg3⟩
  go_wp2_with fail
  go_ret2
  exact ⟨s, rfl, hs2, hg1.trans hg3⟩

theorem typeOf_c : ∀ t : Tm, Good t → (Tr.enc t).length ≤ 60 → ∀ G : List Fm.Tree, (∀ A ∈ G, FmOk A) → G.length ≤ 12 → TypV t G := by
  intro t
  have hmore : ∀ (G : List Fm.Tree) (A : Fm.Tree), (∀ B ∈ G, FmOk B) → FmOk A → ∀ B ∈ G ++ [A], FmOk B := fun G A hG hA B hB => by
    rw [List.mem_append] at hB
    rcases hB with hB | hB
    · exact hG B hB
    · simp at hB; subst hB; exact hA
  have hlen1 : ∀ (G : List Fm.Tree) (A : Fm.Tree), G.length < 12 → (G ++ [A]).length ≤ 12 := fun G A h => by simp; omega
  induction t with
  | t0 x => exact fun hg hn G hG hl va v w hs h => typeOf_var x hg G va v w hl hs h
  | t1 x a iha =>
    intro hg hn G hG hl va v w hs h
    have hk := ar_one (show Tr.ar x.1 = 1 from hg.1.1)
    have ha : (Tr.enc a).length ≤ 60 := by simp [Tr.enc] at hn; omega
    have IH := iha hg.2 ha
    have hA := fun (hh : typedB x.1 = true) (h0 : x.1 ≠ 0) => fo_ok (goodN_text hg.1.2 hh h0)
    by_cases h1 : x.1 = 1
    · have hA1 := hA (by rw [h1]; rfl) (by omega)
      by_cases h12 : G.length < 12
      · have hty : ty G (.t1 x a) = tyLam (fo x.2.2) (ty (G ++ [fo x.2.2]) a) := by rw [ty, if_pos h1, if_pos h12]
        rw [hty]
        refine typeOf_lam x a hg h1 G hG h12 (IH _ (hmore G _ hG hA1.1) (hlen1 G _ h12)) ?_ va v w hs h hn
        intro B vt W hB hsB
        rw [h1]
        have h2 := nodeType_lam x.2.1 (fo x.2.2) B vt W hA1.1 hB hsB
        rw [hA1.2] at h2
        exact h2
      · have hty : ty G (.t1 x a) = none := by rw [ty, if_pos h1, if_neg h12]
        rw [hty]
        exact typeOf_full x a hg h1 G hG ⟨by omega, hl⟩ va v w hs h hn
    · have hty : ty G (.t1 x a) = (ty G a).bind (ty1 x.1 (fo x.2.2)) := by rw [ty, if_neg h1]
      rw [hty]
      refine typeOf_one x a hg (by omega) (by omega) h1 _ G hG hl (IH G hG hl) ?_ va v w hs h hn
      intro B vt W hB hsB
      rcases hk with hk | hk | hk | hk | hk | hk
      · exact absurd hk h1
      · rw [hk]; exact nodeType_fst x.2.1 x.2.2 (fo x.2.2) B vt W hB hsB
      · rw [hk]; exact nodeType_snd x.2.1 x.2.2 (fo x.2.2) B vt W hB hsB
      · have hA1 := hA (by rw [hk]; rfl) (by omega)
        rw [hk]
        have h2 := nodeType_inl x.2.1 (fo x.2.2) B vt W hA1.1 hB hsB
        rw [hA1.2] at h2
        exact h2
      · have hA1 := hA (by rw [hk]; rfl) (by omega)
        rw [hk]
        have h2 := nodeType_inr x.2.1 (fo x.2.2) B vt W hA1.1 hB hsB
        rw [hA1.2] at h2
        exact h2
      · have hA1 := hA (by rw [hk]; rfl) (by omega)
        rw [hk]
        have h2 := nodeType_abort x.2.1 (fo x.2.2) B vt W hA1.1 hB hsB
        rw [hA1.2] at h2
        exact h2
  | t2 x a b iha ihb =>
    intro hg hn G hG hl va v w hs h
    have hk := ar_two (show Tr.ar x.1 = 2 from hg.1.1)
    have ha : (Tr.enc a).length ≤ 60 := by simp [Tr.enc] at hn; omega
    have hb : (Tr.enc b).length ≤ 60 := by simp [Tr.enc] at hn; omega
    have hty : ty G (.t2 x a b) = (ty G a).bind fun C => (ty G b).bind fun D => ty2 x.1 C D := by rw [ty]
    rw [hty]
    refine typeOf_two x a b hg (by omega) (by omega) (by omega) (ty2 x.1) G hG hl (iha hg.2.1 ha G hG hl) (ihb hg.2.2 hb G hG hl) ?_ va v w hs h hn
    intro B D vt W hB hD hsB
    rcases hk with hk | hk
    · rw [hk]; exact nodeType_app x.2.1 x.2.2 B D vt W hB hD hsB
    · rw [hk]; exact nodeType_pair x.2.1 x.2.2 B D vt W hB hD hsB
  | t3 x c a b ihc iha ihb =>
    intro hg hn G hG hl va v w hs h
    have hk := ar_three (show Tr.ar x.1 = 3 from hg.1.1)
    have hc : (Tr.enc c).length ≤ 60 := by simp [Tr.enc] at hn; omega
    have ha : (Tr.enc a).length ≤ 60 := by simp [Tr.enc] at hn; omega
    have hb : (Tr.enc b).length ≤ 60 := by simp [Tr.enc] at hn; omega
    exact typeOf_case x c a b hg hk G hG hl (ihc hg.2.1 hc G hG hl) (fun A hA h12 => iha hg.2.2.1 ha _ (hmore G A hG hA) (hlen1 G A h12)) (fun A hA h12 => ihb hg.2.2.2 hb _ (hmore G A hG hA) (hlen1 G A h12)) va v w hs h hn
end Go.Proofs.YtfpkfgimhanekaaGreat

/- Strings that are not larger than memory. -/
namespace Go.Proofs.YtfpkfgimhanekaaGreat
open Go.RowKit

/-- No text of the list is long. -/
def Fits (L : List ByteArray) : Prop := ∀ i, i < L.length → (st L i).size ≤ 1048576
end Go.Proofs.YtfpkfgimhanekaaGreat

/- A predicate on strings: IndexFunc, ContainsFunc. -/
namespace Go.Proofs.YtfpkfgimhanekaaGreat
open Go.RowKit

/-- None of the first k strings meets the predicate. -/
def NoneS (p : ByteArray → Bool) (L : List ByteArray) (k : Nat) : Prop := ∀ i, i < k → p (st L i) = false
theorem NoneS.zero (p : ByteArray → Bool) (L : List ByteArray) : NoneS p L 0 := fun i hi => absurd hi (by omega)
theorem NoneS.succ {p : ByteArray → Bool} {L : List ByteArray} {k : Nat} (h : NoneS p L k) (h1 : p (st L k) = false) : NoneS p L (k + 1) := by
  intro i hi
  rcases Nat.lt_or_ge i k with hk | hk
  · exact h i hk
  · obtain rfl : i = k := by omega
    exact h1
theorem noneS_any {p : ByteArray → Bool} {L : List ByteArray} (h : NoneS p L L.length) : L.any p = false := by
  rw [List.any_eq_false]
  intro x hx
  obtain ⟨i, hi, rfl⟩ := List.getElem_of_mem hx
  rw [st_get hi, h i hi]
  simp
theorem anyS_at {p : ByteArray → Bool} {L : List ByteArray} {k : Nat} (hk : k < L.length) (h : p (st L k) = true) : L.any p = true := by
  rw [List.any_eq_true]
  exact ⟨L[k], List.getElem_mem hk, by rw [st_get hk]; exact h⟩

/-- What the function value gives at a string. -/
def PredS (f : Nat) (p : ByteArray → Bool) : Prop := ∀ s W, s.size ≤ 140737488355328 → Calls Tryz.prog f #[.string s] W fun e W' => e = .returned (.bool (p s)) ∧ Grew W W'

theorem indexFuncS_c (v : Value) (L : List ByteArray) (f : Nat) (p : ByteArray → Bool) (w : World) (h : Strs w v L) (hfit : Fits L) (hf : PredS f p) (eg : ∀ args w, (callFunc f args).run Tryz.prog w = .ok (.enter f args) w) :
    Calls Tryz.prog 92 #[v, .func (.func f) #[] #[]] w fun e w' => ∃ r : Int, e = .returned (.int .i64 r) ∧ Grew w w' ∧ decide (0 ≤ r) = L.any p := by
  rcases h.open_ with ⟨rfl, rfl⟩ | ⟨b, o, c, rfl, hc, hm, hb, hcell⟩
  · rw [noneS_any (NoneS.zero _ _)]
    clear h hf hfit
    go_enter Tryz.func92, Tryz.ntmps92
    go_wp2_with fail
    refine wp_loop_rounds 1 ?_; rw [rounds_succ]
    go_wp2_with fail
    go_ret
    exact ⟨_, rfl, Grew.refl _, rfl⟩
  obtain ⟨R, hR⟩ : ∃ R, R = L.any p := ⟨_, rfl⟩
  rw [← hR]
  have HA := Lib.hid (fun k hk h => hR.trans (@anyS_at p L k hk h))
  have HZ := Lib.hid (fun h => hR.trans (@noneS_any p L h))
  have HC := Lib.hid hcell
  have HF := Lib.hid hf
  unfold Fits at hfit
  have HT := Lib.hid hfit
  clear hcell h hf hR hfit
  generalize hN : L.length = n at *
  clear hN
  go_enter Tryz.func92, Tryz.ntmps92
  go_wp2_with fail
  go_loopw [5, 8] (fun _ i wr => ∃ j : Nat, j ≤ n ∧ i = .int .i64 j ∧ Grew w wr ∧ Hid (NoneS p L j)) (fun _ i _ => n - (intOf i).toNat)
  case atStart => exact ⟨0, Nat.zero_le _, rfl, Grew.refl _, NoneS.zero _ _⟩
  case round =>
    obtain ⟨j, hj, rfl, hB, HJ⟩ := hrel
    by_cases hlt : j < n
    · have k1 := HC.out j hlt _ hB
      have hz := HT.out j hlt
      have hA := Lib.hid (HA.out j hlt)
      have hS := Lib.hid (fun h => HJ.out.succ (k := j) h)
      generalize st L j = x at *
      go_wp2_with fail
      go_at_fn f
      refine (HF.out x _ (by omega)).mono ?_
      rintro e w1 ⟨rfl, hg1⟩
      have hB1 := hB.trans hg1
      cases hp : p x with
      | true =>
        have hv := hA.out hp
        go_wp2_with fail
        go_ret
        exact ⟨_, rfl, hB1, by rw [hv]; simp⟩
      | false =>
        have hs := Lib.hid (hS.out hp)
        go_wp2_with fail
        go_roundw
        case rel => exact ⟨j + 1, by omega, by go_num, hB1, hs⟩
        case measure => simp [intOf]; omega
    · obtain rfl : j = n := by omega
      have hv := Lib.hid (HZ.out HJ.out)
      go_wp2_with fail
      go_ret
      exact ⟨_, rfl, hB, by rw [hv.out]; rfl⟩

theorem containsFuncS_c (v : Value) (L : List ByteArray) (f : Nat) (p : ByteArray → Bool) (w : World) (h : Strs w v L) (hfit : Fits L) (hf : PredS f p) (eg : ∀ args w, (callFunc f args).run Tryz.prog w = .ok (.enter f args) w) :
    Calls Tryz.prog 56 #[v, .func (.func f) #[] #[]] w fun e w' => e = .returned (.bool (L.any p)) ∧ Grew w w' := by
  have HI := Lib.hid (indexFuncS_c v L f p w h hfit hf eg)
  clear h hf eg hfit
  generalize L.any p = R at *
  go_enter Tryz.func56, Tryz.ntmps56
  go_wp2_with fail
  refine HI.out.mono ?_
  rintro e w1 ⟨r, rfl, hg1, hr⟩
  go_wp2_with fail
  go_ret
  exact ⟨by rw [← hr]; rfl, hg1⟩
end Go.Proofs.YtfpkfgimhanekaaGreat

/- A predicate on strings: IndexFunc, ContainsFunc; assumption lists: isAssumptionList of the program, l25List of the reference. -/
namespace Go.Proofs.YtfpkfgimhanekaaGreat
open Go.RowKit

/-- Is it an assumption list? -/
noncomputable def asl (L : List ByteArray) : Bool := decide (L.length ≤ 12) && !L.any fun s => !gp s
theorem asl_map {L : List ByteArray} (h : asl L = true) : L.length ≤ 12 ∧ ∀ s ∈ L, gp s = true := by
  unfold asl at h
  simp only [Bool.and_eq_true, decide_eq_true_eq, Bool.not_eq_true', List.any_eq_false] at h
  exact ⟨h.1, fun s hs => by simpa using h.2 s hs⟩

theorem isAssumptionList1_ok : PredS 57 (fun s => !gp s) := by
  intro s w hs
  have HP := Lib.hid (fun w => isPlainText_c s w hs)
  show Calls _ _ _ _ (fun e W' => e = .returned (.bool (!gp s)) ∧ Grew w W')
  generalize gp s = q at *
  go_enter Tryz.func57, Tryz.ntmps57
  go_wp2_with fail
  refine (HP.out _).mono ?_
  rintro e w1 ⟨rfl, hg1⟩
  go_wp2_with fail
  go_ret
  exact ⟨rfl, hg1⟩

theorem isAssumptionList_c (v : Value) (L : List ByteArray) (w : World) (h : Strs w v L) (hfit : Fits L) :
    Calls Tryz.prog 32 #[v] w fun e w' => e = .returned (.bool (asl L)) ∧ Grew w w' := by
  unfold asl
  have HC := Lib.hid (fun w h => containsFuncS_c v L _ _ w h hfit isAssumptionList1_ok (enters_of Tryz.func57 (by kernel_rfl) rfl))
  obtain ⟨A, c, rfl⟩ := strs_slice h
  have HN := Lib.hid h
  clear h hfit
  by_cases hl : L.length ≤ 12
  · rw [decide_eq_true hl, Bool.true_and]
    generalize (L.any fun s => !gp s) = q at *
    generalize L.length = n at *
    go_enter Tryz.func32, Tryz.ntmps32
    go_wp2_with fail
    refine (HC.out _ HN.out).mono ?_
    rintro e w1 ⟨rfl, hg1⟩
    go_wp2_with fail
    go_ret
    exact ⟨rfl, hg1⟩
  · rw [decide_eq_false hl, Bool.false_and]
    clear HC HN
    generalize L.length = n at *
    go_enter Tryz.func32, Tryz.ntmps32
    go_wp2_with fail
    go_ret
    exact ⟨rfl, Grew.refl _⟩

theorem l25List_c (v : Value) (L : List ByteArray) (w : World) (h : Strs w v L) (hfit : Fits L) :
    Calls Tryz.prog 27 #[v] w fun e w' => e = .returned (.bool (asl L)) ∧ Grew w w' := by
  unfold asl
  rcases h.open_ with ⟨rfl, rfl⟩ | ⟨b, o, c, rfl, hc, hm, hb, hcell⟩
  · clear h hfit
    go_enter Tryz.func27, Tryz.ntmps27
    go_wp2_with fail
    refine wp_loop_rounds 1 ?_; rw [rounds_succ]
    go_wp2_with fail
    go_ret
    exact ⟨rfl, Grew.refl _⟩
  by_cases hl : L.length ≤ 12
  · rw [decide_eq_true hl, Bool.true_and]
    obtain ⟨R, hR⟩ : ∃ R, R = (L.any fun s => !gp s) := ⟨_, rfl⟩
    rw [← hR]
    have HA := Lib.hid (fun k hk h => hR.trans (@anyS_at (fun s => !gp s) L k hk h))
    have HZ := Lib.hid (fun h => hR.trans (@noneS_any (fun s => !gp s) L h))
    have HC := Lib.hid hcell
    unfold Fits at hfit
    have HT := Lib.hid hfit
    clear hcell h hR hfit
    generalize hN : L.length = n at *
    clear hN
    go_enter Tryz.func27, Tryz.ntmps27
    go_wp2_with fail
    go_loopw [3] (fun i wr => ∃ j : Nat, j ≤ n ∧ i = .int .i64 j ∧ Grew w wr ∧ Hid (NoneS (fun s => !gp s) L j)) (fun i _ => n - (intOf i).toNat)
    case atStart => exact ⟨0, Nat.zero_le _, rfl, Grew.refl _, NoneS.zero _ _⟩
    case round =>
      obtain ⟨j, hj, rfl, hB, HJ⟩ := hrel
      by_cases hlt : j < n
      · have k1 := HC.out j hlt _ hB
        have hz := HT.out j hlt
        have hA := Lib.hid (HA.out j hlt)
        have hS := Lib.hid (fun h => HJ.out.succ (k := j) h)
        have HF := Lib.hid (fun w => l25Formula_c (st L j) w (by omega))
        unfold GivesP at HF
        generalize st L j = x at *
        generalize (Fm.pf x).1 = xs at *
        cases hp : gp x with
        | true =>
          rw [hp] at HF
          have hs := Lib.hid (hS.out (by simp [hp]))
          clear hp
          go_wp2_with fail
          refine (HF.out _).mono ?_
          rintro e w1 ⟨u, rfl, ho1, hg1⟩
          have hB1 := hB.trans hg1
          go_wp2_with fail
          go_roundw
          case rel => exact ⟨j + 1, by omega, by go_num, hB1, hs⟩
          case measure => simp [intOf]; omega
        | false =>
          rw [hp] at HF
          have hv := Lib.hid (hA.out (by simp [hp]))
          clear hp
          go_wp2_with fail
          refine (HF.out _).mono ?_
          rintro e w1 ⟨u, rfl, ho1, hg1⟩
          have hB1 := hB.trans hg1
          go_wp2_with fail
          go_ret
          exact ⟨by rw [hv.out]; rfl, hB1⟩
      · obtain rfl : j = n := by omega
        have hv := Lib.hid (HZ.out HJ.out)
        go_wp2_with fail
        go_ret
        exact ⟨by rw [hv.out]; rfl, hB⟩
  · rw [decide_eq_false hl, Bool.false_and]
    clear hcell h hfit
    generalize L.length = n at *
    go_enter Tryz.func27, Tryz.ntmps27
    go_wp2_with fail
    go_ret
    exact ⟨rfl, Grew.refl _⟩
end Go.Proofs.YtfpkfgimhanekaaGreat

/- What TypeOfTerm answers. -/
namespace Go.Proofs.YtfpkfgimhanekaaGreat
open Go.RowKit
open Tr (Tm)

/-- The type of a term, or a code. -/
noncomputable def ttF (L : List ByteArray) (xs : List Tn) : ByteArray × Int := if asl L && tmB xs then (match ty (L.map fo) (tmT xs) with | some A => (tx A, 0) | none => (ByteArray.empty, 5)) else (ByteArray.empty, 1)
def GivesSI (w : World) (r : ByteArray × Int) (e : Ending) (w' : World) : Prop := e = .returned (.tuple #[.string r.1, .int .i64 r.2]) ∧ Grew w w'
theorem asl_ok {L : List ByteArray} (h : asl L = true) : (L.map fo).length ≤ 12 ∧ (∀ A ∈ L.map fo, FmOk A) ∧ (L.map fo).map tx = L := by
  obtain ⟨h1, h2⟩ := asl_map h
  refine ⟨by simpa using h1, fun A hA => ?_, ?_⟩
  · rw [List.mem_map] at hA
    obtain ⟨s, hs, rfl⟩ := hA
    exact (fo_ok (h2 s hs)).1
  · rw [List.map_map]
    conv => rhs; rw [← List.map_id L]
    apply List.map_congr_left
    intro s hs
    exact (fo_ok (h2 s hs)).2
end Go.Proofs.YtfpkfgimhanekaaGreat

/- normalTerm of the program, the loop of l26Normal of the reference. -/
namespace Go.Proofs.YtfpkfgimhanekaaGreat
open Go.RowKit
open Tr (Tm)

/-- limitedTerm at a list that reads. -/
def LimR (w : World) (xs : List Tn) (e : Ending) (w' : World) : Prop := ∃ u, e = .returned (.tuple #[u, .int .i64 (limT xs).2]) ∧ Tms w' u (limT xs).1 ∧ Grew w w'
theorem limitedTerm_r (v : Value) (xs : List Tn) (w : World) (h : Tms w v xs) (hfit : FitsT xs) (hn : xs.length ≤ 1048576) :
    Calls Tryz.prog 65 #[v] w (LimR w xs) := by
  unfold LimR limT
  have HC := fun w h => containsFuncT_c v xs _ _ w h hfit limitedTerm1_ok (enters_of Tryz.func100 (by kernel_rfl) rfl)
  obtain ⟨A, c, rfl⟩ := tms_slice h
  have HN := Lib.hid h
  clear h hfit
  by_cases hl : 60 < xs.length
  · rw [decide_eq_true hl, Bool.true_or, if_pos rfl]
    clear HC HN
    generalize xs.length = n at *
    go_enter Tryz.func65, Tryz.ntmps65
    go_wp2_with fail
    go_ret2
    exact ⟨.slice none 0 0, rfl, Tms.nil_ _, Grew.refl _⟩
  · rw [decide_eq_false hl, Bool.false_or]
    cases hq : anyT bigT xs with
    | true =>
      rw [if_pos rfl]
      rw [hq] at HC
      replace HC := Lib.hid HC
      clear hq
      generalize xs.length = n at *
      go_enter Tryz.func65, Tryz.ntmps65
      go_wp2_with fail
      refine (HC.out _ HN.out).mono ?_
      rintro e w1 ⟨rfl, hg1⟩
      go_wp2_with fail
      go_ret2
      exact ⟨.slice none 0 0, rfl, Tms.nil_ _, hg1⟩
    | false =>
      rw [if_neg (by simp)]
      rw [hq] at HC
      replace HC := Lib.hid HC
      clear hq
      generalize xs.length = n at *
      go_enter Tryz.func65, Tryz.ntmps65
      go_wp2_with fail
      refine (HC.out _ HN.out).mono ?_
      rintro e w1 ⟨rfl, hg1⟩
      go_wp2_with fail
      go_ret2
      exact ⟨_, rfl, HN.out.grew hg1, hg1⟩

/-- A normal term, the number of contractions and a code. -/
def GivesNr (w : World) (r : List Tn × Int × Int) (e : Ending) (w' : World) : Prop := ∃ u, e = .returned (.tuple #[u, .int .i64 r.2.1, .int .i64 r.2.2]) ∧ Tms w' u r.1 ∧ Grew w w'
def GivesNo (w : World) (r : List Tn × Int × Int) (e : Ending) (w' : World) : Prop := ∃ u, e = .returned (.tuple #[u, .int .i64 r.2.1, .int .i64 r.2.2]) ∧ OwnT w' w.heap.size u r.1 ∧ Grew w w'
theorem ints_head {w : World} {v : Value} {i : Int} {L : List Int} (h : Ints w v (i :: L)) : ∃ b o c, v = .slice (some ⟨b, o, none⟩) (L.length + 1) c ∧ L.length + 1 ≤ c ∧ ∀ W, Grew w W → W.cell? ⟨b, o, none⟩ = some (.int .i64 i) := by
  rcases h.open_ with ⟨_, h0⟩ | ⟨b, o, c, rfl, hc, hm, hb, hf⟩
  · cases h0
  · exact ⟨b, o, c, rfl, hc, fun W hW => by simpa [it] using hf 0 (by simp) W hW⟩

/-- The state of the loop. -/
def NrSt (n : Int) (R : List Tn × Int × Int) (cn : Nat) (s : Tm) : Prop := Good s ∧ (Tr.enc s).length ≤ 60 ∧ ∃ k, cn + k = 200 ∧ nrm k s n = R
theorem NrSt.done {n : Int} {R : List Tn × Int × Int} {cn : Nat} {s : Tm} (h : NrSt n R cn s) (hL : redL (Tr.enc s) (Tr.enc s).length = []) : R = (Tr.enc s, (cn : Int), 0) := by
  obtain ⟨_, _, k, hk, rfl⟩ := h
  rw [nrm_done hL]
  have e : 200 - (k : Int) = cn := by omega
  rw [e]
theorem NrSt.stop {n : Int} {R : List Tn × Int × Int} {s : Tm} {i : Int} {L : List Int} (h : NrSt n R 200 s) (hL : redL (Tr.enc s) (Tr.enc s).length = i :: L) : R = ([], 0, 3) := by
  obtain ⟨_, _, k, hk, rfl⟩ := h
  obtain rfl : k = 0 := by omega
  rw [nrm_stop hL]
theorem NrSt.big {n : Int} {R : List Tn × Int × Int} {cn : Nat} {s : Tm} {i : Int} {L : List Int} (h : NrSt n R cn s) (hL : redL (Tr.enc s) (Tr.enc s).length = i :: L) (hb : ¬ (limT (ctAt s n i.toNat)).2 = 0) : R = ([], 0, 3) := by
  obtain ⟨_, _, k, hk, rfl⟩ := h
  rw [nrm_big hL hb]
theorem NrSt.next {n : Int} {R : List Tn × Int × Int} {cn : Nat} {s : Tm} {i : Nat} {L : List Int} (h : NrSt n R cn s) (hn : 0 ≤ n) (hc : cn < 200) (hr : rdxAt (Tr.enc s) i = true) (hL : redL (Tr.enc s) (Tr.enc s).length = (i : Int) :: L) (hb : (limT (ctAt s n i)).2 = 0) : NrSt n R (cn + 1) (ctT s n i) ∧ (limT (ctAt s n i)).1 = Tr.enc (ctT s n i) := by
  obtain ⟨h1, h2, k, hk, rfl⟩ := h
  obtain ⟨g1, g2, g3, g4⟩ := ct_good hn h1 hr hb
  obtain ⟨k', rfl⟩ : ∃ k', k = k' + 1 := ⟨k - 1, by omega⟩
  refine ⟨⟨g1, by rw [g2]; exact g3, k', by omega, ?_⟩, by rw [g2, g4]⟩
  rw [nrm_step hL (by rw [Int.toNat_natCast]; exact hb), Int.toNat_natCast]
theorem NrSt.head {n : Int} {R : List Tn × Int × Int} {cn : Nat} {s : Tm} (h : NrSt n R cn s) : redL (Tr.enc s) (Tr.enc s).length = [] ∨ ∃ (i : Nat) (L : List Int), redL (Tr.enc s) (Tr.enc s).length = (i : Int) :: L ∧ rdxAt (Tr.enc s) i = true := by
  cases hL : redL (Tr.enc s) (Tr.enc s).length with
  | nil => exact .inl rfl
  | cons x L =>
    obtain ⟨i, rfl, _, hr⟩ := redL_mem (xs := Tr.enc s) (j := (Tr.enc s).length) (x := x) (by rw [hL]; simp)
    exact .inr ⟨i, L, rfl, hr⟩

set_option maxHeartbeats 1000000 in
theorem normalTerm_c (v : Value) (t : Tm) (n : Int) (w : World) (h : Tms w v (Tr.enc t)) (hg : Good t) (hlen : (Tr.enc t).length ≤ 60) (hn0 : 0 ≤ n) (hn1 : n ≤ 12) :
    Calls Tryz.prog 34 #[v, .int .i64 n] w (GivesNr w (nrm 200 t n)) := by
  have KC := Lib.hid (cloneT_c v (Tr.enc t) w h (by omega))
  have HST : Hid (NrSt n (nrm 200 t n) 0 t) := Lib.hid ⟨hg, hlen, 200, rfl, rfl⟩
  have HE := Lib.hid (fun u r w' (h : nrm 200 t n = r) (h1 : Tms w' u r.1) (h2 : Grew w w') => (⟨u, by rw [h], by rw [h]; exact h1, h2⟩ : GivesNr w (nrm 200 t n) (.returned (.tuple #[u, .int .i64 r.2.1, .int .i64 r.2.2])) w'))
  obtain ⟨A, c, rfl⟩ := tms_slice h
  clear h hg hlen
  generalize nrm 200 t n = R at *
  go_enter Tryz.func34, Tryz.ntmps34
  go_wp2_with fail
  refine KC.out.mono ?_
  rintro e w1 ⟨u, rfl, ho, hg1⟩
  have HO := Lib.hid ho.tms
  clear ho KC
  go_wp2_with fail
  go_loopw [0, 7, 8, 9, 10] (fun vt cc _ _ _ wr => ∃ (cn : Nat) (s : Tm), cn ≤ 200 ∧ cc = .int .i64 cn ∧ Grew w wr ∧ Hid (Tms wr vt (Tr.enc s)) ∧ Hid (NrSt n R cn s)) (fun _ cc _ _ _ _ => 201 - (intOf cc).toNat)
  case atStart => exact ⟨0, t, by omega, rfl, hg1, HO.out, HST.out⟩
  case round =>
    clear HO HST
    obtain ⟨cn, s, hcn, rfl, hB, HT, HS⟩ := hrel
    have KR := Lib.hid (fun W (hW : Grew wr W) => redexes_c u0 (Tr.enc s) W (HT.out.grew hW) (by have := HS.out.2.1; omega))
    rcases HS.out.head with hL | ⟨i, L, hL, hr⟩
    · have hv := Lib.hid (HS.out.done hL)
      rw [hL] at KR
      clear hL
      go_wp2_with fail
      refine (KR.out _ (Grew.refl wr)).mono ?_
      rintro e w2 ⟨u2, rfl, ho2, hg2⟩
      obtain ⟨A2, c2, rfl⟩ := ints_slice ho2.ints
      clear ho2
      go_wp2_with fail
      go_ret3
      exact HE.out _ _ _ hv.out (HT.out.grew hg2) (hB.trans hg2)
    · have KA := Lib.hid (fun W (hW : Grew wr W) => contractAt_c s HS.out.1 u0 n i W (HT.out.grew hW) hr HS.out.2.1 hn0 (by have := HS.out.2.1; omega))
      have KL := Lib.hid (fun q W (hq : Tms W q (ctAt s n i)) => limitedTerm_r q (ctAt s n i) W hq (ctAt_fits HS.out.1 hr (good_fits HS.out.1)) (by have h1 := ctAt_len (M := 60) s HS.out.1 n i hr HS.out.2.1; have h2 := Nat.mul_le_mul_right 61 HS.out.2.1; omega))
      unfold LimR at KL
      have hBig := Lib.hid (fun hb => HS.out.big hL hb)
      have hStop := Lib.hid (fun (h : cn = 200) => (by subst h; exact HS.out.stop hL : R = ([], 0, 3)))
      have hNext := Lib.hid (fun hc hb => HS.out.next hn0 hc hr hL hb)
      rw [Int.toNat_natCast] at hBig
      rw [hL] at KR
      clear hL hr
      by_cases hb : (limT (ctAt s n i)).2 = 0
      · by_cases hc : cn < 200
        · have hnx := Lib.hid (hNext.out hc hb)
          have hc2 : ((cn : Int) == 200) = false := by simp; omega
          rw [hb] at KL
          clear hBig hStop hNext hb
          generalize limT (ctAt s n i) = X at *
          go_wp2_with fail
          refine (KR.out _ (Grew.refl wr)).mono ?_
          rintro e w2 ⟨u2, rfl, ho2, hg2⟩
          obtain ⟨b2, o2, c2, rfl, hc3, k2⟩ := ints_head ho2.ints
          clear ho2
          have r2 := Grew.refl w2
          go_wp2_with fail
          refine (KA.out _ hg2).mono ?_
          rintro e w3 ⟨q, rfl, hq, hg3⟩
          have HQ := Lib.hid hq
          clear hq
          go_wp2_with fail
          refine (KL.out _ _ HQ.out).mono ?_
          rintro e w4 ⟨u4, rfl, hu4, hg4⟩
          have HU4 := Lib.hid hu4
          clear hu4
          go_wp2_with fail
          go_roundw
          case rel => exact ⟨cn + 1, ctT s n i, by omega, by go_num, ((hB.trans hg2).trans hg3).trans hg4, by rw [← hnx.out.2]; exact HU4.out, hnx.out.1⟩
          case measure => simp [intOf]; omega
        · obtain rfl : cn = 200 := by omega
          have hv := Lib.hid (hStop.out rfl)
          rw [hb] at KL
          clear hBig hStop hNext hb
          generalize limT (ctAt s n i) = X at *
          go_wp2_with fail
          refine (KR.out _ (Grew.refl wr)).mono ?_
          rintro e w2 ⟨u2, rfl, ho2, hg2⟩
          obtain ⟨b2, o2, c2, rfl, hc3, k2⟩ := ints_head ho2.ints
          clear ho2
          have r2 := Grew.refl w2
          go_wp2_with fail
          refine (KA.out _ hg2).mono ?_
          rintro e w3 ⟨q, rfl, hq, hg3⟩
          have HQ := Lib.hid hq
          clear hq
          go_wp2_with fail
          refine (KL.out _ _ HQ.out).mono ?_
          rintro e w4 ⟨u4, rfl, hu4, hg4⟩
          clear hu4
          go_wp2_with fail
          go_ret3
          exact HE.out _ _ _ hv.out (Tms.nil_ _) (((hB.trans hg2).trans hg3).trans hg4)
      · have hv := Lib.hid (hBig.out hb)
        have h3 : (limT (ctAt s n i)).2 = 3 := by
          rcases limT_code (ctAt s n i) with h | h
          · exact absurd h hb
          · rw [h]
        rw [h3] at KL
        clear hBig hStop hNext hb h3
        generalize limT (ctAt s n i) = X at *
        go_wp2_with fail
        refine (KR.out _ (Grew.refl wr)).mono ?_
        rintro e w2 ⟨u2, rfl, ho2, hg2⟩
        obtain ⟨b2, o2, c2, rfl, hc3, k2⟩ := ints_head ho2.ints
        clear ho2
        have r2 := Grew.refl w2
        go_wp2_with fail
        refine (KA.out _ hg2).mono ?_
        rintro e w3 ⟨q, rfl, hq, hg3⟩
        have HQ := Lib.hid hq
        clear hq
        go_wp2_with fail
        refine (KL.out _ _ HQ.out).mono ?_
        rintro e w4 ⟨u4, rfl, hu4, hg4⟩
        clear hu4
        go_wp2_with fail
        go_ret3
        exact HE.out _ _ _ hv.out (Tms.nil_ _) (((hB.trans hg2).trans hg3).trans hg4)
end Go.Proofs.YtfpkfgimhanekaaGreat

/- l26Normal of the reference. -/
namespace Go.Proofs.YtfpkfgimhanekaaGreat
open Go.RowKit
open Tr (Tm)

/-- The normal term of a term with a type, the number of contractions, a code. -/
noncomputable def nfF (L : List ByteArray) (xs : List Tn) : List Tn × Int × Int := if asl L && tmB xs then (match ty (L.map fo) (tmT xs) with | some _ => nrm 200 (tmT xs) L.length | none => ([], 0, 5)) else ([], 0, 1)

set_option maxHeartbeats 2000000 in
theorem l26Normal_c (va : Value) (L : List ByteArray) (vt : Value) (xs : List Tn) (w : World) (hs : Strs w va L) (ht : Tms w vt xs) (f0 : Fits L) (n0 : L.length ≤ 1048576) (f1 : FitsT xs) (n1 : xs.length ≤ 1048576) :
    Calls Tryz.prog 29 #[va, vt] w (GivesNo w (nfF L xs)) := by
  have KT := fun W (hW : Grew w W) => l26Is_c vt xs W (ht.grew hW) f1 n1
  have KA := fun W (hW : Grew w W) => l25List_c va L W (hs.grew hW) f0
  have KY := fun (ha : asl L = true) (hb : tmB xs = true) W (hW : Grew w W) => l26Type_c (tmT xs) (tmT_ok hb).1 (by rw [(tmT_ok hb).2.1]; exact (tmT_ok hb).2.2) (L.map fo) (asl_ok ha).2.1 (asl_ok ha).1 va vt W (by rw [(asl_ok ha).2.2]; exact hs.grew hW) (by rw [(tmT_ok hb).2.1]; exact ht.grew hW)
  have hST : asl L = true → tmB xs = true → NrSt (L.length : Int) (nrm 200 (tmT xs) L.length) 0 (tmT xs) := fun ha hb => ⟨(tmT_ok hb).1, by rw [(tmT_ok hb).2.1]; exact (tmT_ok hb).2.2, 200, rfl, rfl⟩
  have hEn : tmB xs = true → Tr.enc (tmT xs) = xs := fun hb => (tmT_ok hb).2.1
  have hL12 : asl L = true → L.length ≤ 12 := fun ha => (asl_map ha).1
  unfold nfF
  obtain ⟨A, c, rfl⟩ := strs_slice hs
  have HTT := Lib.hid ht
  obtain ⟨B, d, rfl⟩ := tms_slice ht
  clear hs ht f0 f1
  generalize ty (L.map fo) (tmT xs) = R at *
  generalize nrm 200 (tmT xs) L.length = RR at *
  generalize hgl : L.length = gl at *
  clear hgl
  generalize asl L = qa at *
  generalize tmB xs = qb at *
  have r0 := Grew.refl w
  cases qa with
  | false =>
    rw [Bool.false_and, if_neg (by simp)]
    replace KA := Lib.hid KA
    clear KT KY hST hEn hL12 HTT
    generalize xs.length = gn at *
    go_enter Tryz.func29, Tryz.ntmps29
    go_wp2_with fail
    refine (KA.out _ r0).mono ?_
    rintro e w1 ⟨rfl, hg1⟩
    go_wp2_with fail
    go_ret3
    exact ⟨.slice none 0 0, rfl, OwnT.nil_ _ _, hg1⟩
  | true =>
    cases qb with
    | false =>
      rw [Bool.true_and, if_neg (by simp)]
      replace KT := Lib.hid KT
      replace KA := Lib.hid KA
      clear KY hST hEn hL12 HTT
      generalize xs.length = gn at *
      go_enter Tryz.func29, Tryz.ntmps29
      go_wp2_with fail
      refine (KA.out _ r0).mono ?_
      rintro e w1 ⟨rfl, hg1⟩
      go_wp2_with fail
      refine (KT.out _ hg1).mono ?_
      rintro e w2 ⟨rfl, hg2⟩
      go_wp2_with fail
      go_ret3
      exact ⟨.slice none 0 0, rfl, OwnT.nil_ _ _, hg1.trans hg2⟩
    | true =>
      rw [Bool.and_true, if_pos rfl]
      replace KY := KY rfl rfl
      have HST := Lib.hid (hST rfl rfl)
      have HEN := Lib.hid (hEn rfl)
      have hgl12 := hL12 rfl
      clear hST hEn hL12
      replace KT := Lib.hid KT
      replace KA := Lib.hid KA
      cases R with
      | none =>
        change Calls _ _ _ _ (GivesNo w ([], 0, 5))
        rw [show otx none = ByteArray.empty from rfl] at KY
        replace KY := Lib.hid KY
        clear HTT HST HEN
        generalize xs.length = gn at *
        go_enter Tryz.func29, Tryz.ntmps29
        go_wp2_with fail
        refine (KA.out _ r0).mono ?_
        rintro e w1 ⟨rfl, hg1⟩
        go_wp2_with fail
        refine (KT.out _ hg1).mono ?_
        rintro e w2 ⟨rfl, hg2⟩
        have g2 := hg1.trans hg2
        go_wp2_with fail
        refine (KY.out _ g2).mono ?_
        rintro e w3 ⟨rfl, hg3⟩
        go_wp2_with fail
        go_ret3
        exact ⟨.slice none 0 0, rfl, OwnT.nil_ _ _, g2.trans hg3⟩
      | some T =>
        have hne := tx_ne T
        change Calls _ _ _ _ (GivesNo w RR)
        rw [show otx (some T) = tx T from rfl] at KY
        replace KY := Lib.hid KY
        generalize tx T = s at *
        have HE := Lib.hid (fun u r w' (h : RR = r) (h1 : OwnT w' w.heap.size u r.1) (h2 : Grew w w') => (⟨u, by rw [h], by rw [h]; exact h1, h2⟩ : GivesNo w RR (.returned (.tuple #[u, .int .i64 r.2.1, .int .i64 r.2.2])) w'))
        go_enter Tryz.func29, Tryz.ntmps29
        go_wp2_with fail
        refine (KA.out _ r0).mono ?_
        rintro e w1 ⟨rfl, hg1⟩
        go_wp2_with fail
        refine (KT.out _ hg1).mono ?_
        rintro e w2 ⟨rfl, hg2⟩
        have g2 := hg1.trans hg2
        go_wp2_with fail
        refine (KY.out _ g2).mono ?_
        rintro e w3 ⟨rfl, hg3⟩
        have g3 := g2.trans hg3
        have he : OwnT (w3.alloc (.cells #[] 45)) w.heap.size (.slice (some ⟨w3.heap.size, 0, none⟩) 0 0) [] := (own_emptyT w3).base g3.size
        have hl60 : xs.length ≤ 60 := by have := HST.out.2.1; rw [HEN.out] at this; exact this
        go_wp2_with (first | (at_builtin; refine wpList_appT (w0 := w) _ _ rfl rfl _ [] rfl he (g3.alloc _) _ xs rfl (HTT.out.grew (g3.alloc _)) (by simp; omega) ?_; intro u4 w4 ho4 hg4 _))
        rw [List.nil_append] at ho4
        have HO : Hid (OwnT w4 w.heap.size u4 (Tr.enc (tmT xs))) := Lib.hid (by rw [HEN.out]; exact ho4)
        clear ho4 he KA KT KY
        generalize tmT xs = t at *
        go_wp2_with fail
        go_loopw [7, 8, 9, 10, 11] (fun vt cc _ _ _ wr => ∃ (cn : Nat) (s : Tm), cn ≤ 200 ∧ cc = .int .i64 cn ∧ Grew w wr ∧ Hid (OwnT wr w.heap.size vt (Tr.enc s)) ∧ Hid (NrSt (gl : Int) RR cn s)) (fun _ cc _ _ _ _ => 201 - (intOf cc).toNat)
        case atStart => exact ⟨0, t, by omega, rfl, hg4, HO.out, HST.out⟩
        case round =>
          clear HO HST HEN HTT
          obtain ⟨cn, s, hcn, rfl, hB, HT, HS⟩ := hrel
          have KR := Lib.hid (fun W (hW : Grew wr W) => l26Redexes_c u7 (Tr.enc s) W (HT.out.tms.grew hW) (by have := HS.out.2.1; omega))
          rcases HS.out.head with hL | ⟨i, L, hL, hr⟩
          · have hv := Lib.hid (HS.out.done hL)
            rw [hL] at KR
            clear hL
            go_wp2_with fail
            refine (KR.out _ (Grew.refl wr)).mono ?_
            rintro e w2 ⟨u2, rfl, ho2, hg2⟩
            obtain ⟨A2, c2, rfl⟩ := ints_slice ho2.ints
            clear ho2
            go_wp2_with fail
            go_ret3
            exact HE.out _ _ _ hv.out (HT.out.grew hg2) (hB.trans hg2)
          · have KA := Lib.hid (fun W (hW : Grew wr W) => l26At_c s HS.out.1 u7 gl i W (HT.out.tms.grew hW) hr HS.out.2.1 (by omega) (by have := HS.out.2.1; omega))
            have KL := Lib.hid (fun q W B (hq : OwnT W B q (ctAt s gl i)) => l26Made_c q (ctAt s gl i) W B hq (by have h1 := ctAt_len (M := 60) s HS.out.1 gl i hr HS.out.2.1; have h2 := Nat.mul_le_mul_right 61 HS.out.2.1; omega))
            unfold LimG at KL
            have hBig := Lib.hid (fun hb => HS.out.big hL hb)
            have hStop := Lib.hid (fun (h : cn = 200) => (by subst h; exact HS.out.stop hL : RR = ([], 0, 3)))
            have hNext := Lib.hid (fun hc hb => HS.out.next (by omega) hc hr hL hb)
            rw [Int.toNat_natCast] at hBig
            rw [hL] at KR
            clear hL hr
            by_cases hb : (limT (ctAt s gl i)).2 = 0
            · by_cases hc : cn < 200
              · have hnx := Lib.hid (hNext.out hc hb)
                have hc2 : ((cn : Int) == 200) = false := by simp; omega
                rw [hb] at KL
                clear hBig hStop hNext hb
                generalize limT (ctAt s gl i) = X at *
                go_wp2_with fail
                refine (KR.out _ (Grew.refl wr)).mono ?_
                rintro e w2 ⟨u2, rfl, ho2, hg2⟩
                obtain ⟨b2, o2, c2, rfl, hc3, k2⟩ := ints_head ho2.ints
                clear ho2
                have r2 := Grew.refl w2
                go_wp2_with fail
                refine (KA.out _ hg2).mono ?_
                rintro e w3 ⟨q, rfl, hq, hg3⟩
                have HQ := Lib.hid hq
                clear hq
                go_wp2_with fail
                refine (KL.out _ _ _ HQ.out).mono ?_
                rintro e w4 ⟨u4, rfl, hu4, hg4⟩
                have HU4 := Lib.hid hu4
                clear hu4
                go_wp2_with fail
                go_roundw
                case rel => exact ⟨cn + 1, ctT s gl i, by omega, by go_num, ((hB.trans hg2).trans hg3).trans hg4, by rw [← hnx.out.2]; exact HU4.out.base ((hB.trans hg2).size), hnx.out.1⟩
                case measure => simp [intOf]; omega
              · obtain rfl : cn = 200 := by omega
                have hv := Lib.hid (hStop.out rfl)
                rw [hb] at KL
                clear hBig hStop hNext hb
                generalize limT (ctAt s gl i) = X at *
                go_wp2_with fail
                refine (KR.out _ (Grew.refl wr)).mono ?_
                rintro e w2 ⟨u2, rfl, ho2, hg2⟩
                obtain ⟨b2, o2, c2, rfl, hc3, k2⟩ := ints_head ho2.ints
                clear ho2
                have r2 := Grew.refl w2
                go_wp2_with fail
                refine (KA.out _ hg2).mono ?_
                rintro e w3 ⟨q, rfl, hq, hg3⟩
                have HQ := Lib.hid hq
                clear hq
                go_wp2_with fail
                refine (KL.out _ _ _ HQ.out).mono ?_
                rintro e w4 ⟨u4, rfl, hu4, hg4⟩
                clear hu4
                go_wp2_with fail
                go_ret3
                exact HE.out _ _ _ hv.out (OwnT.nil_ _ _) (((hB.trans hg2).trans hg3).trans hg4)
            · have hv := Lib.hid (hBig.out hb)
              have h3 : (limT (ctAt s gl i)).2 = 3 := by
                rcases limT_code (ctAt s gl i) with h | h
                · exact absurd h hb
                · rw [h]
              rw [h3] at KL
              clear hBig hStop hNext hb h3
              generalize limT (ctAt s gl i) = X at *
              go_wp2_with fail
              refine (KR.out _ (Grew.refl wr)).mono ?_
              rintro e w2 ⟨u2, rfl, ho2, hg2⟩
              obtain ⟨b2, o2, c2, rfl, hc3, k2⟩ := ints_head ho2.ints
              clear ho2
              have r2 := Grew.refl w2
              go_wp2_with fail
              refine (KA.out _ hg2).mono ?_
              rintro e w3 ⟨q, rfl, hq, hg3⟩
              have HQ := Lib.hid hq
              clear hq
              go_wp2_with fail
              refine (KL.out _ _ _ HQ.out).mono ?_
              rintro e w4 ⟨u4, rfl, hu4, hg4⟩
              clear hu4
              go_wp2_with fail
              go_ret3
              exact HE.out _ _ _ hv.out (OwnT.nil_ _ _) (((hB.trans hg2).trans hg3).trans hg4)
end Go.Proofs.YtfpkfgimhanekaaGreat

/- What NormalTerm answers. -/
namespace Go.Proofs.YtfpkfgimhanekaaGreat
open Go.RowKit
open Tr (Tm)

theorem nfF_eq (L : List ByteArray) (xs : List Tn) : nfF L xs = if (ttF L xs).2 = 0 then nrm 200 (tmT xs) L.length else ([], 0, (ttF L xs).2) := by
  unfold nfF ttF
  split
  · cases ty (L.map fo) (tmT xs) with
    | none => rw [if_neg (by decide)]
    | some A => rw [if_pos rfl]
  · rw [if_neg (by decide)]
theorem ttF_ok {L : List ByteArray} {xs : List Tn} (h : (ttF L xs).2 = 0) : asl L = true ∧ tmB xs = true := by
  unfold ttF at h
  split at h
  · rename_i h1
    simpa using h1
  · cases h
theorem nfF_len (L : List ByteArray) (xs : List Tn) : (nfF L xs).1.length ≤ 1048576 := by
  rw [nfF_eq]
  split
  · rename_i h
    obtain ⟨h1, h2⟩ := ttF_ok h
    rcases nrm_tree (L.length : Int) (by omega) 200 (tmT xs) (tmT_ok h2).1 (by rw [(tmT_ok h2).2.1]; exact (tmT_ok h2).2.2) with ⟨_, u, _, h4, h5⟩ | h3
    · rw [← h4]; omega
    · rw [h3]; simp
  · simp
end Go.Proofs.YtfpkfgimhanekaaGreat

/- slices.Equal on lists of nodes of terms; lists of nodes of terms are equal where the terms are. -/
namespace Go.Proofs.YtfpkfgimhanekaaGreat
open Go.RowKit
open Tr (Tm)

/-- The first j nodes are the same. -/
def AgreeT (xs ys : List Tn) (k : Nat) : Prop := ∀ i, i < k → tk xs i = tk ys i ∧ tn xs i = tn ys i ∧ tt xs i = tt ys i
theorem AgreeT.zero (xs ys : List Tn) : AgreeT xs ys 0 := fun i hi => absurd hi (by omega)
theorem AgreeT.succ {xs ys : List Tn} {k : Nat} (h : AgreeT xs ys k) (h1 : tk xs k = tk ys k) (h2 : tn xs k = tn ys k) (h3 : tt xs k = tt ys k) : AgreeT xs ys (k + 1) := by
  intro i hi
  rcases Nat.lt_or_ge i k with hk | hk
  · exact h i hk
  · obtain rfl : i = k := by omega
    exact ⟨h1, h2, h3⟩
theorem agreeT_all {xs ys : List Tn} (hl : xs.length = ys.length) (h : AgreeT xs ys xs.length) : xs = ys := tn_ext hl h
theorem tnGuard : Tryz.prog.eqGuardType Tryz.prog.depth 45 = false := by kernel_rfl
theorem tnEq (a b : Int) (s : ByteArray) (c d : Int) (z : ByteArray) (w : World) : (Op.equalIn 10000 45 (.agg #[.int .i64 a, .int .i64 b, .string s]) (.agg #[.int .i64 c, .int .i64 d, .string z])).run Tryz.prog w = .ok (a == c && (b == d && s.toList == z.toList)) w := by
  have u2 := Tryz.underlying2
  have u3 := Tryz.underlying9
  have hS : Tryz.prog.underlying 45 = some (.struct (Tryz.prog.fieldsOf 45)) := by kernel_rfl
  have hp : Tryz.prog.stoodInHeld 45 = false := by kernel_rfl
  rw [show (10000 : Nat) = 9999 + 1 from rfl, run_equalIn_agg w 9999 45 _ _ hS hp]
  simp only [Program.fieldsOf, Tryz.underlying45]
  go_simp
  by_cases h1 : a = c <;> by_cases h2 : b = d <;> by_cases h3 : s.toList = z.toList <;> simp [h1, h2, h3]
theorem tnNeq (a b : Int) (s : ByteArray) (c d : Int) (z : ByteArray) (w : World) : (binOp .neq 45 (.agg #[.int .i64 a, .int .i64 b, .string s]) (.agg #[.int .i64 c, .int .i64 d, .string z])).run Tryz.prog w = .ok (.bool (!(a == c && (b == d && s.toList == z.toList)))) w := by
  rw [run_neq_struct, tnEq]; rfl

theorem equalT_c (v1 v2 : Value) (xs ys : List Tn) (w : World) (h1 : Tms w v1 xs) (h2 : Tms w v2 ys) (hn : xs.length ≤ 1099511627776) :
    Calls Tryz.prog 36 #[v1, v2] w fun e w' => e = .returned (.bool (decide (xs = ys))) ∧ Grew w w' := by
  by_cases hl : xs.length = ys.length
  · rcases h1.open_ with ⟨rfl, rfl⟩ | ⟨b1, o1, c1, rfl, hc1, hm1, hb1, hf⟩
    · obtain rfl : ys = [] := List.eq_nil_of_length_eq_zero (by simpa using hl.symm)
      obtain ⟨A, c, rfl⟩ := tms_slice h2
      simp only [List.length_nil]
      clear hl
      go_enter Tryz.func36, Tryz.ntmps36
      go_wp2_with fail
      refine wp_loop_rounds 1 ?_; rw [rounds_succ]
      go_wp2_with fail
      go_ret
      exact ⟨by simp, Grew.refl _⟩
    · rcases h2.open_ with ⟨rfl, rfl⟩ | ⟨b2, o2, c2, rfl, hc2, hm2, hb2, hh⟩
      · obtain rfl : xs = [] := List.eq_nil_of_length_eq_zero (by simpa using hl)
        simp only [List.length_nil]
        clear hl
        go_enter Tryz.func36, Tryz.ntmps36
        go_wp2_with fail
        refine wp_loop_rounds 1 ?_; rw [rounds_succ]
        go_wp2_with fail
        go_ret
        exact ⟨by simp, Grew.refl _⟩
      · clear h1 h2
        have HE := Lib.hid (fun h => agreeT_all hl h)
        rw [← hl] at hc2 hh ⊢
        have HF := Lib.hid hf
        have HH := Lib.hid hh
        have HX := Lib.hid (fun (h : xs = ys) (i : Nat) => (⟨by rw [h], by rw [h], by rw [h]⟩ : tk xs i = tk ys i ∧ tn xs i = tn ys i ∧ tt xs i = tt ys i))
        obtain ⟨D, hD⟩ : ∃ D, D = decide (xs = ys) := ⟨_, rfl⟩
        rw [← hD]
        have HD := Lib.hid hD
        clear hl hf hh hD
        generalize hN : xs.length = n at *
        clear hN
        go_enter Tryz.func36, Tryz.ntmps36
        go_wp2_with fail
        go_loopg [4, 13] n (fun k _ i wr => ∃ j : Nat, j ≤ n ∧ k = n - j ∧ i = .int .i64 j ∧ Grew w wr ∧ Hid (AgreeT xs ys j))
        case atStart => exact ⟨0, Nat.zero_le _, by omega, rfl, Grew.refl _, AgreeT.zero _ _⟩
        case round =>
          obtain ⟨j, hj, rfl, rfl, hB, HA⟩ := hrel
          by_cases hlt : j < n
          · have k1 : ∀ W, Grew w W → W.cell? ⟨b1, o1 + j * 3, none⟩ = some (.int .i64 (tk xs j)) := fun W hW => (HF.out j hlt W hW).1
            have k2 : ∀ W, Grew w W → W.cell? ⟨b1, o1 + j * 3 + 1, none⟩ = some (.int .i64 (tn xs j)) := fun W hW => (HF.out j hlt W hW).2.1
            have k5 : ∀ W, Grew w W → W.cell? ⟨b1, o1 + j * 3 + 2, none⟩ = some (.string (tt xs j)) := fun W hW => (HF.out j hlt W hW).2.2
            have k3 : ∀ W, Grew w W → W.cell? ⟨b2, o2 + j * 3, none⟩ = some (.int .i64 (tk ys j)) := fun W hW => (HH.out j hlt W hW).1
            have k4 : ∀ W, Grew w W → W.cell? ⟨b2, o2 + j * 3 + 1, none⟩ = some (.int .i64 (tn ys j)) := fun W hW => (HH.out j hlt W hW).2.1
            have k6 : ∀ W, Grew w W → W.cell? ⟨b2, o2 + j * 3 + 2, none⟩ = some (.string (tt ys j)) := fun W hW => (HH.out j hlt W hW).2.2
            have hgd := tnGuard
            by_cases he : tk xs j = tk ys j ∧ tn xs j = tn ys j ∧ tt xs j = tt ys j
            · have hq : ∀ W, (binOp .neq 45 (.agg #[.int .i64 (tk xs j), .int .i64 (tn xs j), .string (tt xs j)]) (.agg #[.int .i64 (tk ys j), .int .i64 (tn ys j), .string (tt ys j)])).run Tryz.prog W = .ok (.bool false) W := fun W => by
                rw [tnNeq, he.1, he.2.1, he.2.2]; simp
              have HB := Lib.hid (HA.out.succ he.1 he.2.1 he.2.2)
              clear he HA
              go_wp2_with fail
              go_quiet (fail)
              go_wp2_with fail
              go_roundg (n - (j + 1))
              case measure => omega
              case rel => exact ⟨j + 1, by omega, rfl, by go_num, hB.drewN _, HB⟩
            · have hq : ∀ W, (binOp .neq 45 (.agg #[.int .i64 (tk xs j), .int .i64 (tn xs j), .string (tt xs j)]) (.agg #[.int .i64 (tk ys j), .int .i64 (tn ys j), .string (tt ys j)])).run Tryz.prog W = .ok (.bool true) W := fun W => by
                have hz : (tk xs j == tk ys j && (tn xs j == tn ys j && (tt xs j).toList == (tt ys j).toList)) = false := by
                  cases hz : (tk xs j == tk ys j && (tn xs j == tn ys j && (tt xs j).toList == (tt ys j).toList)) with
                  | false => rfl
                  | true =>
                    simp only [Bool.and_eq_true, beq_iff_eq] at hz
                    exact absurd ⟨hz.1, hz.2.1, (Lib.bytes_beq_iff _ _).1 (by simpa using hz.2.2)⟩ he
                rw [tnNeq, hz]
                simp
              have hv : Hid (D = false) := Lib.hid (by rw [HD.out]; exact decide_eq_false fun h => he (HX.out h j))
              clear he HA
              go_wp2_with fail
              go_quiet (fail)
              go_wp2_with fail
              go_ret
              rw [hv.out]
              exact ⟨rfl, hB.drewN _⟩
          · have hjn : j = n := by omega
            subst hjn
            have hv : Hid (D = true) := Lib.hid (by rw [HD.out]; exact decide_eq_true (HE.out HA.out))
            go_wp2_with fail
            go_ret
            rw [hv.out]
            exact ⟨rfl, hB⟩
  · have hne : xs ≠ ys := fun h => hl (by rw [h])
    rw [decide_eq_false hne]
    obtain ⟨A, c, rfl⟩ := tms_slice h1
    obtain ⟨B, d, rfl⟩ := tms_slice h2
    have hl' : (((xs.length : Nat) : Int) != ((ys.length : Nat) : Int)) = true := by simp; omega
    clear hl h1 h2 hne
    go_enter Tryz.func36, Tryz.ntmps36
    go_wp2_with fail
    go_ret
    exact ⟨rfl, Grew.refl _⟩


theorem enc_pre2 {p : Tn → Prop} : ∀ t : Tm, Tr.wf p t → ∀ u : Tm, Tr.wf p u → ∀ r s, Tr.enc t ++ r = Tr.enc u ++ s → t = u ∧ r = s := by
  intro t
  induction t with
  | t0 x =>
    intro ht u hu r s h
    cases u with
    | t0 y => simp [Tr.enc] at h; exact ⟨by rw [h.1], h.2⟩
    | t1 y a => simp [Tr.enc] at h; have h1 := ht.1; rw [h.1, hu.1.1] at h1; cases h1
    | t2 y a b => simp [Tr.enc] at h; have h1 := ht.1; rw [h.1, hu.1.1] at h1; cases h1
    | t3 y a b c => simp [Tr.enc] at h; have h1 := ht.1; rw [h.1, hu.1.1] at h1; cases h1
  | t1 x a iha =>
    intro ht u hu r s h
    cases u with
    | t0 y => simp [Tr.enc] at h; have h1 := ht.1.1; rw [h.1, hu.1] at h1; cases h1
    | t1 y b =>
      simp only [Tr.enc, List.cons_append, List.cons.injEq] at h
      obtain ⟨e, h⟩ := iha ht.2 b hu.2 r s h.2
      exact ⟨by rw [e]; simp_all, h⟩
    | t2 y b c => simp [Tr.enc] at h; have h1 := ht.1.1; rw [h.1, hu.1.1] at h1; cases h1
    | t3 y b c d => simp [Tr.enc] at h; have h1 := ht.1.1; rw [h.1, hu.1.1] at h1; cases h1
  | t2 x a b iha ihb =>
    intro ht u hu r s h
    cases u with
    | t0 y => simp [Tr.enc] at h; have h1 := ht.1.1; rw [h.1, hu.1] at h1; cases h1
    | t1 y c => simp [Tr.enc] at h; have h1 := ht.1.1; rw [h.1, hu.1.1] at h1; cases h1
    | t2 y c d =>
      simp only [Tr.enc, List.cons_append, List.append_assoc, List.cons.injEq] at h
      obtain ⟨hx, h⟩ := h
      obtain ⟨e1, h⟩ := iha ht.2.1 c hu.2.1 _ _ h
      obtain ⟨e2, h⟩ := ihb ht.2.2 d hu.2.2 _ _ h
      exact ⟨by rw [e1, e2, hx], h⟩
    | t3 y c d e => simp [Tr.enc] at h; have h1 := ht.1.1; rw [h.1, hu.1.1] at h1; cases h1
  | t3 x a b c iha ihb ihc =>
    intro ht u hu r s h
    cases u with
    | t0 y => simp [Tr.enc] at h; have h1 := ht.1.1; rw [h.1, hu.1] at h1; cases h1
    | t1 y d => simp [Tr.enc] at h; have h1 := ht.1.1; rw [h.1, hu.1.1] at h1; cases h1
    | t2 y d e => simp [Tr.enc] at h; have h1 := ht.1.1; rw [h.1, hu.1.1] at h1; cases h1
    | t3 y d e f =>
      simp only [Tr.enc, List.cons_append, List.append_assoc, List.cons.injEq] at h
      obtain ⟨hx, h⟩ := h
      obtain ⟨e1, h⟩ := iha ht.2.1 d hu.2.1 _ _ h
      obtain ⟨e2, h⟩ := ihb ht.2.2.1 e hu.2.2.1 _ _ h
      obtain ⟨e3, h⟩ := ihc ht.2.2.2 f hu.2.2.2 _ _ h
      exact ⟨by rw [e1, e2, e3, hx], h⟩
theorem enc_tm {p : Tn → Prop} {t u : Tm} (ht : Tr.wf p t) (hu : Tr.wf p u) (h : Tr.enc t = Tr.enc u) : t = u := (enc_pre2 t ht u hu [] [] (by rw [h])).1
end Go.Proofs.YtfpkfgimhanekaaGreat

/- The texts of terms: two terms with one text are equal. No program is in sight. -/
namespace Go.Proofs.YtfpkfgimhanekaaGreat
open Go.RowKit
open Tr (Tm)

/-- The number in decimal, one digit or two. -/
def decL (n : Int) : List UInt8 := if n < 10 then [UInt8.ofNat (48 + n.toNat)] else [UInt8.ofNat (48 + n.toNat / 10), UInt8.ofNat (48 + n.toNat % 10)]
def sl (s : ByteArray) : List UInt8 := s.data.toList
/-- The first byte of the text of a node of a kind. -/
def chK (k : Int) : UInt8 := if k = 0 then 120 else if k = 1 then 47 else if k = 2 then 40 else if k = 3 then 91 else if k = 4 then 49 else if k = 5 then 50 else if k = 6 then 108 else if k = 7 then 114 else if k = 8 then 123 else 102
/-- The text of a term. -/
def ttx : Tm → List UInt8
  | .t0 x => 120 :: decL x.2.1
  | .t1 x a => if x.1 = 4 ∨ x.1 = 5 then chK x.1 :: ttx a else chK x.1 :: (sl x.2.2 ++ 58 :: ttx a)
  | .t2 x a b => if x.1 = 2 then 40 :: (ttx a ++ 32 :: (ttx b ++ [41])) else 91 :: (ttx a ++ 44 :: (ttx b ++ [93]))
  | .t3 _ a b c => 123 :: (ttx a ++ 59 :: (ttx b ++ 59 :: (ttx c ++ [125])))

theorem wrap_mem {c : UInt8} {l o : Nat} {s : List UInt8} (h : c ∈ Fm.wrap l o s) : c = 40 ∨ c = 41 ∨ c ∈ s := by
  unfold Fm.wrap at h
  split at h
  · simp at h
    rcases h with h | h | h
    · exact .inl h
    · exact .inr (.inr h)
    · exact .inr (.inl h)
  · exact .inr (.inr h)
theorem txt_colon : ∀ (T : Fm.Tree) (l : Nat), (58 : UInt8) ∉ Fm.txt T l := by
  intro T
  induction T with
  | var v =>
    intro l h
    simp only [Fm.txt, List.mem_singleton] at h
    have hv := v.isLt
    have := congrArg UInt8.toNat h
    rw [UInt8.toNat_ofNat_of_lt' (by omega : 112 + v.val < 256)] at this
    simp at this
    omega
  | fls => intro l h; simp [Fm.txt] at h
  | and a b ha hb =>
    intro l h
    rcases wrap_mem h with h | h | h
    · exact absurd h (by decide)
    · exact absurd h (by decide)
    · simp at h
      rcases h with h | h
      · exact ha _ h
      · exact hb _ h
  | or a b ha hb =>
    intro l h
    rcases wrap_mem h with h | h | h
    · exact absurd h (by decide)
    · exact absurd h (by decide)
    · simp at h
      rcases h with h | h
      · exact ha _ h
      · exact hb _ h
  | imp a b ha hb =>
    intro l h
    rw [Fm.txt] at h
    split at h
    · split at h
      · simp at h
      · simp at h; exact ha _ h
    · rcases wrap_mem h with h | h | h
      · exact absurd h (by decide)
      · exact absurd h (by decide)
      · simp at h
        rcases h with h | h
        · exact ha _ h
        · exact hb _ h
  | box a ha => intro l h; simp [Fm.txt] at h; exact ha _ h
  | dia a ha => intro l h; simp [Fm.txt] at h; exact ha _ h
theorem gp_colon {s : ByteArray} (h : gp s = true) : (58 : UInt8) ∉ sl s := by
  obtain ⟨A, _, rfl⟩ := gp_tree h
  unfold sl tx
  rw [bs_list]
  exact txt_colon A 0

theorem cut_colon {a b r s : List UInt8} (ha : (58 : UInt8) ∉ a) (hb : (58 : UInt8) ∉ b) (h : a ++ 58 :: r = b ++ 58 :: s) : a = b ∧ r = s := by
  induction a generalizing b with
  | nil =>
    cases b with
    | nil => simpa using h
    | cons y b => simp at h; simp [← h.1] at hb
  | cons x a ih =>
    cases b with
    | nil => simp at h; simp [h.1] at ha
    | cons y b =>
      simp only [List.cons_append, List.cons.injEq] at h
      obtain ⟨e, h⟩ := h
      have := ih (fun h => ha (by simp [h])) (fun h => hb (by simp [h])) h
      exact ⟨by rw [e, this.1], this.2⟩

/-- The rest doesn't begin with a digit. -/
def NoDig (r : List UInt8) : Prop := ∀ c q, r = c :: q → ¬ (48 ≤ c.toNat ∧ c.toNat ≤ 57)
theorem NoDig.cons {c : UInt8} {q : List UInt8} (h : ¬ (48 ≤ c.toNat ∧ c.toNat ≤ 57)) : NoDig (c :: q) := by
  intro d p hd
  simp at hd
  rw [← hd.1]
  exact h
theorem digU {n : Nat} (h : n ≤ 9) : (UInt8.ofNat (48 + n)).toNat = 48 + n := UInt8.toNat_ofNat_of_lt' (by omega : 48 + n < 256)
theorem decL_inj {n m : Int} {r s : List UInt8} (hn0 : 0 ≤ n) (hn : n ≤ 99) (hm0 : 0 ≤ m) (hm : m ≤ 99) (hr : NoDig r) (hs : NoDig s) (h : decL n ++ r = decL m ++ s) : n = m ∧ r = s := by
  unfold decL at h
  split at h
  · split at h
    · simp only [List.cons_append, List.nil_append, List.cons.injEq] at h
      have e := congrArg UInt8.toNat h.1
      rw [digU (by omega), digU (by omega)] at e
      exact ⟨by omega, h.2⟩
    · simp only [List.cons_append, List.nil_append, List.cons.injEq] at h
      exact absurd (by rw [digU (by omega)]; omega) (hr _ _ h.2)
  · split at h
    · simp only [List.cons_append, List.nil_append, List.cons.injEq] at h
      exact absurd (by rw [digU (by omega)]; omega) (hs _ _ h.2.symm)
    · simp only [List.cons_append, List.nil_append, List.cons.injEq] at h
      have e1 := congrArg UInt8.toNat h.1
      have e2 := congrArg UInt8.toNat h.2.1
      rw [digU (by omega), digU (by omega)] at e1
      rw [digU (by omega), digU (by omega)] at e2
      exact ⟨by omega, h.2.2⟩

theorem ttx_head {t : Tm} (h : Good t) : ∃ q, ttx t = chK (Tr.hd t).1 :: q := by
  cases t with
  | t0 x =>
    have hk : x.1 = 0 := (good_leaf h).1 rfl
    exact ⟨_, by show ttx (.t0 x) = chK x.1 :: _; rw [hk]; rfl⟩
  | t1 x a =>
    show ∃ q, ttx (.t1 x a) = chK x.1 :: q
    unfold ttx
    split
    · exact ⟨_, rfl⟩
    · exact ⟨_, rfl⟩
  | t2 x a b =>
    show ∃ q, ttx (.t2 x a b) = chK x.1 :: q
    unfold ttx
    rcases ar_two (show Tr.ar x.1 = 2 from h.1.1) with hk | hk
    · rw [hk, if_pos rfl]; exact ⟨_, rfl⟩
    · rw [hk, if_neg (by decide)]; exact ⟨_, rfl⟩
  | t3 x a b c =>
    have hk := ar_three (show Tr.ar x.1 = 3 from h.1.1)
    exact ⟨_, by show ttx (.t3 x a b c) = chK x.1 :: _; rw [hk]; rfl⟩
theorem chK_inj {k l : Int} (hk : 0 ≤ k ∧ k ≤ 9) (hl : 0 ≤ l ∧ l ≤ 9) (h : chK k = chK l) : k = l := by
  have h1 : k = 0 ∨ k = 1 ∨ k = 2 ∨ k = 3 ∨ k = 4 ∨ k = 5 ∨ k = 6 ∨ k = 7 ∨ k = 8 ∨ k = 9 := by omega
  have h2 : l = 0 ∨ l = 1 ∨ l = 2 ∨ l = 3 ∨ l = 4 ∨ l = 5 ∨ l = 6 ∨ l = 7 ∨ l = 8 ∨ l = 9 := by omega
  rcases h1 with rfl | rfl | rfl | rfl | rfl | rfl | rfl | rfl | rfl | rfl <;> rcases h2 with rfl | rfl | rfl | rfl | rfl | rfl | rfl | rfl | rfl | rfl <;> first | rfl | (exfalso; revert h; decide)
theorem hd_kind {t : Tm} (h : Good t) : 0 ≤ (Tr.hd t).1 ∧ (Tr.hd t).1 ≤ 9 := by
  cases t with
  | t0 x => have hk : x.1 = 0 := (good_leaf h).1 rfl; show 0 ≤ x.1 ∧ x.1 ≤ 9; omega
  | t1 x a => have hk := ar_one (show Tr.ar x.1 = 1 from h.1.1); show 0 ≤ x.1 ∧ x.1 ≤ 9; omega
  | t2 x a b => have hk := ar_two (show Tr.ar x.1 = 2 from h.1.1); show 0 ≤ x.1 ∧ x.1 ≤ 9; omega
  | t3 x a b c => have hk := ar_three (show Tr.ar x.1 = 3 from h.1.1); show 0 ≤ x.1 ∧ x.1 ≤ 9; omega
theorem isE {s : ByteArray} (h : s.toList.isEmpty = true) : s = ByteArray.empty := by
  have h1 : (s.toList == ByteArray.empty.toList) = true := by
    rw [List.isEmpty_iff] at h
    rw [h]
    have h2 : ByteArray.empty.toList = [] := by unfold ByteArray.toList ByteArray.toList.loop; rfl
    rw [h2]; rfl
  exact (Lib.bytes_beq_iff s ByteArray.empty).1 h1
/-- What a good node looks like. -/
theorem goodN_var {x : Tn} (h : GoodN x) (h0 : x.1 = 0) : 0 ≤ x.2.1 ∧ x.2.1 ≤ 99 ∧ x.2.2 = ByteArray.empty := by
  unfold GoodN tnB at h
  rw [h0, if_pos (by rfl)] at h
  simp only [Bool.and_eq_true, decide_eq_true_eq] at h
  exact ⟨h.1.1, h.1.2, isE h.2⟩
theorem goodN_typed {x : Tn} (h : GoodN x) (h0 : x.1 = 1 ∨ x.1 = 6 ∨ x.1 = 7 ∨ x.1 = 9) : x.2.1 = 0 ∧ gp x.2.2 = true := by
  unfold GoodN tnB at h
  rw [if_neg (by simp; omega), if_pos (by rcases h0 with e | e | e | e <;> rw [e] <;> rfl)] at h
  simp only [Bool.and_eq_true, beq_iff_eq] at h
  exact h
theorem goodN_plain {x : Tn} (h : GoodN x) (h0 : x.1 = 2 ∨ x.1 = 3 ∨ x.1 = 4 ∨ x.1 = 5 ∨ x.1 = 8) : x.2.1 = 0 ∧ x.2.2 = ByteArray.empty := by
  unfold GoodN tnB at h
  rw [if_neg (by simp; omega), if_neg (by rcases h0 with e | e | e | e | e <;> rw [e] <;> decide)] at h
  simp only [Bool.and_eq_true, beq_iff_eq] at h
  exact ⟨h.1.2, isE h.2⟩
theorem tn_eq {x y : Tn} (h1 : x.1 = y.1) (h2 : x.2.1 = y.2.1) (h3 : x.2.2 = y.2.2) : x = y := by
  obtain ⟨a, b, c⟩ := x
  obtain ⟨d, e, f⟩ := y
  simp only at h1 h2 h3
  rw [h1, h2, h3]
theorem sl_inj {a b : ByteArray} (h : sl a = sl b) : a = b := by
  have := congrArg bs h
  unfold sl at this
  rwa [bs_eq, bs_eq] at this

theorem ttx_inj : ∀ t, Good t → ∀ u, Good u → ∀ r s, NoDig r → NoDig s → ttx t ++ r = ttx u ++ s → t = u ∧ r = s := by
  intro t
  induction t with
  | t0 x =>
    intro ht u hu r s hr hs h
    have hx0 : x.1 = 0 := (good_leaf ht).1 rfl
    obtain ⟨p, hp⟩ := ttx_head ht
    obtain ⟨q, hq⟩ := ttx_head hu
    have hk : (Tr.hd u).1 = 0 := by
      rw [hp, hq] at h
      simp only [List.cons_append, List.cons.injEq] at h
      exact (chK_inj (hd_kind ht) (hd_kind hu) h.1).symm.trans hx0
    cases u with
    | t0 y =>
      obtain ⟨a1, a2, a3⟩ := goodN_var ht.2 hx0
      obtain ⟨b1, b2, b3⟩ := goodN_var hu.2 hk
      simp only [ttx, List.cons_append, List.cons.injEq, true_and] at h
      obtain ⟨e, h⟩ := decL_inj a1 a2 b1 b2 hr hs h
      exact ⟨by rw [tn_eq (x := x) (y := y) (hx0.trans hk.symm) e (a3.trans b3.symm)], h⟩
    | t1 y a => have := ar_one (show Tr.ar y.1 = 1 from hu.1.1); have hk' : y.1 = 0 := hk; omega
    | t2 y a b => have := ar_two (show Tr.ar y.1 = 2 from hu.1.1); have hk' : y.1 = 0 := hk; omega
    | t3 y a b c => have := ar_three (show Tr.ar y.1 = 3 from hu.1.1); have hk' : y.1 = 0 := hk; omega
  | t1 x a iha =>
    intro ht u hu r s hr hs h
    have hxk := ar_one (show Tr.ar x.1 = 1 from ht.1.1)
    obtain ⟨p, hp⟩ := ttx_head ht
    obtain ⟨q, hq⟩ := ttx_head hu
    have hk : x.1 = (Tr.hd u).1 := by
      have h2 := h
      rw [hp, hq] at h2
      simp only [List.cons_append, List.cons.injEq] at h2
      exact chK_inj (hd_kind ht) (hd_kind hu) h2.1
    cases u with
    | t0 y => have := (good_leaf hu).1 rfl; omega
    | t1 y b =>
      have hk : x.1 = y.1 := hk
      by_cases h45 : x.1 = 4 ∨ x.1 = 5
      · simp only [ttx] at h
        rw [if_pos h45, if_pos (by rw [← hk]; exact h45)] at h
        simp only [List.cons_append, List.cons.injEq] at h
        obtain ⟨e, h⟩ := iha ht.2 b hu.2 r s hr hs h.2
        obtain ⟨a2, a3⟩ := goodN_plain ht.1.2 (by omega)
        obtain ⟨b2, b3⟩ := goodN_plain hu.1.2 (by omega)
        exact ⟨by rw [tn_eq (x := x) (y := y) hk (a2.trans b2.symm) (a3.trans b3.symm), e], h⟩
      · simp only [ttx] at h
        rw [if_neg h45, if_neg (by rw [← hk]; exact h45)] at h
        simp only [List.cons_append, List.append_assoc, List.cons.injEq] at h
        obtain ⟨a2, a3⟩ := goodN_typed ht.1.2 (by omega)
        obtain ⟨b2, b3⟩ := goodN_typed hu.1.2 (by omega)
        obtain ⟨e1, h⟩ := cut_colon (gp_colon a3) (gp_colon b3) h.2
        obtain ⟨e, h⟩ := iha ht.2 b hu.2 r s hr hs h
        exact ⟨by rw [tn_eq (x := x) (y := y) hk (a2.trans b2.symm) (sl_inj e1), e], h⟩
    | t2 y c d => have := ar_two (show Tr.ar y.1 = 2 from hu.1.1); have hk' : x.1 = y.1 := hk; omega
    | t3 y c d e => have := ar_three (show Tr.ar y.1 = 3 from hu.1.1); have hk' : x.1 = y.1 := hk; omega
  | t2 x a b iha ihb =>
    intro ht u hu r s hr hs h
    have hxk := ar_two (show Tr.ar x.1 = 2 from ht.1.1)
    obtain ⟨p, hp⟩ := ttx_head ht
    obtain ⟨q, hq⟩ := ttx_head hu
    have hk : x.1 = (Tr.hd u).1 := by
      have h2 := h
      rw [hp, hq] at h2
      simp only [List.cons_append, List.cons.injEq] at h2
      exact chK_inj (hd_kind ht) (hd_kind hu) h2.1
    cases u with
    | t0 y => have := (good_leaf hu).1 rfl; omega
    | t1 y c => have := ar_one (show Tr.ar y.1 = 1 from hu.1.1); have hk' : x.1 = y.1 := hk; omega
    | t2 y c d =>
      have hk : x.1 = y.1 := hk
      obtain ⟨a2, a3⟩ := goodN_plain ht.1.2 (by omega)
      obtain ⟨b2, b3⟩ := goodN_plain hu.1.2 (by omega)
      have hxy := tn_eq (x := x) (y := y) hk (a2.trans b2.symm) (a3.trans b3.symm)
      simp only [ttx] at h
      by_cases h2 : x.1 = 2
      · rw [if_pos h2, if_pos (by omega)] at h
        simp only [List.cons_append, List.append_assoc, List.cons.injEq, true_and, List.nil_append] at h
        obtain ⟨e1, h⟩ := iha ht.2.1 c hu.2.1 _ _ (NoDig.cons (by decide)) (NoDig.cons (by decide)) h
        simp only [List.cons.injEq, true_and] at h
        obtain ⟨e2, h⟩ := ihb ht.2.2 d hu.2.2 _ _ (NoDig.cons (by decide)) (NoDig.cons (by decide)) h
        simp only [List.cons.injEq, true_and] at h
        exact ⟨by rw [hxy, e1, e2], h⟩
      · rw [if_neg h2, if_neg (by omega)] at h
        simp only [List.cons_append, List.append_assoc, List.cons.injEq, true_and, List.nil_append] at h
        obtain ⟨e1, h⟩ := iha ht.2.1 c hu.2.1 _ _ (NoDig.cons (by decide)) (NoDig.cons (by decide)) h
        simp only [List.cons.injEq, true_and] at h
        obtain ⟨e2, h⟩ := ihb ht.2.2 d hu.2.2 _ _ (NoDig.cons (by decide)) (NoDig.cons (by decide)) h
        simp only [List.cons.injEq, true_and] at h
        exact ⟨by rw [hxy, e1, e2], h⟩
    | t3 y c d e => have := ar_three (show Tr.ar y.1 = 3 from hu.1.1); have hk' : x.1 = y.1 := hk; omega
  | t3 x a b c iha ihb ihc =>
    intro ht u hu r s hr hs h
    have hxk := ar_three (show Tr.ar x.1 = 3 from ht.1.1)
    obtain ⟨p, hp⟩ := ttx_head ht
    obtain ⟨q, hq⟩ := ttx_head hu
    have hk : x.1 = (Tr.hd u).1 := by
      have h2 := h
      rw [hp, hq] at h2
      simp only [List.cons_append, List.cons.injEq] at h2
      exact chK_inj (hd_kind ht) (hd_kind hu) h2.1
    cases u with
    | t0 y => have := (good_leaf hu).1 rfl; omega
    | t1 y d => have := ar_one (show Tr.ar y.1 = 1 from hu.1.1); have hk' : x.1 = y.1 := hk; omega
    | t2 y d e => have := ar_two (show Tr.ar y.1 = 2 from hu.1.1); have hk' : x.1 = y.1 := hk; omega
    | t3 y d e f =>
      have hk : x.1 = y.1 := hk
      obtain ⟨a2, a3⟩ := goodN_plain ht.1.2 (by omega)
      obtain ⟨b2, b3⟩ := goodN_plain hu.1.2 (by omega)
      have hxy := tn_eq (x := x) (y := y) hk (a2.trans b2.symm) (a3.trans b3.symm)
      simp only [ttx, List.cons_append, List.append_assoc, List.cons.injEq, true_and, List.nil_append] at h
      obtain ⟨e1, h⟩ := iha ht.2.1 d hu.2.1 _ _ (NoDig.cons (by decide)) (NoDig.cons (by decide)) h
      simp only [List.cons.injEq, true_and] at h
      obtain ⟨e2, h⟩ := ihb ht.2.2.1 e hu.2.2.1 _ _ (NoDig.cons (by decide)) (NoDig.cons (by decide)) h
      simp only [List.cons.injEq, true_and] at h
      obtain ⟨e3, h⟩ := ihc ht.2.2.2 f hu.2.2.2 _ _ (NoDig.cons (by decide)) (NoDig.cons (by decide)) h
      simp only [List.cons.injEq, true_and] at h
      exact ⟨by rw [hxy, e1, e2, e3], h⟩
theorem ttx_eq {t u : Tm} (ht : Good t) (hu : Good u) (h : ttx t = ttx u) : t = u :=
  (ttx_inj t ht u hu [] [] (fun _ _ h => by cases h) (fun _ _ h => by cases h) (by rw [h])).1
theorem goodN_fits160 {x : Tn} (h : GoodN x) : x.2.2.size ≤ 160 := by
  unfold GoodN tnB at h
  split at h
  · simp only [Bool.and_eq_true] at h
    rw [isE h.2]; decide
  · split at h
    · simp only [Bool.and_eq_true] at h
      obtain ⟨A, h1, h2⟩ := gp_tree h.2
      have := tx_size h1.1
      rw [h2] at this
      exact this
    · simp only [Bool.and_eq_true] at h
      rw [isE h.2]; decide
theorem ttx_len : ∀ t, Good t → (ttx t).length ≤ 170 * (Tr.enc t).length := by
  intro t
  induction t with
  | t0 x => intro _; simp only [ttx, decL, Tr.enc]; split <;> simp
  | t1 x a iha =>
    intro h
    have h1 := iha h.2
    have hf := goodN_fits160 h.1.2
    simp only [ttx, Tr.enc]
    split
    · simp; omega
    · have : (sl x.2.2).length = x.2.2.size := rfl
      simp; omega
  | t2 x a b iha ihb =>
    intro h
    have h1 := iha h.2.1
    have h2 := ihb h.2.2
    simp only [ttx, Tr.enc]
    split <;> · simp; omega
  | t3 x a b c iha ihb ihc =>
    intro h
    have h1 := iha h.2.1
    have h2 := ihb h.2.2.1
    have h3 := ihc h.2.2.2
    simp [ttx, Tr.enc]; omega
end Go.Proofs.YtfpkfgimhanekaaGreat

/- l01Dec of the reference: the decimal numeral. -/
namespace Go.Proofs.YtfpkfgimhanekaaGreat
open Go.RowKit

/-- The decimal numeral as a text. -/
def dcm (n : Nat) : ByteArray := ⟨(Lib.decDigits n).toArray⟩
theorem dcm_one {n : Nat} (h : n < 10) : dcm n = ⟨#[UInt8.ofNat (48 + n)]⟩ := by unfold dcm; rw [Lib.decDigits_one h]
theorem dcm_big {n : Nat} (h : ¬ n < 10) : dcm n = dcm (n / 10) ++ ⟨#[UInt8.ofNat (48 + n % 10)]⟩ := by
  unfold dcm
  rw [Lib.decDigits, dif_neg h]
  apply ByteArray.ext
  simp
theorem dcm_size (n : Nat) : (dcm n).size = Lib.nDigits n := by
  unfold dcm
  rw [← Lib.decDigits_length]
  simp [ByteArray.size]
theorem nDigits_le : ∀ (k n : Nat), n < 10 ^ k → Lib.nDigits n ≤ k + 1
  | 0, n, h => by rw [Lib.nDigits_small (by omega)]; omega
  | k + 1, n, h => by
    by_cases h10 : n < 10
    · rw [Lib.nDigits_small h10]; omega
    · rw [Lib.nDigits_big h10]
      have := nDigits_le k (n / 10) (by rw [Nat.pow_succ] at h; omega)
      omega
theorem digSN {n : Nat} (h : n < 10) : strOfNums [((48 + n : Nat) : Int)] = ⟨#[UInt8.ofNat (48 + n)]⟩ := by
  have h1 : ∀ n : Fin 10, strOfNums [((48 + n.val : Nat) : Int)] = ⟨#[UInt8.ofNat (48 + n.val)]⟩ := by decide
  exact h1 ⟨n, h⟩
theorem conv_any (b : Nat) (Y : Int) (W : World) (h : W.cell? ⟨b, 0, none⟩ = some (.int .u8 Y)) : (convert 65 9 (.slice (some ⟨b, 0, none⟩) 1 1)).run Tryz.prog W = .ok (.string (strOfNums [Y])) W :=
  run_convert_bytes_arg (P := Tryz.prog) (w := W) 65 5 Tryz.underlying65 Tryz.underlying5 b 0 1 1 [Y] rfl (fun i hi => by
      obtain rfl : i = 0 := by omega
      simpa using h) 9 Tryz.underlying9
theorem cell_after {w w1 : World} {Y : Int} {t : TypeId} (h : Grew (w.drew.alloc (.cells #[.int .u8 Y] t)) w1) : w1.cell? ⟨w.heap.size, 0, none⟩ = some (.int .u8 Y) :=
  (h.cell (p := ⟨w.heap.size, 0, none⟩) (blk_lt (blk_new w.drew _))).trans ((blk_cell (blk_new w.drew _) 0).trans rfl)
theorem l01DecN_one (n : Nat) (w : World) (h : n < 10) :
    Calls Tryz.prog 50 #[.int .i64 n] w fun e w' => e = .returned (.string (dcm n)) ∧ Grew w w' := by
  have hcv := conv_any
  have HD := Lib.hid (digSN h)
  rw [dcm_one h]
  go_enter Tryz.func50, Tryz.ntmps50
  go_wp2_with fail
  go_ret
  exact ⟨by rw [← HD.out]; rfl, (Grew.refl w).alloc _⟩
theorem l01DecN_c : ∀ (k n : Nat) (w : World), n < 10 ^ k → k ≤ 12 →
    Calls Tryz.prog 50 #[.int .i64 n] w fun e w' => e = .returned (.string (dcm n)) ∧ Grew w w'
  | 0, n, w, h, _ => l01DecN_one n w (by omega)
  | k + 1, n, w, h, hk => by
    by_cases h10 : n < 10
    · exact l01DecN_one n w h10
    have K1 := Lib.hid (fun W => l01DecN_c k (n / 10) W (by rw [Nat.pow_succ] at h; omega) (by omega))
    have hp : 10 ^ k ≤ 10 ^ 11 := Nat.pow_le_pow_right (by omega) (by omega)
    have hn : n < 10 * 10 ^ 11 := by rw [Nat.pow_succ] at h; omega
    have HD : Hid (dcm (n / 10) ++ strOfNums [((48 + n % 10 : Nat) : Int)] = dcm n) := Lib.hid (by rw [digSN (by omega), dcm_big h10])
    have hz : (dcm (n / 10)).size ≤ 100 := by
      rw [dcm_size]
      have := nDigits_le 12 (n / 10) (by omega)
      omega
    have hz2 : ∀ Y, (strOfNums [Y]).size = 1 := fun Y => by rw [strOfNums_size]; rfl
    have w64 : ∀ k : Nat, k ≤ 1000000000000 → IntKind.i64.wrap (k : Int) = (k : Int) := fun k hk => IntWalk.i64_in _ (by omega)
    have a1 : IntKind.i64.wrap ((n : Int) / 10) = ((n / 10 : Nat) : Int) := by rw [show (n : Int) / 10 = ((n / 10 : Nat) : Int) by omega]; exact w64 _ (by omega)
    have a2 : ((n : Int)).tmod 10 = ((n % 10 : Nat) : Int) := rfl
    have a3 : IntKind.i64.wrap (48 + ((n % 10 : Nat) : Int)) = 48 + ((n % 10 : Nat) : Int) := by rw [show (48 : Int) + ((n % 10 : Nat) : Int) = ((48 + n % 10 : Nat) : Int) by omega]; exact w64 _ (by omega)
    have a4 : IntKind.u8.wrap (48 + ((n % 10 : Nat) : Int)) = 48 + ((n % 10 : Nat) : Int) := by
      have h1 : ∀ r : Fin 10, IntKind.u8.wrap (48 + ((r.val : Nat) : Int)) = 48 + ((r.val : Nat) : Int) := by decide
      exact h1 ⟨n % 10, by omega⟩
    clear w64 h hp
    have hr1 : n % 10 < 10 := by omega
    generalize dcm n = R at *
    generalize dcm (n / 10) = s1 at *
    generalize n / 10 = d at *
    generalize n % 10 = r at *
    have hcv := conv_any
    have hc2 : ∀ Y, ¬ 9223372036854775807 < s1.size + (strOfNums [Y]).size := fun Y => by have := hz2 Y; omega
    go_enter Tryz.func50, Tryz.ntmps50
    go_wp2_with fail
    go_region_with (first
      | (go_at_call 50; refine (K1.out _).mono ?_; rintro e w1 ⟨rfl, hg1⟩; have hcc := cell_after hg1)
      | (go_at_call 50; refine (K1.out _).mono ?_; rintro e w1 ⟨rfl, hg1⟩))
    all_goals go_wp2_with fail
    all_goals go_ret
    all_goals first
      | exact ⟨by rw [← HD.out]; rfl, (Grew.refl w).drew.trans (((Grew.refl _).alloc _).trans hg1)⟩
      | exact ⟨by rw [← HD.out]; rfl, ((Grew.refl w).drew.trans hg1).alloc _⟩
end Go.Proofs.YtfpkfgimhanekaaGreat

/- l01Dec of the reference, at a number of one digit or two. -/
namespace Go.Proofs.YtfpkfgimhanekaaGreat
open Go.RowKit

theorem decL_dcm {m : Nat} (h : m ≤ 99) : bs (decL (m : Int)) = dcm m := by
  unfold dcm decL
  by_cases hl : m < 10
  · rw [if_pos (by omega), Lib.decDigits_one hl]; rfl
  · rw [if_neg (by omega), Lib.decDigits_two hl (by omega)]; rfl
theorem l01Dec_c (n : Int) (w : World) (h0 : 0 ≤ n) (h1 : n ≤ 99) :
    Calls Tryz.prog 50 #[.int .i64 n] w fun e w' => e = .returned (.string (bs (decL n))) ∧ Grew w w' := by
  obtain ⟨m, rfl⟩ : ∃ m : Nat, n = m := ⟨n.toNat, by omega⟩
  rw [decL_dcm (by omega)]
  exact l01DecN_c 2 m w (by omega) (by omega)
end Go.Proofs.YtfpkfgimhanekaaGreat

/- l01Dec and l26Text of the reference. -/
namespace Go.Proofs.YtfpkfgimhanekaaGreat
open Go.RowKit
open Tr (Tm)

/-- What l26Text says at a term. -/
def TxtS (t : Tm) : Prop := ∀ v w, Tms w v (Tr.enc t) → Calls Tryz.prog 30 #[v] w (Says w (ttx t))

theorem l26Text_var (x : Tn) (hg : Good (.t0 x)) : TxtS (.t0 x) := by
  intro v w h
  have hk : x.1 = 0 := (good_leaf hg).1 rfl
  obtain ⟨a1, a2, a3⟩ := goodN_var hg.2 hk
  have KD := Lib.hid (fun w => l01Dec_c x.2.1 w a1 a2)
  have hz : (bs (decL x.2.1)).size ≤ 2 := by rw [bs_size]; unfold decL; split <;> simp
  have HE : Hid (bs [120] ++ bs (decL x.2.1) = bs (ttx (.t0 x))) := Lib.hid (by rw [bs_append]; rfl)
  obtain ⟨bb, o, c, rfl, hc, hm, hb, hcl⟩ := tms_head h
  have k0 := fun W (hW : Grew w W) => (hcl W hW).1
  have k1 := fun W (hW : Grew w W) => (hcl W hW).2.1
  have k2 := fun W (hW : Grew w W) => (hcl W hW).2.2
  change ∀ W, Grew w W → W.cell? ⟨bb, o, none⟩ = some (.int .i64 x.1) at k0
  change ∀ W, Grew w W → W.cell? ⟨bb, o + 1, none⟩ = some (.int .i64 x.2.1) at k1
  change ∀ W, Grew w W → W.cell? ⟨bb, o + 2, none⟩ = some (.string x.2.2) at k2
  rw [hk] at k0
  have hl1 : (Tr.enc (.t0 x)).length = 1 := rfl
  rw [hl1]
  have hal := (Grew.refl w).alloc (.cells #[.int .i64 0, .int .i64 x.2.1, .string x.2.2] 45)
  have hr := Grew.refl w
  clear hcl h hg hl1 a3 hk
  unfold Says
  generalize bs (ttx (.t0 x)) = R at *
  generalize bs (decL x.2.1) = D at *
  generalize x.2.1 = xn at *
  generalize x.2.2 = xs at *
  have e1 : bs [120] = ⟨#[120]⟩ := rfl
  rw [e1] at HE
  clear e1
  go_enter Tryz.func30, Tryz.ntmps30
  go_wp2_with fail
  refine (KD.out _).mono ?_
  rintro e w1 ⟨rfl, hg1⟩
  go_wp2_with fail
  go_ret
  exact ⟨by rw [← HE.out]; rfl, hal.trans hg1⟩

theorem l26Text_fst (x : Tn) (a : Tm) (hg : Good (.t1 x a)) (hk : x.1 = 4) (IH : TxtS a) (hn : (Tr.enc a).length ≤ 60) : TxtS (.t1 x a) := by
  intro v w h
  have HE : Hid (bs [49] ++ bs (ttx a) = bs (ttx (.t1 x a))) := Lib.hid (by rw [bs_append]; simp only [ttx]; rw [if_pos (by omega), hk]; rfl)
  have hlen : (Tr.enc (.t1 x a)).length = (Tr.enc a).length + 1 := by simp [Tr.enc]
  have hz := ttx_len a hg.2
  obtain ⟨bb, o, c, rfl, hc, hm, hb, hcl⟩ := tms_head h
  have hsub := sub_one (x := x) (a := a) (by simpa [Tr.enc] using h) (by rw [hlen] at hc; exact hc) hm
  have KI := Lib.hid (fun W (hW : Grew w W) => IH (.slice (some ⟨bb, o + 3, none⟩) (Tr.enc a).length (c - 1)) W (hsub.grew hW))
  have k0 := fun W (hW : Grew w W) => (hcl W hW).1
  have k1 := fun W (hW : Grew w W) => (hcl W hW).2.1
  have k2 := fun W (hW : Grew w W) => (hcl W hW).2.2
  change ∀ W, Grew w W → W.cell? ⟨bb, o, none⟩ = some (.int .i64 x.1) at k0
  change ∀ W, Grew w W → W.cell? ⟨bb, o + 1, none⟩ = some (.int .i64 x.2.1) at k1
  change ∀ W, Grew w W → W.cell? ⟨bb, o + 2, none⟩ = some (.string x.2.2) at k2
  rw [hk] at k0
  rw [hlen] at hc ⊢
  have hpos := Tr.enc_pos a
  have hz1 : (bs (ttx a)).size ≤ 10200 := by rw [bs_size]; omega
  have hal := (Grew.refl w).alloc (.cells #[.int .i64 4, .int .i64 x.2.1, .string x.2.2] 45)
  have hr := Grew.refl w
  have hc1 : ¬ c = 1 := by omega
  clear hcl h hg hsub hlen IH hk hz
  unfold Says at KI ⊢
  generalize bs (ttx (.t1 x a)) = R at *
  generalize bs (ttx a) = D at *
  generalize x.2.1 = xn at *
  generalize x.2.2 = xs at *
  generalize (Tr.enc a).length = n at *
  have e1 : bs [49] = ⟨#[49]⟩ := rfl
  rw [e1] at HE
  clear e1
  go_enter Tryz.func30, Tryz.ntmps30
  go_wp2_with fail
  refine (KI.out _ hal).mono ?_
  rintro e w1 ⟨rfl, hg1⟩
  go_wp2_with fail
  go_ret
  exact ⟨by rw [← HE.out]; rfl, hal.trans hg1⟩

theorem l26Text_snd (x : Tn) (a : Tm) (hg : Good (.t1 x a)) (hk : x.1 = 5) (IH : TxtS a) (hn : (Tr.enc a).length ≤ 60) : TxtS (.t1 x a) := by
  intro v w h
  have HE : Hid (bs [50] ++ bs (ttx a) = bs (ttx (.t1 x a))) := Lib.hid (by rw [bs_append]; simp only [ttx]; rw [if_pos (by omega), hk]; rfl)
  have hlen : (Tr.enc (.t1 x a)).length = (Tr.enc a).length + 1 := by simp [Tr.enc]
  have hz := ttx_len a hg.2
  obtain ⟨bb, o, c, rfl, hc, hm, hb, hcl⟩ := tms_head h
  have hsub := sub_one (x := x) (a := a) (by simpa [Tr.enc] using h) (by rw [hlen] at hc; exact hc) hm
  have KI := Lib.hid (fun W (hW : Grew w W) => IH (.slice (some ⟨bb, o + 3, none⟩) (Tr.enc a).length (c - 1)) W (hsub.grew hW))
  have k0 := fun W (hW : Grew w W) => (hcl W hW).1
  have k1 := fun W (hW : Grew w W) => (hcl W hW).2.1
  have k2 := fun W (hW : Grew w W) => (hcl W hW).2.2
  change ∀ W, Grew w W → W.cell? ⟨bb, o, none⟩ = some (.int .i64 x.1) at k0
  change ∀ W, Grew w W → W.cell? ⟨bb, o + 1, none⟩ = some (.int .i64 x.2.1) at k1
  change ∀ W, Grew w W → W.cell? ⟨bb, o + 2, none⟩ = some (.string x.2.2) at k2
  rw [hk] at k0
  rw [hlen] at hc ⊢
  have hpos := Tr.enc_pos a
  have hz1 : (bs (ttx a)).size ≤ 10200 := by rw [bs_size]; omega
  have hal := (Grew.refl w).alloc (.cells #[.int .i64 5, .int .i64 x.2.1, .string x.2.2] 45)
  have hr := Grew.refl w
  have hc1 : ¬ c = 1 := by omega
  clear hcl h hg hsub hlen IH hk hz
  unfold Says at KI ⊢
  generalize bs (ttx (.t1 x a)) = R at *
  generalize bs (ttx a) = D at *
  generalize x.2.1 = xn at *
  generalize x.2.2 = xs at *
  generalize (Tr.enc a).length = n at *
  have e1 : bs [50] = ⟨#[50]⟩ := rfl
  rw [e1] at HE
  clear e1
  go_enter Tryz.func30, Tryz.ntmps30
  go_wp2_with fail
  refine (KI.out _ hal).mono ?_
  rintro e w1 ⟨rfl, hg1⟩
  go_wp2_with fail
  go_ret
  exact ⟨by rw [← HE.out]; rfl, hal.trans hg1⟩

theorem l26Text_lam (x : Tn) (a : Tm) (hg : Good (.t1 x a)) (hk : x.1 = 1) (IH : TxtS a) (hn : (Tr.enc a).length ≤ 60) : TxtS (.t1 x a) := by
  intro v w h
  have HE : Hid (bs [47] ++ x.2.2 ++ bs [58] ++ bs (ttx a) = bs (ttx (.t1 x a))) := Lib.hid (by
    have e : x.2.2 = bs (sl x.2.2) := (bs_eq _).symm
    conv => lhs; rw [e]
    rw [bs_append, bs_append, bs_append]; simp only [ttx]; rw [if_neg (by omega), hk]; simp [chK])
  have hxs := goodN_fits160 hg.1.2
  have hlen : (Tr.enc (.t1 x a)).length = (Tr.enc a).length + 1 := by simp [Tr.enc]
  have hz := ttx_len a hg.2
  obtain ⟨bb, o, c, rfl, hc, hm, hb, hcl⟩ := tms_head h
  have hsub := sub_one (x := x) (a := a) (by simpa [Tr.enc] using h) (by rw [hlen] at hc; exact hc) hm
  have KI := Lib.hid (fun W (hW : Grew w W) => IH (.slice (some ⟨bb, o + 3, none⟩) (Tr.enc a).length (c - 1)) W (hsub.grew hW))
  have k0 := fun W (hW : Grew w W) => (hcl W hW).1
  have k1 := fun W (hW : Grew w W) => (hcl W hW).2.1
  have k2 := fun W (hW : Grew w W) => (hcl W hW).2.2
  change ∀ W, Grew w W → W.cell? ⟨bb, o, none⟩ = some (.int .i64 x.1) at k0
  change ∀ W, Grew w W → W.cell? ⟨bb, o + 1, none⟩ = some (.int .i64 x.2.1) at k1
  change ∀ W, Grew w W → W.cell? ⟨bb, o + 2, none⟩ = some (.string x.2.2) at k2
  rw [hk] at k0
  rw [hlen] at hc ⊢
  have hpos := Tr.enc_pos a
  have hz1 : (bs (ttx a)).size ≤ 10200 := by rw [bs_size]; omega
  clear hcl h hg hsub hlen IH hk hz
  unfold Says at KI ⊢
  generalize bs (ttx (.t1 x a)) = R at *
  generalize bs (ttx a) = D at *
  generalize x.2.1 = xn at *
  generalize x.2.2 = xs at *
  generalize (Tr.enc a).length = n at *
  have e1 : bs [47] = ⟨#[47]⟩ := rfl
  have e2 : bs [58] = ⟨#[58]⟩ := rfl
  rw [e1, e2] at HE
  clear e1 e2
  have hal := (Grew.refl w).alloc (.cells #[.int .i64 1, .int .i64 xn, .string xs] 45)
  have hr := Grew.refl w
  have hc1 : ¬ c = 1 := by omega
  have i1 : (1 : Int) ≤ (n : Int) + 1 := by omega
  have i2 : (n : Int) + 1 ≤ (c : Int) := by omega
  have i3 : (0 : Int) ≤ (n : Int) := by omega
  have f2 : ∀ W, Grew (w.alloc (.cells #[.int .i64 1, .int .i64 xn, .string xs] 45)) W → W.cell? ⟨w.heap.size, 2, none⟩ = some (.string xs) := fun W hW => (hW.cell (p := ⟨w.heap.size, 2, none⟩) (by simp)).trans (by simp)
  have ra := Grew.refl (w.alloc (.cells #[.int .i64 1, .int .i64 xn, .string xs] 45))
  have da := ra.drew
  have gd := hal.trans da
  have s1 : ¬ 9223372036854775807 < 1 + xs.size := by omega
  have s2 : ¬ 9223372036854775807 < 1 + xs.size + 1 := by omega
  have s3 : ¬ 9223372036854775807 < 1 + xs.size + 1 + D.size := by omega
  go_enter Tryz.func30, Tryz.ntmps30
  go_wp2_with fail
  go_region_held3 (fun w' => Grew (w.alloc (.cells #[.int .i64 1, .int .i64 xn, .string xs] 45)) w') (with_reducible assumption)
    (first | (go_at_call 30; refine (KI.out _ gd).mono ?_; rintro e w1 ⟨rfl, hg1⟩; have hk1 := da.trans hg1))
  go_wp2_with fail
  go_ret
  exact ⟨by rw [← HE.out]; rfl, hal.trans hk1⟩

theorem l26Text_inl (x : Tn) (a : Tm) (hg : Good (.t1 x a)) (hk : x.1 = 6) (IH : TxtS a) (hn : (Tr.enc a).length ≤ 60) : TxtS (.t1 x a) := by
  intro v w h
  have HE : Hid (bs [108] ++ x.2.2 ++ bs [58] ++ bs (ttx a) = bs (ttx (.t1 x a))) := Lib.hid (by
    have e : x.2.2 = bs (sl x.2.2) := (bs_eq _).symm
    conv => lhs; rw [e]
    rw [bs_append, bs_append, bs_append]; simp only [ttx]; rw [if_neg (by omega), hk]; simp [chK])
  have hxs := goodN_fits160 hg.1.2
  have hlen : (Tr.enc (.t1 x a)).length = (Tr.enc a).length + 1 := by simp [Tr.enc]
  have hz := ttx_len a hg.2
  obtain ⟨bb, o, c, rfl, hc, hm, hb, hcl⟩ := tms_head h
  have hsub := sub_one (x := x) (a := a) (by simpa [Tr.enc] using h) (by rw [hlen] at hc; exact hc) hm
  have KI := Lib.hid (fun W (hW : Grew w W) => IH (.slice (some ⟨bb, o + 3, none⟩) (Tr.enc a).length (c - 1)) W (hsub.grew hW))
  have k0 := fun W (hW : Grew w W) => (hcl W hW).1
  have k1 := fun W (hW : Grew w W) => (hcl W hW).2.1
  have k2 := fun W (hW : Grew w W) => (hcl W hW).2.2
  change ∀ W, Grew w W → W.cell? ⟨bb, o, none⟩ = some (.int .i64 x.1) at k0
  change ∀ W, Grew w W → W.cell? ⟨bb, o + 1, none⟩ = some (.int .i64 x.2.1) at k1
  change ∀ W, Grew w W → W.cell? ⟨bb, o + 2, none⟩ = some (.string x.2.2) at k2
  rw [hk] at k0
  rw [hlen] at hc ⊢
  have hpos := Tr.enc_pos a
  have hz1 : (bs (ttx a)).size ≤ 10200 := by rw [bs_size]; omega
  clear hcl h hg hsub hlen IH hk hz
  unfold Says at KI ⊢
  generalize bs (ttx (.t1 x a)) = R at *
  generalize bs (ttx a) = D at *
  generalize x.2.1 = xn at *
  generalize x.2.2 = xs at *
  generalize (Tr.enc a).length = n at *
  have e1 : bs [108] = ⟨#[108]⟩ := rfl
  have e2 : bs [58] = ⟨#[58]⟩ := rfl
  rw [e1, e2] at HE
  clear e1 e2
  have hal := (Grew.refl w).alloc (.cells #[.int .i64 6, .int .i64 xn, .string xs] 45)
  have hr := Grew.refl w
  have hc1 : ¬ c = 1 := by omega
  have i1 : (1 : Int) ≤ (n : Int) + 1 := by omega
  have i2 : (n : Int) + 1 ≤ (c : Int) := by omega
  have i3 : (0 : Int) ≤ (n : Int) := by omega
  have f2 : ∀ W, Grew (w.alloc (.cells #[.int .i64 6, .int .i64 xn, .string xs] 45)) W → W.cell? ⟨w.heap.size, 2, none⟩ = some (.string xs) := fun W hW => (hW.cell (p := ⟨w.heap.size, 2, none⟩) (by simp)).trans (by simp)
  have ra := Grew.refl (w.alloc (.cells #[.int .i64 6, .int .i64 xn, .string xs] 45))
  have da := ra.drew
  have gd := hal.trans da
  have s1 : ¬ 9223372036854775807 < 1 + xs.size := by omega
  have s2 : ¬ 9223372036854775807 < 1 + xs.size + 1 := by omega
  have s3 : ¬ 9223372036854775807 < 1 + xs.size + 1 + D.size := by omega
  go_enter Tryz.func30, Tryz.ntmps30
  go_wp2_with fail
  go_region_held3 (fun w' => Grew (w.alloc (.cells #[.int .i64 6, .int .i64 xn, .string xs] 45)) w') (with_reducible assumption)
    (first | (go_at_call 30; refine (KI.out _ gd).mono ?_; rintro e w1 ⟨rfl, hg1⟩; have hk1 := da.trans hg1))
  go_wp2_with fail
  go_ret
  exact ⟨by rw [← HE.out]; rfl, hal.trans hk1⟩

theorem l26Text_inr (x : Tn) (a : Tm) (hg : Good (.t1 x a)) (hk : x.1 = 7) (IH : TxtS a) (hn : (Tr.enc a).length ≤ 60) : TxtS (.t1 x a) := by
  intro v w h
  have HE : Hid (bs [114] ++ x.2.2 ++ bs [58] ++ bs (ttx a) = bs (ttx (.t1 x a))) := Lib.hid (by
    have e : x.2.2 = bs (sl x.2.2) := (bs_eq _).symm
    conv => lhs; rw [e]
    rw [bs_append, bs_append, bs_append]; simp only [ttx]; rw [if_neg (by omega), hk]; simp [chK])
  have hxs := goodN_fits160 hg.1.2
  have hlen : (Tr.enc (.t1 x a)).length = (Tr.enc a).length + 1 := by simp [Tr.enc]
  have hz := ttx_len a hg.2
  obtain ⟨bb, o, c, rfl, hc, hm, hb, hcl⟩ := tms_head h
  have hsub := sub_one (x := x) (a := a) (by simpa [Tr.enc] using h) (by rw [hlen] at hc; exact hc) hm
  have KI := Lib.hid (fun W (hW : Grew w W) => IH (.slice (some ⟨bb, o + 3, none⟩) (Tr.enc a).length (c - 1)) W (hsub.grew hW))
  have k0 := fun W (hW : Grew w W) => (hcl W hW).1
  have k1 := fun W (hW : Grew w W) => (hcl W hW).2.1
  have k2 := fun W (hW : Grew w W) => (hcl W hW).2.2
  change ∀ W, Grew w W → W.cell? ⟨bb, o, none⟩ = some (.int .i64 x.1) at k0
  change ∀ W, Grew w W → W.cell? ⟨bb, o + 1, none⟩ = some (.int .i64 x.2.1) at k1
  change ∀ W, Grew w W → W.cell? ⟨bb, o + 2, none⟩ = some (.string x.2.2) at k2
  rw [hk] at k0
  rw [hlen] at hc ⊢
  have hpos := Tr.enc_pos a
  have hz1 : (bs (ttx a)).size ≤ 10200 := by rw [bs_size]; omega
  clear hcl h hg hsub hlen IH hk hz
  unfold Says at KI ⊢
  generalize bs (ttx (.t1 x a)) = R at *
  generalize bs (ttx a) = D at *
  generalize x.2.1 = xn at *
  generalize x.2.2 = xs at *
  generalize (Tr.enc a).length = n at *
  have e1 : bs [114] = ⟨#[114]⟩ := rfl
  have e2 : bs [58] = ⟨#[58]⟩ := rfl
  rw [e1, e2] at HE
  clear e1 e2
  have hal := (Grew.refl w).alloc (.cells #[.int .i64 7, .int .i64 xn, .string xs] 45)
  have hr := Grew.refl w
  have hc1 : ¬ c = 1 := by omega
  have i1 : (1 : Int) ≤ (n : Int) + 1 := by omega
  have i2 : (n : Int) + 1 ≤ (c : Int) := by omega
  have i3 : (0 : Int) ≤ (n : Int) := by omega
  have f2 : ∀ W, Grew (w.alloc (.cells #[.int .i64 7, .int .i64 xn, .string xs] 45)) W → W.cell? ⟨w.heap.size, 2, none⟩ = some (.string xs) := fun W hW => (hW.cell (p := ⟨w.heap.size, 2, none⟩) (by simp)).trans (by simp)
  have ra := Grew.refl (w.alloc (.cells #[.int .i64 7, .int .i64 xn, .string xs] 45))
  have da := ra.drew
  have gd := hal.trans da
  have s1 : ¬ 9223372036854775807 < 1 + xs.size := by omega
  have s2 : ¬ 9223372036854775807 < 1 + xs.size + 1 := by omega
  have s3 : ¬ 9223372036854775807 < 1 + xs.size + 1 + D.size := by omega
  go_enter Tryz.func30, Tryz.ntmps30
  go_wp2_with fail
  go_region_held3 (fun w' => Grew (w.alloc (.cells #[.int .i64 7, .int .i64 xn, .string xs] 45)) w') (with_reducible assumption)
    (first | (go_at_call 30; refine (KI.out _ gd).mono ?_; rintro e w1 ⟨rfl, hg1⟩; have hk1 := da.trans hg1))
  go_wp2_with fail
  go_ret
  exact ⟨by rw [← HE.out]; rfl, hal.trans hk1⟩

theorem l26Text_abort (x : Tn) (a : Tm) (hg : Good (.t1 x a)) (hk : x.1 = 9) (IH : TxtS a) (hn : (Tr.enc a).length ≤ 60) : TxtS (.t1 x a) := by
  intro v w h
  have HE : Hid (bs [102] ++ x.2.2 ++ bs [58] ++ bs (ttx a) = bs (ttx (.t1 x a))) := Lib.hid (by
    have e : x.2.2 = bs (sl x.2.2) := (bs_eq _).symm
    conv => lhs; rw [e]
    rw [bs_append, bs_append, bs_append]; simp only [ttx]; rw [if_neg (by omega), hk]; simp [chK])
  have hxs := goodN_fits160 hg.1.2
  have hlen : (Tr.enc (.t1 x a)).length = (Tr.enc a).length + 1 := by simp [Tr.enc]
  have hz := ttx_len a hg.2
  obtain ⟨bb, o, c, rfl, hc, hm, hb, hcl⟩ := tms_head h
  have hsub := sub_one (x := x) (a := a) (by simpa [Tr.enc] using h) (by rw [hlen] at hc; exact hc) hm
  have KI := Lib.hid (fun W (hW : Grew w W) => IH (.slice (some ⟨bb, o + 3, none⟩) (Tr.enc a).length (c - 1)) W (hsub.grew hW))
  have k0 := fun W (hW : Grew w W) => (hcl W hW).1
  have k1 := fun W (hW : Grew w W) => (hcl W hW).2.1
  have k2 := fun W (hW : Grew w W) => (hcl W hW).2.2
  change ∀ W, Grew w W → W.cell? ⟨bb, o, none⟩ = some (.int .i64 x.1) at k0
  change ∀ W, Grew w W → W.cell? ⟨bb, o + 1, none⟩ = some (.int .i64 x.2.1) at k1
  change ∀ W, Grew w W → W.cell? ⟨bb, o + 2, none⟩ = some (.string x.2.2) at k2
  rw [hk] at k0
  rw [hlen] at hc ⊢
  have hpos := Tr.enc_pos a
  have hz1 : (bs (ttx a)).size ≤ 10200 := by rw [bs_size]; omega
  clear hcl h hg hsub hlen IH hk hz
  unfold Says at KI ⊢
  generalize bs (ttx (.t1 x a)) = R at *
  generalize bs (ttx a) = D at *
  generalize x.2.1 = xn at *
  generalize x.2.2 = xs at *
  generalize (Tr.enc a).length = n at *
  have e1 : bs [102] = ⟨#[102]⟩ := rfl
  have e2 : bs [58] = ⟨#[58]⟩ := rfl
  rw [e1, e2] at HE
  clear e1 e2
  have hal := (Grew.refl w).alloc (.cells #[.int .i64 9, .int .i64 xn, .string xs] 45)
  have hr := Grew.refl w
  have hc1 : ¬ c = 1 := by omega
  have i1 : (1 : Int) ≤ (n : Int) + 1 := by omega
  have i2 : (n : Int) + 1 ≤ (c : Int) := by omega
  have i3 : (0 : Int) ≤ (n : Int) := by omega
  have f2 : ∀ W, Grew (w.alloc (.cells #[.int .i64 9, .int .i64 xn, .string xs] 45)) W → W.cell? ⟨w.heap.size, 2, none⟩ = some (.string xs) := fun W hW => (hW.cell (p := ⟨w.heap.size, 2, none⟩) (by simp)).trans (by simp)
  have ra := Grew.refl (w.alloc (.cells #[.int .i64 9, .int .i64 xn, .string xs] 45))
  have da := ra.drew
  have gd := hal.trans da
  have s1 : ¬ 9223372036854775807 < 1 + xs.size := by omega
  have s2 : ¬ 9223372036854775807 < 1 + xs.size + 1 := by omega
  have s3 : ¬ 9223372036854775807 < 1 + xs.size + 1 + D.size := by omega
  go_enter Tryz.func30, Tryz.ntmps30
  go_wp2_with fail
  go_region_held3 (fun w' => Grew (w.alloc (.cells #[.int .i64 9, .int .i64 xn, .string xs] 45)) w') (with_reducible assumption)
    (first | (go_at_call 30; refine (KI.out _ gd).mono ?_; rintro e w1 ⟨rfl, hg1⟩; have hk1 := da.trans hg1))
  go_wp2_with fail
  go_ret
  exact ⟨by rw [← HE.out]; rfl, hal.trans hk1⟩

theorem l26Text_app (x : Tn) (a b : Tm) (hg : Good (.t2 x a b)) (hk : x.1 = 2) (IHa : TxtS a) (IHb : TxtS b) (hn : (Tr.enc (.t2 x a b)).length ≤ 60) : TxtS (.t2 x a b) := by
  intro v w h
  have HE : Hid (bs [40] ++ bs (ttx a) ++ bs [32] ++ bs (ttx b) ++ bs [41] = bs (ttx (.t2 x a b))) := Lib.hid (by rw [bs_append, bs_append, bs_append, bs_append]; simp [ttx, hk])
  have hla : (Tr.enc a).length + (Tr.enc b).length ≤ 60 := by simp [Tr.enc] at hn; omega
  have hz1 : (bs (ttx a)).size ≤ 10200 := by rw [bs_size]; have := ttx_len a hg.2.1; omega
  have hz2 : (bs (ttx b)).size ≤ 10200 := by rw [bs_size]; have := ttx_len b hg.2.2; omega
  have KP := Lib.hid (fun W (hW : Grew w W) => by
    have h1 := l26Part_c v (.t2 x a b) 0 W (h.grew hW) hg (by omega) (by decide : 0 < 2)
    rw [show Tr.kid (.t2 x a b) 0 = a from rfl] at h1
    exact h1)
  have KQ := Lib.hid (fun W (hW : Grew w W) => by
    have h1 := l26Part_c v (.t2 x a b) 1 W (h.grew hW) hg (by omega) (by decide : 1 < 2)
    rw [show Tr.kid (.t2 x a b) 1 = b from rfl] at h1
    exact h1)
  have KI := Lib.hid (fun u W hu => IHa u W hu)
  have KJ := Lib.hid (fun u W hu => IHb u W hu)
  obtain ⟨bb, o, c, rfl, hc, hm, hb, hcl⟩ := tms_head h
  have k0 := fun W (hW : Grew w W) => (hcl W hW).1
  have k1 := fun W (hW : Grew w W) => (hcl W hW).2.1
  have k2 := fun W (hW : Grew w W) => (hcl W hW).2.2
  change ∀ W, Grew w W → W.cell? ⟨bb, o, none⟩ = some (.int .i64 x.1) at k0
  change ∀ W, Grew w W → W.cell? ⟨bb, o + 1, none⟩ = some (.int .i64 x.2.1) at k1
  change ∀ W, Grew w W → W.cell? ⟨bb, o + 2, none⟩ = some (.string x.2.2) at k2
  rw [hk] at k0
  have hpos := Tr.enc_pos (.t2 x a b)
  have hal := (Grew.refl w).alloc (.cells #[.int .i64 2, .int .i64 x.2.1, .string x.2.2] 45)
  have hr := Grew.refl w
  clear hcl h hg IHa IHb hk hla
  unfold Says at KI KJ ⊢
  generalize bs (ttx (.t2 x a b)) = R at *
  generalize bs (ttx a) = D at *
  generalize bs (ttx b) = D2 at *
  generalize x.2.1 = xn at *
  generalize x.2.2 = xs at *
  generalize (Tr.enc (.t2 x a b)).length = n at *
  have e1 : bs [40] = ⟨#[40]⟩ := rfl
  have e2 : bs [32] = ⟨#[32]⟩ := rfl
  have e3 : bs [41] = ⟨#[41]⟩ := rfl
  rw [e1, e2, e3] at HE
  clear e1 e2 e3
  go_enter Tryz.func30, Tryz.ntmps30
  go_wp2_with fail
  refine (KP.out _ hal).mono ?_
  rintro e w1 ⟨u1, rfl, hu1, hg1⟩
  have HU1 := Lib.hid hu1
  obtain ⟨U1, e1, rfl⟩ := tms_slice hu1
  clear hu1
  have g1 := Grew.trans hal hg1
  go_wp2_with fail
  refine (KI.out _ _ HU1.out).mono ?_
  rintro e w2 ⟨rfl, hg2⟩
  have g2 := g1.trans hg2
  go_wp2_with fail
  refine (KQ.out _ g2).mono ?_
  rintro e w3 ⟨u3, rfl, hu3, hg3⟩
  have HU3 := Lib.hid hu3
  obtain ⟨U3, e3, rfl⟩ := tms_slice hu3
  clear hu3
  have g3 := Grew.trans g2 hg3
  go_wp2_with fail
  refine (KJ.out _ _ HU3.out).mono ?_
  rintro e w4 ⟨rfl, hg4⟩
  have g4 := g3.trans hg4
  go_wp2_with fail
  go_ret
  exact ⟨by rw [← HE.out]; rfl, g4⟩

theorem l26Text_pair (x : Tn) (a b : Tm) (hg : Good (.t2 x a b)) (hk : x.1 = 3) (IHa : TxtS a) (IHb : TxtS b) (hn : (Tr.enc (.t2 x a b)).length ≤ 60) : TxtS (.t2 x a b) := by
  intro v w h
  have HE : Hid (bs [91] ++ bs (ttx a) ++ bs [44] ++ bs (ttx b) ++ bs [93] = bs (ttx (.t2 x a b))) := Lib.hid (by rw [bs_append, bs_append, bs_append, bs_append]; simp [ttx, hk])
  have hla : (Tr.enc a).length + (Tr.enc b).length ≤ 60 := by simp [Tr.enc] at hn; omega
  have hz1 : (bs (ttx a)).size ≤ 10200 := by rw [bs_size]; have := ttx_len a hg.2.1; omega
  have hz2 : (bs (ttx b)).size ≤ 10200 := by rw [bs_size]; have := ttx_len b hg.2.2; omega
  have KP := Lib.hid (fun W (hW : Grew w W) => by
    have h1 := l26Part_c v (.t2 x a b) 0 W (h.grew hW) hg (by omega) (by decide : 0 < 2)
    rw [show Tr.kid (.t2 x a b) 0 = a from rfl] at h1
    exact h1)
  have KQ := Lib.hid (fun W (hW : Grew w W) => by
    have h1 := l26Part_c v (.t2 x a b) 1 W (h.grew hW) hg (by omega) (by decide : 1 < 2)
    rw [show Tr.kid (.t2 x a b) 1 = b from rfl] at h1
    exact h1)
  have KI := Lib.hid (fun u W hu => IHa u W hu)
  have KJ := Lib.hid (fun u W hu => IHb u W hu)
  obtain ⟨bb, o, c, rfl, hc, hm, hb, hcl⟩ := tms_head h
  have k0 := fun W (hW : Grew w W) => (hcl W hW).1
  have k1 := fun W (hW : Grew w W) => (hcl W hW).2.1
  have k2 := fun W (hW : Grew w W) => (hcl W hW).2.2
  change ∀ W, Grew w W → W.cell? ⟨bb, o, none⟩ = some (.int .i64 x.1) at k0
  change ∀ W, Grew w W → W.cell? ⟨bb, o + 1, none⟩ = some (.int .i64 x.2.1) at k1
  change ∀ W, Grew w W → W.cell? ⟨bb, o + 2, none⟩ = some (.string x.2.2) at k2
  rw [hk] at k0
  have hpos := Tr.enc_pos (.t2 x a b)
  have hal := (Grew.refl w).alloc (.cells #[.int .i64 3, .int .i64 x.2.1, .string x.2.2] 45)
  have hr := Grew.refl w
  clear hcl h hg IHa IHb hk hla
  unfold Says at KI KJ ⊢
  generalize bs (ttx (.t2 x a b)) = R at *
  generalize bs (ttx a) = D at *
  generalize bs (ttx b) = D2 at *
  generalize x.2.1 = xn at *
  generalize x.2.2 = xs at *
  generalize (Tr.enc (.t2 x a b)).length = n at *
  have e1 : bs [91] = ⟨#[91]⟩ := rfl
  have e2 : bs [44] = ⟨#[44]⟩ := rfl
  have e3 : bs [93] = ⟨#[93]⟩ := rfl
  rw [e1, e2, e3] at HE
  clear e1 e2 e3
  go_enter Tryz.func30, Tryz.ntmps30
  go_wp2_with fail
  refine (KP.out _ hal).mono ?_
  rintro e w1 ⟨u1, rfl, hu1, hg1⟩
  have HU1 := Lib.hid hu1
  obtain ⟨U1, e1, rfl⟩ := tms_slice hu1
  clear hu1
  have g1 := Grew.trans hal hg1
  go_wp2_with fail
  refine (KI.out _ _ HU1.out).mono ?_
  rintro e w2 ⟨rfl, hg2⟩
  have g2 := g1.trans hg2
  go_wp2_with fail
  refine (KQ.out _ g2).mono ?_
  rintro e w3 ⟨u3, rfl, hu3, hg3⟩
  have HU3 := Lib.hid hu3
  obtain ⟨U3, e3, rfl⟩ := tms_slice hu3
  clear hu3
  have g3 := Grew.trans g2 hg3
  go_wp2_with fail
  refine (KJ.out _ _ HU3.out).mono ?_
  rintro e w4 ⟨rfl, hg4⟩
  have g4 := g3.trans hg4
  go_wp2_with fail
  go_ret
  exact ⟨by rw [← HE.out]; rfl, g4⟩

theorem l26Text_case (x : Tn) (c0 a b : Tm) (hg : Good (.t3 x c0 a b)) (hk : x.1 = 8) (IHc : TxtS c0) (IHa : TxtS a) (IHb : TxtS b) (hn : (Tr.enc (.t3 x c0 a b)).length ≤ 60) : TxtS (.t3 x c0 a b) := by
  intro v w h
  have HE : Hid (bs [123] ++ bs (ttx c0) ++ bs [59] ++ bs (ttx a) ++ bs [59] ++ bs (ttx b) ++ bs [125] = bs (ttx (.t3 x c0 a b))) := Lib.hid (by rw [bs_append, bs_append, bs_append, bs_append, bs_append, bs_append]; simp [ttx])
  have hla : (Tr.enc c0).length + (Tr.enc a).length + (Tr.enc b).length ≤ 60 := by simp [Tr.enc] at hn; omega
  have hz0 : (bs (ttx c0)).size ≤ 10200 := by rw [bs_size]; have := ttx_len c0 hg.2.1; omega
  have hz1 : (bs (ttx a)).size ≤ 10200 := by rw [bs_size]; have := ttx_len a hg.2.2.1; omega
  have hz2 : (bs (ttx b)).size ≤ 10200 := by rw [bs_size]; have := ttx_len b hg.2.2.2; omega
  have KP := Lib.hid (fun W (hW : Grew w W) => by
    have h1 := l26Part_c v (.t3 x c0 a b) 0 W (h.grew hW) hg (by omega) (by decide : 0 < 3)
    rw [show Tr.kid (.t3 x c0 a b) 0 = c0 from rfl] at h1
    exact h1)
  have KQ := Lib.hid (fun W (hW : Grew w W) => by
    have h1 := l26Part_c v (.t3 x c0 a b) 1 W (h.grew hW) hg (by omega) (by decide : 1 < 3)
    rw [show Tr.kid (.t3 x c0 a b) 1 = a from rfl] at h1
    exact h1)
  have KR := Lib.hid (fun W (hW : Grew w W) => by
    have h1 := l26Part_c v (.t3 x c0 a b) 2 W (h.grew hW) hg (by omega) (by decide : 2 < 3)
    rw [show Tr.kid (.t3 x c0 a b) 2 = b from rfl] at h1
    exact h1)
  have KI := Lib.hid (fun u W hu => IHc u W hu)
  have KJ := Lib.hid (fun u W hu => IHa u W hu)
  have KL := Lib.hid (fun u W hu => IHb u W hu)
  obtain ⟨bb, o, c, rfl, hc, hm, hb, hcl⟩ := tms_head h
  have k0 := fun W (hW : Grew w W) => (hcl W hW).1
  have k1 := fun W (hW : Grew w W) => (hcl W hW).2.1
  have k2 := fun W (hW : Grew w W) => (hcl W hW).2.2
  change ∀ W, Grew w W → W.cell? ⟨bb, o, none⟩ = some (.int .i64 x.1) at k0
  change ∀ W, Grew w W → W.cell? ⟨bb, o + 1, none⟩ = some (.int .i64 x.2.1) at k1
  change ∀ W, Grew w W → W.cell? ⟨bb, o + 2, none⟩ = some (.string x.2.2) at k2
  rw [hk] at k0
  have hpos := Tr.enc_pos (.t3 x c0 a b)
  have hal := (Grew.refl w).alloc (.cells #[.int .i64 8, .int .i64 x.2.1, .string x.2.2] 45)
  have hr := Grew.refl w
  clear hcl h hg IHa IHb IHc hk hla
  unfold Says at KI KJ KL ⊢
  generalize bs (ttx (.t3 x c0 a b)) = R at *
  generalize bs (ttx c0) = D0 at *
  generalize bs (ttx a) = D at *
  generalize bs (ttx b) = D2 at *
  generalize x.2.1 = xn at *
  generalize x.2.2 = xs at *
  generalize (Tr.enc (.t3 x c0 a b)).length = n at *
  have e1 : bs [123] = ⟨#[123]⟩ := rfl
  have e2 : bs [59] = ⟨#[59]⟩ := rfl
  have e3 : bs [125] = ⟨#[125]⟩ := rfl
  rw [e1, e2, e3] at HE
  clear e1 e2 e3
  go_enter Tryz.func30, Tryz.ntmps30
  go_wp2_with fail
  refine (KP.out _ hal).mono ?_
  rintro e w1 ⟨u1, rfl, hu1, hg1⟩
  have HU1 := Lib.hid hu1
  obtain ⟨U1, e1, rfl⟩ := tms_slice hu1
  clear hu1
  have g1 := Grew.trans hal hg1
  go_wp2_with fail
  refine (KI.out _ _ HU1.out).mono ?_
  rintro e w2 ⟨rfl, hg2⟩
  have g2 := g1.trans hg2
  go_wp2_with fail
  refine (KQ.out _ g2).mono ?_
  rintro e w3 ⟨u3, rfl, hu3, hg3⟩
  have HU3 := Lib.hid hu3
  obtain ⟨U3, e3, rfl⟩ := tms_slice hu3
  clear hu3
  have g3 := Grew.trans g2 hg3
  go_wp2_with fail
  refine (KJ.out _ _ HU3.out).mono ?_
  rintro e w4 ⟨rfl, hg4⟩
  have g4 := g3.trans hg4
  go_wp2_with fail
  refine (KR.out _ g4).mono ?_
  rintro e w5 ⟨u5, rfl, hu5, hg5⟩
  have HU5 := Lib.hid hu5
  obtain ⟨U5, e5, rfl⟩ := tms_slice hu5
  clear hu5
  have g5 := Grew.trans g4 hg5
  go_wp2_with fail
  refine (KL.out _ _ HU5.out).mono ?_
  rintro e w6 ⟨rfl, hg6⟩
  have g6 := g5.trans hg6
  go_wp2_with fail
  go_ret
  exact ⟨by rw [← HE.out]; rfl, g6⟩

theorem l26Text_c : ∀ t : Tm, Good t → (Tr.enc t).length ≤ 60 → TxtS t := by
  intro t
  induction t with
  | t0 x => exact fun hg _ => l26Text_var x hg
  | t1 x a iha =>
    intro hg hn
    have hk := ar_one (show Tr.ar x.1 = 1 from hg.1.1)
    have ha : (Tr.enc a).length ≤ 60 := by simp [Tr.enc] at hn; omega
    have IH := iha hg.2 ha
    rcases hk with hk | hk | hk | hk | hk | hk
    · exact l26Text_lam x a hg hk IH ha
    · exact l26Text_fst x a hg hk IH ha
    · exact l26Text_snd x a hg hk IH ha
    · exact l26Text_inl x a hg hk IH ha
    · exact l26Text_inr x a hg hk IH ha
    · exact l26Text_abort x a hg hk IH ha
  | t2 x a b iha ihb =>
    intro hg hn
    have hk := ar_two (show Tr.ar x.1 = 2 from hg.1.1)
    have ha : (Tr.enc a).length ≤ 60 := by simp [Tr.enc] at hn; omega
    have hb : (Tr.enc b).length ≤ 60 := by simp [Tr.enc] at hn; omega
    rcases hk with hk | hk
    · exact l26Text_app x a b hg hk (iha hg.2.1 ha) (ihb hg.2.2 hb) hn
    · exact l26Text_pair x a b hg hk (iha hg.2.1 ha) (ihb hg.2.2 hb) hn
  | t3 x c a b ihc iha ihb =>
    intro hg hn
    have hk := ar_three (show Tr.ar x.1 = 3 from hg.1.1)
    have hc : (Tr.enc c).length ≤ 60 := by simp [Tr.enc] at hn; omega
    have ha : (Tr.enc a).length ≤ 60 := by simp [Tr.enc] at hn; omega
    have hb : (Tr.enc b).length ≤ 60 := by simp [Tr.enc] at hn; omega
    exact l26Text_case x c a b hg hk (ihc hg.2.1 hc) (iha hg.2.2.1 ha) (ihb hg.2.2.2 hb) hn
end Go.Proofs.YtfpkfgimhanekaaGreat

/- SameNormal of both. -/
namespace Go.Proofs.YtfpkfgimhanekaaGreat
open Go.RowKit
open Tr (Tm)

/-- Have two terms the same normal term? -/
noncomputable def snF (L : List ByteArray) (xs ys : List Tn) : Bool × Int :=
  if (nfF L xs).2.2 = 1 ∨ (nfF L ys).2.2 = 1 then (false, 1) else if (nfF L xs).2.2 = 5 ∨ (nfF L ys).2.2 = 5 then (false, 5) else if (nfF L xs).2.2 ≠ 0 ∨ (nfF L ys).2.2 ≠ 0 then (false, 3) else (decide ((nfF L xs).1 = (nfF L ys).1), 0)
def GivesBI (w : World) (r : Bool × Int) (e : Ending) (w' : World) : Prop := e = .returned (.tuple #[.bool r.1, .int .i64 r.2]) ∧ Grew w w'

/-- What the normal term's code tells. -/
theorem nf_cases (L : List ByteArray) (xs : List Tn) :
    ((asl L && tmB xs) = false ∧ (nfF L xs).2.2 = 1) ∨ ((asl L = true ∧ tmB xs = true) ∧ ((ty (L.map fo) (tmT xs) = none ∧ (nfF L xs).2.2 = 5) ∨ (∃ A, ty (L.map fo) (tmT xs) = some A ∧ nfF L xs = nrm 200 (tmT xs) L.length ∧ (((nfF L xs).2.2 = 0 ∧ ∃ u, Good u ∧ Tr.enc u = (nfF L xs).1 ∧ (Tr.enc u).length ≤ 60) ∨ (nfF L xs).2.2 = 3)))) := by
  cases h : (asl L && tmB xs) with
  | false => exact .inl ⟨rfl, by unfold nfF; rw [h]; rfl⟩
  | true =>
    refine .inr ⟨by simpa using h, ?_⟩
    have hx := (by simpa using h : asl L = true ∧ tmB xs = true)
    cases hT : ty (L.map fo) (tmT xs) with
    | none => exact .inl ⟨rfl, by unfold nfF; rw [h, if_pos rfl, hT]⟩
    | some A =>
      have e : nfF L xs = nrm 200 (tmT xs) L.length := by unfold nfF; rw [h, if_pos rfl, hT]
      refine .inr ⟨A, rfl, e, ?_⟩
      rw [e]
      rcases nrm_tree (L.length : Int) (by omega) 200 (tmT xs) (tmT_ok hx.2).1 (by rw [(tmT_ok hx.2).2.1]; exact (tmT_ok hx.2).2.2) with h1 | h1
      · exact .inl h1
      · rw [h1]; exact .inr rfl

theorem snF_bad {L : List ByteArray} {xs ys : List Tn} (h : asl L = false ∨ tmB xs = false ∨ tmB ys = false) : snF L xs ys = (false, 1) := by
  unfold snF
  refine if_pos ?_
  have e : ∀ zs, (asl L && tmB zs) = false → (nfF L zs).2.2 = 1 := fun zs hz => by unfold nfF; rw [hz]; rfl
  rcases h with h | h | h
  · exact .inl (e _ (by rw [h]; rfl))
  · exact .inl (e _ (by rw [h]; simp))
  · exact .inr (e _ (by rw [h]; simp))
theorem nf_ne1 {L : List ByteArray} {xs : List Tn} (ha : asl L = true) (hb : tmB xs = true) : (nfF L xs).2.2 ≠ 1 := by
  rcases nf_cases L xs with ⟨h, _⟩ | ⟨_, ⟨_, h⟩ | ⟨A, _, _, ⟨h, _⟩ | h⟩⟩
  · rw [ha, hb] at h; cases h
  all_goals rw [h]; decide

theorem specSn_c (va : Value) (L : List ByteArray) (vt : Value) (xs : List Tn) (vu : Value) (ys : List Tn) (w : World) (hs : Strs w va L) (ht : Tms w vt xs) (hu : Tms w vu ys) (f0 : Fits L) (n0 : L.length ≤ 1048576) (f1 : FitsT xs) (n1 : xs.length ≤ 1048576) (f2 : FitsT ys) (n2 : ys.length ≤ 1048576) :
    Calls Tryz.prog 15 #[va, vt, vu] w (GivesBI w (snF L xs ys)) := by
  have KL := fun W (hW : Grew w W) => l25List_c va L W (hs.grew hW) f0
  have KT := fun W (hW : Grew w W) => l26Is_c vt xs W (ht.grew hW) f1 n1
  have KU := fun W (hW : Grew w W) => l26Is_c vu ys W (hu.grew hW) f2 n2
  have KN := fun W (hW : Grew w W) => l26Normal_c va L vt xs W (hs.grew hW) (ht.grew hW) f0 n0 f1 n1
  have KM := fun W (hW : Grew w W) => l26Normal_c va L vu ys W (hs.grew hW) (hu.grew hW) f0 n0 f2 n2
  have HB := fun h => snF_bad (L := L) (xs := xs) (ys := ys) h
  have hx1 := fun h1 h2 => nf_ne1 (L := L) (xs := xs) h1 h2
  have hy1 := fun h1 h2 => nf_ne1 (L := L) (xs := ys) h1 h2
  have hX := nf_cases L xs
  have hY := nf_cases L ys
  obtain ⟨A, c, rfl⟩ := strs_slice hs
  obtain ⟨B, d, rfl⟩ := tms_slice ht
  obtain ⟨C, e, rfl⟩ := tms_slice hu
  clear hs ht hu f0 f1 f2
  have r0 := Grew.refl w
  unfold GivesNo at KN KM
  unfold GivesBI
  cases ha : asl L with
  | false =>
    rw [HB (.inl ha)]
    rw [ha] at KL
    replace KL := Lib.hid KL
    clear KT KU KN KM HB hx1 hy1 hX hY ha
    generalize L.length = gl at *
    generalize xs.length = xl at *
    generalize ys.length = yl at *
    go_enter Tryz.func15, Tryz.ntmps15
    go_wp2_with fail
    refine (KL.out _ r0).mono ?_
    rintro e w1 ⟨rfl, hg1⟩
    go_wp2_with fail
    go_ret2
    exact ⟨rfl, hg1⟩
  | true =>
    rw [ha] at KL
    replace KL := Lib.hid KL
    cases hb : tmB xs with
    | false =>
      rw [HB (.inr (.inl hb))]
      rw [hb] at KT
      replace KT := Lib.hid KT
      clear KU KN KM HB hx1 hy1 hX hY ha hb
      generalize L.length = gl at *
      generalize xs.length = xl at *
      generalize ys.length = yl at *
      go_enter Tryz.func15, Tryz.ntmps15
      go_wp2_with fail
      refine (KL.out _ r0).mono ?_
      rintro e w1 ⟨rfl, hg1⟩
      go_wp2_with fail
      refine (KT.out _ hg1).mono ?_
      rintro e w2 ⟨rfl, hg2⟩
      go_wp2_with fail
      go_ret2
      exact ⟨rfl, hg1.trans hg2⟩
    | true =>
      rw [hb] at KT
      replace KT := Lib.hid KT
      cases hc : tmB ys with
      | false =>
        rw [HB (.inr (.inr hc))]
        rw [hc] at KU
        replace KU := Lib.hid KU
        clear KN KM HB hx1 hy1 hX hY ha hb hc
        generalize L.length = gl at *
        generalize xs.length = xl at *
        generalize ys.length = yl at *
        go_enter Tryz.func15, Tryz.ntmps15
        go_wp2_with fail
        refine (KL.out _ r0).mono ?_
        rintro e w1 ⟨rfl, hg1⟩
        go_wp2_with fail
        refine (KT.out _ hg1).mono ?_
        rintro e w2 ⟨rfl, hg2⟩
        go_wp2_with fail
        refine (KU.out _ (hg1.trans hg2)).mono ?_
        rintro e w3 ⟨rfl, hg3⟩
        go_wp2_with fail
        go_ret2
        exact ⟨rfl, (hg1.trans hg2).trans hg3⟩
      | true =>
        rw [hc] at KU
        replace KU := Lib.hid KU
        replace hx1 := hx1 ha hb
        replace hy1 := hy1 ha hc
        have hx5 : ((nfF L xs).2.2 = 0 ∧ ∃ u, Good u ∧ Tr.enc u = (nfF L xs).1 ∧ (Tr.enc u).length ≤ 60) ∨ (nfF L xs).2.2 = 3 ∨ (nfF L xs).2.2 = 5 := by
          rcases hX with ⟨h, _⟩ | ⟨_, ⟨_, h⟩ | ⟨A, _, _, h | h⟩⟩
          · rw [ha, hb] at h; cases h
          · exact .inr (.inr h)
          · exact .inl h
          · exact .inr (.inl h)
        have hy5 : ((nfF L ys).2.2 = 0 ∧ ∃ u, Good u ∧ Tr.enc u = (nfF L ys).1 ∧ (Tr.enc u).length ≤ 60) ∨ (nfF L ys).2.2 = 3 ∨ (nfF L ys).2.2 = 5 := by
          rcases hY with ⟨h, _⟩ | ⟨_, ⟨_, h⟩ | ⟨A, _, _, h | h⟩⟩
          · rw [ha, hc] at h; cases h
          · exact .inr (.inr h)
          · exact .inl h
          · exact .inr (.inl h)
        have hsn : snF L xs ys = if (nfF L xs).2.2 = 5 ∨ (nfF L ys).2.2 = 5 then (false, 5) else if (nfF L xs).2.2 ≠ 0 ∨ (nfF L ys).2.2 ≠ 0 then (false, 3) else (decide ((nfF L xs).1 = (nfF L ys).1), 0) := by
          unfold snF; rw [if_neg (fun h => h.elim hx1 hy1)]
        rw [hsn]
        clear HB hX hY hsn hx1 hy1 ha hb hc
        generalize nfF L xs = X at *
        generalize nfF L ys = Y at *
        obtain ⟨xa, xb, xc⟩ := X
        obtain ⟨ya, yb, yc⟩ := Y
        simp only at KN KM hx5 hy5 ⊢
        generalize L.length = gl at *
        generalize xs.length = xl at *
        generalize ys.length = yl at *
        have hcases : (xc = 5 ∨ yc = 5) ∨ ((xc = 3 ∨ yc = 3) ∧ xc ≠ 5 ∧ yc ≠ 5 ∧ (xc = 0 ∨ xc = 3) ∧ (yc = 0 ∨ yc = 3)) ∨ (xc = 0 ∧ yc = 0) := by
          rcases hx5 with ⟨h, _⟩ | h | h <;> rcases hy5 with ⟨k, _⟩ | k | k <;> omega
        rcases hcases with h5 | ⟨h3, h6, h7, h8, h9⟩ | ⟨hx0, hy0⟩
        · rw [if_pos h5]
          replace KN := Lib.hid KN
          replace KM := Lib.hid KM
          clear hx5 hy5
          by_cases hx : xc = 5
          · subst hx
            clear h5
            go_enter Tryz.func15, Tryz.ntmps15
            go_wp2_with fail
            refine (KL.out _ r0).mono ?_
            rintro e w1 ⟨rfl, hg1⟩
            go_wp2_with fail
            refine (KT.out _ hg1).mono ?_
            rintro e w2 ⟨rfl, hg2⟩
            have g2 := hg1.trans hg2
            go_wp2_with fail
            refine (KU.out _ g2).mono ?_
            rintro e w3 ⟨rfl, hg3⟩
            have g3 := g2.trans hg3
            go_wp2_with fail
            refine (KN.out _ g3).mono ?_
            rintro e w4 ⟨u4, rfl, _, hg4⟩
            have g4 := g3.trans hg4
            go_wp2_with fail
            refine (KM.out _ g4).mono ?_
            rintro e w5 ⟨u5, rfl, _, hg5⟩
            have g5 := g4.trans hg5
            go_wp2_with fail
            go_ret2
            exact ⟨rfl, g5⟩
          · have hxb : (xc == 5) = false := by simpa using hx
            obtain rfl : yc = 5 := h5.resolve_left hx
            clear h5 hx
            go_enter Tryz.func15, Tryz.ntmps15
            go_wp2_with fail
            refine (KL.out _ r0).mono ?_
            rintro e w1 ⟨rfl, hg1⟩
            go_wp2_with fail
            refine (KT.out _ hg1).mono ?_
            rintro e w2 ⟨rfl, hg2⟩
            have g2 := hg1.trans hg2
            go_wp2_with fail
            refine (KU.out _ g2).mono ?_
            rintro e w3 ⟨rfl, hg3⟩
            have g3 := g2.trans hg3
            go_wp2_with fail
            refine (KN.out _ g3).mono ?_
            rintro e w4 ⟨u4, rfl, _, hg4⟩
            have g4 := g3.trans hg4
            go_wp2_with fail
            refine (KM.out _ g4).mono ?_
            rintro e w5 ⟨u5, rfl, _, hg5⟩
            have g5 := g4.trans hg5
            go_wp2_with fail
            go_ret2
            exact ⟨rfl, g5⟩
        · rw [if_neg (by omega), if_pos (by omega)]
          replace KN := Lib.hid KN
          replace KM := Lib.hid KM
          clear hx5 hy5
          by_cases hx : xc = 3
          · subst hx
            have hyb : (yc == 5) = false := by simpa using h7
            clear h3 h6 h7 h8 h9
            go_enter Tryz.func15, Tryz.ntmps15
            go_wp2_with fail
            refine (KL.out _ r0).mono ?_
            rintro e w1 ⟨rfl, hg1⟩
            go_wp2_with fail
            refine (KT.out _ hg1).mono ?_
            rintro e w2 ⟨rfl, hg2⟩
            have g2 := hg1.trans hg2
            go_wp2_with fail
            refine (KU.out _ g2).mono ?_
            rintro e w3 ⟨rfl, hg3⟩
            have g3 := g2.trans hg3
            go_wp2_with fail
            refine (KN.out _ g3).mono ?_
            rintro e w4 ⟨u4, rfl, _, hg4⟩
            have g4 := g3.trans hg4
            go_wp2_with fail
            refine (KM.out _ g4).mono ?_
            rintro e w5 ⟨u5, rfl, _, hg5⟩
            have g5 := g4.trans hg5
            go_wp2_with fail
            go_ret2
            exact ⟨rfl, g5⟩
          · obtain rfl : xc = 0 := h8.resolve_right hx
            obtain rfl : yc = 3 := h3.resolve_left (by decide)
            clear h3 h6 h7 h8 h9 hx
            go_enter Tryz.func15, Tryz.ntmps15
            go_wp2_with fail
            refine (KL.out _ r0).mono ?_
            rintro e w1 ⟨rfl, hg1⟩
            go_wp2_with fail
            refine (KT.out _ hg1).mono ?_
            rintro e w2 ⟨rfl, hg2⟩
            have g2 := hg1.trans hg2
            go_wp2_with fail
            refine (KU.out _ g2).mono ?_
            rintro e w3 ⟨rfl, hg3⟩
            have g3 := g2.trans hg3
            go_wp2_with fail
            refine (KN.out _ g3).mono ?_
            rintro e w4 ⟨u4, rfl, _, hg4⟩
            have g4 := g3.trans hg4
            go_wp2_with fail
            refine (KM.out _ g4).mono ?_
            rintro e w5 ⟨u5, rfl, _, hg5⟩
            have g5 := g4.trans hg5
            go_wp2_with fail
            go_ret2
            exact ⟨rfl, g5⟩
        · subst hx0 hy0
          rw [if_neg (by decide), if_neg (by decide)]
          obtain ⟨tu, hu1, rfl, hu3⟩ : ∃ u, Good u ∧ Tr.enc u = xa ∧ (Tr.enc u).length ≤ 60 := by
            rcases hx5 with ⟨_, h⟩ | h | h
            · exact h
            · cases h
            · cases h
          obtain ⟨tv, hv1, rfl, hv3⟩ : ∃ u, Good u ∧ Tr.enc u = ya ∧ (Tr.enc u).length ≤ 60 := by
            rcases hy5 with ⟨_, h⟩ | h | h
            · exact h
            · cases h
            · cases h
          clear hx5 hy5
          have K1 := Lib.hid (l26Text_c tu hu1 hu3)
          have K2 := Lib.hid (l26Text_c tv hv1 hv3)
          have hq : ((bs (ttx tu)).toList == (bs (ttx tv)).toList) = decide (Tr.enc tu = Tr.enc tv) := by
            by_cases hh : tu = tv
            · subst hh; simp
            · have h1 : Tr.enc tu ≠ Tr.enc tv := fun h => hh (enc_tm hu1 hv1 h)
              rw [decide_eq_false h1]
              cases hz : ((bs (ttx tu)).toList == (bs (ttx tv)).toList) with
              | false => rfl
              | true =>
                have h2 := (Lib.bytes_beq_iff _ _).1 hz
                have h3 := congrArg (fun s : ByteArray => s.data.toList) h2
                simp only [bs_list] at h3
                exact absurd (ttx_eq hu1 hv1 h3) hh
          unfold TxtS Says at K1 K2
          replace hq := Lib.hid hq
          generalize decide (Tr.enc tu = Tr.enc tv) = Q at *
          generalize bs (ttx tu) = s1 at *
          generalize bs (ttx tv) = s2 at *
          replace KN := Lib.hid KN
          replace KM := Lib.hid KM
          go_enter Tryz.func15, Tryz.ntmps15
          go_wp2_with fail
          refine (KL.out _ r0).mono ?_
          rintro e w1 ⟨rfl, hg1⟩
          go_wp2_with fail
          refine (KT.out _ hg1).mono ?_
          rintro e w2 ⟨rfl, hg2⟩
          have g2 := hg1.trans hg2
          go_wp2_with fail
          refine (KU.out _ g2).mono ?_
          rintro e w3 ⟨rfl, hg3⟩
          have g3 := g2.trans hg3
          go_wp2_with fail
          refine (KN.out _ g3).mono ?_
          rintro e w4 ⟨u4, rfl, ho4, hg4⟩
          have HO4 := Lib.hid ho4.tms
          clear ho4
          have g4 := g3.trans hg4
          go_wp2_with fail
          refine (KM.out _ g4).mono ?_
          rintro e w5 ⟨u5, rfl, ho5, hg5⟩
          have HO5 := Lib.hid ho5.tms
          clear ho5
          have g5 := g4.trans hg5
          go_wp2_with fail
          refine (K1.out _ _ (HO4.out.grew hg5)).mono ?_
          rintro e w6 ⟨rfl, hg6⟩
          go_wp2_with fail
          refine (K2.out _ _ (HO5.out.grew hg6)).mono ?_
          rintro e w7 ⟨rfl, hg7⟩
          go_wp2_with fail
          go_ret2
          exact ⟨by rw [← hq.out]; rfl, (g5.trans hg6).trans hg7⟩
end Go.Proofs.YtfpkfgimhanekaaGreat

/- SameNormal of the program. -/
namespace Go.Proofs.YtfpkfgimhanekaaGreat
open Go.RowKit
open Tr (Tm)

set_option maxHeartbeats 1000000 in
theorem implSn_c (va : Value) (L : List ByteArray) (vt : Value) (xs : List Tn) (vu : Value) (ys : List Tn) (w : World) (hs : Strs w va L) (ht : Tms w vt xs) (hu : Tms w vu ys) (f0 : Fits L) (n0 : L.length ≤ 1048576) (f1 : FitsT xs) (n1 : xs.length ≤ 1048576) (f2 : FitsT ys) (n2 : ys.length ≤ 1048576) :
    Calls Tryz.prog 17 #[va, vt, vu] w (GivesBI w (snF L xs ys)) := by
  have KL := fun W (hW : Grew w W) => isAssumptionList_c va L W (hs.grew hW) f0
  have KT := fun W (hW : Grew w W) => isTerm_c vt xs W (ht.grew hW) f1 n1
  have KU := fun W (hW : Grew w W) => isTerm_c vu ys W (hu.grew hW) f2 n2
  have KY := fun (ha : asl L = true) (hb : tmB xs = true) W (hW : Grew w W) => typeOf_c (tmT xs) (tmT_ok hb).1 (by rw [(tmT_ok hb).2.1]; exact (tmT_ok hb).2.2) (L.map fo) (asl_ok ha).2.1 (asl_ok ha).1 va vt W (by rw [(asl_ok ha).2.2]; exact hs.grew hW) (by rw [(tmT_ok hb).2.1]; exact ht.grew hW)
  have KZ := fun (ha : asl L = true) (hb : tmB ys = true) W (hW : Grew w W) => typeOf_c (tmT ys) (tmT_ok hb).1 (by rw [(tmT_ok hb).2.1]; exact (tmT_ok hb).2.2) (L.map fo) (asl_ok ha).2.1 (asl_ok ha).1 va vu W (by rw [(asl_ok ha).2.2]; exact hs.grew hW) (by rw [(tmT_ok hb).2.1]; exact hu.grew hW)
  have KS := Lib.hid (fun W (hW : Grew w W) => sizeS_c va L W (hs.grew hW))
  have KN := fun (ha : asl L = true) (hb : tmB xs = true) W (hW : Grew w W) => normalTerm_c vt (tmT xs) L.length W (by rw [(tmT_ok hb).2.1]; exact ht.grew hW) (tmT_ok hb).1 (by rw [(tmT_ok hb).2.1]; exact (tmT_ok hb).2.2) (by omega) (by have := (asl_map ha).1; omega)
  have KM := fun (ha : asl L = true) (hb : tmB ys = true) W (hW : Grew w W) => normalTerm_c vu (tmT ys) L.length W (by rw [(tmT_ok hb).2.1]; exact hu.grew hW) (tmT_ok hb).1 (by rw [(tmT_ok hb).2.1]; exact (tmT_ok hb).2.2) (by omega) (by have := (asl_map ha).1; omega)
  have HB := fun h => snF_bad (L := L) (xs := xs) (ys := ys) h
  have hx1 := fun h1 h2 => nf_ne1 (L := L) (xs := xs) h1 h2
  have hy1 := fun h1 h2 => nf_ne1 (L := L) (xs := ys) h1 h2
  have hX := nf_cases L xs
  have hY := nf_cases L ys
  obtain ⟨A, c, rfl⟩ := strs_slice hs
  obtain ⟨B, d, rfl⟩ := tms_slice ht
  obtain ⟨C, e, rfl⟩ := tms_slice hu
  clear hs ht hu f0 f1 f2
  have r0 := Grew.refl w
  unfold GivesTy at KY KZ
  unfold GivesNr at KN KM
  unfold GivesBI
  cases hb : tmB xs with
  | false =>
    rw [HB (.inr (.inl hb))]
    rw [hb] at KT
    replace KT := Lib.hid KT
    clear KL KU KN KM KY KZ KS HB hx1 hy1 hX hY hb
    generalize L.length = gl at *
    generalize xs.length = xl at *
    generalize ys.length = yl at *
    go_enter Tryz.func17, Tryz.ntmps17
    go_wp2_with fail
    refine (KT.out _ r0).mono ?_
    rintro e w1 ⟨rfl, hg1⟩
    go_wp2_with fail
    go_ret2
    exact ⟨rfl, hg1⟩
  | true =>
    rw [hb] at KT
    replace KT := Lib.hid KT
    cases hc : tmB ys with
    | false =>
      rw [HB (.inr (.inr hc))]
      rw [hc] at KU
      replace KU := Lib.hid KU
      clear KL KN KM KY KZ KS HB hx1 hy1 hX hY hb hc
      generalize L.length = gl at *
      generalize xs.length = xl at *
      generalize ys.length = yl at *
      go_enter Tryz.func17, Tryz.ntmps17
      go_wp2_with fail
      refine (KT.out _ r0).mono ?_
      rintro e w1 ⟨rfl, hg1⟩
      go_wp2_with fail
      refine (KU.out _ hg1).mono ?_
      rintro e w2 ⟨rfl, hg2⟩
      go_wp2_with fail
      go_ret2
      exact ⟨rfl, hg1.trans hg2⟩
    | true =>
      rw [hc] at KU
      replace KU := Lib.hid KU
      cases ha : asl L with
      | false =>
        rw [HB (.inl ha)]
        rw [ha] at KL
        replace KL := Lib.hid KL
        clear KN KM KY KZ KS HB hx1 hy1 hX hY ha hb hc
        generalize L.length = gl at *
        generalize xs.length = xl at *
        generalize ys.length = yl at *
        go_enter Tryz.func17, Tryz.ntmps17
        go_wp2_with fail
        refine (KT.out _ r0).mono ?_
        rintro e w1 ⟨rfl, hg1⟩
        go_wp2_with fail
        refine (KU.out _ hg1).mono ?_
        rintro e w2 ⟨rfl, hg2⟩
        go_wp2_with fail
        refine (KL.out _ (hg1.trans hg2)).mono ?_
        rintro e w3 ⟨rfl, hg3⟩
        go_wp2_with fail
        go_ret2
        exact ⟨rfl, (hg1.trans hg2).trans hg3⟩
      | true =>
        rw [ha] at KL
        replace KL := Lib.hid KL
        replace hx1 := hx1 ha hb
        replace hy1 := hy1 ha hc
        replace KY := KY ha hb
        replace KZ := KZ ha hc
        replace KN := KN ha hb
        replace KM := KM ha hc
        have hsn : snF L xs ys = if (nfF L xs).2.2 = 5 ∨ (nfF L ys).2.2 = 5 then (false, 5) else if (nfF L xs).2.2 ≠ 0 ∨ (nfF L ys).2.2 ≠ 0 then (false, 3) else (decide ((nfF L xs).1 = (nfF L ys).1), 0) := by
          unfold snF; rw [if_neg (fun h => h.elim hx1 hy1)]
        rw [hsn]
        replace hX := (hX.resolve_left (fun h => by have := h.1; rw [ha, hb] at this; cases this)).2
        replace hY := (hY.resolve_left (fun h => by have := h.1; rw [ha, hc] at this; cases this)).2
        clear HB hsn hx1 hy1 ha hb hc
        generalize ty (L.map fo) (tmT xs) = rx at *
        generalize ty (L.map fo) (tmT ys) = ry at *
        by_cases h5 : (nfF L xs).2.2 = 5 ∨ (nfF L ys).2.2 = 5
        · rw [if_pos h5]
          clear KN KM KS
          generalize L.length = gl at *
          generalize xs.length = xl at *
          generalize ys.length = yl at *
          have hr : rx = none ∨ (∃ A, rx = some A) ∧ ry = none := by
            rcases hX with ⟨h, _⟩ | ⟨A, h, _, h2⟩
            · exact .inl h
            · refine .inr ⟨⟨A, h⟩, ?_⟩
              have hx5 : (nfF L xs).2.2 ≠ 5 := by rcases h2 with h2 | h2 <;> omega
              have hy5 := h5.resolve_left hx5
              rcases hY with ⟨h, _⟩ | ⟨A, _, _, h2⟩
              · exact h
              · rcases h2 with h2 | h2 <;> omega
          clear hX hY h5
          rcases hr with rfl | ⟨⟨A, rfl⟩, rfl⟩
          all_goals
            replace KY := Lib.hid KY
            replace KZ := Lib.hid KZ
            go_enter Tryz.func17, Tryz.ntmps17
            go_wp2_with fail
            refine (KT.out _ r0).mono ?_
            rintro e w1 ⟨rfl, hg1⟩
            go_wp2_with fail
            refine (KU.out _ hg1).mono ?_
            rintro e w2 ⟨rfl, hg2⟩
            have g2 := hg1.trans hg2
            go_wp2_with fail
            refine (KL.out _ g2).mono ?_
            rintro e w3 ⟨rfl, hg3⟩
            have g3 := g2.trans hg3
            go_wp2_with fail
            refine (KY.out _ g3).mono ?_
            rintro e w4 ⟨s4, rfl, _, hg4⟩
            have g4 := g3.trans hg4
            go_wp2_with fail
            refine (KZ.out _ g4).mono ?_
            rintro e w5 ⟨s5, rfl, _, hg5⟩
            have g5 := g4.trans hg5
            go_wp2_with fail
            go_ret2
            exact ⟨rfl, g5⟩
        · rw [if_neg h5]
          rw [not_or] at h5
          obtain ⟨A1, rfl, hxn, hx3⟩ := hX.resolve_left (fun h => h5.1 h.2)
          obtain ⟨A2, rfl, hyn, hy3⟩ := hY.resolve_left (fun h => h5.2 h.2)
          have hxl : (nfF L xs).1.length ≤ 1048576 := nfF_len L xs
          have KE := Lib.hid (fun u v W (h1 : Tms W u (nfF L xs).1) (h2 : Tms W v (nfF L ys).1) => equalT_c u v _ _ W h1 h2 (by omega))
          rw [← hxn] at KN
          rw [← hyn] at KM
          clear hX hY hxn hyn
          generalize nfF L xs = X at *
          generalize nfF L ys = Y at *
          obtain ⟨xa, xb, xc⟩ := X
          obtain ⟨ya, yb, yc⟩ := Y
          simp only at KN KM h5 hx3 hy3 KE ⊢
          have hx4 : xc = 0 ∨ xc = 3 := by rcases hx3 with ⟨h, _⟩ | h; exact .inl h; exact .inr h
          have hy4 : yc = 0 ∨ yc = 3 := by rcases hy3 with ⟨h, _⟩ | h; exact .inl h; exact .inr h
          clear hx3 hy3 hxl
          generalize L.length = gl at *
          generalize xs.length = xl at *
          generalize ys.length = yl at *
          replace KY := Lib.hid KY
          replace KZ := Lib.hid KZ
          replace KN := Lib.hid KN
          replace KM := Lib.hid KM
          clear h5
          have hc3 : (xc = 3) ∨ (xc = 0 ∧ yc = 3) ∨ (xc = 0 ∧ yc = 0) := by omega
          clear hx4 hy4
          rcases hc3 with rfl | ⟨rfl, rfl⟩ | ⟨rfl, rfl⟩
          · rw [if_pos (.inl (by decide))]
            go_enter Tryz.func17, Tryz.ntmps17
            go_wp2_with fail
            refine (KT.out _ r0).mono ?_
            rintro e w1 ⟨rfl, hg1⟩
            go_wp2_with fail
            refine (KU.out _ hg1).mono ?_
            rintro e w2 ⟨rfl, hg2⟩
            have g2 := hg1.trans hg2
            go_wp2_with fail
            refine (KL.out _ g2).mono ?_
            rintro e w3 ⟨rfl, hg3⟩
            have g3 := g2.trans hg3
            go_wp2_with fail
            refine (KY.out _ g3).mono ?_
            rintro e w4 ⟨s4, rfl, _, hg4⟩
            have g4 := g3.trans hg4
            go_wp2_with fail
            refine (KZ.out _ g4).mono ?_
            rintro e w5 ⟨s5, rfl, _, hg5⟩
            have g5 := g4.trans hg5
            go_wp2_with fail
            refine (KS.out _ g5).mono ?_
            rintro e w6 ⟨rfl, hg6⟩
            have g6 := g5.trans hg6
            go_wp2_with fail
            refine (KN.out _ g6).mono ?_
            rintro e w7 ⟨u7, rfl, _, hg7⟩
            have g7 := g6.trans hg7
            go_wp2_with fail
            refine (KS.out _ g7).mono ?_
            rintro e w8 ⟨rfl, hg8⟩
            have g8 := g7.trans hg8
            go_wp2_with fail
            refine (KM.out _ g8).mono ?_
            rintro e w9 ⟨u9, rfl, _, hg9⟩
            have g9 := g8.trans hg9
            go_wp2_with fail
            go_ret2
            exact ⟨rfl, g9⟩
          · rw [if_pos (.inr (by decide))]
            go_enter Tryz.func17, Tryz.ntmps17
            go_wp2_with fail
            refine (KT.out _ r0).mono ?_
            rintro e w1 ⟨rfl, hg1⟩
            go_wp2_with fail
            refine (KU.out _ hg1).mono ?_
            rintro e w2 ⟨rfl, hg2⟩
            have g2 := hg1.trans hg2
            go_wp2_with fail
            refine (KL.out _ g2).mono ?_
            rintro e w3 ⟨rfl, hg3⟩
            have g3 := g2.trans hg3
            go_wp2_with fail
            refine (KY.out _ g3).mono ?_
            rintro e w4 ⟨s4, rfl, _, hg4⟩
            have g4 := g3.trans hg4
            go_wp2_with fail
            refine (KZ.out _ g4).mono ?_
            rintro e w5 ⟨s5, rfl, _, hg5⟩
            have g5 := g4.trans hg5
            go_wp2_with fail
            refine (KS.out _ g5).mono ?_
            rintro e w6 ⟨rfl, hg6⟩
            have g6 := g5.trans hg6
            go_wp2_with fail
            refine (KN.out _ g6).mono ?_
            rintro e w7 ⟨u7, rfl, _, hg7⟩
            have g7 := g6.trans hg7
            go_wp2_with fail
            refine (KS.out _ g7).mono ?_
            rintro e w8 ⟨rfl, hg8⟩
            have g8 := g7.trans hg8
            go_wp2_with fail
            refine (KM.out _ g8).mono ?_
            rintro e w9 ⟨u9, rfl, _, hg9⟩
            have g9 := g8.trans hg9
            go_wp2_with fail
            go_ret2
            exact ⟨rfl, g9⟩
          · rw [if_neg (by decide)]
            go_enter Tryz.func17, Tryz.ntmps17
            go_wp2_with fail
            refine (KT.out _ r0).mono ?_
            rintro e w1 ⟨rfl, hg1⟩
            go_wp2_with fail
            refine (KU.out _ hg1).mono ?_
            rintro e w2 ⟨rfl, hg2⟩
            have g2 := hg1.trans hg2
            go_wp2_with fail
            refine (KL.out _ g2).mono ?_
            rintro e w3 ⟨rfl, hg3⟩
            have g3 := g2.trans hg3
            go_wp2_with fail
            refine (KY.out _ g3).mono ?_
            rintro e w4 ⟨s4, rfl, _, hg4⟩
            have g4 := g3.trans hg4
            go_wp2_with fail
            refine (KZ.out _ g4).mono ?_
            rintro e w5 ⟨s5, rfl, _, hg5⟩
            have g5 := g4.trans hg5
            go_wp2_with fail
            refine (KS.out _ g5).mono ?_
            rintro e w6 ⟨rfl, hg6⟩
            have g6 := g5.trans hg6
            go_wp2_with fail
            refine (KN.out _ g6).mono ?_
            rintro e w7 ⟨u7, rfl, hu7, hg7⟩
            have HU7 := Lib.hid hu7
            clear hu7
            have g7 := g6.trans hg7
            go_wp2_with fail
            refine (KS.out _ g7).mono ?_
            rintro e w8 ⟨rfl, hg8⟩
            have g8 := g7.trans hg8
            go_wp2_with fail
            refine (KM.out _ g8).mono ?_
            rintro e w9 ⟨u9, rfl, hu9, hg9⟩
            have HU9 := Lib.hid hu9
            clear hu9
            have g9 := g8.trans hg9
            go_wp2_with fail
            refine (KE.out _ _ _ (HU7.out.grew (hg8.trans hg9)) HU9.out).mono ?_
            rintro e w10 ⟨rfl, hg10⟩
            go_wp2_with fail
            go_ret2
            exact ⟨rfl, g9.trans hg10⟩
end Go.Proofs.YtfpkfgimhanekaaGreat

/- The laws' own helpers on slices of strings: szStringS, toStringS, eqStringS. -/
namespace Go.Proofs.YtfpkfgimhanekaaGreat
open Go.RowKit

/-- A list of strings that came in. -/
def ArgS (w : World) (v : Value) (L : List ByteArray) : Prop :=
  (∃ A c, v = .slice A L.length c ∧ L.length ≤ 9223372036854775807) ∧ (0 < L.length → Strs w v L) ∧ ∀ i, i < L.length → (st L i).size ≤ 9223372036854775807
theorem ArgS.grew {w w' : World} {v : Value} {L : List ByteArray} (h : ArgS w v L) (hg : Grew w w') : ArgS w' v L := ⟨h.1, fun hp => (h.2.1 hp).grew hg, h.2.2⟩

/-- None of the first k is long. -/
def Small (L : List ByteArray) (k : Nat) : Prop := ∀ i, i < k → (st L i).size ≤ 1048576
theorem Small.zero (L : List ByteArray) : Small L 0 := fun i hi => absurd hi (by omega)
theorem Small.succ {L : List ByteArray} {k : Nat} (h : Small L k) (h1 : (st L k).size ≤ 1048576) : Small L (k + 1) := by
  intro i hi
  rcases Nat.lt_or_ge i k with hk | hk
  · exact h i hk
  · obtain rfl : i = k := by omega
    exact h1
/-- What the sizes' walk gives. -/
def Sizes (L : List ByteArray) (r : Int) : Prop := r ≤ 1048576 ∧ (0 ≤ r → L.length ≤ 1048576 ∧ Small L L.length)

theorem szStringS_c (v : Value) (L : List ByteArray) (left : Int) (w : World) (h : ArgS w v L) (h0 : 0 ≤ left) (h1 : left ≤ 1048576) :
    Calls Tryz.prog 14 #[v, .int .i64 left] w fun e w' => ∃ r : Int, e = .returned (.int .i64 r) ∧ Sizes L r ∧ Grew w w' := by
  obtain ⟨⟨A, c, rfl, hmax⟩, hS, hz⟩ := h
  by_cases hlong : left < L.length
  · clear hS hz
    go_enter Tryz.func14, Tryz.ntmps14
    go_wp2_with fail
    go_ret
    exact ⟨_, rfl, ⟨by omega, fun h => absurd h (by omega)⟩, Grew.refl _⟩
  · by_cases hp : 0 < L.length
    · rcases (hS hp).open_ with ⟨_, h2⟩ | ⟨b, o, c', hv, hc, hm, hb, hcell⟩
      · rw [h2] at hp; cases hp
      obtain ⟨rfl, rfl⟩ : A = some ⟨b, o, none⟩ ∧ c = c' := by simpa using hv
      clear hS hv
      have HE : Hid (∀ r : Int, (r ≤ 1048576 ∧ (0 ≤ r → L.length ≤ 1048576 ∧ Small L L.length)) → Sizes L r) := Lib.hid (fun _ h => h)
      have HC := Lib.hid hcell
      have HZ := Lib.hid hz
      clear hcell hz
      generalize hN : L.length = n at *
      clear hN
      go_enter Tryz.func14, Tryz.ntmps14
      go_wp2_with fail
      go_loopw [1, 5] (fun kk i wr => ∃ (j : Nat) (l : Int), j ≤ n ∧ i = .int .i64 j ∧ kk = .int .i64 l ∧ 0 ≤ l ∧ l ≤ left ∧ Grew w wr ∧ Hid (Small L j)) (fun _ i _ => n - (intOf i).toNat)
      case atStart => exact ⟨0, left - n, Nat.zero_le _, rfl, rfl, by omega, by omega, Grew.refl _, Small.zero _⟩
      case round =>
        obtain ⟨j, l, hj, rfl, rfl, hl0, hl1, hB, HJ⟩ := hrel
        by_cases hlt : j < n
        · have k1 := HC.out j hlt _ hB
          have k2 := HZ.out j hlt
          have HS := Lib.hid (fun h => HJ.out.succ (k := j) h)
          generalize st L j = x at *
          by_cases hbig : l < x.size
          · go_wp2_with fail
            go_ret
            exact ⟨_, rfl, HE.out _ ⟨by omega, fun h => absurd h (by omega)⟩, hB⟩
          · go_wp2_with fail
            go_roundw
            case rel => exact ⟨j + 1, l - x.size, by omega, by go_num, rfl, by omega, by omega, hB, HS.out (by omega)⟩
            case measure => simp [intOf]; omega
        · obtain rfl : j = n := by omega
          go_wp2_with fail
          go_ret
          exact ⟨_, rfl, HE.out _ ⟨by omega, fun _ => ⟨by omega, HJ.out⟩⟩, hB⟩
    · obtain rfl : L = [] := List.eq_nil_of_length_eq_zero (by omega)
      simp only [List.length_nil] at *
      go_enter Tryz.func14, Tryz.ntmps14
      go_wp2_with fail
      refine wp_loop_rounds 1 ?_; rw [rounds_succ]
      go_wp2_with fail
      go_ret
      exact ⟨_, rfl, ⟨by omega, fun _ => ⟨by simp, fun i hi => absurd hi (by simp)⟩⟩, Grew.refl _⟩

theorem one_step {cur : Array Value} {F : Nat → Value} {j : Nat} (hs : j < cur.size) (h : ∀ i, i < j → cur[i]? = some (F i)) :
    ∀ i, i < j + 1 → (cur.setIfInBounds j (F j))[i]? = some (F i) := by
  intro i hi
  simp only [Array.getElem?_setIfInBounds]
  rcases Nat.lt_or_ge i j with hk | hk
  · rw [if_neg (by omega)]
    exact h i hk
  · obtain rfl : i = j := by omega
    rw [if_pos rfl, if_pos hs]

theorem toStringS_c (v : Value) (L : List ByteArray) (w : World) (h : ArgS w v L) (hn : L.length ≤ 1048576) :
    Calls Tryz.prog 16 #[v] w (GivesS w L) := by
  obtain ⟨⟨A, c, rfl, hmax⟩, hS, _⟩ := h
  have hmk := run_make_row' (P := Tryz.prog) 34 9 (.string ByteArray.empty) 16 Tryz.underlying34 Tryz.infoStr rfl .i64 .i64 L.length (by omega) (by omega)
  have hend : ∀ cur w', w'.heap[w.heap.size]? = some (.cells cur 9 (0, 0)) → cur.size = L.length → (∀ i, i < L.length → cur[i]? = some (.string (st L i))) → OwnS w' w.heap.size (.slice (some ⟨w.heap.size, 0, none⟩) L.length L.length) L :=
    fun cur w' h1 h2 h3 => OwnS.mk_ (Nat.le_refl _) h1 (Nat.le_refl _) (by omega) h2 h3
  have HE := Lib.hid hend
  clear hend
  have hsz : (madeCells #[Value.string ByteArray.empty] L.length).size = L.length := by simp [madeCells]
  have hnew := blk_new w (.cells (madeCells #[Value.string ByteArray.empty] L.length) 9)
  have hal := (Grew.refl w).alloc (.cells (madeCells #[Value.string ByteArray.empty] L.length) 9)
  generalize madeCells #[Value.string ByteArray.empty] L.length = cur0 at *
  by_cases hp : 0 < L.length
  · rcases (hS hp).open_ with ⟨_, h2⟩ | ⟨b, o, c', hv, hc, hm, hb, hcell⟩
    · rw [h2] at hp; cases hp
    obtain ⟨rfl, rfl⟩ : A = some ⟨b, o, none⟩ ∧ c = c' := by simpa using hv
    clear hS hv
    have HC := Lib.hid hcell
    clear hcell
    generalize hN : L.length = n at *
    clear hN
    have HNEW := Lib.hid hnew
    clear hnew
    have HAL := Lib.hid hal
    clear hal
    go_enter Tryz.func16, Tryz.ntmps16
    go_wp2_with fail
    go_loopw [4] (fun i wr => ∃ (j : Nat) (cur : Array Value), j ≤ n ∧ i = .int .i64 j ∧ wr.heap[w.heap.size]? = some (.cells cur 9 (0, 0)) ∧ cur.size = n ∧ Grew w wr ∧ (∀ i, i < j → cur[i]? = some (.string (st L i)))) (fun i _ => n - (intOf i).toNat)
    case atStart => exact ⟨0, cur0, Nat.zero_le _, rfl, HNEW.out, hsz, HAL.out, fun i hi => absurd hi (by omega)⟩
    case round =>
      obtain ⟨j, cur, hj, rfl, hh, hcs, hB, hc2⟩ := hrel
      have HD := Lib.hid hc2
      clear hc2
      by_cases hlt : j < n
      · have k1 := HC.out j hlt _ hB
        have HS := Lib.hid (one_step (F := fun i => .string (st L i)) (j := j) (by omega) HD.out)
        have f1 : ∀ i, wr.frozen? ⟨w.heap.size, i, none⟩ = false := fun i => by simp [World.frozen?, hh]
        obtain ⟨u1, hu1⟩ : ∃ u, wr.cell? ⟨w.heap.size, 0 + j, none⟩ = some u := by
          rw [cell_of_row wr w.heap.size _ cur _ (0, 0) hh]
          exact ⟨_, Array.getElem?_eq_getElem (by omega)⟩
        simp only [Nat.zero_add] at hu1
        have HH := Lib.hid hh
        clear hh
        generalize st L j = x at *
        go_wp2_with fail
        go_roundw
        case rel => exact ⟨j + 1, _, by omega, by go_num, blk_set HH.out _ _, by simp [hcs], hB.setCell (Nat.le_refl _) _, HS.out⟩
        case measure => simp [intOf]; omega
      · obtain rfl : j = n := by omega
        have HH := Lib.hid hh
        clear hh
        go_wp2_with fail
        go_ret
        exact ⟨_, rfl, HE.out _ _ HH.out hcs HD.out, hB⟩
  · have hp0 : L.length ≤ 0 := by omega
    have HNEW := Lib.hid hnew
    clear hnew hS hp
    have HAL := Lib.hid hal
    clear hal
    generalize hN : L.length = n at *
    clear hN
    go_enter Tryz.func16, Tryz.ntmps16
    go_wp2_with fail
    refine wp_loop_rounds 1 ?_; rw [rounds_succ]
    go_wp2_with fail
    go_ret
    exact ⟨_, rfl, HE.out _ _ HNEW.out hsz (fun i hi => absurd hi (by omega)), HAL.out⟩

/-- Two lists of strings that are equal. -/
theorem eqStringS_yes (v1 v2 : Value) (L : List ByteArray) (w : World) (h1 : Strs w v1 L) (h2 : Strs w v2 L) (hn : L.length ≤ 1099511627776) :
    Calls Tryz.prog 18 #[v1, v2] w fun e w' => e = .returned (.bool true) ∧ Grew w w' := by
  rcases h1.open_ with ⟨rfl, rfl⟩ | ⟨b1, o1, c1, rfl, hc1, hm1, hb1, hf⟩
  · obtain ⟨A, c, rfl⟩ := strs_slice h2
    go_enter Tryz.func18, Tryz.ntmps18
    go_wp2_with fail
    refine wp_loop_rounds 1 ?_; rw [rounds_succ]
    go_wp2_with fail
    go_ret
    exact ⟨rfl, Grew.refl _⟩
  · rcases h2.open_ with ⟨rfl, rfl⟩ | ⟨b2, o2, c2, rfl, hc2, hm2, hb2, hh⟩
    · go_enter Tryz.func18, Tryz.ntmps18
      go_wp2_with fail
      refine wp_loop_rounds 1 ?_; rw [rounds_succ]
      go_wp2_with fail
      go_ret
      exact ⟨rfl, Grew.refl _⟩
    · clear h1 h2
      have HF := Lib.hid hf
      have HH := Lib.hid hh
      clear hf hh
      generalize hN : L.length = n at *
      clear hN
      go_enter Tryz.func18, Tryz.ntmps18
      go_wp2_with fail
      go_loopw [5] (fun i wr => ∃ j : Nat, j ≤ n ∧ i = .int .i64 j ∧ Grew w wr) (fun i _ => n - (intOf i).toNat)
      case atStart => exact ⟨0, Nat.zero_le _, rfl, Grew.refl _⟩
      case round =>
        obtain ⟨j, hj, rfl, hB⟩ := hrel
        by_cases hlt : j < n
        · have k1 : ∀ W, Grew w W → W.cell? ⟨b1, o1 + j, none⟩ = some (.string (st L j)) := fun W hW => HF.out j hlt W hW
          have k2 : ∀ W, Grew w W → W.cell? ⟨b2, o2 + j, none⟩ = some (.string (st L j)) := fun W hW => HH.out j hlt W hW
          have k3 := k1 _ hB
          have k4 := k2 _ hB
          generalize st L j = x at *
          have hx : (x.toList != x.toList) = false := by simp
          go_wp2_with fail
          go_quiet (fail)
          go_wp2_with fail
          go_roundw
          case rel => exact ⟨j + 1, by omega, by go_num, by first | assumption | exact hB.drewN _⟩
          case measure => simp [intOf]; omega
        · go_wp2_with fail
          go_ret
          exact ⟨rfl, by assumption⟩
end Go.Proofs.YtfpkfgimhanekaaGreat

/- The law FnExactSameNormal, walked. -/
namespace Go.Proofs.YtfpkfgimhanekaaGreat
open Go.RowKit

theorem lawSn_c (v0 : Value) (L0 : List ByteArray) (v1 : Value) (L1 : List Tn) (v2 : Value) (L2 : List Tn) (w : World) (h0 : ArgS w v0 L0) (h1 : ArgT w v1 L1) (h2 : ArgT w v2 L2) :
    Calls Tryz.prog 4 #[v0, v1, v2] w fun e w' => e = .returned (.bool true) ∧ Grew w w' := by
  have Z0 := Lib.hid (fun W l (hW : Grew w W) (a0 : 0 ≤ l) (a1 : l ≤ 1048576) => szStringS_c v0 L0 l W (h0.grew hW) a0 a1)
  have T0 := Lib.hid (fun W (hW : Grew w W) => toStringS_c v0 L0 W (h0.grew hW))
  have Z1 := Lib.hid (fun W l (hW : Grew w W) (a0 : 0 ≤ l) (a1 : l ≤ 1048576) => szTermNodeS_c v1 L1 l W (h1.grew hW) a0 a1)
  have T1 := Lib.hid (fun W (hW : Grew w W) => toTermNodeS_c v1 L1 W (h1.grew hW))
  have Z2 := Lib.hid (fun W l (hW : Grew w W) (a0 : 0 ≤ l) (a1 : l ≤ 1048576) => szTermNodeS_c v2 L2 l W (h2.grew hW) a0 a1)
  have T2 := Lib.hid (fun W (hW : Grew w W) => toTermNodeS_c v2 L2 W (h2.grew hW))
  clear h0 h1 h2
  go_enter Tryz.func4, Tryz.ntmps4
  go_wp2_with fail
  refine (Z0.out _ _ (Grew.refl w) (by omega) (by omega)).mono ?_
  rintro e w1 ⟨r0, rfl, ⟨hm0, hs0⟩, hg1⟩
  have z1 := Lib.hid hg1.size
  have g1 : Grew w w1 := (Grew.refl w).trans hg1
  clear hg1
  by_cases hr0 : r0 < 0
  · clear hs0
    go_wp2_with fail
    go_ret
    exact ⟨rfl, g1⟩
  obtain ⟨hn0, hf0⟩ := hs0 (by omega)
  have F0 : Hid (Fits L0) := Lib.hid hf0
  clear hs0 hf0
  go_wp2_with fail
  refine (Z1.out _ _ g1 (by omega) (by omega)).mono ?_
  rintro e w2 ⟨r1, rfl, ⟨hm1, hs1⟩, hg2⟩
  have z2 := Lib.hid hg2.size
  have g2 : Grew w w2 := g1.trans hg2
  clear hg2
  by_cases hr1 : r1 < 0
  · clear hs1
    go_wp2_with fail
    go_ret
    exact ⟨rfl, g2⟩
  obtain ⟨hn1, hf1⟩ := hs1 (by omega)
  have F1 : Hid (FitsT L1) := Lib.hid hf1
  clear hs1 hf1
  go_wp2_with fail
  refine (Z2.out _ _ g2 (by omega) (by omega)).mono ?_
  rintro e w3 ⟨r2, rfl, ⟨hm2, hs2⟩, hg3⟩
  have z3 := Lib.hid hg3.size
  have g3 : Grew w w3 := g2.trans hg3
  clear hg3
  by_cases hr2 : r2 < 0
  · clear hs2
    go_wp2_with fail
    go_ret
    exact ⟨rfl, g3⟩
  obtain ⟨hn2, hf2⟩ := hs2 (by omega)
  have F2 : Hid (FitsT L2) := Lib.hid hf2
  clear hs2 hf2
  have KS := Lib.hid (fun u0 u1 u2 W x0 x1 x2 => specSn_c u0 L0 u1 L1 u2 L2 W x0 x1 x2 F0.out (by omega) F1.out (by omega) F2.out (by omega))
  have KI := Lib.hid (fun u0 u1 u2 W x0 x1 x2 => implSn_c u0 L0 u1 L1 u2 L2 W x0 x1 x2 F0.out (by omega) F1.out (by omega) F2.out (by omega))
  unfold GivesBI at KS KI
  generalize snF L0 L1 L2 = rr at *
  obtain ⟨ra, rc⟩ := rr
  simp only at KS KI
  have hc1 : (rc != rc) = false := by simp
  have ha1 : (ra != ra) = false := by simp
  go_wp2_with fail
  refine (T0.out _ g3 hn0).mono ?_
  rintro e w4 ⟨a0, rfl, oa0, hg4⟩
  have z4 := Lib.hid hg4.size
  have g4 : Grew w w4 := g3.trans hg4
  clear hg4
  go_wp2_with fail
  refine (T1.out _ g4 hn1).mono ?_
  rintro e w5 ⟨a1, rfl, oa1, hg5⟩
  have z5 := Lib.hid hg5.size
  have g5 : Grew w w5 := g4.trans hg5
  replace oa0 := oa0.grew hg5
  clear hg5
  go_wp2_with fail
  refine (T2.out _ g5 hn2).mono ?_
  rintro e w6 ⟨a2, rfl, oa2, hg6⟩
  have z6 := Lib.hid hg6.size
  have g6 : Grew w w6 := g5.trans hg6
  replace oa0 := oa0.grew hg6
  replace oa1 := oa1.grew hg6
  clear hg6
  go_wp2_with fail
  refine (KS.out _ _ _ _ oa0.strs oa1.tms oa2.tms).mono ?_
  rintro e w7 ⟨rfl, hg7⟩
  have z7 := Lib.hid hg7.size
  have g7 : Grew w w7 := g6.trans hg7
  clear hg7 oa0 oa1 oa2
  go_wp2_with fail
  refine (T0.out _ g7 hn0).mono ?_
  rintro e w8 ⟨x0, rfl, ox0, hg8⟩
  have z8 := Lib.hid hg8.size
  have g8 : Grew w w8 := g7.trans hg8
  clear hg8
  go_wp2_with fail
  refine (T1.out _ g8 hn1).mono ?_
  rintro e w9 ⟨x1, rfl, ox1, hg9⟩
  have z9 := Lib.hid hg9.size
  have g9 : Grew w w9 := g8.trans hg9
  replace ox0 := ox0.grew hg9
  clear hg9
  go_wp2_with fail
  refine (T2.out _ g9 hn2).mono ?_
  rintro e w10 ⟨x2, rfl, ox2, hg10⟩
  have z10 := Lib.hid hg10.size
  have g10 : Grew w w10 := g9.trans hg10
  replace ox0 := ox0.grew hg10
  replace ox1 := ox1.grew hg10
  clear hg10
  go_wp2_with fail
  refine (KI.out _ _ _ _ ox0.strs ox1.tms ox2.tms).mono ?_
  rintro e w11 ⟨rfl, hg11⟩
  have z11 := Lib.hid hg11.size
  have g11 : Grew w w11 := g10.trans hg11
  replace ox0 := ox0.grew hg11
  replace ox1 := ox1.grew hg11
  replace ox2 := ox2.grew hg11
  clear hg11
  go_wp2_with fail
  refine (T0.out _ g11 hn0).mono ?_
  rintro e w12 ⟨y0, rfl, oy0, hg12⟩
  have z12 := Lib.hid hg12.size
  have g12 : Grew w w12 := g11.trans hg12
  replace ox0 := ox0.grew hg12
  replace ox1 := ox1.grew hg12
  replace ox2 := ox2.grew hg12
  clear hg12
  go_wp2_with fail
  refine (eqStringS_yes _ _ L0 _ ox0.strs oy0.strs (by omega)).mono ?_
  rintro e w13 ⟨rfl, hg13⟩
  have z13 := Lib.hid hg13.size
  have g13 : Grew w w13 := g12.trans hg13
  replace ox0 := ox0.grew hg13
  replace ox1 := ox1.grew hg13
  replace ox2 := ox2.grew hg13
  clear hg13 oy0
  go_wp2_with fail
  refine (T1.out _ g13 hn1).mono ?_
  rintro e w14 ⟨y1, rfl, oy1, hg14⟩
  have z14 := Lib.hid hg14.size
  have g14 : Grew w w14 := g13.trans hg14
  replace ox0 := ox0.grew hg14
  replace ox1 := ox1.grew hg14
  replace ox2 := ox2.grew hg14
  clear hg14
  go_wp2_with fail
  refine (eqTermNodeS_yes _ _ L1 _ ox1.tms oy1.tms (by omega)).mono ?_
  rintro e w15 ⟨rfl, hg15⟩
  have z15 := Lib.hid hg15.size
  have g15 : Grew w w15 := g14.trans hg15
  replace ox0 := ox0.grew hg15
  replace ox1 := ox1.grew hg15
  replace ox2 := ox2.grew hg15
  clear hg15 oy1
  go_wp2_with fail
  refine (T2.out _ g15 hn2).mono ?_
  rintro e w16 ⟨y2, rfl, oy2, hg16⟩
  have z16 := Lib.hid hg16.size
  have g16 : Grew w w16 := g15.trans hg16
  replace ox0 := ox0.grew hg16
  replace ox1 := ox1.grew hg16
  replace ox2 := ox2.grew hg16
  clear hg16
  go_wp2_with fail
  refine (eqTermNodeS_yes _ _ L2 _ ox2.tms oy2.tms (by omega)).mono ?_
  rintro e w17 ⟨rfl, hg17⟩
  have z17 := Lib.hid hg17.size
  have g17 : Grew w w17 := g16.trans hg17
  replace ox0 := ox0.grew hg17
  replace ox1 := ox1.grew hg17
  replace ox2 := ox2.grew hg17
  clear hg17 oy2
  go_wp2_with fail
  go_ret
  exact ⟨rfl, g17⟩
end Go.Proofs.YtfpkfgimhanekaaGreat

/- An argument that is a list of strings, or a struct of two such lists. -/
namespace Go.Proofs.YtfpkfgimhanekaaGreat
open Go.RowKit

theorem cell_lt {w : World} {a : Addr} {u : Value} (h : w.cell? a = some u) : a.block < w.heap.size := by
  unfold World.cell? at h
  split at h
  · rename_i hh
    exact (Array.getElem?_eq_some_iff.1 hh).1
  · cases h

theorem argS_of_trod {H : Type} {enc : TypeId × Value → H} {P : Program} {W : World} {sp : Nat → Bool} {held : Bool} {n : Nat} {t e : TypeId} {v : Value} {y : DataW H × List MemPlace}
    (ht : P.underlying t = some (.slice e)) (he : P.underlying e = some .string) (hc : P.cellsOf e = 1) (h : DataW.trod enc P W 0 sp held n t [v] = some y) : ∃ L, ArgS W v L := by
  rcases Go.Deep.open_strs ht he hc h with ⟨hv, _⟩ | ⟨a, len, cap, m, Sx, hv, _, hl, hm, hmm, _, hcell⟩
  · obtain rfl : v = .slice none 0 0 := by simpa using hv
    exact ⟨[], ⟨none, 0, rfl, by simp⟩, fun h => absurd h (by simp), fun i hi => absurd hi (by simp)⟩
  · obtain rfl : v = .slice (some a) len cap := by simpa using hv
    have hlm : len ≤ m := by rw [hmm]; split <;> omega
    have hmax : maxLen = 9223372036854775807 := by decide
    rw [hmax] at hm
    have hlen : ((List.range len).map Sx).length = len := by simp
    have hst : ∀ i, i < len → st ((List.range len).map Sx) i = Sx i := fun i hi => by simp [st, List.getD, hi]
    refine ⟨(List.range len).map Sx, ⟨some a, cap, by rw [hlen], by rw [hlen]; omega⟩, fun hp => ?_, fun i hi => ?_⟩
    · rw [hlen] at hp
      obtain ⟨b, off, spot⟩ := a
      have h0 := (hcell 0 (by omega)).1
      have hspot : spot = none := by simpa [Addr.add] using World.cell?_spot h0
      subst hspot
      have hb := cell_lt h0
      have hadd : ∀ i, (⟨b, off, none⟩ : Addr).add i = ⟨b, off + i, none⟩ := fun i => by
        unfold Addr.add
        split
        · subst_vars; rfl
        · rfl
      rw [hadd] at hb
      unfold Strs Rd
      rw [hlen]
      refine ⟨by rw [scells_length, hlen], by omega, .inr ⟨b, off, cap, rfl, hl, hm, hb, fun j u hu => ?_⟩⟩
      have hj : j < len := by
        have := (List.getElem?_eq_some_iff.1 hu).1
        rw [scells_length, hlen] at this
        omega
      rw [scells_at (by rw [hlen]; exact hj), hst j hj] at hu
      rw [← hadd, (hcell j (by omega)).1]
      exact hu
    · rw [hlen] at hi
      rw [hst i hi, ← hmax]
      exact (hcell i (by omega)).2
end Go.Proofs.YtfpkfgimhanekaaGreat

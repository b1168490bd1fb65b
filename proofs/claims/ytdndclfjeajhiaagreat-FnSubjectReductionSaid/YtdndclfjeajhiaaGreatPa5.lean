/- Texts in one file: TyW2 TyW3 TyW StCf StCont TyD Nr NrS NrD TtT Dec0 TtD TtS Sn TmCtF TmRedF SrP TyF NrF SnP BigW Args0 ArgB LawSr. -/
import Derived.Deep.RegionHeld3
import Derived.Deep.QuietTactic
import Derived.BigQuiet
import Derived.Deep.LoopGhost
import Derived.WalkLawsBesides
import Derived.Outline
import Derived.Shelf.Abstract
import Derived.Test.YtdndclfjeajhiaaGreatProg
import Derived.Lib.ItoaNum
import Derived.Laws.BytesArg
import Derived.Deep.RegionWith
import Derived.IntWalk
import Derived.ChangeSlices
import Derived.Deep.Strs
import Derived.Lib.SmallJoins
import Derived.Carry
import Derived.ProofKit
import Derived.Test.YtdndclfjeajhiaaGreatPa1
import Derived.Test.YtdndclfjeajhiaaGreatPa2
import Derived.Test.YtdndclfjeajhiaaGreatPa3
import Derived.Test.YtdndclfjeajhiaaGreatPa4
set_option linter.all false

/- typeOf of the program: nodes with one part, with two parts, lambdas. -/
namespace Go.Proofs.YtdndclfjeajhiaaGreat
open Go.RowKit
open Tr (Tm)

/-- What nodeType gives at a node with one part that has a type. -/
def NodeOne (x : Tn) (f : Fm.Tree → Option Fm.Tree) : Prop := ∀ B vt W, FmOk B → Strs W vt [tx B] → Calls Tryz.prog 62 #[.agg #[.int .i64 x.1, .int .i64 x.2.1, .string x.2.2], vt] W (GivesTy W (f B))
def NodeTwo (x : Tn) (f : Fm.Tree → Fm.Tree → Option Fm.Tree) : Prop := ∀ B D vt W, FmOk B → FmOk D → Strs W vt [tx B, tx D] → Calls Tryz.prog 62 #[.agg #[.int .i64 x.1, .int .i64 x.2.1, .string x.2.2], vt] W (GivesTy W (f B D))

theorem us_one {w w' : World} {t a : Tm} {B : Nat} {u : Value} {us : List Value} (ho : OwnVT w' B u us) (hl : us.length = 1) (hh : HoldT w t us) (hk : Tr.kid t 0 = a) : ∃ g c v0, u = .slice (some ⟨g, 0, none⟩) 1 c ∧ 1 ≤ c ∧ c ≤ 9223372036854775807 ∧ (∀ W, Grew w' W → W.cell? ⟨g, 0, none⟩ = some v0) ∧ Tms w v0 (Tr.enc a) := by
  obtain ⟨g, c, rfl, h1, h2, h3, h4⟩ := ho.open_ (by omega)
  rw [hl] at h1 ho ⊢
  obtain ⟨v0, hv⟩ : ∃ v0, us[0]? = some v0 := ⟨_, List.getElem?_eq_getElem (by omega)⟩
  have hc := ho.cell hv
  refine ⟨g, c, v0, rfl, h1, h2, fun W hW => (hW.cell (p := ⟨g, 0, none⟩) h4).trans hc, ?_⟩
  have := hh 0 v0 hv
  rw [hk] at this
  exact this
theorem us_two {w w' : World} {t a b : Tm} {B : Nat} {u : Value} {us : List Value} (ho : OwnVT w' B u us) (hl : us.length = 2) (hh : HoldT w t us) (hk : Tr.kid t 0 = a) (hk2 : Tr.kid t 1 = b) : ∃ g c v0 v1, u = .slice (some ⟨g, 0, none⟩) 2 c ∧ 2 ≤ c ∧ c ≤ 9223372036854775807 ∧ (∀ W, Grew w' W → W.cell? ⟨g, 0, none⟩ = some v0) ∧ (∀ W, Grew w' W → W.cell? ⟨g, 1, none⟩ = some v1) ∧ Tms w v0 (Tr.enc a) ∧ Tms w v1 (Tr.enc b) := by
  obtain ⟨g, c, rfl, h1, h2, h3, h4⟩ := ho.open_ (by omega)
  rw [hl] at h1 ho ⊢
  obtain ⟨v0, hv⟩ : ∃ v0, us[0]? = some v0 := ⟨_, List.getElem?_eq_getElem (by omega)⟩
  obtain ⟨v1, hv1⟩ : ∃ v1, us[1]? = some v1 := ⟨_, List.getElem?_eq_getElem (by omega)⟩
  have hc := ho.cell hv
  have hc1 := ho.cell hv1
  refine ⟨g, c, v0, v1, rfl, h1, h2, fun W hW => (hW.cell (p := ⟨g, 0, none⟩) h4).trans hc, fun W hW => (hW.cell (p := ⟨g, 1, none⟩) h4).trans hc1, ?_, ?_⟩
  · have := hh 0 v0 hv
    rw [hk] at this
    exact this
  · have := hh 1 v1 hv1
    rw [hk2] at this
    exact this

theorem typeOf_one (x : Tn) (a : Tm) (hg : Good (.t1 x a)) (h0 : x.1 ≠ 0) (h8 : x.1 ≠ 8) (h1 : x.1 ≠ 1) (f : Fm.Tree → Option Fm.Tree) (G : List Fm.Tree) (hG : ∀ A ∈ G, FmOk A) (hl : G.length ≤ 12) (IH : TypV a G) (KN : NodeOne x f) (va v : Value) (w : World) (hs : Strs w va (G.map tx)) (h : Tms w v (Tr.enc (.t1 x a))) (hn : (Tr.enc (.t1 x a)).length ≤ 60) :
    Calls Tryz.prog 27 #[va, v] w (GivesTy w ((ty G a).bind f)) := by
  have KP := Lib.hid (fun W (hW : Grew w W) => inner_o v (.t1 x a) w W h hW hg (by omega))
  have HOK := fun B hB => ty_ok a hg.2 G B hG hB
  have KI := fun u W (hW : Grew w W) hu => IH va u W (hs.grew hW) hu

  obtain ⟨bb, o, c, rfl, hc, hm, hb, hcl⟩ := tms_head h
  have k0 := fun W (hW : Grew w W) => (hcl W hW).1
  have k1 := fun W (hW : Grew w W) => (hcl W hW).2.1
  have k2 := fun W (hW : Grew w W) => (hcl W hW).2.2
  change ∀ W, Grew w W → W.cell? ⟨bb, o, none⟩ = some (.int .i64 x.1) at k0
  change ∀ W, Grew w W → W.cell? ⟨bb, o + 1, none⟩ = some (.int .i64 x.2.1) at k1
  change ∀ W, Grew w W → W.cell? ⟨bb, o + 2, none⟩ = some (.string x.2.2) at k2
  have hpos := Tr.enc_pos (.t1 x a)
  have hr := Grew.refl w
  have b0 : (x.1 == 0) = false := by simpa using h0
  have b8 : (x.1 == 8) = false := by simpa using h8
  have b1 : (x.1 == 1) = false := by simpa using h1
  obtain ⟨D, d, rfl⟩ := (strs_map hs).1
  have HU := Lib.hid (fun w' B u us h1 h2 h3 => us_one (w := w) (w' := w') (B := B) (u := u) (us := us) (t := .t1 x a) (a := a) h1 h2 h3 rfl)
  have hkl : Hid ((Tr.kids (.t1 x a)).length = 1) := Lib.hid rfl
  unfold NodeOne at KN
  clear hcl h hg IH hs hG h0 h8 h1
  generalize x.1 = xk at *
  generalize x.2.1 = xn at *
  generalize x.2.2 = xs at *
  generalize (Tr.enc (.t1 x a)).length = n at *
  generalize hRR : ty G a = R at *
  generalize G.length = gl at *
  replace KN := Lib.hid KN
  have hl12 : (gl : Int) ≤ 12 := by omega
  cases R with
  | none =>
    unfold GivesTy at KI
    clear HOK hRR KN
    have HE := Lib.hid (fun w' (h : Grew w w') => none_gives (s := ByteArray.empty) h)
    change Calls _ _ _ _ (GivesTy w none)
    replace KI := Lib.hid KI
    go_enter Tryz.func27, Tryz.ntmps27
    go_wp2_with fail
    refine (KP.out _ hr).mono ?_
    rintro e w1 ⟨u, us, rfl, hU1, hul, hh, hg1⟩
    rw [hkl.out] at hul
    obtain ⟨g, cc, v0, rfl, hc2, hm2, f0, hv0⟩ := HU.out _ _ _ _ hU1 hul hh
    clear hU1 hul hh
    obtain ⟨U, e1, rfl⟩ := tms_slice hv0
    have HV := Lib.hid hv0
    clear hv0
    have r1 := Grew.refl w1
    go_wp2_with fail
    refine wp_loop_rounds 2 ?_; rw [rounds_succ]
    go_wp2_with fail
    refine (KI.out _ _ hg1 (HV.out.grew hg1)).mono ?_
    rintro e w2 ⟨s2, rfl, _, hg2⟩
    have g2 := hg1.trans hg2
    go_wp2_with fail
    go_ret2
    exact HE.out _ g2
  | some B =>
    unfold GivesTy at KI
    have hB := Lib.hid (HOK B rfl)
    clear HOK hRR
    change Calls _ _ _ _ (GivesTy w (f B))
    replace KI := Lib.hid KI
    have HO1 := OwnS.nil_ w w.heap.size
    go_enter Tryz.func27, Tryz.ntmps27
    go_wp2_with fail
    refine (KP.out _ hr).mono ?_
    rintro e w1 ⟨u, us, rfl, hU1, hul, hh, hg1⟩
    rw [hkl.out] at hul
    obtain ⟨g, cc, v0, rfl, hc2, hm2, f0, hv0⟩ := HU.out _ _ _ _ hU1 hul hh
    clear hU1 hul hh
    obtain ⟨U, e1, rfl⟩ := tms_slice hv0
    have HV := Lib.hid hv0
    clear hv0
    have r1 := Grew.refl w1
    go_wp2_with fail
    refine wp_loop_rounds 2 ?_; rw [rounds_succ]
    go_wp2_with fail
    refine (KI.out _ _ hg1 (HV.out.grew hg1)).mono ?_
    rintro e w2 ⟨s2, rfl, hs2, hg2⟩
    obtain rfl := hs2 B rfl
    clear hs2
    have g2 := hg1.trans hg2
    have hO2 := HO1.grew (g2.trans ((Grew.refl w2).alloc (.cells #[.string (tx B)] 9)))
    go_wp2_with (first | (at_builtin; refine wpList_appStr (w0 := w) _ _ rfl rfl _ [] rfl hO2 (g2.alloc _) _ (tx B) rfl (rd_lit _ _ _) (by simp) ?_; intro v2x w2x hown2 hg2x hgr2))
    have hS3 := Lib.hid hown2.strs
    obtain ⟨A3, c3, rfl⟩ := strs_slice hown2.strs
    have hg3 := hg2x
    clear hO2 hown2 hgr2 hg2x
    rw [rounds_succ]
    go_wp2_with fail
    refine (KN.out _ _ _ hB.out hS3.out).mono ?_
    rintro e w4 ⟨s4, rfl, hs4, hg4⟩
    go_wp2_with fail
    go_ret2
    exact ⟨s4, rfl, hs4, hg3.trans hg4⟩

theorem typeOf_lam (x : Tn) (a : Tm) (hg : Good (.t1 x a)) (h1 : x.1 = 1) (G : List Fm.Tree) (hG : ∀ A ∈ G, FmOk A) (hl : G.length < 12) (IH : TypV a (G ++ [fo x.2.2])) (KN : NodeOne x (fun B => smallF (.imp (fo x.2.2) B))) (va v : Value) (w : World) (hs : Strs w va (G.map tx)) (h : Tms w v (Tr.enc (.t1 x a))) (hn : (Tr.enc (.t1 x a)).length ≤ 60) :
    Calls Tryz.prog 27 #[va, v] w (GivesTy w (tyLam (fo x.2.2) (ty (G ++ [fo x.2.2]) a))) := by
  have KP := Lib.hid (fun W (hW : Grew w W) => inner_o v (.t1 x a) w W h hW hg (by omega))
  have hA := fo_ok (goodN_text hg.1.2 (by rw [h1]; rfl) (by rw [h1]; decide))
  have HOK := fun B hB => ty_ok a hg.2 (G ++ [fo x.2.2]) B (fun D hD => by
    rw [List.mem_append] at hD
    rcases hD with hD | hD
    · exact hG D hD
    · simp at hD; subst hD; exact hA.1) hB
  have KI := fun ub u W (hub : Strs W ub (G.map tx ++ [x.2.2])) hu => IH ub u W (by rw [List.map_append, List.map_singleton, hA.2]; exact hub) hu
  have KB := Lib.hid (fun W (hW : Grew w W) => behind_c va (G.map tx) x.2.2 W (hs.grew hW) (by rw [List.length_map]; omega))
  have hgl : (G.map tx ++ [x.2.2]).length = G.length + 1 := by simp

  obtain ⟨bb, o, c, rfl, hc, hm, hb, hcl⟩ := tms_head h
  have k0 := fun W (hW : Grew w W) => (hcl W hW).1
  have k1 := fun W (hW : Grew w W) => (hcl W hW).2.1
  have k2 := fun W (hW : Grew w W) => (hcl W hW).2.2
  change ∀ W, Grew w W → W.cell? ⟨bb, o, none⟩ = some (.int .i64 x.1) at k0
  change ∀ W, Grew w W → W.cell? ⟨bb, o + 1, none⟩ = some (.int .i64 x.2.1) at k1
  change ∀ W, Grew w W → W.cell? ⟨bb, o + 2, none⟩ = some (.string x.2.2) at k2
  have hpos := Tr.enc_pos (.t1 x a)
  have hr := Grew.refl w
  rw [h1] at k0
  obtain ⟨D, d, rfl⟩ := (strs_map hs).1
  have HU := Lib.hid (fun w' B u us h1 h2 h3 => us_one (w := w) (w' := w') (B := B) (u := u) (us := us) (t := .t1 x a) (a := a) h1 h2 h3 rfl)
  have hkl : Hid ((Tr.kids (.t1 x a)).length = 1) := Lib.hid rfl
  unfold NodeOne at KN
  rw [h1] at KN
  clear hcl h hg IH hs hG h1 hA
  unfold tyLam
  generalize fo x.2.2 = fA at *
  generalize G.map tx = gm at *
  generalize x.2.1 = xn at *
  generalize x.2.2 = xs at *
  generalize (Tr.enc (.t1 x a)).length = n at *
  generalize hRR : ty (G ++ [fA]) a = R at *
  generalize G.length = gl at *
  replace KN := Lib.hid KN
  have hl12 : (gl : Int) + 1 ≤ 12 := by omega
  have HGL := Lib.hid hgl
  clear hgl
  cases R with
  | none =>
    unfold GivesTy at KI
    clear HOK hRR KN
    have HE := Lib.hid (fun w' (h : Grew w w') => none_gives (s := ByteArray.empty) h)
    change Calls _ _ _ _ (GivesTy w none)
    replace KI := Lib.hid KI
    go_enter Tryz.func27, Tryz.ntmps27
    go_wp2_with fail
    refine (KP.out _ hr).mono ?_
    rintro e w1 ⟨u, us, rfl, hU1, hul, hh, hg1⟩
    rw [hkl.out] at hul
    obtain ⟨g, cc, v0, rfl, hc2, hm2, f0, hv0⟩ := HU.out _ _ _ _ hU1 hul hh
    clear hU1 hul hh
    obtain ⟨U, e1, rfl⟩ := tms_slice hv0
    have HV := Lib.hid hv0
    clear hv0
    have r1 := Grew.refl w1
    go_wp2_with fail
    refine (KB.out _ hg1).mono ?_
    rintro e wb ⟨ub, rfl, hob, hgb⟩
    have HB := Lib.hid hob.strs
    obtain ⟨UB, eb, rfl⟩ := strs_slice hob.strs
    rw [HGL.out] at HB ⊢
    clear hob
    have gb := hg1.trans hgb
    have rb := Grew.refl wb
    go_wp2_with fail
    refine wp_loop_rounds 2 ?_; rw [rounds_succ]
    go_wp2_with fail
    refine (KI.out _ _ _ HB.out (HV.out.grew gb)).mono ?_
    rintro e w2 ⟨s2, rfl, _, hg2⟩
    have g2 := gb.trans hg2
    go_wp2_with fail
    go_ret2
    exact HE.out _ g2
  | some B =>
    unfold GivesTy at KI
    have hB := Lib.hid (HOK B rfl)
    clear HOK hRR
    change Calls _ _ _ _ (GivesTy w (smallF (.imp fA B)))
    replace KI := Lib.hid KI
    have HO1 := OwnS.nil_ w w.heap.size
    go_enter Tryz.func27, Tryz.ntmps27
    go_wp2_with fail
    refine (KP.out _ hr).mono ?_
    rintro e w1 ⟨u, us, rfl, hU1, hul, hh, hg1⟩
    rw [hkl.out] at hul
    obtain ⟨g, cc, v0, rfl, hc2, hm2, f0, hv0⟩ := HU.out _ _ _ _ hU1 hul hh
    clear hU1 hul hh
    obtain ⟨U, e1, rfl⟩ := tms_slice hv0
    have HV := Lib.hid hv0
    clear hv0
    have r1 := Grew.refl w1
    go_wp2_with fail
    refine (KB.out _ hg1).mono ?_
    rintro e wb ⟨ub, rfl, hob, hgb⟩
    have HB := Lib.hid hob.strs
    obtain ⟨UB, eb, rfl⟩ := strs_slice hob.strs
    rw [HGL.out] at HB ⊢
    clear hob
    have gb := hg1.trans hgb
    have rb := Grew.refl wb
    go_wp2_with fail
    refine wp_loop_rounds 2 ?_; rw [rounds_succ]
    go_wp2_with fail
    refine (KI.out _ _ _ HB.out (HV.out.grew gb)).mono ?_
    rintro e w2 ⟨s2, rfl, hs2, hg2⟩
    obtain rfl := hs2 B rfl
    clear hs2
    have g2 := gb.trans hg2
    have hO2 := HO1.grew (g2.trans ((Grew.refl w2).alloc (.cells #[.string (tx B)] 9)))
    go_wp2_with (first | (at_builtin; refine wpList_appStr (w0 := w) _ _ rfl rfl _ [] rfl hO2 (g2.alloc _) _ (tx B) rfl (rd_lit _ _ _) (by simp) ?_; intro v2x w2x hown2 hg2x hgr2))
    have hS3 := Lib.hid hown2.strs
    obtain ⟨A3, c3, rfl⟩ := strs_slice hown2.strs
    have hg3 := hg2x
    clear hO2 hown2 hgr2 hg2x
    rw [rounds_succ]
    go_wp2_with fail
    refine (KN.out _ _ _ hB.out hS3.out).mono ?_
    rintro e w4 ⟨s4, rfl, hs4, hg4⟩
    go_wp2_with fail
    go_ret2
    exact ⟨s4, rfl, hs4, hg3.trans hg4⟩

theorem typeOf_full (x : Tn) (a : Tm) (hg : Good (.t1 x a)) (h1 : x.1 = 1) (G : List Fm.Tree) (hG : ∀ A ∈ G, FmOk A) (hl : 12 ≤ G.length ∧ G.length ≤ 12) (va v : Value) (w : World) (hs : Strs w va (G.map tx)) (h : Tms w v (Tr.enc (.t1 x a))) (hn : (Tr.enc (.t1 x a)).length ≤ 60) :
    Calls Tryz.prog 27 #[va, v] w (GivesTy w none) := by
  have KP := Lib.hid (fun W (hW : Grew w W) => inner_o v (.t1 x a) w W h hW hg (by omega))
  have KB := Lib.hid (fun W (hW : Grew w W) => behind_c va (G.map tx) x.2.2 W (hs.grew hW) (by rw [List.length_map]; omega))
  have hgl : Hid ((G.map tx ++ [x.2.2]).length = 13) := Lib.hid (by simp; omega)
  have HE := Lib.hid (fun w' (h : Grew w w') => none_gives (s := ByteArray.empty) h)

  obtain ⟨bb, o, c, rfl, hc, hm, hb, hcl⟩ := tms_head h
  have k0 := fun W (hW : Grew w W) => (hcl W hW).1
  have k1 := fun W (hW : Grew w W) => (hcl W hW).2.1
  have k2 := fun W (hW : Grew w W) => (hcl W hW).2.2
  change ∀ W, Grew w W → W.cell? ⟨bb, o, none⟩ = some (.int .i64 x.1) at k0
  change ∀ W, Grew w W → W.cell? ⟨bb, o + 1, none⟩ = some (.int .i64 x.2.1) at k1
  change ∀ W, Grew w W → W.cell? ⟨bb, o + 2, none⟩ = some (.string x.2.2) at k2
  have hpos := Tr.enc_pos (.t1 x a)
  have hr := Grew.refl w
  rw [h1] at k0
  obtain ⟨D, d, rfl⟩ := (strs_map hs).1
  clear hcl h hg hs hG h1
  generalize G.map tx ++ [x.2.2] = gm at *
  generalize x.2.1 = xn at *
  generalize x.2.2 = xs at *
  have hkl : Hid ((Tr.kids (.t1 x a)).length = 1) := Lib.hid rfl
  generalize (Tr.enc (.t1 x a)).length = n at *
  generalize G.length = gl at *
  go_enter Tryz.func27, Tryz.ntmps27
  go_wp2_with fail
  refine (KP.out _ hr).mono ?_
  rintro e w1 ⟨u, us, rfl, hU1, hul, hh, hg1⟩
  rw [hkl.out] at hul
  obtain ⟨g, cc, rfl, hc2, hm2, hB2, hg2⟩ := hU1.open_ (by omega)
  rw [hul]
  clear hul hh hU1
  go_wp2_with fail
  refine (KB.out _ hg1).mono ?_
  rintro e wb ⟨ub, rfl, hob, hgb⟩
  obtain ⟨UB, eb, rfl⟩ := strs_slice hob.strs
  rw [hgl.out]
  clear hob
  go_wp2_with fail
  go_ret2
  exact HE.out _ (hg1.trans hgb)

theorem typeOf_two (x : Tn) (a b : Tm) (hg : Good (.t2 x a b)) (h0 : x.1 ≠ 0) (h8 : x.1 ≠ 8) (h1 : x.1 ≠ 1) (f : Fm.Tree → Fm.Tree → Option Fm.Tree) (G : List Fm.Tree) (hG : ∀ A ∈ G, FmOk A) (hl : G.length ≤ 12) (IHa : TypV a G) (IHb : TypV b G) (KN : NodeTwo x f) (va v : Value) (w : World) (hs : Strs w va (G.map tx)) (h : Tms w v (Tr.enc (.t2 x a b))) (hn : (Tr.enc (.t2 x a b)).length ≤ 60) :
    Calls Tryz.prog 27 #[va, v] w (GivesTy w ((ty G a).bind fun C => (ty G b).bind fun D => f C D)) := by
  have KP := Lib.hid (fun W (hW : Grew w W) => inner_o v (.t2 x a b) w W h hW hg (by omega))
  have HA := fun B hB => ty_ok a hg.2.1 G B hG hB
  have HB := fun B hB => ty_ok b hg.2.2 G B hG hB
  have KI := fun u W (hW : Grew w W) hu => IHa va u W (hs.grew hW) hu
  have KJ := fun u W (hW : Grew w W) hu => IHb va u W (hs.grew hW) hu

  obtain ⟨bb, o, c, rfl, hc, hm, hb, hcl⟩ := tms_head h
  have k0 := fun W (hW : Grew w W) => (hcl W hW).1
  have k1 := fun W (hW : Grew w W) => (hcl W hW).2.1
  have k2 := fun W (hW : Grew w W) => (hcl W hW).2.2
  change ∀ W, Grew w W → W.cell? ⟨bb, o, none⟩ = some (.int .i64 x.1) at k0
  change ∀ W, Grew w W → W.cell? ⟨bb, o + 1, none⟩ = some (.int .i64 x.2.1) at k1
  change ∀ W, Grew w W → W.cell? ⟨bb, o + 2, none⟩ = some (.string x.2.2) at k2
  have hpos := Tr.enc_pos (.t2 x a b)
  have hr := Grew.refl w
  have b0 : (x.1 == 0) = false := by simpa using h0
  have b8 : (x.1 == 8) = false := by simpa using h8
  have b1 : (x.1 == 1) = false := by simpa using h1
  obtain ⟨D, d, rfl⟩ := (strs_map hs).1
  have HU := Lib.hid (fun w' B u us h1 h2 h3 => us_two (w := w) (w' := w') (B := B) (u := u) (us := us) (t := .t2 x a b) (a := a) (b := b) h1 h2 h3 rfl rfl)
  have hkl : Hid ((Tr.kids (.t2 x a b)).length = 2) := Lib.hid rfl
  unfold NodeTwo at KN
  clear hcl h hg IHa IHb hs hG h0 h8 h1
  generalize x.1 = xk at *
  generalize x.2.1 = xn at *
  generalize x.2.2 = xs at *
  generalize (Tr.enc (.t2 x a b)).length = n at *
  generalize ty G a = R at *
  generalize ty G b = S at *
  generalize G.length = gl at *
  replace KN := Lib.hid KN
  have hl12 : (gl : Int) ≤ 12 := by omega
  unfold GivesTy at KI KJ
  cases R with
  | none =>
    clear HA HB KN KJ
    change Calls _ _ _ _ (GivesTy w none)
    have HE := Lib.hid (fun w' (h : Grew w w') => none_gives (s := ByteArray.empty) h)
    replace KI := Lib.hid KI
    go_enter Tryz.func27, Tryz.ntmps27
    go_wp2_with fail
    refine (KP.out _ hr).mono ?_
    rintro e w1 ⟨u, us, rfl, hU1, hul, hh, hg1⟩
    rw [hkl.out] at hul
    obtain ⟨g, cc, v0, v1, rfl, hc2, hm2, f0, f1, hv0, hv1⟩ := HU.out _ _ _ _ hU1 hul hh
    clear hU1 hul hh
    obtain ⟨U, e1, rfl⟩ := tms_slice hv0
    obtain ⟨U1, e2, rfl⟩ := tms_slice hv1
    have HV := Lib.hid hv0
    have HV1 := Lib.hid hv1
    clear hv0 hv1
    have r1 := Grew.refl w1
    go_wp2_with fail
    refine wp_loop_rounds 3 ?_; rw [rounds_succ]
    go_wp2_with fail
    refine (KI.out _ _ hg1 (HV.out.grew hg1)).mono ?_
    rintro e w2 ⟨s2, rfl, _, hg2⟩
    have g2 := hg1.trans hg2
    go_wp2_with fail
    go_ret2
    exact HE.out _ g2
  | some B =>
    have hB := Lib.hid (HA B rfl)
    have HO1 := OwnS.nil_ w w.heap.size
    replace KI := Lib.hid KI
    replace KJ := Lib.hid KJ
    cases S with
    | none =>
      clear HA HB KN
      change Calls _ _ _ _ (GivesTy w none)
      have HE := Lib.hid (fun w' (h : Grew w w') => none_gives (s := ByteArray.empty) h)
      go_enter Tryz.func27, Tryz.ntmps27
      go_wp2_with fail
      refine (KP.out _ hr).mono ?_
      rintro e w1 ⟨u, us, rfl, hU1, hul, hh, hg1⟩
      rw [hkl.out] at hul
      obtain ⟨g, cc, v0, v1, rfl, hc2, hm2, f0, f1, hv0, hv1⟩ := HU.out _ _ _ _ hU1 hul hh
      clear hU1 hul hh
      obtain ⟨U, e1, rfl⟩ := tms_slice hv0
      obtain ⟨U1, e2, rfl⟩ := tms_slice hv1
      have HV := Lib.hid hv0
      have HV1 := Lib.hid hv1
      clear hv0 hv1
      have r1 := Grew.refl w1
      go_wp2_with fail
      refine wp_loop_rounds 3 ?_; rw [rounds_succ]
      go_wp2_with fail
      refine (KI.out _ _ hg1 (HV.out.grew hg1)).mono ?_
      rintro e w2 ⟨s2, rfl, hs2, hg2⟩
      obtain rfl := hs2 B rfl
      clear hs2
      have g2 := hg1.trans hg2
      have hO2 := HO1.grew (g2.trans ((Grew.refl w2).alloc (.cells #[.string (tx B)] 9)))
      go_wp2_with (first | (at_builtin; refine wpList_appStr (w0 := w) _ _ rfl rfl _ [] rfl hO2 (g2.alloc _) _ (tx B) rfl (rd_lit _ _ _) (by simp) ?_; intro v2x w2x hown2 hg2x hgr2))
      have hk2 : Grew w1 w2x := (hg2.trans ((Grew.refl w2).alloc (.cells #[.string (tx B)] 9))).trans (by
        have hq : (w2.alloc (.cells #[.string (tx B)] 9)).grownBy w2x none := hgr2
        exact ⟨hq.os, hq.tape, hq.output, hq.size, fun i hi => hq.block i hi (by simp)⟩)
      have HO3 := hown2
      obtain ⟨A3, c3, rfl⟩ := strs_slice hown2.strs
      clear hO2 hown2 hgr2
      rw [rounds_succ]
      go_wp2_with fail
      refine (KJ.out _ _ hg2x (HV1.out.grew hg2x)).mono ?_
      rintro e w4 ⟨s4, rfl, _, hg4⟩
      have g4 := hg2x.trans hg4
      go_wp2_with fail
      go_ret2
      exact HE.out _ g4
    | some C =>
      have hC := Lib.hid (HB C rfl)
      clear HA HB
      change Calls _ _ _ _ (GivesTy w (f B C))
      go_enter Tryz.func27, Tryz.ntmps27
      go_wp2_with fail
      refine (KP.out _ hr).mono ?_
      rintro e w1 ⟨u, us, rfl, hU1, hul, hh, hg1⟩
      rw [hkl.out] at hul
      obtain ⟨g, cc, v0, v1, rfl, hc2, hm2, f0, f1, hv0, hv1⟩ := HU.out _ _ _ _ hU1 hul hh
      clear hU1 hul hh
      obtain ⟨U, e1, rfl⟩ := tms_slice hv0
      obtain ⟨U1, e2, rfl⟩ := tms_slice hv1
      have HV := Lib.hid hv0
      have HV1 := Lib.hid hv1
      clear hv0 hv1
      have r1 := Grew.refl w1
      go_wp2_with fail
      refine wp_loop_rounds 3 ?_; rw [rounds_succ]
      go_wp2_with fail
      refine (KI.out _ _ hg1 (HV.out.grew hg1)).mono ?_
      rintro e w2 ⟨s2, rfl, hs2, hg2⟩
      obtain rfl := hs2 B rfl
      clear hs2
      have g2 := hg1.trans hg2
      have hO2 := HO1.grew (g2.trans ((Grew.refl w2).alloc (.cells #[.string (tx B)] 9)))
      go_wp2_with (first | (at_builtin; refine wpList_appStr (w0 := w) _ _ rfl rfl _ [] rfl hO2 (g2.alloc _) _ (tx B) rfl (rd_lit _ _ _) (by simp) ?_; intro v2x w2x hown2 hg2x hgr2))
      have hk2 : Grew w1 w2x := (hg2.trans ((Grew.refl w2).alloc (.cells #[.string (tx B)] 9))).trans (by
        have hq : (w2.alloc (.cells #[.string (tx B)] 9)).grownBy w2x none := hgr2
        exact ⟨hq.os, hq.tape, hq.output, hq.size, fun i hi => hq.block i hi (by simp)⟩)
      have HO3 := hown2
      obtain ⟨A3, c3, rfl⟩ := strs_slice hown2.strs
      clear hO2 hown2 hgr2
      rw [rounds_succ]
      go_wp2_with fail
      refine (KJ.out _ _ hg2x (HV1.out.grew hg2x)).mono ?_
      rintro e w4 ⟨s4, rfl, hs4, hg4⟩
      obtain rfl := hs4 C rfl
      clear hs4
      have g4 := hg2x.trans hg4
      have hO5 := HO3.grew (hg4.trans ((Grew.refl w4).alloc (.cells #[.string (tx C)] 9)))
      go_wp2_with (first | (at_builtin; refine wpList_appStr (w0 := w) _ _ rfl rfl _ [tx B] rfl hO5 (g4.alloc _) _ (tx C) rfl (rd_lit _ _ _) (by simp) ?_; intro v5x w5x hown5 hg5x hgr5))
      have hS5 := Lib.hid hown5.strs
      obtain ⟨A5, c5, rfl⟩ := strs_slice hown5.strs
      have g5 := hg5x
      clear hO5 hown5 hgr5 hg5x
      rw [rounds_succ]
      go_wp2_with fail
      refine (KN.out _ _ _ _ hB.out hC.out hS5.out).mono ?_
      rintro e w6 ⟨s6, rfl, hs6, hg6⟩
      go_wp2_with fail
      go_ret2
      exact ⟨s6, rfl, hs6, g5.trans hg6⟩
end Go.Proofs.YtdndclfjeajhiaaGreat

/- typeOf of the program at a case. -/
namespace Go.Proofs.YtdndclfjeajhiaaGreat
open Go.RowKit
open Tr (Tm)

set_option maxHeartbeats 2000000 in
theorem typeOfCase_c (c0 a b : Tm) (G : List Fm.Tree) (hl : G.length ≤ 12) (HOC : ∀ C, ty G c0 = some C → FmOk C) (HOA : ∀ A, FmOk A → ∀ B, ty (G ++ [A]) a = some B → FmOk B) (HOB : ∀ A, FmOk A → ∀ B, ty (G ++ [A]) b = some B → FmOk B) (IHc : TypV c0 G) (IHa : ∀ A, FmOk A → G.length < 12 → TypV a (G ++ [A])) (IHb : ∀ A, FmOk A → G.length < 12 → TypV b (G ++ [A])) (va : Value) (w0 w : World) (hs : Strs w0 va (G.map tx)) (hw : Grew w0 w) (g c : Nat) (v0 v1 v2 : Value) (hc : 3 ≤ c) (hm : c ≤ 9223372036854775807)
    (f0 : ∀ W, Grew w W → W.cell? ⟨g, 0, none⟩ = some v0) (f1 : ∀ W, Grew w W → W.cell? ⟨g, 1, none⟩ = some v1) (f2 : ∀ W, Grew w W → W.cell? ⟨g, 2, none⟩ = some v2) (h0 : Tms w0 v0 (Tr.enc c0)) (h1 : Tms w0 v1 (Tr.enc a)) (h2 : Tms w0 v2 (Tr.enc b)) :
    Calls Tryz.prog 60 #[va, .slice (some ⟨g, 0, none⟩) 3 c] w (GivesTy w ((ty G c0).bind (tyCs G a b))) := by
  have KI := fun W (hW : Grew w W) => IHc va v0 W (hs.grew (hw.trans hW)) (h0.grew (hw.trans hW))
  have KB := Lib.hid (fun s W (hW : Grew w W) => behind_c va (G.map tx) s W (hs.grew (hw.trans hW)) (by rw [List.length_map]; omega))
  have KA := fun A (hA : FmOk A) (h12 : G.length < 12) ub W (hW : Grew w W) (hub : Strs W ub (G.map tx ++ [tx A])) => IHa A hA h12 ub v1 W (by rw [List.map_append, List.map_singleton]; exact hub) (h1.grew (hw.trans hW))
  have KC := fun A (hA : FmOk A) (h12 : G.length < 12) ub W (hW : Grew w W) (hub : Strs W ub (G.map tx ++ [tx A])) => IHb A hA h12 ub v2 W (by rw [List.map_append, List.map_singleton]; exact hub) (h2.grew (hw.trans hW))
  have HL := Lib.hid (fun s => (by simp : (G.map tx ++ [s]).length = G.length + 1))
  have r0 := Grew.refl w
  obtain ⟨D, d, rfl⟩ := (strs_map hs).1
  obtain ⟨U0, e0, rfl⟩ := tms_slice h0
  obtain ⟨U1, e1, rfl⟩ := tms_slice h1
  obtain ⟨U2, e2, rfl⟩ := tms_slice h2
  clear hs h0 h1 h2 IHc IHa IHb hw
  unfold GivesTy at KI KA KC
  generalize (Tr.enc c0).length = n0 at *
  generalize (Tr.enc a).length = n1 at *
  generalize (Tr.enc b).length = n2 at *
  generalize hRC : ty G c0 = rc at *
  clear hRC
  cases rc with
  | none =>
    change Calls _ _ _ _ (GivesTy w none)
    have HE := Lib.hid (fun w' (h : Grew w w') => none_gives (s := ByteArray.empty) h)
    clear HOC HOA HOB KA KC KB HL
    generalize G.length = gl at *
    replace KI := Lib.hid KI
    go_enter Tryz.func60, Tryz.ntmps60
    go_wp2_with fail
    refine (KI.out _ r0).mono ?_
    rintro e w2 ⟨s1, rfl, _, hg1⟩
    go_wp2_with fail
    go_ret2
    exact HE.out _ hg1
  | some C =>
    have hC := HOC C rfl
    clear HOC
    by_cases h12 : G.length < 12
    · have hlt : (G.length : Int) < 12 := by omega
      by_cases hk3 : kindOf C = 3
      · obtain ⟨p, q, rfl⟩ : ∃ p q, C = .or p q := by
          cases C with
          | or p q => exact ⟨p, q, rfl⟩
          | _ => simp [kindOf] at hk3
        clear hk3
        obtain ⟨hp, hq⟩ := fmOk_or hC
        have KP := Lib.hid (fun w => partsWith_two 3 (.or p q) p q w hC rfl (.inr (.inl rfl)))
        have hk2 : (kindOf (.or p q) == 3) = true := rfl
        rw [hk2] at KP
        replace KA := KA p hp h12
        replace KC := KC q hq h12
        have hR : ((some (Fm.Tree.or p q)).bind (tyCs G a b)) = ((ty (G ++ [p]) a).bind fun R => (ty (G ++ [q]) b).bind fun S => if @decide (R = S) (Classical.propDecidable _) then some R else none) := by rw [Option.bind_some, tyCs, if_pos h12]
        rw [hR]
        replace HOA := HOA p hp
        replace HOB := HOB q hq
        clear hR hp hq h12 hk2 hC
        generalize ty (G ++ [p]) a = ra at *
        generalize ty (G ++ [q]) b = rb at *
        have HL1 := Lib.hid (HL.out (tx p))
        have HL2 := Lib.hid (HL.out (tx q))
        have KB1 := Lib.hid (KB.out (tx p))
        have KB2 := Lib.hid (KB.out (tx q))
        clear KB HL
        generalize G.map tx ++ [tx p] = Lp at *
        generalize G.map tx ++ [tx q] = Lq at *
        generalize tx p = tp at *
        generalize tx q = tq at *
        generalize G.length = gl at *
        replace KI := Lib.hid KI
        unfold GivesS at KB1 KB2
        replace KA := Lib.hid KA
        replace KC := Lib.hid KC
        cases ra with
        | none =>
          change Calls _ _ _ _ (GivesTy w none)
          have HE := Lib.hid (fun s w' (h : Grew w w') => none_gives (s := s) h)
          clear HOA HOB
          go_enter Tryz.func60, Tryz.ntmps60
          go_wp2_with fail
          refine (KI.out _ r0).mono ?_
          rintro e w1 ⟨s1, rfl, hs1, hg1⟩
          obtain rfl := hs1 _ rfl
          clear hs1
          go_wp2_with fail
          refine (KP.out _).mono ?_
          rintro e w2 ⟨u2, rfl, ho2, hg2⟩
          have g2 := hg1.trans hg2
          obtain ⟨b1, o1, c1, rfl, hc1, hm1, hb1, hf1⟩ := strs_two ho2.strs
          clear ho2
          have k1 := fun W (hW : Grew w2 W) => (hf1 W hW).1
          have k2 := fun W (hW : Grew w2 W) => (hf1 W hW).2
          clear hf1
          have r2 := Grew.refl w2
          have d2 := r2.drew
          have f1a := fun W (hW : Grew w2 W) => f1 W (g2.trans hW)
          have f2a := fun W (hW : Grew w2 W) => f2 W (g2.trans hW)
          have gd2 := g2.trans d2
          go_wp2_with fail
          go_region_held3 (fun w' => Grew w2 w') (with_reducible assumption)
            (first
              | (go_at_call 27; refine (KA.out _ _ gk3 HB3.out).mono ?_; rintro e w4 ⟨s4, rfl, hs4, hg4⟩; have gk4 := gk3.trans hg4; have hk4 := hk3.trans hg4)
              | (go_at_call 61; refine (KB1.out _ gd2).mono ?_; rintro e w3 ⟨ub, rfl, hob, hg3⟩; have HB3 := Lib.hid hob.strs; obtain ⟨X3, x3, rfl⟩ := strs_slice hob.strs; rw [HL1.out] at HB3 ⊢; clear hob; have gk3 := gd2.trans hg3; have hk3 := d2.trans hg3))
          clear f1a f2a gd2 r2 d2
          have r4 := Grew.refl w4
          have d4 := r4.drew
          have f2b := fun W (hW : Grew w4 W) => f2 W (gk4.trans hW)
          have k2b := fun W (hW : Grew w4 W) => k2 W (hk4.trans hW)
          have gd4 := gk4.trans d4
          have HS4 := Lib.hid hs4
          clear hs4
          go_wp2_with fail
          go_region_held3 (fun w' => Grew w4 w') (with_reducible assumption)
            (first
              | (go_at_call 27; refine (KC.out _ _ gk5 HB5.out).mono ?_; rintro e w6 ⟨s6, rfl, hs6, hg6⟩; have gk6 := gk5.trans hg6; have hk6 := hk5.trans hg6)
              | (go_at_call 61; refine (KB2.out _ gd4).mono ?_; rintro e w5 ⟨ub5, rfl, hob5, hg5⟩; have HB5 := Lib.hid hob5.strs; obtain ⟨X5, x5, rfl⟩ := strs_slice hob5.strs; rw [HL2.out] at HB5 ⊢; clear hob5; have gk5 := gd4.trans hg5; have hk5 := d4.trans hg5))
          have HS6 := Lib.hid hs6
          clear hs6
          go_wp2_with fail
          go_ret2
          exact HE.out _ _ gk6
        | some R =>
          cases rb with
          | none =>
            change Calls _ _ _ _ (GivesTy w none)
            have HE := Lib.hid (fun s w' (h : Grew w w') => none_gives (s := s) h)
            clear HOA HOB
            go_enter Tryz.func60, Tryz.ntmps60
            go_wp2_with fail
            refine (KI.out _ r0).mono ?_
            rintro e w1 ⟨s1, rfl, hs1, hg1⟩
            obtain rfl := hs1 _ rfl
            clear hs1
            go_wp2_with fail
            refine (KP.out _).mono ?_
            rintro e w2 ⟨u2, rfl, ho2, hg2⟩
            have g2 := hg1.trans hg2
            obtain ⟨b1, o1, c1, rfl, hc1, hm1, hb1, hf1⟩ := strs_two ho2.strs
            clear ho2
            have k1 := fun W (hW : Grew w2 W) => (hf1 W hW).1
            have k2 := fun W (hW : Grew w2 W) => (hf1 W hW).2
            clear hf1
            have r2 := Grew.refl w2
            have d2 := r2.drew
            have f1a := fun W (hW : Grew w2 W) => f1 W (g2.trans hW)
            have f2a := fun W (hW : Grew w2 W) => f2 W (g2.trans hW)
            have gd2 := g2.trans d2
            go_wp2_with fail
            go_region_held3 (fun w' => Grew w2 w') (with_reducible assumption)
              (first
                | (go_at_call 27; refine (KA.out _ _ gk3 HB3.out).mono ?_; rintro e w4 ⟨s4, rfl, hs4, hg4⟩; have gk4 := gk3.trans hg4; have hk4 := hk3.trans hg4)
                | (go_at_call 61; refine (KB1.out _ gd2).mono ?_; rintro e w3 ⟨ub, rfl, hob, hg3⟩; have HB3 := Lib.hid hob.strs; obtain ⟨X3, x3, rfl⟩ := strs_slice hob.strs; rw [HL1.out] at HB3 ⊢; clear hob; have gk3 := gd2.trans hg3; have hk3 := d2.trans hg3))
            clear f1a f2a gd2 r2 d2
            have r4 := Grew.refl w4
            have d4 := r4.drew
            have f2b := fun W (hW : Grew w4 W) => f2 W (gk4.trans hW)
            have k2b := fun W (hW : Grew w4 W) => k2 W (hk4.trans hW)
            have gd4 := gk4.trans d4
            have HS4 := Lib.hid hs4
            clear hs4
            go_wp2_with fail
            go_region_held3 (fun w' => Grew w4 w') (with_reducible assumption)
              (first
                | (go_at_call 27; refine (KC.out _ _ gk5 HB5.out).mono ?_; rintro e w6 ⟨s6, rfl, hs6, hg6⟩; have gk6 := gk5.trans hg6; have hk6 := hk5.trans hg6)
                | (go_at_call 61; refine (KB2.out _ gd4).mono ?_; rintro e w5 ⟨ub5, rfl, hob5, hg5⟩; have HB5 := Lib.hid hob5.strs; obtain ⟨X5, x5, rfl⟩ := strs_slice hob5.strs; rw [HL2.out] at HB5 ⊢; clear hob5; have gk5 := gd4.trans hg5; have hk5 := d4.trans hg5))
            have HS6 := Lib.hid hs6
            clear hs6
            go_wp2_with fail
            go_ret2
            exact HE.out _ _ gk6
          | some S =>
            have hR1 := (HOA R rfl).1
            have hS1 := (HOB S rfl).1
            clear HOA HOB
            have hpost : (some R).bind (fun R => (some S).bind fun S => if @decide (R = S) (Classical.propDecidable _) then some R else none) = if @decide (R = S) (Classical.propDecidable _) then some R else none := rfl
            rw [hpost]
            clear hpost
            by_cases hRS : R = S
            · subst hRS
              rw [if_pos (by simp)]
              have HE := Lib.hid (fun w' (h : Grew w w') => some_gives (A := R) h)
              have hx : ((tx R).toList == (tx R).toList) = true := by simp
              go_enter Tryz.func60, Tryz.ntmps60
              go_wp2_with fail
              refine (KI.out _ r0).mono ?_
              rintro e w1 ⟨s1, rfl, hs1, hg1⟩
              obtain rfl := hs1 _ rfl
              clear hs1
              go_wp2_with fail
              refine (KP.out _).mono ?_
              rintro e w2 ⟨u2, rfl, ho2, hg2⟩
              have g2 := hg1.trans hg2
              obtain ⟨b1, o1, c1, rfl, hc1, hm1, hb1, hf1⟩ := strs_two ho2.strs
              clear ho2
              have k1 := fun W (hW : Grew w2 W) => (hf1 W hW).1
              have k2 := fun W (hW : Grew w2 W) => (hf1 W hW).2
              clear hf1
              have r2 := Grew.refl w2
              have d2 := r2.drew
              have f1a := fun W (hW : Grew w2 W) => f1 W (g2.trans hW)
              have f2a := fun W (hW : Grew w2 W) => f2 W (g2.trans hW)
              have gd2 := g2.trans d2
              go_wp2_with fail
              go_region_held3 (fun w' => Grew w2 w') (with_reducible assumption)
                (first
                  | (go_at_call 27; refine (KA.out _ _ gk3 HB3.out).mono ?_; rintro e w4 ⟨s4, rfl, hs4, hg4⟩; have gk4 := gk3.trans hg4; have hk4 := hk3.trans hg4)
                  | (go_at_call 61; refine (KB1.out _ gd2).mono ?_; rintro e w3 ⟨ub, rfl, hob, hg3⟩; have HB3 := Lib.hid hob.strs; obtain ⟨X3, x3, rfl⟩ := strs_slice hob.strs; rw [HL1.out] at HB3 ⊢; clear hob; have gk3 := gd2.trans hg3; have hk3 := d2.trans hg3))
              clear f1a f2a gd2 r2 d2
              have r4 := Grew.refl w4
              have d4 := r4.drew
              have f2b := fun W (hW : Grew w4 W) => f2 W (gk4.trans hW)
              have k2b := fun W (hW : Grew w4 W) => k2 W (hk4.trans hW)
              have gd4 := gk4.trans d4
              have HS4 := Lib.hid hs4
              clear hs4
              go_wp2_with fail
              go_region_held3 (fun w' => Grew w4 w') (with_reducible assumption)
                (first
                  | (go_at_call 27; refine (KC.out _ _ gk5 HB5.out).mono ?_; rintro e w6 ⟨s6, rfl, hs6, hg6⟩; have gk6 := gk5.trans hg6; have hk6 := hk5.trans hg6)
                  | (go_at_call 61; refine (KB2.out _ gd4).mono ?_; rintro e w5 ⟨ub5, rfl, hob5, hg5⟩; have HB5 := Lib.hid hob5.strs; obtain ⟨X5, x5, rfl⟩ := strs_slice hob5.strs; rw [HL2.out] at HB5 ⊢; clear hob5; have gk5 := gd4.trans hg5; have hk5 := d4.trans hg5))
              have HS6 := Lib.hid hs6
              clear hs6
              obtain rfl := HS4.out _ rfl
              obtain rfl := HS6.out _ rfl
              go_wp2_with fail
              go_ret2
              exact HE.out _ gk6
            · rw [if_neg (by simp [hRS])]
              have HE := Lib.hid (fun s w' (h : Grew w w') => none_gives (s := s) h)
              have hneq : tx R ≠ tx S := fun hh => hRS (tx_inj hR1 hS1 hh)
              have hb1 : ((tx R).toList == (tx S).toList) = false := by
                cases hq : ((tx R).toList == (tx S).toList) with
                | false => rfl
                | true => exact absurd ((Lib.bytes_beq_iff _ _).1 hq) hneq
              clear hneq hRS hR1 hS1
              go_enter Tryz.func60, Tryz.ntmps60
              go_wp2_with fail
              refine (KI.out _ r0).mono ?_
              rintro e w1 ⟨s1, rfl, hs1, hg1⟩
              obtain rfl := hs1 _ rfl
              clear hs1
              go_wp2_with fail
              refine (KP.out _).mono ?_
              rintro e w2 ⟨u2, rfl, ho2, hg2⟩
              have g2 := hg1.trans hg2
              obtain ⟨b1, o1, c1, rfl, hc1, hm1, hb1, hf1⟩ := strs_two ho2.strs
              clear ho2
              have k1 := fun W (hW : Grew w2 W) => (hf1 W hW).1
              have k2 := fun W (hW : Grew w2 W) => (hf1 W hW).2
              clear hf1
              have r2 := Grew.refl w2
              have d2 := r2.drew
              have f1a := fun W (hW : Grew w2 W) => f1 W (g2.trans hW)
              have f2a := fun W (hW : Grew w2 W) => f2 W (g2.trans hW)
              have gd2 := g2.trans d2
              go_wp2_with fail
              go_region_held3 (fun w' => Grew w2 w') (with_reducible assumption)
                (first
                  | (go_at_call 27; refine (KA.out _ _ gk3 HB3.out).mono ?_; rintro e w4 ⟨s4, rfl, hs4, hg4⟩; have gk4 := gk3.trans hg4; have hk4 := hk3.trans hg4)
                  | (go_at_call 61; refine (KB1.out _ gd2).mono ?_; rintro e w3 ⟨ub, rfl, hob, hg3⟩; have HB3 := Lib.hid hob.strs; obtain ⟨X3, x3, rfl⟩ := strs_slice hob.strs; rw [HL1.out] at HB3 ⊢; clear hob; have gk3 := gd2.trans hg3; have hk3 := d2.trans hg3))
              clear f1a f2a gd2 r2 d2
              have r4 := Grew.refl w4
              have d4 := r4.drew
              have f2b := fun W (hW : Grew w4 W) => f2 W (gk4.trans hW)
              have k2b := fun W (hW : Grew w4 W) => k2 W (hk4.trans hW)
              have gd4 := gk4.trans d4
              have HS4 := Lib.hid hs4
              clear hs4
              go_wp2_with fail
              go_region_held3 (fun w' => Grew w4 w') (with_reducible assumption)
                (first
                  | (go_at_call 27; refine (KC.out _ _ gk5 HB5.out).mono ?_; rintro e w6 ⟨s6, rfl, hs6, hg6⟩; have gk6 := gk5.trans hg6; have hk6 := hk5.trans hg6)
                  | (go_at_call 61; refine (KB2.out _ gd4).mono ?_; rintro e w5 ⟨ub5, rfl, hob5, hg5⟩; have HB5 := Lib.hid hob5.strs; obtain ⟨X5, x5, rfl⟩ := strs_slice hob5.strs; rw [HL2.out] at HB5 ⊢; clear hob5; have gk5 := gd4.trans hg5; have hk5 := d4.trans hg5))
              have HS6 := Lib.hid hs6
              clear hs6
              obtain rfl := HS4.out _ rfl
              obtain rfl := HS6.out _ rfl
              go_wp2_with fail
              go_ret2
              exact HE.out _ _ gk6
      · have hkb : (kindOf C == 3) = false := by simpa using hk3
        have KP := Lib.hid (fun w => partsWith_not 3 C w hC hkb)
        have HE := Lib.hid (fun w' (h : Grew w w') => (by rw [Option.bind_some, tyCs_not hkb]; exact none_gives (s := ByteArray.empty) h : GivesTy w ((some C).bind (tyCs G a b)) (.returned (.tuple #[.string ByteArray.empty, .bool false])) w'))
        generalize (some C).bind (tyCs G a b) = rr at *
        clear HOA HOB KA KC KB HL hC hk3 hkb h12
        generalize G.length = gl at *
        replace KI := Lib.hid KI
        go_enter Tryz.func60, Tryz.ntmps60
        go_wp2_with fail
        refine (KI.out _ r0).mono ?_
        rintro e w1 ⟨s1, rfl, hs1, hg1⟩
        obtain rfl := hs1 _ rfl
        clear hs1
        go_wp2_with fail
        refine (KP.out _).mono ?_
        rintro e w2 ⟨u2, rfl, ⟨X, x, y, rfl⟩, hg2⟩
        go_wp2_with fail
        go_ret2
        exact HE.out _ (hg1.trans hg2)
    · have hge : G.length = 12 := by omega
      have HE := Lib.hid (fun w' (h : Grew w w') => (by
        have : (some C).bind (tyCs G a b) = none := by
          rw [Option.bind_some]
          cases C with
          | or p q => rw [tyCs, if_neg h12]
          | _ => rfl
        rw [this]; exact none_gives (s := ByteArray.empty) h : GivesTy w ((some C).bind (tyCs G a b)) (.returned (.tuple #[.string ByteArray.empty, .bool false])) w'))
      generalize (some C).bind (tyCs G a b) = rr at *
      clear HOA HOB KA KC KB HL hC h12
      have hge2 : ((G.length : Int) == 12) = true := by rw [hge]; rfl
      rw [hge] at KI ⊢
      clear hge hge2
      replace KI := Lib.hid KI
      go_enter Tryz.func60, Tryz.ntmps60
      go_wp2_with fail
      refine (KI.out _ r0).mono ?_
      rintro e w1 ⟨s1, rfl, hs1, hg1⟩
      clear hs1
      go_wp2_with fail
      go_ret2
      exact HE.out _ hg1
end Go.Proofs.YtdndclfjeajhiaaGreat

/- typeOf of every term. -/
namespace Go.Proofs.YtdndclfjeajhiaaGreat
open Go.RowKit
open Tr (Tm)

theorem typeOf_case (x : Tn) (c0 a b : Tm) (hg : Good (.t3 x c0 a b)) (hk : x.1 = 8) (G : List Fm.Tree) (hG : ∀ A ∈ G, FmOk A) (hl : G.length ≤ 12) (IHc : TypV c0 G) (IHa : ∀ A, FmOk A → G.length < 12 → TypV a (G ++ [A])) (IHb : ∀ A, FmOk A → G.length < 12 → TypV b (G ++ [A])) (va v : Value) (w : World) (hs : Strs w va (G.map tx)) (h : Tms w v (Tr.enc (.t3 x c0 a b))) (hn : (Tr.enc (.t3 x c0 a b)).length ≤ 60) :
    Calls Tryz.prog 27 #[va, v] w (GivesTy w (ty G (.t3 x c0 a b))) := by
  rw [ty_case]
  have KP := Lib.hid (fun W (hW : Grew w W) => inner_o v (.t3 x c0 a b) w W h hW hg (by omega))
  have hgl : ∀ A, FmOk A → ∀ B ∈ G ++ [A], FmOk B := fun A hA B hB => by
    rw [List.mem_append] at hB
    rcases hB with hB | hB
    · exact hG B hB
    · simp at hB; subst hB; exact hA
  have KC := Lib.hid (fun w1 g c v0 v1 v2 hw hc hm f0 f1 f2 h0 h1 h2 => typeOfCase_c c0 a b G hl (fun B hB => ty_ok c0 hg.2.1 G B hG hB) (fun A hA B hB => ty_ok a hg.2.2.1 (G ++ [A]) B (hgl A hA) hB) (fun A hA B hB => ty_ok b hg.2.2.2 (G ++ [A]) B (hgl A hA) hB) IHc IHa IHb va w w1 hs hw g c v0 v1 v2 hc hm f0 f1 f2 h0 h1 h2)
  obtain ⟨bb, o, c, rfl, hc, hm, hb, hcl⟩ := tms_head h
  have k0 := fun W (hW : Grew w W) => (hcl W hW).1
  change ∀ W, Grew w W → W.cell? ⟨bb, o, none⟩ = some (.int .i64 x.1) at k0
  rw [hk] at k0
  have hpos := Tr.enc_pos (.t3 x c0 a b)
  have hr := Grew.refl w
  obtain ⟨D, d, rfl⟩ := (strs_map hs).1
  have hkl : Hid ((Tr.kids (.t3 x c0 a b)).length = 3) := Lib.hid rfl
  have hkid : Hid (Tr.kid (.t3 x c0 a b) 0 = c0 ∧ Tr.kid (.t3 x c0 a b) 1 = a ∧ Tr.kid (.t3 x c0 a b) 2 = b) := Lib.hid ⟨rfl, rfl, rfl⟩
  clear hcl h hg IHa IHb IHc hs hG hgl hk
  generalize (Tr.enc (.t3 x c0 a b)).length = n at *
  generalize (ty G c0).bind (tyCs G a b) = R at *
  generalize G.length = gl at *
  unfold GivesTy at KC
  go_enter Tryz.func27, Tryz.ntmps27
  go_wp2_with fail
  refine (KP.out _ hr).mono ?_
  rintro e w1 ⟨u, us, rfl, hU1, hul, hh, hg1⟩
  rw [hkl.out] at hul
  obtain ⟨g, cc, rfl, hc2, hm2, hB2, hg2⟩ := hU1.open_ (by omega)
  rw [hul] at hc2 hU1 ⊢
  obtain ⟨v0, hv0⟩ : ∃ v0, us[0]? = some v0 := ⟨_, List.getElem?_eq_getElem (by omega)⟩
  obtain ⟨v1, hv1⟩ : ∃ v1, us[1]? = some v1 := ⟨_, List.getElem?_eq_getElem (by omega)⟩
  obtain ⟨v2, hv2⟩ : ∃ v2, us[2]? = some v2 := ⟨_, List.getElem?_eq_getElem (by omega)⟩
  have hT0 := hh 0 v0 hv0
  have hT1 := hh 1 v1 hv1
  have hT2 := hh 2 v2 hv2
  rw [hkid.out.1] at hT0
  rw [hkid.out.2.1] at hT1
  rw [hkid.out.2.2] at hT2
  have hcl0 := hU1.cell hv0
  have hcl1 := hU1.cell hv1
  have hcl2 := hU1.cell hv2
  have KD := Lib.hid (KC.out w1 g cc v0 v1 v2 hg1 hc2 hm2 (fun W hW => (hW.cell (p := ⟨g, 0, none⟩) hg2).trans hcl0) (fun W hW => (hW.cell (p := ⟨g, 1, none⟩) hg2).trans hcl1) (fun W hW => (hW.cell (p := ⟨g, 2, none⟩) hg2).trans hcl2) hT0 hT1 hT2)
  clear hul hh hv0 hv1 hv2 hT0 hT1 hT2 hcl0 hcl1 hcl2 hU1
  go_wp2_with fail
  refine KD.out.mono ?_
  rintro e w2 ⟨s, rfl, hs2, hg3⟩
  go_wp2_with fail
  go_ret2
  exact ⟨s, rfl, hs2, hg1.trans hg3⟩

theorem typeOf_c : ∀ t : Tm, Good t → (Tr.enc t).length ≤ 60 → ∀ G : List Fm.Tree, (∀ A ∈ G, FmOk A) → G.length ≤ 12 → TypV t G := by
  intro t
  have hmore : ∀ (G : List Fm.Tree) (A : Fm.Tree), (∀ B ∈ G, FmOk B) → FmOk A → ∀ B ∈ G ++ [A], FmOk B := fun G A hG hA B hB => by
    rw [List.mem_append] at hB
    rcases hB with hB | hB
    · exact hG B hB
    · simp at hB; subst hB; exact hA
  have hlen1 : ∀ (G : List Fm.Tree) (A : Fm.Tree), G.length < 12 → (G ++ [A]).length ≤ 12 := fun G A h => by simp; omega
  induction t with
  | t0 x => exact fun hg hn G hG hl va v w hs h => typeOf_var x hg G va v w hl hs h
  | t1 x a iha =>
    intro hg hn G hG hl va v w hs h
    have hk := ar_one (show Tr.ar x.1 = 1 from hg.1.1)
    have ha : (Tr.enc a).length ≤ 60 := by simp [Tr.enc] at hn; omega
    have IH := iha hg.2 ha
    have hA := fun (hh : typedB x.1 = true) (h0 : x.1 ≠ 0) => fo_ok (goodN_text hg.1.2 hh h0)
    by_cases h1 : x.1 = 1
    · have hA1 := hA (by rw [h1]; rfl) (by omega)
      by_cases h12 : G.length < 12
      · have hty : ty G (.t1 x a) = tyLam (fo x.2.2) (ty (G ++ [fo x.2.2]) a) := by rw [ty, if_pos h1, if_pos h12]
        rw [hty]
        refine typeOf_lam x a hg h1 G hG h12 (IH _ (hmore G _ hG hA1.1) (hlen1 G _ h12)) ?_ va v w hs h hn
        intro B vt W hB hsB
        rw [h1]
        have h2 := nodeType_lam x.2.1 (fo x.2.2) B vt W hA1.1 hB hsB
        rw [hA1.2] at h2
        exact h2
      · have hty : ty G (.t1 x a) = none := by rw [ty, if_pos h1, if_neg h12]
        rw [hty]
        exact typeOf_full x a hg h1 G hG ⟨by omega, hl⟩ va v w hs h hn
    · have hty : ty G (.t1 x a) = (ty G a).bind (ty1 x.1 (fo x.2.2)) := by rw [ty, if_neg h1]
      rw [hty]
      refine typeOf_one x a hg (by omega) (by omega) h1 _ G hG hl (IH G hG hl) ?_ va v w hs h hn
      intro B vt W hB hsB
      rcases hk with hk | hk | hk | hk | hk | hk
      · exact absurd hk h1
      · rw [hk]; exact nodeType_fst x.2.1 x.2.2 (fo x.2.2) B vt W hB hsB
      · rw [hk]; exact nodeType_snd x.2.1 x.2.2 (fo x.2.2) B vt W hB hsB
      · have hA1 := hA (by rw [hk]; rfl) (by omega)
        rw [hk]
        have h2 := nodeType_inl x.2.1 (fo x.2.2) B vt W hA1.1 hB hsB
        rw [hA1.2] at h2
        exact h2
      · have hA1 := hA (by rw [hk]; rfl) (by omega)
        rw [hk]
        have h2 := nodeType_inr x.2.1 (fo x.2.2) B vt W hA1.1 hB hsB
        rw [hA1.2] at h2
        exact h2
      · have hA1 := hA (by rw [hk]; rfl) (by omega)
        rw [hk]
        have h2 := nodeType_abort x.2.1 (fo x.2.2) B vt W hA1.1 hB hsB
        rw [hA1.2] at h2
        exact h2
  | t2 x a b iha ihb =>
    intro hg hn G hG hl va v w hs h
    have hk := ar_two (show Tr.ar x.1 = 2 from hg.1.1)
    have ha : (Tr.enc a).length ≤ 60 := by simp [Tr.enc] at hn; omega
    have hb : (Tr.enc b).length ≤ 60 := by simp [Tr.enc] at hn; omega
    have hty : ty G (.t2 x a b) = (ty G a).bind fun C => (ty G b).bind fun D => ty2 x.1 C D := by rw [ty]
    rw [hty]
    refine typeOf_two x a b hg (by omega) (by omega) (by omega) (ty2 x.1) G hG hl (iha hg.2.1 ha G hG hl) (ihb hg.2.2 hb G hG hl) ?_ va v w hs h hn
    intro B D vt W hB hD hsB
    rcases hk with hk | hk
    · rw [hk]; exact nodeType_app x.2.1 x.2.2 B D vt W hB hD hsB
    · rw [hk]; exact nodeType_pair x.2.1 x.2.2 B D vt W hB hD hsB
  | t3 x c a b ihc iha ihb =>
    intro hg hn G hG hl va v w hs h
    have hk := ar_three (show Tr.ar x.1 = 3 from hg.1.1)
    have hc : (Tr.enc c).length ≤ 60 := by simp [Tr.enc] at hn; omega
    have ha : (Tr.enc a).length ≤ 60 := by simp [Tr.enc] at hn; omega
    have hb : (Tr.enc b).length ≤ 60 := by simp [Tr.enc] at hn; omega
    exact typeOf_case x c a b hg hk G hG hl (ihc hg.2.1 hc G hG hl) (fun A hA h12 => iha hg.2.2.1 ha _ (hmore G A hG hA) (hlen1 G A h12)) (fun A hA h12 => ihb hg.2.2.2 hb _ (hmore G A hG hA) (hlen1 G A h12)) va v w hs h hn
end Go.Proofs.YtdndclfjeajhiaaGreat

/- A predicate on strings: IndexFunc, ContainsFunc. -/
namespace Go.Proofs.YtdndclfjeajhiaaGreat
open Go.RowKit

/-- None of the first k strings meets the predicate. -/
def NoneS (p : ByteArray → Bool) (L : List ByteArray) (k : Nat) : Prop := ∀ i, i < k → p (st L i) = false
theorem NoneS.zero (p : ByteArray → Bool) (L : List ByteArray) : NoneS p L 0 := fun i hi => absurd hi (by omega)
theorem NoneS.succ {p : ByteArray → Bool} {L : List ByteArray} {k : Nat} (h : NoneS p L k) (h1 : p (st L k) = false) : NoneS p L (k + 1) := by
  intro i hi
  rcases Nat.lt_or_ge i k with hk | hk
  · exact h i hk
  · obtain rfl : i = k := by omega
    exact h1
theorem noneS_any {p : ByteArray → Bool} {L : List ByteArray} (h : NoneS p L L.length) : L.any p = false := by
  rw [List.any_eq_false]
  intro x hx
  obtain ⟨i, hi, rfl⟩ := List.getElem_of_mem hx
  rw [st_get hi, h i hi]
  simp
theorem anyS_at {p : ByteArray → Bool} {L : List ByteArray} {k : Nat} (hk : k < L.length) (h : p (st L k) = true) : L.any p = true := by
  rw [List.any_eq_true]
  exact ⟨L[k], List.getElem_mem hk, by rw [st_get hk]; exact h⟩

/-- What the function value gives at a string. -/
def PredS (f : Nat) (p : ByteArray → Bool) : Prop := ∀ s W, s.size ≤ 140737488355328 → Calls Tryz.prog f #[.string s] W fun e W' => e = .returned (.bool (p s)) ∧ Grew W W'

theorem indexFuncS_c (v : Value) (L : List ByteArray) (f : Nat) (p : ByteArray → Bool) (w : World) (h : Strs w v L) (hfit : Fits L) (hf : PredS f p) (eg : ∀ args w, (callFunc f args).run Tryz.prog w = .ok (.enter f args) w) :
    Calls Tryz.prog 88 #[v, .func (.func f) #[] #[]] w fun e w' => ∃ r : Int, e = .returned (.int .i64 r) ∧ Grew w w' ∧ decide (0 ≤ r) = L.any p := by
  rcases h.open_ with ⟨rfl, rfl⟩ | ⟨b, o, c, rfl, hc, hm, hb, hcell⟩
  · rw [noneS_any (NoneS.zero _ _)]
    clear h hf hfit
    go_enter Tryz.func88, Tryz.ntmps88
    go_wp2_with fail
    refine wp_loop_rounds 1 ?_; rw [rounds_succ]
    go_wp2_with fail
    go_ret
    exact ⟨_, rfl, Grew.refl _, rfl⟩
  obtain ⟨R, hR⟩ : ∃ R, R = L.any p := ⟨_, rfl⟩
  rw [← hR]
  have HA := Lib.hid (fun k hk h => hR.trans (@anyS_at p L k hk h))
  have HZ := Lib.hid (fun h => hR.trans (@noneS_any p L h))
  have HC := Lib.hid hcell
  have HF := Lib.hid hf
  unfold Fits at hfit
  have HT := Lib.hid hfit
  clear hcell h hf hR hfit
  generalize hN : L.length = n at *
  clear hN
  go_enter Tryz.func88, Tryz.ntmps88
  go_wp2_with fail
  go_loopw [5, 8] (fun _ i wr => ∃ j : Nat, j ≤ n ∧ i = .int .i64 j ∧ Grew w wr ∧ Hid (NoneS p L j)) (fun _ i _ => n - (intOf i).toNat)
  case atStart => exact ⟨0, Nat.zero_le _, rfl, Grew.refl _, NoneS.zero _ _⟩
  case round =>
    obtain ⟨j, hj, rfl, hB, HJ⟩ := hrel
    by_cases hlt : j < n
    · have k1 := HC.out j hlt _ hB
      have hz := HT.out j hlt
      have hA := Lib.hid (HA.out j hlt)
      have hS := Lib.hid (fun h => HJ.out.succ (k := j) h)
      generalize st L j = x at *
      go_wp2_with fail
      go_at_fn f
      refine (HF.out x _ (by omega)).mono ?_
      rintro e w1 ⟨rfl, hg1⟩
      have hB1 := hB.trans hg1
      cases hp : p x with
      | true =>
        have hv := hA.out hp
        go_wp2_with fail
        go_ret
        exact ⟨_, rfl, hB1, by rw [hv]; simp⟩
      | false =>
        have hs := Lib.hid (hS.out hp)
        go_wp2_with fail
        go_roundw
        case rel => exact ⟨j + 1, by omega, by go_num, hB1, hs⟩
        case measure => simp [intOf]; omega
    · obtain rfl : j = n := by omega
      have hv := Lib.hid (HZ.out HJ.out)
      go_wp2_with fail
      go_ret
      exact ⟨_, rfl, hB, by rw [hv.out]; rfl⟩

theorem containsFuncS_c (v : Value) (L : List ByteArray) (f : Nat) (p : ByteArray → Bool) (w : World) (h : Strs w v L) (hfit : Fits L) (hf : PredS f p) (eg : ∀ args w, (callFunc f args).run Tryz.prog w = .ok (.enter f args) w) :
    Calls Tryz.prog 56 #[v, .func (.func f) #[] #[]] w fun e w' => e = .returned (.bool (L.any p)) ∧ Grew w w' := by
  have HI := Lib.hid (indexFuncS_c v L f p w h hfit hf eg)
  clear h hf eg hfit
  generalize L.any p = R at *
  go_enter Tryz.func56, Tryz.ntmps56
  go_wp2_with fail
  refine HI.out.mono ?_
  rintro e w1 ⟨r, rfl, hg1, hr⟩
  go_wp2_with fail
  go_ret
  exact ⟨by rw [← hr]; rfl, hg1⟩
end Go.Proofs.YtdndclfjeajhiaaGreat

/- A predicate on strings: IndexFunc, ContainsFunc; assumption lists: isAssumptionList of the program, l25List of the reference. -/
namespace Go.Proofs.YtdndclfjeajhiaaGreat
open Go.RowKit

/-- Is it an assumption list? -/
noncomputable def asl (L : List ByteArray) : Bool := decide (L.length ≤ 12) && !L.any fun s => !gp s
theorem asl_map {L : List ByteArray} (h : asl L = true) : L.length ≤ 12 ∧ ∀ s ∈ L, gp s = true := by
  unfold asl at h
  simp only [Bool.and_eq_true, decide_eq_true_eq, Bool.not_eq_true', List.any_eq_false] at h
  exact ⟨h.1, fun s hs => by simpa using h.2 s hs⟩

theorem isAssumptionList1_ok : PredS 57 (fun s => !gp s) := by
  intro s w hs
  have HP := Lib.hid (fun w => isPlainText_c s w hs)
  show Calls _ _ _ _ (fun e W' => e = .returned (.bool (!gp s)) ∧ Grew w W')
  generalize gp s = q at *
  go_enter Tryz.func57, Tryz.ntmps57
  go_wp2_with fail
  refine (HP.out _).mono ?_
  rintro e w1 ⟨rfl, hg1⟩
  go_wp2_with fail
  go_ret
  exact ⟨rfl, hg1⟩

theorem isAssumptionList_c (v : Value) (L : List ByteArray) (w : World) (h : Strs w v L) (hfit : Fits L) :
    Calls Tryz.prog 26 #[v] w fun e w' => e = .returned (.bool (asl L)) ∧ Grew w w' := by
  unfold asl
  have HC := Lib.hid (fun w h => containsFuncS_c v L _ _ w h hfit isAssumptionList1_ok (enters_of Tryz.func57 (by kernel_rfl) rfl))
  obtain ⟨A, c, rfl⟩ := strs_slice h
  have HN := Lib.hid h
  clear h hfit
  by_cases hl : L.length ≤ 12
  · rw [decide_eq_true hl, Bool.true_and]
    generalize (L.any fun s => !gp s) = q at *
    generalize L.length = n at *
    go_enter Tryz.func26, Tryz.ntmps26
    go_wp2_with fail
    refine (HC.out _ HN.out).mono ?_
    rintro e w1 ⟨rfl, hg1⟩
    go_wp2_with fail
    go_ret
    exact ⟨rfl, hg1⟩
  · rw [decide_eq_false hl, Bool.false_and]
    clear HC HN
    generalize L.length = n at *
    go_enter Tryz.func26, Tryz.ntmps26
    go_wp2_with fail
    go_ret
    exact ⟨rfl, Grew.refl _⟩

theorem l25List_c (v : Value) (L : List ByteArray) (w : World) (h : Strs w v L) (hfit : Fits L) :
    Calls Tryz.prog 28 #[v] w fun e w' => e = .returned (.bool (asl L)) ∧ Grew w w' := by
  unfold asl
  rcases h.open_ with ⟨rfl, rfl⟩ | ⟨b, o, c, rfl, hc, hm, hb, hcell⟩
  · clear h hfit
    go_enter Tryz.func28, Tryz.ntmps28
    go_wp2_with fail
    refine wp_loop_rounds 1 ?_; rw [rounds_succ]
    go_wp2_with fail
    go_ret
    exact ⟨rfl, Grew.refl _⟩
  by_cases hl : L.length ≤ 12
  · rw [decide_eq_true hl, Bool.true_and]
    obtain ⟨R, hR⟩ : ∃ R, R = (L.any fun s => !gp s) := ⟨_, rfl⟩
    rw [← hR]
    have HA := Lib.hid (fun k hk h => hR.trans (@anyS_at (fun s => !gp s) L k hk h))
    have HZ := Lib.hid (fun h => hR.trans (@noneS_any (fun s => !gp s) L h))
    have HC := Lib.hid hcell
    unfold Fits at hfit
    have HT := Lib.hid hfit
    clear hcell h hR hfit
    generalize hN : L.length = n at *
    clear hN
    go_enter Tryz.func28, Tryz.ntmps28
    go_wp2_with fail
    go_loopw [3] (fun i wr => ∃ j : Nat, j ≤ n ∧ i = .int .i64 j ∧ Grew w wr ∧ Hid (NoneS (fun s => !gp s) L j)) (fun i _ => n - (intOf i).toNat)
    case atStart => exact ⟨0, Nat.zero_le _, rfl, Grew.refl _, NoneS.zero _ _⟩
    case round =>
      obtain ⟨j, hj, rfl, hB, HJ⟩ := hrel
      by_cases hlt : j < n
      · have k1 := HC.out j hlt _ hB
        have hz := HT.out j hlt
        have hA := Lib.hid (HA.out j hlt)
        have hS := Lib.hid (fun h => HJ.out.succ (k := j) h)
        have HF := Lib.hid (fun w => l25Formula_c (st L j) w (by omega))
        unfold GivesP at HF
        generalize st L j = x at *
        generalize (Fm.pf x).1 = xs at *
        cases hp : gp x with
        | true =>
          rw [hp] at HF
          have hs := Lib.hid (hS.out (by simp [hp]))
          clear hp
          go_wp2_with fail
          refine (HF.out _).mono ?_
          rintro e w1 ⟨u, rfl, ho1, hg1⟩
          have hB1 := hB.trans hg1
          go_wp2_with fail
          go_roundw
          case rel => exact ⟨j + 1, by omega, by go_num, hB1, hs⟩
          case measure => simp [intOf]; omega
        | false =>
          rw [hp] at HF
          have hv := Lib.hid (hA.out (by simp [hp]))
          clear hp
          go_wp2_with fail
          refine (HF.out _).mono ?_
          rintro e w1 ⟨u, rfl, ho1, hg1⟩
          have hB1 := hB.trans hg1
          go_wp2_with fail
          go_ret
          exact ⟨by rw [hv.out]; rfl, hB1⟩
      · obtain rfl : j = n := by omega
        have hv := Lib.hid (HZ.out HJ.out)
        go_wp2_with fail
        go_ret
        exact ⟨by rw [hv.out]; rfl, hB⟩
  · rw [decide_eq_false hl, Bool.false_and]
    clear hcell h hfit
    generalize L.length = n at *
    go_enter Tryz.func28, Tryz.ntmps28
    go_wp2_with fail
    go_ret
    exact ⟨rfl, Grew.refl _⟩
end Go.Proofs.YtdndclfjeajhiaaGreat

/- What TypeOfTerm answers. -/
namespace Go.Proofs.YtdndclfjeajhiaaGreat
open Go.RowKit
open Tr (Tm)

/-- The type of a term, or a code. -/
noncomputable def ttF (L : List ByteArray) (xs : List Tn) : ByteArray × Int := if asl L && tmB xs then (match ty (L.map fo) (tmT xs) with | some A => (tx A, 0) | none => (ByteArray.empty, 5)) else (ByteArray.empty, 1)
def GivesSI (w : World) (r : ByteArray × Int) (e : Ending) (w' : World) : Prop := e = .returned (.tuple #[.string r.1, .int .i64 r.2]) ∧ Grew w w'
theorem asl_ok {L : List ByteArray} (h : asl L = true) : (L.map fo).length ≤ 12 ∧ (∀ A ∈ L.map fo, FmOk A) ∧ (L.map fo).map tx = L := by
  obtain ⟨h1, h2⟩ := asl_map h
  refine ⟨by simpa using h1, fun A hA => ?_, ?_⟩
  · rw [List.mem_map] at hA
    obtain ⟨s, hs, rfl⟩ := hA
    exact (fo_ok (h2 s hs)).1
  · rw [List.map_map]
    conv => rhs; rw [← List.map_id L]
    apply List.map_congr_left
    intro s hs
    exact (fo_ok (h2 s hs)).2
end Go.Proofs.YtdndclfjeajhiaaGreat

/- normalTerm of the program, the loop of l26Normal of the reference. -/
namespace Go.Proofs.YtdndclfjeajhiaaGreat
open Go.RowKit
open Tr (Tm)

/-- limitedTerm at a list that reads. -/
def LimR (w : World) (xs : List Tn) (e : Ending) (w' : World) : Prop := ∃ u, e = .returned (.tuple #[u, .int .i64 (limT xs).2]) ∧ Tms w' u (limT xs).1 ∧ Grew w w'
theorem limitedTerm_r (v : Value) (xs : List Tn) (w : World) (h : Tms w v xs) (hfit : FitsT xs) (hn : xs.length ≤ 1048576) :
    Calls Tryz.prog 38 #[v] w (LimR w xs) := by
  unfold LimR limT
  have HC := fun w h => containsFuncT_c v xs _ _ w h hfit limitedTerm1_ok (enters_of Tryz.func72 (by kernel_rfl) rfl)
  obtain ⟨A, c, rfl⟩ := tms_slice h
  have HN := Lib.hid h
  clear h hfit
  by_cases hl : 60 < xs.length
  · rw [decide_eq_true hl, Bool.true_or, if_pos rfl]
    clear HC HN
    generalize xs.length = n at *
    go_enter Tryz.func38, Tryz.ntmps38
    go_wp2_with fail
    go_ret2
    exact ⟨.slice none 0 0, rfl, Tms.nil_ _, Grew.refl _⟩
  · rw [decide_eq_false hl, Bool.false_or]
    cases hq : anyT bigT xs with
    | true =>
      rw [if_pos rfl]
      rw [hq] at HC
      replace HC := Lib.hid HC
      clear hq
      generalize xs.length = n at *
      go_enter Tryz.func38, Tryz.ntmps38
      go_wp2_with fail
      refine (HC.out _ HN.out).mono ?_
      rintro e w1 ⟨rfl, hg1⟩
      go_wp2_with fail
      go_ret2
      exact ⟨.slice none 0 0, rfl, Tms.nil_ _, hg1⟩
    | false =>
      rw [if_neg (by simp)]
      rw [hq] at HC
      replace HC := Lib.hid HC
      clear hq
      generalize xs.length = n at *
      go_enter Tryz.func38, Tryz.ntmps38
      go_wp2_with fail
      refine (HC.out _ HN.out).mono ?_
      rintro e w1 ⟨rfl, hg1⟩
      go_wp2_with fail
      go_ret2
      exact ⟨_, rfl, HN.out.grew hg1, hg1⟩

/-- A normal term, the number of contractions and a code. -/
def GivesNr (w : World) (r : List Tn × Int × Int) (e : Ending) (w' : World) : Prop := ∃ u, e = .returned (.tuple #[u, .int .i64 r.2.1, .int .i64 r.2.2]) ∧ Tms w' u r.1 ∧ Grew w w'
def GivesNo (w : World) (r : List Tn × Int × Int) (e : Ending) (w' : World) : Prop := ∃ u, e = .returned (.tuple #[u, .int .i64 r.2.1, .int .i64 r.2.2]) ∧ OwnT w' w.heap.size u r.1 ∧ Grew w w'
theorem ints_head {w : World} {v : Value} {i : Int} {L : List Int} (h : Ints w v (i :: L)) : ∃ b o c, v = .slice (some ⟨b, o, none⟩) (L.length + 1) c ∧ L.length + 1 ≤ c ∧ ∀ W, Grew w W → W.cell? ⟨b, o, none⟩ = some (.int .i64 i) := by
  rcases h.open_ with ⟨_, h0⟩ | ⟨b, o, c, rfl, hc, hm, hb, hf⟩
  · cases h0
  · exact ⟨b, o, c, rfl, hc, fun W hW => by simpa [it] using hf 0 (by simp) W hW⟩

/-- The state of the loop. -/
def NrSt (n : Int) (R : List Tn × Int × Int) (cn : Nat) (s : Tm) : Prop := Good s ∧ (Tr.enc s).length ≤ 60 ∧ ∃ k, cn + k = 200 ∧ nrm k s n = R
theorem NrSt.done {n : Int} {R : List Tn × Int × Int} {cn : Nat} {s : Tm} (h : NrSt n R cn s) (hL : redL (Tr.enc s) (Tr.enc s).length = []) : R = (Tr.enc s, (cn : Int), 0) := by
  obtain ⟨_, _, k, hk, rfl⟩ := h
  rw [nrm_done hL]
  have e : 200 - (k : Int) = cn := by omega
  rw [e]
theorem NrSt.stop {n : Int} {R : List Tn × Int × Int} {s : Tm} {i : Int} {L : List Int} (h : NrSt n R 200 s) (hL : redL (Tr.enc s) (Tr.enc s).length = i :: L) : R = ([], 0, 3) := by
  obtain ⟨_, _, k, hk, rfl⟩ := h
  obtain rfl : k = 0 := by omega
  rw [nrm_stop hL]
theorem NrSt.big {n : Int} {R : List Tn × Int × Int} {cn : Nat} {s : Tm} {i : Int} {L : List Int} (h : NrSt n R cn s) (hL : redL (Tr.enc s) (Tr.enc s).length = i :: L) (hb : ¬ (limT (ctAt s n i.toNat)).2 = 0) : R = ([], 0, 3) := by
  obtain ⟨_, _, k, hk, rfl⟩ := h
  rw [nrm_big hL hb]
theorem NrSt.next {n : Int} {R : List Tn × Int × Int} {cn : Nat} {s : Tm} {i : Nat} {L : List Int} (h : NrSt n R cn s) (hn : 0 ≤ n) (hc : cn < 200) (hr : rdxAt (Tr.enc s) i = true) (hL : redL (Tr.enc s) (Tr.enc s).length = (i : Int) :: L) (hb : (limT (ctAt s n i)).2 = 0) : NrSt n R (cn + 1) (ctT s n i) ∧ (limT (ctAt s n i)).1 = Tr.enc (ctT s n i) := by
  obtain ⟨h1, h2, k, hk, rfl⟩ := h
  obtain ⟨g1, g2, g3, g4⟩ := ct_good hn h1 hr hb
  obtain ⟨k', rfl⟩ : ∃ k', k = k' + 1 := ⟨k - 1, by omega⟩
  refine ⟨⟨g1, by rw [g2]; exact g3, k', by omega, ?_⟩, by rw [g2, g4]⟩
  rw [nrm_step hL (by rw [Int.toNat_natCast]; exact hb), Int.toNat_natCast]
theorem NrSt.head {n : Int} {R : List Tn × Int × Int} {cn : Nat} {s : Tm} (h : NrSt n R cn s) : redL (Tr.enc s) (Tr.enc s).length = [] ∨ ∃ (i : Nat) (L : List Int), redL (Tr.enc s) (Tr.enc s).length = (i : Int) :: L ∧ rdxAt (Tr.enc s) i = true := by
  cases hL : redL (Tr.enc s) (Tr.enc s).length with
  | nil => exact .inl rfl
  | cons x L =>
    obtain ⟨i, rfl, _, hr⟩ := redL_mem (xs := Tr.enc s) (j := (Tr.enc s).length) (x := x) (by rw [hL]; simp)
    exact .inr ⟨i, L, rfl, hr⟩

set_option maxHeartbeats 1000000 in
theorem normalTerm_c (v : Value) (t : Tm) (n : Int) (w : World) (h : Tms w v (Tr.enc t)) (hg : Good t) (hlen : (Tr.enc t).length ≤ 60) (hn0 : 0 ≤ n) (hn1 : n ≤ 12) :
    Calls Tryz.prog 45 #[v, .int .i64 n] w (GivesNr w (nrm 200 t n)) := by
  have KC := Lib.hid (cloneT_c v (Tr.enc t) w h (by omega))
  have HST : Hid (NrSt n (nrm 200 t n) 0 t) := Lib.hid ⟨hg, hlen, 200, rfl, rfl⟩
  have HE := Lib.hid (fun u r w' (h : nrm 200 t n = r) (h1 : Tms w' u r.1) (h2 : Grew w w') => (⟨u, by rw [h], by rw [h]; exact h1, h2⟩ : GivesNr w (nrm 200 t n) (.returned (.tuple #[u, .int .i64 r.2.1, .int .i64 r.2.2])) w'))
  obtain ⟨A, c, rfl⟩ := tms_slice h
  clear h hg hlen
  generalize nrm 200 t n = R at *
  go_enter Tryz.func45, Tryz.ntmps45
  go_wp2_with fail
  refine KC.out.mono ?_
  rintro e w1 ⟨u, rfl, ho, hg1⟩
  have HO := Lib.hid ho.tms
  clear ho KC
  go_wp2_with fail
  go_loopw [0, 7, 8, 9, 10] (fun vt cc _ _ _ wr => ∃ (cn : Nat) (s : Tm), cn ≤ 200 ∧ cc = .int .i64 cn ∧ Grew w wr ∧ Hid (Tms wr vt (Tr.enc s)) ∧ Hid (NrSt n R cn s)) (fun _ cc _ _ _ _ => 201 - (intOf cc).toNat)
  case atStart => exact ⟨0, t, by omega, rfl, hg1, HO.out, HST.out⟩
  case round =>
    clear HO HST
    obtain ⟨cn, s, hcn, rfl, hB, HT, HS⟩ := hrel
    have KR := Lib.hid (fun W (hW : Grew wr W) => redexes_c u0 (Tr.enc s) W (HT.out.grew hW) (by have := HS.out.2.1; omega))
    rcases HS.out.head with hL | ⟨i, L, hL, hr⟩
    · have hv := Lib.hid (HS.out.done hL)
      rw [hL] at KR
      clear hL
      go_wp2_with fail
      refine (KR.out _ (Grew.refl wr)).mono ?_
      rintro e w2 ⟨u2, rfl, ho2, hg2⟩
      obtain ⟨A2, c2, rfl⟩ := ints_slice ho2.ints
      clear ho2
      go_wp2_with fail
      go_ret3
      exact HE.out _ _ _ hv.out (HT.out.grew hg2) (hB.trans hg2)
    · have KA := Lib.hid (fun W (hW : Grew wr W) => contractAt_c s HS.out.1 u0 n i W (HT.out.grew hW) hr HS.out.2.1 hn0 (by have := HS.out.2.1; omega))
      have KL := Lib.hid (fun q W (hq : Tms W q (ctAt s n i)) => limitedTerm_r q (ctAt s n i) W hq (ctAt_fits HS.out.1 hr (good_fits HS.out.1)) (by have h1 := ctAt_len (M := 60) s HS.out.1 n i hr HS.out.2.1; have h2 := Nat.mul_le_mul_right 61 HS.out.2.1; omega))
      unfold LimR at KL
      have hBig := Lib.hid (fun hb => HS.out.big hL hb)
      have hStop := Lib.hid (fun (h : cn = 200) => (by subst h; exact HS.out.stop hL : R = ([], 0, 3)))
      have hNext := Lib.hid (fun hc hb => HS.out.next hn0 hc hr hL hb)
      rw [Int.toNat_natCast] at hBig
      rw [hL] at KR
      clear hL hr
      by_cases hb : (limT (ctAt s n i)).2 = 0
      · by_cases hc : cn < 200
        · have hnx := Lib.hid (hNext.out hc hb)
          have hc2 : ((cn : Int) == 200) = false := by simp; omega
          rw [hb] at KL
          clear hBig hStop hNext hb
          generalize limT (ctAt s n i) = X at *
          go_wp2_with fail
          refine (KR.out _ (Grew.refl wr)).mono ?_
          rintro e w2 ⟨u2, rfl, ho2, hg2⟩
          obtain ⟨b2, o2, c2, rfl, hc3, k2⟩ := ints_head ho2.ints
          clear ho2
          have r2 := Grew.refl w2
          go_wp2_with fail
          refine (KA.out _ hg2).mono ?_
          rintro e w3 ⟨q, rfl, hq, hg3⟩
          have HQ := Lib.hid hq
          clear hq
          go_wp2_with fail
          refine (KL.out _ _ HQ.out).mono ?_
          rintro e w4 ⟨u4, rfl, hu4, hg4⟩
          have HU4 := Lib.hid hu4
          clear hu4
          go_wp2_with fail
          go_roundw
          case rel => exact ⟨cn + 1, ctT s n i, by omega, by go_num, ((hB.trans hg2).trans hg3).trans hg4, by rw [← hnx.out.2]; exact HU4.out, hnx.out.1⟩
          case measure => simp [intOf]; omega
        · obtain rfl : cn = 200 := by omega
          have hv := Lib.hid (hStop.out rfl)
          rw [hb] at KL
          clear hBig hStop hNext hb
          generalize limT (ctAt s n i) = X at *
          go_wp2_with fail
          refine (KR.out _ (Grew.refl wr)).mono ?_
          rintro e w2 ⟨u2, rfl, ho2, hg2⟩
          obtain ⟨b2, o2, c2, rfl, hc3, k2⟩ := ints_head ho2.ints
          clear ho2
          have r2 := Grew.refl w2
          go_wp2_with fail
          refine (KA.out _ hg2).mono ?_
          rintro e w3 ⟨q, rfl, hq, hg3⟩
          have HQ := Lib.hid hq
          clear hq
          go_wp2_with fail
          refine (KL.out _ _ HQ.out).mono ?_
          rintro e w4 ⟨u4, rfl, hu4, hg4⟩
          clear hu4
          go_wp2_with fail
          go_ret3
          exact HE.out _ _ _ hv.out (Tms.nil_ _) (((hB.trans hg2).trans hg3).trans hg4)
      · have hv := Lib.hid (hBig.out hb)
        have h3 : (limT (ctAt s n i)).2 = 3 := by
          rcases limT_code (ctAt s n i) with h | h
          · exact absurd h hb
          · rw [h]
        rw [h3] at KL
        clear hBig hStop hNext hb h3
        generalize limT (ctAt s n i) = X at *
        go_wp2_with fail
        refine (KR.out _ (Grew.refl wr)).mono ?_
        rintro e w2 ⟨u2, rfl, ho2, hg2⟩
        obtain ⟨b2, o2, c2, rfl, hc3, k2⟩ := ints_head ho2.ints
        clear ho2
        have r2 := Grew.refl w2
        go_wp2_with fail
        refine (KA.out _ hg2).mono ?_
        rintro e w3 ⟨q, rfl, hq, hg3⟩
        have HQ := Lib.hid hq
        clear hq
        go_wp2_with fail
        refine (KL.out _ _ HQ.out).mono ?_
        rintro e w4 ⟨u4, rfl, hu4, hg4⟩
        clear hu4
        go_wp2_with fail
        go_ret3
        exact HE.out _ _ _ hv.out (Tms.nil_ _) (((hB.trans hg2).trans hg3).trans hg4)
end Go.Proofs.YtdndclfjeajhiaaGreat

/- l26Normal of the reference. -/
namespace Go.Proofs.YtdndclfjeajhiaaGreat
open Go.RowKit
open Tr (Tm)

/-- The normal term of a term with a type, the number of contractions, a code. -/
noncomputable def nfF (L : List ByteArray) (xs : List Tn) : List Tn × Int × Int := if asl L && tmB xs then (match ty (L.map fo) (tmT xs) with | some _ => nrm 200 (tmT xs) L.length | none => ([], 0, 5)) else ([], 0, 1)

set_option maxHeartbeats 2000000 in
theorem l26Normal_c (va : Value) (L : List ByteArray) (vt : Value) (xs : List Tn) (w : World) (hs : Strs w va L) (ht : Tms w vt xs) (f0 : Fits L) (n0 : L.length ≤ 1048576) (f1 : FitsT xs) (n1 : xs.length ≤ 1048576) :
    Calls Tryz.prog 24 #[va, vt] w (GivesNo w (nfF L xs)) := by
  have KT := fun W (hW : Grew w W) => l26Is_c vt xs W (ht.grew hW) f1 n1
  have KA := fun W (hW : Grew w W) => l25List_c va L W (hs.grew hW) f0
  have KY := fun (ha : asl L = true) (hb : tmB xs = true) W (hW : Grew w W) => l26Type_c (tmT xs) (tmT_ok hb).1 (by rw [(tmT_ok hb).2.1]; exact (tmT_ok hb).2.2) (L.map fo) (asl_ok ha).2.1 (asl_ok ha).1 va vt W (by rw [(asl_ok ha).2.2]; exact hs.grew hW) (by rw [(tmT_ok hb).2.1]; exact ht.grew hW)
  have hST : asl L = true → tmB xs = true → NrSt (L.length : Int) (nrm 200 (tmT xs) L.length) 0 (tmT xs) := fun ha hb => ⟨(tmT_ok hb).1, by rw [(tmT_ok hb).2.1]; exact (tmT_ok hb).2.2, 200, rfl, rfl⟩
  have hEn : tmB xs = true → Tr.enc (tmT xs) = xs := fun hb => (tmT_ok hb).2.1
  have hL12 : asl L = true → L.length ≤ 12 := fun ha => (asl_map ha).1
  unfold nfF
  obtain ⟨A, c, rfl⟩ := strs_slice hs
  have HTT := Lib.hid ht
  obtain ⟨B, d, rfl⟩ := tms_slice ht
  clear hs ht f0 f1
  generalize ty (L.map fo) (tmT xs) = R at *
  generalize nrm 200 (tmT xs) L.length = RR at *
  generalize hgl : L.length = gl at *
  clear hgl
  generalize asl L = qa at *
  generalize tmB xs = qb at *
  have r0 := Grew.refl w
  cases qa with
  | false =>
    rw [Bool.false_and, if_neg (by simp)]
    replace KA := Lib.hid KA
    clear KT KY hST hEn hL12 HTT
    generalize xs.length = gn at *
    go_enter Tryz.func24, Tryz.ntmps24
    go_wp2_with fail
    refine (KA.out _ r0).mono ?_
    rintro e w1 ⟨rfl, hg1⟩
    go_wp2_with fail
    go_ret3
    exact ⟨.slice none 0 0, rfl, OwnT.nil_ _ _, hg1⟩
  | true =>
    cases qb with
    | false =>
      rw [Bool.true_and, if_neg (by simp)]
      replace KT := Lib.hid KT
      replace KA := Lib.hid KA
      clear KY hST hEn hL12 HTT
      generalize xs.length = gn at *
      go_enter Tryz.func24, Tryz.ntmps24
      go_wp2_with fail
      refine (KA.out _ r0).mono ?_
      rintro e w1 ⟨rfl, hg1⟩
      go_wp2_with fail
      refine (KT.out _ hg1).mono ?_
      rintro e w2 ⟨rfl, hg2⟩
      go_wp2_with fail
      go_ret3
      exact ⟨.slice none 0 0, rfl, OwnT.nil_ _ _, hg1.trans hg2⟩
    | true =>
      rw [Bool.and_true, if_pos rfl]
      replace KY := KY rfl rfl
      have HST := Lib.hid (hST rfl rfl)
      have HEN := Lib.hid (hEn rfl)
      have hgl12 := hL12 rfl
      clear hST hEn hL12
      replace KT := Lib.hid KT
      replace KA := Lib.hid KA
      cases R with
      | none =>
        change Calls _ _ _ _ (GivesNo w ([], 0, 5))
        rw [show otx none = ByteArray.empty from rfl] at KY
        replace KY := Lib.hid KY
        clear HTT HST HEN
        generalize xs.length = gn at *
        go_enter Tryz.func24, Tryz.ntmps24
        go_wp2_with fail
        refine (KA.out _ r0).mono ?_
        rintro e w1 ⟨rfl, hg1⟩
        go_wp2_with fail
        refine (KT.out _ hg1).mono ?_
        rintro e w2 ⟨rfl, hg2⟩
        have g2 := hg1.trans hg2
        go_wp2_with fail
        refine (KY.out _ g2).mono ?_
        rintro e w3 ⟨rfl, hg3⟩
        go_wp2_with fail
        go_ret3
        exact ⟨.slice none 0 0, rfl, OwnT.nil_ _ _, g2.trans hg3⟩
      | some T =>
        have hne := tx_ne T
        change Calls _ _ _ _ (GivesNo w RR)
        rw [show otx (some T) = tx T from rfl] at KY
        replace KY := Lib.hid KY
        generalize tx T = s at *
        have HE := Lib.hid (fun u r w' (h : RR = r) (h1 : OwnT w' w.heap.size u r.1) (h2 : Grew w w') => (⟨u, by rw [h], by rw [h]; exact h1, h2⟩ : GivesNo w RR (.returned (.tuple #[u, .int .i64 r.2.1, .int .i64 r.2.2])) w'))
        go_enter Tryz.func24, Tryz.ntmps24
        go_wp2_with fail
        refine (KA.out _ r0).mono ?_
        rintro e w1 ⟨rfl, hg1⟩
        go_wp2_with fail
        refine (KT.out _ hg1).mono ?_
        rintro e w2 ⟨rfl, hg2⟩
        have g2 := hg1.trans hg2
        go_wp2_with fail
        refine (KY.out _ g2).mono ?_
        rintro e w3 ⟨rfl, hg3⟩
        have g3 := g2.trans hg3
        have he : OwnT (w3.alloc (.cells #[] 50)) w.heap.size (.slice (some ⟨w3.heap.size, 0, none⟩) 0 0) [] := (own_emptyT w3).base g3.size
        have hl60 : xs.length ≤ 60 := by have := HST.out.2.1; rw [HEN.out] at this; exact this
        go_wp2_with (first | (at_builtin; refine wpList_appT (w0 := w) _ _ rfl rfl _ [] rfl he (g3.alloc _) _ xs rfl (HTT.out.grew (g3.alloc _)) (by simp; omega) ?_; intro u4 w4 ho4 hg4 _))
        rw [List.nil_append] at ho4
        have HO : Hid (OwnT w4 w.heap.size u4 (Tr.enc (tmT xs))) := Lib.hid (by rw [HEN.out]; exact ho4)
        clear ho4 he KA KT KY
        generalize tmT xs = t at *
        go_wp2_with fail
        go_loopw [7, 8, 9, 10, 11] (fun vt cc _ _ _ wr => ∃ (cn : Nat) (s : Tm), cn ≤ 200 ∧ cc = .int .i64 cn ∧ Grew w wr ∧ Hid (OwnT wr w.heap.size vt (Tr.enc s)) ∧ Hid (NrSt (gl : Int) RR cn s)) (fun _ cc _ _ _ _ => 201 - (intOf cc).toNat)
        case atStart => exact ⟨0, t, by omega, rfl, hg4, HO.out, HST.out⟩
        case round =>
          clear HO HST HEN HTT
          obtain ⟨cn, s, hcn, rfl, hB, HT, HS⟩ := hrel
          have KR := Lib.hid (fun W (hW : Grew wr W) => l26Redexes_c u7 (Tr.enc s) W (HT.out.tms.grew hW) (by have := HS.out.2.1; omega))
          rcases HS.out.head with hL | ⟨i, L, hL, hr⟩
          · have hv := Lib.hid (HS.out.done hL)
            rw [hL] at KR
            clear hL
            go_wp2_with fail
            refine (KR.out _ (Grew.refl wr)).mono ?_
            rintro e w2 ⟨u2, rfl, ho2, hg2⟩
            obtain ⟨A2, c2, rfl⟩ := ints_slice ho2.ints
            clear ho2
            go_wp2_with fail
            go_ret3
            exact HE.out _ _ _ hv.out (HT.out.grew hg2) (hB.trans hg2)
          · have KA := Lib.hid (fun W (hW : Grew wr W) => l26At_c s HS.out.1 u7 gl i W (HT.out.tms.grew hW) hr HS.out.2.1 (by omega) (by have := HS.out.2.1; omega))
            have KL := Lib.hid (fun q W B (hq : OwnT W B q (ctAt s gl i)) => l26Made_c q (ctAt s gl i) W B hq (by have h1 := ctAt_len (M := 60) s HS.out.1 gl i hr HS.out.2.1; have h2 := Nat.mul_le_mul_right 61 HS.out.2.1; omega))
            unfold LimG at KL
            have hBig := Lib.hid (fun hb => HS.out.big hL hb)
            have hStop := Lib.hid (fun (h : cn = 200) => (by subst h; exact HS.out.stop hL : RR = ([], 0, 3)))
            have hNext := Lib.hid (fun hc hb => HS.out.next (by omega) hc hr hL hb)
            rw [Int.toNat_natCast] at hBig
            rw [hL] at KR
            clear hL hr
            by_cases hb : (limT (ctAt s gl i)).2 = 0
            · by_cases hc : cn < 200
              · have hnx := Lib.hid (hNext.out hc hb)
                have hc2 : ((cn : Int) == 200) = false := by simp; omega
                rw [hb] at KL
                clear hBig hStop hNext hb
                generalize limT (ctAt s gl i) = X at *
                go_wp2_with fail
                refine (KR.out _ (Grew.refl wr)).mono ?_
                rintro e w2 ⟨u2, rfl, ho2, hg2⟩
                obtain ⟨b2, o2, c2, rfl, hc3, k2⟩ := ints_head ho2.ints
                clear ho2
                have r2 := Grew.refl w2
                go_wp2_with fail
                refine (KA.out _ hg2).mono ?_
                rintro e w3 ⟨q, rfl, hq, hg3⟩
                have HQ := Lib.hid hq
                clear hq
                go_wp2_with fail
                refine (KL.out _ _ _ HQ.out).mono ?_
                rintro e w4 ⟨u4, rfl, hu4, hg4⟩
                have HU4 := Lib.hid hu4
                clear hu4
                go_wp2_with fail
                go_roundw
                case rel => exact ⟨cn + 1, ctT s gl i, by omega, by go_num, ((hB.trans hg2).trans hg3).trans hg4, by rw [← hnx.out.2]; exact HU4.out.base ((hB.trans hg2).size), hnx.out.1⟩
                case measure => simp [intOf]; omega
              · obtain rfl : cn = 200 := by omega
                have hv := Lib.hid (hStop.out rfl)
                rw [hb] at KL
                clear hBig hStop hNext hb
                generalize limT (ctAt s gl i) = X at *
                go_wp2_with fail
                refine (KR.out _ (Grew.refl wr)).mono ?_
                rintro e w2 ⟨u2, rfl, ho2, hg2⟩
                obtain ⟨b2, o2, c2, rfl, hc3, k2⟩ := ints_head ho2.ints
                clear ho2
                have r2 := Grew.refl w2
                go_wp2_with fail
                refine (KA.out _ hg2).mono ?_
                rintro e w3 ⟨q, rfl, hq, hg3⟩
                have HQ := Lib.hid hq
                clear hq
                go_wp2_with fail
                refine (KL.out _ _ _ HQ.out).mono ?_
                rintro e w4 ⟨u4, rfl, hu4, hg4⟩
                clear hu4
                go_wp2_with fail
                go_ret3
                exact HE.out _ _ _ hv.out (OwnT.nil_ _ _) (((hB.trans hg2).trans hg3).trans hg4)
            · have hv := Lib.hid (hBig.out hb)
              have h3 : (limT (ctAt s gl i)).2 = 3 := by
                rcases limT_code (ctAt s gl i) with h | h
                · exact absurd h hb
                · rw [h]
              rw [h3] at KL
              clear hBig hStop hNext hb h3
              generalize limT (ctAt s gl i) = X at *
              go_wp2_with fail
              refine (KR.out _ (Grew.refl wr)).mono ?_
              rintro e w2 ⟨u2, rfl, ho2, hg2⟩
              obtain ⟨b2, o2, c2, rfl, hc3, k2⟩ := ints_head ho2.ints
              clear ho2
              have r2 := Grew.refl w2
              go_wp2_with fail
              refine (KA.out _ hg2).mono ?_
              rintro e w3 ⟨q, rfl, hq, hg3⟩
              have HQ := Lib.hid hq
              clear hq
              go_wp2_with fail
              refine (KL.out _ _ _ HQ.out).mono ?_
              rintro e w4 ⟨u4, rfl, hu4, hg4⟩
              clear hu4
              go_wp2_with fail
              go_ret3
              exact HE.out _ _ _ hv.out (OwnT.nil_ _ _) (((hB.trans hg2).trans hg3).trans hg4)
end Go.Proofs.YtdndclfjeajhiaaGreat

/- What NormalTerm answers. -/
namespace Go.Proofs.YtdndclfjeajhiaaGreat
open Go.RowKit
open Tr (Tm)

theorem nfF_eq (L : List ByteArray) (xs : List Tn) : nfF L xs = if (ttF L xs).2 = 0 then nrm 200 (tmT xs) L.length else ([], 0, (ttF L xs).2) := by
  unfold nfF ttF
  split
  · cases ty (L.map fo) (tmT xs) with
    | none => rw [if_neg (by decide)]
    | some A => rw [if_pos rfl]
  · rw [if_neg (by decide)]
theorem ttF_ok {L : List ByteArray} {xs : List Tn} (h : (ttF L xs).2 = 0) : asl L = true ∧ tmB xs = true := by
  unfold ttF at h
  split at h
  · rename_i h1
    simpa using h1
  · cases h
theorem nfF_len (L : List ByteArray) (xs : List Tn) : (nfF L xs).1.length ≤ 1048576 := by
  rw [nfF_eq]
  split
  · rename_i h
    obtain ⟨h1, h2⟩ := ttF_ok h
    rcases nrm_tree (L.length : Int) (by omega) 200 (tmT xs) (tmT_ok h2).1 (by rw [(tmT_ok h2).2.1]; exact (tmT_ok h2).2.2) with ⟨_, u, _, h4, h5⟩ | h3
    · rw [← h4]; omega
    · rw [h3]; simp
  · simp
end Go.Proofs.YtdndclfjeajhiaaGreat

/- The texts of terms: two terms with one text are equal. No program is in sight. -/
namespace Go.Proofs.YtdndclfjeajhiaaGreat
open Go.RowKit
open Tr (Tm)

/-- The number in decimal, one digit or two. -/
def decL (n : Int) : List UInt8 := if n < 10 then [UInt8.ofNat (48 + n.toNat)] else [UInt8.ofNat (48 + n.toNat / 10), UInt8.ofNat (48 + n.toNat % 10)]
def sl (s : ByteArray) : List UInt8 := s.data.toList
/-- The first byte of the text of a node of a kind. -/
def chK (k : Int) : UInt8 := if k = 0 then 120 else if k = 1 then 47 else if k = 2 then 40 else if k = 3 then 91 else if k = 4 then 49 else if k = 5 then 50 else if k = 6 then 108 else if k = 7 then 114 else if k = 8 then 123 else 102
/-- The text of a term. -/
def ttx : Tm → List UInt8
  | .t0 x => 120 :: decL x.2.1
  | .t1 x a => if x.1 = 4 ∨ x.1 = 5 then chK x.1 :: ttx a else chK x.1 :: (sl x.2.2 ++ 58 :: ttx a)
  | .t2 x a b => if x.1 = 2 then 40 :: (ttx a ++ 32 :: (ttx b ++ [41])) else 91 :: (ttx a ++ 44 :: (ttx b ++ [93]))
  | .t3 _ a b c => 123 :: (ttx a ++ 59 :: (ttx b ++ 59 :: (ttx c ++ [125])))

theorem wrap_mem {c : UInt8} {l o : Nat} {s : List UInt8} (h : c ∈ Fm.wrap l o s) : c = 40 ∨ c = 41 ∨ c ∈ s := by
  unfold Fm.wrap at h
  split at h
  · simp at h
    rcases h with h | h | h
    · exact .inl h
    · exact .inr (.inr h)
    · exact .inr (.inl h)
  · exact .inr (.inr h)
theorem txt_colon : ∀ (T : Fm.Tree) (l : Nat), (58 : UInt8) ∉ Fm.txt T l := by
  intro T
  induction T with
  | var v =>
    intro l h
    simp only [Fm.txt, List.mem_singleton] at h
    have hv := v.isLt
    have := congrArg UInt8.toNat h
    rw [UInt8.toNat_ofNat_of_lt' (by omega : 112 + v.val < 256)] at this
    simp at this
    omega
  | fls => intro l h; simp [Fm.txt] at h
  | and a b ha hb =>
    intro l h
    rcases wrap_mem h with h | h | h
    · exact absurd h (by decide)
    · exact absurd h (by decide)
    · simp at h
      rcases h with h | h
      · exact ha _ h
      · exact hb _ h
  | or a b ha hb =>
    intro l h
    rcases wrap_mem h with h | h | h
    · exact absurd h (by decide)
    · exact absurd h (by decide)
    · simp at h
      rcases h with h | h
      · exact ha _ h
      · exact hb _ h
  | imp a b ha hb =>
    intro l h
    rw [Fm.txt] at h
    split at h
    · split at h
      · simp at h
      · simp at h; exact ha _ h
    · rcases wrap_mem h with h | h | h
      · exact absurd h (by decide)
      · exact absurd h (by decide)
      · simp at h
        rcases h with h | h
        · exact ha _ h
        · exact hb _ h
  | box a ha => intro l h; simp [Fm.txt] at h; exact ha _ h
  | dia a ha => intro l h; simp [Fm.txt] at h; exact ha _ h
theorem gp_colon {s : ByteArray} (h : gp s = true) : (58 : UInt8) ∉ sl s := by
  obtain ⟨A, _, rfl⟩ := gp_tree h
  unfold sl tx
  rw [bs_list]
  exact txt_colon A 0

theorem cut_colon {a b r s : List UInt8} (ha : (58 : UInt8) ∉ a) (hb : (58 : UInt8) ∉ b) (h : a ++ 58 :: r = b ++ 58 :: s) : a = b ∧ r = s := by
  induction a generalizing b with
  | nil =>
    cases b with
    | nil => simpa using h
    | cons y b => simp at h; simp [← h.1] at hb
  | cons x a ih =>
    cases b with
    | nil => simp at h; simp [h.1] at ha
    | cons y b =>
      simp only [List.cons_append, List.cons.injEq] at h
      obtain ⟨e, h⟩ := h
      have := ih (fun h => ha (by simp [h])) (fun h => hb (by simp [h])) h
      exact ⟨by rw [e, this.1], this.2⟩

/-- The rest doesn't begin with a digit. -/
def NoDig (r : List UInt8) : Prop := ∀ c q, r = c :: q → ¬ (48 ≤ c.toNat ∧ c.toNat ≤ 57)
theorem NoDig.cons {c : UInt8} {q : List UInt8} (h : ¬ (48 ≤ c.toNat ∧ c.toNat ≤ 57)) : NoDig (c :: q) := by
  intro d p hd
  simp at hd
  rw [← hd.1]
  exact h
theorem digU {n : Nat} (h : n ≤ 9) : (UInt8.ofNat (48 + n)).toNat = 48 + n := UInt8.toNat_ofNat_of_lt' (by omega : 48 + n < 256)
theorem decL_inj {n m : Int} {r s : List UInt8} (hn0 : 0 ≤ n) (hn : n ≤ 99) (hm0 : 0 ≤ m) (hm : m ≤ 99) (hr : NoDig r) (hs : NoDig s) (h : decL n ++ r = decL m ++ s) : n = m ∧ r = s := by
  unfold decL at h
  split at h
  · split at h
    · simp only [List.cons_append, List.nil_append, List.cons.injEq] at h
      have e := congrArg UInt8.toNat h.1
      rw [digU (by omega), digU (by omega)] at e
      exact ⟨by omega, h.2⟩
    · simp only [List.cons_append, List.nil_append, List.cons.injEq] at h
      exact absurd (by rw [digU (by omega)]; omega) (hr _ _ h.2)
  · split at h
    · simp only [List.cons_append, List.nil_append, List.cons.injEq] at h
      exact absurd (by rw [digU (by omega)]; omega) (hs _ _ h.2.symm)
    · simp only [List.cons_append, List.nil_append, List.cons.injEq] at h
      have e1 := congrArg UInt8.toNat h.1
      have e2 := congrArg UInt8.toNat h.2.1
      rw [digU (by omega), digU (by omega)] at e1
      rw [digU (by omega), digU (by omega)] at e2
      exact ⟨by omega, h.2.2⟩

theorem ttx_head {t : Tm} (h : Good t) : ∃ q, ttx t = chK (Tr.hd t).1 :: q := by
  cases t with
  | t0 x =>
    have hk : x.1 = 0 := (good_leaf h).1 rfl
    exact ⟨_, by show ttx (.t0 x) = chK x.1 :: _; rw [hk]; rfl⟩
  | t1 x a =>
    show ∃ q, ttx (.t1 x a) = chK x.1 :: q
    unfold ttx
    split
    · exact ⟨_, rfl⟩
    · exact ⟨_, rfl⟩
  | t2 x a b =>
    show ∃ q, ttx (.t2 x a b) = chK x.1 :: q
    unfold ttx
    rcases ar_two (show Tr.ar x.1 = 2 from h.1.1) with hk | hk
    · rw [hk, if_pos rfl]; exact ⟨_, rfl⟩
    · rw [hk, if_neg (by decide)]; exact ⟨_, rfl⟩
  | t3 x a b c =>
    have hk := ar_three (show Tr.ar x.1 = 3 from h.1.1)
    exact ⟨_, by show ttx (.t3 x a b c) = chK x.1 :: _; rw [hk]; rfl⟩
theorem chK_inj {k l : Int} (hk : 0 ≤ k ∧ k ≤ 9) (hl : 0 ≤ l ∧ l ≤ 9) (h : chK k = chK l) : k = l := by
  have h1 : k = 0 ∨ k = 1 ∨ k = 2 ∨ k = 3 ∨ k = 4 ∨ k = 5 ∨ k = 6 ∨ k = 7 ∨ k = 8 ∨ k = 9 := by omega
  have h2 : l = 0 ∨ l = 1 ∨ l = 2 ∨ l = 3 ∨ l = 4 ∨ l = 5 ∨ l = 6 ∨ l = 7 ∨ l = 8 ∨ l = 9 := by omega
  rcases h1 with rfl | rfl | rfl | rfl | rfl | rfl | rfl | rfl | rfl | rfl <;> rcases h2 with rfl | rfl | rfl | rfl | rfl | rfl | rfl | rfl | rfl | rfl <;> first | rfl | (exfalso; revert h; decide)
theorem hd_kind {t : Tm} (h : Good t) : 0 ≤ (Tr.hd t).1 ∧ (Tr.hd t).1 ≤ 9 := by
  cases t with
  | t0 x => have hk : x.1 = 0 := (good_leaf h).1 rfl; show 0 ≤ x.1 ∧ x.1 ≤ 9; omega
  | t1 x a => have hk := ar_one (show Tr.ar x.1 = 1 from h.1.1); show 0 ≤ x.1 ∧ x.1 ≤ 9; omega
  | t2 x a b => have hk := ar_two (show Tr.ar x.1 = 2 from h.1.1); show 0 ≤ x.1 ∧ x.1 ≤ 9; omega
  | t3 x a b c => have hk := ar_three (show Tr.ar x.1 = 3 from h.1.1); show 0 ≤ x.1 ∧ x.1 ≤ 9; omega
theorem isE {s : ByteArray} (h : s.toList.isEmpty = true) : s = ByteArray.empty := by
  have h1 : (s.toList == ByteArray.empty.toList) = true := by
    rw [List.isEmpty_iff] at h
    rw [h]
    have h2 : ByteArray.empty.toList = [] := by unfold ByteArray.toList ByteArray.toList.loop; rfl
    rw [h2]; rfl
  exact (Lib.bytes_beq_iff s ByteArray.empty).1 h1
/-- What a good node looks like. -/
theorem goodN_var {x : Tn} (h : GoodN x) (h0 : x.1 = 0) : 0 ≤ x.2.1 ∧ x.2.1 ≤ 99 ∧ x.2.2 = ByteArray.empty := by
  unfold GoodN tnB at h
  rw [h0, if_pos (by rfl)] at h
  simp only [Bool.and_eq_true, decide_eq_true_eq] at h
  exact ⟨h.1.1, h.1.2, isE h.2⟩
theorem goodN_typed {x : Tn} (h : GoodN x) (h0 : x.1 = 1 ∨ x.1 = 6 ∨ x.1 = 7 ∨ x.1 = 9) : x.2.1 = 0 ∧ gp x.2.2 = true := by
  unfold GoodN tnB at h
  rw [if_neg (by simp; omega), if_pos (by rcases h0 with e | e | e | e <;> rw [e] <;> rfl)] at h
  simp only [Bool.and_eq_true, beq_iff_eq] at h
  exact h
theorem goodN_plain {x : Tn} (h : GoodN x) (h0 : x.1 = 2 ∨ x.1 = 3 ∨ x.1 = 4 ∨ x.1 = 5 ∨ x.1 = 8) : x.2.1 = 0 ∧ x.2.2 = ByteArray.empty := by
  unfold GoodN tnB at h
  rw [if_neg (by simp; omega), if_neg (by rcases h0 with e | e | e | e | e <;> rw [e] <;> decide)] at h
  simp only [Bool.and_eq_true, beq_iff_eq] at h
  exact ⟨h.1.2, isE h.2⟩
theorem tn_eq {x y : Tn} (h1 : x.1 = y.1) (h2 : x.2.1 = y.2.1) (h3 : x.2.2 = y.2.2) : x = y := by
  obtain ⟨a, b, c⟩ := x
  obtain ⟨d, e, f⟩ := y
  simp only at h1 h2 h3
  rw [h1, h2, h3]
theorem sl_inj {a b : ByteArray} (h : sl a = sl b) : a = b := by
  have := congrArg bs h
  unfold sl at this
  rwa [bs_eq, bs_eq] at this

theorem ttx_inj : ∀ t, Good t → ∀ u, Good u → ∀ r s, NoDig r → NoDig s → ttx t ++ r = ttx u ++ s → t = u ∧ r = s := by
  intro t
  induction t with
  | t0 x =>
    intro ht u hu r s hr hs h
    have hx0 : x.1 = 0 := (good_leaf ht).1 rfl
    obtain ⟨p, hp⟩ := ttx_head ht
    obtain ⟨q, hq⟩ := ttx_head hu
    have hk : (Tr.hd u).1 = 0 := by
      rw [hp, hq] at h
      simp only [List.cons_append, List.cons.injEq] at h
      exact (chK_inj (hd_kind ht) (hd_kind hu) h.1).symm.trans hx0
    cases u with
    | t0 y =>
      obtain ⟨a1, a2, a3⟩ := goodN_var ht.2 hx0
      obtain ⟨b1, b2, b3⟩ := goodN_var hu.2 hk
      simp only [ttx, List.cons_append, List.cons.injEq, true_and] at h
      obtain ⟨e, h⟩ := decL_inj a1 a2 b1 b2 hr hs h
      exact ⟨by rw [tn_eq (x := x) (y := y) (hx0.trans hk.symm) e (a3.trans b3.symm)], h⟩
    | t1 y a => have := ar_one (show Tr.ar y.1 = 1 from hu.1.1); have hk' : y.1 = 0 := hk; omega
    | t2 y a b => have := ar_two (show Tr.ar y.1 = 2 from hu.1.1); have hk' : y.1 = 0 := hk; omega
    | t3 y a b c => have := ar_three (show Tr.ar y.1 = 3 from hu.1.1); have hk' : y.1 = 0 := hk; omega
  | t1 x a iha =>
    intro ht u hu r s hr hs h
    have hxk := ar_one (show Tr.ar x.1 = 1 from ht.1.1)
    obtain ⟨p, hp⟩ := ttx_head ht
    obtain ⟨q, hq⟩ := ttx_head hu
    have hk : x.1 = (Tr.hd u).1 := by
      have h2 := h
      rw [hp, hq] at h2
      simp only [List.cons_append, List.cons.injEq] at h2
      exact chK_inj (hd_kind ht) (hd_kind hu) h2.1
    cases u with
    | t0 y => have := (good_leaf hu).1 rfl; omega
    | t1 y b =>
      have hk : x.1 = y.1 := hk
      by_cases h45 : x.1 = 4 ∨ x.1 = 5
      · simp only [ttx] at h
        rw [if_pos h45, if_pos (by rw [← hk]; exact h45)] at h
        simp only [List.cons_append, List.cons.injEq] at h
        obtain ⟨e, h⟩ := iha ht.2 b hu.2 r s hr hs h.2
        obtain ⟨a2, a3⟩ := goodN_plain ht.1.2 (by omega)
        obtain ⟨b2, b3⟩ := goodN_plain hu.1.2 (by omega)
        exact ⟨by rw [tn_eq (x := x) (y := y) hk (a2.trans b2.symm) (a3.trans b3.symm), e], h⟩
      · simp only [ttx] at h
        rw [if_neg h45, if_neg (by rw [← hk]; exact h45)] at h
        simp only [List.cons_append, List.append_assoc, List.cons.injEq] at h
        obtain ⟨a2, a3⟩ := goodN_typed ht.1.2 (by omega)
        obtain ⟨b2, b3⟩ := goodN_typed hu.1.2 (by omega)
        obtain ⟨e1, h⟩ := cut_colon (gp_colon a3) (gp_colon b3) h.2
        obtain ⟨e, h⟩ := iha ht.2 b hu.2 r s hr hs h
        exact ⟨by rw [tn_eq (x := x) (y := y) hk (a2.trans b2.symm) (sl_inj e1), e], h⟩
    | t2 y c d => have := ar_two (show Tr.ar y.1 = 2 from hu.1.1); have hk' : x.1 = y.1 := hk; omega
    | t3 y c d e => have := ar_three (show Tr.ar y.1 = 3 from hu.1.1); have hk' : x.1 = y.1 := hk; omega
  | t2 x a b iha ihb =>
    intro ht u hu r s hr hs h
    have hxk := ar_two (show Tr.ar x.1 = 2 from ht.1.1)
    obtain ⟨p, hp⟩ := ttx_head ht
    obtain ⟨q, hq⟩ := ttx_head hu
    have hk : x.1 = (Tr.hd u).1 := by
      have h2 := h
      rw [hp, hq] at h2
      simp only [List.cons_append, List.cons.injEq] at h2
      exact chK_inj (hd_kind ht) (hd_kind hu) h2.1
    cases u with
    | t0 y => have := (good_leaf hu).1 rfl; omega
    | t1 y c => have := ar_one (show Tr.ar y.1 = 1 from hu.1.1); have hk' : x.1 = y.1 := hk; omega
    | t2 y c d =>
      have hk : x.1 = y.1 := hk
      obtain ⟨a2, a3⟩ := goodN_plain ht.1.2 (by omega)
      obtain ⟨b2, b3⟩ := goodN_plain hu.1.2 (by omega)
      have hxy := tn_eq (x := x) (y := y) hk (a2.trans b2.symm) (a3.trans b3.symm)
      simp only [ttx] at h
      by_cases h2 : x.1 = 2
      · rw [if_pos h2, if_pos (by omega)] at h
        simp only [List.cons_append, List.append_assoc, List.cons.injEq, true_and, List.nil_append] at h
        obtain ⟨e1, h⟩ := iha ht.2.1 c hu.2.1 _ _ (NoDig.cons (by decide)) (NoDig.cons (by decide)) h
        simp only [List.cons.injEq, true_and] at h
        obtain ⟨e2, h⟩ := ihb ht.2.2 d hu.2.2 _ _ (NoDig.cons (by decide)) (NoDig.cons (by decide)) h
        simp only [List.cons.injEq, true_and] at h
        exact ⟨by rw [hxy, e1, e2], h⟩
      · rw [if_neg h2, if_neg (by omega)] at h
        simp only [List.cons_append, List.append_assoc, List.cons.injEq, true_and, List.nil_append] at h
        obtain ⟨e1, h⟩ := iha ht.2.1 c hu.2.1 _ _ (NoDig.cons (by decide)) (NoDig.cons (by decide)) h
        simp only [List.cons.injEq, true_and] at h
        obtain ⟨e2, h⟩ := ihb ht.2.2 d hu.2.2 _ _ (NoDig.cons (by decide)) (NoDig.cons (by decide)) h
        simp only [List.cons.injEq, true_and] at h
        exact ⟨by rw [hxy, e1, e2], h⟩
    | t3 y c d e => have := ar_three (show Tr.ar y.1 = 3 from hu.1.1); have hk' : x.1 = y.1 := hk; omega
  | t3 x a b c iha ihb ihc =>
    intro ht u hu r s hr hs h
    have hxk := ar_three (show Tr.ar x.1 = 3 from ht.1.1)
    obtain ⟨p, hp⟩ := ttx_head ht
    obtain ⟨q, hq⟩ := ttx_head hu
    have hk : x.1 = (Tr.hd u).1 := by
      have h2 := h
      rw [hp, hq] at h2
      simp only [List.cons_append, List.cons.injEq] at h2
      exact chK_inj (hd_kind ht) (hd_kind hu) h2.1
    cases u with
    | t0 y => have := (good_leaf hu).1 rfl; omega
    | t1 y d => have := ar_one (show Tr.ar y.1 = 1 from hu.1.1); have hk' : x.1 = y.1 := hk; omega
    | t2 y d e => have := ar_two (show Tr.ar y.1 = 2 from hu.1.1); have hk' : x.1 = y.1 := hk; omega
    | t3 y d e f =>
      have hk : x.1 = y.1 := hk
      obtain ⟨a2, a3⟩ := goodN_plain ht.1.2 (by omega)
      obtain ⟨b2, b3⟩ := goodN_plain hu.1.2 (by omega)
      have hxy := tn_eq (x := x) (y := y) hk (a2.trans b2.symm) (a3.trans b3.symm)
      simp only [ttx, List.cons_append, List.append_assoc, List.cons.injEq, true_and, List.nil_append] at h
      obtain ⟨e1, h⟩ := iha ht.2.1 d hu.2.1 _ _ (NoDig.cons (by decide)) (NoDig.cons (by decide)) h
      simp only [List.cons.injEq, true_and] at h
      obtain ⟨e2, h⟩ := ihb ht.2.2.1 e hu.2.2.1 _ _ (NoDig.cons (by decide)) (NoDig.cons (by decide)) h
      simp only [List.cons.injEq, true_and] at h
      obtain ⟨e3, h⟩ := ihc ht.2.2.2 f hu.2.2.2 _ _ (NoDig.cons (by decide)) (NoDig.cons (by decide)) h
      simp only [List.cons.injEq, true_and] at h
      exact ⟨by rw [hxy, e1, e2, e3], h⟩
theorem ttx_eq {t u : Tm} (ht : Good t) (hu : Good u) (h : ttx t = ttx u) : t = u :=
  (ttx_inj t ht u hu [] [] (fun _ _ h => by cases h) (fun _ _ h => by cases h) (by rw [h])).1
theorem goodN_fits160 {x : Tn} (h : GoodN x) : x.2.2.size ≤ 160 := by
  unfold GoodN tnB at h
  split at h
  · simp only [Bool.and_eq_true] at h
    rw [isE h.2]; decide
  · split at h
    · simp only [Bool.and_eq_true] at h
      obtain ⟨A, h1, h2⟩ := gp_tree h.2
      have := tx_size h1.1
      rw [h2] at this
      exact this
    · simp only [Bool.and_eq_true] at h
      rw [isE h.2]; decide
theorem ttx_len : ∀ t, Good t → (ttx t).length ≤ 170 * (Tr.enc t).length := by
  intro t
  induction t with
  | t0 x => intro _; simp only [ttx, decL, Tr.enc]; split <;> simp
  | t1 x a iha =>
    intro h
    have h1 := iha h.2
    have hf := goodN_fits160 h.1.2
    simp only [ttx, Tr.enc]
    split
    · simp; omega
    · have : (sl x.2.2).length = x.2.2.size := rfl
      simp; omega
  | t2 x a b iha ihb =>
    intro h
    have h1 := iha h.2.1
    have h2 := ihb h.2.2
    simp only [ttx, Tr.enc]
    split <;> · simp; omega
  | t3 x a b c iha ihb ihc =>
    intro h
    have h1 := iha h.2.1
    have h2 := ihb h.2.2.1
    have h3 := ihc h.2.2.2
    simp [ttx, Tr.enc]; omega
end Go.Proofs.YtdndclfjeajhiaaGreat

/- l01Dec of the reference: the decimal numeral. -/
namespace Go.Proofs.YtdndclfjeajhiaaGreat
open Go.RowKit

/-- The decimal numeral as a text. -/
def dcm (n : Nat) : ByteArray := ⟨(Lib.decDigits n).toArray⟩
theorem dcm_one {n : Nat} (h : n < 10) : dcm n = ⟨#[UInt8.ofNat (48 + n)]⟩ := by unfold dcm; rw [Lib.decDigits_one h]
theorem dcm_big {n : Nat} (h : ¬ n < 10) : dcm n = dcm (n / 10) ++ ⟨#[UInt8.ofNat (48 + n % 10)]⟩ := by
  unfold dcm
  rw [Lib.decDigits, dif_neg h]
  apply ByteArray.ext
  simp
theorem dcm_size (n : Nat) : (dcm n).size = Lib.nDigits n := by
  unfold dcm
  rw [← Lib.decDigits_length]
  simp [ByteArray.size]
theorem nDigits_le : ∀ (k n : Nat), n < 10 ^ k → Lib.nDigits n ≤ k + 1
  | 0, n, h => by rw [Lib.nDigits_small (by omega)]; omega
  | k + 1, n, h => by
    by_cases h10 : n < 10
    · rw [Lib.nDigits_small h10]; omega
    · rw [Lib.nDigits_big h10]
      have := nDigits_le k (n / 10) (by rw [Nat.pow_succ] at h; omega)
      omega
theorem digSN {n : Nat} (h : n < 10) : strOfNums [((48 + n : Nat) : Int)] = ⟨#[UInt8.ofNat (48 + n)]⟩ := by
  have h1 : ∀ n : Fin 10, strOfNums [((48 + n.val : Nat) : Int)] = ⟨#[UInt8.ofNat (48 + n.val)]⟩ := by decide
  exact h1 ⟨n, h⟩
theorem conv_any (b : Nat) (Y : Int) (W : World) (h : W.cell? ⟨b, 0, none⟩ = some (.int .u8 Y)) : (convert 22 9 (.slice (some ⟨b, 0, none⟩) 1 1)).run Tryz.prog W = .ok (.string (strOfNums [Y])) W :=
  run_convert_bytes_arg (P := Tryz.prog) (w := W) 22 5 Tryz.underlying22 Tryz.underlying5 b 0 1 1 [Y] rfl (fun i hi => by
      obtain rfl : i = 0 := by omega
      simpa using h) 9 Tryz.underlying9
theorem cell_after {w w1 : World} {Y : Int} {t : TypeId} (h : Grew (w.drew.alloc (.cells #[.int .u8 Y] t)) w1) : w1.cell? ⟨w.heap.size, 0, none⟩ = some (.int .u8 Y) :=
  (h.cell (p := ⟨w.heap.size, 0, none⟩) (blk_lt (blk_new w.drew _))).trans ((blk_cell (blk_new w.drew _) 0).trans rfl)
end Go.Proofs.YtdndclfjeajhiaaGreat

/- l01Dec of the reference, at a number of one digit or two. -/
namespace Go.Proofs.YtdndclfjeajhiaaGreat
open Go.RowKit

theorem decL_dcm {m : Nat} (h : m ≤ 99) : bs (decL (m : Int)) = dcm m := by
  unfold dcm decL
  by_cases hl : m < 10
  · rw [if_pos (by omega), Lib.decDigits_one hl]; rfl
  · rw [if_neg (by omega), Lib.decDigits_two hl (by omega)]; rfl
end Go.Proofs.YtdndclfjeajhiaaGreat

/- l01Dec and l26Text of the reference. -/
namespace Go.Proofs.YtdndclfjeajhiaaGreat
open Go.RowKit
open Tr (Tm)

end Go.Proofs.YtdndclfjeajhiaaGreat

/- SameNormal of both. -/
namespace Go.Proofs.YtdndclfjeajhiaaGreat
open Go.RowKit
open Tr (Tm)

/-- Have two terms the same normal term? -/
noncomputable def snF (L : List ByteArray) (xs ys : List Tn) : Bool × Int :=
  if (nfF L xs).2.2 = 1 ∨ (nfF L ys).2.2 = 1 then (false, 1) else if (nfF L xs).2.2 = 5 ∨ (nfF L ys).2.2 = 5 then (false, 5) else if (nfF L xs).2.2 ≠ 0 ∨ (nfF L ys).2.2 ≠ 0 then (false, 3) else (decide ((nfF L xs).1 = (nfF L ys).1), 0)
def GivesBI (w : World) (r : Bool × Int) (e : Ending) (w' : World) : Prop := e = .returned (.tuple #[.bool r.1, .int .i64 r.2]) ∧ Grew w w'

/-- What the normal term's code tells. -/
theorem nf_cases (L : List ByteArray) (xs : List Tn) :
    ((asl L && tmB xs) = false ∧ (nfF L xs).2.2 = 1) ∨ ((asl L = true ∧ tmB xs = true) ∧ ((ty (L.map fo) (tmT xs) = none ∧ (nfF L xs).2.2 = 5) ∨ (∃ A, ty (L.map fo) (tmT xs) = some A ∧ nfF L xs = nrm 200 (tmT xs) L.length ∧ (((nfF L xs).2.2 = 0 ∧ ∃ u, Good u ∧ Tr.enc u = (nfF L xs).1 ∧ (Tr.enc u).length ≤ 60) ∨ (nfF L xs).2.2 = 3)))) := by
  cases h : (asl L && tmB xs) with
  | false => exact .inl ⟨rfl, by unfold nfF; rw [h]; rfl⟩
  | true =>
    refine .inr ⟨by simpa using h, ?_⟩
    have hx := (by simpa using h : asl L = true ∧ tmB xs = true)
    cases hT : ty (L.map fo) (tmT xs) with
    | none => exact .inl ⟨rfl, by unfold nfF; rw [h, if_pos rfl, hT]⟩
    | some A =>
      have e : nfF L xs = nrm 200 (tmT xs) L.length := by unfold nfF; rw [h, if_pos rfl, hT]
      refine .inr ⟨A, rfl, e, ?_⟩
      rw [e]
      rcases nrm_tree (L.length : Int) (by omega) 200 (tmT xs) (tmT_ok hx.2).1 (by rw [(tmT_ok hx.2).2.1]; exact (tmT_ok hx.2).2.2) with h1 | h1
      · exact .inl h1
      · rw [h1]; exact .inr rfl

theorem snF_bad {L : List ByteArray} {xs ys : List Tn} (h : asl L = false ∨ tmB xs = false ∨ tmB ys = false) : snF L xs ys = (false, 1) := by
  unfold snF
  refine if_pos ?_
  have e : ∀ zs, (asl L && tmB zs) = false → (nfF L zs).2.2 = 1 := fun zs hz => by unfold nfF; rw [hz]; rfl
  rcases h with h | h | h
  · exact .inl (e _ (by rw [h]; rfl))
  · exact .inl (e _ (by rw [h]; simp))
  · exact .inr (e _ (by rw [h]; simp))
theorem nf_ne1 {L : List ByteArray} {xs : List Tn} (ha : asl L = true) (hb : tmB xs = true) : (nfF L xs).2.2 ≠ 1 := by
  rcases nf_cases L xs with ⟨h, _⟩ | ⟨_, ⟨_, h⟩ | ⟨A, _, _, ⟨h, _⟩ | h⟩⟩
  · rw [ha, hb] at h; cases h
  all_goals rw [h]; decide

end Go.Proofs.YtdndclfjeajhiaaGreat

/- ContractAt of both. -/
namespace Go.Proofs.YtdndclfjeajhiaaGreat
open Go.RowKit
open Tr (Tm)

/-- What ContractAt gives. -/
noncomputable def ctF (xs : List Tn) (n i : Int) : List Tn × Int := if tmB xs then (if 0 ≤ n ∧ n ≤ 12 then (if 0 ≤ i ∧ i ≤ (xs.length : Int) - 1 then (if Tr.evN ltP (tmT xs) n then (if rdxAt xs i.toNat then limT (ctAt (tmT xs) n i.toNat) else ([], 4)) else ([], 5)) else ([], 2)) else ([], 2)) else ([], 1)
theorem ctF_len (xs : List Tn) (n i : Int) : (ctF xs n i).1.length ≤ 1048576 := by
  unfold ctF
  split
  · split
    · split
      · split
        · split
          · have := limT_len (xs := ctAt (tmT xs) n i.toNat); omega
          · simp
        · simp
      · simp
    · simp
  · simp

theorem sizeT_c (v : Value) (xs : List Tn) (w : World) (h : Tms w v xs) :
    Calls Tryz.prog 35 #[v] w fun e w' => e = .returned (.int .i64 xs.length) ∧ Grew w w' := by
  obtain ⟨A, c, rfl⟩ := tms_slice h
  have hn := h.len_le
  clear h
  generalize xs.length = n at *
  go_enter Tryz.func35, Tryz.ntmps35
  go_wp2_with fail
  go_ret
  exact ⟨rfl, Grew.refl _⟩

theorem implCt_c (va : Value) (xs : List Tn) (n i : Int) (w : World) (h : Tms w va xs) (hf1 : FitsT xs) (hn1 : xs.length ≤ 1048576) :
    Calls Tryz.prog 17 #[va, .int .i64 n, .int .i64 i] w (GivesT2 w (ctF xs n i)) := by
  unfold GivesT2 ctF
  have HI := fun W (hW : Grew w W) => isTerm_c va xs W (h.grew hW) hf1 hn1
  have HR1 := fun w => inRange_c n 0 12 w
  have HR2 := fun w => inRange_c i 0 ((xs.length : Int) - 1) w
  have HSZ := Lib.hid (fun W (hW : Grew w W) => sizeT_c va xs W (h.grew hW))
  cases hb1 : tmB xs with
  | false =>
    rw [hb1] at HI
    rw [if_neg (by simp)]
    replace HI := Lib.hid HI
    obtain ⟨A, c, rfl⟩ := tms_slice h
    clear h hf1 hb1 HR1 HR2
    generalize xs.length = nn at *
    go_enter Tryz.func17, Tryz.ntmps17
    go_wp2_with fail
    refine (HI.out _ (Grew.refl _)).mono ?_
    rintro e w1 ⟨rfl, hg1⟩
    have k1 : Grew w w1 := hg1
    go_wp2_with fail
    go_ret2
    exact ⟨.slice none 0 0, rfl, OwnT.nil_ _ _, k1⟩
  | true =>
    rw [hb1] at HI
    rw [if_pos rfl]
    replace HI := Lib.hid HI
    obtain ⟨a1, a2, a3⟩ := tmT_ok hb1
    have hpos : 1 ≤ xs.length := by have := Tr.enc_pos (tmT xs); rw [a2] at this; exact this
    rcases h.open_ with ⟨_, h0⟩ | ⟨b, o, c, rfl, hc, hm, hb, hcl⟩
    · rw [h0] at hpos; exact absurd hpos (by simp)
    by_cases hr : 0 ≤ n ∧ n ≤ 12
    · rw [decide_eq_true hr] at HR1
      replace HR1 := Lib.hid HR1
      rw [if_pos hr]
      by_cases hr2 : 0 ≤ i ∧ i ≤ (xs.length : Int) - 1
      · rw [decide_eq_true hr2] at HR2
        replace HR2 := Lib.hid HR2
        rw [if_pos hr2]
        obtain ⟨k, rfl⟩ : ∃ k : Nat, i = k := ⟨i.toNat, by omega⟩
        have hk : k < xs.length := by omega
        rw [Int.toNat_natCast]
        have HF := fun W (hW : Grew w W) => fitsContext_c (.slice (some ⟨b, o, none⟩) xs.length c) (tmT xs) n W (by rw [a2]; exact h.grew hW) a1 (by rw [a2]; omega) (by omega) (by rw [a2]; omega)
        have HX := fun W (hW : Grew w W) => isRedex_c (.slice (some ⟨b, o, none⟩) xs.length c) xs k W (h.grew hW) hk hn1
        obtain ⟨hr0, hr1⟩ := hr
        have hk1 : (k : Int) < (xs.length : Int) := by omega
        have hk0 : (0 : Int) ≤ (k : Int) := by omega
        have hck : ¬ c = k := by omega
        cases he1 : Tr.evN ltP (tmT xs) n with
        | false =>
          rw [he1] at HF
          rw [if_neg (by simp)]
          replace HF := Lib.hid HF
          clear he1 HX h hf1 hcl
          clear hb1 a1 a2 a3 hr2
          generalize xs.length = nn at *
          go_enter Tryz.func17, Tryz.ntmps17
          go_wp2_with fail
          refine (HI.out _ (Grew.refl _)).mono ?_
          rintro e w1 ⟨rfl, hg1⟩
          have k1 : Grew w w1 := hg1
          go_wp2_with fail
          refine (HR1.out _).mono ?_
          rintro e w2 ⟨rfl, hg2⟩
          have k2 : Grew w w2 := k1.trans hg2
          go_wp2_with fail
          refine (HSZ.out _ k2).mono ?_
          rintro e w3 ⟨rfl, hg3⟩
          have k3 : Grew w w3 := k2.trans hg3
          go_wp2_with fail
          refine (HR2.out _).mono ?_
          rintro e w4 ⟨rfl, hg4⟩
          have k4 : Grew w w4 := k3.trans hg4
          go_wp2_with fail
          refine (HF.out _ k4).mono ?_
          rintro e w5 ⟨rfl, hg5⟩
          have k5 : Grew w w5 := k4.trans hg5
          go_wp2_with fail
          go_ret2
          exact ⟨.slice none 0 0, rfl, OwnT.nil_ _ _, k5⟩
        | true =>
          rw [he1] at HF
          rw [if_pos rfl]
          replace HF := Lib.hid HF
          cases hx : rdxAt xs k with
          | false =>
            rw [hx] at HX
            rw [if_neg (by simp)]
            replace HX := Lib.hid HX
            clear he1 hx h hf1 hcl
            clear hb1 a1 a2 a3 hr2
            generalize xs.length = nn at *
            go_enter Tryz.func17, Tryz.ntmps17
            go_wp2_with fail
            refine (HI.out _ (Grew.refl _)).mono ?_
            rintro e w1 ⟨rfl, hg1⟩
            have k1 : Grew w w1 := hg1
            go_wp2_with fail
            refine (HR1.out _).mono ?_
            rintro e w2 ⟨rfl, hg2⟩
            have k2 : Grew w w2 := k1.trans hg2
            go_wp2_with fail
            refine (HSZ.out _ k2).mono ?_
            rintro e w3 ⟨rfl, hg3⟩
            have k3 : Grew w w3 := k2.trans hg3
            go_wp2_with fail
            refine (HR2.out _).mono ?_
            rintro e w4 ⟨rfl, hg4⟩
            have k4 : Grew w w4 := k3.trans hg4
            go_wp2_with fail
            refine (HF.out _ k4).mono ?_
            rintro e w5 ⟨rfl, hg5⟩
            have k5 : Grew w w5 := k4.trans hg5
            go_wp2_with fail
            refine (HX.out _ k5).mono ?_
            rintro e w6 ⟨rfl, hg6⟩
            have k6 : Grew w w6 := k5.trans hg6
            go_wp2_with fail
            go_ret2
            exact ⟨.slice none 0 0, rfl, OwnT.nil_ _ _, k6⟩
          | true =>
            rw [hx] at HX
            rw [if_pos rfl]
            replace HX := Lib.hid HX
            have HP := Lib.hid (fun W (hW : Grew w W) => contractAt_c (tmT xs) a1 (.slice (some ⟨b, o, none⟩) xs.length c) n k W (by rw [a2]; exact h.grew hW) (by rw [a2]; exact hx) (by rw [a2]; omega) (by omega) (by rw [a2]; omega))
            have hml := ctAt_len (M := 60) (tmT xs) a1 n k (by rw [a2]; exact hx) (by rw [a2]; omega)
            have hml2 : (Tr.enc (tmT xs)).length * 61 ≤ 60 * 61 := Nat.mul_le_mul_right 61 (by rw [a2]; omega)
            have hfm := ctAt_fits (n := n) a1 (show rdxAt (Tr.enc (tmT xs)) k = true by rw [a2]; exact hx) (by rw [a2]; exact hf1)
            have HCL := Lib.hid (fun u W (hu : Tms W u (ctAt (tmT xs) n k)) => cloneT_c u (ctAt (tmT xs) n k) W hu (by omega))
            have HL := Lib.hid (fun u W B (ho : OwnT W B u (ctAt (tmT xs) n k)) => by
              have hl := limitedTerm_c u (ctAt (tmT xs) n k) W B ho hfm (by omega)
              unfold LimG at hl
              exact hl)
            clear he1 hx h hf1 hcl hb1 a1 a2 a3 hr2 hfm hml hml2
            generalize limT (ctAt (tmT xs) n k) = rr at *
            generalize ctAt (tmT xs) n k = X at *
            generalize xs.length = nn at *
            go_enter Tryz.func17, Tryz.ntmps17
            go_wp2_with fail
            refine (HI.out _ (Grew.refl _)).mono ?_
            rintro e w1 ⟨rfl, hg1⟩
            have k1 : Grew w w1 := hg1
            go_wp2_with fail
            refine (HR1.out _).mono ?_
            rintro e w2 ⟨rfl, hg2⟩
            have k2 : Grew w w2 := k1.trans hg2
            go_wp2_with fail
            refine (HSZ.out _ k2).mono ?_
            rintro e w3 ⟨rfl, hg3⟩
            have k3 : Grew w w3 := k2.trans hg3
            go_wp2_with fail
            refine (HR2.out _).mono ?_
            rintro e w4 ⟨rfl, hg4⟩
            have k4 : Grew w w4 := k3.trans hg4
            go_wp2_with fail
            refine (HF.out _ k4).mono ?_
            rintro e w5 ⟨rfl, hg5⟩
            have k5 : Grew w w5 := k4.trans hg5
            go_wp2_with fail
            refine (HX.out _ k5).mono ?_
            rintro e w6 ⟨rfl, hg6⟩
            have k6 : Grew w w6 := k5.trans hg6
            go_wp2_with fail
            refine (HP.out _ k6).mono ?_
            rintro e w7 ⟨u7, rfl, hu, hg7⟩
            have k7 : Grew w w7 := k6.trans hg7
            go_wp2_with fail
            refine (HCL.out _ _ hu).mono ?_
            rintro e w8 ⟨u8, rfl, ho, hg8⟩
            have k8 : Grew w w8 := k7.trans hg8
            go_wp2_with fail
            refine (HL.out _ _ _ ho).mono ?_
            rintro e w9 ⟨u9, rfl, hoq, hg9⟩
            have k9 : Grew w w9 := k8.trans hg9
            go_wp2_with fail
            go_ret2
            exact ⟨_, rfl, hoq.base k7.size, k9⟩
      · rw [decide_eq_false hr2] at HR2
        replace HR2 := Lib.hid HR2
        rw [if_neg hr2]
        clear h hf1 hcl hb1 a1 a2 a3 hr2
        generalize xs.length = nn at *
        go_enter Tryz.func17, Tryz.ntmps17
        go_wp2_with fail
        refine (HI.out _ (Grew.refl _)).mono ?_
        rintro e w1 ⟨rfl, hg1⟩
        have k1 : Grew w w1 := hg1
        go_wp2_with fail
        refine (HR1.out _).mono ?_
        rintro e w2 ⟨rfl, hg2⟩
        have k2 : Grew w w2 := k1.trans hg2
        go_wp2_with fail
        refine (HSZ.out _ k2).mono ?_
        rintro e w3 ⟨rfl, hg3⟩
        have k3 : Grew w w3 := k2.trans hg3
        go_wp2_with fail
        refine (HR2.out _).mono ?_
        rintro e w4 ⟨rfl, hg4⟩
        have k4 : Grew w w4 := k3.trans hg4
        go_wp2_with fail
        go_ret2
        exact ⟨.slice none 0 0, rfl, OwnT.nil_ _ _, k4⟩
    · rw [decide_eq_false hr] at HR1
      replace HR1 := Lib.hid HR1
      rw [if_neg hr]
      clear h hf1 hcl hb1 a1 a2 a3 hr HR2
      generalize xs.length = nn at *
      go_enter Tryz.func17, Tryz.ntmps17
      go_wp2_with fail
      refine (HI.out _ (Grew.refl _)).mono ?_
      rintro e w1 ⟨rfl, hg1⟩
      have k1 : Grew w w1 := hg1
      go_wp2_with fail
      refine (HR1.out _).mono ?_
      rintro e w2 ⟨rfl, hg2⟩
      have k2 : Grew w w2 := k1.trans hg2
      go_wp2_with fail
      go_ret2
      exact ⟨.slice none 0 0, rfl, OwnT.nil_ _ _, k2⟩

theorem specCt_c (va : Value) (xs : List Tn) (n i : Int) (w : World) (h : Tms w va xs) (hf1 : FitsT xs) (hn1 : xs.length ≤ 1048576) :
    Calls Tryz.prog 18 #[va, .int .i64 n, .int .i64 i] w (GivesT2 w (ctF xs n i)) := by
  unfold GivesT2 ctF
  have HI := fun W (hW : Grew w W) => l26Is_c va xs W (h.grew hW) hf1 hn1
  have HR1 := fun w => l01In_c n 0 12 w
  have HR2 := fun w => l01In_c i 0 ((xs.length : Int) - 1) w
  cases hb1 : tmB xs with
  | false =>
    rw [hb1] at HI
    rw [if_neg (by simp)]
    replace HI := Lib.hid HI
    obtain ⟨A, c, rfl⟩ := tms_slice h
    clear h hf1 hb1 HR1 HR2
    generalize xs.length = nn at *
    go_enter Tryz.func18, Tryz.ntmps18
    go_wp2_with fail
    refine (HI.out _ (Grew.refl _)).mono ?_
    rintro e w1 ⟨rfl, hg1⟩
    have k1 : Grew w w1 := hg1
    go_wp2_with fail
    go_ret2
    exact ⟨.slice none 0 0, rfl, OwnT.nil_ _ _, k1⟩
  | true =>
    rw [hb1] at HI
    rw [if_pos rfl]
    replace HI := Lib.hid HI
    obtain ⟨a1, a2, a3⟩ := tmT_ok hb1
    have hpos : 1 ≤ xs.length := by have := Tr.enc_pos (tmT xs); rw [a2] at this; exact this
    rcases h.open_ with ⟨_, h0⟩ | ⟨b, o, c, rfl, hc, hm, hb, hcl⟩
    · rw [h0] at hpos; exact absurd hpos (by simp)
    by_cases hr : 0 ≤ n ∧ n ≤ 12
    · rw [decide_eq_true hr] at HR1
      replace HR1 := Lib.hid HR1
      rw [if_pos hr]
      by_cases hr2 : 0 ≤ i ∧ i ≤ (xs.length : Int) - 1
      · rw [decide_eq_true hr2] at HR2
        replace HR2 := Lib.hid HR2
        rw [if_pos hr2]
        obtain ⟨k, rfl⟩ : ∃ k : Nat, i = k := ⟨i.toNat, by omega⟩
        have hk : k < xs.length := by omega
        rw [Int.toNat_natCast]
        have HF := fun W (hW : Grew w W) => l26Fits_c (tmT xs) a1 (.slice (some ⟨b, o, none⟩) xs.length c) n W (by rw [a2]; exact h.grew hW) (by rw [a2]; omega) (by omega) (by rw [a2]; omega)
        have HX := fun u W (hW : Grew w W) hu => l26Redex_c u xs k b o c W (h.grew hW) hc hm hk hn1 hu
        obtain ⟨hr0, hr1⟩ := hr
        have hk1 : (k : Int) < (xs.length : Int) := by omega
        have hk0 : (0 : Int) ≤ (k : Int) := by omega
        have hck : ¬ c = k := by omega
        cases he1 : Tr.evN ltP (tmT xs) n with
        | false =>
          rw [he1] at HF
          rw [if_neg (by simp)]
          replace HF := Lib.hid HF
          clear he1 HX h hf1 hcl
          clear hb1 a1 a2 a3 hr2
          generalize xs.length = nn at *
          go_enter Tryz.func18, Tryz.ntmps18
          go_wp2_with fail
          refine (HI.out _ (Grew.refl _)).mono ?_
          rintro e w1 ⟨rfl, hg1⟩
          have k1 : Grew w w1 := hg1
          go_wp2_with fail
          refine (HR1.out _).mono ?_
          rintro e w2 ⟨rfl, hg2⟩
          have k2 : Grew w w2 := k1.trans hg2
          go_wp2_with fail
          refine (HR2.out _).mono ?_
          rintro e w3 ⟨rfl, hg3⟩
          have k3 : Grew w w3 := k2.trans hg3
          go_wp2_with fail
          refine (HF.out _ k3).mono ?_
          rintro e w4 ⟨rfl, hg4⟩
          have k4 : Grew w w4 := k3.trans hg4
          go_wp2_with fail
          go_ret2
          exact ⟨.slice none 0 0, rfl, OwnT.nil_ _ _, k4⟩
        | true =>
          rw [he1] at HF
          rw [if_pos rfl]
          replace HF := Lib.hid HF
          cases hx : rdxAt xs k with
          | false =>
            rw [hx] at HX
            rw [if_neg (by simp)]
            replace HX := Lib.hid HX
            clear he1 hx h hf1 hcl
            clear hb1 a1 a2 a3 hr2
            generalize xs.length = nn at *
            go_enter Tryz.func18, Tryz.ntmps18
            go_wp2_with fail
            refine (HI.out _ (Grew.refl _)).mono ?_
            rintro e w1 ⟨rfl, hg1⟩
            have k1 : Grew w w1 := hg1
            go_wp2_with fail
            refine (HR1.out _).mono ?_
            rintro e w2 ⟨rfl, hg2⟩
            have k2 : Grew w w2 := k1.trans hg2
            go_wp2_with fail
            refine (HR2.out _).mono ?_
            rintro e w3 ⟨rfl, hg3⟩
            have k3 : Grew w w3 := k2.trans hg3
            go_wp2_with fail
            refine (HF.out _ k3).mono ?_
            rintro e w4 ⟨rfl, hg4⟩
            have k4 : Grew w w4 := k3.trans hg4
            go_wp2_with fail
            refine (HX.out _ _ k4 rfl).mono ?_
            rintro e w5 ⟨rfl, hg5⟩
            have k5 : Grew w w5 := k4.trans hg5
            go_wp2_with fail
            go_ret2
            exact ⟨.slice none 0 0, rfl, OwnT.nil_ _ _, k5⟩
          | true =>
            rw [hx] at HX
            rw [if_pos rfl]
            replace HX := Lib.hid HX
            have HP := Lib.hid (fun W (hW : Grew w W) => l26At_c (tmT xs) a1 (.slice (some ⟨b, o, none⟩) xs.length c) n k W (by rw [a2]; exact h.grew hW) (by rw [a2]; exact hx) (by rw [a2]; omega) (by omega) (by rw [a2]; omega))
            have hml := ctAt_len (M := 60) (tmT xs) a1 n k (by rw [a2]; exact hx) (by rw [a2]; omega)
            have hml2 : (Tr.enc (tmT xs)).length * 61 ≤ 60 * 61 := Nat.mul_le_mul_right 61 (by rw [a2]; omega)
            have hfm := ctAt_fits (n := n) a1 (show rdxAt (Tr.enc (tmT xs)) k = true by rw [a2]; exact hx) (by rw [a2]; exact hf1)
            have HL := Lib.hid (fun u W B (ho : OwnT W B u (ctAt (tmT xs) n k)) => by
              have hl := l26Made_c u (ctAt (tmT xs) n k) W B ho (by omega)
              unfold LimG at hl
              exact hl)
            clear he1 hx h hf1 hcl hb1 a1 a2 a3 hr2 hfm hml hml2
            generalize limT (ctAt (tmT xs) n k) = rr at *
            generalize ctAt (tmT xs) n k = X at *
            generalize xs.length = nn at *
            go_enter Tryz.func18, Tryz.ntmps18
            go_wp2_with fail
            refine (HI.out _ (Grew.refl _)).mono ?_
            rintro e w1 ⟨rfl, hg1⟩
            have k1 : Grew w w1 := hg1
            go_wp2_with fail
            refine (HR1.out _).mono ?_
            rintro e w2 ⟨rfl, hg2⟩
            have k2 : Grew w w2 := k1.trans hg2
            go_wp2_with fail
            refine (HR2.out _).mono ?_
            rintro e w3 ⟨rfl, hg3⟩
            have k3 : Grew w w3 := k2.trans hg3
            go_wp2_with fail
            refine (HF.out _ k3).mono ?_
            rintro e w4 ⟨rfl, hg4⟩
            have k4 : Grew w w4 := k3.trans hg4
            go_wp2_with fail
            refine (HX.out _ _ k4 rfl).mono ?_
            rintro e w5 ⟨rfl, hg5⟩
            have k5 : Grew w w5 := k4.trans hg5
            go_wp2_with fail
            refine (HP.out _ k5).mono ?_
            rintro e w6 ⟨u6, rfl, ho, hg6⟩
            have k6 : Grew w w6 := k5.trans hg6
            go_wp2_with fail
            refine (HL.out _ _ _ ho).mono ?_
            rintro e w7 ⟨u7, rfl, hoq, hg7⟩
            have k7 : Grew w w7 := k6.trans hg7
            go_wp2_with fail
            go_ret2
            exact ⟨_, rfl, hoq.base k5.size, k7⟩
      · rw [decide_eq_false hr2] at HR2
        replace HR2 := Lib.hid HR2
        rw [if_neg hr2]
        clear h hf1 hcl hb1 a1 a2 a3 hr2
        generalize xs.length = nn at *
        go_enter Tryz.func18, Tryz.ntmps18
        go_wp2_with fail
        refine (HI.out _ (Grew.refl _)).mono ?_
        rintro e w1 ⟨rfl, hg1⟩
        have k1 : Grew w w1 := hg1
        go_wp2_with fail
        refine (HR1.out _).mono ?_
        rintro e w2 ⟨rfl, hg2⟩
        have k2 : Grew w w2 := k1.trans hg2
        go_wp2_with fail
        refine (HR2.out _).mono ?_
        rintro e w3 ⟨rfl, hg3⟩
        have k3 : Grew w w3 := k2.trans hg3
        go_wp2_with fail
        go_ret2
        exact ⟨.slice none 0 0, rfl, OwnT.nil_ _ _, k3⟩
    · rw [decide_eq_false hr] at HR1
      replace HR1 := Lib.hid HR1
      rw [if_neg hr]
      clear h hf1 hcl hb1 a1 a2 a3 hr HR2
      generalize xs.length = nn at *
      go_enter Tryz.func18, Tryz.ntmps18
      go_wp2_with fail
      refine (HI.out _ (Grew.refl _)).mono ?_
      rintro e w1 ⟨rfl, hg1⟩
      have k1 : Grew w w1 := hg1
      go_wp2_with fail
      refine (HR1.out _).mono ?_
      rintro e w2 ⟨rfl, hg2⟩
      have k2 : Grew w w2 := k1.trans hg2
      go_wp2_with fail
      go_ret2
      exact ⟨.slice none 0 0, rfl, OwnT.nil_ _ _, k2⟩
end Go.Proofs.YtdndclfjeajhiaaGreat

/- RedexesOf of both sides. -/
namespace Go.Proofs.YtdndclfjeajhiaaGreat
open Go.RowKit

/-- What RedexesOf gives. -/
noncomputable def redF (xs : List Tn) : List Int × Int := if tmB xs then (redL xs xs.length, 0) else ([], 1)
theorem redF_len (xs : List Tn) (hn : xs.length ≤ 1048576) : (redF xs).1.length ≤ 1048576 := by
  unfold redF
  split
  · have := redL_len xs xs.length; simp; omega
  · simp
def GivesI2 (w : World) (r : List Int × Int) (e : Ending) (w' : World) : Prop := ∃ v, e = .returned (.tuple #[v, .int .i64 r.2]) ∧ OwnI w' w.heap.size v r.1 ∧ Grew w w'

theorem implRed_c (v : Value) (xs : List Tn) (w : World) (h : Tms w v xs) (hfit : FitsT xs) (hn : xs.length ≤ 1048576) :
    Calls Tryz.prog 13 #[v] w (GivesI2 w (redF xs)) := by
  have HI := fun W (hW : Grew w W) => isTerm_c v xs W (h.grew hW) hfit hn
  have HR := fun W (hW : Grew w W) => redexes_c v xs W (h.grew hW) hn
  unfold GivesI2 redF
  obtain ⟨A, c, rfl⟩ := tms_slice h
  cases hb : tmB xs with
  | false =>
    rw [hb] at HI
    rw [if_neg (by simp)]
    replace HI := Lib.hid HI
    replace HR := Lib.hid HR
    clear h hfit hb
    generalize xs.length = n at *
    go_enter Tryz.func13, Tryz.ntmps13
    go_wp2_with fail
    refine (HI.out _ (Grew.refl _)).mono ?_
    rintro e w1 ⟨rfl, hg1⟩
    go_wp2_with fail
    go_ret2
    exact ⟨.slice none 0 0, rfl, OwnI.nil_ _ _, hg1⟩
  | true =>
    rw [hb] at HI
    rw [if_pos rfl]
    replace HI := Lib.hid HI
    clear h hfit hb
    generalize redL xs xs.length = L at *
    replace HR := Lib.hid HR
    generalize xs.length = n at *
    go_enter Tryz.func13, Tryz.ntmps13
    go_wp2_with fail
    refine (HI.out _ (Grew.refl _)).mono ?_
    rintro e w1 ⟨rfl, hg1⟩
    go_wp2_with fail
    refine (HR.out _ hg1).mono ?_
    rintro e w2 ⟨u, rfl, ho, hg2⟩
    go_wp2_with fail
    go_ret2
    exact ⟨_, rfl, ho.base hg1.size, hg1.trans hg2⟩

theorem specRed_c (v : Value) (xs : List Tn) (w : World) (h : Tms w v xs) (hfit : FitsT xs) (hn : xs.length ≤ 1048576) :
    Calls Tryz.prog 14 #[v] w (GivesI2 w (redF xs)) := by
  have HI := fun W (hW : Grew w W) => l26Is_c v xs W (h.grew hW) hfit hn
  have HR := fun W (hW : Grew w W) => l26Redexes_c v xs W (h.grew hW) hn
  unfold GivesI2 redF
  obtain ⟨A, c, rfl⟩ := tms_slice h
  cases hb : tmB xs with
  | false =>
    rw [hb] at HI
    rw [if_neg (by simp)]
    replace HI := Lib.hid HI
    replace HR := Lib.hid HR
    clear h hfit hb
    generalize xs.length = n at *
    go_enter Tryz.func14, Tryz.ntmps14
    go_wp2_with fail
    refine (HI.out _ (Grew.refl _)).mono ?_
    rintro e w1 ⟨rfl, hg1⟩
    go_wp2_with fail
    go_ret2
    exact ⟨.slice none 0 0, rfl, OwnI.nil_ _ _, hg1⟩
  | true =>
    rw [hb] at HI
    rw [if_pos rfl]
    replace HI := Lib.hid HI
    clear h hfit hb
    generalize redL xs xs.length = L at *
    replace HR := Lib.hid HR
    generalize xs.length = n at *
    go_enter Tryz.func14, Tryz.ntmps14
    go_wp2_with fail
    refine (HI.out _ (Grew.refl _)).mono ?_
    rintro e w1 ⟨rfl, hg1⟩
    go_wp2_with fail
    refine (HR.out _ hg1).mono ?_
    rintro e w2 ⟨u, rfl, ho, hg2⟩
    go_wp2_with fail
    go_ret2
    exact ⟨_, rfl, ho.base hg1.size, hg1.trans hg2⟩
end Go.Proofs.YtdndclfjeajhiaaGreat

/- What FnSubjectReduction's answers are, plain. No program is in sight. -/
namespace Go.Proofs.YtdndclfjeajhiaaGreat
open Go.RowKit
open Tr (Tm)

/-- A list of nodes is the list of one good term alone. -/
theorem tm_pre : ∀ (t u : Tm) (r s : List Tn), Good t → Good u → Tr.enc t ++ r = Tr.enc u ++ s → t = u ∧ r = s := by
  intro t
  induction t with
  | t0 x =>
    intro u r s hg hu h
    cases u with
    | t0 y =>
      simp only [Tr.enc, List.singleton_append, List.cons.injEq] at h
      exact ⟨by rw [h.1], h.2⟩
    | t1 y a => simp only [Tr.enc, List.singleton_append, List.cons_append, List.cons.injEq] at h; have h1 : Tr.ar x.1 = 0 := hg.1; have h2 := hu.1.1; rw [h.1] at h1; omega
    | t2 y a b => simp only [Tr.enc, List.singleton_append, List.cons_append, List.cons.injEq] at h; have h1 : Tr.ar x.1 = 0 := hg.1; have h2 := hu.1.1; rw [h.1] at h1; omega
    | t3 y a b c => simp only [Tr.enc, List.singleton_append, List.cons_append, List.cons.injEq] at h; have h1 : Tr.ar x.1 = 0 := hg.1; have h2 := hu.1.1; rw [h.1] at h1; omega
  | t1 x a ha =>
    intro u r s hg hu h
    cases u with
    | t0 y => simp only [Tr.enc, List.singleton_append, List.cons_append, List.cons.injEq] at h; have h1 := hg.1.1; have h2 : Tr.ar y.1 = 0 := hu.1; rw [h.1] at h1; omega
    | t1 y b =>
      simp only [Tr.enc, List.cons_append, List.cons.injEq] at h
      obtain ⟨e1, e2⟩ := ha b r s hg.2 hu.2 h.2
      exact ⟨by rw [h.1, e1], e2⟩
    | t2 y b c => simp only [Tr.enc, List.cons_append, List.cons.injEq] at h; have h1 := hg.1.1; have h2 := hu.1.1; rw [h.1] at h1; omega
    | t3 y b c d => simp only [Tr.enc, List.cons_append, List.cons.injEq] at h; have h1 := hg.1.1; have h2 := hu.1.1; rw [h.1] at h1; omega
  | t2 x a b ha hb =>
    intro u r s hg hu h
    cases u with
    | t0 y => simp only [Tr.enc, List.singleton_append, List.cons_append, List.cons.injEq] at h; have h1 := hg.1.1; have h2 : Tr.ar y.1 = 0 := hu.1; rw [h.1] at h1; omega
    | t1 y c => simp only [Tr.enc, List.cons_append, List.cons.injEq] at h; have h1 := hg.1.1; have h2 := hu.1.1; rw [h.1] at h1; omega
    | t2 y c d =>
      simp only [Tr.enc, List.cons_append, List.append_assoc, List.cons.injEq] at h
      obtain ⟨e1, e2⟩ := ha c _ _ hg.2.1 hu.2.1 h.2
      obtain ⟨e3, e4⟩ := hb d _ _ hg.2.2 hu.2.2 e2
      exact ⟨by rw [h.1, e1, e3], e4⟩
    | t3 y c d e => simp only [Tr.enc, List.cons_append, List.cons.injEq] at h; have h1 := hg.1.1; have h2 := hu.1.1; rw [h.1] at h1; omega
  | t3 x a b c ha hb hc =>
    intro u r s hg hu h
    cases u with
    | t0 y => simp only [Tr.enc, List.singleton_append, List.cons_append, List.cons.injEq] at h; have h1 := hg.1.1; have h2 : Tr.ar y.1 = 0 := hu.1; rw [h.1] at h1; omega
    | t1 y d => simp only [Tr.enc, List.cons_append, List.cons.injEq] at h; have h1 := hg.1.1; have h2 := hu.1.1; rw [h.1] at h1; omega
    | t2 y d e => simp only [Tr.enc, List.cons_append, List.cons.injEq] at h; have h1 := hg.1.1; have h2 := hu.1.1; rw [h.1] at h1; omega
    | t3 y d e f =>
      simp only [Tr.enc, List.cons_append, List.append_assoc, List.cons.injEq] at h
      obtain ⟨e1, e2⟩ := ha d _ _ hg.2.1 hu.2.1 h.2
      obtain ⟨e3, e4⟩ := hb e _ _ hg.2.2.1 hu.2.2.1 e2
      obtain ⟨e5, e6⟩ := hc f _ _ hg.2.2.2 hu.2.2.2 e4
      exact ⟨by rw [h.1, e1, e3, e5], e6⟩
theorem tm_inj {t u : Tm} (hg : Good t) (hu : Good u) (h : Tr.enc t = Tr.enc u) : t = u := (tm_pre t u [] [] hg hu (by rw [List.append_nil, List.append_nil]; exact h)).1
theorem good_tmB {t : Tm} (hg : Good t) (hl : (Tr.enc t).length ≤ 60) : tmB (Tr.enc t) = true := by
  have hp := Tr.enc_pos t
  unfold tmB
  have h1 : anyT noTn (Tr.enc t) = false := by
    refine anyT_no fun i hi => ?_
    have := wf_all t hg _ (List.getElem_mem hi)
    unfold GoodN at this
    rw [tk_lt hi] at this
    simpa [noTn] using this
  have h2 : Tr.pend (Tr.enc t) 0 1 = ((Tr.enc t).length : Int) := by
    unfold Tr.pend
    rw [List.drop_zero]
    have := Tr.scan_one hg []
    rw [List.append_nil] at this
    rw [this]
    simp [Tr.pval]
  simp only [Bool.and_eq_true, decide_eq_true_eq, Bool.not_eq_true', beq_iff_eq]
  exact ⟨⟨⟨hp, hl⟩, h1⟩, h2⟩
theorem tmT_of {t : Tm} (hg : Good t) (hl : (Tr.enc t).length ≤ 60) : tmT (Tr.enc t) = t := by
  obtain ⟨h1, h2, _⟩ := tmT_ok (good_tmB hg hl)
  exact tm_inj h1 hg h2
theorem nrm_cnt (n : Int) : ∀ (k : Nat) (t : Tm), (nrm k t n).2.2 = 0 → 200 - (k : Int) ≤ (nrm k t n).2.1 := by
  intro k
  induction k with
  | zero =>
    intro t h0
    cases h : redL (Tr.enc t) (Tr.enc t).length with
    | nil => rw [nrm_done h]; show (200 : Int) - 0 ≤ 200 - 0; omega
    | cons i L => rw [nrm_stop h] at h0; cases h0
  | succ k ih =>
    intro t h0
    cases h : redL (Tr.enc t) (Tr.enc t).length with
    | nil => rw [nrm_done h]; exact Int.le_refl _
    | cons i L =>
      by_cases hb : (limT (ctAt t n i.toNat)).2 = 0
      · rw [nrm_step h hb] at h0 ⊢
        have := ih _ h0
        omega
      · rw [nrm_big h hb] at h0; cases h0
theorem nrm_zero {n : Int} {t : Tm} (h0 : (nrm 200 t n).2.2 = 0) : ((nrm 200 t n).2.1 == 0) = decide (redL (Tr.enc t) (Tr.enc t).length = []) := by
  cases h : redL (Tr.enc t) (Tr.enc t).length with
  | nil => rw [nrm_done h]; rfl
  | cons i L =>
    by_cases hb : (limT (ctAt t n i.toNat)).2 = 0
    · rw [nrm_step h hb] at h0 ⊢
      have := nrm_cnt n 199 _ h0
      rw [Bool.eq_iff_iff]
      simp
      intro e
      rw [e] at this
      omega
    · rw [nrm_big h hb] at h0; cases h0

/-- What a contracted term answers. -/
def SrEach (L : List ByteArray) (xs : List Tn) (s : ByteArray) (i : Int) : Prop :=
  ((ctF xs L.length i).2 = 3 ∧ (ctF xs L.length i).1 = []) ∨ ∃ us, ctF xs L.length i = (us, 0) ∧ tmB us = true ∧
    ((ttF L us = (s, 0) ∧ (snF L xs us = (true, 0) ∨ snF L xs us = (false, 3))) ∨ (12 < L.length + dp (tmT us) ∧ ttF L us = (ByteArray.empty, 5) ∧ snF L xs us = (false, 5)))
structure SrOk (L : List ByteArray) (xs ys : List Tn) (c : Int) (s : ByteArray) : Prop where
  tb : tmB xs = true
  ll : L.length ≤ 12
  tt : ttF L xs = (s, 0)
  yb : tmB ys = true
  yt : ttF L ys = (s, 0) ∨ (12 < L.length + dp (tmT ys) ∧ ttF L ys = (ByteArray.empty, 5))
  yr : redF ys = ([], 0)
  xr : redF xs = (redL xs xs.length, 0)
  cz : (c == 0) = decide ((redL xs xs.length).length = 0)
  each : ∀ i, i ∈ redL xs xs.length → SrEach L xs s i
theorem limT_two (xs : List Tn) : limT xs = (xs, 0) ∨ limT xs = ([], 3) := by
  unfold limT
  split
  · exact .inr rfl
  · exact .inl rfl
theorem evN_sc : ∀ (t : Tm) (n : Nat), Sc t n → Tr.evN ltP t (n : Int) = true := by
  intro t
  induction t with
  | t0 x =>
    intro n h
    obtain ⟨_, _, h3⟩ := h
    show ltP x.2.1 n = true
    unfold ltP
    simpa using h3
  | t1 x a ha =>
    intro n h
    show Tr.evN ltP a ((n : Int) + Tr.bd x.1 0) = true
    rcases h with ⟨h1, h2⟩ | ⟨h1, h2⟩
    · rw [h1, bd_one]; have := ha (n + 1) h2; simpa using this
    · rw [bd_no (by omega) (by omega), Int.add_zero]; exact ha n h2
  | t2 x a b ha hb =>
    intro n h
    obtain ⟨h1, h2, h3⟩ := h
    show (Tr.evN ltP a ((n : Int) + Tr.bd x.1 0) && Tr.evN ltP b ((n : Int) + Tr.bd x.1 1)) = true
    rw [bd_no (by omega) (by omega), bd_no (by omega) (by omega), Int.add_zero, ha n h2, hb n h3]; rfl
  | t3 x a b c ha hb hc =>
    intro n h
    obtain ⟨h1, h2, h3, h4⟩ := h
    show (Tr.evN ltP a ((n : Int) + Tr.bd x.1 0) && (Tr.evN ltP b ((n : Int) + Tr.bd x.1 1) && Tr.evN ltP c ((n : Int) + Tr.bd x.1 2))) = true
    have k1 := hb (n + 1) h3
    have k2 := hc (n + 1) h4
    rw [Int.natCast_succ] at k1 k2
    rw [h1, bd_80, bd_8 (by decide), bd_8 (by decide), Int.add_zero, ha n h2, k1, k2]; rfl
theorem ttF_yes {L : List ByteArray} {t : Tm} {T : Fm.Tree} (ha : asl L = true) (hg : Good t) (hl : (Tr.enc t).length ≤ 60) (h : ty (L.map fo) t = some T) : ttF L (Tr.enc t) = (tx T, 0) := by
  unfold ttF
  rw [ha, good_tmB hg hl, tmT_of hg hl, h]; rfl
theorem ttF_none {L : List ByteArray} {t : Tm} (ha : asl L = true) (hg : Good t) (hl : (Tr.enc t).length ≤ 60) (h : ty (L.map fo) t = none) : ttF L (Tr.enc t) = (ByteArray.empty, 5) := by
  unfold ttF
  rw [ha, good_tmB hg hl, tmT_of hg hl, h]; rfl
theorem sr_ok {L : List ByteArray} {xs : List Tn} (h0 : (nfF L xs).2.2 = 0) : ∃ s, SrOk L xs (nfF L xs).1 (nfF L xs).2.1 s := by
  rcases nf_cases L xs with ⟨_, h⟩ | ⟨⟨ha, hb⟩, ⟨_, h⟩ | ⟨T, hT, hn, h⟩⟩
  · rw [h] at h0; cases h0
  · rw [h] at h0; cases h0
  obtain ⟨g1, g2, g3⟩ := tmT_ok hb
  obtain ⟨t, ht⟩ : ∃ t, t = tmT xs := ⟨_, rfl⟩
  rw [← ht] at hT hn g1 g2
  subst g2
  have hlm : (L.map fo).length = L.length := by simp
  have hsc := ty_sc t (L.map fo) T g1 hT
  rw [hlm] at hsc
  have h02 : (nrm 200 t L.length).2.2 = 0 := by rw [← hn]; exact h0
  obtain ⟨v, a1, a2, a3, a4, a5⟩ := nrm_end L.length 200 t g1 hsc h02
  rw [← hn] at a3
  have hvl : (Tr.enc v).length ≤ 60 := by
    rcases h with ⟨_, u, b1, b2, b3⟩ | h
    · rw [a3, ← b2]; exact b3
    · rw [h] at h0; cases h0
  have hkv := ty_kept (u := v) g1 hT (by rw [hlm]; exact a4) (by rw [hlm]; exact a2)
  rw [hlm] at hkv
  have hyb := good_tmB a1 hvl
  rw [← a3]
  refine ⟨tx T, hb, (asl_map ha).1, ttF_yes ha g1 g3 hT, hyb, ?_, ?_, ?_, ?_, ?_⟩
  · rw [tmT_of a1 hvl]
    cases hv : ty (L.map fo) v with
    | some U =>
      rw [hkv.1 U hv] at hv
      exact .inl (ttF_yes ha a1 hvl hv)
    | none =>
      refine .inr ⟨?_, ttF_none ha a1 hvl hv⟩
      rcases Nat.lt_or_ge 12 (L.length + dp v) with hd | hd
      · exact hd
      · rw [hkv.2 hd] at hv; cases hv
  · unfold redF; rw [if_pos hyb, a5]
  · unfold redF; rw [if_pos hb]
  · rw [hn, nrm_zero h02, decide_eq_decide]
    exact ⟨fun h => by rw [h]; rfl, fun h => List.eq_nil_of_length_eq_zero h⟩
  · intro i hi
    obtain ⟨j, rfl, hj, hr⟩ := redL_mem hi
    have hct : ctF (Tr.enc t) L.length j = limT (ctAt t L.length j) := by
      unfold ctF
      have hl12 := (asl_map ha).1
      rw [if_pos hb, if_pos ⟨by omega, by omega⟩, if_pos ⟨by omega, by omega⟩, tmT_of g1 g3, if_pos (evN_sc t _ hsc), Int.toNat_natCast, if_pos hr]
    unfold SrEach
    rw [hct]
    rcases limT_two (ctAt t L.length j) with hlim | hlim
    · refine .inr ⟨_, hlim, ?_⟩
      obtain ⟨c1, c2, c3, c4⟩ := ct_good (n := (L.length : Int)) (by omega) g1 hr (by rw [hlim])
      obtain ⟨k1, k2⟩ := ct_tl t L.length j _ rfl g1 hsc hr
      rw [← c2] at c3 ⊢
      have hub := good_tmB c1 c3
      generalize ctT t L.length j = u at *
      have hps := Lm.Ps.one k2
      have hku := ty_kept (u := u) g1 hT (by rw [hlm]; exact hps) (by rw [hlm]; exact k1)
      rw [hlm] at hku
      refine ⟨hub, ?_⟩
      rw [tmT_of c1 c3]
      cases hu : ty (L.map fo) u with
      | some U =>
        rw [hku.1 U hu] at hu
        refine .inl ⟨ttF_yes ha c1 c3 hu, ?_⟩
        have hnu : nfF L (Tr.enc u) = nrm 200 u L.length := by
          rw [nfF_eq, ttF_yes ha c1 c3 hu, if_pos rfl, tmT_of c1 c3]
        unfold snF
        rw [hn, hnu]
        have n1 : ¬ ((nrm 200 t L.length).2.2 = 1 ∨ (nrm 200 u L.length).2.2 = 1) := by
          rw [h02]
          rintro (h | h)
          · cases h
          · rcases nrm_tree (L.length : Int) (by omega) 200 u c1 c3 with ⟨z, _⟩ | z
            · rw [z] at h; cases h
            · rw [z] at h; cases h
        have n5 : ¬ ((nrm 200 t L.length).2.2 = 5 ∨ (nrm 200 u L.length).2.2 = 5) := by
          rw [h02]
          rintro (h | h)
          · cases h
          · rcases nrm_tree (L.length : Int) (by omega) 200 u c1 c3 with ⟨z, _⟩ | z
            · rw [z] at h; cases h
            · rw [z] at h; cases h
        rw [if_neg n1, if_neg n5]
        by_cases hz : (nrm 200 u L.length).2.2 = 0
        · have he := nrm_same (n := L.length) (j := 200) (k := 200) g1 hsc c1 k1 hps h02 hz
          rw [if_neg (by rw [h02, hz]; decide), decide_eq_true he]
          exact .inl rfl
        · rw [if_pos (.inr hz)]
          exact .inr rfl
      | none =>
        refine .inr ⟨?_, ttF_none ha c1 c3 hu, ?_⟩
        · rcases Nat.lt_or_ge 12 (L.length + dp u) with hd | hd
          · exact hd
          · rw [hku.2 hd] at hu; cases hu
        · have hnu : nfF L (Tr.enc u) = ([], 0, 5) := by rw [nfF_eq, ttF_none ha c1 c3 hu]; rfl
          unfold snF
          rw [hn, hnu, h02, if_neg (by decide), if_pos (.inr rfl)]
    · rw [hlim]
      exact .inl ⟨rfl, rfl⟩
end Go.Proofs.YtdndclfjeajhiaaGreat

/- TypeOfTerm of the program and of the reference. -/
namespace Go.Proofs.YtdndclfjeajhiaaGreat
open Go.RowKit
open Tr (Tm)

theorem implTyp_c (va : Value) (L : List ByteArray) (vt : Value) (xs : List Tn) (w : World) (hs : Strs w va L) (ht : Tms w vt xs) (f0 : Fits L) (n0 : L.length ≤ 1048576) (f1 : FitsT xs) (n1 : xs.length ≤ 1048576) :
    Calls Tryz.prog 11 #[va, vt] w (GivesSI w (ttF L xs)) := by
  have KT := fun W (hW : Grew w W) => isTerm_c vt xs W (ht.grew hW) f1 n1
  have KA := fun W (hW : Grew w W) => isAssumptionList_c va L W (hs.grew hW) f0
  have KY := fun (ha : asl L = true) (hb : tmB xs = true) W (hW : Grew w W) => typeOf_c (tmT xs) (tmT_ok hb).1 (by rw [(tmT_ok hb).2.1]; exact (tmT_ok hb).2.2) (L.map fo) (asl_ok ha).2.1 (asl_ok ha).1 va vt W (by rw [(asl_ok ha).2.2]; exact hs.grew hW) (by rw [(tmT_ok hb).2.1]; exact ht.grew hW)
  unfold ttF
  obtain ⟨A, c, rfl⟩ := strs_slice hs
  obtain ⟨B, d, rfl⟩ := tms_slice ht
  clear hs ht f0 f1
  unfold GivesTy at KY
  unfold GivesSI
  generalize ty (L.map fo) (tmT xs) = R at *
  generalize L.length = gl at *
  generalize xs.length = gn at *
  generalize asl L = qa at *
  generalize tmB xs = qb at *
  have r0 := Grew.refl w
  cases qb with
  | false =>
    rw [Bool.and_false, if_neg (by simp)]
    replace KT := Lib.hid KT
    clear KA KY
    go_enter Tryz.func11, Tryz.ntmps11
    go_wp2_with fail
    refine (KT.out _ r0).mono ?_
    rintro e w1 ⟨rfl, hg1⟩
    go_wp2_with fail
    go_ret2
    exact ⟨rfl, hg1⟩
  | true =>
    cases qa with
    | false =>
      rw [Bool.and_true, if_neg (by simp)]
      replace KT := Lib.hid KT
      replace KA := Lib.hid KA
      clear KY
      go_enter Tryz.func11, Tryz.ntmps11
      go_wp2_with fail
      refine (KT.out _ r0).mono ?_
      rintro e w1 ⟨rfl, hg1⟩
      go_wp2_with fail
      refine (KA.out _ hg1).mono ?_
      rintro e w2 ⟨rfl, hg2⟩
      go_wp2_with fail
      go_ret2
      exact ⟨rfl, hg1.trans hg2⟩
    | true =>
      rw [Bool.and_true, if_pos rfl]
      have KZ := Lib.hid (KY rfl rfl)
      replace KT := Lib.hid KT
      replace KA := Lib.hid KA
      clear KY
      cases R with
      | none =>
        go_enter Tryz.func11, Tryz.ntmps11
        go_wp2_with fail
        refine (KT.out _ r0).mono ?_
        rintro e w1 ⟨rfl, hg1⟩
        go_wp2_with fail
        refine (KA.out _ hg1).mono ?_
        rintro e w2 ⟨rfl, hg2⟩
        have g2 := hg1.trans hg2
        go_wp2_with fail
        refine (KZ.out _ g2).mono ?_
        rintro e w3 ⟨s, rfl, _, hg3⟩
        go_wp2_with fail
        go_ret2
        exact ⟨rfl, g2.trans hg3⟩
      | some T =>
        go_enter Tryz.func11, Tryz.ntmps11
        go_wp2_with fail
        refine (KT.out _ r0).mono ?_
        rintro e w1 ⟨rfl, hg1⟩
        go_wp2_with fail
        refine (KA.out _ hg1).mono ?_
        rintro e w2 ⟨rfl, hg2⟩
        have g2 := hg1.trans hg2
        go_wp2_with fail
        refine (KZ.out _ g2).mono ?_
        rintro e w3 ⟨s, rfl, hT, hg3⟩
        obtain rfl := hT T rfl
        clear hT
        go_wp2_with fail
        go_ret2
        exact ⟨rfl, g2.trans hg3⟩

theorem specTyp_c (va : Value) (L : List ByteArray) (vt : Value) (xs : List Tn) (w : World) (hs : Strs w va L) (ht : Tms w vt xs) (f0 : Fits L) (n0 : L.length ≤ 1048576) (f1 : FitsT xs) (n1 : xs.length ≤ 1048576) :
    Calls Tryz.prog 12 #[va, vt] w (GivesSI w (ttF L xs)) := by
  have KT := fun W (hW : Grew w W) => l26Is_c vt xs W (ht.grew hW) f1 n1
  have KA := fun W (hW : Grew w W) => l25List_c va L W (hs.grew hW) f0
  have KY := fun (ha : asl L = true) (hb : tmB xs = true) W (hW : Grew w W) => l26Type_c (tmT xs) (tmT_ok hb).1 (by rw [(tmT_ok hb).2.1]; exact (tmT_ok hb).2.2) (L.map fo) (asl_ok ha).2.1 (asl_ok ha).1 va vt W (by rw [(asl_ok ha).2.2]; exact hs.grew hW) (by rw [(tmT_ok hb).2.1]; exact ht.grew hW)
  unfold ttF
  obtain ⟨A, c, rfl⟩ := strs_slice hs
  obtain ⟨B, d, rfl⟩ := tms_slice ht
  clear hs ht f0 f1
  unfold GivesSI
  generalize ty (L.map fo) (tmT xs) = R at *
  generalize L.length = gl at *
  generalize xs.length = gn at *
  generalize asl L = qa at *
  generalize tmB xs = qb at *
  have r0 := Grew.refl w
  cases qa with
  | false =>
    rw [Bool.false_and, if_neg (by simp)]
    replace KA := Lib.hid KA
    clear KT KY
    go_enter Tryz.func12, Tryz.ntmps12
    go_wp2_with fail
    refine (KA.out _ r0).mono ?_
    rintro e w1 ⟨rfl, hg1⟩
    go_wp2_with fail
    go_ret2
    exact ⟨rfl, hg1⟩
  | true =>
    cases qb with
    | false =>
      rw [Bool.true_and, if_neg (by simp)]
      replace KT := Lib.hid KT
      replace KA := Lib.hid KA
      clear KY
      go_enter Tryz.func12, Tryz.ntmps12
      go_wp2_with fail
      refine (KA.out _ r0).mono ?_
      rintro e w1 ⟨rfl, hg1⟩
      go_wp2_with fail
      refine (KT.out _ hg1).mono ?_
      rintro e w2 ⟨rfl, hg2⟩
      go_wp2_with fail
      go_ret2
      exact ⟨rfl, hg1.trans hg2⟩
    | true =>
      rw [Bool.and_true, if_pos rfl]
      replace KY := KY rfl rfl
      replace KT := Lib.hid KT
      replace KA := Lib.hid KA
      cases R with
      | none =>
        rw [show otx none = ByteArray.empty from rfl] at KY
        replace KY := Lib.hid KY
        go_enter Tryz.func12, Tryz.ntmps12
        go_wp2_with fail
        refine (KA.out _ r0).mono ?_
        rintro e w1 ⟨rfl, hg1⟩
        go_wp2_with fail
        refine (KT.out _ hg1).mono ?_
        rintro e w2 ⟨rfl, hg2⟩
        have g2 := hg1.trans hg2
        go_wp2_with fail
        refine (KY.out _ g2).mono ?_
        rintro e w3 ⟨rfl, hg3⟩
        go_wp2_with fail
        go_ret2
        exact ⟨rfl, g2.trans hg3⟩
      | some T =>
        have hne := tx_ne T
        change Calls _ _ _ _ (fun e w' => e = .returned (.tuple #[.string (tx T), .int .i64 0]) ∧ Grew w w')
        rw [show otx (some T) = tx T from rfl] at KY
        replace KY := Lib.hid KY
        generalize tx T = s at *
        go_enter Tryz.func12, Tryz.ntmps12
        go_wp2_with fail
        refine (KA.out _ r0).mono ?_
        rintro e w1 ⟨rfl, hg1⟩
        go_wp2_with fail
        refine (KT.out _ hg1).mono ?_
        rintro e w2 ⟨rfl, hg2⟩
        have g2 := hg1.trans hg2
        go_wp2_with fail
        refine (KY.out _ g2).mono ?_
        rintro e w3 ⟨rfl, hg3⟩
        go_wp2_with fail
        go_ret2
        exact ⟨rfl, g2.trans hg3⟩
end Go.Proofs.YtdndclfjeajhiaaGreat

/- NormalTerm and CountReductions of both. -/
namespace Go.Proofs.YtdndclfjeajhiaaGreat
open Go.RowKit
open Tr (Tm)

theorem normalized_c (va : Value) (L : List ByteArray) (vt : Value) (xs : List Tn) (w : World) (hs : Strs w va L) (ht : Tms w vt xs) (f0 : Fits L) (n0 : L.length ≤ 1048576) (f1 : FitsT xs) (n1 : xs.length ≤ 1048576) :
    Calls Tryz.prog 22 #[va, vt] w (GivesNr w (nfF L xs)) := by
  have KT := Lib.hid (implTyp_c va L vt xs w hs ht f0 n0 f1 n1)
  have KS := Lib.hid (fun W (hW : Grew w W) => sizeS_c va L W (hs.grew hW))
  have KN := fun (h : (ttF L xs).2 = 0) W (hW : Grew w W) => normalTerm_c vt (tmT xs) L.length W (by rw [(tmT_ok (ttF_ok h).2).2.1]; exact ht.grew hW) (tmT_ok (ttF_ok h).2).1 (by rw [(tmT_ok (ttF_ok h).2).2.1]; exact (tmT_ok (ttF_ok h).2).2.2) (by omega) (by have := (asl_map (ttF_ok h).1).1; omega)
  rw [nfF_eq]
  unfold GivesSI at KT
  unfold GivesNr at KN
  obtain ⟨A, c, rfl⟩ := strs_slice hs
  obtain ⟨B, d, rfl⟩ := tms_slice ht
  clear hs ht f0 f1 n0 n1
  generalize ttF L xs = tt at *
  obtain ⟨ts, tc⟩ := tt
  simp only at KT KN ⊢
  generalize nrm 200 (tmT xs) L.length = RR at *
  generalize L.length = gl at *
  generalize xs.length = gn at *
  by_cases h0 : tc = 0
  · rw [if_pos h0]
    replace KN := Lib.hid (KN h0)
    rw [h0] at KT
    clear h0
    go_enter Tryz.func22, Tryz.ntmps22
    go_wp2_with fail
    refine KT.out.mono ?_
    rintro e w1 ⟨rfl, hg1⟩
    go_wp2_with fail
    refine (KS.out _ hg1).mono ?_
    rintro e w2 ⟨rfl, hg2⟩
    have g2 := hg1.trans hg2
    go_wp2_with fail
    refine (KN.out _ g2).mono ?_
    rintro e w3 ⟨u, rfl, hu, hg3⟩
    go_wp2_with fail
    go_ret3
    exact ⟨u, rfl, hu, g2.trans hg3⟩
  · rw [if_neg h0]
    have hb : (tc != 0) = true := by simpa using h0
    clear h0 KN
    go_enter Tryz.func22, Tryz.ntmps22
    go_wp2_with fail
    refine KT.out.mono ?_
    rintro e w1 ⟨rfl, hg1⟩
    go_wp2_with fail
    go_ret3
    exact ⟨.slice none 0 0, rfl, Tms.nil_ _, hg1⟩

/-- A term and a code. -/
noncomputable def ntF (L : List ByteArray) (xs : List Tn) : List Tn × Int := ((nfF L xs).1, (nfF L xs).2.2)
noncomputable def crF (L : List ByteArray) (xs : List Tn) : Int × Int := ((nfF L xs).2.1, (nfF L xs).2.2)
def GivesII (w : World) (r : Int × Int) (e : Ending) (w' : World) : Prop := e = .returned (.tuple #[.int .i64 r.1, .int .i64 r.2]) ∧ Grew w w'
theorem ntF_len (L : List ByteArray) (xs : List Tn) : (ntF L xs).1.length ≤ 1048576 := nfF_len L xs

theorem implNt_c (va : Value) (L : List ByteArray) (vt : Value) (xs : List Tn) (w : World) (hs : Strs w va L) (ht : Tms w vt xs) (f0 : Fits L) (n0 : L.length ≤ 1048576) (f1 : FitsT xs) (n1 : xs.length ≤ 1048576) :
    Calls Tryz.prog 6 #[va, vt] w (GivesT2 w (ntF L xs)) := by
  have KN := Lib.hid (normalized_c va L vt xs w hs ht f0 n0 f1 n1)
  have KC := Lib.hid (fun u W (hu : Tms W u (nfF L xs).1) => cloneT_c u (nfF L xs).1 W hu (nfF_len L xs))
  unfold ntF
  unfold GivesNr at KN
  generalize nfF L xs = R at *
  obtain ⟨ra, rb, rc⟩ := R
  simp only at KN KC ⊢
  obtain ⟨A, c, rfl⟩ := strs_slice hs
  obtain ⟨B, d, rfl⟩ := tms_slice ht
  clear hs ht f0 f1 n0 n1
  generalize L.length = gl at *
  generalize xs.length = gn at *
  go_enter Tryz.func6, Tryz.ntmps6
  go_wp2_with fail
  refine KN.out.mono ?_
  rintro e w1 ⟨u, rfl, hu, hg1⟩
  have HU := Lib.hid hu
  clear hu
  go_wp2_with fail
  refine (KC.out _ _ HU.out).mono ?_
  rintro e w2 ⟨u2, rfl, ho, hg2⟩
  go_wp2_with fail
  go_ret2
  exact ⟨u2, rfl, ho.base hg1.size, hg1.trans hg2⟩

theorem specNt_c (va : Value) (L : List ByteArray) (vt : Value) (xs : List Tn) (w : World) (hs : Strs w va L) (ht : Tms w vt xs) (f0 : Fits L) (n0 : L.length ≤ 1048576) (f1 : FitsT xs) (n1 : xs.length ≤ 1048576) :
    Calls Tryz.prog 7 #[va, vt] w (GivesT2 w (ntF L xs)) := by
  have KN := Lib.hid (l26Normal_c va L vt xs w hs ht f0 n0 f1 n1)
  unfold ntF
  unfold GivesNo at KN
  generalize nfF L xs = R at *
  obtain ⟨ra, rb, rc⟩ := R
  simp only at KN ⊢
  obtain ⟨A, c, rfl⟩ := strs_slice hs
  obtain ⟨B, d, rfl⟩ := tms_slice ht
  clear hs ht f0 f1 n0 n1
  generalize L.length = gl at *
  generalize xs.length = gn at *
  go_enter Tryz.func7, Tryz.ntmps7
  go_wp2_with fail
  refine KN.out.mono ?_
  rintro e w1 ⟨u, rfl, hu, hg1⟩
  go_wp2_with fail
  go_ret2
  exact ⟨u, rfl, hu, hg1⟩

theorem implCr_c (va : Value) (L : List ByteArray) (vt : Value) (xs : List Tn) (w : World) (hs : Strs w va L) (ht : Tms w vt xs) (f0 : Fits L) (n0 : L.length ≤ 1048576) (f1 : FitsT xs) (n1 : xs.length ≤ 1048576) :
    Calls Tryz.prog 8 #[va, vt] w (GivesII w (crF L xs)) := by
  have KN := Lib.hid (normalized_c va L vt xs w hs ht f0 n0 f1 n1)
  unfold crF
  unfold GivesNr at KN
  generalize nfF L xs = R at *
  obtain ⟨ra, rb, rc⟩ := R
  simp only at KN ⊢
  obtain ⟨A, c, rfl⟩ := strs_slice hs
  obtain ⟨B, d, rfl⟩ := tms_slice ht
  clear hs ht f0 f1 n0 n1
  generalize L.length = gl at *
  generalize xs.length = gn at *
  go_enter Tryz.func8, Tryz.ntmps8
  go_wp2_with fail
  refine KN.out.mono ?_
  rintro e w1 ⟨u, rfl, hu, hg1⟩
  go_wp2_with fail
  go_ret2
  exact ⟨rfl, hg1⟩

theorem specCr_c (va : Value) (L : List ByteArray) (vt : Value) (xs : List Tn) (w : World) (hs : Strs w va L) (ht : Tms w vt xs) (f0 : Fits L) (n0 : L.length ≤ 1048576) (f1 : FitsT xs) (n1 : xs.length ≤ 1048576) :
    Calls Tryz.prog 9 #[va, vt] w (GivesII w (crF L xs)) := by
  have KN := Lib.hid (l26Normal_c va L vt xs w hs ht f0 n0 f1 n1)
  unfold crF
  unfold GivesNo at KN
  generalize nfF L xs = R at *
  obtain ⟨ra, rb, rc⟩ := R
  simp only at KN ⊢
  obtain ⟨A, c, rfl⟩ := strs_slice hs
  obtain ⟨B, d, rfl⟩ := tms_slice ht
  clear hs ht f0 f1 n0 n1
  generalize L.length = gl at *
  generalize xs.length = gn at *
  go_enter Tryz.func9, Tryz.ntmps9
  go_wp2_with fail
  refine KN.out.mono ?_
  rintro e w1 ⟨u, rfl, hu, hg1⟩
  go_wp2_with fail
  go_ret2
  exact ⟨rfl, hg1⟩
end Go.Proofs.YtdndclfjeajhiaaGreat

/- SameNormal of the program. -/
namespace Go.Proofs.YtdndclfjeajhiaaGreat
open Go.RowKit
open Tr (Tm)

set_option maxHeartbeats 1000000 in
theorem implSn_c (va : Value) (L : List ByteArray) (vt : Value) (xs : List Tn) (vu : Value) (ys : List Tn) (w : World) (hs : Strs w va L) (ht : Tms w vt xs) (hu : Tms w vu ys) (f0 : Fits L) (n0 : L.length ≤ 1048576) (f1 : FitsT xs) (n1 : xs.length ≤ 1048576) (f2 : FitsT ys) (n2 : ys.length ≤ 1048576) :
    Calls Tryz.prog 19 #[va, vt, vu] w (GivesBI w (snF L xs ys)) := by
  have KL := fun W (hW : Grew w W) => isAssumptionList_c va L W (hs.grew hW) f0
  have KT := fun W (hW : Grew w W) => isTerm_c vt xs W (ht.grew hW) f1 n1
  have KU := fun W (hW : Grew w W) => isTerm_c vu ys W (hu.grew hW) f2 n2
  have KY := fun (ha : asl L = true) (hb : tmB xs = true) W (hW : Grew w W) => typeOf_c (tmT xs) (tmT_ok hb).1 (by rw [(tmT_ok hb).2.1]; exact (tmT_ok hb).2.2) (L.map fo) (asl_ok ha).2.1 (asl_ok ha).1 va vt W (by rw [(asl_ok ha).2.2]; exact hs.grew hW) (by rw [(tmT_ok hb).2.1]; exact ht.grew hW)
  have KZ := fun (ha : asl L = true) (hb : tmB ys = true) W (hW : Grew w W) => typeOf_c (tmT ys) (tmT_ok hb).1 (by rw [(tmT_ok hb).2.1]; exact (tmT_ok hb).2.2) (L.map fo) (asl_ok ha).2.1 (asl_ok ha).1 va vu W (by rw [(asl_ok ha).2.2]; exact hs.grew hW) (by rw [(tmT_ok hb).2.1]; exact hu.grew hW)
  have KS := Lib.hid (fun W (hW : Grew w W) => sizeS_c va L W (hs.grew hW))
  have KN := fun (ha : asl L = true) (hb : tmB xs = true) W (hW : Grew w W) => normalTerm_c vt (tmT xs) L.length W (by rw [(tmT_ok hb).2.1]; exact ht.grew hW) (tmT_ok hb).1 (by rw [(tmT_ok hb).2.1]; exact (tmT_ok hb).2.2) (by omega) (by have := (asl_map ha).1; omega)
  have KM := fun (ha : asl L = true) (hb : tmB ys = true) W (hW : Grew w W) => normalTerm_c vu (tmT ys) L.length W (by rw [(tmT_ok hb).2.1]; exact hu.grew hW) (tmT_ok hb).1 (by rw [(tmT_ok hb).2.1]; exact (tmT_ok hb).2.2) (by omega) (by have := (asl_map ha).1; omega)
  have HB := fun h => snF_bad (L := L) (xs := xs) (ys := ys) h
  have hx1 := fun h1 h2 => nf_ne1 (L := L) (xs := xs) h1 h2
  have hy1 := fun h1 h2 => nf_ne1 (L := L) (xs := ys) h1 h2
  have hX := nf_cases L xs
  have hY := nf_cases L ys
  obtain ⟨A, c, rfl⟩ := strs_slice hs
  obtain ⟨B, d, rfl⟩ := tms_slice ht
  obtain ⟨C, e, rfl⟩ := tms_slice hu
  clear hs ht hu f0 f1 f2
  have r0 := Grew.refl w
  unfold GivesTy at KY KZ
  unfold GivesNr at KN KM
  unfold GivesBI
  cases hb : tmB xs with
  | false =>
    rw [HB (.inr (.inl hb))]
    rw [hb] at KT
    replace KT := Lib.hid KT
    clear KL KU KN KM KY KZ KS HB hx1 hy1 hX hY hb
    generalize L.length = gl at *
    generalize xs.length = xl at *
    generalize ys.length = yl at *
    go_enter Tryz.func19, Tryz.ntmps19
    go_wp2_with fail
    refine (KT.out _ r0).mono ?_
    rintro e w1 ⟨rfl, hg1⟩
    go_wp2_with fail
    go_ret2
    exact ⟨rfl, hg1⟩
  | true =>
    rw [hb] at KT
    replace KT := Lib.hid KT
    cases hc : tmB ys with
    | false =>
      rw [HB (.inr (.inr hc))]
      rw [hc] at KU
      replace KU := Lib.hid KU
      clear KL KN KM KY KZ KS HB hx1 hy1 hX hY hb hc
      generalize L.length = gl at *
      generalize xs.length = xl at *
      generalize ys.length = yl at *
      go_enter Tryz.func19, Tryz.ntmps19
      go_wp2_with fail
      refine (KT.out _ r0).mono ?_
      rintro e w1 ⟨rfl, hg1⟩
      go_wp2_with fail
      refine (KU.out _ hg1).mono ?_
      rintro e w2 ⟨rfl, hg2⟩
      go_wp2_with fail
      go_ret2
      exact ⟨rfl, hg1.trans hg2⟩
    | true =>
      rw [hc] at KU
      replace KU := Lib.hid KU
      cases ha : asl L with
      | false =>
        rw [HB (.inl ha)]
        rw [ha] at KL
        replace KL := Lib.hid KL
        clear KN KM KY KZ KS HB hx1 hy1 hX hY ha hb hc
        generalize L.length = gl at *
        generalize xs.length = xl at *
        generalize ys.length = yl at *
        go_enter Tryz.func19, Tryz.ntmps19
        go_wp2_with fail
        refine (KT.out _ r0).mono ?_
        rintro e w1 ⟨rfl, hg1⟩
        go_wp2_with fail
        refine (KU.out _ hg1).mono ?_
        rintro e w2 ⟨rfl, hg2⟩
        go_wp2_with fail
        refine (KL.out _ (hg1.trans hg2)).mono ?_
        rintro e w3 ⟨rfl, hg3⟩
        go_wp2_with fail
        go_ret2
        exact ⟨rfl, (hg1.trans hg2).trans hg3⟩
      | true =>
        rw [ha] at KL
        replace KL := Lib.hid KL
        replace hx1 := hx1 ha hb
        replace hy1 := hy1 ha hc
        replace KY := KY ha hb
        replace KZ := KZ ha hc
        replace KN := KN ha hb
        replace KM := KM ha hc
        have hsn : snF L xs ys = if (nfF L xs).2.2 = 5 ∨ (nfF L ys).2.2 = 5 then (false, 5) else if (nfF L xs).2.2 ≠ 0 ∨ (nfF L ys).2.2 ≠ 0 then (false, 3) else (decide ((nfF L xs).1 = (nfF L ys).1), 0) := by
          unfold snF; rw [if_neg (fun h => h.elim hx1 hy1)]
        rw [hsn]
        replace hX := (hX.resolve_left (fun h => by have := h.1; rw [ha, hb] at this; cases this)).2
        replace hY := (hY.resolve_left (fun h => by have := h.1; rw [ha, hc] at this; cases this)).2
        clear HB hsn hx1 hy1 ha hb hc
        generalize ty (L.map fo) (tmT xs) = rx at *
        generalize ty (L.map fo) (tmT ys) = ry at *
        by_cases h5 : (nfF L xs).2.2 = 5 ∨ (nfF L ys).2.2 = 5
        · rw [if_pos h5]
          clear KN KM KS
          generalize L.length = gl at *
          generalize xs.length = xl at *
          generalize ys.length = yl at *
          have hr : rx = none ∨ (∃ A, rx = some A) ∧ ry = none := by
            rcases hX with ⟨h, _⟩ | ⟨A, h, _, h2⟩
            · exact .inl h
            · refine .inr ⟨⟨A, h⟩, ?_⟩
              have hx5 : (nfF L xs).2.2 ≠ 5 := by rcases h2 with h2 | h2 <;> omega
              have hy5 := h5.resolve_left hx5
              rcases hY with ⟨h, _⟩ | ⟨A, _, _, h2⟩
              · exact h
              · rcases h2 with h2 | h2 <;> omega
          clear hX hY h5
          rcases hr with rfl | ⟨⟨A, rfl⟩, rfl⟩
          all_goals
            replace KY := Lib.hid KY
            replace KZ := Lib.hid KZ
            go_enter Tryz.func19, Tryz.ntmps19
            go_wp2_with fail
            refine (KT.out _ r0).mono ?_
            rintro e w1 ⟨rfl, hg1⟩
            go_wp2_with fail
            refine (KU.out _ hg1).mono ?_
            rintro e w2 ⟨rfl, hg2⟩
            have g2 := hg1.trans hg2
            go_wp2_with fail
            refine (KL.out _ g2).mono ?_
            rintro e w3 ⟨rfl, hg3⟩
            have g3 := g2.trans hg3
            go_wp2_with fail
            refine (KY.out _ g3).mono ?_
            rintro e w4 ⟨s4, rfl, _, hg4⟩
            have g4 := g3.trans hg4
            go_wp2_with fail
            refine (KZ.out _ g4).mono ?_
            rintro e w5 ⟨s5, rfl, _, hg5⟩
            have g5 := g4.trans hg5
            go_wp2_with fail
            go_ret2
            exact ⟨rfl, g5⟩
        · rw [if_neg h5]
          rw [not_or] at h5
          obtain ⟨A1, rfl, hxn, hx3⟩ := hX.resolve_left (fun h => h5.1 h.2)
          obtain ⟨A2, rfl, hyn, hy3⟩ := hY.resolve_left (fun h => h5.2 h.2)
          have hxl : (nfF L xs).1.length ≤ 1048576 := nfF_len L xs
          have KE := Lib.hid (fun u v W (h1 : Tms W u (nfF L xs).1) (h2 : Tms W v (nfF L ys).1) => equalT_c u v _ _ W h1 h2 (by omega))
          rw [← hxn] at KN
          rw [← hyn] at KM
          clear hX hY hxn hyn
          generalize nfF L xs = X at *
          generalize nfF L ys = Y at *
          obtain ⟨xa, xb, xc⟩ := X
          obtain ⟨ya, yb, yc⟩ := Y
          simp only at KN KM h5 hx3 hy3 KE ⊢
          have hx4 : xc = 0 ∨ xc = 3 := by rcases hx3 with ⟨h, _⟩ | h; exact .inl h; exact .inr h
          have hy4 : yc = 0 ∨ yc = 3 := by rcases hy3 with ⟨h, _⟩ | h; exact .inl h; exact .inr h
          clear hx3 hy3 hxl
          generalize L.length = gl at *
          generalize xs.length = xl at *
          generalize ys.length = yl at *
          replace KY := Lib.hid KY
          replace KZ := Lib.hid KZ
          replace KN := Lib.hid KN
          replace KM := Lib.hid KM
          clear h5
          have hc3 : (xc = 3) ∨ (xc = 0 ∧ yc = 3) ∨ (xc = 0 ∧ yc = 0) := by omega
          clear hx4 hy4
          rcases hc3 with rfl | ⟨rfl, rfl⟩ | ⟨rfl, rfl⟩
          · rw [if_pos (.inl (by decide))]
            go_enter Tryz.func19, Tryz.ntmps19
            go_wp2_with fail
            refine (KT.out _ r0).mono ?_
            rintro e w1 ⟨rfl, hg1⟩
            go_wp2_with fail
            refine (KU.out _ hg1).mono ?_
            rintro e w2 ⟨rfl, hg2⟩
            have g2 := hg1.trans hg2
            go_wp2_with fail
            refine (KL.out _ g2).mono ?_
            rintro e w3 ⟨rfl, hg3⟩
            have g3 := g2.trans hg3
            go_wp2_with fail
            refine (KY.out _ g3).mono ?_
            rintro e w4 ⟨s4, rfl, _, hg4⟩
            have g4 := g3.trans hg4
            go_wp2_with fail
            refine (KZ.out _ g4).mono ?_
            rintro e w5 ⟨s5, rfl, _, hg5⟩
            have g5 := g4.trans hg5
            go_wp2_with fail
            refine (KS.out _ g5).mono ?_
            rintro e w6 ⟨rfl, hg6⟩
            have g6 := g5.trans hg6
            go_wp2_with fail
            refine (KN.out _ g6).mono ?_
            rintro e w7 ⟨u7, rfl, _, hg7⟩
            have g7 := g6.trans hg7
            go_wp2_with fail
            refine (KS.out _ g7).mono ?_
            rintro e w8 ⟨rfl, hg8⟩
            have g8 := g7.trans hg8
            go_wp2_with fail
            refine (KM.out _ g8).mono ?_
            rintro e w9 ⟨u9, rfl, _, hg9⟩
            have g9 := g8.trans hg9
            go_wp2_with fail
            go_ret2
            exact ⟨rfl, g9⟩
          · rw [if_pos (.inr (by decide))]
            go_enter Tryz.func19, Tryz.ntmps19
            go_wp2_with fail
            refine (KT.out _ r0).mono ?_
            rintro e w1 ⟨rfl, hg1⟩
            go_wp2_with fail
            refine (KU.out _ hg1).mono ?_
            rintro e w2 ⟨rfl, hg2⟩
            have g2 := hg1.trans hg2
            go_wp2_with fail
            refine (KL.out _ g2).mono ?_
            rintro e w3 ⟨rfl, hg3⟩
            have g3 := g2.trans hg3
            go_wp2_with fail
            refine (KY.out _ g3).mono ?_
            rintro e w4 ⟨s4, rfl, _, hg4⟩
            have g4 := g3.trans hg4
            go_wp2_with fail
            refine (KZ.out _ g4).mono ?_
            rintro e w5 ⟨s5, rfl, _, hg5⟩
            have g5 := g4.trans hg5
            go_wp2_with fail
            refine (KS.out _ g5).mono ?_
            rintro e w6 ⟨rfl, hg6⟩
            have g6 := g5.trans hg6
            go_wp2_with fail
            refine (KN.out _ g6).mono ?_
            rintro e w7 ⟨u7, rfl, _, hg7⟩
            have g7 := g6.trans hg7
            go_wp2_with fail
            refine (KS.out _ g7).mono ?_
            rintro e w8 ⟨rfl, hg8⟩
            have g8 := g7.trans hg8
            go_wp2_with fail
            refine (KM.out _ g8).mono ?_
            rintro e w9 ⟨u9, rfl, _, hg9⟩
            have g9 := g8.trans hg9
            go_wp2_with fail
            go_ret2
            exact ⟨rfl, g9⟩
          · rw [if_neg (by decide)]
            go_enter Tryz.func19, Tryz.ntmps19
            go_wp2_with fail
            refine (KT.out _ r0).mono ?_
            rintro e w1 ⟨rfl, hg1⟩
            go_wp2_with fail
            refine (KU.out _ hg1).mono ?_
            rintro e w2 ⟨rfl, hg2⟩
            have g2 := hg1.trans hg2
            go_wp2_with fail
            refine (KL.out _ g2).mono ?_
            rintro e w3 ⟨rfl, hg3⟩
            have g3 := g2.trans hg3
            go_wp2_with fail
            refine (KY.out _ g3).mono ?_
            rintro e w4 ⟨s4, rfl, _, hg4⟩
            have g4 := g3.trans hg4
            go_wp2_with fail
            refine (KZ.out _ g4).mono ?_
            rintro e w5 ⟨s5, rfl, _, hg5⟩
            have g5 := g4.trans hg5
            go_wp2_with fail
            refine (KS.out _ g5).mono ?_
            rintro e w6 ⟨rfl, hg6⟩
            have g6 := g5.trans hg6
            go_wp2_with fail
            refine (KN.out _ g6).mono ?_
            rintro e w7 ⟨u7, rfl, hu7, hg7⟩
            have HU7 := Lib.hid hu7
            clear hu7
            have g7 := g6.trans hg7
            go_wp2_with fail
            refine (KS.out _ g7).mono ?_
            rintro e w8 ⟨rfl, hg8⟩
            have g8 := g7.trans hg8
            go_wp2_with fail
            refine (KM.out _ g8).mono ?_
            rintro e w9 ⟨u9, rfl, hu9, hg9⟩
            have HU9 := Lib.hid hu9
            clear hu9
            have g9 := g8.trans hg9
            go_wp2_with fail
            refine (KE.out _ _ _ (HU7.out.grew (hg8.trans hg9)) HU9.out).mono ?_
            rintro e w10 ⟨rfl, hg10⟩
            go_wp2_with fail
            go_ret2
            exact ⟨rfl, g9.trans hg10⟩
end Go.Proofs.YtdndclfjeajhiaaGreat

/- The bytes that came in: as before in a later world; are they many? -/
namespace Go.Proofs.YtdndclfjeajhiaaGreat
open Go.RowKit

theorem ArgB.grew {w W : World} {v : Value} {N : Nat} (h : ArgB w v N) (hW : Grew w W) : ArgB W v N := by
  obtain ⟨h1, h2, h3⟩ := h
  refine ⟨h1, h2, fun hp => ?_⟩
  obtain ⟨b, o, c, e, hb, hc, hm, hx⟩ := h3 hp
  refine ⟨b, o, c, e, Nat.lt_of_lt_of_le hb hW.size, hc, hm, fun j hj => ?_⟩
  obtain ⟨x, x0, x1, hcell⟩ := hx j hj
  exact ⟨x, x0, x1, (hW.cell (p := ⟨b, o + j, none⟩) hb).trans hcell⟩
theorem big_c (v : Value) (N : Nat) (w : World) (h : ∃ A c, v = .slice A N c) :
    Calls Tryz.prog 4 #[v] w fun e w' => e = .returned (.bool (decide (4096 < N))) ∧ Grew w w' := by
  obtain ⟨A, c, rfl⟩ := h
  by_cases hb : 4096 < N
  · rw [decide_eq_true hb]
    go_enter Tryz.func4, Tryz.ntmps4
    go_wp2_with fail
    go_ret
    exact ⟨by simp; omega, Grew.refl _⟩
  · rw [decide_eq_false hb]
    go_enter Tryz.func4, Tryz.ntmps4
    go_wp2_with fail
    go_ret
    exact ⟨by simp; omega, Grew.refl _⟩
end Go.Proofs.YtdndclfjeajhiaaGreat

/- A cell that is read lies in a block that is there. -/
namespace Go.Proofs.YtdndclfjeajhiaaGreat
open Go.RowKit

theorem cell_lt {w : World} {a : Addr} {u : Value} (h : w.cell? a = some u) : a.block < w.heap.size := by
  unfold World.cell? at h
  split at h
  · rename_i hh
    exact (Array.getElem?_eq_some_iff.1 hh).1
  · cases h

end Go.Proofs.YtdndclfjeajhiaaGreat

/- An argument that is a list of bytes. -/
namespace Go.Proofs.YtdndclfjeajhiaaGreat
open Go.RowKit

theorem argB_of_trod {H : Type} {enc : TypeId × Value → H} {P : Program} {W : World} {sp : Nat → Bool} {held : Bool} {n : Nat} {t e : TypeId} {v : Value} {y : DataW H × List MemPlace}
    (ht : P.underlying t = some (.slice e)) (he : P.underlying e = some (.int .u8)) (hc : P.cellsOf e = 1) (h : DataW.trod enc P W 0 sp held n t [v] = some y) : ∃ N, ArgB W v N := by
  rcases Go.ChangeShapes.open_ints ht he hc h with ⟨hv, _⟩ | ⟨a, len, cap, zs, hv, _, hl, hm, hz, _, hcell, hwf⟩
  · obtain rfl : v = .slice none 0 0 := by simpa using hv
    exact ⟨0, ⟨none, 0, rfl⟩, by omega, fun h => absurd h (by omega)⟩
  · obtain rfl : v = .slice (some a) len cap := by simpa using hv
    have hlm : len ≤ zs.length := by rw [hz]; split <;> omega
    have hmax : maxLen = 9223372036854775807 := by decide
    rw [hmax] at hm
    refine ⟨len, ⟨some a, cap, rfl⟩, by omega, fun hp => ?_⟩
    obtain ⟨b, off, spot⟩ := a
    have h0 := hcell 0 (by omega)
    have hspot : spot = none := by simpa [Addr.add] using World.cell?_spot h0
    subst hspot
    have hb := cell_lt h0
    have hadd : ∀ i, (⟨b, off, none⟩ : Addr).add i = ⟨b, off + i, none⟩ := fun i => by
      unfold Addr.add
      split
      · subst_vars; rfl
      · rfl
    rw [hadd] at hb
    refine ⟨b, off, cap, rfl, hb, hl, hm, fun j hj => ⟨zs.getD j 0, ?_, ?_, ?_⟩⟩
    · have hw := hwf (zs.getD j 0) (by simp [List.getD, show j < zs.length by omega])
      simp [Lit.wf, IntKind.min, IntKind.max, IntKind.signed, IntKind.bits] at hw
      have := hw.1
      simpa [List.getD] using this
    · have hw := hwf (zs.getD j 0) (by simp [List.getD, show j < zs.length by omega])
      simp [Lit.wf, IntKind.min, IntKind.max, IntKind.signed, IntKind.bits] at hw
      have := hw.2
      simp [List.getD] at this ⊢
      omega
    · rw [← hadd]
      exact hcell j (by omega)
end Go.Proofs.YtdndclfjeajhiaaGreat

/- The law FnSubjectReduction, walked (printed by gen/lawsr.py). -/
namespace Go.Proofs.YtdndclfjeajhiaaGreat
open Go.RowKit
open Tr (Tm)

theorem tmB_fits {xs : List Tn} (h : tmB xs = true) : FitsT xs := by
  obtain ⟨g1, g2, _⟩ := tmT_ok h
  have := good_fits g1
  rwa [g2] at this
theorem likeT_yes (v1 v2 : Value) (xs : List Tn) (w : World) (h1 : Tms w v1 xs) (h2 : Tms w v2 xs) (hn : xs.length ≤ 1048576) :
    Calls Tryz.prog 10 #[v1, v2] w fun e w' => e = .returned (.bool true) ∧ Grew w w' := by
  have := likeTerm5_c v1 v2 xs xs w h1 h2 (by omega)
  rwa [decide_eq_true (rfl : xs = xs)] at this
theorem it_mem {R : List Int} {j : Nat} (h : j < R.length) : it R j ∈ R := by rw [← it_get h]; exact List.getElem_mem h

set_option maxHeartbeats 8000000 in
set_option maxRecDepth 20000 in
theorem lawSr_c (v : Value) (N : Nat) (w : World) (h : ArgB w v N) :
    Calls Tryz.prog 3 #[v] w fun e w' => e = .returned (.bool true) ∧ Grew w w' := by
  have HB := big_c v N w h.1
  by_cases hbig : 4096 < N
  · rw [decide_eq_true hbig] at HB
    replace HB := Lib.hid HB
    obtain ⟨⟨A, c, rfl⟩, _⟩ := h
    go_enter Tryz.func3, Tryz.ntmps3
    go_wp2_with fail
    refine HB.out.mono ?_
    rintro e w1 ⟨rfl, hg1⟩
    go_wp2_with fail
    go_ret
    exact ⟨rfl, hg1⟩
  rw [decide_eq_false hbig] at HB
  replace HB := Lib.hid HB
  have HD := Lib.hid (fun W (hW : Grew w W) => drawSr_c v N W (h.grew hW) (by omega))
  obtain ⟨⟨A, c, rfl⟩, _⟩ := h
  go_enter Tryz.func3, Tryz.ntmps3
  go_wp2_with fail
  refine HB.out.mono ?_
  rintro e w1 ⟨rfl, hg1⟩
  go_wp2_with fail
  refine (HD.out _ hg1).mono ?_
  rintro e w2 ⟨va, L, vt, xs, rfl, hs, fL, nL, ht, fX, nX, hg2⟩
  have g2 := hg1.trans hg2
  clear HB HD hbig
  obtain ⟨AL, cL, rfl⟩ := strs_slice hs
  obtain ⟨AT, cT, rfl⟩ := tms_slice ht
  obtain ⟨ys, cn, cd, hnf⟩ : ∃ a b c, nfF L xs = (a, b, c) := ⟨_, _, _, rfl⟩
  have hnt : ntF L xs = (ys, cd) := by unfold ntF; rw [hnf]
  have hcr : crF L xs = (cn, cd) := by unfold crF; rw [hnf]
  have hyn : ys.length ≤ 1048576 := by have := ntF_len L xs; rw [hnt] at this; exact this
  have KNi := fun W (hW : Grew w2 W) => implNt_c _ L _ xs W (hs.grew hW) (ht.grew hW) fL (by omega) fX (by omega)
  have KNs := fun W (hW : Grew w2 W) => specNt_c _ L _ xs W (hs.grew hW) (ht.grew hW) fL (by omega) fX (by omega)
  have KCi := fun W (hW : Grew w2 W) => implCr_c _ L _ xs W (hs.grew hW) (ht.grew hW) fL (by omega) fX (by omega)
  have KCs := fun W (hW : Grew w2 W) => specCr_c _ L _ xs W (hs.grew hW) (ht.grew hW) fL (by omega) fX (by omega)
  rw [hnt] at KNi KNs
  rw [hcr] at KCi KCs
  unfold GivesT2 at KNi KNs
  unfold GivesII at KCi KCs
  have r2 := Grew.refl w2
  replace KNi := Lib.hid KNi
  replace KNs := Lib.hid KNs
  replace KCi := Lib.hid KCi
  replace KCs := Lib.hid KCs
  have HS := Lib.hid (fun W (hW : Grew w2 W) => hs.grew hW)
  have HT := Lib.hid (fun W (hW : Grew w2 W) => ht.grew hW)
  have HfL := Lib.hid fL
  have HfX := Lib.hid fX
  clear hs ht fL fX hnt hcr
  go_wp2_with fail
  refine (KNi.out _ r2).mono ?_
  rintro e w3 ⟨v3, rfl, ho3, hg3⟩
  obtain ⟨A3, c3, rfl⟩ := tms_slice ho3.tms
  have H3 := Lib.hid ho3.tms
  clear ho3
  go_wp2_with fail
  refine (KNs.out _ hg3).mono ?_
  rintro e w4 ⟨v4, rfl, ho4, hg4⟩
  obtain ⟨A4, c4, rfl⟩ := tms_slice ho4.tms
  have H4 := Lib.hid ho4.tms
  have H3' := Lib.hid (H3.out.grew hg4)
  have g4 := hg3.trans hg4
  clear ho4 hg3 hg4 H3
  go_wp2_with fail
  refine (KCi.out _ g4).mono ?_
  rintro e w5 ⟨rfl, hg5⟩
  go_wp2_with fail
  refine (KCs.out _ (g4.trans hg5)).mono ?_
  rintro e w6 ⟨rfl, hg6⟩
  have g6 := (g4.trans hg5).trans hg6
  have H5 := Lib.hid (H3'.out.grew (hg5.trans hg6))
  have H6 := Lib.hid (H4.out.grew (hg5.trans hg6))
  clear H3' H4 hg5 hg6 g4 KNi KNs KCi KCs
  go_wp2_with fail
  refine (likeT_yes _ _ ys _ H5.out H6.out hyn).mono ?_
  rintro e w7 ⟨rfl, hg7⟩
  have g7 := g6.trans hg7
  have H7 := Lib.hid (H6.out.grew hg7)
  clear H5 H6 hg7 g6
  by_cases hcd : cd = 0
  case neg =>
    clear H7 HS HT
    go_wp2_with fail
    go_ret
    exact ⟨by simp, g2.trans g7⟩
  subst hcd
  obtain ⟨s, hok⟩ := sr_ok (L := L) (xs := xs) (by rw [hnf])
  rw [hnf] at hok
  obtain ⟨tb, ll, tt, yb, yt, yr, xr, cz, each⟩ := hok
  simp only at yb yt yr cz
  have hRl : (redL xs xs.length).length ≤ 1048576 := by have := redF_len xs (by omega); rw [xr] at this; exact this
  generalize redL xs xs.length = R at *
  have fY := tmB_fits yb
  have KTi := fun W (hW : Grew w7 W) => implTyp_c _ L _ xs W (HS.out _ (g7.trans hW)) (HT.out _ (g7.trans hW)) HfL.out (by omega) HfX.out (by omega)
  have KTs := fun W (hW : Grew w7 W) => specTyp_c _ L _ xs W (HS.out _ (g7.trans hW)) (HT.out _ (g7.trans hW)) HfL.out (by omega) HfX.out (by omega)
  have KTn := fun W (hW : Grew w7 W) => implTyp_c _ L _ ys W (HS.out _ (g7.trans hW)) (H7.out.grew hW) HfL.out (by omega) fY hyn
  have KRn := fun W (hW : Grew w7 W) => implRed_c _ ys W (H7.out.grew hW) fY hyn
  have KRi := fun W (hW : Grew w7 W) => implRed_c _ xs W (HT.out _ (g7.trans hW)) HfX.out (by omega)
  have KRs := fun W (hW : Grew w7 W) => specRed_c _ xs W (HT.out _ (g7.trans hW)) HfX.out (by omega)
  have KRo := Lib.hid (fun W (hW : Grew w7 W) => room26_c _ ys L.length (by omega) yb W (H7.out.grew hW))
  obtain ⟨tn, tc, hty⟩ : ∃ a b, ttF L ys = (a, b) := ⟨_, _, rfl⟩
  rw [hty] at KTn yt
  rw [tt] at KTi KTs
  rw [yr] at KRn
  rw [xr] at KRi KRs
  unfold GivesSI at KTi KTs KTn
  unfold GivesI2 at KRn KRi KRs
  simp only at KTi KTs KTn KRn KRi KRs
  replace KTi := Lib.hid KTi
  replace KTs := Lib.hid KTs
  replace KTn := Lib.hid KTn
  replace KRn := Lib.hid KRn
  replace KRi := Lib.hid KRi
  replace KRs := Lib.hid KRs
  have KXi := Lib.hid (fun i W (hW : Grew w7 W) => implCt_c _ xs L.length i W (HT.out _ (g7.trans hW)) HfX.out (by omega))
  have KXs := Lib.hid (fun i W (hW : Grew w7 W) => specCt_c _ xs L.length i W (HT.out _ (g7.trans hW)) HfX.out (by omega))
  have KU := Lib.hid (fun vu us W (hW : Grew w7 W) (hu : Tms W vu us) (f : FitsT us) (n : us.length ≤ 1048576) => implTyp_c _ L vu us W (HS.out _ (g7.trans hW)) hu HfL.out (by omega) f n)
  have KM := Lib.hid (fun vu us W (hW : Grew w7 W) (hu : Tms W vu us) (f : FitsT us) (n : us.length ≤ 1048576) => implSn_c _ L _ xs vu us W (HS.out _ (g7.trans hW)) (HT.out _ (g7.trans hW)) hu HfL.out (by omega) HfX.out (by omega) f n)
  have KO := Lib.hid (fun vu us W (hu : Tms W vu us) (hb : tmB us = true) => room26_c vu us L.length (by omega) hb W hu)
  have HE := Lib.hid each
  have hctn := Lib.hid (fun i => ctF_len xs L.length i)
  have gg := g2.trans g7
  have r7 := Grew.refl w7
  clear HS HT HfL HfX tb tt yb yr xr each fY hty g7 g2 hnf r2 H7
  go_wp2_with fail
  refine (KTi.out _ r7).mono ?_
  rintro e w8 ⟨rfl, hg8⟩
  go_wp2_with fail
  refine (KTs.out _ hg8).mono ?_
  rintro e w9 ⟨rfl, hg9⟩
  have g9 := hg8.trans hg9
  clear KTi KTs hg8 hg9
  go_wp2_with fail
  refine (KTn.out _ g9).mono ?_
  rintro e wa ⟨rfl, hga⟩
  have ga := g9.trans hga
  clear KTn g9 hga
  go_wp2_with fail
  refine (KRn.out _ ga).mono ?_
  rintro e wb ⟨vb, rfl, hob, hgb⟩
  obtain ⟨Ab, cb, rfl⟩ := ints_slice hob.ints
  simp only [List.length_nil]
  have gb := ga.trans hgb
  clear KRn ga hgb hob
  go_wp2_with fail
  refine (KRi.out _ gb).mono ?_
  rintro e wc ⟨vc, rfl, hoc, hgc⟩
  obtain ⟨Ac, cc, rfl⟩ := ints_slice hoc.ints
  have HC1 := Lib.hid hoc.ints
  have gc := gb.trans hgc
  clear KRi gb hgc hoc
  go_wp2_with fail
  refine (KRs.out _ gc).mono ?_
  rintro e wd ⟨vd, rfl, hod, hgd⟩
  obtain ⟨Ad, cd, rfl⟩ := ints_slice hod.ints
  have HC2 := Lib.hid (HC1.out.grew hgd)
  have HR2 := Lib.hid hod.ints
  have gd := gc.trans hgd
  clear KRs gc hgd hod HC1
  go_wp2_with fail
  refine (KRo.out _ gd).mono ?_
  rintro e we ⟨rfl, hge⟩
  have HC := Lib.hid (HC2.out.grew hge)
  have HR := Lib.hid (HR2.out.grew hge)
  have ge := gd.trans hge
  clear KRo gd hge HC2 HR2
  have hvar : (tn = s ∧ tc = 0 ∧ ∃ q : Bool, decide (L.length + dp (tmT ys) ≤ 12) = q) ∨ (tn = ByteArray.empty ∧ tc = 5 ∧ decide (L.length + dp (tmT ys) ≤ 12) = false) := by
    rcases yt with h | ⟨h1, h2⟩
    · simp only [Prod.mk.injEq] at h
      exact .inl ⟨h.1, h.2, _, rfl⟩
    · simp only [Prod.mk.injEq] at h2
      exact .inr ⟨h2.1, h2.2, decide_eq_false (by omega)⟩
  have hcase : (cn = 0 ∧ R.length = 0) ∨ ((cn == 0) = false ∧ ((R.length : Int) == 0) = false) := by
    cases hq : decide (R.length = 0) with
    | true =>
      rw [hq] at cz
      exact .inl ⟨by simpa using cz, of_decide_eq_true hq⟩
    | false =>
      rw [hq] at cz
      exact .inr ⟨cz, by simpa using of_decide_eq_false hq⟩
  clear yt cz
  rcases hvar with ⟨rfl, rfl, q, hq⟩ | ⟨rfl, rfl, hq⟩
  · cases q with
    | true =>
      as_aux_lemma =>
        rw [hq]
        clear hq
        rcases hcase with ⟨rfl, hR0⟩ | ⟨hz1, hz2⟩
        · obtain rfl : R = [] := List.eq_nil_of_length_eq_zero hR0
          clear KXi KXs KU KM KO HE hctn
          simp only [List.length_nil]
          go_wp2_with fail
          refine (likeInts_yes _ _ [] _ HC.out HR.out (by simp)).mono ?_
          rintro e wf ⟨rfl, hgf⟩
          go_wp2_with fail
          refine wp_loop_rounds 1 ?_; rw [rounds_succ]
          go_wp2_with fail
          go_ret
          exact ⟨rfl, gg.trans (ge.trans hgf)⟩
        · go_wp2_with fail
          refine (likeInts_yes _ _ R _ HC.out HR.out (by omega)).mono ?_
          rintro e wf ⟨rfl, hgf⟩
          rcases HR.out.open_ with ⟨_, hR0⟩ | ⟨b, o, c, hv, hc, hm, hb, hf⟩
          · rw [hR0] at hz2; simp at hz2
          simp only [Value.slice.injEq] at hv
          obtain ⟨rfl, -, rfl⟩ := hv
          have HF := Lib.hid (fun i hi W (hW : Grew wf W) => hf i hi W (hgf.trans hW))
          clear hf HC HR
          generalize hN : R.length = n at *
          go_wp2_with fail
          go_loopw [25] (fun i wr => ∃ j : Nat, j ≤ n ∧ i = .int .i64 j ∧ Grew wf wr) (fun i _ => n - (intOf i).toNat)
          case atStart => exact ⟨0, Nat.zero_le _, rfl, Grew.refl _⟩
          case round =>
            obtain ⟨j, hj, rfl, hB⟩ := hrel
            by_cases hlt : j < n
            · have k1 := HF.out j hlt _ hB
              have HQ := Lib.hid (fun W (hW : Grew wr W) => HF.out j hlt W (hB.trans hW))
              have hz := HE.out (it R j) (it_mem (by rw [hN]; exact hlt))
              have gr := ge.trans (hgf.trans hB)
              generalize it R j = z at *
              clear HF HE
              unfold SrEach at hz
              rcases hz with ⟨h3, h1⟩ | ⟨us, hct, hub, ⟨htt, hsn | hsn⟩ | ⟨hroom0, htt, hsn⟩⟩
              · as_aux_lemma =>
                  have hct : ctF xs L.length z = ([], 3) := Prod.ext h1 h3
                  have KX := KXi.out z wr gr
                  have KY := fun W (hW : Grew wr W) => KXs.out z W (gr.trans hW)
                  unfold GivesT2 at KX KY
                  rw [hct] at KX KY
                  replace KX := Lib.hid KX
                  replace KY := Lib.hid KY
                  clear KXi KXs KU KM KO hct h1 h3
                  have rr := Grew.refl wr
                  go_wp2_with fail
                  refine KX.out.mono ?_
                  rintro e x1 ⟨u1, rfl, hx1, hh1⟩
                  have k2 := HQ.out _ hh1
                  obtain ⟨B1, d1, rfl⟩ := tms_slice hx1.tms
                  have X1 := Lib.hid hx1.tms
                  clear hx1
                  go_wp2_with fail
                  refine (KY.out _ hh1).mono ?_
                  rintro e x2 ⟨u2, rfl, hx2, hh2⟩
                  obtain ⟨B2, d2, rfl⟩ := tms_slice hx2.tms
                  have X2 := Lib.hid hx2.tms
                  have X1' := Lib.hid (X1.out.grew hh2)
                  clear hx2 X1
                  go_wp2_with fail
                  refine (likeT_yes _ _ [] _ X1'.out X2.out (by simp)).mono ?_
                  rintro e x3 ⟨rfl, hh3⟩
                  clear X1' X2
                  go_wp2_with fail
                  go_roundw
                  case rel => exact ⟨j + 1, by omega, by go_num, hB.trans ((hh1.trans hh2).trans hh3)⟩
                  case measure => simp [intOf]; omega
              · cases hroom : decide (L.length + dp (tmT us) ≤ 12) with
                | true =>
                  as_aux_lemma =>
                    have KX := KXi.out z wr gr
                    have KY := fun W (hW : Grew wr W) => KXs.out z W (gr.trans hW)
                    unfold GivesT2 at KX KY
                    rw [hct] at KX KY
                    have hun : us.length ≤ 1048576 := by have := hctn.out z; rw [hct] at this; exact this
                    have fU := tmB_fits hub
                    have KA := fun vu W (hW : Grew wr W) (hu : Tms W vu us) => KU.out vu us W (gr.trans hW) hu fU hun
                    have KB := fun vu W (hW : Grew wr W) (hu : Tms W vu us) => KM.out vu us W (gr.trans hW) hu fU hun
                    have KC := Lib.hid (fun vu W (hu : Tms W vu us) => KO.out vu us W hu hub)
                    rw [htt] at KA
                    rw [hsn] at KB
                    unfold GivesSI at KA
                    unfold GivesBI at KB
                    simp only at KX KY KA KB
                    replace KX := Lib.hid KX
                    replace KY := Lib.hid KY
                    replace KA := Lib.hid KA
                    replace KB := Lib.hid KB
                    clear KXi KXs KU KM KO hct htt hsn fU hub hctn
                    have rr := Grew.refl wr
                    go_wp2_with fail
                    refine KX.out.mono ?_
                    rintro e x1 ⟨u1, rfl, hx1, hh1⟩
                    have k2 := HQ.out _ hh1
                    obtain ⟨B1, d1, rfl⟩ := tms_slice hx1.tms
                    have X1 := Lib.hid hx1.tms
                    clear hx1
                    go_wp2_with fail
                    refine (KY.out _ hh1).mono ?_
                    rintro e x2 ⟨u2, rfl, hx2, hh2⟩
                    obtain ⟨B2, d2, rfl⟩ := tms_slice hx2.tms
                    have X2 := Lib.hid hx2.tms
                    have X1' := Lib.hid (X1.out.grew hh2)
                    clear hx2 X1
                    go_wp2_with fail
                    refine (likeT_yes _ _ us _ X1'.out X2.out hun).mono ?_
                    rintro e x3 ⟨rfl, hh3⟩
                    have X3 := Lib.hid (X2.out.grew hh3)
                    have k3 := (hh1.trans hh2).trans hh3
                    clear X1' X2 hh1 hh2 hh3
                    go_wp2_with fail
                    refine (KA.out _ _ k3 X3.out).mono ?_
                    rintro e x4 ⟨rfl, hh4⟩
                    have X4 := Lib.hid (X3.out.grew hh4)
                    have k4 := k3.trans hh4
                    clear X3 hh4 k3
                    go_wp2_with fail
                    refine (KB.out _ _ k4 X4.out).mono ?_
                    rintro e x5 ⟨rfl, hh5⟩
                    have X5 := Lib.hid (X4.out.grew hh5)
                    have k5 := k4.trans hh5
                    clear X4 hh5 k4
                    go_wp2_with fail
                    refine (KC.out _ _ X5.out).mono ?_
                    rintro e x6 ⟨rfl, hh6⟩
                    have k6 := k5.trans hh6
                    clear X5 hh6 k5 KX KY KA KB KC
                    rw [hroom]
                    clear hroom
                    go_wp2_with fail
                    go_roundw
                    case rel => exact ⟨j + 1, by omega, by go_num, hB.trans k6⟩
                    case measure => simp [intOf]; omega
                | false =>
                  as_aux_lemma =>
                    have KX := KXi.out z wr gr
                    have KY := fun W (hW : Grew wr W) => KXs.out z W (gr.trans hW)
                    unfold GivesT2 at KX KY
                    rw [hct] at KX KY
                    have hun : us.length ≤ 1048576 := by have := hctn.out z; rw [hct] at this; exact this
                    have fU := tmB_fits hub
                    have KA := fun vu W (hW : Grew wr W) (hu : Tms W vu us) => KU.out vu us W (gr.trans hW) hu fU hun
                    have KB := fun vu W (hW : Grew wr W) (hu : Tms W vu us) => KM.out vu us W (gr.trans hW) hu fU hun
                    have KC := Lib.hid (fun vu W (hu : Tms W vu us) => KO.out vu us W hu hub)
                    rw [htt] at KA
                    rw [hsn] at KB
                    unfold GivesSI at KA
                    unfold GivesBI at KB
                    simp only at KX KY KA KB
                    replace KX := Lib.hid KX
                    replace KY := Lib.hid KY
                    replace KA := Lib.hid KA
                    replace KB := Lib.hid KB
                    clear KXi KXs KU KM KO hct htt hsn fU hub hctn
                    have rr := Grew.refl wr
                    go_wp2_with fail
                    refine KX.out.mono ?_
                    rintro e x1 ⟨u1, rfl, hx1, hh1⟩
                    have k2 := HQ.out _ hh1
                    obtain ⟨B1, d1, rfl⟩ := tms_slice hx1.tms
                    have X1 := Lib.hid hx1.tms
                    clear hx1
                    go_wp2_with fail
                    refine (KY.out _ hh1).mono ?_
                    rintro e x2 ⟨u2, rfl, hx2, hh2⟩
                    obtain ⟨B2, d2, rfl⟩ := tms_slice hx2.tms
                    have X2 := Lib.hid hx2.tms
                    have X1' := Lib.hid (X1.out.grew hh2)
                    clear hx2 X1
                    go_wp2_with fail
                    refine (likeT_yes _ _ us _ X1'.out X2.out hun).mono ?_
                    rintro e x3 ⟨rfl, hh3⟩
                    have X3 := Lib.hid (X2.out.grew hh3)
                    have k3 := (hh1.trans hh2).trans hh3
                    clear X1' X2 hh1 hh2 hh3
                    go_wp2_with fail
                    refine (KA.out _ _ k3 X3.out).mono ?_
                    rintro e x4 ⟨rfl, hh4⟩
                    have X4 := Lib.hid (X3.out.grew hh4)
                    have k4 := k3.trans hh4
                    clear X3 hh4 k3
                    go_wp2_with fail
                    refine (KB.out _ _ k4 X4.out).mono ?_
                    rintro e x5 ⟨rfl, hh5⟩
                    have X5 := Lib.hid (X4.out.grew hh5)
                    have k5 := k4.trans hh5
                    clear X4 hh5 k4
                    go_wp2_with fail
                    refine (KC.out _ _ X5.out).mono ?_
                    rintro e x6 ⟨rfl, hh6⟩
                    have k6 := k5.trans hh6
                    clear X5 hh6 k5 KX KY KA KB KC
                    rw [hroom]
                    clear hroom
                    go_wp2_with fail
                    go_roundw
                    case rel => exact ⟨j + 1, by omega, by go_num, hB.trans k6⟩
                    case measure => simp [intOf]; omega
              · cases hroom : decide (L.length + dp (tmT us) ≤ 12) with
                | true =>
                  as_aux_lemma =>
                    have KX := KXi.out z wr gr
                    have KY := fun W (hW : Grew wr W) => KXs.out z W (gr.trans hW)
                    unfold GivesT2 at KX KY
                    rw [hct] at KX KY
                    have hun : us.length ≤ 1048576 := by have := hctn.out z; rw [hct] at this; exact this
                    have fU := tmB_fits hub
                    have KA := fun vu W (hW : Grew wr W) (hu : Tms W vu us) => KU.out vu us W (gr.trans hW) hu fU hun
                    have KB := fun vu W (hW : Grew wr W) (hu : Tms W vu us) => KM.out vu us W (gr.trans hW) hu fU hun
                    have KC := Lib.hid (fun vu W (hu : Tms W vu us) => KO.out vu us W hu hub)
                    rw [htt] at KA
                    rw [hsn] at KB
                    unfold GivesSI at KA
                    unfold GivesBI at KB
                    simp only at KX KY KA KB
                    replace KX := Lib.hid KX
                    replace KY := Lib.hid KY
                    replace KA := Lib.hid KA
                    replace KB := Lib.hid KB
                    clear KXi KXs KU KM KO hct htt hsn fU hub hctn
                    have rr := Grew.refl wr
                    go_wp2_with fail
                    refine KX.out.mono ?_
                    rintro e x1 ⟨u1, rfl, hx1, hh1⟩
                    have k2 := HQ.out _ hh1
                    obtain ⟨B1, d1, rfl⟩ := tms_slice hx1.tms
                    have X1 := Lib.hid hx1.tms
                    clear hx1
                    go_wp2_with fail
                    refine (KY.out _ hh1).mono ?_
                    rintro e x2 ⟨u2, rfl, hx2, hh2⟩
                    obtain ⟨B2, d2, rfl⟩ := tms_slice hx2.tms
                    have X2 := Lib.hid hx2.tms
                    have X1' := Lib.hid (X1.out.grew hh2)
                    clear hx2 X1
                    go_wp2_with fail
                    refine (likeT_yes _ _ us _ X1'.out X2.out hun).mono ?_
                    rintro e x3 ⟨rfl, hh3⟩
                    have X3 := Lib.hid (X2.out.grew hh3)
                    have k3 := (hh1.trans hh2).trans hh3
                    clear X1' X2 hh1 hh2 hh3
                    go_wp2_with fail
                    refine (KA.out _ _ k3 X3.out).mono ?_
                    rintro e x4 ⟨rfl, hh4⟩
                    have X4 := Lib.hid (X3.out.grew hh4)
                    have k4 := k3.trans hh4
                    clear X3 hh4 k3
                    go_wp2_with fail
                    refine (KB.out _ _ k4 X4.out).mono ?_
                    rintro e x5 ⟨rfl, hh5⟩
                    have X5 := Lib.hid (X4.out.grew hh5)
                    have k5 := k4.trans hh5
                    clear X4 hh5 k4
                    go_wp2_with fail
                    refine (KC.out _ _ X5.out).mono ?_
                    rintro e x6 ⟨rfl, hh6⟩
                    have k6 := k5.trans hh6
                    clear X5 hh6 k5 KX KY KA KB KC
                    rw [hroom]
                    clear hroom
                    go_wp2_with fail
                    go_roundw
                    case rel => exact ⟨j + 1, by omega, by go_num, hB.trans k6⟩
                    case measure => simp [intOf]; omega
                | false =>
                  as_aux_lemma =>
                    have KX := KXi.out z wr gr
                    have KY := fun W (hW : Grew wr W) => KXs.out z W (gr.trans hW)
                    unfold GivesT2 at KX KY
                    rw [hct] at KX KY
                    have hun : us.length ≤ 1048576 := by have := hctn.out z; rw [hct] at this; exact this
                    have fU := tmB_fits hub
                    have KA := fun vu W (hW : Grew wr W) (hu : Tms W vu us) => KU.out vu us W (gr.trans hW) hu fU hun
                    have KB := fun vu W (hW : Grew wr W) (hu : Tms W vu us) => KM.out vu us W (gr.trans hW) hu fU hun
                    have KC := Lib.hid (fun vu W (hu : Tms W vu us) => KO.out vu us W hu hub)
                    rw [htt] at KA
                    rw [hsn] at KB
                    unfold GivesSI at KA
                    unfold GivesBI at KB
                    simp only at KX KY KA KB
                    replace KX := Lib.hid KX
                    replace KY := Lib.hid KY
                    replace KA := Lib.hid KA
                    replace KB := Lib.hid KB
                    clear KXi KXs KU KM KO hct htt hsn fU hub hctn
                    have rr := Grew.refl wr
                    go_wp2_with fail
                    refine KX.out.mono ?_
                    rintro e x1 ⟨u1, rfl, hx1, hh1⟩
                    have k2 := HQ.out _ hh1
                    obtain ⟨B1, d1, rfl⟩ := tms_slice hx1.tms
                    have X1 := Lib.hid hx1.tms
                    clear hx1
                    go_wp2_with fail
                    refine (KY.out _ hh1).mono ?_
                    rintro e x2 ⟨u2, rfl, hx2, hh2⟩
                    obtain ⟨B2, d2, rfl⟩ := tms_slice hx2.tms
                    have X2 := Lib.hid hx2.tms
                    have X1' := Lib.hid (X1.out.grew hh2)
                    clear hx2 X1
                    go_wp2_with fail
                    refine (likeT_yes _ _ us _ X1'.out X2.out hun).mono ?_
                    rintro e x3 ⟨rfl, hh3⟩
                    have X3 := Lib.hid (X2.out.grew hh3)
                    have k3 := (hh1.trans hh2).trans hh3
                    clear X1' X2 hh1 hh2 hh3
                    go_wp2_with fail
                    refine (KA.out _ _ k3 X3.out).mono ?_
                    rintro e x4 ⟨rfl, hh4⟩
                    have X4 := Lib.hid (X3.out.grew hh4)
                    have k4 := k3.trans hh4
                    clear X3 hh4 k3
                    go_wp2_with fail
                    refine (KB.out _ _ k4 X4.out).mono ?_
                    rintro e x5 ⟨rfl, hh5⟩
                    have X5 := Lib.hid (X4.out.grew hh5)
                    have k5 := k4.trans hh5
                    clear X4 hh5 k4
                    go_wp2_with fail
                    refine (KC.out _ _ X5.out).mono ?_
                    rintro e x6 ⟨rfl, hh6⟩
                    have k6 := k5.trans hh6
                    clear X5 hh6 k5 KX KY KA KB KC
                    rw [hroom]
                    clear hroom
                    go_wp2_with fail
                    go_roundw
                    case rel => exact ⟨j + 1, by omega, by go_num, hB.trans k6⟩
                    case measure => simp [intOf]; omega
              · have hroom : decide (L.length + dp (tmT us) ≤ 12) = false := decide_eq_false (by omega)
                as_aux_lemma =>
                  have KX := KXi.out z wr gr
                  have KY := fun W (hW : Grew wr W) => KXs.out z W (gr.trans hW)
                  unfold GivesT2 at KX KY
                  rw [hct] at KX KY
                  have hun : us.length ≤ 1048576 := by have := hctn.out z; rw [hct] at this; exact this
                  have fU := tmB_fits hub
                  have KA := fun vu W (hW : Grew wr W) (hu : Tms W vu us) => KU.out vu us W (gr.trans hW) hu fU hun
                  have KB := fun vu W (hW : Grew wr W) (hu : Tms W vu us) => KM.out vu us W (gr.trans hW) hu fU hun
                  have KC := Lib.hid (fun vu W (hu : Tms W vu us) => KO.out vu us W hu hub)
                  rw [htt] at KA
                  rw [hsn] at KB
                  unfold GivesSI at KA
                  unfold GivesBI at KB
                  simp only at KX KY KA KB
                  replace KX := Lib.hid KX
                  replace KY := Lib.hid KY
                  replace KA := Lib.hid KA
                  replace KB := Lib.hid KB
                  clear KXi KXs KU KM KO hct htt hsn fU hub hctn
                  have rr := Grew.refl wr
                  go_wp2_with fail
                  refine KX.out.mono ?_
                  rintro e x1 ⟨u1, rfl, hx1, hh1⟩
                  have k2 := HQ.out _ hh1
                  obtain ⟨B1, d1, rfl⟩ := tms_slice hx1.tms
                  have X1 := Lib.hid hx1.tms
                  clear hx1
                  go_wp2_with fail
                  refine (KY.out _ hh1).mono ?_
                  rintro e x2 ⟨u2, rfl, hx2, hh2⟩
                  obtain ⟨B2, d2, rfl⟩ := tms_slice hx2.tms
                  have X2 := Lib.hid hx2.tms
                  have X1' := Lib.hid (X1.out.grew hh2)
                  clear hx2 X1
                  go_wp2_with fail
                  refine (likeT_yes _ _ us _ X1'.out X2.out hun).mono ?_
                  rintro e x3 ⟨rfl, hh3⟩
                  have X3 := Lib.hid (X2.out.grew hh3)
                  have k3 := (hh1.trans hh2).trans hh3
                  clear X1' X2 hh1 hh2 hh3
                  go_wp2_with fail
                  refine (KA.out _ _ k3 X3.out).mono ?_
                  rintro e x4 ⟨rfl, hh4⟩
                  have X4 := Lib.hid (X3.out.grew hh4)
                  have k4 := k3.trans hh4
                  clear X3 hh4 k3
                  go_wp2_with fail
                  refine (KB.out _ _ k4 X4.out).mono ?_
                  rintro e x5 ⟨rfl, hh5⟩
                  have X5 := Lib.hid (X4.out.grew hh5)
                  have k5 := k4.trans hh5
                  clear X4 hh5 k4
                  go_wp2_with fail
                  refine (KC.out _ _ X5.out).mono ?_
                  rintro e x6 ⟨rfl, hh6⟩
                  have k6 := k5.trans hh6
                  clear X5 hh6 k5 KX KY KA KB KC
                  rw [hroom]
                  clear hroom
                  go_wp2_with fail
                  go_roundw
                  case rel => exact ⟨j + 1, by omega, by go_num, hB.trans k6⟩
                  case measure => simp [intOf]; omega
            · go_wp2_with fail
              go_ret
              exact ⟨rfl, gg.trans (ge.trans (hgf.trans hB))⟩
    | false =>
      as_aux_lemma =>
        rw [hq]
        clear hq
        rcases hcase with ⟨rfl, hR0⟩ | ⟨hz1, hz2⟩
        · obtain rfl : R = [] := List.eq_nil_of_length_eq_zero hR0
          clear KXi KXs KU KM KO HE hctn
          simp only [List.length_nil]
          go_wp2_with fail
          refine (likeInts_yes _ _ [] _ HC.out HR.out (by simp)).mono ?_
          rintro e wf ⟨rfl, hgf⟩
          go_wp2_with fail
          refine wp_loop_rounds 1 ?_; rw [rounds_succ]
          go_wp2_with fail
          go_ret
          exact ⟨rfl, gg.trans (ge.trans hgf)⟩
        · go_wp2_with fail
          refine (likeInts_yes _ _ R _ HC.out HR.out (by omega)).mono ?_
          rintro e wf ⟨rfl, hgf⟩
          rcases HR.out.open_ with ⟨_, hR0⟩ | ⟨b, o, c, hv, hc, hm, hb, hf⟩
          · rw [hR0] at hz2; simp at hz2
          simp only [Value.slice.injEq] at hv
          obtain ⟨rfl, -, rfl⟩ := hv
          have HF := Lib.hid (fun i hi W (hW : Grew wf W) => hf i hi W (hgf.trans hW))
          clear hf HC HR
          generalize hN : R.length = n at *
          go_wp2_with fail
          go_loopw [25] (fun i wr => ∃ j : Nat, j ≤ n ∧ i = .int .i64 j ∧ Grew wf wr) (fun i _ => n - (intOf i).toNat)
          case atStart => exact ⟨0, Nat.zero_le _, rfl, Grew.refl _⟩
          case round =>
            obtain ⟨j, hj, rfl, hB⟩ := hrel
            by_cases hlt : j < n
            · have k1 := HF.out j hlt _ hB
              have HQ := Lib.hid (fun W (hW : Grew wr W) => HF.out j hlt W (hB.trans hW))
              have hz := HE.out (it R j) (it_mem (by rw [hN]; exact hlt))
              have gr := ge.trans (hgf.trans hB)
              generalize it R j = z at *
              clear HF HE
              unfold SrEach at hz
              rcases hz with ⟨h3, h1⟩ | ⟨us, hct, hub, ⟨htt, hsn | hsn⟩ | ⟨hroom0, htt, hsn⟩⟩
              · as_aux_lemma =>
                  have hct : ctF xs L.length z = ([], 3) := Prod.ext h1 h3
                  have KX := KXi.out z wr gr
                  have KY := fun W (hW : Grew wr W) => KXs.out z W (gr.trans hW)
                  unfold GivesT2 at KX KY
                  rw [hct] at KX KY
                  replace KX := Lib.hid KX
                  replace KY := Lib.hid KY
                  clear KXi KXs KU KM KO hct h1 h3
                  have rr := Grew.refl wr
                  go_wp2_with fail
                  refine KX.out.mono ?_
                  rintro e x1 ⟨u1, rfl, hx1, hh1⟩
                  have k2 := HQ.out _ hh1
                  obtain ⟨B1, d1, rfl⟩ := tms_slice hx1.tms
                  have X1 := Lib.hid hx1.tms
                  clear hx1
                  go_wp2_with fail
                  refine (KY.out _ hh1).mono ?_
                  rintro e x2 ⟨u2, rfl, hx2, hh2⟩
                  obtain ⟨B2, d2, rfl⟩ := tms_slice hx2.tms
                  have X2 := Lib.hid hx2.tms
                  have X1' := Lib.hid (X1.out.grew hh2)
                  clear hx2 X1
                  go_wp2_with fail
                  refine (likeT_yes _ _ [] _ X1'.out X2.out (by simp)).mono ?_
                  rintro e x3 ⟨rfl, hh3⟩
                  clear X1' X2
                  go_wp2_with fail
                  go_roundw
                  case rel => exact ⟨j + 1, by omega, by go_num, hB.trans ((hh1.trans hh2).trans hh3)⟩
                  case measure => simp [intOf]; omega
              · cases hroom : decide (L.length + dp (tmT us) ≤ 12) with
                | true =>
                  as_aux_lemma =>
                    have KX := KXi.out z wr gr
                    have KY := fun W (hW : Grew wr W) => KXs.out z W (gr.trans hW)
                    unfold GivesT2 at KX KY
                    rw [hct] at KX KY
                    have hun : us.length ≤ 1048576 := by have := hctn.out z; rw [hct] at this; exact this
                    have fU := tmB_fits hub
                    have KA := fun vu W (hW : Grew wr W) (hu : Tms W vu us) => KU.out vu us W (gr.trans hW) hu fU hun
                    have KB := fun vu W (hW : Grew wr W) (hu : Tms W vu us) => KM.out vu us W (gr.trans hW) hu fU hun
                    have KC := Lib.hid (fun vu W (hu : Tms W vu us) => KO.out vu us W hu hub)
                    rw [htt] at KA
                    rw [hsn] at KB
                    unfold GivesSI at KA
                    unfold GivesBI at KB
                    simp only at KX KY KA KB
                    replace KX := Lib.hid KX
                    replace KY := Lib.hid KY
                    replace KA := Lib.hid KA
                    replace KB := Lib.hid KB
                    clear KXi KXs KU KM KO hct htt hsn fU hub hctn
                    have rr := Grew.refl wr
                    go_wp2_with fail
                    refine KX.out.mono ?_
                    rintro e x1 ⟨u1, rfl, hx1, hh1⟩
                    have k2 := HQ.out _ hh1
                    obtain ⟨B1, d1, rfl⟩ := tms_slice hx1.tms
                    have X1 := Lib.hid hx1.tms
                    clear hx1
                    go_wp2_with fail
                    refine (KY.out _ hh1).mono ?_
                    rintro e x2 ⟨u2, rfl, hx2, hh2⟩
                    obtain ⟨B2, d2, rfl⟩ := tms_slice hx2.tms
                    have X2 := Lib.hid hx2.tms
                    have X1' := Lib.hid (X1.out.grew hh2)
                    clear hx2 X1
                    go_wp2_with fail
                    refine (likeT_yes _ _ us _ X1'.out X2.out hun).mono ?_
                    rintro e x3 ⟨rfl, hh3⟩
                    have X3 := Lib.hid (X2.out.grew hh3)
                    have k3 := (hh1.trans hh2).trans hh3
                    clear X1' X2 hh1 hh2 hh3
                    go_wp2_with fail
                    refine (KA.out _ _ k3 X3.out).mono ?_
                    rintro e x4 ⟨rfl, hh4⟩
                    have X4 := Lib.hid (X3.out.grew hh4)
                    have k4 := k3.trans hh4
                    clear X3 hh4 k3
                    go_wp2_with fail
                    refine (KB.out _ _ k4 X4.out).mono ?_
                    rintro e x5 ⟨rfl, hh5⟩
                    have X5 := Lib.hid (X4.out.grew hh5)
                    have k5 := k4.trans hh5
                    clear X4 hh5 k4
                    go_wp2_with fail
                    refine (KC.out _ _ X5.out).mono ?_
                    rintro e x6 ⟨rfl, hh6⟩
                    have k6 := k5.trans hh6
                    clear X5 hh6 k5 KX KY KA KB KC
                    rw [hroom]
                    clear hroom
                    go_wp2_with fail
                    go_roundw
                    case rel => exact ⟨j + 1, by omega, by go_num, hB.trans k6⟩
                    case measure => simp [intOf]; omega
                | false =>
                  as_aux_lemma =>
                    have KX := KXi.out z wr gr
                    have KY := fun W (hW : Grew wr W) => KXs.out z W (gr.trans hW)
                    unfold GivesT2 at KX KY
                    rw [hct] at KX KY
                    have hun : us.length ≤ 1048576 := by have := hctn.out z; rw [hct] at this; exact this
                    have fU := tmB_fits hub
                    have KA := fun vu W (hW : Grew wr W) (hu : Tms W vu us) => KU.out vu us W (gr.trans hW) hu fU hun
                    have KB := fun vu W (hW : Grew wr W) (hu : Tms W vu us) => KM.out vu us W (gr.trans hW) hu fU hun
                    have KC := Lib.hid (fun vu W (hu : Tms W vu us) => KO.out vu us W hu hub)
                    rw [htt] at KA
                    rw [hsn] at KB
                    unfold GivesSI at KA
                    unfold GivesBI at KB
                    simp only at KX KY KA KB
                    replace KX := Lib.hid KX
                    replace KY := Lib.hid KY
                    replace KA := Lib.hid KA
                    replace KB := Lib.hid KB
                    clear KXi KXs KU KM KO hct htt hsn fU hub hctn
                    have rr := Grew.refl wr
                    go_wp2_with fail
                    refine KX.out.mono ?_
                    rintro e x1 ⟨u1, rfl, hx1, hh1⟩
                    have k2 := HQ.out _ hh1
                    obtain ⟨B1, d1, rfl⟩ := tms_slice hx1.tms
                    have X1 := Lib.hid hx1.tms
                    clear hx1
                    go_wp2_with fail
                    refine (KY.out _ hh1).mono ?_
                    rintro e x2 ⟨u2, rfl, hx2, hh2⟩
                    obtain ⟨B2, d2, rfl⟩ := tms_slice hx2.tms
                    have X2 := Lib.hid hx2.tms
                    have X1' := Lib.hid (X1.out.grew hh2)
                    clear hx2 X1
                    go_wp2_with fail
                    refine (likeT_yes _ _ us _ X1'.out X2.out hun).mono ?_
                    rintro e x3 ⟨rfl, hh3⟩
                    have X3 := Lib.hid (X2.out.grew hh3)
                    have k3 := (hh1.trans hh2).trans hh3
                    clear X1' X2 hh1 hh2 hh3
                    go_wp2_with fail
                    refine (KA.out _ _ k3 X3.out).mono ?_
                    rintro e x4 ⟨rfl, hh4⟩
                    have X4 := Lib.hid (X3.out.grew hh4)
                    have k4 := k3.trans hh4
                    clear X3 hh4 k3
                    go_wp2_with fail
                    refine (KB.out _ _ k4 X4.out).mono ?_
                    rintro e x5 ⟨rfl, hh5⟩
                    have X5 := Lib.hid (X4.out.grew hh5)
                    have k5 := k4.trans hh5
                    clear X4 hh5 k4
                    go_wp2_with fail
                    refine (KC.out _ _ X5.out).mono ?_
                    rintro e x6 ⟨rfl, hh6⟩
                    have k6 := k5.trans hh6
                    clear X5 hh6 k5 KX KY KA KB KC
                    rw [hroom]
                    clear hroom
                    go_wp2_with fail
                    go_roundw
                    case rel => exact ⟨j + 1, by omega, by go_num, hB.trans k6⟩
                    case measure => simp [intOf]; omega
              · cases hroom : decide (L.length + dp (tmT us) ≤ 12) with
                | true =>
                  as_aux_lemma =>
                    have KX := KXi.out z wr gr
                    have KY := fun W (hW : Grew wr W) => KXs.out z W (gr.trans hW)
                    unfold GivesT2 at KX KY
                    rw [hct] at KX KY
                    have hun : us.length ≤ 1048576 := by have := hctn.out z; rw [hct] at this; exact this
                    have fU := tmB_fits hub
                    have KA := fun vu W (hW : Grew wr W) (hu : Tms W vu us) => KU.out vu us W (gr.trans hW) hu fU hun
                    have KB := fun vu W (hW : Grew wr W) (hu : Tms W vu us) => KM.out vu us W (gr.trans hW) hu fU hun
                    have KC := Lib.hid (fun vu W (hu : Tms W vu us) => KO.out vu us W hu hub)
                    rw [htt] at KA
                    rw [hsn] at KB
                    unfold GivesSI at KA
                    unfold GivesBI at KB
                    simp only at KX KY KA KB
                    replace KX := Lib.hid KX
                    replace KY := Lib.hid KY
                    replace KA := Lib.hid KA
                    replace KB := Lib.hid KB
                    clear KXi KXs KU KM KO hct htt hsn fU hub hctn
                    have rr := Grew.refl wr
                    go_wp2_with fail
                    refine KX.out.mono ?_
                    rintro e x1 ⟨u1, rfl, hx1, hh1⟩
                    have k2 := HQ.out _ hh1
                    obtain ⟨B1, d1, rfl⟩ := tms_slice hx1.tms
                    have X1 := Lib.hid hx1.tms
                    clear hx1
                    go_wp2_with fail
                    refine (KY.out _ hh1).mono ?_
                    rintro e x2 ⟨u2, rfl, hx2, hh2⟩
                    obtain ⟨B2, d2, rfl⟩ := tms_slice hx2.tms
                    have X2 := Lib.hid hx2.tms
                    have X1' := Lib.hid (X1.out.grew hh2)
                    clear hx2 X1
                    go_wp2_with fail
                    refine (likeT_yes _ _ us _ X1'.out X2.out hun).mono ?_
                    rintro e x3 ⟨rfl, hh3⟩
                    have X3 := Lib.hid (X2.out.grew hh3)
                    have k3 := (hh1.trans hh2).trans hh3
                    clear X1' X2 hh1 hh2 hh3
                    go_wp2_with fail
                    refine (KA.out _ _ k3 X3.out).mono ?_
                    rintro e x4 ⟨rfl, hh4⟩
                    have X4 := Lib.hid (X3.out.grew hh4)
                    have k4 := k3.trans hh4
                    clear X3 hh4 k3
                    go_wp2_with fail
                    refine (KB.out _ _ k4 X4.out).mono ?_
                    rintro e x5 ⟨rfl, hh5⟩
                    have X5 := Lib.hid (X4.out.grew hh5)
                    have k5 := k4.trans hh5
                    clear X4 hh5 k4
                    go_wp2_with fail
                    refine (KC.out _ _ X5.out).mono ?_
                    rintro e x6 ⟨rfl, hh6⟩
                    have k6 := k5.trans hh6
                    clear X5 hh6 k5 KX KY KA KB KC
                    rw [hroom]
                    clear hroom
                    go_wp2_with fail
                    go_roundw
                    case rel => exact ⟨j + 1, by omega, by go_num, hB.trans k6⟩
                    case measure => simp [intOf]; omega
                | false =>
                  as_aux_lemma =>
                    have KX := KXi.out z wr gr
                    have KY := fun W (hW : Grew wr W) => KXs.out z W (gr.trans hW)
                    unfold GivesT2 at KX KY
                    rw [hct] at KX KY
                    have hun : us.length ≤ 1048576 := by have := hctn.out z; rw [hct] at this; exact this
                    have fU := tmB_fits hub
                    have KA := fun vu W (hW : Grew wr W) (hu : Tms W vu us) => KU.out vu us W (gr.trans hW) hu fU hun
                    have KB := fun vu W (hW : Grew wr W) (hu : Tms W vu us) => KM.out vu us W (gr.trans hW) hu fU hun
                    have KC := Lib.hid (fun vu W (hu : Tms W vu us) => KO.out vu us W hu hub)
                    rw [htt] at KA
                    rw [hsn] at KB
                    unfold GivesSI at KA
                    unfold GivesBI at KB
                    simp only at KX KY KA KB
                    replace KX := Lib.hid KX
                    replace KY := Lib.hid KY
                    replace KA := Lib.hid KA
                    replace KB := Lib.hid KB
                    clear KXi KXs KU KM KO hct htt hsn fU hub hctn
                    have rr := Grew.refl wr
                    go_wp2_with fail
                    refine KX.out.mono ?_
                    rintro e x1 ⟨u1, rfl, hx1, hh1⟩
                    have k2 := HQ.out _ hh1
                    obtain ⟨B1, d1, rfl⟩ := tms_slice hx1.tms
                    have X1 := Lib.hid hx1.tms
                    clear hx1
                    go_wp2_with fail
                    refine (KY.out _ hh1).mono ?_
                    rintro e x2 ⟨u2, rfl, hx2, hh2⟩
                    obtain ⟨B2, d2, rfl⟩ := tms_slice hx2.tms
                    have X2 := Lib.hid hx2.tms
                    have X1' := Lib.hid (X1.out.grew hh2)
                    clear hx2 X1
                    go_wp2_with fail
                    refine (likeT_yes _ _ us _ X1'.out X2.out hun).mono ?_
                    rintro e x3 ⟨rfl, hh3⟩
                    have X3 := Lib.hid (X2.out.grew hh3)
                    have k3 := (hh1.trans hh2).trans hh3
                    clear X1' X2 hh1 hh2 hh3
                    go_wp2_with fail
                    refine (KA.out _ _ k3 X3.out).mono ?_
                    rintro e x4 ⟨rfl, hh4⟩
                    have X4 := Lib.hid (X3.out.grew hh4)
                    have k4 := k3.trans hh4
                    clear X3 hh4 k3
                    go_wp2_with fail
                    refine (KB.out _ _ k4 X4.out).mono ?_
                    rintro e x5 ⟨rfl, hh5⟩
                    have X5 := Lib.hid (X4.out.grew hh5)
                    have k5 := k4.trans hh5
                    clear X4 hh5 k4
                    go_wp2_with fail
                    refine (KC.out _ _ X5.out).mono ?_
                    rintro e x6 ⟨rfl, hh6⟩
                    have k6 := k5.trans hh6
                    clear X5 hh6 k5 KX KY KA KB KC
                    rw [hroom]
                    clear hroom
                    go_wp2_with fail
                    go_roundw
                    case rel => exact ⟨j + 1, by omega, by go_num, hB.trans k6⟩
                    case measure => simp [intOf]; omega
              · have hroom : decide (L.length + dp (tmT us) ≤ 12) = false := decide_eq_false (by omega)
                as_aux_lemma =>
                  have KX := KXi.out z wr gr
                  have KY := fun W (hW : Grew wr W) => KXs.out z W (gr.trans hW)
                  unfold GivesT2 at KX KY
                  rw [hct] at KX KY
                  have hun : us.length ≤ 1048576 := by have := hctn.out z; rw [hct] at this; exact this
                  have fU := tmB_fits hub
                  have KA := fun vu W (hW : Grew wr W) (hu : Tms W vu us) => KU.out vu us W (gr.trans hW) hu fU hun
                  have KB := fun vu W (hW : Grew wr W) (hu : Tms W vu us) => KM.out vu us W (gr.trans hW) hu fU hun
                  have KC := Lib.hid (fun vu W (hu : Tms W vu us) => KO.out vu us W hu hub)
                  rw [htt] at KA
                  rw [hsn] at KB
                  unfold GivesSI at KA
                  unfold GivesBI at KB
                  simp only at KX KY KA KB
                  replace KX := Lib.hid KX
                  replace KY := Lib.hid KY
                  replace KA := Lib.hid KA
                  replace KB := Lib.hid KB
                  clear KXi KXs KU KM KO hct htt hsn fU hub hctn
                  have rr := Grew.refl wr
                  go_wp2_with fail
                  refine KX.out.mono ?_
                  rintro e x1 ⟨u1, rfl, hx1, hh1⟩
                  have k2 := HQ.out _ hh1
                  obtain ⟨B1, d1, rfl⟩ := tms_slice hx1.tms
                  have X1 := Lib.hid hx1.tms
                  clear hx1
                  go_wp2_with fail
                  refine (KY.out _ hh1).mono ?_
                  rintro e x2 ⟨u2, rfl, hx2, hh2⟩
                  obtain ⟨B2, d2, rfl⟩ := tms_slice hx2.tms
                  have X2 := Lib.hid hx2.tms
                  have X1' := Lib.hid (X1.out.grew hh2)
                  clear hx2 X1
                  go_wp2_with fail
                  refine (likeT_yes _ _ us _ X1'.out X2.out hun).mono ?_
                  rintro e x3 ⟨rfl, hh3⟩
                  have X3 := Lib.hid (X2.out.grew hh3)
                  have k3 := (hh1.trans hh2).trans hh3
                  clear X1' X2 hh1 hh2 hh3
                  go_wp2_with fail
                  refine (KA.out _ _ k3 X3.out).mono ?_
                  rintro e x4 ⟨rfl, hh4⟩
                  have X4 := Lib.hid (X3.out.grew hh4)
                  have k4 := k3.trans hh4
                  clear X3 hh4 k3
                  go_wp2_with fail
                  refine (KB.out _ _ k4 X4.out).mono ?_
                  rintro e x5 ⟨rfl, hh5⟩
                  have X5 := Lib.hid (X4.out.grew hh5)
                  have k5 := k4.trans hh5
                  clear X4 hh5 k4
                  go_wp2_with fail
                  refine (KC.out _ _ X5.out).mono ?_
                  rintro e x6 ⟨rfl, hh6⟩
                  have k6 := k5.trans hh6
                  clear X5 hh6 k5 KX KY KA KB KC
                  rw [hroom]
                  clear hroom
                  go_wp2_with fail
                  go_roundw
                  case rel => exact ⟨j + 1, by omega, by go_num, hB.trans k6⟩
                  case measure => simp [intOf]; omega
            · go_wp2_with fail
              go_ret
              exact ⟨rfl, gg.trans (ge.trans (hgf.trans hB))⟩
  · as_aux_lemma =>
      rw [hq]
      clear hq
      rcases hcase with ⟨rfl, hR0⟩ | ⟨hz1, hz2⟩
      · obtain rfl : R = [] := List.eq_nil_of_length_eq_zero hR0
        clear KXi KXs KU KM KO HE hctn
        simp only [List.length_nil]
        go_wp2_with fail
        refine (likeInts_yes _ _ [] _ HC.out HR.out (by simp)).mono ?_
        rintro e wf ⟨rfl, hgf⟩
        go_wp2_with fail
        refine wp_loop_rounds 1 ?_; rw [rounds_succ]
        go_wp2_with fail
        go_ret
        exact ⟨rfl, gg.trans (ge.trans hgf)⟩
      · go_wp2_with fail
        refine (likeInts_yes _ _ R _ HC.out HR.out (by omega)).mono ?_
        rintro e wf ⟨rfl, hgf⟩
        rcases HR.out.open_ with ⟨_, hR0⟩ | ⟨b, o, c, hv, hc, hm, hb, hf⟩
        · rw [hR0] at hz2; simp at hz2
        simp only [Value.slice.injEq] at hv
        obtain ⟨rfl, -, rfl⟩ := hv
        have HF := Lib.hid (fun i hi W (hW : Grew wf W) => hf i hi W (hgf.trans hW))
        clear hf HC HR
        generalize hN : R.length = n at *
        go_wp2_with fail
        go_loopw [25] (fun i wr => ∃ j : Nat, j ≤ n ∧ i = .int .i64 j ∧ Grew wf wr) (fun i _ => n - (intOf i).toNat)
        case atStart => exact ⟨0, Nat.zero_le _, rfl, Grew.refl _⟩
        case round =>
          obtain ⟨j, hj, rfl, hB⟩ := hrel
          by_cases hlt : j < n
          · have k1 := HF.out j hlt _ hB
            have HQ := Lib.hid (fun W (hW : Grew wr W) => HF.out j hlt W (hB.trans hW))
            have hz := HE.out (it R j) (it_mem (by rw [hN]; exact hlt))
            have gr := ge.trans (hgf.trans hB)
            generalize it R j = z at *
            clear HF HE
            unfold SrEach at hz
            rcases hz with ⟨h3, h1⟩ | ⟨us, hct, hub, ⟨htt, hsn | hsn⟩ | ⟨hroom0, htt, hsn⟩⟩
            · as_aux_lemma =>
                have hct : ctF xs L.length z = ([], 3) := Prod.ext h1 h3
                have KX := KXi.out z wr gr
                have KY := fun W (hW : Grew wr W) => KXs.out z W (gr.trans hW)
                unfold GivesT2 at KX KY
                rw [hct] at KX KY
                replace KX := Lib.hid KX
                replace KY := Lib.hid KY
                clear KXi KXs KU KM KO hct h1 h3
                have rr := Grew.refl wr
                go_wp2_with fail
                refine KX.out.mono ?_
                rintro e x1 ⟨u1, rfl, hx1, hh1⟩
                have k2 := HQ.out _ hh1
                obtain ⟨B1, d1, rfl⟩ := tms_slice hx1.tms
                have X1 := Lib.hid hx1.tms
                clear hx1
                go_wp2_with fail
                refine (KY.out _ hh1).mono ?_
                rintro e x2 ⟨u2, rfl, hx2, hh2⟩
                obtain ⟨B2, d2, rfl⟩ := tms_slice hx2.tms
                have X2 := Lib.hid hx2.tms
                have X1' := Lib.hid (X1.out.grew hh2)
                clear hx2 X1
                go_wp2_with fail
                refine (likeT_yes _ _ [] _ X1'.out X2.out (by simp)).mono ?_
                rintro e x3 ⟨rfl, hh3⟩
                clear X1' X2
                go_wp2_with fail
                go_roundw
                case rel => exact ⟨j + 1, by omega, by go_num, hB.trans ((hh1.trans hh2).trans hh3)⟩
                case measure => simp [intOf]; omega
            · cases hroom : decide (L.length + dp (tmT us) ≤ 12) with
              | true =>
                as_aux_lemma =>
                  have KX := KXi.out z wr gr
                  have KY := fun W (hW : Grew wr W) => KXs.out z W (gr.trans hW)
                  unfold GivesT2 at KX KY
                  rw [hct] at KX KY
                  have hun : us.length ≤ 1048576 := by have := hctn.out z; rw [hct] at this; exact this
                  have fU := tmB_fits hub
                  have KA := fun vu W (hW : Grew wr W) (hu : Tms W vu us) => KU.out vu us W (gr.trans hW) hu fU hun
                  have KB := fun vu W (hW : Grew wr W) (hu : Tms W vu us) => KM.out vu us W (gr.trans hW) hu fU hun
                  have KC := Lib.hid (fun vu W (hu : Tms W vu us) => KO.out vu us W hu hub)
                  rw [htt] at KA
                  rw [hsn] at KB
                  unfold GivesSI at KA
                  unfold GivesBI at KB
                  simp only at KX KY KA KB
                  replace KX := Lib.hid KX
                  replace KY := Lib.hid KY
                  replace KA := Lib.hid KA
                  replace KB := Lib.hid KB
                  clear KXi KXs KU KM KO hct htt hsn fU hub hctn
                  have rr := Grew.refl wr
                  go_wp2_with fail
                  refine KX.out.mono ?_
                  rintro e x1 ⟨u1, rfl, hx1, hh1⟩
                  have k2 := HQ.out _ hh1
                  obtain ⟨B1, d1, rfl⟩ := tms_slice hx1.tms
                  have X1 := Lib.hid hx1.tms
                  clear hx1
                  go_wp2_with fail
                  refine (KY.out _ hh1).mono ?_
                  rintro e x2 ⟨u2, rfl, hx2, hh2⟩
                  obtain ⟨B2, d2, rfl⟩ := tms_slice hx2.tms
                  have X2 := Lib.hid hx2.tms
                  have X1' := Lib.hid (X1.out.grew hh2)
                  clear hx2 X1
                  go_wp2_with fail
                  refine (likeT_yes _ _ us _ X1'.out X2.out hun).mono ?_
                  rintro e x3 ⟨rfl, hh3⟩
                  have X3 := Lib.hid (X2.out.grew hh3)
                  have k3 := (hh1.trans hh2).trans hh3
                  clear X1' X2 hh1 hh2 hh3
                  go_wp2_with fail
                  refine (KA.out _ _ k3 X3.out).mono ?_
                  rintro e x4 ⟨rfl, hh4⟩
                  have X4 := Lib.hid (X3.out.grew hh4)
                  have k4 := k3.trans hh4
                  clear X3 hh4 k3
                  go_wp2_with fail
                  refine (KB.out _ _ k4 X4.out).mono ?_
                  rintro e x5 ⟨rfl, hh5⟩
                  have X5 := Lib.hid (X4.out.grew hh5)
                  have k5 := k4.trans hh5
                  clear X4 hh5 k4
                  go_wp2_with fail
                  refine (KC.out _ _ X5.out).mono ?_
                  rintro e x6 ⟨rfl, hh6⟩
                  have k6 := k5.trans hh6
                  clear X5 hh6 k5 KX KY KA KB KC
                  rw [hroom]
                  clear hroom
                  go_wp2_with fail
                  go_roundw
                  case rel => exact ⟨j + 1, by omega, by go_num, hB.trans k6⟩
                  case measure => simp [intOf]; omega
              | false =>
                as_aux_lemma =>
                  have KX := KXi.out z wr gr
                  have KY := fun W (hW : Grew wr W) => KXs.out z W (gr.trans hW)
                  unfold GivesT2 at KX KY
                  rw [hct] at KX KY
                  have hun : us.length ≤ 1048576 := by have := hctn.out z; rw [hct] at this; exact this
                  have fU := tmB_fits hub
                  have KA := fun vu W (hW : Grew wr W) (hu : Tms W vu us) => KU.out vu us W (gr.trans hW) hu fU hun
                  have KB := fun vu W (hW : Grew wr W) (hu : Tms W vu us) => KM.out vu us W (gr.trans hW) hu fU hun
                  have KC := Lib.hid (fun vu W (hu : Tms W vu us) => KO.out vu us W hu hub)
                  rw [htt] at KA
                  rw [hsn] at KB
                  unfold GivesSI at KA
                  unfold GivesBI at KB
                  simp only at KX KY KA KB
                  replace KX := Lib.hid KX
                  replace KY := Lib.hid KY
                  replace KA := Lib.hid KA
                  replace KB := Lib.hid KB
                  clear KXi KXs KU KM KO hct htt hsn fU hub hctn
                  have rr := Grew.refl wr
                  go_wp2_with fail
                  refine KX.out.mono ?_
                  rintro e x1 ⟨u1, rfl, hx1, hh1⟩
                  have k2 := HQ.out _ hh1
                  obtain ⟨B1, d1, rfl⟩ := tms_slice hx1.tms
                  have X1 := Lib.hid hx1.tms
                  clear hx1
                  go_wp2_with fail
                  refine (KY.out _ hh1).mono ?_
                  rintro e x2 ⟨u2, rfl, hx2, hh2⟩
                  obtain ⟨B2, d2, rfl⟩ := tms_slice hx2.tms
                  have X2 := Lib.hid hx2.tms
                  have X1' := Lib.hid (X1.out.grew hh2)
                  clear hx2 X1
                  go_wp2_with fail
                  refine (likeT_yes _ _ us _ X1'.out X2.out hun).mono ?_
                  rintro e x3 ⟨rfl, hh3⟩
                  have X3 := Lib.hid (X2.out.grew hh3)
                  have k3 := (hh1.trans hh2).trans hh3
                  clear X1' X2 hh1 hh2 hh3
                  go_wp2_with fail
                  refine (KA.out _ _ k3 X3.out).mono ?_
                  rintro e x4 ⟨rfl, hh4⟩
                  have X4 := Lib.hid (X3.out.grew hh4)
                  have k4 := k3.trans hh4
                  clear X3 hh4 k3
                  go_wp2_with fail
                  refine (KB.out _ _ k4 X4.out).mono ?_
                  rintro e x5 ⟨rfl, hh5⟩
                  have X5 := Lib.hid (X4.out.grew hh5)
                  have k5 := k4.trans hh5
                  clear X4 hh5 k4
                  go_wp2_with fail
                  refine (KC.out _ _ X5.out).mono ?_
                  rintro e x6 ⟨rfl, hh6⟩
                  have k6 := k5.trans hh6
                  clear X5 hh6 k5 KX KY KA KB KC
                  rw [hroom]
                  clear hroom
                  go_wp2_with fail
                  go_roundw
                  case rel => exact ⟨j + 1, by omega, by go_num, hB.trans k6⟩
                  case measure => simp [intOf]; omega
            · cases hroom : decide (L.length + dp (tmT us) ≤ 12) with
              | true =>
                as_aux_lemma =>
                  have KX := KXi.out z wr gr
                  have KY := fun W (hW : Grew wr W) => KXs.out z W (gr.trans hW)
                  unfold GivesT2 at KX KY
                  rw [hct] at KX KY
                  have hun : us.length ≤ 1048576 := by have := hctn.out z; rw [hct] at this; exact this
                  have fU := tmB_fits hub
                  have KA := fun vu W (hW : Grew wr W) (hu : Tms W vu us) => KU.out vu us W (gr.trans hW) hu fU hun
                  have KB := fun vu W (hW : Grew wr W) (hu : Tms W vu us) => KM.out vu us W (gr.trans hW) hu fU hun
                  have KC := Lib.hid (fun vu W (hu : Tms W vu us) => KO.out vu us W hu hub)
                  rw [htt] at KA
                  rw [hsn] at KB
                  unfold GivesSI at KA
                  unfold GivesBI at KB
                  simp only at KX KY KA KB
                  replace KX := Lib.hid KX
                  replace KY := Lib.hid KY
                  replace KA := Lib.hid KA
                  replace KB := Lib.hid KB
                  clear KXi KXs KU KM KO hct htt hsn fU hub hctn
                  have rr := Grew.refl wr
                  go_wp2_with fail
                  refine KX.out.mono ?_
                  rintro e x1 ⟨u1, rfl, hx1, hh1⟩
                  have k2 := HQ.out _ hh1
                  obtain ⟨B1, d1, rfl⟩ := tms_slice hx1.tms
                  have X1 := Lib.hid hx1.tms
                  clear hx1
                  go_wp2_with fail
                  refine (KY.out _ hh1).mono ?_
                  rintro e x2 ⟨u2, rfl, hx2, hh2⟩
                  obtain ⟨B2, d2, rfl⟩ := tms_slice hx2.tms
                  have X2 := Lib.hid hx2.tms
                  have X1' := Lib.hid (X1.out.grew hh2)
                  clear hx2 X1
                  go_wp2_with fail
                  refine (likeT_yes _ _ us _ X1'.out X2.out hun).mono ?_
                  rintro e x3 ⟨rfl, hh3⟩
                  have X3 := Lib.hid (X2.out.grew hh3)
                  have k3 := (hh1.trans hh2).trans hh3
                  clear X1' X2 hh1 hh2 hh3
                  go_wp2_with fail
                  refine (KA.out _ _ k3 X3.out).mono ?_
                  rintro e x4 ⟨rfl, hh4⟩
                  have X4 := Lib.hid (X3.out.grew hh4)
                  have k4 := k3.trans hh4
                  clear X3 hh4 k3
                  go_wp2_with fail
                  refine (KB.out _ _ k4 X4.out).mono ?_
                  rintro e x5 ⟨rfl, hh5⟩
                  have X5 := Lib.hid (X4.out.grew hh5)
                  have k5 := k4.trans hh5
                  clear X4 hh5 k4
                  go_wp2_with fail
                  refine (KC.out _ _ X5.out).mono ?_
                  rintro e x6 ⟨rfl, hh6⟩
                  have k6 := k5.trans hh6
                  clear X5 hh6 k5 KX KY KA KB KC
                  rw [hroom]
                  clear hroom
                  go_wp2_with fail
                  go_roundw
                  case rel => exact ⟨j + 1, by omega, by go_num, hB.trans k6⟩
                  case measure => simp [intOf]; omega
              | false =>
                as_aux_lemma =>
                  have KX := KXi.out z wr gr
                  have KY := fun W (hW : Grew wr W) => KXs.out z W (gr.trans hW)
                  unfold GivesT2 at KX KY
                  rw [hct] at KX KY
                  have hun : us.length ≤ 1048576 := by have := hctn.out z; rw [hct] at this; exact this
                  have fU := tmB_fits hub
                  have KA := fun vu W (hW : Grew wr W) (hu : Tms W vu us) => KU.out vu us W (gr.trans hW) hu fU hun
                  have KB := fun vu W (hW : Grew wr W) (hu : Tms W vu us) => KM.out vu us W (gr.trans hW) hu fU hun
                  have KC := Lib.hid (fun vu W (hu : Tms W vu us) => KO.out vu us W hu hub)
                  rw [htt] at KA
                  rw [hsn] at KB
                  unfold GivesSI at KA
                  unfold GivesBI at KB
                  simp only at KX KY KA KB
                  replace KX := Lib.hid KX
                  replace KY := Lib.hid KY
                  replace KA := Lib.hid KA
                  replace KB := Lib.hid KB
                  clear KXi KXs KU KM KO hct htt hsn fU hub hctn
                  have rr := Grew.refl wr
                  go_wp2_with fail
                  refine KX.out.mono ?_
                  rintro e x1 ⟨u1, rfl, hx1, hh1⟩
                  have k2 := HQ.out _ hh1
                  obtain ⟨B1, d1, rfl⟩ := tms_slice hx1.tms
                  have X1 := Lib.hid hx1.tms
                  clear hx1
                  go_wp2_with fail
                  refine (KY.out _ hh1).mono ?_
                  rintro e x2 ⟨u2, rfl, hx2, hh2⟩
                  obtain ⟨B2, d2, rfl⟩ := tms_slice hx2.tms
                  have X2 := Lib.hid hx2.tms
                  have X1' := Lib.hid (X1.out.grew hh2)
                  clear hx2 X1
                  go_wp2_with fail
                  refine (likeT_yes _ _ us _ X1'.out X2.out hun).mono ?_
                  rintro e x3 ⟨rfl, hh3⟩
                  have X3 := Lib.hid (X2.out.grew hh3)
                  have k3 := (hh1.trans hh2).trans hh3
                  clear X1' X2 hh1 hh2 hh3
                  go_wp2_with fail
                  refine (KA.out _ _ k3 X3.out).mono ?_
                  rintro e x4 ⟨rfl, hh4⟩
                  have X4 := Lib.hid (X3.out.grew hh4)
                  have k4 := k3.trans hh4
                  clear X3 hh4 k3
                  go_wp2_with fail
                  refine (KB.out _ _ k4 X4.out).mono ?_
                  rintro e x5 ⟨rfl, hh5⟩
                  have X5 := Lib.hid (X4.out.grew hh5)
                  have k5 := k4.trans hh5
                  clear X4 hh5 k4
                  go_wp2_with fail
                  refine (KC.out _ _ X5.out).mono ?_
                  rintro e x6 ⟨rfl, hh6⟩
                  have k6 := k5.trans hh6
                  clear X5 hh6 k5 KX KY KA KB KC
                  rw [hroom]
                  clear hroom
                  go_wp2_with fail
                  go_roundw
                  case rel => exact ⟨j + 1, by omega, by go_num, hB.trans k6⟩
                  case measure => simp [intOf]; omega
            · have hroom : decide (L.length + dp (tmT us) ≤ 12) = false := decide_eq_false (by omega)
              as_aux_lemma =>
                have KX := KXi.out z wr gr
                have KY := fun W (hW : Grew wr W) => KXs.out z W (gr.trans hW)
                unfold GivesT2 at KX KY
                rw [hct] at KX KY
                have hun : us.length ≤ 1048576 := by have := hctn.out z; rw [hct] at this; exact this
                have fU := tmB_fits hub
                have KA := fun vu W (hW : Grew wr W) (hu : Tms W vu us) => KU.out vu us W (gr.trans hW) hu fU hun
                have KB := fun vu W (hW : Grew wr W) (hu : Tms W vu us) => KM.out vu us W (gr.trans hW) hu fU hun
                have KC := Lib.hid (fun vu W (hu : Tms W vu us) => KO.out vu us W hu hub)
                rw [htt] at KA
                rw [hsn] at KB
                unfold GivesSI at KA
                unfold GivesBI at KB
                simp only at KX KY KA KB
                replace KX := Lib.hid KX
                replace KY := Lib.hid KY
                replace KA := Lib.hid KA
                replace KB := Lib.hid KB
                clear KXi KXs KU KM KO hct htt hsn fU hub hctn
                have rr := Grew.refl wr
                go_wp2_with fail
                refine KX.out.mono ?_
                rintro e x1 ⟨u1, rfl, hx1, hh1⟩
                have k2 := HQ.out _ hh1
                obtain ⟨B1, d1, rfl⟩ := tms_slice hx1.tms
                have X1 := Lib.hid hx1.tms
                clear hx1
                go_wp2_with fail
                refine (KY.out _ hh1).mono ?_
                rintro e x2 ⟨u2, rfl, hx2, hh2⟩
                obtain ⟨B2, d2, rfl⟩ := tms_slice hx2.tms
                have X2 := Lib.hid hx2.tms
                have X1' := Lib.hid (X1.out.grew hh2)
                clear hx2 X1
                go_wp2_with fail
                refine (likeT_yes _ _ us _ X1'.out X2.out hun).mono ?_
                rintro e x3 ⟨rfl, hh3⟩
                have X3 := Lib.hid (X2.out.grew hh3)
                have k3 := (hh1.trans hh2).trans hh3
                clear X1' X2 hh1 hh2 hh3
                go_wp2_with fail
                refine (KA.out _ _ k3 X3.out).mono ?_
                rintro e x4 ⟨rfl, hh4⟩
                have X4 := Lib.hid (X3.out.grew hh4)
                have k4 := k3.trans hh4
                clear X3 hh4 k3
                go_wp2_with fail
                refine (KB.out _ _ k4 X4.out).mono ?_
                rintro e x5 ⟨rfl, hh5⟩
                have X5 := Lib.hid (X4.out.grew hh5)
                have k5 := k4.trans hh5
                clear X4 hh5 k4
                go_wp2_with fail
                refine (KC.out _ _ X5.out).mono ?_
                rintro e x6 ⟨rfl, hh6⟩
                have k6 := k5.trans hh6
                clear X5 hh6 k5 KX KY KA KB KC
                rw [hroom]
                clear hroom
                go_wp2_with fail
                go_roundw
                case rel => exact ⟨j + 1, by omega, by go_num, hB.trans k6⟩
                case measure => simp [intOf]; omega
          · go_wp2_with fail
            go_ret
            exact ⟨rfl, gg.trans (ge.trans (hgf.trans hB))⟩
end Go.Proofs.YtdndclfjeajhiaaGreat

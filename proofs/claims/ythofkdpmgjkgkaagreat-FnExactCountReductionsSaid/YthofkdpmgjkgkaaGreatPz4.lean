/- Texts in one file: TyW2 TyW3 TyW FitS StCont TyF Nr NrS NrF StrLaw MarkText RowLem TmMark MarkS MarkSW LawNt Args ArgT LawCr. -/
import Derived.Deep.RegionHeld3
import Derived.Deep.QuietTactic
import Derived.BigQuiet
import Derived.Deep.LoopGhost
import Derived.WalkLawsBesides
import Derived.Outline
import Derived.Shelf.Abstract
import Derived.Deep.OwnRows
import Derived.Laws.BytesArg
import Derived.Deep.Strs
import Derived.Lib.SmallJoins
import Derived.Carry
import Derived.ProofKit
import Derived.Deep.SlicePairs
import Derived.Test.YthofkdpmgjkgkaaGreatPz1
import Derived.Test.YthofkdpmgjkgkaaGreatPz2
import Derived.Test.YthofkdpmgjkgkaaGreatPz3

/- typeOf of the program: nodes with one part, with two parts, lambdas. -/
namespace Go.Proofs.YthofkdpmgjkgkaaGreat
open Go.RowKit
open Tr (Tm)

/-- What nodeType gives at a node with one part that has a type. -/
def NodeOne (x : Tn) (f : Fm.Tree → Option Fm.Tree) : Prop := ∀ B vt W, FmOk B → Strs W vt [tx B] → Calls Tryz.prog 108 #[.agg #[.int .i64 x.1, .int .i64 x.2.1, .string x.2.2], vt] W (GivesTy W (f B))
def NodeTwo (x : Tn) (f : Fm.Tree → Fm.Tree → Option Fm.Tree) : Prop := ∀ B D vt W, FmOk B → FmOk D → Strs W vt [tx B, tx D] → Calls Tryz.prog 108 #[.agg #[.int .i64 x.1, .int .i64 x.2.1, .string x.2.2], vt] W (GivesTy W (f B D))

theorem us_one {w w' : World} {t a : Tm} {B : Nat} {u : Value} {us : List Value} (ho : OwnVT w' B u us) (hl : us.length = 1) (hh : HoldT w t us) (hk : Tr.kid t 0 = a) : ∃ g c v0, u = .slice (some ⟨g, 0, none⟩) 1 c ∧ 1 ≤ c ∧ c ≤ 9223372036854775807 ∧ (∀ W, Grew w' W → W.cell? ⟨g, 0, none⟩ = some v0) ∧ Tms w v0 (Tr.enc a) := by
  obtain ⟨g, c, rfl, h1, h2, h3, h4⟩ := ho.open_ (by omega)
  rw [hl] at h1 ho ⊢
  obtain ⟨v0, hv⟩ : ∃ v0, us[0]? = some v0 := ⟨_, List.getElem?_eq_getElem (by omega)⟩
  have hc := ho.cell hv
  refine ⟨g, c, v0, rfl, h1, h2, fun W hW => (hW.cell (p := ⟨g, 0, none⟩) h4).trans hc, ?_⟩
  have := hh 0 v0 hv
  rw [hk] at this
  exact this
theorem us_two {w w' : World} {t a b : Tm} {B : Nat} {u : Value} {us : List Value} (ho : OwnVT w' B u us) (hl : us.length = 2) (hh : HoldT w t us) (hk : Tr.kid t 0 = a) (hk2 : Tr.kid t 1 = b) : ∃ g c v0 v1, u = .slice (some ⟨g, 0, none⟩) 2 c ∧ 2 ≤ c ∧ c ≤ 9223372036854775807 ∧ (∀ W, Grew w' W → W.cell? ⟨g, 0, none⟩ = some v0) ∧ (∀ W, Grew w' W → W.cell? ⟨g, 1, none⟩ = some v1) ∧ Tms w v0 (Tr.enc a) ∧ Tms w v1 (Tr.enc b) := by
  obtain ⟨g, c, rfl, h1, h2, h3, h4⟩ := ho.open_ (by omega)
  rw [hl] at h1 ho ⊢
  obtain ⟨v0, hv⟩ : ∃ v0, us[0]? = some v0 := ⟨_, List.getElem?_eq_getElem (by omega)⟩
  obtain ⟨v1, hv1⟩ : ∃ v1, us[1]? = some v1 := ⟨_, List.getElem?_eq_getElem (by omega)⟩
  have hc := ho.cell hv
  have hc1 := ho.cell hv1
  refine ⟨g, c, v0, v1, rfl, h1, h2, fun W hW => (hW.cell (p := ⟨g, 0, none⟩) h4).trans hc, fun W hW => (hW.cell (p := ⟨g, 1, none⟩) h4).trans hc1, ?_, ?_⟩
  · have := hh 0 v0 hv
    rw [hk] at this
    exact this
  · have := hh 1 v1 hv1
    rw [hk2] at this
    exact this

theorem typeOf_one (x : Tn) (a : Tm) (hg : Good (.t1 x a)) (h0 : x.1 ≠ 0) (h8 : x.1 ≠ 8) (h1 : x.1 ≠ 1) (f : Fm.Tree → Option Fm.Tree) (G : List Fm.Tree) (hG : ∀ A ∈ G, FmOk A) (hl : G.length ≤ 12) (IH : TypV a G) (KN : NodeOne x f) (va v : Value) (w : World) (hs : Strs w va (G.map tx)) (h : Tms w v (Tr.enc (.t1 x a))) (hn : (Tr.enc (.t1 x a)).length ≤ 60) :
    Calls Tryz.prog 61 #[va, v] w (GivesTy w ((ty G a).bind f)) := by
  have KP := Lib.hid (fun W (hW : Grew w W) => inner_o v (.t1 x a) w W h hW hg (by omega))
  have HOK := fun B hB => ty_ok a hg.2 G B hG hB
  have KI := fun u W (hW : Grew w W) hu => IH va u W (hs.grew hW) hu

  obtain ⟨bb, o, c, rfl, hc, hm, hb, hcl⟩ := tms_head h
  have k0 := fun W (hW : Grew w W) => (hcl W hW).1
  have k1 := fun W (hW : Grew w W) => (hcl W hW).2.1
  have k2 := fun W (hW : Grew w W) => (hcl W hW).2.2
  change ∀ W, Grew w W → W.cell? ⟨bb, o, none⟩ = some (.int .i64 x.1) at k0
  change ∀ W, Grew w W → W.cell? ⟨bb, o + 1, none⟩ = some (.int .i64 x.2.1) at k1
  change ∀ W, Grew w W → W.cell? ⟨bb, o + 2, none⟩ = some (.string x.2.2) at k2
  have hpos := Tr.enc_pos (.t1 x a)
  have hr := Grew.refl w
  have b0 : (x.1 == 0) = false := by simpa using h0
  have b8 : (x.1 == 8) = false := by simpa using h8
  have b1 : (x.1 == 1) = false := by simpa using h1
  obtain ⟨D, d, rfl⟩ := (strs_map hs).1
  have HU := Lib.hid (fun w' B u us h1 h2 h3 => us_one (w := w) (w' := w') (B := B) (u := u) (us := us) (t := .t1 x a) (a := a) h1 h2 h3 rfl)
  have hkl : Hid ((Tr.kids (.t1 x a)).length = 1) := Lib.hid rfl
  unfold NodeOne at KN
  clear hcl h hg IH hs hG h0 h8 h1
  generalize x.1 = xk at *
  generalize x.2.1 = xn at *
  generalize x.2.2 = xs at *
  generalize (Tr.enc (.t1 x a)).length = n at *
  generalize hRR : ty G a = R at *
  generalize G.length = gl at *
  replace KN := Lib.hid KN
  have hl12 : (gl : Int) ≤ 12 := by omega
  cases R with
  | none =>
    unfold GivesTy at KI
    clear HOK hRR KN
    have HE := Lib.hid (fun w' (h : Grew w w') => none_gives (s := ByteArray.empty) h)
    change Calls _ _ _ _ (GivesTy w none)
    replace KI := Lib.hid KI
    go_enter Tryz.func61, Tryz.ntmps61
    go_wp2_with fail
    refine (KP.out _ hr).mono ?_
    rintro e w1 ⟨u, us, rfl, hU1, hul, hh, hg1⟩
    rw [hkl.out] at hul
    obtain ⟨g, cc, v0, rfl, hc2, hm2, f0, hv0⟩ := HU.out _ _ _ _ hU1 hul hh
    clear hU1 hul hh
    obtain ⟨U, e1, rfl⟩ := tms_slice hv0
    have HV := Lib.hid hv0
    clear hv0
    have r1 := Grew.refl w1
    go_wp2_with fail
    refine wp_loop_rounds 2 ?_; rw [rounds_succ]
    go_wp2_with fail
    refine (KI.out _ _ hg1 (HV.out.grew hg1)).mono ?_
    rintro e w2 ⟨s2, rfl, _, hg2⟩
    have g2 := hg1.trans hg2
    go_wp2_with fail
    go_ret2
    exact HE.out _ g2
  | some B =>
    unfold GivesTy at KI
    have hB := Lib.hid (HOK B rfl)
    clear HOK hRR
    change Calls _ _ _ _ (GivesTy w (f B))
    replace KI := Lib.hid KI
    have HO1 := OwnS.nil_ w w.heap.size
    go_enter Tryz.func61, Tryz.ntmps61
    go_wp2_with fail
    refine (KP.out _ hr).mono ?_
    rintro e w1 ⟨u, us, rfl, hU1, hul, hh, hg1⟩
    rw [hkl.out] at hul
    obtain ⟨g, cc, v0, rfl, hc2, hm2, f0, hv0⟩ := HU.out _ _ _ _ hU1 hul hh
    clear hU1 hul hh
    obtain ⟨U, e1, rfl⟩ := tms_slice hv0
    have HV := Lib.hid hv0
    clear hv0
    have r1 := Grew.refl w1
    go_wp2_with fail
    refine wp_loop_rounds 2 ?_; rw [rounds_succ]
    go_wp2_with fail
    refine (KI.out _ _ hg1 (HV.out.grew hg1)).mono ?_
    rintro e w2 ⟨s2, rfl, hs2, hg2⟩
    obtain rfl := hs2 B rfl
    clear hs2
    have g2 := hg1.trans hg2
    have hO2 := HO1.grew (g2.trans ((Grew.refl w2).alloc (.cells #[.string (tx B)] 9)))
    go_wp2_with (first | (at_builtin; refine wpList_appStr (w0 := w) _ _ rfl rfl _ [] rfl hO2 (g2.alloc _) _ (tx B) rfl (rd_lit _ _ _) (by simp) ?_; intro v2x w2x hown2 hg2x hgr2))
    have hS3 := Lib.hid hown2.strs
    obtain ⟨A3, c3, rfl⟩ := strs_slice hown2.strs
    have hg3 := hg2x
    clear hO2 hown2 hgr2 hg2x
    rw [rounds_succ]
    go_wp2_with fail
    refine (KN.out _ _ _ hB.out hS3.out).mono ?_
    rintro e w4 ⟨s4, rfl, hs4, hg4⟩
    go_wp2_with fail
    go_ret2
    exact ⟨s4, rfl, hs4, hg3.trans hg4⟩

theorem typeOf_lam (x : Tn) (a : Tm) (hg : Good (.t1 x a)) (h1 : x.1 = 1) (G : List Fm.Tree) (hG : ∀ A ∈ G, FmOk A) (hl : G.length < 12) (IH : TypV a (G ++ [fo x.2.2])) (KN : NodeOne x (fun B => smallF (.imp (fo x.2.2) B))) (va v : Value) (w : World) (hs : Strs w va (G.map tx)) (h : Tms w v (Tr.enc (.t1 x a))) (hn : (Tr.enc (.t1 x a)).length ≤ 60) :
    Calls Tryz.prog 61 #[va, v] w (GivesTy w (tyLam (fo x.2.2) (ty (G ++ [fo x.2.2]) a))) := by
  have KP := Lib.hid (fun W (hW : Grew w W) => inner_o v (.t1 x a) w W h hW hg (by omega))
  have hA := fo_ok (goodN_text hg.1.2 (by rw [h1]; rfl) (by rw [h1]; decide))
  have HOK := fun B hB => ty_ok a hg.2 (G ++ [fo x.2.2]) B (fun D hD => by
    rw [List.mem_append] at hD
    rcases hD with hD | hD
    · exact hG D hD
    · simp at hD; subst hD; exact hA.1) hB
  have KI := fun ub u W (hub : Strs W ub (G.map tx ++ [x.2.2])) hu => IH ub u W (by rw [List.map_append, List.map_singleton, hA.2]; exact hub) hu
  have KB := Lib.hid (fun W (hW : Grew w W) => behind_c va (G.map tx) x.2.2 W (hs.grew hW) (by rw [List.length_map]; omega))
  have hgl : (G.map tx ++ [x.2.2]).length = G.length + 1 := by simp

  obtain ⟨bb, o, c, rfl, hc, hm, hb, hcl⟩ := tms_head h
  have k0 := fun W (hW : Grew w W) => (hcl W hW).1
  have k1 := fun W (hW : Grew w W) => (hcl W hW).2.1
  have k2 := fun W (hW : Grew w W) => (hcl W hW).2.2
  change ∀ W, Grew w W → W.cell? ⟨bb, o, none⟩ = some (.int .i64 x.1) at k0
  change ∀ W, Grew w W → W.cell? ⟨bb, o + 1, none⟩ = some (.int .i64 x.2.1) at k1
  change ∀ W, Grew w W → W.cell? ⟨bb, o + 2, none⟩ = some (.string x.2.2) at k2
  have hpos := Tr.enc_pos (.t1 x a)
  have hr := Grew.refl w
  rw [h1] at k0
  obtain ⟨D, d, rfl⟩ := (strs_map hs).1
  have HU := Lib.hid (fun w' B u us h1 h2 h3 => us_one (w := w) (w' := w') (B := B) (u := u) (us := us) (t := .t1 x a) (a := a) h1 h2 h3 rfl)
  have hkl : Hid ((Tr.kids (.t1 x a)).length = 1) := Lib.hid rfl
  unfold NodeOne at KN
  rw [h1] at KN
  clear hcl h hg IH hs hG h1 hA
  unfold tyLam
  generalize fo x.2.2 = fA at *
  generalize G.map tx = gm at *
  generalize x.2.1 = xn at *
  generalize x.2.2 = xs at *
  generalize (Tr.enc (.t1 x a)).length = n at *
  generalize hRR : ty (G ++ [fA]) a = R at *
  generalize G.length = gl at *
  replace KN := Lib.hid KN
  have hl12 : (gl : Int) + 1 ≤ 12 := by omega
  have HGL := Lib.hid hgl
  clear hgl
  cases R with
  | none =>
    unfold GivesTy at KI
    clear HOK hRR KN
    have HE := Lib.hid (fun w' (h : Grew w w') => none_gives (s := ByteArray.empty) h)
    change Calls _ _ _ _ (GivesTy w none)
    replace KI := Lib.hid KI
    go_enter Tryz.func61, Tryz.ntmps61
    go_wp2_with fail
    refine (KP.out _ hr).mono ?_
    rintro e w1 ⟨u, us, rfl, hU1, hul, hh, hg1⟩
    rw [hkl.out] at hul
    obtain ⟨g, cc, v0, rfl, hc2, hm2, f0, hv0⟩ := HU.out _ _ _ _ hU1 hul hh
    clear hU1 hul hh
    obtain ⟨U, e1, rfl⟩ := tms_slice hv0
    have HV := Lib.hid hv0
    clear hv0
    have r1 := Grew.refl w1
    go_wp2_with fail
    refine (KB.out _ hg1).mono ?_
    rintro e wb ⟨ub, rfl, hob, hgb⟩
    have HB := Lib.hid hob.strs
    obtain ⟨UB, eb, rfl⟩ := strs_slice hob.strs
    rw [HGL.out] at HB ⊢
    clear hob
    have gb := hg1.trans hgb
    have rb := Grew.refl wb
    go_wp2_with fail
    refine wp_loop_rounds 2 ?_; rw [rounds_succ]
    go_wp2_with fail
    refine (KI.out _ _ _ HB.out (HV.out.grew gb)).mono ?_
    rintro e w2 ⟨s2, rfl, _, hg2⟩
    have g2 := gb.trans hg2
    go_wp2_with fail
    go_ret2
    exact HE.out _ g2
  | some B =>
    unfold GivesTy at KI
    have hB := Lib.hid (HOK B rfl)
    clear HOK hRR
    change Calls _ _ _ _ (GivesTy w (smallF (.imp fA B)))
    replace KI := Lib.hid KI
    have HO1 := OwnS.nil_ w w.heap.size
    go_enter Tryz.func61, Tryz.ntmps61
    go_wp2_with fail
    refine (KP.out _ hr).mono ?_
    rintro e w1 ⟨u, us, rfl, hU1, hul, hh, hg1⟩
    rw [hkl.out] at hul
    obtain ⟨g, cc, v0, rfl, hc2, hm2, f0, hv0⟩ := HU.out _ _ _ _ hU1 hul hh
    clear hU1 hul hh
    obtain ⟨U, e1, rfl⟩ := tms_slice hv0
    have HV := Lib.hid hv0
    clear hv0
    have r1 := Grew.refl w1
    go_wp2_with fail
    refine (KB.out _ hg1).mono ?_
    rintro e wb ⟨ub, rfl, hob, hgb⟩
    have HB := Lib.hid hob.strs
    obtain ⟨UB, eb, rfl⟩ := strs_slice hob.strs
    rw [HGL.out] at HB ⊢
    clear hob
    have gb := hg1.trans hgb
    have rb := Grew.refl wb
    go_wp2_with fail
    refine wp_loop_rounds 2 ?_; rw [rounds_succ]
    go_wp2_with fail
    refine (KI.out _ _ _ HB.out (HV.out.grew gb)).mono ?_
    rintro e w2 ⟨s2, rfl, hs2, hg2⟩
    obtain rfl := hs2 B rfl
    clear hs2
    have g2 := gb.trans hg2
    have hO2 := HO1.grew (g2.trans ((Grew.refl w2).alloc (.cells #[.string (tx B)] 9)))
    go_wp2_with (first | (at_builtin; refine wpList_appStr (w0 := w) _ _ rfl rfl _ [] rfl hO2 (g2.alloc _) _ (tx B) rfl (rd_lit _ _ _) (by simp) ?_; intro v2x w2x hown2 hg2x hgr2))
    have hS3 := Lib.hid hown2.strs
    obtain ⟨A3, c3, rfl⟩ := strs_slice hown2.strs
    have hg3 := hg2x
    clear hO2 hown2 hgr2 hg2x
    rw [rounds_succ]
    go_wp2_with fail
    refine (KN.out _ _ _ hB.out hS3.out).mono ?_
    rintro e w4 ⟨s4, rfl, hs4, hg4⟩
    go_wp2_with fail
    go_ret2
    exact ⟨s4, rfl, hs4, hg3.trans hg4⟩

theorem typeOf_full (x : Tn) (a : Tm) (hg : Good (.t1 x a)) (h1 : x.1 = 1) (G : List Fm.Tree) (hG : ∀ A ∈ G, FmOk A) (hl : 12 ≤ G.length ∧ G.length ≤ 12) (va v : Value) (w : World) (hs : Strs w va (G.map tx)) (h : Tms w v (Tr.enc (.t1 x a))) (hn : (Tr.enc (.t1 x a)).length ≤ 60) :
    Calls Tryz.prog 61 #[va, v] w (GivesTy w none) := by
  have KP := Lib.hid (fun W (hW : Grew w W) => inner_o v (.t1 x a) w W h hW hg (by omega))
  have KB := Lib.hid (fun W (hW : Grew w W) => behind_c va (G.map tx) x.2.2 W (hs.grew hW) (by rw [List.length_map]; omega))
  have hgl : Hid ((G.map tx ++ [x.2.2]).length = 13) := Lib.hid (by simp; omega)
  have HE := Lib.hid (fun w' (h : Grew w w') => none_gives (s := ByteArray.empty) h)

  obtain ⟨bb, o, c, rfl, hc, hm, hb, hcl⟩ := tms_head h
  have k0 := fun W (hW : Grew w W) => (hcl W hW).1
  have k1 := fun W (hW : Grew w W) => (hcl W hW).2.1
  have k2 := fun W (hW : Grew w W) => (hcl W hW).2.2
  change ∀ W, Grew w W → W.cell? ⟨bb, o, none⟩ = some (.int .i64 x.1) at k0
  change ∀ W, Grew w W → W.cell? ⟨bb, o + 1, none⟩ = some (.int .i64 x.2.1) at k1
  change ∀ W, Grew w W → W.cell? ⟨bb, o + 2, none⟩ = some (.string x.2.2) at k2
  have hpos := Tr.enc_pos (.t1 x a)
  have hr := Grew.refl w
  rw [h1] at k0
  obtain ⟨D, d, rfl⟩ := (strs_map hs).1
  clear hcl h hg hs hG h1
  generalize G.map tx ++ [x.2.2] = gm at *
  generalize x.2.1 = xn at *
  generalize x.2.2 = xs at *
  have hkl : Hid ((Tr.kids (.t1 x a)).length = 1) := Lib.hid rfl
  generalize (Tr.enc (.t1 x a)).length = n at *
  generalize G.length = gl at *
  go_enter Tryz.func61, Tryz.ntmps61
  go_wp2_with fail
  refine (KP.out _ hr).mono ?_
  rintro e w1 ⟨u, us, rfl, hU1, hul, hh, hg1⟩
  rw [hkl.out] at hul
  obtain ⟨g, cc, rfl, hc2, hm2, hB2, hg2⟩ := hU1.open_ (by omega)
  rw [hul]
  clear hul hh hU1
  go_wp2_with fail
  refine (KB.out _ hg1).mono ?_
  rintro e wb ⟨ub, rfl, hob, hgb⟩
  obtain ⟨UB, eb, rfl⟩ := strs_slice hob.strs
  rw [hgl.out]
  clear hob
  go_wp2_with fail
  go_ret2
  exact HE.out _ (hg1.trans hgb)

theorem typeOf_two (x : Tn) (a b : Tm) (hg : Good (.t2 x a b)) (h0 : x.1 ≠ 0) (h8 : x.1 ≠ 8) (h1 : x.1 ≠ 1) (f : Fm.Tree → Fm.Tree → Option Fm.Tree) (G : List Fm.Tree) (hG : ∀ A ∈ G, FmOk A) (hl : G.length ≤ 12) (IHa : TypV a G) (IHb : TypV b G) (KN : NodeTwo x f) (va v : Value) (w : World) (hs : Strs w va (G.map tx)) (h : Tms w v (Tr.enc (.t2 x a b))) (hn : (Tr.enc (.t2 x a b)).length ≤ 60) :
    Calls Tryz.prog 61 #[va, v] w (GivesTy w ((ty G a).bind fun C => (ty G b).bind fun D => f C D)) := by
  have KP := Lib.hid (fun W (hW : Grew w W) => inner_o v (.t2 x a b) w W h hW hg (by omega))
  have HA := fun B hB => ty_ok a hg.2.1 G B hG hB
  have HB := fun B hB => ty_ok b hg.2.2 G B hG hB
  have KI := fun u W (hW : Grew w W) hu => IHa va u W (hs.grew hW) hu
  have KJ := fun u W (hW : Grew w W) hu => IHb va u W (hs.grew hW) hu

  obtain ⟨bb, o, c, rfl, hc, hm, hb, hcl⟩ := tms_head h
  have k0 := fun W (hW : Grew w W) => (hcl W hW).1
  have k1 := fun W (hW : Grew w W) => (hcl W hW).2.1
  have k2 := fun W (hW : Grew w W) => (hcl W hW).2.2
  change ∀ W, Grew w W → W.cell? ⟨bb, o, none⟩ = some (.int .i64 x.1) at k0
  change ∀ W, Grew w W → W.cell? ⟨bb, o + 1, none⟩ = some (.int .i64 x.2.1) at k1
  change ∀ W, Grew w W → W.cell? ⟨bb, o + 2, none⟩ = some (.string x.2.2) at k2
  have hpos := Tr.enc_pos (.t2 x a b)
  have hr := Grew.refl w
  have b0 : (x.1 == 0) = false := by simpa using h0
  have b8 : (x.1 == 8) = false := by simpa using h8
  have b1 : (x.1 == 1) = false := by simpa using h1
  obtain ⟨D, d, rfl⟩ := (strs_map hs).1
  have HU := Lib.hid (fun w' B u us h1 h2 h3 => us_two (w := w) (w' := w') (B := B) (u := u) (us := us) (t := .t2 x a b) (a := a) (b := b) h1 h2 h3 rfl rfl)
  have hkl : Hid ((Tr.kids (.t2 x a b)).length = 2) := Lib.hid rfl
  unfold NodeTwo at KN
  clear hcl h hg IHa IHb hs hG h0 h8 h1
  generalize x.1 = xk at *
  generalize x.2.1 = xn at *
  generalize x.2.2 = xs at *
  generalize (Tr.enc (.t2 x a b)).length = n at *
  generalize ty G a = R at *
  generalize ty G b = S at *
  generalize G.length = gl at *
  replace KN := Lib.hid KN
  have hl12 : (gl : Int) ≤ 12 := by omega
  unfold GivesTy at KI KJ
  cases R with
  | none =>
    clear HA HB KN KJ
    change Calls _ _ _ _ (GivesTy w none)
    have HE := Lib.hid (fun w' (h : Grew w w') => none_gives (s := ByteArray.empty) h)
    replace KI := Lib.hid KI
    go_enter Tryz.func61, Tryz.ntmps61
    go_wp2_with fail
    refine (KP.out _ hr).mono ?_
    rintro e w1 ⟨u, us, rfl, hU1, hul, hh, hg1⟩
    rw [hkl.out] at hul
    obtain ⟨g, cc, v0, v1, rfl, hc2, hm2, f0, f1, hv0, hv1⟩ := HU.out _ _ _ _ hU1 hul hh
    clear hU1 hul hh
    obtain ⟨U, e1, rfl⟩ := tms_slice hv0
    obtain ⟨U1, e2, rfl⟩ := tms_slice hv1
    have HV := Lib.hid hv0
    have HV1 := Lib.hid hv1
    clear hv0 hv1
    have r1 := Grew.refl w1
    go_wp2_with fail
    refine wp_loop_rounds 3 ?_; rw [rounds_succ]
    go_wp2_with fail
    refine (KI.out _ _ hg1 (HV.out.grew hg1)).mono ?_
    rintro e w2 ⟨s2, rfl, _, hg2⟩
    have g2 := hg1.trans hg2
    go_wp2_with fail
    go_ret2
    exact HE.out _ g2
  | some B =>
    have hB := Lib.hid (HA B rfl)
    have HO1 := OwnS.nil_ w w.heap.size
    replace KI := Lib.hid KI
    replace KJ := Lib.hid KJ
    cases S with
    | none =>
      clear HA HB KN
      change Calls _ _ _ _ (GivesTy w none)
      have HE := Lib.hid (fun w' (h : Grew w w') => none_gives (s := ByteArray.empty) h)
      go_enter Tryz.func61, Tryz.ntmps61
      go_wp2_with fail
      refine (KP.out _ hr).mono ?_
      rintro e w1 ⟨u, us, rfl, hU1, hul, hh, hg1⟩
      rw [hkl.out] at hul
      obtain ⟨g, cc, v0, v1, rfl, hc2, hm2, f0, f1, hv0, hv1⟩ := HU.out _ _ _ _ hU1 hul hh
      clear hU1 hul hh
      obtain ⟨U, e1, rfl⟩ := tms_slice hv0
      obtain ⟨U1, e2, rfl⟩ := tms_slice hv1
      have HV := Lib.hid hv0
      have HV1 := Lib.hid hv1
      clear hv0 hv1
      have r1 := Grew.refl w1
      go_wp2_with fail
      refine wp_loop_rounds 3 ?_; rw [rounds_succ]
      go_wp2_with fail
      refine (KI.out _ _ hg1 (HV.out.grew hg1)).mono ?_
      rintro e w2 ⟨s2, rfl, hs2, hg2⟩
      obtain rfl := hs2 B rfl
      clear hs2
      have g2 := hg1.trans hg2
      have hO2 := HO1.grew (g2.trans ((Grew.refl w2).alloc (.cells #[.string (tx B)] 9)))
      go_wp2_with (first | (at_builtin; refine wpList_appStr (w0 := w) _ _ rfl rfl _ [] rfl hO2 (g2.alloc _) _ (tx B) rfl (rd_lit _ _ _) (by simp) ?_; intro v2x w2x hown2 hg2x hgr2))
      have hk2 : Grew w1 w2x := (hg2.trans ((Grew.refl w2).alloc (.cells #[.string (tx B)] 9))).trans (by
        have hq : (w2.alloc (.cells #[.string (tx B)] 9)).grownBy w2x none := hgr2
        exact ⟨hq.os, hq.tape, hq.output, hq.size, fun i hi => hq.block i hi (by simp)⟩)
      have HO3 := hown2
      obtain ⟨A3, c3, rfl⟩ := strs_slice hown2.strs
      clear hO2 hown2 hgr2
      rw [rounds_succ]
      go_wp2_with fail
      refine (KJ.out _ _ hg2x (HV1.out.grew hg2x)).mono ?_
      rintro e w4 ⟨s4, rfl, _, hg4⟩
      have g4 := hg2x.trans hg4
      go_wp2_with fail
      go_ret2
      exact HE.out _ g4
    | some C =>
      have hC := Lib.hid (HB C rfl)
      clear HA HB
      change Calls _ _ _ _ (GivesTy w (f B C))
      go_enter Tryz.func61, Tryz.ntmps61
      go_wp2_with fail
      refine (KP.out _ hr).mono ?_
      rintro e w1 ⟨u, us, rfl, hU1, hul, hh, hg1⟩
      rw [hkl.out] at hul
      obtain ⟨g, cc, v0, v1, rfl, hc2, hm2, f0, f1, hv0, hv1⟩ := HU.out _ _ _ _ hU1 hul hh
      clear hU1 hul hh
      obtain ⟨U, e1, rfl⟩ := tms_slice hv0
      obtain ⟨U1, e2, rfl⟩ := tms_slice hv1
      have HV := Lib.hid hv0
      have HV1 := Lib.hid hv1
      clear hv0 hv1
      have r1 := Grew.refl w1
      go_wp2_with fail
      refine wp_loop_rounds 3 ?_; rw [rounds_succ]
      go_wp2_with fail
      refine (KI.out _ _ hg1 (HV.out.grew hg1)).mono ?_
      rintro e w2 ⟨s2, rfl, hs2, hg2⟩
      obtain rfl := hs2 B rfl
      clear hs2
      have g2 := hg1.trans hg2
      have hO2 := HO1.grew (g2.trans ((Grew.refl w2).alloc (.cells #[.string (tx B)] 9)))
      go_wp2_with (first | (at_builtin; refine wpList_appStr (w0 := w) _ _ rfl rfl _ [] rfl hO2 (g2.alloc _) _ (tx B) rfl (rd_lit _ _ _) (by simp) ?_; intro v2x w2x hown2 hg2x hgr2))
      have hk2 : Grew w1 w2x := (hg2.trans ((Grew.refl w2).alloc (.cells #[.string (tx B)] 9))).trans (by
        have hq : (w2.alloc (.cells #[.string (tx B)] 9)).grownBy w2x none := hgr2
        exact ⟨hq.os, hq.tape, hq.output, hq.size, fun i hi => hq.block i hi (by simp)⟩)
      have HO3 := hown2
      obtain ⟨A3, c3, rfl⟩ := strs_slice hown2.strs
      clear hO2 hown2 hgr2
      rw [rounds_succ]
      go_wp2_with fail
      refine (KJ.out _ _ hg2x (HV1.out.grew hg2x)).mono ?_
      rintro e w4 ⟨s4, rfl, hs4, hg4⟩
      obtain rfl := hs4 C rfl
      clear hs4
      have g4 := hg2x.trans hg4
      have hO5 := HO3.grew (hg4.trans ((Grew.refl w4).alloc (.cells #[.string (tx C)] 9)))
      go_wp2_with (first | (at_builtin; refine wpList_appStr (w0 := w) _ _ rfl rfl _ [tx B] rfl hO5 (g4.alloc _) _ (tx C) rfl (rd_lit _ _ _) (by simp) ?_; intro v5x w5x hown5 hg5x hgr5))
      have hS5 := Lib.hid hown5.strs
      obtain ⟨A5, c5, rfl⟩ := strs_slice hown5.strs
      have g5 := hg5x
      clear hO5 hown5 hgr5 hg5x
      rw [rounds_succ]
      go_wp2_with fail
      refine (KN.out _ _ _ _ hB.out hC.out hS5.out).mono ?_
      rintro e w6 ⟨s6, rfl, hs6, hg6⟩
      go_wp2_with fail
      go_ret2
      exact ⟨s6, rfl, hs6, g5.trans hg6⟩
end Go.Proofs.YthofkdpmgjkgkaaGreat

/- typeOf of the program at a case. -/
namespace Go.Proofs.YthofkdpmgjkgkaaGreat
open Go.RowKit
open Tr (Tm)

set_option maxHeartbeats 2000000 in
theorem typeOfCase_c (c0 a b : Tm) (G : List Fm.Tree) (hl : G.length ≤ 12) (HOC : ∀ C, ty G c0 = some C → FmOk C) (HOA : ∀ A, FmOk A → ∀ B, ty (G ++ [A]) a = some B → FmOk B) (HOB : ∀ A, FmOk A → ∀ B, ty (G ++ [A]) b = some B → FmOk B) (IHc : TypV c0 G) (IHa : ∀ A, FmOk A → G.length < 12 → TypV a (G ++ [A])) (IHb : ∀ A, FmOk A → G.length < 12 → TypV b (G ++ [A])) (va : Value) (w0 w : World) (hs : Strs w0 va (G.map tx)) (hw : Grew w0 w) (g c : Nat) (v0 v1 v2 : Value) (hc : 3 ≤ c) (hm : c ≤ 9223372036854775807)
    (f0 : ∀ W, Grew w W → W.cell? ⟨g, 0, none⟩ = some v0) (f1 : ∀ W, Grew w W → W.cell? ⟨g, 1, none⟩ = some v1) (f2 : ∀ W, Grew w W → W.cell? ⟨g, 2, none⟩ = some v2) (h0 : Tms w0 v0 (Tr.enc c0)) (h1 : Tms w0 v1 (Tr.enc a)) (h2 : Tms w0 v2 (Tr.enc b)) :
    Calls Tryz.prog 106 #[va, .slice (some ⟨g, 0, none⟩) 3 c] w (GivesTy w ((ty G c0).bind (tyCs G a b))) := by
  have KI := fun W (hW : Grew w W) => IHc va v0 W (hs.grew (hw.trans hW)) (h0.grew (hw.trans hW))
  have KB := Lib.hid (fun s W (hW : Grew w W) => behind_c va (G.map tx) s W (hs.grew (hw.trans hW)) (by rw [List.length_map]; omega))
  have KA := fun A (hA : FmOk A) (h12 : G.length < 12) ub W (hW : Grew w W) (hub : Strs W ub (G.map tx ++ [tx A])) => IHa A hA h12 ub v1 W (by rw [List.map_append, List.map_singleton]; exact hub) (h1.grew (hw.trans hW))
  have KC := fun A (hA : FmOk A) (h12 : G.length < 12) ub W (hW : Grew w W) (hub : Strs W ub (G.map tx ++ [tx A])) => IHb A hA h12 ub v2 W (by rw [List.map_append, List.map_singleton]; exact hub) (h2.grew (hw.trans hW))
  have HL := Lib.hid (fun s => (by simp : (G.map tx ++ [s]).length = G.length + 1))
  have r0 := Grew.refl w
  obtain ⟨D, d, rfl⟩ := (strs_map hs).1
  obtain ⟨U0, e0, rfl⟩ := tms_slice h0
  obtain ⟨U1, e1, rfl⟩ := tms_slice h1
  obtain ⟨U2, e2, rfl⟩ := tms_slice h2
  clear hs h0 h1 h2 IHc IHa IHb hw
  unfold GivesTy at KI KA KC
  generalize (Tr.enc c0).length = n0 at *
  generalize (Tr.enc a).length = n1 at *
  generalize (Tr.enc b).length = n2 at *
  generalize hRC : ty G c0 = rc at *
  clear hRC
  cases rc with
  | none =>
    change Calls _ _ _ _ (GivesTy w none)
    have HE := Lib.hid (fun w' (h : Grew w w') => none_gives (s := ByteArray.empty) h)
    clear HOC HOA HOB KA KC KB HL
    generalize G.length = gl at *
    replace KI := Lib.hid KI
    go_enter Tryz.func106, Tryz.ntmps106
    go_wp2_with fail
    refine (KI.out _ r0).mono ?_
    rintro e w2 ⟨s1, rfl, _, hg1⟩
    go_wp2_with fail
    go_ret2
    exact HE.out _ hg1
  | some C =>
    have hC := HOC C rfl
    clear HOC
    by_cases h12 : G.length < 12
    · have hlt : (G.length : Int) < 12 := by omega
      by_cases hk3 : kindOf C = 3
      · obtain ⟨p, q, rfl⟩ : ∃ p q, C = .or p q := by
          cases C with
          | or p q => exact ⟨p, q, rfl⟩
          | _ => simp [kindOf] at hk3
        clear hk3
        obtain ⟨hp, hq⟩ := fmOk_or hC
        have KP := Lib.hid (fun w => partsWith_two 3 (.or p q) p q w hC rfl (.inr (.inl rfl)))
        have hk2 : (kindOf (.or p q) == 3) = true := rfl
        rw [hk2] at KP
        replace KA := KA p hp h12
        replace KC := KC q hq h12
        have hR : ((some (Fm.Tree.or p q)).bind (tyCs G a b)) = ((ty (G ++ [p]) a).bind fun R => (ty (G ++ [q]) b).bind fun S => if @decide (R = S) (Classical.propDecidable _) then some R else none) := by rw [Option.bind_some, tyCs, if_pos h12]
        rw [hR]
        replace HOA := HOA p hp
        replace HOB := HOB q hq
        clear hR hp hq h12 hk2 hC
        generalize ty (G ++ [p]) a = ra at *
        generalize ty (G ++ [q]) b = rb at *
        have HL1 := Lib.hid (HL.out (tx p))
        have HL2 := Lib.hid (HL.out (tx q))
        have KB1 := Lib.hid (KB.out (tx p))
        have KB2 := Lib.hid (KB.out (tx q))
        clear KB HL
        generalize G.map tx ++ [tx p] = Lp at *
        generalize G.map tx ++ [tx q] = Lq at *
        generalize tx p = tp at *
        generalize tx q = tq at *
        generalize G.length = gl at *
        replace KI := Lib.hid KI
        unfold GivesS at KB1 KB2
        replace KA := Lib.hid KA
        replace KC := Lib.hid KC
        cases ra with
        | none =>
          change Calls _ _ _ _ (GivesTy w none)
          have HE := Lib.hid (fun s w' (h : Grew w w') => none_gives (s := s) h)
          clear HOA HOB
          go_enter Tryz.func106, Tryz.ntmps106
          go_wp2_with fail
          refine (KI.out _ r0).mono ?_
          rintro e w1 ⟨s1, rfl, hs1, hg1⟩
          obtain rfl := hs1 _ rfl
          clear hs1
          go_wp2_with fail
          refine (KP.out _).mono ?_
          rintro e w2 ⟨u2, rfl, ho2, hg2⟩
          have g2 := hg1.trans hg2
          obtain ⟨b1, o1, c1, rfl, hc1, hm1, hb1, hf1⟩ := strs_two ho2.strs
          clear ho2
          have k1 := fun W (hW : Grew w2 W) => (hf1 W hW).1
          have k2 := fun W (hW : Grew w2 W) => (hf1 W hW).2
          clear hf1
          have r2 := Grew.refl w2
          have d2 := r2.drew
          have f1a := fun W (hW : Grew w2 W) => f1 W (g2.trans hW)
          have f2a := fun W (hW : Grew w2 W) => f2 W (g2.trans hW)
          have gd2 := g2.trans d2
          go_wp2_with fail
          go_region_held3 (fun w' => Grew w2 w') (with_reducible assumption)
            (first
              | (go_at_call 61; refine (KA.out _ _ gk3 HB3.out).mono ?_; rintro e w4 ⟨s4, rfl, hs4, hg4⟩; have gk4 := gk3.trans hg4; have hk4 := hk3.trans hg4)
              | (go_at_call 107; refine (KB1.out _ gd2).mono ?_; rintro e w3 ⟨ub, rfl, hob, hg3⟩; have HB3 := Lib.hid hob.strs; obtain ⟨X3, x3, rfl⟩ := strs_slice hob.strs; rw [HL1.out] at HB3 ⊢; clear hob; have gk3 := gd2.trans hg3; have hk3 := d2.trans hg3))
          clear f1a f2a gd2 r2 d2
          have r4 := Grew.refl w4
          have d4 := r4.drew
          have f2b := fun W (hW : Grew w4 W) => f2 W (gk4.trans hW)
          have k2b := fun W (hW : Grew w4 W) => k2 W (hk4.trans hW)
          have gd4 := gk4.trans d4
          have HS4 := Lib.hid hs4
          clear hs4
          go_wp2_with fail
          go_region_held3 (fun w' => Grew w4 w') (with_reducible assumption)
            (first
              | (go_at_call 61; refine (KC.out _ _ gk5 HB5.out).mono ?_; rintro e w6 ⟨s6, rfl, hs6, hg6⟩; have gk6 := gk5.trans hg6; have hk6 := hk5.trans hg6)
              | (go_at_call 107; refine (KB2.out _ gd4).mono ?_; rintro e w5 ⟨ub5, rfl, hob5, hg5⟩; have HB5 := Lib.hid hob5.strs; obtain ⟨X5, x5, rfl⟩ := strs_slice hob5.strs; rw [HL2.out] at HB5 ⊢; clear hob5; have gk5 := gd4.trans hg5; have hk5 := d4.trans hg5))
          have HS6 := Lib.hid hs6
          clear hs6
          go_wp2_with fail
          go_ret2
          exact HE.out _ _ gk6
        | some R =>
          cases rb with
          | none =>
            change Calls _ _ _ _ (GivesTy w none)
            have HE := Lib.hid (fun s w' (h : Grew w w') => none_gives (s := s) h)
            clear HOA HOB
            go_enter Tryz.func106, Tryz.ntmps106
            go_wp2_with fail
            refine (KI.out _ r0).mono ?_
            rintro e w1 ⟨s1, rfl, hs1, hg1⟩
            obtain rfl := hs1 _ rfl
            clear hs1
            go_wp2_with fail
            refine (KP.out _).mono ?_
            rintro e w2 ⟨u2, rfl, ho2, hg2⟩
            have g2 := hg1.trans hg2
            obtain ⟨b1, o1, c1, rfl, hc1, hm1, hb1, hf1⟩ := strs_two ho2.strs
            clear ho2
            have k1 := fun W (hW : Grew w2 W) => (hf1 W hW).1
            have k2 := fun W (hW : Grew w2 W) => (hf1 W hW).2
            clear hf1
            have r2 := Grew.refl w2
            have d2 := r2.drew
            have f1a := fun W (hW : Grew w2 W) => f1 W (g2.trans hW)
            have f2a := fun W (hW : Grew w2 W) => f2 W (g2.trans hW)
            have gd2 := g2.trans d2
            go_wp2_with fail
            go_region_held3 (fun w' => Grew w2 w') (with_reducible assumption)
              (first
                | (go_at_call 61; refine (KA.out _ _ gk3 HB3.out).mono ?_; rintro e w4 ⟨s4, rfl, hs4, hg4⟩; have gk4 := gk3.trans hg4; have hk4 := hk3.trans hg4)
                | (go_at_call 107; refine (KB1.out _ gd2).mono ?_; rintro e w3 ⟨ub, rfl, hob, hg3⟩; have HB3 := Lib.hid hob.strs; obtain ⟨X3, x3, rfl⟩ := strs_slice hob.strs; rw [HL1.out] at HB3 ⊢; clear hob; have gk3 := gd2.trans hg3; have hk3 := d2.trans hg3))
            clear f1a f2a gd2 r2 d2
            have r4 := Grew.refl w4
            have d4 := r4.drew
            have f2b := fun W (hW : Grew w4 W) => f2 W (gk4.trans hW)
            have k2b := fun W (hW : Grew w4 W) => k2 W (hk4.trans hW)
            have gd4 := gk4.trans d4
            have HS4 := Lib.hid hs4
            clear hs4
            go_wp2_with fail
            go_region_held3 (fun w' => Grew w4 w') (with_reducible assumption)
              (first
                | (go_at_call 61; refine (KC.out _ _ gk5 HB5.out).mono ?_; rintro e w6 ⟨s6, rfl, hs6, hg6⟩; have gk6 := gk5.trans hg6; have hk6 := hk5.trans hg6)
                | (go_at_call 107; refine (KB2.out _ gd4).mono ?_; rintro e w5 ⟨ub5, rfl, hob5, hg5⟩; have HB5 := Lib.hid hob5.strs; obtain ⟨X5, x5, rfl⟩ := strs_slice hob5.strs; rw [HL2.out] at HB5 ⊢; clear hob5; have gk5 := gd4.trans hg5; have hk5 := d4.trans hg5))
            have HS6 := Lib.hid hs6
            clear hs6
            go_wp2_with fail
            go_ret2
            exact HE.out _ _ gk6
          | some S =>
            have hR1 := (HOA R rfl).1
            have hS1 := (HOB S rfl).1
            clear HOA HOB
            have hpost : (some R).bind (fun R => (some S).bind fun S => if @decide (R = S) (Classical.propDecidable _) then some R else none) = if @decide (R = S) (Classical.propDecidable _) then some R else none := rfl
            rw [hpost]
            clear hpost
            by_cases hRS : R = S
            · subst hRS
              rw [if_pos (by simp)]
              have HE := Lib.hid (fun w' (h : Grew w w') => some_gives (A := R) h)
              have hx : ((tx R).toList == (tx R).toList) = true := by simp
              go_enter Tryz.func106, Tryz.ntmps106
              go_wp2_with fail
              refine (KI.out _ r0).mono ?_
              rintro e w1 ⟨s1, rfl, hs1, hg1⟩
              obtain rfl := hs1 _ rfl
              clear hs1
              go_wp2_with fail
              refine (KP.out _).mono ?_
              rintro e w2 ⟨u2, rfl, ho2, hg2⟩
              have g2 := hg1.trans hg2
              obtain ⟨b1, o1, c1, rfl, hc1, hm1, hb1, hf1⟩ := strs_two ho2.strs
              clear ho2
              have k1 := fun W (hW : Grew w2 W) => (hf1 W hW).1
              have k2 := fun W (hW : Grew w2 W) => (hf1 W hW).2
              clear hf1
              have r2 := Grew.refl w2
              have d2 := r2.drew
              have f1a := fun W (hW : Grew w2 W) => f1 W (g2.trans hW)
              have f2a := fun W (hW : Grew w2 W) => f2 W (g2.trans hW)
              have gd2 := g2.trans d2
              go_wp2_with fail
              go_region_held3 (fun w' => Grew w2 w') (with_reducible assumption)
                (first
                  | (go_at_call 61; refine (KA.out _ _ gk3 HB3.out).mono ?_; rintro e w4 ⟨s4, rfl, hs4, hg4⟩; have gk4 := gk3.trans hg4; have hk4 := hk3.trans hg4)
                  | (go_at_call 107; refine (KB1.out _ gd2).mono ?_; rintro e w3 ⟨ub, rfl, hob, hg3⟩; have HB3 := Lib.hid hob.strs; obtain ⟨X3, x3, rfl⟩ := strs_slice hob.strs; rw [HL1.out] at HB3 ⊢; clear hob; have gk3 := gd2.trans hg3; have hk3 := d2.trans hg3))
              clear f1a f2a gd2 r2 d2
              have r4 := Grew.refl w4
              have d4 := r4.drew
              have f2b := fun W (hW : Grew w4 W) => f2 W (gk4.trans hW)
              have k2b := fun W (hW : Grew w4 W) => k2 W (hk4.trans hW)
              have gd4 := gk4.trans d4
              have HS4 := Lib.hid hs4
              clear hs4
              go_wp2_with fail
              go_region_held3 (fun w' => Grew w4 w') (with_reducible assumption)
                (first
                  | (go_at_call 61; refine (KC.out _ _ gk5 HB5.out).mono ?_; rintro e w6 ⟨s6, rfl, hs6, hg6⟩; have gk6 := gk5.trans hg6; have hk6 := hk5.trans hg6)
                  | (go_at_call 107; refine (KB2.out _ gd4).mono ?_; rintro e w5 ⟨ub5, rfl, hob5, hg5⟩; have HB5 := Lib.hid hob5.strs; obtain ⟨X5, x5, rfl⟩ := strs_slice hob5.strs; rw [HL2.out] at HB5 ⊢; clear hob5; have gk5 := gd4.trans hg5; have hk5 := d4.trans hg5))
              have HS6 := Lib.hid hs6
              clear hs6
              obtain rfl := HS4.out _ rfl
              obtain rfl := HS6.out _ rfl
              go_wp2_with fail
              go_ret2
              exact HE.out _ gk6
            · rw [if_neg (by simp [hRS])]
              have HE := Lib.hid (fun s w' (h : Grew w w') => none_gives (s := s) h)
              have hneq : tx R ≠ tx S := fun hh => hRS (tx_inj hR1 hS1 hh)
              have hb1 : ((tx R).toList == (tx S).toList) = false := by
                cases hq : ((tx R).toList == (tx S).toList) with
                | false => rfl
                | true => exact absurd ((Lib.bytes_beq_iff _ _).1 hq) hneq
              clear hneq hRS hR1 hS1
              go_enter Tryz.func106, Tryz.ntmps106
              go_wp2_with fail
              refine (KI.out _ r0).mono ?_
              rintro e w1 ⟨s1, rfl, hs1, hg1⟩
              obtain rfl := hs1 _ rfl
              clear hs1
              go_wp2_with fail
              refine (KP.out _).mono ?_
              rintro e w2 ⟨u2, rfl, ho2, hg2⟩
              have g2 := hg1.trans hg2
              obtain ⟨b1, o1, c1, rfl, hc1, hm1, hb1, hf1⟩ := strs_two ho2.strs
              clear ho2
              have k1 := fun W (hW : Grew w2 W) => (hf1 W hW).1
              have k2 := fun W (hW : Grew w2 W) => (hf1 W hW).2
              clear hf1
              have r2 := Grew.refl w2
              have d2 := r2.drew
              have f1a := fun W (hW : Grew w2 W) => f1 W (g2.trans hW)
              have f2a := fun W (hW : Grew w2 W) => f2 W (g2.trans hW)
              have gd2 := g2.trans d2
              go_wp2_with fail
              go_region_held3 (fun w' => Grew w2 w') (with_reducible assumption)
                (first
                  | (go_at_call 61; refine (KA.out _ _ gk3 HB3.out).mono ?_; rintro e w4 ⟨s4, rfl, hs4, hg4⟩; have gk4 := gk3.trans hg4; have hk4 := hk3.trans hg4)
                  | (go_at_call 107; refine (KB1.out _ gd2).mono ?_; rintro e w3 ⟨ub, rfl, hob, hg3⟩; have HB3 := Lib.hid hob.strs; obtain ⟨X3, x3, rfl⟩ := strs_slice hob.strs; rw [HL1.out] at HB3 ⊢; clear hob; have gk3 := gd2.trans hg3; have hk3 := d2.trans hg3))
              clear f1a f2a gd2 r2 d2
              have r4 := Grew.refl w4
              have d4 := r4.drew
              have f2b := fun W (hW : Grew w4 W) => f2 W (gk4.trans hW)
              have k2b := fun W (hW : Grew w4 W) => k2 W (hk4.trans hW)
              have gd4 := gk4.trans d4
              have HS4 := Lib.hid hs4
              clear hs4
              go_wp2_with fail
              go_region_held3 (fun w' => Grew w4 w') (with_reducible assumption)
                (first
                  | (go_at_call 61; refine (KC.out _ _ gk5 HB5.out).mono ?_; rintro e w6 ⟨s6, rfl, hs6, hg6⟩; have gk6 := gk5.trans hg6; have hk6 := hk5.trans hg6)
                  | (go_at_call 107; refine (KB2.out _ gd4).mono ?_; rintro e w5 ⟨ub5, rfl, hob5, hg5⟩; have HB5 := Lib.hid hob5.strs; obtain ⟨X5, x5, rfl⟩ := strs_slice hob5.strs; rw [HL2.out] at HB5 ⊢; clear hob5; have gk5 := gd4.trans hg5; have hk5 := d4.trans hg5))
              have HS6 := Lib.hid hs6
              clear hs6
              obtain rfl := HS4.out _ rfl
              obtain rfl := HS6.out _ rfl
              go_wp2_with fail
              go_ret2
              exact HE.out _ _ gk6
      · have hkb : (kindOf C == 3) = false := by simpa using hk3
        have KP := Lib.hid (fun w => partsWith_not 3 C w hC hkb)
        have HE := Lib.hid (fun w' (h : Grew w w') => (by rw [Option.bind_some, tyCs_not hkb]; exact none_gives (s := ByteArray.empty) h : GivesTy w ((some C).bind (tyCs G a b)) (.returned (.tuple #[.string ByteArray.empty, .bool false])) w'))
        generalize (some C).bind (tyCs G a b) = rr at *
        clear HOA HOB KA KC KB HL hC hk3 hkb h12
        generalize G.length = gl at *
        replace KI := Lib.hid KI
        go_enter Tryz.func106, Tryz.ntmps106
        go_wp2_with fail
        refine (KI.out _ r0).mono ?_
        rintro e w1 ⟨s1, rfl, hs1, hg1⟩
        obtain rfl := hs1 _ rfl
        clear hs1
        go_wp2_with fail
        refine (KP.out _).mono ?_
        rintro e w2 ⟨u2, rfl, ⟨X, x, y, rfl⟩, hg2⟩
        go_wp2_with fail
        go_ret2
        exact HE.out _ (hg1.trans hg2)
    · have hge : G.length = 12 := by omega
      have HE := Lib.hid (fun w' (h : Grew w w') => (by
        have : (some C).bind (tyCs G a b) = none := by
          rw [Option.bind_some]
          cases C with
          | or p q => rw [tyCs, if_neg h12]
          | _ => rfl
        rw [this]; exact none_gives (s := ByteArray.empty) h : GivesTy w ((some C).bind (tyCs G a b)) (.returned (.tuple #[.string ByteArray.empty, .bool false])) w'))
      generalize (some C).bind (tyCs G a b) = rr at *
      clear HOA HOB KA KC KB HL hC h12
      have hge2 : ((G.length : Int) == 12) = true := by rw [hge]; rfl
      rw [hge] at KI ⊢
      clear hge hge2
      replace KI := Lib.hid KI
      go_enter Tryz.func106, Tryz.ntmps106
      go_wp2_with fail
      refine (KI.out _ r0).mono ?_
      rintro e w1 ⟨s1, rfl, hs1, hg1⟩
      clear hs1
      go_wp2_with fail
      go_ret2
      exact HE.out _ hg1
end Go.Proofs.YthofkdpmgjkgkaaGreat

/- typeOf of every term. -/
namespace Go.Proofs.YthofkdpmgjkgkaaGreat
open Go.RowKit
open Tr (Tm)

theorem typeOf_case (x : Tn) (c0 a b : Tm) (hg : Good (.t3 x c0 a b)) (hk : x.1 = 8) (G : List Fm.Tree) (hG : ∀ A ∈ G, FmOk A) (hl : G.length ≤ 12) (IHc : TypV c0 G) (IHa : ∀ A, FmOk A → G.length < 12 → TypV a (G ++ [A])) (IHb : ∀ A, FmOk A → G.length < 12 → TypV b (G ++ [A])) (va v : Value) (w : World) (hs : Strs w va (G.map tx)) (h : Tms w v (Tr.enc (.t3 x c0 a b))) (hn : (Tr.enc (.t3 x c0 a b)).length ≤ 60) :
    Calls Tryz.prog 61 #[va, v] w (GivesTy w (ty G (.t3 x c0 a b))) := by
  rw [ty_case]
  have KP := Lib.hid (fun W (hW : Grew w W) => inner_o v (.t3 x c0 a b) w W h hW hg (by omega))
  have hgl : ∀ A, FmOk A → ∀ B ∈ G ++ [A], FmOk B := fun A hA B hB => by
    rw [List.mem_append] at hB
    rcases hB with hB | hB
    · exact hG B hB
    · simp at hB; subst hB; exact hA
  have KC := Lib.hid (fun w1 g c v0 v1 v2 hw hc hm f0 f1 f2 h0 h1 h2 => typeOfCase_c c0 a b G hl (fun B hB => ty_ok c0 hg.2.1 G B hG hB) (fun A hA B hB => ty_ok a hg.2.2.1 (G ++ [A]) B (hgl A hA) hB) (fun A hA B hB => ty_ok b hg.2.2.2 (G ++ [A]) B (hgl A hA) hB) IHc IHa IHb va w w1 hs hw g c v0 v1 v2 hc hm f0 f1 f2 h0 h1 h2)
  obtain ⟨bb, o, c, rfl, hc, hm, hb, hcl⟩ := tms_head h
  have k0 := fun W (hW : Grew w W) => (hcl W hW).1
  change ∀ W, Grew w W → W.cell? ⟨bb, o, none⟩ = some (.int .i64 x.1) at k0
  rw [hk] at k0
  have hpos := Tr.enc_pos (.t3 x c0 a b)
  have hr := Grew.refl w
  obtain ⟨D, d, rfl⟩ := (strs_map hs).1
  have hkl : Hid ((Tr.kids (.t3 x c0 a b)).length = 3) := Lib.hid rfl
  have hkid : Hid (Tr.kid (.t3 x c0 a b) 0 = c0 ∧ Tr.kid (.t3 x c0 a b) 1 = a ∧ Tr.kid (.t3 x c0 a b) 2 = b) := Lib.hid ⟨rfl, rfl, rfl⟩
  clear hcl h hg IHa IHb IHc hs hG hgl hk
  generalize (Tr.enc (.t3 x c0 a b)).length = n at *
  generalize (ty G c0).bind (tyCs G a b) = R at *
  generalize G.length = gl at *
  unfold GivesTy at KC
  go_enter Tryz.func61, Tryz.ntmps61
  go_wp2_with fail
  refine (KP.out _ hr).mono ?_
  rintro e w1 ⟨u, us, rfl, hU1, hul, hh, hg1⟩
  rw [hkl.out] at hul
  obtain ⟨g, cc, rfl, hc2, hm2, hB2, hg2⟩ := hU1.open_ (by omega)
  rw [hul] at hc2 hU1 ⊢
  obtain ⟨v0, hv0⟩ : ∃ v0, us[0]? = some v0 := ⟨_, List.getElem?_eq_getElem (by omega)⟩
  obtain ⟨v1, hv1⟩ : ∃ v1, us[1]? = some v1 := ⟨_, List.getElem?_eq_getElem (by omega)⟩
  obtain ⟨v2, hv2⟩ : ∃ v2, us[2]? = some v2 := ⟨_, List.getElem?_eq_getElem (by omega)⟩
  have hT0 := hh 0 v0 hv0
  have hT1 := hh 1 v1 hv1
  have hT2 := hh 2 v2 hv2
  rw [hkid.out.1] at hT0
  rw [hkid.out.2.1] at hT1
  rw [hkid.out.2.2] at hT2
  have hcl0 := hU1.cell hv0
  have hcl1 := hU1.cell hv1
  have hcl2 := hU1.cell hv2
  have KD := Lib.hid (KC.out w1 g cc v0 v1 v2 hg1 hc2 hm2 (fun W hW => (hW.cell (p := ⟨g, 0, none⟩) hg2).trans hcl0) (fun W hW => (hW.cell (p := ⟨g, 1, none⟩) hg2).trans hcl1) (fun W hW => (hW.cell (p := ⟨g, 2, none⟩) hg2).trans hcl2) hT0 hT1 hT2)
  clear hul hh hv0 hv1 hv2 hT0 hT1 hT2 hcl0 hcl1 hcl2 hU1
  go_wp2_with fail
  refine KD.out.mono ?_
  rintro e w2 ⟨s, rfl, hs2, hg3⟩
  go_wp2_with fail
  go_ret2
  exact ⟨s, rfl, hs2, hg1.trans hg3⟩

theorem typeOf_c : ∀ t : Tm, Good t → (Tr.enc t).length ≤ 60 → ∀ G : List Fm.Tree, (∀ A ∈ G, FmOk A) → G.length ≤ 12 → TypV t G := by
  intro t
  have hmore : ∀ (G : List Fm.Tree) (A : Fm.Tree), (∀ B ∈ G, FmOk B) → FmOk A → ∀ B ∈ G ++ [A], FmOk B := fun G A hG hA B hB => by
    rw [List.mem_append] at hB
    rcases hB with hB | hB
    · exact hG B hB
    · simp at hB; subst hB; exact hA
  have hlen1 : ∀ (G : List Fm.Tree) (A : Fm.Tree), G.length < 12 → (G ++ [A]).length ≤ 12 := fun G A h => by simp; omega
  induction t with
  | t0 x => exact fun hg hn G hG hl va v w hs h => typeOf_var x hg G va v w hl hs h
  | t1 x a iha =>
    intro hg hn G hG hl va v w hs h
    have hk := ar_one (show Tr.ar x.1 = 1 from hg.1.1)
    have ha : (Tr.enc a).length ≤ 60 := by simp [Tr.enc] at hn; omega
    have IH := iha hg.2 ha
    have hA := fun (hh : typedB x.1 = true) (h0 : x.1 ≠ 0) => fo_ok (goodN_text hg.1.2 hh h0)
    by_cases h1 : x.1 = 1
    · have hA1 := hA (by rw [h1]; rfl) (by omega)
      by_cases h12 : G.length < 12
      · have hty : ty G (.t1 x a) = tyLam (fo x.2.2) (ty (G ++ [fo x.2.2]) a) := by rw [ty, if_pos h1, if_pos h12]
        rw [hty]
        refine typeOf_lam x a hg h1 G hG h12 (IH _ (hmore G _ hG hA1.1) (hlen1 G _ h12)) ?_ va v w hs h hn
        intro B vt W hB hsB
        rw [h1]
        have h2 := nodeType_lam x.2.1 (fo x.2.2) B vt W hA1.1 hB hsB
        rw [hA1.2] at h2
        exact h2
      · have hty : ty G (.t1 x a) = none := by rw [ty, if_pos h1, if_neg h12]
        rw [hty]
        exact typeOf_full x a hg h1 G hG ⟨by omega, hl⟩ va v w hs h hn
    · have hty : ty G (.t1 x a) = (ty G a).bind (ty1 x.1 (fo x.2.2)) := by rw [ty, if_neg h1]
      rw [hty]
      refine typeOf_one x a hg (by omega) (by omega) h1 _ G hG hl (IH G hG hl) ?_ va v w hs h hn
      intro B vt W hB hsB
      rcases hk with hk | hk | hk | hk | hk | hk
      · exact absurd hk h1
      · rw [hk]; exact nodeType_fst x.2.1 x.2.2 (fo x.2.2) B vt W hB hsB
      · rw [hk]; exact nodeType_snd x.2.1 x.2.2 (fo x.2.2) B vt W hB hsB
      · have hA1 := hA (by rw [hk]; rfl) (by omega)
        rw [hk]
        have h2 := nodeType_inl x.2.1 (fo x.2.2) B vt W hA1.1 hB hsB
        rw [hA1.2] at h2
        exact h2
      · have hA1 := hA (by rw [hk]; rfl) (by omega)
        rw [hk]
        have h2 := nodeType_inr x.2.1 (fo x.2.2) B vt W hA1.1 hB hsB
        rw [hA1.2] at h2
        exact h2
      · have hA1 := hA (by rw [hk]; rfl) (by omega)
        rw [hk]
        have h2 := nodeType_abort x.2.1 (fo x.2.2) B vt W hA1.1 hB hsB
        rw [hA1.2] at h2
        exact h2
  | t2 x a b iha ihb =>
    intro hg hn G hG hl va v w hs h
    have hk := ar_two (show Tr.ar x.1 = 2 from hg.1.1)
    have ha : (Tr.enc a).length ≤ 60 := by simp [Tr.enc] at hn; omega
    have hb : (Tr.enc b).length ≤ 60 := by simp [Tr.enc] at hn; omega
    have hty : ty G (.t2 x a b) = (ty G a).bind fun C => (ty G b).bind fun D => ty2 x.1 C D := by rw [ty]
    rw [hty]
    refine typeOf_two x a b hg (by omega) (by omega) (by omega) (ty2 x.1) G hG hl (iha hg.2.1 ha G hG hl) (ihb hg.2.2 hb G hG hl) ?_ va v w hs h hn
    intro B D vt W hB hD hsB
    rcases hk with hk | hk
    · rw [hk]; exact nodeType_app x.2.1 x.2.2 B D vt W hB hD hsB
    · rw [hk]; exact nodeType_pair x.2.1 x.2.2 B D vt W hB hD hsB
  | t3 x c a b ihc iha ihb =>
    intro hg hn G hG hl va v w hs h
    have hk := ar_three (show Tr.ar x.1 = 3 from hg.1.1)
    have hc : (Tr.enc c).length ≤ 60 := by simp [Tr.enc] at hn; omega
    have ha : (Tr.enc a).length ≤ 60 := by simp [Tr.enc] at hn; omega
    have hb : (Tr.enc b).length ≤ 60 := by simp [Tr.enc] at hn; omega
    exact typeOf_case x c a b hg hk G hG hl (ihc hg.2.1 hc G hG hl) (fun A hA h12 => iha hg.2.2.1 ha _ (hmore G A hG hA) (hlen1 G A h12)) (fun A hA h12 => ihb hg.2.2.2 hb _ (hmore G A hG hA) (hlen1 G A h12)) va v w hs h hn
end Go.Proofs.YthofkdpmgjkgkaaGreat

/- Strings that are not larger than memory. -/
namespace Go.Proofs.YthofkdpmgjkgkaaGreat
open Go.RowKit

/-- No text of the list is long. -/
def Fits (L : List ByteArray) : Prop := ∀ i, i < L.length → (st L i).size ≤ 1048576
end Go.Proofs.YthofkdpmgjkgkaaGreat

/- A predicate on strings: IndexFunc, ContainsFunc; assumption lists: isAssumptionList of the program, l25List of the reference. -/
namespace Go.Proofs.YthofkdpmgjkgkaaGreat
open Go.RowKit

/-- None of the first k strings meets the predicate. -/
def NoneS (p : ByteArray → Bool) (L : List ByteArray) (k : Nat) : Prop := ∀ i, i < k → p (st L i) = false
theorem NoneS.zero (p : ByteArray → Bool) (L : List ByteArray) : NoneS p L 0 := fun i hi => absurd hi (by omega)
theorem NoneS.succ {p : ByteArray → Bool} {L : List ByteArray} {k : Nat} (h : NoneS p L k) (h1 : p (st L k) = false) : NoneS p L (k + 1) := by
  intro i hi
  rcases Nat.lt_or_ge i k with hk | hk
  · exact h i hk
  · obtain rfl : i = k := by omega
    exact h1
theorem noneS_any {p : ByteArray → Bool} {L : List ByteArray} (h : NoneS p L L.length) : L.any p = false := by
  rw [List.any_eq_false]
  intro x hx
  obtain ⟨i, hi, rfl⟩ := List.getElem_of_mem hx
  rw [st_get hi, h i hi]
  simp
theorem anyS_at {p : ByteArray → Bool} {L : List ByteArray} {k : Nat} (hk : k < L.length) (h : p (st L k) = true) : L.any p = true := by
  rw [List.any_eq_true]
  exact ⟨L[k], List.getElem_mem hk, by rw [st_get hk]; exact h⟩

/-- What the function value gives at a string. -/
def PredS (f : Nat) (p : ByteArray → Bool) : Prop := ∀ s W, s.size ≤ 140737488355328 → Calls Tryz.prog f #[.string s] W fun e W' => e = .returned (.bool (p s)) ∧ Grew W W'

theorem indexFuncS_c (v : Value) (L : List ByteArray) (f : Nat) (p : ByteArray → Bool) (w : World) (h : Strs w v L) (hfit : Fits L) (hf : PredS f p) (eg : ∀ args w, (callFunc f args).run Tryz.prog w = .ok (.enter f args) w) :
    Calls Tryz.prog 130 #[v, .func (.func f) #[] #[]] w fun e w' => ∃ r : Int, e = .returned (.int .i64 r) ∧ Grew w w' ∧ decide (0 ≤ r) = L.any p := by
  rcases h.open_ with ⟨rfl, rfl⟩ | ⟨b, o, c, rfl, hc, hm, hb, hcell⟩
  · rw [noneS_any (NoneS.zero _ _)]
    clear h hf hfit
    go_enter Tryz.func130, Tryz.ntmps130
    go_wp2_with fail
    refine wp_loop_rounds 1 ?_; rw [rounds_succ]
    go_wp2_with fail
    go_ret
    exact ⟨_, rfl, Grew.refl _, rfl⟩
  obtain ⟨R, hR⟩ : ∃ R, R = L.any p := ⟨_, rfl⟩
  rw [← hR]
  have HA := Lib.hid (fun k hk h => hR.trans (@anyS_at p L k hk h))
  have HZ := Lib.hid (fun h => hR.trans (@noneS_any p L h))
  have HC := Lib.hid hcell
  have HF := Lib.hid hf
  unfold Fits at hfit
  have HT := Lib.hid hfit
  clear hcell h hf hR hfit
  generalize hN : L.length = n at *
  clear hN
  go_enter Tryz.func130, Tryz.ntmps130
  go_wp2_with fail
  go_loopw [5, 8] (fun _ i wr => ∃ j : Nat, j ≤ n ∧ i = .int .i64 j ∧ Grew w wr ∧ Hid (NoneS p L j)) (fun _ i _ => n - (intOf i).toNat)
  case atStart => exact ⟨0, Nat.zero_le _, rfl, Grew.refl _, NoneS.zero _ _⟩
  case round =>
    obtain ⟨j, hj, rfl, hB, HJ⟩ := hrel
    by_cases hlt : j < n
    · have k1 := HC.out j hlt _ hB
      have hz := HT.out j hlt
      have hA := Lib.hid (HA.out j hlt)
      have hS := Lib.hid (fun h => HJ.out.succ (k := j) h)
      generalize st L j = x at *
      go_wp2_with fail
      go_at_fn f
      refine (HF.out x _ (by omega)).mono ?_
      rintro e w1 ⟨rfl, hg1⟩
      have hB1 := hB.trans hg1
      cases hp : p x with
      | true =>
        have hv := hA.out hp
        go_wp2_with fail
        go_ret
        exact ⟨_, rfl, hB1, by rw [hv]; simp⟩
      | false =>
        have hs := Lib.hid (hS.out hp)
        go_wp2_with fail
        go_roundw
        case rel => exact ⟨j + 1, by omega, by go_num, hB1, hs⟩
        case measure => simp [intOf]; omega
    · obtain rfl : j = n := by omega
      have hv := Lib.hid (HZ.out HJ.out)
      go_wp2_with fail
      go_ret
      exact ⟨_, rfl, hB, by rw [hv.out]; rfl⟩

theorem containsFuncS_c (v : Value) (L : List ByteArray) (f : Nat) (p : ByteArray → Bool) (w : World) (h : Strs w v L) (hfit : Fits L) (hf : PredS f p) (eg : ∀ args w, (callFunc f args).run Tryz.prog w = .ok (.enter f args) w) :
    Calls Tryz.prog 102 #[v, .func (.func f) #[] #[]] w fun e w' => e = .returned (.bool (L.any p)) ∧ Grew w w' := by
  have HI := Lib.hid (indexFuncS_c v L f p w h hfit hf eg)
  clear h hf eg hfit
  generalize L.any p = R at *
  go_enter Tryz.func102, Tryz.ntmps102
  go_wp2_with fail
  refine HI.out.mono ?_
  rintro e w1 ⟨r, rfl, hg1, hr⟩
  go_wp2_with fail
  go_ret
  exact ⟨by rw [← hr]; rfl, hg1⟩

/-- Is it an assumption list? -/
noncomputable def asl (L : List ByteArray) : Bool := decide (L.length ≤ 12) && !L.any fun s => !gp s
theorem asl_map {L : List ByteArray} (h : asl L = true) : L.length ≤ 12 ∧ ∀ s ∈ L, gp s = true := by
  unfold asl at h
  simp only [Bool.and_eq_true, decide_eq_true_eq, Bool.not_eq_true', List.any_eq_false] at h
  exact ⟨h.1, fun s hs => by simpa using h.2 s hs⟩

theorem isAssumptionList1_ok : PredS 103 (fun s => !gp s) := by
  intro s w hs
  have HP := Lib.hid (fun w => isPlainText_c s w hs)
  show Calls _ _ _ _ (fun e W' => e = .returned (.bool (!gp s)) ∧ Grew w W')
  generalize gp s = q at *
  go_enter Tryz.func103, Tryz.ntmps103
  go_wp2_with fail
  refine (HP.out _).mono ?_
  rintro e w1 ⟨rfl, hg1⟩
  go_wp2_with fail
  go_ret
  exact ⟨rfl, hg1⟩

theorem isAssumptionList_c (v : Value) (L : List ByteArray) (w : World) (h : Strs w v L) (hfit : Fits L) :
    Calls Tryz.prog 60 #[v] w fun e w' => e = .returned (.bool (asl L)) ∧ Grew w w' := by
  unfold asl
  have HC := Lib.hid (fun w h => containsFuncS_c v L _ _ w h hfit isAssumptionList1_ok (enters_of Tryz.func103 (by kernel_rfl) rfl))
  obtain ⟨A, c, rfl⟩ := strs_slice h
  have HN := Lib.hid h
  clear h hfit
  by_cases hl : L.length ≤ 12
  · rw [decide_eq_true hl, Bool.true_and]
    generalize (L.any fun s => !gp s) = q at *
    generalize L.length = n at *
    go_enter Tryz.func60, Tryz.ntmps60
    go_wp2_with fail
    refine (HC.out _ HN.out).mono ?_
    rintro e w1 ⟨rfl, hg1⟩
    go_wp2_with fail
    go_ret
    exact ⟨rfl, hg1⟩
  · rw [decide_eq_false hl, Bool.false_and]
    clear HC HN
    generalize L.length = n at *
    go_enter Tryz.func60, Tryz.ntmps60
    go_wp2_with fail
    go_ret
    exact ⟨rfl, Grew.refl _⟩

theorem l25List_c (v : Value) (L : List ByteArray) (w : World) (h : Strs w v L) (hfit : Fits L) :
    Calls Tryz.prog 58 #[v] w fun e w' => e = .returned (.bool (asl L)) ∧ Grew w w' := by
  unfold asl
  rcases h.open_ with ⟨rfl, rfl⟩ | ⟨b, o, c, rfl, hc, hm, hb, hcell⟩
  · clear h hfit
    go_enter Tryz.func58, Tryz.ntmps58
    go_wp2_with fail
    refine wp_loop_rounds 1 ?_; rw [rounds_succ]
    go_wp2_with fail
    go_ret
    exact ⟨rfl, Grew.refl _⟩
  by_cases hl : L.length ≤ 12
  · rw [decide_eq_true hl, Bool.true_and]
    obtain ⟨R, hR⟩ : ∃ R, R = (L.any fun s => !gp s) := ⟨_, rfl⟩
    rw [← hR]
    have HA := Lib.hid (fun k hk h => hR.trans (@anyS_at (fun s => !gp s) L k hk h))
    have HZ := Lib.hid (fun h => hR.trans (@noneS_any (fun s => !gp s) L h))
    have HC := Lib.hid hcell
    unfold Fits at hfit
    have HT := Lib.hid hfit
    clear hcell h hR hfit
    generalize hN : L.length = n at *
    clear hN
    go_enter Tryz.func58, Tryz.ntmps58
    go_wp2_with fail
    go_loopw [3] (fun i wr => ∃ j : Nat, j ≤ n ∧ i = .int .i64 j ∧ Grew w wr ∧ Hid (NoneS (fun s => !gp s) L j)) (fun i _ => n - (intOf i).toNat)
    case atStart => exact ⟨0, Nat.zero_le _, rfl, Grew.refl _, NoneS.zero _ _⟩
    case round =>
      obtain ⟨j, hj, rfl, hB, HJ⟩ := hrel
      by_cases hlt : j < n
      · have k1 := HC.out j hlt _ hB
        have hz := HT.out j hlt
        have hA := Lib.hid (HA.out j hlt)
        have hS := Lib.hid (fun h => HJ.out.succ (k := j) h)
        have HF := Lib.hid (fun w => l25Formula_c (st L j) w (by omega))
        unfold GivesP at HF
        generalize st L j = x at *
        generalize (Fm.pf x).1 = xs at *
        cases hp : gp x with
        | true =>
          rw [hp] at HF
          have hs := Lib.hid (hS.out (by simp [hp]))
          clear hp
          go_wp2_with fail
          refine (HF.out _).mono ?_
          rintro e w1 ⟨u, rfl, ho1, hg1⟩
          have hB1 := hB.trans hg1
          go_wp2_with fail
          go_roundw
          case rel => exact ⟨j + 1, by omega, by go_num, hB1, hs⟩
          case measure => simp [intOf]; omega
        | false =>
          rw [hp] at HF
          have hv := Lib.hid (hA.out (by simp [hp]))
          clear hp
          go_wp2_with fail
          refine (HF.out _).mono ?_
          rintro e w1 ⟨u, rfl, ho1, hg1⟩
          have hB1 := hB.trans hg1
          go_wp2_with fail
          go_ret
          exact ⟨by rw [hv.out]; rfl, hB1⟩
      · obtain rfl : j = n := by omega
        have hv := Lib.hid (HZ.out HJ.out)
        go_wp2_with fail
        go_ret
        exact ⟨by rw [hv.out]; rfl, hB⟩
  · rw [decide_eq_false hl, Bool.false_and]
    clear hcell h hfit
    generalize L.length = n at *
    go_enter Tryz.func58, Tryz.ntmps58
    go_wp2_with fail
    go_ret
    exact ⟨rfl, Grew.refl _⟩
end Go.Proofs.YthofkdpmgjkgkaaGreat

/- TypeOfTerm of the program and of the reference. -/
namespace Go.Proofs.YthofkdpmgjkgkaaGreat
open Go.RowKit
open Tr (Tm)

/-- The type of a term, or a code. -/
noncomputable def ttF (L : List ByteArray) (xs : List Tn) : ByteArray × Int := if asl L && tmB xs then (match ty (L.map fo) (tmT xs) with | some A => (tx A, 0) | none => (ByteArray.empty, 5)) else (ByteArray.empty, 1)
def GivesSI (w : World) (r : ByteArray × Int) (e : Ending) (w' : World) : Prop := e = .returned (.tuple #[.string r.1, .int .i64 r.2]) ∧ Grew w w'
theorem asl_ok {L : List ByteArray} (h : asl L = true) : (L.map fo).length ≤ 12 ∧ (∀ A ∈ L.map fo, FmOk A) ∧ (L.map fo).map tx = L := by
  obtain ⟨h1, h2⟩ := asl_map h
  refine ⟨by simpa using h1, fun A hA => ?_, ?_⟩
  · rw [List.mem_map] at hA
    obtain ⟨s, hs, rfl⟩ := hA
    exact (fo_ok (h2 s hs)).1
  · rw [List.map_map]
    conv => rhs; rw [← List.map_id L]
    apply List.map_congr_left
    intro s hs
    exact (fo_ok (h2 s hs)).2

theorem implTyp_c (va : Value) (L : List ByteArray) (vt : Value) (xs : List Tn) (w : World) (hs : Strs w va L) (ht : Tms w vt xs) (f0 : Fits L) (n0 : L.length ≤ 1048576) (f1 : FitsT xs) (n1 : xs.length ≤ 1048576) :
    Calls Tryz.prog 21 #[va, vt] w (GivesSI w (ttF L xs)) := by
  have KT := fun W (hW : Grew w W) => isTerm_c vt xs W (ht.grew hW) f1 n1
  have KA := fun W (hW : Grew w W) => isAssumptionList_c va L W (hs.grew hW) f0
  have KY := fun (ha : asl L = true) (hb : tmB xs = true) W (hW : Grew w W) => typeOf_c (tmT xs) (tmT_ok hb).1 (by rw [(tmT_ok hb).2.1]; exact (tmT_ok hb).2.2) (L.map fo) (asl_ok ha).2.1 (asl_ok ha).1 va vt W (by rw [(asl_ok ha).2.2]; exact hs.grew hW) (by rw [(tmT_ok hb).2.1]; exact ht.grew hW)
  unfold ttF
  obtain ⟨A, c, rfl⟩ := strs_slice hs
  obtain ⟨B, d, rfl⟩ := tms_slice ht
  clear hs ht f0 f1
  unfold GivesTy at KY
  unfold GivesSI
  generalize ty (L.map fo) (tmT xs) = R at *
  generalize L.length = gl at *
  generalize xs.length = gn at *
  generalize asl L = qa at *
  generalize tmB xs = qb at *
  have r0 := Grew.refl w
  cases qb with
  | false =>
    rw [Bool.and_false, if_neg (by simp)]
    replace KT := Lib.hid KT
    clear KA KY
    go_enter Tryz.func21, Tryz.ntmps21
    go_wp2_with fail
    refine (KT.out _ r0).mono ?_
    rintro e w1 ⟨rfl, hg1⟩
    go_wp2_with fail
    go_ret2
    exact ⟨rfl, hg1⟩
  | true =>
    cases qa with
    | false =>
      rw [Bool.and_true, if_neg (by simp)]
      replace KT := Lib.hid KT
      replace KA := Lib.hid KA
      clear KY
      go_enter Tryz.func21, Tryz.ntmps21
      go_wp2_with fail
      refine (KT.out _ r0).mono ?_
      rintro e w1 ⟨rfl, hg1⟩
      go_wp2_with fail
      refine (KA.out _ hg1).mono ?_
      rintro e w2 ⟨rfl, hg2⟩
      go_wp2_with fail
      go_ret2
      exact ⟨rfl, hg1.trans hg2⟩
    | true =>
      rw [Bool.and_true, if_pos rfl]
      have KZ := Lib.hid (KY rfl rfl)
      replace KT := Lib.hid KT
      replace KA := Lib.hid KA
      clear KY
      cases R with
      | none =>
        go_enter Tryz.func21, Tryz.ntmps21
        go_wp2_with fail
        refine (KT.out _ r0).mono ?_
        rintro e w1 ⟨rfl, hg1⟩
        go_wp2_with fail
        refine (KA.out _ hg1).mono ?_
        rintro e w2 ⟨rfl, hg2⟩
        have g2 := hg1.trans hg2
        go_wp2_with fail
        refine (KZ.out _ g2).mono ?_
        rintro e w3 ⟨s, rfl, _, hg3⟩
        go_wp2_with fail
        go_ret2
        exact ⟨rfl, g2.trans hg3⟩
      | some T =>
        go_enter Tryz.func21, Tryz.ntmps21
        go_wp2_with fail
        refine (KT.out _ r0).mono ?_
        rintro e w1 ⟨rfl, hg1⟩
        go_wp2_with fail
        refine (KA.out _ hg1).mono ?_
        rintro e w2 ⟨rfl, hg2⟩
        have g2 := hg1.trans hg2
        go_wp2_with fail
        refine (KZ.out _ g2).mono ?_
        rintro e w3 ⟨s, rfl, hT, hg3⟩
        obtain rfl := hT T rfl
        clear hT
        go_wp2_with fail
        go_ret2
        exact ⟨rfl, g2.trans hg3⟩

theorem specTyp_c (va : Value) (L : List ByteArray) (vt : Value) (xs : List Tn) (w : World) (hs : Strs w va L) (ht : Tms w vt xs) (f0 : Fits L) (n0 : L.length ≤ 1048576) (f1 : FitsT xs) (n1 : xs.length ≤ 1048576) :
    Calls Tryz.prog 19 #[va, vt] w (GivesSI w (ttF L xs)) := by
  have KT := fun W (hW : Grew w W) => l26Is_c vt xs W (ht.grew hW) f1 n1
  have KA := fun W (hW : Grew w W) => l25List_c va L W (hs.grew hW) f0
  have KY := fun (ha : asl L = true) (hb : tmB xs = true) W (hW : Grew w W) => l26Type_c (tmT xs) (tmT_ok hb).1 (by rw [(tmT_ok hb).2.1]; exact (tmT_ok hb).2.2) (L.map fo) (asl_ok ha).2.1 (asl_ok ha).1 va vt W (by rw [(asl_ok ha).2.2]; exact hs.grew hW) (by rw [(tmT_ok hb).2.1]; exact ht.grew hW)
  unfold ttF
  obtain ⟨A, c, rfl⟩ := strs_slice hs
  obtain ⟨B, d, rfl⟩ := tms_slice ht
  clear hs ht f0 f1
  unfold GivesSI
  generalize ty (L.map fo) (tmT xs) = R at *
  generalize L.length = gl at *
  generalize xs.length = gn at *
  generalize asl L = qa at *
  generalize tmB xs = qb at *
  have r0 := Grew.refl w
  cases qa with
  | false =>
    rw [Bool.false_and, if_neg (by simp)]
    replace KA := Lib.hid KA
    clear KT KY
    go_enter Tryz.func19, Tryz.ntmps19
    go_wp2_with fail
    refine (KA.out _ r0).mono ?_
    rintro e w1 ⟨rfl, hg1⟩
    go_wp2_with fail
    go_ret2
    exact ⟨rfl, hg1⟩
  | true =>
    cases qb with
    | false =>
      rw [Bool.true_and, if_neg (by simp)]
      replace KT := Lib.hid KT
      replace KA := Lib.hid KA
      clear KY
      go_enter Tryz.func19, Tryz.ntmps19
      go_wp2_with fail
      refine (KA.out _ r0).mono ?_
      rintro e w1 ⟨rfl, hg1⟩
      go_wp2_with fail
      refine (KT.out _ hg1).mono ?_
      rintro e w2 ⟨rfl, hg2⟩
      go_wp2_with fail
      go_ret2
      exact ⟨rfl, hg1.trans hg2⟩
    | true =>
      rw [Bool.and_true, if_pos rfl]
      replace KY := KY rfl rfl
      replace KT := Lib.hid KT
      replace KA := Lib.hid KA
      cases R with
      | none =>
        rw [show otx none = ByteArray.empty from rfl] at KY
        replace KY := Lib.hid KY
        go_enter Tryz.func19, Tryz.ntmps19
        go_wp2_with fail
        refine (KA.out _ r0).mono ?_
        rintro e w1 ⟨rfl, hg1⟩
        go_wp2_with fail
        refine (KT.out _ hg1).mono ?_
        rintro e w2 ⟨rfl, hg2⟩
        have g2 := hg1.trans hg2
        go_wp2_with fail
        refine (KY.out _ g2).mono ?_
        rintro e w3 ⟨rfl, hg3⟩
        go_wp2_with fail
        go_ret2
        exact ⟨rfl, g2.trans hg3⟩
      | some T =>
        have hne := tx_ne T
        change Calls _ _ _ _ (fun e w' => e = .returned (.tuple #[.string (tx T), .int .i64 0]) ∧ Grew w w')
        rw [show otx (some T) = tx T from rfl] at KY
        replace KY := Lib.hid KY
        generalize tx T = s at *
        go_enter Tryz.func19, Tryz.ntmps19
        go_wp2_with fail
        refine (KA.out _ r0).mono ?_
        rintro e w1 ⟨rfl, hg1⟩
        go_wp2_with fail
        refine (KT.out _ hg1).mono ?_
        rintro e w2 ⟨rfl, hg2⟩
        have g2 := hg1.trans hg2
        go_wp2_with fail
        refine (KY.out _ g2).mono ?_
        rintro e w3 ⟨rfl, hg3⟩
        go_wp2_with fail
        go_ret2
        exact ⟨rfl, g2.trans hg3⟩
end Go.Proofs.YthofkdpmgjkgkaaGreat

/- normalTerm of the program, the loop of l26Normal of the reference. -/
namespace Go.Proofs.YthofkdpmgjkgkaaGreat
open Go.RowKit
open Tr (Tm)

/-- limitedTerm at a list that reads. -/
def LimR (w : World) (xs : List Tn) (e : Ending) (w' : World) : Prop := ∃ u, e = .returned (.tuple #[u, .int .i64 (limT xs).2]) ∧ Tms w' u (limT xs).1 ∧ Grew w w'
theorem limitedTerm_r (v : Value) (xs : List Tn) (w : World) (h : Tms w v xs) (hfit : FitsT xs) (hn : xs.length ≤ 1048576) :
    Calls Tryz.prog 54 #[v] w (LimR w xs) := by
  unfold LimR limT
  have HC := fun w h => containsFuncT_c v xs _ _ w h hfit limitedTerm1_ok (enters_of Tryz.func94 (by kernel_rfl) rfl)
  obtain ⟨A, c, rfl⟩ := tms_slice h
  have HN := Lib.hid h
  clear h hfit
  by_cases hl : 60 < xs.length
  · rw [decide_eq_true hl, Bool.true_or, if_pos rfl]
    clear HC HN
    generalize xs.length = n at *
    go_enter Tryz.func54, Tryz.ntmps54
    go_wp2_with fail
    go_ret2
    exact ⟨.slice none 0 0, rfl, Tms.nil_ _, Grew.refl _⟩
  · rw [decide_eq_false hl, Bool.false_or]
    cases hq : anyT bigT xs with
    | true =>
      rw [if_pos rfl]
      rw [hq] at HC
      replace HC := Lib.hid HC
      clear hq
      generalize xs.length = n at *
      go_enter Tryz.func54, Tryz.ntmps54
      go_wp2_with fail
      refine (HC.out _ HN.out).mono ?_
      rintro e w1 ⟨rfl, hg1⟩
      go_wp2_with fail
      go_ret2
      exact ⟨.slice none 0 0, rfl, Tms.nil_ _, hg1⟩
    | false =>
      rw [if_neg (by simp)]
      rw [hq] at HC
      replace HC := Lib.hid HC
      clear hq
      generalize xs.length = n at *
      go_enter Tryz.func54, Tryz.ntmps54
      go_wp2_with fail
      refine (HC.out _ HN.out).mono ?_
      rintro e w1 ⟨rfl, hg1⟩
      go_wp2_with fail
      go_ret2
      exact ⟨_, rfl, HN.out.grew hg1, hg1⟩

/-- A normal term, the number of contractions and a code. -/
def GivesNr (w : World) (r : List Tn × Int × Int) (e : Ending) (w' : World) : Prop := ∃ u, e = .returned (.tuple #[u, .int .i64 r.2.1, .int .i64 r.2.2]) ∧ Tms w' u r.1 ∧ Grew w w'
def GivesNo (w : World) (r : List Tn × Int × Int) (e : Ending) (w' : World) : Prop := ∃ u, e = .returned (.tuple #[u, .int .i64 r.2.1, .int .i64 r.2.2]) ∧ OwnT w' w.heap.size u r.1 ∧ Grew w w'
theorem ints_head {w : World} {v : Value} {i : Int} {L : List Int} (h : Ints w v (i :: L)) : ∃ b o c, v = .slice (some ⟨b, o, none⟩) (L.length + 1) c ∧ L.length + 1 ≤ c ∧ ∀ W, Grew w W → W.cell? ⟨b, o, none⟩ = some (.int .i64 i) := by
  rcases h.open_ with ⟨_, h0⟩ | ⟨b, o, c, rfl, hc, hm, hb, hf⟩
  · cases h0
  · exact ⟨b, o, c, rfl, hc, fun W hW => by simpa [it] using hf 0 (by simp) W hW⟩

/-- The state of the loop. -/
def NrSt (n : Int) (R : List Tn × Int × Int) (cn : Nat) (s : Tm) : Prop := Good s ∧ (Tr.enc s).length ≤ 60 ∧ ∃ k, cn + k = 200 ∧ nrm k s n = R
theorem NrSt.done {n : Int} {R : List Tn × Int × Int} {cn : Nat} {s : Tm} (h : NrSt n R cn s) (hL : redL (Tr.enc s) (Tr.enc s).length = []) : R = (Tr.enc s, (cn : Int), 0) := by
  obtain ⟨_, _, k, hk, rfl⟩ := h
  rw [nrm_done hL]
  have e : 200 - (k : Int) = cn := by omega
  rw [e]
theorem NrSt.stop {n : Int} {R : List Tn × Int × Int} {s : Tm} {i : Int} {L : List Int} (h : NrSt n R 200 s) (hL : redL (Tr.enc s) (Tr.enc s).length = i :: L) : R = ([], 0, 3) := by
  obtain ⟨_, _, k, hk, rfl⟩ := h
  obtain rfl : k = 0 := by omega
  rw [nrm_stop hL]
theorem NrSt.big {n : Int} {R : List Tn × Int × Int} {cn : Nat} {s : Tm} {i : Int} {L : List Int} (h : NrSt n R cn s) (hL : redL (Tr.enc s) (Tr.enc s).length = i :: L) (hb : ¬ (limT (ctAt s n i.toNat)).2 = 0) : R = ([], 0, 3) := by
  obtain ⟨_, _, k, hk, rfl⟩ := h
  rw [nrm_big hL hb]
theorem NrSt.next {n : Int} {R : List Tn × Int × Int} {cn : Nat} {s : Tm} {i : Nat} {L : List Int} (h : NrSt n R cn s) (hn : 0 ≤ n) (hc : cn < 200) (hr : rdxAt (Tr.enc s) i = true) (hL : redL (Tr.enc s) (Tr.enc s).length = (i : Int) :: L) (hb : (limT (ctAt s n i)).2 = 0) : NrSt n R (cn + 1) (ctT s n i) ∧ (limT (ctAt s n i)).1 = Tr.enc (ctT s n i) := by
  obtain ⟨h1, h2, k, hk, rfl⟩ := h
  obtain ⟨g1, g2, g3, g4⟩ := ct_good hn h1 hr hb
  obtain ⟨k', rfl⟩ : ∃ k', k = k' + 1 := ⟨k - 1, by omega⟩
  refine ⟨⟨g1, by rw [g2]; exact g3, k', by omega, ?_⟩, by rw [g2, g4]⟩
  rw [nrm_step hL (by rw [Int.toNat_natCast]; exact hb), Int.toNat_natCast]
theorem NrSt.head {n : Int} {R : List Tn × Int × Int} {cn : Nat} {s : Tm} (h : NrSt n R cn s) : redL (Tr.enc s) (Tr.enc s).length = [] ∨ ∃ (i : Nat) (L : List Int), redL (Tr.enc s) (Tr.enc s).length = (i : Int) :: L ∧ rdxAt (Tr.enc s) i = true := by
  cases hL : redL (Tr.enc s) (Tr.enc s).length with
  | nil => exact .inl rfl
  | cons x L =>
    obtain ⟨i, rfl, _, hr⟩ := redL_mem (xs := Tr.enc s) (j := (Tr.enc s).length) (x := x) (by rw [hL]; simp)
    exact .inr ⟨i, L, rfl, hr⟩

set_option maxHeartbeats 1000000 in
theorem normalTerm_c (v : Value) (t : Tm) (n : Int) (w : World) (h : Tms w v (Tr.enc t)) (hg : Good t) (hlen : (Tr.enc t).length ≤ 60) (hn0 : 0 ≤ n) (hn1 : n ≤ 12) :
    Calls Tryz.prog 75 #[v, .int .i64 n] w (GivesNr w (nrm 200 t n)) := by
  have KC := Lib.hid (cloneT_c v (Tr.enc t) w h (by omega))
  have HST : Hid (NrSt n (nrm 200 t n) 0 t) := Lib.hid ⟨hg, hlen, 200, rfl, rfl⟩
  have HE := Lib.hid (fun u r w' (h : nrm 200 t n = r) (h1 : Tms w' u r.1) (h2 : Grew w w') => (⟨u, by rw [h], by rw [h]; exact h1, h2⟩ : GivesNr w (nrm 200 t n) (.returned (.tuple #[u, .int .i64 r.2.1, .int .i64 r.2.2])) w'))
  obtain ⟨A, c, rfl⟩ := tms_slice h
  clear h hg hlen
  generalize nrm 200 t n = R at *
  go_enter Tryz.func75, Tryz.ntmps75
  go_wp2_with fail
  refine KC.out.mono ?_
  rintro e w1 ⟨u, rfl, ho, hg1⟩
  have HO := Lib.hid ho.tms
  clear ho KC
  go_wp2_with fail
  go_loopw [0, 7, 8, 9, 10] (fun vt cc _ _ _ wr => ∃ (cn : Nat) (s : Tm), cn ≤ 200 ∧ cc = .int .i64 cn ∧ Grew w wr ∧ Hid (Tms wr vt (Tr.enc s)) ∧ Hid (NrSt n R cn s)) (fun _ cc _ _ _ _ => 201 - (intOf cc).toNat)
  case atStart => exact ⟨0, t, by omega, rfl, hg1, HO.out, HST.out⟩
  case round =>
    clear HO HST
    obtain ⟨cn, s, hcn, rfl, hB, HT, HS⟩ := hrel
    have KR := Lib.hid (fun W (hW : Grew wr W) => redexes_c u0 (Tr.enc s) W (HT.out.grew hW) (by have := HS.out.2.1; omega))
    rcases HS.out.head with hL | ⟨i, L, hL, hr⟩
    · have hv := Lib.hid (HS.out.done hL)
      rw [hL] at KR
      clear hL
      go_wp2_with fail
      refine (KR.out _ (Grew.refl wr)).mono ?_
      rintro e w2 ⟨u2, rfl, ho2, hg2⟩
      obtain ⟨A2, c2, rfl⟩ := ints_slice ho2.ints
      clear ho2
      go_wp2_with fail
      go_ret3
      exact HE.out _ _ _ hv.out (HT.out.grew hg2) (hB.trans hg2)
    · have KA := Lib.hid (fun W (hW : Grew wr W) => contractAt_c s HS.out.1 u0 n i W (HT.out.grew hW) hr HS.out.2.1 hn0 (by have := HS.out.2.1; omega))
      have KL := Lib.hid (fun q W (hq : Tms W q (ctAt s n i)) => limitedTerm_r q (ctAt s n i) W hq (ctAt_fits HS.out.1 hr (good_fits HS.out.1)) (by have h1 := ctAt_len (M := 60) s HS.out.1 n i hr HS.out.2.1; have h2 := Nat.mul_le_mul_right 61 HS.out.2.1; omega))
      unfold LimR at KL
      have hBig := Lib.hid (fun hb => HS.out.big hL hb)
      have hStop := Lib.hid (fun (h : cn = 200) => (by subst h; exact HS.out.stop hL : R = ([], 0, 3)))
      have hNext := Lib.hid (fun hc hb => HS.out.next hn0 hc hr hL hb)
      rw [Int.toNat_natCast] at hBig
      rw [hL] at KR
      clear hL hr
      by_cases hb : (limT (ctAt s n i)).2 = 0
      · by_cases hc : cn < 200
        · have hnx := Lib.hid (hNext.out hc hb)
          have hc2 : ((cn : Int) == 200) = false := by simp; omega
          rw [hb] at KL
          clear hBig hStop hNext hb
          generalize limT (ctAt s n i) = X at *
          go_wp2_with fail
          refine (KR.out _ (Grew.refl wr)).mono ?_
          rintro e w2 ⟨u2, rfl, ho2, hg2⟩
          obtain ⟨b2, o2, c2, rfl, hc3, k2⟩ := ints_head ho2.ints
          clear ho2
          have r2 := Grew.refl w2
          go_wp2_with fail
          refine (KA.out _ hg2).mono ?_
          rintro e w3 ⟨q, rfl, hq, hg3⟩
          have HQ := Lib.hid hq
          clear hq
          go_wp2_with fail
          refine (KL.out _ _ HQ.out).mono ?_
          rintro e w4 ⟨u4, rfl, hu4, hg4⟩
          have HU4 := Lib.hid hu4
          clear hu4
          go_wp2_with fail
          go_roundw
          case rel => exact ⟨cn + 1, ctT s n i, by omega, by go_num, ((hB.trans hg2).trans hg3).trans hg4, by rw [← hnx.out.2]; exact HU4.out, hnx.out.1⟩
          case measure => simp [intOf]; omega
        · obtain rfl : cn = 200 := by omega
          have hv := Lib.hid (hStop.out rfl)
          rw [hb] at KL
          clear hBig hStop hNext hb
          generalize limT (ctAt s n i) = X at *
          go_wp2_with fail
          refine (KR.out _ (Grew.refl wr)).mono ?_
          rintro e w2 ⟨u2, rfl, ho2, hg2⟩
          obtain ⟨b2, o2, c2, rfl, hc3, k2⟩ := ints_head ho2.ints
          clear ho2
          have r2 := Grew.refl w2
          go_wp2_with fail
          refine (KA.out _ hg2).mono ?_
          rintro e w3 ⟨q, rfl, hq, hg3⟩
          have HQ := Lib.hid hq
          clear hq
          go_wp2_with fail
          refine (KL.out _ _ HQ.out).mono ?_
          rintro e w4 ⟨u4, rfl, hu4, hg4⟩
          clear hu4
          go_wp2_with fail
          go_ret3
          exact HE.out _ _ _ hv.out (Tms.nil_ _) (((hB.trans hg2).trans hg3).trans hg4)
      · have hv := Lib.hid (hBig.out hb)
        have h3 : (limT (ctAt s n i)).2 = 3 := by
          rcases limT_code (ctAt s n i) with h | h
          · exact absurd h hb
          · rw [h]
        rw [h3] at KL
        clear hBig hStop hNext hb h3
        generalize limT (ctAt s n i) = X at *
        go_wp2_with fail
        refine (KR.out _ (Grew.refl wr)).mono ?_
        rintro e w2 ⟨u2, rfl, ho2, hg2⟩
        obtain ⟨b2, o2, c2, rfl, hc3, k2⟩ := ints_head ho2.ints
        clear ho2
        have r2 := Grew.refl w2
        go_wp2_with fail
        refine (KA.out _ hg2).mono ?_
        rintro e w3 ⟨q, rfl, hq, hg3⟩
        have HQ := Lib.hid hq
        clear hq
        go_wp2_with fail
        refine (KL.out _ _ HQ.out).mono ?_
        rintro e w4 ⟨u4, rfl, hu4, hg4⟩
        clear hu4
        go_wp2_with fail
        go_ret3
        exact HE.out _ _ _ hv.out (Tms.nil_ _) (((hB.trans hg2).trans hg3).trans hg4)
end Go.Proofs.YthofkdpmgjkgkaaGreat

/- l26Normal of the reference. -/
namespace Go.Proofs.YthofkdpmgjkgkaaGreat
open Go.RowKit
open Tr (Tm)

/-- The normal term of a term with a type, the number of contractions, a code. -/
noncomputable def nfF (L : List ByteArray) (xs : List Tn) : List Tn × Int × Int := if asl L && tmB xs then (match ty (L.map fo) (tmT xs) with | some _ => nrm 200 (tmT xs) L.length | none => ([], 0, 5)) else ([], 0, 1)

set_option maxHeartbeats 2000000 in
theorem l26Normal_c (va : Value) (L : List ByteArray) (vt : Value) (xs : List Tn) (w : World) (hs : Strs w va L) (ht : Tms w vt xs) (f0 : Fits L) (n0 : L.length ≤ 1048576) (f1 : FitsT xs) (n1 : xs.length ≤ 1048576) :
    Calls Tryz.prog 72 #[va, vt] w (GivesNo w (nfF L xs)) := by
  have KT := fun W (hW : Grew w W) => l26Is_c vt xs W (ht.grew hW) f1 n1
  have KA := fun W (hW : Grew w W) => l25List_c va L W (hs.grew hW) f0
  have KY := fun (ha : asl L = true) (hb : tmB xs = true) W (hW : Grew w W) => l26Type_c (tmT xs) (tmT_ok hb).1 (by rw [(tmT_ok hb).2.1]; exact (tmT_ok hb).2.2) (L.map fo) (asl_ok ha).2.1 (asl_ok ha).1 va vt W (by rw [(asl_ok ha).2.2]; exact hs.grew hW) (by rw [(tmT_ok hb).2.1]; exact ht.grew hW)
  have hST : asl L = true → tmB xs = true → NrSt (L.length : Int) (nrm 200 (tmT xs) L.length) 0 (tmT xs) := fun ha hb => ⟨(tmT_ok hb).1, by rw [(tmT_ok hb).2.1]; exact (tmT_ok hb).2.2, 200, rfl, rfl⟩
  have hEn : tmB xs = true → Tr.enc (tmT xs) = xs := fun hb => (tmT_ok hb).2.1
  have hL12 : asl L = true → L.length ≤ 12 := fun ha => (asl_map ha).1
  unfold nfF
  obtain ⟨A, c, rfl⟩ := strs_slice hs
  have HTT := Lib.hid ht
  obtain ⟨B, d, rfl⟩ := tms_slice ht
  clear hs ht f0 f1
  generalize ty (L.map fo) (tmT xs) = R at *
  generalize nrm 200 (tmT xs) L.length = RR at *
  generalize hgl : L.length = gl at *
  clear hgl
  generalize asl L = qa at *
  generalize tmB xs = qb at *
  have r0 := Grew.refl w
  cases qa with
  | false =>
    rw [Bool.false_and, if_neg (by simp)]
    replace KA := Lib.hid KA
    clear KT KY hST hEn hL12 HTT
    generalize xs.length = gn at *
    go_enter Tryz.func72, Tryz.ntmps72
    go_wp2_with fail
    refine (KA.out _ r0).mono ?_
    rintro e w1 ⟨rfl, hg1⟩
    go_wp2_with fail
    go_ret3
    exact ⟨.slice none 0 0, rfl, OwnT.nil_ _ _, hg1⟩
  | true =>
    cases qb with
    | false =>
      rw [Bool.true_and, if_neg (by simp)]
      replace KT := Lib.hid KT
      replace KA := Lib.hid KA
      clear KY hST hEn hL12 HTT
      generalize xs.length = gn at *
      go_enter Tryz.func72, Tryz.ntmps72
      go_wp2_with fail
      refine (KA.out _ r0).mono ?_
      rintro e w1 ⟨rfl, hg1⟩
      go_wp2_with fail
      refine (KT.out _ hg1).mono ?_
      rintro e w2 ⟨rfl, hg2⟩
      go_wp2_with fail
      go_ret3
      exact ⟨.slice none 0 0, rfl, OwnT.nil_ _ _, hg1.trans hg2⟩
    | true =>
      rw [Bool.and_true, if_pos rfl]
      replace KY := KY rfl rfl
      have HST := Lib.hid (hST rfl rfl)
      have HEN := Lib.hid (hEn rfl)
      have hgl12 := hL12 rfl
      clear hST hEn hL12
      replace KT := Lib.hid KT
      replace KA := Lib.hid KA
      cases R with
      | none =>
        change Calls _ _ _ _ (GivesNo w ([], 0, 5))
        rw [show otx none = ByteArray.empty from rfl] at KY
        replace KY := Lib.hid KY
        clear HTT HST HEN
        generalize xs.length = gn at *
        go_enter Tryz.func72, Tryz.ntmps72
        go_wp2_with fail
        refine (KA.out _ r0).mono ?_
        rintro e w1 ⟨rfl, hg1⟩
        go_wp2_with fail
        refine (KT.out _ hg1).mono ?_
        rintro e w2 ⟨rfl, hg2⟩
        have g2 := hg1.trans hg2
        go_wp2_with fail
        refine (KY.out _ g2).mono ?_
        rintro e w3 ⟨rfl, hg3⟩
        go_wp2_with fail
        go_ret3
        exact ⟨.slice none 0 0, rfl, OwnT.nil_ _ _, g2.trans hg3⟩
      | some T =>
        have hne := tx_ne T
        change Calls _ _ _ _ (GivesNo w RR)
        rw [show otx (some T) = tx T from rfl] at KY
        replace KY := Lib.hid KY
        generalize tx T = s at *
        have HE := Lib.hid (fun u r w' (h : RR = r) (h1 : OwnT w' w.heap.size u r.1) (h2 : Grew w w') => (⟨u, by rw [h], by rw [h]; exact h1, h2⟩ : GivesNo w RR (.returned (.tuple #[u, .int .i64 r.2.1, .int .i64 r.2.2])) w'))
        go_enter Tryz.func72, Tryz.ntmps72
        go_wp2_with fail
        refine (KA.out _ r0).mono ?_
        rintro e w1 ⟨rfl, hg1⟩
        go_wp2_with fail
        refine (KT.out _ hg1).mono ?_
        rintro e w2 ⟨rfl, hg2⟩
        have g2 := hg1.trans hg2
        go_wp2_with fail
        refine (KY.out _ g2).mono ?_
        rintro e w3 ⟨rfl, hg3⟩
        have g3 := g2.trans hg3
        have he : OwnT (w3.alloc (.cells #[] 66)) w.heap.size (.slice (some ⟨w3.heap.size, 0, none⟩) 0 0) [] := (own_emptyT w3).base g3.size
        have hl60 : xs.length ≤ 60 := by have := HST.out.2.1; rw [HEN.out] at this; exact this
        go_wp2_with (first | (at_builtin; refine wpList_appT (w0 := w) _ _ rfl rfl _ [] rfl he (g3.alloc _) _ xs rfl (HTT.out.grew (g3.alloc _)) (by simp; omega) ?_; intro u4 w4 ho4 hg4 _))
        rw [List.nil_append] at ho4
        have HO : Hid (OwnT w4 w.heap.size u4 (Tr.enc (tmT xs))) := Lib.hid (by rw [HEN.out]; exact ho4)
        clear ho4 he KA KT KY
        generalize tmT xs = t at *
        go_wp2_with fail
        go_loopw [7, 8, 9, 10, 11] (fun vt cc _ _ _ wr => ∃ (cn : Nat) (s : Tm), cn ≤ 200 ∧ cc = .int .i64 cn ∧ Grew w wr ∧ Hid (OwnT wr w.heap.size vt (Tr.enc s)) ∧ Hid (NrSt (gl : Int) RR cn s)) (fun _ cc _ _ _ _ => 201 - (intOf cc).toNat)
        case atStart => exact ⟨0, t, by omega, rfl, hg4, HO.out, HST.out⟩
        case round =>
          clear HO HST HEN HTT
          obtain ⟨cn, s, hcn, rfl, hB, HT, HS⟩ := hrel
          have KR := Lib.hid (fun W (hW : Grew wr W) => l26Redexes_c u7 (Tr.enc s) W (HT.out.tms.grew hW) (by have := HS.out.2.1; omega))
          rcases HS.out.head with hL | ⟨i, L, hL, hr⟩
          · have hv := Lib.hid (HS.out.done hL)
            rw [hL] at KR
            clear hL
            go_wp2_with fail
            refine (KR.out _ (Grew.refl wr)).mono ?_
            rintro e w2 ⟨u2, rfl, ho2, hg2⟩
            obtain ⟨A2, c2, rfl⟩ := ints_slice ho2.ints
            clear ho2
            go_wp2_with fail
            go_ret3
            exact HE.out _ _ _ hv.out (HT.out.grew hg2) (hB.trans hg2)
          · have KA := Lib.hid (fun W (hW : Grew wr W) => l26At_c s HS.out.1 u7 gl i W (HT.out.tms.grew hW) hr HS.out.2.1 (by omega) (by have := HS.out.2.1; omega))
            have KL := Lib.hid (fun q W B (hq : OwnT W B q (ctAt s gl i)) => l26Made_c q (ctAt s gl i) W B hq (by have h1 := ctAt_len (M := 60) s HS.out.1 gl i hr HS.out.2.1; have h2 := Nat.mul_le_mul_right 61 HS.out.2.1; omega))
            unfold LimG at KL
            have hBig := Lib.hid (fun hb => HS.out.big hL hb)
            have hStop := Lib.hid (fun (h : cn = 200) => (by subst h; exact HS.out.stop hL : RR = ([], 0, 3)))
            have hNext := Lib.hid (fun hc hb => HS.out.next (by omega) hc hr hL hb)
            rw [Int.toNat_natCast] at hBig
            rw [hL] at KR
            clear hL hr
            by_cases hb : (limT (ctAt s gl i)).2 = 0
            · by_cases hc : cn < 200
              · have hnx := Lib.hid (hNext.out hc hb)
                have hc2 : ((cn : Int) == 200) = false := by simp; omega
                rw [hb] at KL
                clear hBig hStop hNext hb
                generalize limT (ctAt s gl i) = X at *
                go_wp2_with fail
                refine (KR.out _ (Grew.refl wr)).mono ?_
                rintro e w2 ⟨u2, rfl, ho2, hg2⟩
                obtain ⟨b2, o2, c2, rfl, hc3, k2⟩ := ints_head ho2.ints
                clear ho2
                have r2 := Grew.refl w2
                go_wp2_with fail
                refine (KA.out _ hg2).mono ?_
                rintro e w3 ⟨q, rfl, hq, hg3⟩
                have HQ := Lib.hid hq
                clear hq
                go_wp2_with fail
                refine (KL.out _ _ _ HQ.out).mono ?_
                rintro e w4 ⟨u4, rfl, hu4, hg4⟩
                have HU4 := Lib.hid hu4
                clear hu4
                go_wp2_with fail
                go_roundw
                case rel => exact ⟨cn + 1, ctT s gl i, by omega, by go_num, ((hB.trans hg2).trans hg3).trans hg4, by rw [← hnx.out.2]; exact HU4.out.base ((hB.trans hg2).size), hnx.out.1⟩
                case measure => simp [intOf]; omega
              · obtain rfl : cn = 200 := by omega
                have hv := Lib.hid (hStop.out rfl)
                rw [hb] at KL
                clear hBig hStop hNext hb
                generalize limT (ctAt s gl i) = X at *
                go_wp2_with fail
                refine (KR.out _ (Grew.refl wr)).mono ?_
                rintro e w2 ⟨u2, rfl, ho2, hg2⟩
                obtain ⟨b2, o2, c2, rfl, hc3, k2⟩ := ints_head ho2.ints
                clear ho2
                have r2 := Grew.refl w2
                go_wp2_with fail
                refine (KA.out _ hg2).mono ?_
                rintro e w3 ⟨q, rfl, hq, hg3⟩
                have HQ := Lib.hid hq
                clear hq
                go_wp2_with fail
                refine (KL.out _ _ _ HQ.out).mono ?_
                rintro e w4 ⟨u4, rfl, hu4, hg4⟩
                clear hu4
                go_wp2_with fail
                go_ret3
                exact HE.out _ _ _ hv.out (OwnT.nil_ _ _) (((hB.trans hg2).trans hg3).trans hg4)
            · have hv := Lib.hid (hBig.out hb)
              have h3 : (limT (ctAt s gl i)).2 = 3 := by
                rcases limT_code (ctAt s gl i) with h | h
                · exact absurd h hb
                · rw [h]
              rw [h3] at KL
              clear hBig hStop hNext hb h3
              generalize limT (ctAt s gl i) = X at *
              go_wp2_with fail
              refine (KR.out _ (Grew.refl wr)).mono ?_
              rintro e w2 ⟨u2, rfl, ho2, hg2⟩
              obtain ⟨b2, o2, c2, rfl, hc3, k2⟩ := ints_head ho2.ints
              clear ho2
              have r2 := Grew.refl w2
              go_wp2_with fail
              refine (KA.out _ hg2).mono ?_
              rintro e w3 ⟨q, rfl, hq, hg3⟩
              have HQ := Lib.hid hq
              clear hq
              go_wp2_with fail
              refine (KL.out _ _ _ HQ.out).mono ?_
              rintro e w4 ⟨u4, rfl, hu4, hg4⟩
              clear hu4
              go_wp2_with fail
              go_ret3
              exact HE.out _ _ _ hv.out (OwnT.nil_ _ _) (((hB.trans hg2).trans hg3).trans hg4)
end Go.Proofs.YthofkdpmgjkgkaaGreat

/- NormalTerm and CountReductions of both. -/
namespace Go.Proofs.YthofkdpmgjkgkaaGreat
open Go.RowKit
open Tr (Tm)

theorem nfF_eq (L : List ByteArray) (xs : List Tn) : nfF L xs = if (ttF L xs).2 = 0 then nrm 200 (tmT xs) L.length else ([], 0, (ttF L xs).2) := by
  unfold nfF ttF
  split
  · cases ty (L.map fo) (tmT xs) with
    | none => rw [if_neg (by decide)]
    | some A => rw [if_pos rfl]
  · rw [if_neg (by decide)]
theorem ttF_ok {L : List ByteArray} {xs : List Tn} (h : (ttF L xs).2 = 0) : asl L = true ∧ tmB xs = true := by
  unfold ttF at h
  split at h
  · rename_i h1
    simpa using h1
  · cases h
theorem nfF_len (L : List ByteArray) (xs : List Tn) : (nfF L xs).1.length ≤ 1048576 := by
  rw [nfF_eq]
  split
  · rename_i h
    obtain ⟨h1, h2⟩ := ttF_ok h
    rcases nrm_tree (L.length : Int) (by omega) 200 (tmT xs) (tmT_ok h2).1 (by rw [(tmT_ok h2).2.1]; exact (tmT_ok h2).2.2) with ⟨_, u, _, h4, h5⟩ | h3
    · rw [← h4]; omega
    · rw [h3]; simp
  · simp

theorem normalized_c (va : Value) (L : List ByteArray) (vt : Value) (xs : List Tn) (w : World) (hs : Strs w va L) (ht : Tms w vt xs) (f0 : Fits L) (n0 : L.length ≤ 1048576) (f1 : FitsT xs) (n1 : xs.length ≤ 1048576) :
    Calls Tryz.prog 73 #[va, vt] w (GivesNr w (nfF L xs)) := by
  have KT := Lib.hid (implTyp_c va L vt xs w hs ht f0 n0 f1 n1)
  have KS := Lib.hid (fun W (hW : Grew w W) => sizeS_c va L W (hs.grew hW))
  have KN := fun (h : (ttF L xs).2 = 0) W (hW : Grew w W) => normalTerm_c vt (tmT xs) L.length W (by rw [(tmT_ok (ttF_ok h).2).2.1]; exact ht.grew hW) (tmT_ok (ttF_ok h).2).1 (by rw [(tmT_ok (ttF_ok h).2).2.1]; exact (tmT_ok (ttF_ok h).2).2.2) (by omega) (by have := (asl_map (ttF_ok h).1).1; omega)
  rw [nfF_eq]
  unfold GivesSI at KT
  unfold GivesNr at KN
  obtain ⟨A, c, rfl⟩ := strs_slice hs
  obtain ⟨B, d, rfl⟩ := tms_slice ht
  clear hs ht f0 f1 n0 n1
  generalize ttF L xs = tt at *
  obtain ⟨ts, tc⟩ := tt
  simp only at KT KN ⊢
  generalize nrm 200 (tmT xs) L.length = RR at *
  generalize L.length = gl at *
  generalize xs.length = gn at *
  by_cases h0 : tc = 0
  · rw [if_pos h0]
    replace KN := Lib.hid (KN h0)
    rw [h0] at KT
    clear h0
    go_enter Tryz.func73, Tryz.ntmps73
    go_wp2_with fail
    refine KT.out.mono ?_
    rintro e w1 ⟨rfl, hg1⟩
    go_wp2_with fail
    refine (KS.out _ hg1).mono ?_
    rintro e w2 ⟨rfl, hg2⟩
    have g2 := hg1.trans hg2
    go_wp2_with fail
    refine (KN.out _ g2).mono ?_
    rintro e w3 ⟨u, rfl, hu, hg3⟩
    go_wp2_with fail
    go_ret3
    exact ⟨u, rfl, hu, g2.trans hg3⟩
  · rw [if_neg h0]
    have hb : (tc != 0) = true := by simpa using h0
    clear h0 KN
    go_enter Tryz.func73, Tryz.ntmps73
    go_wp2_with fail
    refine KT.out.mono ?_
    rintro e w1 ⟨rfl, hg1⟩
    go_wp2_with fail
    go_ret3
    exact ⟨.slice none 0 0, rfl, Tms.nil_ _, hg1⟩

/-- A term and a code. -/
noncomputable def ntF (L : List ByteArray) (xs : List Tn) : List Tn × Int := ((nfF L xs).1, (nfF L xs).2.2)
noncomputable def crF (L : List ByteArray) (xs : List Tn) : Int × Int := ((nfF L xs).2.1, (nfF L xs).2.2)
def GivesII (w : World) (r : Int × Int) (e : Ending) (w' : World) : Prop := e = .returned (.tuple #[.int .i64 r.1, .int .i64 r.2]) ∧ Grew w w'
theorem ntF_len (L : List ByteArray) (xs : List Tn) : (ntF L xs).1.length ≤ 1048576 := nfF_len L xs

theorem implNt_c (va : Value) (L : List ByteArray) (vt : Value) (xs : List Tn) (w : World) (hs : Strs w va L) (ht : Tms w vt xs) (f0 : Fits L) (n0 : L.length ≤ 1048576) (f1 : FitsT xs) (n1 : xs.length ≤ 1048576) :
    Calls Tryz.prog 33 #[va, vt] w (GivesT2 w (ntF L xs)) := by
  have KN := Lib.hid (normalized_c va L vt xs w hs ht f0 n0 f1 n1)
  have KC := Lib.hid (fun u W (hu : Tms W u (nfF L xs).1) => cloneT_c u (nfF L xs).1 W hu (nfF_len L xs))
  unfold ntF
  unfold GivesNr at KN
  generalize nfF L xs = R at *
  obtain ⟨ra, rb, rc⟩ := R
  simp only at KN KC ⊢
  obtain ⟨A, c, rfl⟩ := strs_slice hs
  obtain ⟨B, d, rfl⟩ := tms_slice ht
  clear hs ht f0 f1 n0 n1
  generalize L.length = gl at *
  generalize xs.length = gn at *
  go_enter Tryz.func33, Tryz.ntmps33
  go_wp2_with fail
  refine KN.out.mono ?_
  rintro e w1 ⟨u, rfl, hu, hg1⟩
  have HU := Lib.hid hu
  clear hu
  go_wp2_with fail
  refine (KC.out _ _ HU.out).mono ?_
  rintro e w2 ⟨u2, rfl, ho, hg2⟩
  go_wp2_with fail
  go_ret2
  exact ⟨u2, rfl, ho.base hg1.size, hg1.trans hg2⟩

theorem specNt_c (va : Value) (L : List ByteArray) (vt : Value) (xs : List Tn) (w : World) (hs : Strs w va L) (ht : Tms w vt xs) (f0 : Fits L) (n0 : L.length ≤ 1048576) (f1 : FitsT xs) (n1 : xs.length ≤ 1048576) :
    Calls Tryz.prog 32 #[va, vt] w (GivesT2 w (ntF L xs)) := by
  have KN := Lib.hid (l26Normal_c va L vt xs w hs ht f0 n0 f1 n1)
  unfold ntF
  unfold GivesNo at KN
  generalize nfF L xs = R at *
  obtain ⟨ra, rb, rc⟩ := R
  simp only at KN ⊢
  obtain ⟨A, c, rfl⟩ := strs_slice hs
  obtain ⟨B, d, rfl⟩ := tms_slice ht
  clear hs ht f0 f1 n0 n1
  generalize L.length = gl at *
  generalize xs.length = gn at *
  go_enter Tryz.func32, Tryz.ntmps32
  go_wp2_with fail
  refine KN.out.mono ?_
  rintro e w1 ⟨u, rfl, hu, hg1⟩
  go_wp2_with fail
  go_ret2
  exact ⟨u, rfl, hu, hg1⟩

theorem implCr_c (va : Value) (L : List ByteArray) (vt : Value) (xs : List Tn) (w : World) (hs : Strs w va L) (ht : Tms w vt xs) (f0 : Fits L) (n0 : L.length ≤ 1048576) (f1 : FitsT xs) (n1 : xs.length ≤ 1048576) :
    Calls Tryz.prog 31 #[va, vt] w (GivesII w (crF L xs)) := by
  have KN := Lib.hid (normalized_c va L vt xs w hs ht f0 n0 f1 n1)
  unfold crF
  unfold GivesNr at KN
  generalize nfF L xs = R at *
  obtain ⟨ra, rb, rc⟩ := R
  simp only at KN ⊢
  obtain ⟨A, c, rfl⟩ := strs_slice hs
  obtain ⟨B, d, rfl⟩ := tms_slice ht
  clear hs ht f0 f1 n0 n1
  generalize L.length = gl at *
  generalize xs.length = gn at *
  go_enter Tryz.func31, Tryz.ntmps31
  go_wp2_with fail
  refine KN.out.mono ?_
  rintro e w1 ⟨u, rfl, hu, hg1⟩
  go_wp2_with fail
  go_ret2
  exact ⟨rfl, hg1⟩

theorem specCr_c (va : Value) (L : List ByteArray) (vt : Value) (xs : List Tn) (w : World) (hs : Strs w va L) (ht : Tms w vt xs) (f0 : Fits L) (n0 : L.length ≤ 1048576) (f1 : FitsT xs) (n1 : xs.length ≤ 1048576) :
    Calls Tryz.prog 30 #[va, vt] w (GivesII w (crF L xs)) := by
  have KN := Lib.hid (l26Normal_c va L vt xs w hs ht f0 n0 f1 n1)
  unfold crF
  unfold GivesNo at KN
  generalize nfF L xs = R at *
  obtain ⟨ra, rb, rc⟩ := R
  simp only at KN ⊢
  obtain ⟨A, c, rfl⟩ := strs_slice hs
  obtain ⟨B, d, rfl⟩ := tms_slice ht
  clear hs ht f0 f1 n0 n1
  generalize L.length = gl at *
  generalize xs.length = gn at *
  go_enter Tryz.func30, Tryz.ntmps30
  go_wp2_with fail
  refine KN.out.mono ?_
  rintro e w1 ⟨u, rfl, hu, hg1⟩
  go_wp2_with fail
  go_ret2
  exact ⟨rfl, hg1⟩
end Go.Proofs.YthofkdpmgjkgkaaGreat

/- The laws' own helpers on slices of strings: szStringS, toStringS, eqStringS. -/
namespace Go.Proofs.YthofkdpmgjkgkaaGreat
open Go.RowKit

/-- A list of strings that came in. -/
def ArgS (w : World) (v : Value) (L : List ByteArray) : Prop :=
  (∃ A c, v = .slice A L.length c ∧ L.length ≤ 9223372036854775807) ∧ (0 < L.length → Strs w v L) ∧ ∀ i, i < L.length → (st L i).size ≤ 9223372036854775807
theorem ArgS.grew {w w' : World} {v : Value} {L : List ByteArray} (h : ArgS w v L) (hg : Grew w w') : ArgS w' v L := ⟨h.1, fun hp => (h.2.1 hp).grew hg, h.2.2⟩

/-- None of the first k is long. -/
def Small (L : List ByteArray) (k : Nat) : Prop := ∀ i, i < k → (st L i).size ≤ 1048576
theorem Small.zero (L : List ByteArray) : Small L 0 := fun i hi => absurd hi (by omega)
theorem Small.succ {L : List ByteArray} {k : Nat} (h : Small L k) (h1 : (st L k).size ≤ 1048576) : Small L (k + 1) := by
  intro i hi
  rcases Nat.lt_or_ge i k with hk | hk
  · exact h i hk
  · obtain rfl : i = k := by omega
    exact h1
/-- What the sizes' walk gives. -/
def Sizes (L : List ByteArray) (r : Int) : Prop := r ≤ 1048576 ∧ (0 ≤ r → L.length ≤ 1048576 ∧ Small L L.length)

theorem szStringS_c (v : Value) (L : List ByteArray) (left : Int) (w : World) (h : ArgS w v L) (h0 : 0 ≤ left) (h1 : left ≤ 1048576) :
    Calls Tryz.prog 18 #[v, .int .i64 left] w fun e w' => ∃ r : Int, e = .returned (.int .i64 r) ∧ Sizes L r ∧ Grew w w' := by
  obtain ⟨⟨A, c, rfl, hmax⟩, hS, hz⟩ := h
  by_cases hlong : left < L.length
  · clear hS hz
    go_enter Tryz.func18, Tryz.ntmps18
    go_wp2_with fail
    go_ret
    exact ⟨_, rfl, ⟨by omega, fun h => absurd h (by omega)⟩, Grew.refl _⟩
  · by_cases hp : 0 < L.length
    · rcases (hS hp).open_ with ⟨_, h2⟩ | ⟨b, o, c', hv, hc, hm, hb, hcell⟩
      · rw [h2] at hp; cases hp
      obtain ⟨rfl, rfl⟩ : A = some ⟨b, o, none⟩ ∧ c = c' := by simpa using hv
      clear hS hv
      have HE : Hid (∀ r : Int, (r ≤ 1048576 ∧ (0 ≤ r → L.length ≤ 1048576 ∧ Small L L.length)) → Sizes L r) := Lib.hid (fun _ h => h)
      have HC := Lib.hid hcell
      have HZ := Lib.hid hz
      clear hcell hz
      generalize hN : L.length = n at *
      clear hN
      go_enter Tryz.func18, Tryz.ntmps18
      go_wp2_with fail
      go_loopw [1, 5] (fun kk i wr => ∃ (j : Nat) (l : Int), j ≤ n ∧ i = .int .i64 j ∧ kk = .int .i64 l ∧ 0 ≤ l ∧ l ≤ left ∧ Grew w wr ∧ Hid (Small L j)) (fun _ i _ => n - (intOf i).toNat)
      case atStart => exact ⟨0, left - n, Nat.zero_le _, rfl, rfl, by omega, by omega, Grew.refl _, Small.zero _⟩
      case round =>
        obtain ⟨j, l, hj, rfl, rfl, hl0, hl1, hB, HJ⟩ := hrel
        by_cases hlt : j < n
        · have k1 := HC.out j hlt _ hB
          have k2 := HZ.out j hlt
          have HS := Lib.hid (fun h => HJ.out.succ (k := j) h)
          generalize st L j = x at *
          by_cases hbig : l < x.size
          · go_wp2_with fail
            go_ret
            exact ⟨_, rfl, HE.out _ ⟨by omega, fun h => absurd h (by omega)⟩, hB⟩
          · go_wp2_with fail
            go_roundw
            case rel => exact ⟨j + 1, l - x.size, by omega, by go_num, rfl, by omega, by omega, hB, HS.out (by omega)⟩
            case measure => simp [intOf]; omega
        · obtain rfl : j = n := by omega
          go_wp2_with fail
          go_ret
          exact ⟨_, rfl, HE.out _ ⟨by omega, fun _ => ⟨by omega, HJ.out⟩⟩, hB⟩
    · obtain rfl : L = [] := List.eq_nil_of_length_eq_zero (by omega)
      simp only [List.length_nil] at *
      go_enter Tryz.func18, Tryz.ntmps18
      go_wp2_with fail
      refine wp_loop_rounds 1 ?_; rw [rounds_succ]
      go_wp2_with fail
      go_ret
      exact ⟨_, rfl, ⟨by omega, fun _ => ⟨by simp, fun i hi => absurd hi (by simp)⟩⟩, Grew.refl _⟩

theorem one_step {cur : Array Value} {F : Nat → Value} {j : Nat} (hs : j < cur.size) (h : ∀ i, i < j → cur[i]? = some (F i)) :
    ∀ i, i < j + 1 → (cur.setIfInBounds j (F j))[i]? = some (F i) := by
  intro i hi
  simp only [Array.getElem?_setIfInBounds]
  rcases Nat.lt_or_ge i j with hk | hk
  · rw [if_neg (by omega)]
    exact h i hk
  · obtain rfl : i = j := by omega
    rw [if_pos rfl, if_pos hs]

theorem toStringS_c (v : Value) (L : List ByteArray) (w : World) (h : ArgS w v L) (hn : L.length ≤ 1048576) :
    Calls Tryz.prog 20 #[v] w (GivesS w L) := by
  obtain ⟨⟨A, c, rfl, hmax⟩, hS, _⟩ := h
  have hmk := run_make_row' (P := Tryz.prog) 31 9 (.string ByteArray.empty) 16 Tryz.underlying31 Tryz.infoStr rfl .i64 .i64 L.length (by omega) (by omega)
  have hend : ∀ cur w', w'.heap[w.heap.size]? = some (.cells cur 9 (0, 0)) → cur.size = L.length → (∀ i, i < L.length → cur[i]? = some (.string (st L i))) → OwnS w' w.heap.size (.slice (some ⟨w.heap.size, 0, none⟩) L.length L.length) L :=
    fun cur w' h1 h2 h3 => OwnS.mk_ (Nat.le_refl _) h1 (Nat.le_refl _) (by omega) h2 h3
  have HE := Lib.hid hend
  clear hend
  have hsz : (madeCells #[Value.string ByteArray.empty] L.length).size = L.length := by simp [madeCells]
  have hnew := blk_new w (.cells (madeCells #[Value.string ByteArray.empty] L.length) 9)
  have hal := (Grew.refl w).alloc (.cells (madeCells #[Value.string ByteArray.empty] L.length) 9)
  generalize madeCells #[Value.string ByteArray.empty] L.length = cur0 at *
  by_cases hp : 0 < L.length
  · rcases (hS hp).open_ with ⟨_, h2⟩ | ⟨b, o, c', hv, hc, hm, hb, hcell⟩
    · rw [h2] at hp; cases hp
    obtain ⟨rfl, rfl⟩ : A = some ⟨b, o, none⟩ ∧ c = c' := by simpa using hv
    clear hS hv
    have HC := Lib.hid hcell
    clear hcell
    generalize hN : L.length = n at *
    clear hN
    have HNEW := Lib.hid hnew
    clear hnew
    have HAL := Lib.hid hal
    clear hal
    go_enter Tryz.func20, Tryz.ntmps20
    go_wp2_with fail
    go_loopw [4] (fun i wr => ∃ (j : Nat) (cur : Array Value), j ≤ n ∧ i = .int .i64 j ∧ wr.heap[w.heap.size]? = some (.cells cur 9 (0, 0)) ∧ cur.size = n ∧ Grew w wr ∧ (∀ i, i < j → cur[i]? = some (.string (st L i)))) (fun i _ => n - (intOf i).toNat)
    case atStart => exact ⟨0, cur0, Nat.zero_le _, rfl, HNEW.out, hsz, HAL.out, fun i hi => absurd hi (by omega)⟩
    case round =>
      obtain ⟨j, cur, hj, rfl, hh, hcs, hB, hc2⟩ := hrel
      have HD := Lib.hid hc2
      clear hc2
      by_cases hlt : j < n
      · have k1 := HC.out j hlt _ hB
        have HS := Lib.hid (one_step (F := fun i => .string (st L i)) (j := j) (by omega) HD.out)
        have f1 : ∀ i, wr.frozen? ⟨w.heap.size, i, none⟩ = false := fun i => by simp [World.frozen?, hh]
        obtain ⟨u1, hu1⟩ : ∃ u, wr.cell? ⟨w.heap.size, 0 + j, none⟩ = some u := by
          rw [cell_of_row wr w.heap.size _ cur _ (0, 0) hh]
          exact ⟨_, Array.getElem?_eq_getElem (by omega)⟩
        simp only [Nat.zero_add] at hu1
        have HH := Lib.hid hh
        clear hh
        generalize st L j = x at *
        go_wp2_with fail
        go_roundw
        case rel => exact ⟨j + 1, _, by omega, by go_num, blk_set HH.out _ _, by simp [hcs], hB.setCell (Nat.le_refl _) _, HS.out⟩
        case measure => simp [intOf]; omega
      · obtain rfl : j = n := by omega
        have HH := Lib.hid hh
        clear hh
        go_wp2_with fail
        go_ret
        exact ⟨_, rfl, HE.out _ _ HH.out hcs HD.out, hB⟩
  · have hp0 : L.length ≤ 0 := by omega
    have HNEW := Lib.hid hnew
    clear hnew hS hp
    have HAL := Lib.hid hal
    clear hal
    generalize hN : L.length = n at *
    clear hN
    go_enter Tryz.func20, Tryz.ntmps20
    go_wp2_with fail
    refine wp_loop_rounds 1 ?_; rw [rounds_succ]
    go_wp2_with fail
    go_ret
    exact ⟨_, rfl, HE.out _ _ HNEW.out hsz (fun i hi => absurd hi (by omega)), HAL.out⟩

/-- Two lists of strings that are equal. -/
theorem eqStringS_yes (v1 v2 : Value) (L : List ByteArray) (w : World) (h1 : Strs w v1 L) (h2 : Strs w v2 L) (hn : L.length ≤ 1099511627776) :
    Calls Tryz.prog 22 #[v1, v2] w fun e w' => e = .returned (.bool true) ∧ Grew w w' := by
  rcases h1.open_ with ⟨rfl, rfl⟩ | ⟨b1, o1, c1, rfl, hc1, hm1, hb1, hf⟩
  · obtain ⟨A, c, rfl⟩ := strs_slice h2
    go_enter Tryz.func22, Tryz.ntmps22
    go_wp2_with fail
    refine wp_loop_rounds 1 ?_; rw [rounds_succ]
    go_wp2_with fail
    go_ret
    exact ⟨rfl, Grew.refl _⟩
  · rcases h2.open_ with ⟨rfl, rfl⟩ | ⟨b2, o2, c2, rfl, hc2, hm2, hb2, hh⟩
    · go_enter Tryz.func22, Tryz.ntmps22
      go_wp2_with fail
      refine wp_loop_rounds 1 ?_; rw [rounds_succ]
      go_wp2_with fail
      go_ret
      exact ⟨rfl, Grew.refl _⟩
    · clear h1 h2
      have HF := Lib.hid hf
      have HH := Lib.hid hh
      clear hf hh
      generalize hN : L.length = n at *
      clear hN
      go_enter Tryz.func22, Tryz.ntmps22
      go_wp2_with fail
      go_loopw [5] (fun i wr => ∃ j : Nat, j ≤ n ∧ i = .int .i64 j ∧ Grew w wr) (fun i _ => n - (intOf i).toNat)
      case atStart => exact ⟨0, Nat.zero_le _, rfl, Grew.refl _⟩
      case round =>
        obtain ⟨j, hj, rfl, hB⟩ := hrel
        by_cases hlt : j < n
        · have k1 : ∀ W, Grew w W → W.cell? ⟨b1, o1 + j, none⟩ = some (.string (st L j)) := fun W hW => HF.out j hlt W hW
          have k2 : ∀ W, Grew w W → W.cell? ⟨b2, o2 + j, none⟩ = some (.string (st L j)) := fun W hW => HH.out j hlt W hW
          have k3 := k1 _ hB
          have k4 := k2 _ hB
          generalize st L j = x at *
          have hx : (x.toList != x.toList) = false := by simp
          go_wp2_with fail
          go_quiet (fail)
          go_wp2_with fail
          go_roundw
          case rel => exact ⟨j + 1, by omega, by go_num, by first | assumption | exact hB.drewN _⟩
          case measure => simp [intOf]; omega
        · go_wp2_with fail
          go_ret
          exact ⟨rfl, by assumption⟩
end Go.Proofs.YthofkdpmgjkgkaaGreat

/- The laws' text of a mark: one text for each number. -/
namespace Go.Proofs.YthofkdpmgjkgkaaGreat
open Go.RowKit

theorem conv_one (Y : Int) (w : World) (t : TypeId) : (convert 52 9 (.slice (some ⟨w.heap.size, 0, none⟩) 1 1)).run Tryz.prog (w.alloc (.cells #[.int .u8 Y] t)) = .ok (.string (strOfNums [Y])) (w.alloc (.cells #[.int .u8 Y] t)) :=
  run_convert_bytes_arg (P := Tryz.prog) (w := w.alloc (.cells #[.int .u8 Y] t)) 52 5 Tryz.underlying52 Tryz.underlying5 w.heap.size 0 1 1 [Y] rfl (fun i hi => by
    obtain rfl : i = 0 := by omega
    simp) 9 Tryz.underlying9

/-- The digits of m ahead of z. -/
def digs : Nat → Nat → ByteArray → ByteArray
  | 0, _, z => z
  | f + 1, m, z => if m = 0 then z else digs f (m / 10) (strOfNums [((48 + m % 10 : Nat) : Int)] ++ z)
theorem digs_zero (f : Nat) (z : ByteArray) : digs f 0 z = z := by cases f <;> simp [digs]
theorem digs_step {f m : Nat} (h : 0 < m) (z : ByteArray) : digs (f + 1) m z = digs f (m / 10) (strOfNums [((48 + m % 10 : Nat) : Int)] ++ z) := by rw [digs, if_neg (by omega)]
/-- The text of a mark. -/
def mtx (k : Int) : ByteArray := if k ≤ 0 then ⟨#[109, 48]⟩ else ⟨#[109]⟩ ++ digs k.toNat k.toNat ⟨#[]⟩

theorem markTextD_c (k : Int) (w : World) (h0 : 0 ≤ k) (h1 : k ≤ 4611686018427387904) :
    Calls Tryz.prog 57 #[.int .i64 k] w fun e w' => e = .returned (.string (mtx k)) ∧ Grew w w' := by
  unfold mtx
  by_cases hk : k ≤ 0
  · rw [if_pos hk]
    go_enter Tryz.func57, Tryz.ntmps57
    go_wp2_with fail
    go_ret
    exact ⟨rfl, Grew.refl _⟩
  · rw [if_neg hk]
    obtain ⟨M, hM⟩ : ∃ M, M = (⟨#[109]⟩ : ByteArray) ++ digs k.toNat k.toNat ⟨#[]⟩ := ⟨_, rfl⟩
    rw [← hM]
    obtain ⟨n, rfl⟩ : ∃ n : Nat, k = (n : Int) := ⟨k.toNat, by omega⟩
    rw [Int.toNat_natCast] at hM
    have HM := Lib.hid hM
    have HST := Lib.hid (fun f m (h : 0 < m) z => @digs_step f m h z)
    have HZ := Lib.hid (fun f z => digs_zero f z)
    clear hM
    go_enter Tryz.func57, Tryz.ntmps57
    go_wp2_with fail
    go_loopw [0, 3] (fun kk s wr => ∃ (m f : Nat) (z : ByteArray), m ≤ f ∧ (z.size : Int) + m ≤ 4611686018427387904 ∧ kk = .int .i64 m ∧ s = .string z ∧ Grew w wr ∧ Hid (M = (⟨#[109]⟩ : ByteArray) ++ digs f m z)) (fun kk _ _ => (intOf kk).toNat)
    case atStart => exact ⟨n, n, ⟨#[]⟩, Nat.le_refl _, by show ((0 : Nat) : Int) + n ≤ _; omega, rfl, rfl, Grew.refl _, HM.out⟩
    case round =>
      obtain ⟨m, f, z, hm0, hm1, rfl, rfl, hB, HJ⟩ := hrel
      by_cases hp : 0 < m
      · obtain ⟨g, rfl⟩ : ∃ g, f = g + 1 := ⟨f - 1, by omega⟩
        have hcv := conv_one
        have hs1 : ∀ Y, (strOfNums [Y]).size = 1 := fun Y => by rw [strOfNums_size]; rfl
        have hne : ∀ o, Grew w (wr.alloc o) := fun o => hB.alloc o
        have hv : Hid (M = (⟨#[109]⟩ : ByteArray) ++ digs g (m / 10) (strOfNums [((48 + m % 10 : Nat) : Int)] ++ z)) := Lib.hid (by rw [HJ.out, HST.out g m hp])
        clear HM HJ
        go_wp2_with fail
        go_roundw
        case rel => exact ⟨m / 10, g, _, by omega, by rw [ByteArray.size_append, hs1]; omega, by go_num, rfl, hne _, hv.out⟩
        case measure => simp [intOf]; omega
      · obtain rfl : m = 0 := by omega
        have hv : Hid (M = (⟨#[109]⟩ : ByteArray) ++ z) := Lib.hid (by rw [HJ.out, HZ.out])
        go_wp2_with fail
        go_ret
        exact ⟨by rw [hv.out]; rfl, hB⟩
end Go.Proofs.YthofkdpmgjkgkaaGreat

/- A row that is written: other rows stay, older worlds have not changed. -/
namespace Go.Proofs.YthofkdpmgjkgkaaGreat
open Go.RowKit

theorem own_row {w w' : World} {B : Nat} {e : TypeId} {k n : Nat} {v : Value} {xs : List Value} {row : Option Nat} (h : w.ownsRow B e k v n xs) (hg : w.grownBy w' row) (hne : ∀ g, row = some g → v.ownBlock ≠ some g) : w'.ownsRow B e k v n xs := by
  cases row with
  | none => exact own_grew h ⟨hg.os, hg.tape, hg.output, hg.size, fun i hi => hg.block i hi (by simp)⟩
  | some g => exact own_only h (show Only g w w' from hg) (hne g rfl)
theorem grew_row {W w w' : World} {row : Option Nat} (h : Grew W w) (hg : w.grownBy w' row) (hne : ∀ g, row = some g → W.heap.size ≤ g) : Grew W w' := h.grown hg hne
theorem row_of {w w' : World} {v : Value} (h1 : ∀ g, v.ownBlock = some g → Only g w w') (h2 : v.ownBlock = none → Grew w w') : w.grownBy w' v.ownBlock := by
  cases hv : v.ownBlock with
  | none => exact (h2 hv).by_ _
  | some g => exact h1 g hv
end Go.Proofs.YthofkdpmgjkgkaaGreat

/- The laws' marks on slices of the nodes of terms. -/
namespace Go.Proofs.YthofkdpmgjkgkaaGreat
open Go.RowKit

def tmarks (k : Int) (n : Nat) : List Tn := (List.range n).map fun i : Nat => ((k + (i : Int) * 3, k + (i : Int) * 3 + 1, mtx (k + (i : Int) * 3 + 1 + 1)) : Tn)
theorem tmarks_length (k : Int) (n : Nat) : (tmarks k n).length = n := by simp [tmarks]
theorem tmarks_tk {k : Int} {n i : Nat} (h : i < n) : tk (tmarks k n) i = k + i * 3 := by simp [tmarks, tk, List.getD, h]
theorem tmarks_tn {k : Int} {n i : Nat} (h : i < n) : tn (tmarks k n) i = k + i * 3 + 1 := by simp [tmarks, tn, List.getD, h]
theorem tmarks_tt {k : Int} {n i : Nat} (h : i < n) : tt (tmarks k n) i = mtx (k + i * 3 + 1 + 1) := by simp [tmarks, tt, List.getD, h]

theorem markTermNodeS_m (v : Value) (xs : List Tn) (B : Nat) (k : Int) (w : World) (h : OwnT w B v xs) (hk0 : 0 ≤ k) (hk : k ≤ 1099511627776) (hn : xs.length ≤ 1048576) :
    Calls Tryz.prog 16 #[v, .int .i64 k] w fun e w' => e = .returned (.int .i64 (k + xs.length * 3)) ∧ OwnT w' B v (tmarks k xs.length) ∧ w.grownBy w' v.ownBlock := by
  rcases h.open_ with ⟨rfl, rfl⟩ | ⟨g, c, cur0, rfl, hB, hg, hh0, hnc, hcm, hcs0, hc0⟩
  · go_enter Tryz.func16, Tryz.ntmps16
    go_wp2_with fail
    refine wp_loop_rounds 1 ?_; rw [rounds_succ]
    go_wp2_with fail
    go_ret
    exact ⟨by simp, by simpa [tmarks] using OwnT.nil_ _ _, World.grownBy.refl _ _⟩
  · have hend : ∀ cur w', w'.heap[g]? = some (.cells cur 66 (0, 0)) → cur.size = c * 3 → (∀ i, i < xs.length → cur[i * 3]? = some (.int .i64 (k + (i : Int) * 3)) ∧ cur[i * 3 + 1]? = some (.int .i64 (k + (i : Int) * 3 + 1)) ∧ cur[i * 3 + 2]? = some (.string (mtx (k + (i : Int) * 3 + 1 + 1)))) → OwnT w' B (.slice (some ⟨g, 0, none⟩) xs.length c) (tmarks k xs.length) := by
      intro cur w' h1 h2 h3
      have := OwnT.mk_ (w := w') (B := B) (xs := tmarks k xs.length) (g := g) (c := c) (cur := cur) hB h1 (by rw [tmarks_length]; exact hnc) hcm h2 (fun i hi => by
        rw [tmarks_length] at hi
        rw [tmarks_tk hi, tmarks_tn hi, tmarks_tt hi]
        exact h3 i hi)
      rw [tmarks_length] at this
      exact this
    generalize hN : xs.length = n at *
    clear hN hc0 h
    have HE := Lib.hid hend
    clear hend
    go_enter Tryz.func16, Tryz.ntmps16
    go_wp2_with fail
    go_loopw [1, 5] (fun kk i wr => ∃ (j : Nat) (cur : Array Value), j ≤ n ∧ i = .int .i64 j ∧ kk = .int .i64 (k + (j : Int) * 3) ∧ wr.heap[g]? = some (.cells cur 66 (0, 0)) ∧ cur.size = c * 3 ∧ Only g w wr ∧ Hid (∀ i, i < j → cur[i * 3]? = some (.int .i64 (k + (i : Int) * 3)) ∧ cur[i * 3 + 1]? = some (.int .i64 (k + (i : Int) * 3 + 1)) ∧ cur[i * 3 + 2]? = some (.string (mtx (k + (i : Int) * 3 + 1 + 1))))) (fun _ i _ => n - (intOf i).toNat)
    case atStart => exact ⟨0, cur0, Nat.zero_le _, rfl, by simp, hh0, hcs0, Only.refl _ _, fun i hi => absurd hi (by omega)⟩
    case round =>
      obtain ⟨j, cur, hj, rfl, rfl, hh, hcs, ho, HC⟩ := hrel
      by_cases hlt : j < n
      · have f1 : ∀ i, wr.frozen? ⟨g, i, none⟩ = false := fun i => blk_frozen hh i
        have f2 : ∀ i u, (wr.setCell ⟨g, i, none⟩ u).frozen? ⟨g, i + 1, none⟩ = false := fun i u => blk_frozen (blk_set hh i u) _
        obtain ⟨u1, hu1⟩ : ∃ u, wr.cell? ⟨g, j * 3, none⟩ = some u := by
          rw [blk_cell hh]
          exact ⟨_, Array.getElem?_eq_getElem (by omega)⟩
        obtain ⟨u2, hu2⟩ : ∃ u, wr.cell? ⟨g, j * 3 + 1, none⟩ = some u := by
          rw [blk_cell hh]
          exact ⟨_, Array.getElem?_eq_getElem (by omega)⟩
        have HH1 := Lib.hid (blk_set (blk_set hh (j * 3) (.int .i64 (k + (j : Int) * 3))) (j * 3 + 1) (.int .i64 (k + (j : Int) * 3 + 1)))
        have HS := Lib.hid (trip_step (F := fun i => .int .i64 (k + (i : Int) * 3)) (G := fun i => .int .i64 (k + (i : Int) * 3 + 1)) (H := fun i => .string (mtx (k + (i : Int) * 3 + 1 + 1))) (j := j) (by omega) HC.out)
        have hO1 : Only g w ((wr.setCell ⟨g, j * 3, none⟩ (.int .i64 (k + (j : Int) * 3))).setCell ⟨g, j * 3 + 1, none⟩ (.int .i64 (k + (j : Int) * 3 + 1))) := (ho.setCell _).setCell _
        clear hh
        go_wp2_with fail
        refine (markTextD_c (k + (j : Int) * 3 + 1 + 1) _ (by omega) (by omega)).mono ?_
        rintro e w1 ⟨rfl, hg1⟩
        have hh1 := (hg1.block (blk_lt HH1.out)).trans HH1.out
        have f3 : w1.frozen? ⟨g, j * 3 + 2, none⟩ = false := blk_frozen hh1 _
        obtain ⟨u3, hu3⟩ : ∃ u, w1.cell? ⟨g, j * 3 + 2, none⟩ = some u := by
          rw [blk_cell hh1]
          exact ⟨_, Array.getElem?_eq_getElem (by simp; omega)⟩
        have HH2 := Lib.hid hh1
        clear hh1
        go_wp2_with fail
        go_roundw
        case rel => exact ⟨j + 1, _, by omega, by go_num, by go_num, blk_set HH2.out _ _, by simp [hcs], (hO1.grew hg1).setCell _, HS.out⟩
        case measure => simp [intOf]; omega
      · obtain rfl : j = n := by omega
        have HH := Lib.hid hh
        clear hh
        go_wp2_with fail
        go_ret
        exact ⟨rfl, HE.out _ _ HH.out hcs HC.out, ho⟩
theorem markTermNodeS_w (v : Value) (xs : List Tn) (B : Nat) (k : Int) (w : World) (h : OwnT w B v xs) (hk0 : 0 ≤ k) (hk : k ≤ 1099511627776) (hn : xs.length ≤ 1048576) :
    Calls Tryz.prog 16 #[v, .int .i64 k] w fun e w' => e = .returned (.int .i64 (k + xs.length * 3)) ∧ w.grownBy w' v.ownBlock :=
  (markTermNodeS_m v xs B k w h hk0 hk hn).mono fun _ _ ⟨h1, _, h3⟩ => ⟨h1, h3⟩

/-- heldTermNodeS finds the marks that stand there. -/
theorem heldTermNodeS_c (v : Value) (n : Nat) (k : Int) (w : World) (h : Tms w v (tmarks k n)) (hk0 : 0 ≤ k) (hk : k ≤ 1099511627776) (hn : n ≤ 1048576) :
    Calls Tryz.prog 17 #[v, .int .i64 k] w fun e w' => e = .returned (.int .i64 (k + n * 3)) ∧ Grew w w' := by
  have hl := tmarks_length k n
  rcases h.open_ with ⟨rfl, h0⟩ | ⟨b, o, c, rfl, hc, hm, hb, hf⟩
  · obtain rfl : n = 0 := by rw [h0] at hl; simpa using hl.symm
    go_enter Tryz.func17, Tryz.ntmps17
    go_wp2_with fail
    refine wp_loop_rounds 1 ?_; rw [rounds_succ]
    go_wp2_with fail
    go_ret
    exact ⟨by simp, Grew.refl _⟩
  · rw [hl] at hc hf ⊢
    clear hl h
    have HF : Hid (∀ i, i < n → ∀ W, Grew w W → W.cell? ⟨b, o + i * 3, none⟩ = some (.int .i64 (k + (i : Int) * 3)) ∧ W.cell? ⟨b, o + i * 3 + 1, none⟩ = some (.int .i64 (k + (i : Int) * 3 + 1)) ∧ W.cell? ⟨b, o + i * 3 + 2, none⟩ = some (.string (mtx (k + (i : Int) * 3 + 1 + 1)))) := Lib.hid fun i hi W hW => by
      have := hf i hi W hW
      rwa [tmarks_tk hi, tmarks_tn hi, tmarks_tt hi] at this
    clear hf
    go_enter Tryz.func17, Tryz.ntmps17
    go_wp2_with fail
    go_loopw [1, 5] (fun kk i wr => ∃ (j : Nat), j ≤ n ∧ i = .int .i64 j ∧ kk = .int .i64 (k + (j : Int) * 3) ∧ Grew w wr) (fun _ i _ => n - (intOf i).toNat)
    case atStart => exact ⟨0, Nat.zero_le _, rfl, by simp, Grew.refl _⟩
    case round =>
      obtain ⟨j, hj, rfl, rfl, hB⟩ := hrel
      by_cases hlt : j < n
      · have k1 : ∀ W, Grew w W → W.cell? ⟨b, o + j * 3, none⟩ = some (.int .i64 (k + (j : Int) * 3)) := fun W hW => (HF.out j hlt W hW).1
        have k2 : ∀ W, Grew w W → W.cell? ⟨b, o + j * 3 + 1, none⟩ = some (.int .i64 (k + (j : Int) * 3 + 1)) := fun W hW => (HF.out j hlt W hW).2.1
        have k3 : ∀ W, Grew w W → W.cell? ⟨b, o + j * 3 + 2, none⟩ = some (.string (mtx (k + (j : Int) * 3 + 1 + 1))) := fun W hW => (HF.out j hlt W hW).2.2
        have HMT := Lib.hid (fun W => markTextD_c (k + (j : Int) * 3 + 1 + 1) W (by omega) (by omega))
        generalize mtx (k + (j : Int) * 3 + 1 + 1) = z at *
        have hz : (z.toList != z.toList) = false := by simp
        have hrr := hB
        have hdr := hB.drew
        go_wp2_with fail
        go_region_held3 (fun w' => Grew w w') (with_reducible assumption)
          (first | (go_at_call 57; refine (HMT.out _).mono ?_; rintro e w1 ⟨rfl, hg1⟩; have hk1 : Grew w w1 := hdr.trans hg1))
        go_wp2_with fail
        go_roundw
        case rel => exact ⟨j + 1, by omega, by go_num, by go_num, hk1⟩
        case measure => simp [intOf]; omega
      · obtain rfl : j = n := by omega
        go_wp2_with fail
        go_ret
        exact ⟨rfl, by assumption⟩
end Go.Proofs.YthofkdpmgjkgkaaGreat

/- The laws' marks on lists of strings. -/
namespace Go.Proofs.YthofkdpmgjkgkaaGreat
open Go.RowKit

theorem markText_c (k : Int) (w : World) (h0 : 0 ≤ k) (h1 : k ≤ 4611686018427387904) :
    Calls Tryz.prog 57 #[.int .i64 k] w fun e w' => ∃ s, e = .returned (.string s) ∧ Grew w w' :=
  (markTextD_c k w h0 h1).mono fun _ _ ⟨h, hg⟩ => ⟨_, h, hg⟩
/-- markStringS writes into a row of the call's own. -/
theorem markStringS_c (v : Value) (L : List ByteArray) (B : Nat) (k : Int) (w : World) (h : OwnS w B v L) (hk0 : 0 ≤ k) (hk : k ≤ 1099511627776) (hn : L.length ≤ 1048576) :
    Calls Tryz.prog 34 #[v, .int .i64 k] w fun e w' => e = .returned (.int .i64 (k + L.length)) ∧ (∀ g, v.ownBlock = some g → Only g w w') ∧ (v.ownBlock = none → Grew w w') := by
  rcases h.2 with ⟨rfl, h0⟩ | ⟨g, c, cur0, rfl, hB, hh0, hnc, hcm, hcs0, _⟩
  · have hL : L.length = 0 := by simpa using h0
    rw [hL]
    clear h h0
    go_enter Tryz.func34, Tryz.ntmps34
    go_wp2_with fail
    refine wp_loop_rounds 1 ?_; rw [rounds_succ]
    go_wp2_with fail
    go_ret
    exact ⟨by simp, fun _ _ => Only.refl _ _, fun _ => Grew.refl _⟩
  · clear h
    generalize hN : L.length = n at *
    clear hN
    go_enter Tryz.func34, Tryz.ntmps34
    go_wp2_with fail
    go_loopw [1, 5] (fun kk i wr => ∃ (j : Nat) (cur : Array Value), j ≤ n ∧ i = .int .i64 j ∧ kk = .int .i64 (k + (j : Int)) ∧ wr.heap[g]? = some (.cells cur 9 (0, 0)) ∧ cur.size = c * 1 ∧ Only g w wr) (fun _ i _ => n - (intOf i).toNat)
    case atStart => exact ⟨0, cur0, Nat.zero_le _, rfl, by simp, hh0, hcs0, Only.refl _ _⟩
    case round =>
      obtain ⟨j, cur, hj, rfl, rfl, hh, hcs, ho⟩ := hrel
      by_cases hlt : j < n
      · have HH := Lib.hid hh
        clear hh
        go_wp2_with fail
        refine (markText_c _ _ (by omega) (by omega)).mono ?_
        rintro e w1 ⟨s, rfl, hg1⟩
        have hh1 := (hg1.block (blk_lt HH.out)).trans HH.out
        have f1 : w1.frozen? ⟨g, j, none⟩ = false := blk_frozen hh1 j
        obtain ⟨u1, hu1⟩ : ∃ u, w1.cell? ⟨g, j, none⟩ = some u := by
          rw [blk_cell hh1]
          exact ⟨_, Array.getElem?_eq_getElem (by omega)⟩
        have HH1 := Lib.hid hh1
        clear hh1
        go_wp2_with fail
        go_roundw
        case rel => exact ⟨j + 1, _, by omega, by go_num, by go_num, blk_set HH1.out _ _, by simp [hcs], (ho.grew hg1).setCell _⟩
        case measure => simp [intOf]; omega
      · obtain rfl : j = n := by omega
        have HH := Lib.hid hh
        clear hh
        go_wp2_with fail
        go_ret
        exact ⟨rfl, fun g' hg' => by simp [Value.ownBlock] at hg'; subst hg'; exact ho, fun hg' => by simp [Value.ownBlock] at hg'⟩
end Go.Proofs.YthofkdpmgjkgkaaGreat

/- The laws' marks on lists of strings, in the form that the laws' walks use. -/
namespace Go.Proofs.YthofkdpmgjkgkaaGreat
open Go.RowKit

theorem markStringS_w (v : Value) (L : List ByteArray) (B : Nat) (k : Int) (w : World) (h : OwnS w B v L) (hk0 : 0 ≤ k) (hk : k ≤ 1099511627776) (hn : L.length ≤ 1048576) :
    Calls Tryz.prog 34 #[v, .int .i64 k] w fun e w' => e = .returned (.int .i64 (k + L.length)) ∧ w.grownBy w' v.ownBlock :=
  (markStringS_c v L B k w h hk0 hk hn).mono fun _ _ ⟨h1, h2, h3⟩ => ⟨h1, row_of h2 h3⟩
end Go.Proofs.YthofkdpmgjkgkaaGreat

/- The law FnExactNormalTerm, walked. -/
namespace Go.Proofs.YthofkdpmgjkgkaaGreat
open Go.RowKit

theorem lawNt_c (v0 : Value) (L0 : List ByteArray) (v1 : Value) (L1 : List Tn) (w : World) (h0 : ArgS w v0 L0) (h1 : ArgT w v1 L1) :
    Calls Tryz.prog 8 #[v0, v1] w fun e w' => e = .returned (.bool true) ∧ Grew w w' := by
  have Z0 := Lib.hid (fun W l (hW : Grew w W) (a0 : 0 ≤ l) (a1 : l ≤ 1048576) => szStringS_c v0 L0 l W (h0.grew hW) a0 a1)
  have T0 := Lib.hid (fun W (hW : Grew w W) => toStringS_c v0 L0 W (h0.grew hW))
  have Z1 := Lib.hid (fun W l (hW : Grew w W) (a0 : 0 ≤ l) (a1 : l ≤ 1048576) => szTermNodeS_c v1 L1 l W (h1.grew hW) a0 a1)
  have T1 := Lib.hid (fun W (hW : Grew w W) => toTermNodeS_c v1 L1 W (h1.grew hW))
  clear h0 h1
  go_enter Tryz.func8, Tryz.ntmps8
  go_wp2_with fail
  refine (Z0.out _ _ (Grew.refl w) (by omega) (by omega)).mono ?_
  rintro e w1 ⟨r0, rfl, ⟨hm0, hs0⟩, hg1⟩
  have z1 := Lib.hid hg1.size
  have g1 : Grew w w1 := (Grew.refl w).trans hg1
  clear hg1
  by_cases hr0 : r0 < 0
  · clear hs0
    go_wp2_with fail
    go_ret
    exact ⟨rfl, g1⟩
  obtain ⟨hn0, hf0⟩ := hs0 (by omega)
  have F0 : Hid (Fits L0) := Lib.hid hf0
  clear hs0 hf0
  go_wp2_with fail
  refine (Z1.out _ _ g1 (by omega) (by omega)).mono ?_
  rintro e w2 ⟨r1, rfl, ⟨hm1, hs1⟩, hg2⟩
  have z2 := Lib.hid hg2.size
  have g2 : Grew w w2 := g1.trans hg2
  clear hg2
  by_cases hr1 : r1 < 0
  · clear hs1
    go_wp2_with fail
    go_ret
    exact ⟨rfl, g2⟩
  obtain ⟨hn1, hf1⟩ := hs1 (by omega)
  have F1 : Hid (FitsT L1) := Lib.hid hf1
  clear hs1 hf1
  have KS := Lib.hid (fun u0 u1 W x0 x1 => specNt_c u0 L0 u1 L1 W x0 x1 F0.out (by omega) F1.out (by omega))
  have KI := Lib.hid (fun u0 u1 W x0 x1 => implNt_c u0 L0 u1 L1 W x0 x1 F0.out (by omega) F1.out (by omega))
  have hlen := ntF_len L0 L1
  generalize ntF L0 L1 = rr at *
  obtain ⟨xs, c⟩ := rr
  simp only at hlen
  unfold GivesT2 at KS KI
  simp only at KS KI
  have hcc : (c != c) = false := by simp
  go_wp2_with fail
  refine (T0.out _ g2 hn0).mono ?_
  rintro e w3 ⟨a0, rfl, oa0, hg3⟩
  have z3 := Lib.hid hg3.size
  have g3 : Grew w w3 := g2.trans hg3
  clear hg3
  go_wp2_with fail
  refine (T1.out _ g3 hn1).mono ?_
  rintro e w4 ⟨a1, rfl, oa1, hg4⟩
  have z4 := Lib.hid hg4.size
  have g4 : Grew w w4 := g3.trans hg4
  replace oa0 := oa0.grew hg4
  clear hg4
  go_wp2_with fail
  refine (KS.out _ _ _ oa0.strs oa1.tms).mono ?_
  rintro e w5 ⟨q0, rfl, hq, hg5⟩
  have HQB := Lib.hid (fun g (hg : q0.ownBlock = some g) => (hq.lt g hg).2)
  have z5 := Lib.hid hg5.size
  have g5 : Grew w w5 := g4.trans hg5
  clear hg5 oa0 oa1
  go_wp2_with fail
  refine (T0.out _ g5 hn0).mono ?_
  rintro e w6 ⟨x0, rfl, ox0, hg6⟩
  have HB0 := Lib.hid (fun g (hg : x0.ownBlock = some g) => ox0.lt g hg)
  have z6 := Lib.hid hg6.size
  have g6 : Grew w w6 := g5.trans hg6
  replace hq := hq.grew hg6
  clear hg6
  go_wp2_with fail
  refine (T1.out _ g6 hn1).mono ?_
  rintro e w7 ⟨x1, rfl, ox1, hg7⟩
  have HB1 := Lib.hid (fun g (hg : x1.ownBlock = some g) => ox1.lt g hg)
  have z7 := Lib.hid hg7.size
  have g7 : Grew w w7 := g6.trans hg7
  replace ox0 := ox0.grew hg7
  replace hq := hq.grew hg7
  clear hg7
  go_wp2_with fail
  refine (KI.out _ _ _ ox0.strs ox1.tms).mono ?_
  rintro e w8 ⟨g0, rfl, hog, hg8⟩
  have HGB := Lib.hid (fun g (hg : g0.ownBlock = some g) => (hog.lt g hg).1)
  have z8 := Lib.hid hg8.size
  have g8 : Grew w w8 := g7.trans hg8
  replace hq := hq.grew hg8
  replace ox0 := ox0.grew hg8
  replace ox1 := ox1.grew hg8
  clear hg8
  go_wp2_with fail
  refine (eqTermNodeS_yes _ _ xs _ hog.tms hq.tms (by omega)).mono ?_
  rintro e w9 ⟨rfl, hg9⟩
  have z9 := Lib.hid hg9.size
  have g9 : Grew w w9 := g8.trans hg9
  replace hq := hq.grew hg9
  replace ox0 := ox0.grew hg9
  replace ox1 := ox1.grew hg9
  replace hog := hog.grew hg9
  clear hg9
  go_wp2_with fail
  refine (T0.out _ g9 hn0).mono ?_
  rintro e w10 ⟨y0, rfl, oy0, hg10⟩
  have z10 := Lib.hid hg10.size
  have g10 : Grew w w10 := g9.trans hg10
  replace hq := hq.grew hg10
  replace ox0 := ox0.grew hg10
  replace ox1 := ox1.grew hg10
  replace hog := hog.grew hg10
  clear hg10
  go_wp2_with fail
  refine (eqStringS_yes _ _ L0 _ ox0.strs oy0.strs (by omega)).mono ?_
  rintro e w11 ⟨rfl, hg11⟩
  have z11 := Lib.hid hg11.size
  have g11 : Grew w w11 := g10.trans hg11
  replace hq := hq.grew hg11
  replace ox0 := ox0.grew hg11
  replace ox1 := ox1.grew hg11
  replace hog := hog.grew hg11
  clear hg11 oy0
  go_wp2_with fail
  refine (T1.out _ g11 hn1).mono ?_
  rintro e w12 ⟨y1, rfl, oy1, hg12⟩
  have z12 := Lib.hid hg12.size
  have g12 : Grew w w12 := g11.trans hg12
  replace hq := hq.grew hg12
  replace ox0 := ox0.grew hg12
  replace ox1 := ox1.grew hg12
  replace hog := hog.grew hg12
  clear hg12
  go_wp2_with fail
  refine (eqTermNodeS_yes _ _ L1 _ ox1.tms oy1.tms (by omega)).mono ?_
  rintro e w13 ⟨rfl, hg13⟩
  have z13 := Lib.hid hg13.size
  have g13 : Grew w w13 := g12.trans hg13
  replace hq := hq.grew hg13
  replace ox0 := ox0.grew hg13
  replace ox1 := ox1.grew hg13
  replace hog := hog.grew hg13
  clear hg13 oy1
  go_wp2_with fail
  refine (markStringS_w _ L0 _ (1) _ ox0 (by omega) (by omega) (by omega)).mono ?_
  rintro e w14 ⟨rfl, hrow⟩
  replace hq : OwnT w14 _ q0 xs := own_row hq hrow (fun g hg hg2 => by have h1 := HQB.out g hg2; have h2 := (HB0.out g hg).1; have y1 := z1.out; have y2 := z2.out; have y3 := z3.out; have y4 := z4.out; have y5 := z5.out; have y6 := z6.out; have y7 := z7.out; omega)
  replace hog : OwnT w14 _ g0 xs := own_row hog hrow (fun g hg hg2 => by have h1 := HGB.out g hg2; have h2 := (HB0.out g hg).2; have y1 := z1.out; have y2 := z2.out; have y3 := z3.out; have y4 := z4.out; have y5 := z5.out; have y6 := z6.out; have y7 := z7.out; omega)
  replace ox1 := own_row ox1 hrow (fun g hg hg2 => by have h1 := (HB1.out g hg2).1; have h2 := (HB0.out g hg).2; have y1 := z1.out; have y2 := z2.out; have y3 := z3.out; have y4 := z4.out; have y5 := z5.out; have y6 := z6.out; have y7 := z7.out; omega)
  have g14 : Grew w w14 := grew_row g13 hrow (fun g hg => by have h2 := (HB0.out g hg).1; have y1 := z1.out; have y2 := z2.out; have y3 := z3.out; have y4 := z4.out; have y5 := z5.out; have y6 := z6.out; have y7 := z7.out; omega)
  clear hrow ox0
  go_wp2_with fail
  refine (markTermNodeS_w _ L1 _ (1 + L0.length) _ ox1 (by omega) (by omega) (by omega)).mono ?_
  rintro e w15 ⟨rfl, hrow⟩
  replace hq : OwnT w15 _ q0 xs := own_row hq hrow (fun g hg hg2 => by have h1 := HQB.out g hg2; have h2 := (HB1.out g hg).1; have y1 := z1.out; have y2 := z2.out; have y3 := z3.out; have y4 := z4.out; have y5 := z5.out; have y6 := z6.out; have y7 := z7.out; omega)
  replace hog : OwnT w15 _ g0 xs := own_row hog hrow (fun g hg hg2 => by have h1 := HGB.out g hg2; have h2 := (HB1.out g hg).2; have y1 := z1.out; have y2 := z2.out; have y3 := z3.out; have y4 := z4.out; have y5 := z5.out; have y6 := z6.out; have y7 := z7.out; omega)
  have g15 : Grew w w15 := grew_row g14 hrow (fun g hg => by have h2 := (HB1.out g hg).1; have y1 := z1.out; have y2 := z2.out; have y3 := z3.out; have y4 := z4.out; have y5 := z5.out; have y6 := z6.out; have y7 := z7.out; omega)
  clear hrow ox1
  go_wp2_with fail
  refine (eqTermNodeS_yes _ _ xs _ hog.tms hq.tms (by omega)).mono ?_
  rintro e w16 ⟨rfl, hg16⟩
  have z16 := Lib.hid hg16.size
  have g16 : Grew w w16 := g15.trans hg16
  replace hq := hq.grew hg16
  replace hog := hog.grew hg16
  clear hg16
  go_wp2_with fail
  refine (markTermNodeS_m _ xs _ 1 _ hog (by omega) (by omega) (by omega)).mono ?_
  rintro e w17 ⟨rfl, hog, hrow⟩
  replace hq : OwnT w17 _ q0 xs := own_row hq hrow (fun g hg hg2 => by have h1 := HQB.out g hg2; have h2 := HGB.out g hg; have y1 := z1.out; have y2 := z2.out; have y3 := z3.out; have y4 := z4.out; have y5 := z5.out; have y6 := z6.out; have y7 := z7.out; omega)
  have g17 : Grew w w17 := grew_row g16 hrow (fun g hg => by have h2 := HGB.out g hg; have y1 := z1.out; have y2 := z2.out; have y3 := z3.out; have y4 := z4.out; have y5 := z5.out; have y6 := z6.out; have y7 := z7.out; omega)
  clear hrow
  go_wp2_with fail
  refine (heldTermNodeS_c _ xs.length 1 _ hog.tms (by omega) (by omega) (by omega)).mono ?_
  rintro e w18 ⟨rfl, hg18⟩
  have z18 := Lib.hid hg18.size
  have g18 : Grew w w18 := g17.trans hg18
  replace hq := hq.grew hg18
  replace hog := hog.grew hg18
  clear hg18
  go_wp2_with fail
  refine (T0.out _ g18 hn0).mono ?_
  rintro e w19 ⟨b0, rfl, ob0, hg19⟩
  have z19 := Lib.hid hg19.size
  have g19 : Grew w w19 := g18.trans hg19
  replace hq := hq.grew hg19
  replace hog := hog.grew hg19
  clear hg19
  go_wp2_with fail
  refine (T1.out _ g19 hn1).mono ?_
  rintro e w20 ⟨b1, rfl, ob1, hg20⟩
  have z20 := Lib.hid hg20.size
  have g20 : Grew w w20 := g19.trans hg20
  replace ob0 := ob0.grew hg20
  replace hq := hq.grew hg20
  replace hog := hog.grew hg20
  clear hg20
  go_wp2_with fail
  refine (KI.out _ _ _ ob0.strs ob1.tms).mono ?_
  rintro e w21 ⟨h0, rfl, hoh, hg21⟩
  have z21 := Lib.hid hg21.size
  have g21 : Grew w w21 := g20.trans hg21
  replace hq := hq.grew hg21
  replace hog := hog.grew hg21
  clear hg21
  go_wp2_with fail
  refine (eqTermNodeS_yes _ _ xs _ hoh.tms hq.tms (by omega)).mono ?_
  rintro e w22 ⟨rfl, hg22⟩
  have z22 := Lib.hid hg22.size
  have g22 : Grew w w22 := g21.trans hg22
  replace hq := hq.grew hg22
  replace hog := hog.grew hg22
  replace hoh := hoh.grew hg22
  clear hg22
  go_wp2_with fail
  refine (heldTermNodeS_c _ xs.length 1 _ hog.tms (by omega) (by omega) (by omega)).mono ?_
  rintro e w23 ⟨rfl, hg23⟩
  go_wp2_with fail
  go_ret
  exact ⟨rfl, g22.trans hg23⟩
end Go.Proofs.YthofkdpmgjkgkaaGreat

/- An argument that is a list of strings, or a struct of two such lists. -/
namespace Go.Proofs.YthofkdpmgjkgkaaGreat
open Go.RowKit

theorem cell_lt {w : World} {a : Addr} {u : Value} (h : w.cell? a = some u) : a.block < w.heap.size := by
  unfold World.cell? at h
  split at h
  · rename_i hh
    exact (Array.getElem?_eq_some_iff.1 hh).1
  · cases h

theorem argS_of_trod {H : Type} {enc : TypeId × Value → H} {P : Program} {W : World} {sp : Nat → Bool} {held : Bool} {n : Nat} {t e : TypeId} {v : Value} {y : DataW H × List MemPlace}
    (ht : P.underlying t = some (.slice e)) (he : P.underlying e = some .string) (hc : P.cellsOf e = 1) (h : DataW.trod enc P W 0 sp held n t [v] = some y) : ∃ L, ArgS W v L := by
  rcases Go.Deep.open_strs ht he hc h with ⟨hv, _⟩ | ⟨a, len, cap, m, Sx, hv, _, hl, hm, hmm, _, hcell⟩
  · obtain rfl : v = .slice none 0 0 := by simpa using hv
    exact ⟨[], ⟨none, 0, rfl, by simp⟩, fun h => absurd h (by simp), fun i hi => absurd hi (by simp)⟩
  · obtain rfl : v = .slice (some a) len cap := by simpa using hv
    have hlm : len ≤ m := by rw [hmm]; split <;> omega
    have hmax : maxLen = 9223372036854775807 := by decide
    rw [hmax] at hm
    have hlen : ((List.range len).map Sx).length = len := by simp
    have hst : ∀ i, i < len → st ((List.range len).map Sx) i = Sx i := fun i hi => by simp [st, List.getD, hi]
    refine ⟨(List.range len).map Sx, ⟨some a, cap, by rw [hlen], by rw [hlen]; omega⟩, fun hp => ?_, fun i hi => ?_⟩
    · rw [hlen] at hp
      obtain ⟨b, off, spot⟩ := a
      have h0 := (hcell 0 (by omega)).1
      have hspot : spot = none := by simpa [Addr.add] using World.cell?_spot h0
      subst hspot
      have hb := cell_lt h0
      have hadd : ∀ i, (⟨b, off, none⟩ : Addr).add i = ⟨b, off + i, none⟩ := fun i => by
        unfold Addr.add
        split
        · subst_vars; rfl
        · rfl
      rw [hadd] at hb
      unfold Strs Rd
      rw [hlen]
      refine ⟨by rw [scells_length, hlen], by omega, .inr ⟨b, off, cap, rfl, hl, hm, hb, fun j u hu => ?_⟩⟩
      have hj : j < len := by
        have := (List.getElem?_eq_some_iff.1 hu).1
        rw [scells_length, hlen] at this
        omega
      rw [scells_at (by rw [hlen]; exact hj), hst j hj] at hu
      rw [← hadd, (hcell j (by omega)).1]
      exact hu
    · rw [hlen] at hi
      rw [hst i hi, ← hmax]
      exact (hcell i (by omega)).2
end Go.Proofs.YthofkdpmgjkgkaaGreat

/- An argument that is a list of nodes of terms. -/
namespace Go.Proofs.YthofkdpmgjkgkaaGreat
open Go.RowKit

theorem cellT_lt {w : World} {a : Addr} {u : Value} (h : w.cell? a = some u) : a.block < w.heap.size := by
  unfold World.cell? at h
  split at h
  · rename_i hh
    exact (Array.getElem?_eq_some_iff.1 hh).1
  · cases h

theorem argT_of_trod {H : Type} {enc : TypeId × Value → H} {P : Program} {W : World} {sp : Nat → Bool} {held : Bool} {n : Nat} {t e : TypeId} {f0 f1 f2 : Field} {v : Value} {y : DataW H × List MemPlace}
    (ht : P.underlying t = some (.slice e)) (he : P.underlying e = some (.struct #[f0, f1, f2])) (ce : P.cellsOf e = 3) (o0 : f0.offset = 0) (o1 : f1.offset = 1) (o2 : f2.offset = 2) (c0 : P.cellsOf f0.type = 1) (c1 : P.cellsOf f1.type = 1) (c2 : P.cellsOf f2.type = 1)
    (u0 : P.underlying f0.type = some (.int .i64)) (u1 : P.underlying f1.type = some (.int .i64)) (u2 : P.underlying f2.type = some .string) (h : DataW.trod enc P W 0 sp held n t [v] = some y) : ∃ xs, ArgT W v xs := by
  rcases Go.Deep.open_slice ht h with ⟨hv, _⟩ | ⟨a, len, cap, m, k, D, Pl, hv, _, hl, hm, hmm, _, hcell⟩
  · obtain rfl : v = .slice none 0 0 := by simpa using hv
    exact ⟨[], ⟨none, 0, rfl, by simp⟩, fun h => absurd h (by simp), fun i hi => absurd hi (by simp)⟩
  · obtain rfl : v = .slice (some a) len cap := by simpa using hv
    have hlm : len ≤ m := by rw [hmm]; split <;> omega
    have hmax : maxLen = 9223372036854775807 := by decide
    rw [hmax] at hm
    have each : ∀ i, i < len → ∃ q : Tn, W.cell? (a.add (i * 3)) = some (.int .i64 q.1) ∧ W.cell? (a.add (i * 3 + 1)) = some (.int .i64 q.2.1) ∧ W.cell? (a.add (i * 3 + 2)) = some (.string q.2.2) ∧ q.2.2.size ≤ maxLen := fun i hi => by
      obtain ⟨cs', h1, h2⟩ := hcell i (by omega)
      rw [ce] at h1
      obtain ⟨_, hlen, hc⟩ := World.cells?_some h1
      obtain ⟨xs, k', hk, hxy, _, hxl, hf⟩ := DataW.trod_struct he h2
      match xs, hxl, cs', hlen with
      | [y0, y1, y2], _, [v0, v1, v2], _ =>
        have g0 := hf 0 f0 rfl
        have g1 := hf 1 f1 rfl
        have g2 := hf 2 f2 rfl
        simp [o0, o1, o2, c0, c1, c2] at g0 g1 g2
        have e0 := hc 0 (by omega)
        have e1 := hc 1 (by omega)
        have e2 := hc 2 (by omega)
        rw [Go.Deep.add_add] at e0 e1 e2
        obtain ⟨x, hx, _⟩ := DataW.trod_int u0 g0
        obtain ⟨z, hz, _⟩ := DataW.trod_int u1 g1
        obtain ⟨s, hs, _, hsz⟩ := DataW.trod_string u2 g2
        obtain rfl : v0 = .int .i64 x := by simpa using hx
        obtain rfl : v1 = .int .i64 z := by simpa using hz
        obtain rfl : v2 = .string s := by simpa using hs
        exact ⟨(x, z, s), by simpa using e0, by simpa using e1, by simpa using e2, hsz⟩
    obtain ⟨q, hq⟩ := Go.Deep.choose_lt each
    have hlen : ((List.range len).map q).length = len := by simp
    have hk0 : ∀ i, i < len → tk ((List.range len).map q) i = (q i).1 := fun i hi => by simp [tk, List.getD, hi]
    have hk1 : ∀ i, i < len → tn ((List.range len).map q) i = (q i).2.1 := fun i hi => by simp [tn, List.getD, hi]
    have hk2 : ∀ i, i < len → tt ((List.range len).map q) i = (q i).2.2 := fun i hi => by simp [tt, List.getD, hi]
    refine ⟨(List.range len).map q, ⟨some a, cap, by rw [hlen], by rw [hlen]; omega⟩, fun hp => ?_, fun i hi => ?_⟩
    · rw [hlen] at hp
      obtain ⟨b, off, spot⟩ := a
      have h0 := (hq 0 (by omega)).1
      have hspot : spot = none := by simpa [Addr.add] using World.cell?_spot h0
      subst hspot
      have hb := cellT_lt h0
      have hadd : ∀ i, (⟨b, off, none⟩ : Addr).add i = ⟨b, off + i, none⟩ := fun i => by
        unfold Addr.add
        split
        · subst_vars; rfl
        · rfl
      rw [hadd] at hb
      unfold Tms Rd
      rw [hlen]
      refine ⟨by rw [tcells_length, hlen], by omega, .inr ⟨b, off, cap, rfl, hl, hm, hb, fun j u hu => ?_⟩⟩
      have hj : j < len * 3 := by
        have := (List.getElem?_eq_some_iff.1 hu).1
        rw [tcells_length, hlen] at this
        exact this
      have hi : j / 3 < len := by omega
      obtain ⟨e0, e1, e2, _⟩ := hq (j / 3) hi
      rw [hadd] at e0 e1 e2
      obtain ⟨k0, k1, k2⟩ := tcells_at ((List.range len).map q) (j / 3) (by rw [hlen]; exact hi)
      rw [hk0 _ hi] at k0
      rw [hk1 _ hi] at k1
      rw [hk2 _ hi] at k2
      have hd := Nat.div_add_mod j 3
      have hmo : j % 3 = 0 ∨ j % 3 = 1 ∨ j % 3 = 2 := by omega
      rcases hmo with hmo | hmo | hmo
      · have e : j = j / 3 * 3 := by omega
        rw [e] at hu ⊢
        rw [k0] at hu
        rw [← hu]
        exact e0
      · have e : j = j / 3 * 3 + 1 := by omega
        rw [e] at hu ⊢
        rw [k1] at hu
        rw [← hu]
        exact e1
      · have e : j = j / 3 * 3 + 2 := by omega
        rw [e] at hu ⊢
        rw [k2] at hu
        rw [← hu]
        exact e2
    · rw [hlen] at hi
      rw [hk2 i hi, ← hmax]
      exact (hq i hi).2.2.2
end Go.Proofs.YthofkdpmgjkgkaaGreat

/- The law FnExactCountReductions, walked. -/
namespace Go.Proofs.YthofkdpmgjkgkaaGreat
open Go.RowKit

theorem lawCr_c (v0 : Value) (L0 : List ByteArray) (v1 : Value) (L1 : List Tn) (w : World) (h0 : ArgS w v0 L0) (h1 : ArgT w v1 L1) :
    Calls Tryz.prog 7 #[v0, v1] w fun e w' => e = .returned (.bool true) ∧ Grew w w' := by
  have Z0 := Lib.hid (fun W l (hW : Grew w W) (a0 : 0 ≤ l) (a1 : l ≤ 1048576) => szStringS_c v0 L0 l W (h0.grew hW) a0 a1)
  have T0 := Lib.hid (fun W (hW : Grew w W) => toStringS_c v0 L0 W (h0.grew hW))
  have Z1 := Lib.hid (fun W l (hW : Grew w W) (a0 : 0 ≤ l) (a1 : l ≤ 1048576) => szTermNodeS_c v1 L1 l W (h1.grew hW) a0 a1)
  have T1 := Lib.hid (fun W (hW : Grew w W) => toTermNodeS_c v1 L1 W (h1.grew hW))
  clear h0 h1
  go_enter Tryz.func7, Tryz.ntmps7
  go_wp2_with fail
  refine (Z0.out _ _ (Grew.refl w) (by omega) (by omega)).mono ?_
  rintro e w1 ⟨r0, rfl, ⟨hm0, hs0⟩, hg1⟩
  have z1 := Lib.hid hg1.size
  have g1 : Grew w w1 := (Grew.refl w).trans hg1
  clear hg1
  by_cases hr0 : r0 < 0
  · clear hs0
    go_wp2_with fail
    go_ret
    exact ⟨rfl, g1⟩
  obtain ⟨hn0, hf0⟩ := hs0 (by omega)
  have F0 : Hid (Fits L0) := Lib.hid hf0
  clear hs0 hf0
  go_wp2_with fail
  refine (Z1.out _ _ g1 (by omega) (by omega)).mono ?_
  rintro e w2 ⟨r1, rfl, ⟨hm1, hs1⟩, hg2⟩
  have z2 := Lib.hid hg2.size
  have g2 : Grew w w2 := g1.trans hg2
  clear hg2
  by_cases hr1 : r1 < 0
  · clear hs1
    go_wp2_with fail
    go_ret
    exact ⟨rfl, g2⟩
  obtain ⟨hn1, hf1⟩ := hs1 (by omega)
  have F1 : Hid (FitsT L1) := Lib.hid hf1
  clear hs1 hf1
  have KS := Lib.hid (fun u0 u1 W x0 x1 => specCr_c u0 L0 u1 L1 W x0 x1 F0.out (by omega) F1.out (by omega))
  have KI := Lib.hid (fun u0 u1 W x0 x1 => implCr_c u0 L0 u1 L1 W x0 x1 F0.out (by omega) F1.out (by omega))
  unfold GivesII at KS KI
  generalize crF L0 L1 = rr at *
  obtain ⟨ra, rc⟩ := rr
  simp only at KS KI
  have hc1 : (rc != rc) = false := by simp
  have ha1 : (ra != ra) = false := by simp
  go_wp2_with fail
  refine (T0.out _ g2 hn0).mono ?_
  rintro e w3 ⟨a0, rfl, oa0, hg3⟩
  have z3 := Lib.hid hg3.size
  have g3 : Grew w w3 := g2.trans hg3
  clear hg3
  go_wp2_with fail
  refine (T1.out _ g3 hn1).mono ?_
  rintro e w4 ⟨a1, rfl, oa1, hg4⟩
  have z4 := Lib.hid hg4.size
  have g4 : Grew w w4 := g3.trans hg4
  replace oa0 := oa0.grew hg4
  clear hg4
  go_wp2_with fail
  refine (KS.out _ _ _ oa0.strs oa1.tms).mono ?_
  rintro e w5 ⟨rfl, hg5⟩
  have z5 := Lib.hid hg5.size
  have g5 : Grew w w5 := g4.trans hg5
  clear hg5 oa0 oa1
  go_wp2_with fail
  refine (T0.out _ g5 hn0).mono ?_
  rintro e w6 ⟨x0, rfl, ox0, hg6⟩
  have z6 := Lib.hid hg6.size
  have g6 : Grew w w6 := g5.trans hg6
  clear hg6
  go_wp2_with fail
  refine (T1.out _ g6 hn1).mono ?_
  rintro e w7 ⟨x1, rfl, ox1, hg7⟩
  have z7 := Lib.hid hg7.size
  have g7 : Grew w w7 := g6.trans hg7
  replace ox0 := ox0.grew hg7
  clear hg7
  go_wp2_with fail
  refine (KI.out _ _ _ ox0.strs ox1.tms).mono ?_
  rintro e w8 ⟨rfl, hg8⟩
  have z8 := Lib.hid hg8.size
  have g8 : Grew w w8 := g7.trans hg8
  replace ox0 := ox0.grew hg8
  replace ox1 := ox1.grew hg8
  clear hg8
  go_wp2_with fail
  refine (T0.out _ g8 hn0).mono ?_
  rintro e w9 ⟨y0, rfl, oy0, hg9⟩
  have z9 := Lib.hid hg9.size
  have g9 : Grew w w9 := g8.trans hg9
  replace ox0 := ox0.grew hg9
  replace ox1 := ox1.grew hg9
  clear hg9
  go_wp2_with fail
  refine (eqStringS_yes _ _ L0 _ ox0.strs oy0.strs (by omega)).mono ?_
  rintro e w10 ⟨rfl, hg10⟩
  have z10 := Lib.hid hg10.size
  have g10 : Grew w w10 := g9.trans hg10
  replace ox0 := ox0.grew hg10
  replace ox1 := ox1.grew hg10
  clear hg10 oy0
  go_wp2_with fail
  refine (T1.out _ g10 hn1).mono ?_
  rintro e w11 ⟨y1, rfl, oy1, hg11⟩
  have z11 := Lib.hid hg11.size
  have g11 : Grew w w11 := g10.trans hg11
  replace ox0 := ox0.grew hg11
  replace ox1 := ox1.grew hg11
  clear hg11
  go_wp2_with fail
  refine (eqTermNodeS_yes _ _ L1 _ ox1.tms oy1.tms (by omega)).mono ?_
  rintro e w12 ⟨rfl, hg12⟩
  have z12 := Lib.hid hg12.size
  have g12 : Grew w w12 := g11.trans hg12
  replace ox0 := ox0.grew hg12
  replace ox1 := ox1.grew hg12
  clear hg12 oy1
  go_wp2_with fail
  go_ret
  exact ⟨rfl, g12⟩
end Go.Proofs.YthofkdpmgjkgkaaGreat

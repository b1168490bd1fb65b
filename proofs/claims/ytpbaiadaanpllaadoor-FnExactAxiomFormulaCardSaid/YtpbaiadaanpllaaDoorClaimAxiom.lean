/- FnExactAxiomFormula returns true for every text, its argument reads as before; the two listed tables are tied to the program's text. -/
import Derived.Test.YtpbaiadaanpllaaDoorRows
import Derived.Test.YtpbaiadaanpllaaDoorCards
import Derived.Test.YtpbaiadaanpllaaDoorTie
import Derived.Test.YtpbaiadaanpllaaDoorLawAxiom
import Derived.ProofKit
import Derived.LaidMore
import Derived.OpenShut
import Derived.ShutString
import Derived.Stop.Joined
import Derived.SevenTiedAt
namespace Go.Proofs.YtpbaiadaanpllaaDoor.fnExactAxiomFormula
open Go.ChangeShapes Go.WideShapes Go.ChangeAt Go.RowKit
open Go.ChangeMaps (open_string shut_string)

theorem own : ownKnob Tryd.prog.godebug = none := by kernel_rfl
theorem gNames : Tryd.prog.globalNamed "loop.example/g01089/impl.axiomNames" = some 1 := by kernel_rfl
theorem gTexts : Tryd.prog.globalNamed "loop.example/g01089/impl.axiomTexts" = some 0 := by kernel_rfl
theorem tNames : (Tryd.prog.globals[1]?).map (·.type) = some 41 := by kernel_rfl
theorem tTexts : (Tryd.prog.globals[0]?).map (·.type) = some 41 := by kernel_rfl
theorem cArr : Tryd.prog.cellsOf 41 = 13 := by kernel_rfl
theorem cStr : Tryd.prog.cellsOf 9 = 1 := by kernel_rfl

def laid2 : List (String × DataW Unit) := [("loop.example/g01089/impl.axiomNames", tabS axNames), ("loop.example/g01089/impl.axiomTexts", tabS axTexts)]

/-- The door's own heap meets the condition: closed facts. -/
theorem door_met (os : Os) (args : Array Value) : laidMetH Tryd.prog laid2 ((World.doorLaid Tryd.prog 24 os).forCall (fun _ _ => 0) ⟨#[], args, []⟩).memory :=
  laidMetH_of_parts3 (fuel := 8) (laidMet_of_run' 8 (by kernel_rfl) (by kernel_rfl)) (by kernel_rfl) (by kernel_rfl)

/-- What the condition gives. -/
theorem of_laid {W : World} (h : laidMetH Tryd.prog laid2 W) : (W.var? Tryd.prog "loop.example/g01089/impl.axiomNames" = some (scells axNames).toArray ∧ TabAt W 1 axNames) ∧ W.var? Tryd.prog "loop.example/g01089/impl.axiomTexts" = some (scells axTexts).toArray ∧ TabAt W 0 axTexts := by
  rw [MakeChecks.laidMetH_plain _ _ _ (by kernel_rfl)] at h
  obtain ⟨ps, hv, _, hc⟩ := h
  obtain ⟨h1, h2, q, hr, hq⟩ := laid_tab gNames tNames Tryd.underlying41 Tryd.underlying9 cStr cArr (by decide) hv hc
  obtain ⟨h3, h4, _⟩ := laid_tab gTexts tTexts Tryd.underlying41 Tryd.underlying9 cStr cArr (by decide) hr (fun b off hp => hc b off (hq _ hp))
  exact ⟨⟨h1, h2⟩, h3, h4⟩

theorem reads_names {H : Type} (enc : TypeId × Value → H) (W : World) (sp : Nat → Bool) : DataW.trod enc Tryd.prog W 0 sp true 3 41 (scells axNames).toArray.toList = some (tabS axNames, []) := by kernel_rfl
theorem reads_texts {H : Type} (enc : TypeId × Value → H) (W : World) (sp : Nat → Bool) : DataW.trod enc Tryd.prog W 0 sp true 3 41 (scells axTexts).toArray.toList = some (tabS axTexts, []) := by kernel_rfl

set_option maxRecDepth 100000 in
theorem lifted (os : Os) (started : os.Started) (H : Type) (enc : TypeId × Value → H) :
    ReturnsInHanded {} Tryd.checked os 3 .any (fun w args => (Rows.fnExactAxiomFormulaSpec.pre enc Tryd.prog Tryd.f3 [] false w args ∧ laidMetH Tryd.prog laid2 w) ∧ sizedMet enc Tryd.prog Tryd.f3 (OpenSpec.ofChange Rows.fnExactAxiomFormulaSpec) false w args)
      (Rows.fnExactAxiomFormulaSpec.post enc Tryd.prog Tryd.f3 false true false false) := by
  refine returnsInHanded_of_change_and (C := Tryd.checked) (X := fun w _ => laidMetH Tryd.prog laid2 w) (fun _ _ _ hh h => h.of_heap hh) own started (by kernel_rfl) Tryd.func3
    (ChangeSpec.witness_shaped (enc := enc) (C := Tryd.checked) (os := os) (X := fun w _ => laidMetH Tryd.prog laid2 w) false (World.doorLaid Tryd.prog 24 os) #[.string ByteArray.empty] 8 rfl (World.shaped_of_RefB (by kernel_rfl) (by kernel_rfl)) (by kernel_rfl) (by kernel_rfl) (by kernel_rfl) (door_met os _)) ?_
  intro W base args ds gs before hval0 hW _ _ hL _
  have hval : ∀ (j : Nat) t v, Tryd.f3.params[j]? = some t → args[j]? = some v → Value.okWide Tryd.prog W .any base t v := hval0
  have hW' := hW
  obtain ⟨p, q, hA0, hV0, rfl, hfz, hnd⟩ := hW
  have hA : DataW.TrodAll enc Tryd.prog W 0 (fun _ => true) true Tryd.f3.params.toList args.toList ds p := hA0
  have hV : DataW.TrodVars enc Tryd.prog W (fun _ => true) ["loop.example/g01089/impl.axiomTexts", "loop.example/g01089/impl.axiomNames"] gs q := hV0
  rw [Tryd.params3] at hA hval
  obtain ⟨v0, vs0, d0, ds0, p0, q0, hargs, rfl, rfl, h0, r0⟩ := trodAll_cons hA
  obtain ⟨rfl, rfl, rfl⟩ := trodAll_nil r0
  obtain rfl : args = #[v0] := by cases args; simp_all
  obtain ⟨a0, rfl, rfl, rfl, w0⟩ := open_string Tryd.underlying9 (hval 0 9 v0 rfl rfl) h0
  obtain ⟨⟨vN, hN⟩, vX, hX⟩ := of_laid hL
  obtain ⟨g0, t0, cs0, f0, e0, p0, g1, t1, cs1, f1, e1, p1, rfl, hg0, ht0, hv0, hd0, hg1, ht1, hv1, hd1, rfl⟩ := trodVars_two hV
  obtain rfl := Option.some.inj (gTexts.symm.trans hg0)
  obtain rfl := Option.some.inj (gNames.symm.trans hg1)
  obtain rfl := Option.some.inj (tTexts.symm.trans ht0)
  obtain rfl := Option.some.inj (tNames.symm.trans ht1)
  obtain rfl : cs0 = (scells axTexts).toArray := Option.some.inj (hv0.symm.trans vX)
  obtain rfl : cs1 = (scells axNames).toArray := Option.some.inj (hv1.symm.trans vN)
  obtain ⟨rfl, rfl⟩ := DataW.Trod.unique (v := .agg (scells axTexts).toArray) ⟨f0, hd0⟩ ⟨3, reads_texts enc W _⟩
  obtain ⟨rfl, rfl⟩ := DataW.Trod.unique (v := .agg (scells axNames).toArray) ⟨f1, hd1⟩ ⟨3, reads_names enc W _⟩
  clear hA0 hV0 hval0
  refine (lawAxiom_c a0 W hN hX).mono fun e W' ⟨he, hg⟩ => ?_
  subst he
  have hvars : ∀ sp : Nat → Bool, DataW.TrodVars enc Tryd.prog W' sp ["loop.example/g01089/impl.axiomTexts", "loop.example/g01089/impl.axiomNames"] [tabS axTexts, tabS axNames] (MemPlace.row ⟨0, 0, none⟩ (scells axTexts).toArray.size ++ [] ++ (MemPlace.row ⟨1, 0, none⟩ (scells axNames).toArray.size ++ [] ++ [])) := fun sp =>
    ⟨0, 41, _, 3, [], _, gTexts, tTexts, var?_below hg.below gTexts hX.lt vX, reads_texts enc W' sp, ⟨1, 41, _, 3, [], [], gNames, tNames, var?_below hg.below gNames hN.lt vN, reads_names enc W' sp, rfl, rfl⟩, rfl⟩
  exact ⟨_, rfl, ⟨_, _, _, [], [], _, hW', trodAll_cons_mk (shut_bool Tryd.underlying4 _) trodAll_mk0, trodAll_cons_mk (shut_string Tryd.underlying9 w0) trodAll_mk0, hvars _, hg.below.frame _, fun h => by cases h⟩⟩

theorem proved : Rows.FnExactAxiomFormulaSaid :=
  OpenClaim.holds_of_wide 3 Tryd.f3 rfl rfl rfl rfl rfl rfl rfl ⟨rfl, rfl, rfl, rfl, rfl⟩ rfl rfl rfl rfl rfl (by kernel_rfl) Tryd.func3 (by kernel_rfl)
    (of_decide_eq_true (by kernel_rfl)) (by unfold Func.isWrapper; first | (rw [if_pos (by decide +kernel)]; kernel_rfl) | (rw [if_neg (by decide +kernel)]; exact ⟨rfl, rfl⟩))
    (fun os started H enc _ => lifted os started H enc)

theorem card : Rows.FnExactAxiomFormulaCardSaid :=
  Claim7.holds_tied_plain_at .later [] [.data, .data] true (true, "d5462ae7ea287febfc7bb65170ce3007552d49002c780eb7c0140f0e8bf5411c") false
    proved (fun _ h => by cases h) (by kernel_rfl) (fun _ h => by cases h) fnExactAxiomFormula_row_tie rfl ⟨rfl, rfl⟩ (by kernel_rfl) rfl
    (fun f fn hf hfn => by
      obtain rfl : f = 3 := Option.some.inj ((show Tryd.prog.funcNamed "loop.example/g01089/laws.FnExactAxiomFormula" = some 3 by kernel_rfl).symm.trans hf) |>.symm
      obtain rfl : fn = Tryd.f3 := (Option.some.inj (Tryd.func3.symm.trans hfn)).symm
      exact ⟨by kernel_rfl, fun j t ht => by
        rw [Tryd.params3] at ht
        have hm : t ∈ [9] := by simpa using Array.mem_of_getElem? ht
        have hall : ([9].all fun u => !Tryd.prog.wantsStandIn u) = true := by kernel_rfl
        exact (show Tryd.prog.wantsStandIn t = false by simpa using List.all_eq_true.1 hall t hm)⟩)
    (by kernel_rfl)
#print axioms card
end Go.Proofs.YtpbaiadaanpllaaDoor.fnExactAxiomFormula

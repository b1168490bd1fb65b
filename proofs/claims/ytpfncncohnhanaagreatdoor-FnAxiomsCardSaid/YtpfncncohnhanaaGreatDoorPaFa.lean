/- FnAxioms returns true for every list of bytes, its argument reads as before; the two listed tables are tied to the program's text. -/
import Derived.Test.YtpfncncohnhanaaGreatDoorRows
import Derived.Test.YtpfncncohnhanaaGreatDoorCards
import Derived.Test.YtpfncncohnhanaaGreatDoorTie
import Derived.ProofKit
import Derived.LaidMore
import Derived.OpenShut
import Derived.Stop.Joined
import Derived.SevenTiedAt
import Derived.Test.YtpfncncohnhanaaGreatDoorPa1
import Derived.Test.YtpfncncohnhanaaGreatDoorPa2
import Derived.Test.YtpfncncohnhanaaGreatDoorPa3
import Derived.Test.YtpfncncohnhanaaGreatDoorPa4
import Derived.Test.YtpfncncohnhanaaGreatDoorPa5
import Derived.Test.YtpfncncohnhanaaGreatDoorPa6
namespace Go.Proofs.YtpfncncohnhanaaGreatDoor.fnAxioms
open Go.ChangeShapes Go.WideShapes Go.ChangeAt Go.RowKit

theorem laidOut : laidOutB Tryz.prog = true := by kernel_rfl
theorem cByte : Tryz.prog.cellsOf 5 = 1 := by kernel_rfl
theorem own : ownKnob Tryz.prog.godebug = none := by kernel_rfl
theorem gNames : Tryz.prog.globalNamed "loop.example/g01089/impl.axiomNames" = some 1 := by kernel_rfl
theorem gTexts : Tryz.prog.globalNamed "loop.example/g01089/impl.axiomTexts" = some 0 := by kernel_rfl
theorem tNames : (Tryz.prog.globals[1]?).map (·.type) = some 76 := by kernel_rfl
theorem tTexts : (Tryz.prog.globals[0]?).map (·.type) = some 76 := by kernel_rfl
theorem cArr : Tryz.prog.cellsOf 76 = 13 := by kernel_rfl
theorem cStr : Tryz.prog.cellsOf 9 = 1 := by kernel_rfl

def laid2 : List (String × DataW Unit) := [("loop.example/g01089/impl.axiomNames", tabS axNames), ("loop.example/g01089/impl.axiomTexts", tabS axTexts)]

/-- The door's own heap meets the condition: closed facts. -/
theorem door_met (os : Os) (args : Array Value) : laidMetH Tryz.prog laid2 ((World.doorLaid Tryz.prog 24 os).forCall (fun _ _ => 0) ⟨#[], args, []⟩).memory :=
  laidMetH_of_parts3 (fuel := 8) (laidMet_of_run' 8 (by kernel_rfl) (by kernel_rfl)) (by kernel_rfl) (by kernel_rfl)

/-- What the condition gives. -/
theorem of_laid {W : World} (h : laidMetH Tryz.prog laid2 W) : (W.var? Tryz.prog "loop.example/g01089/impl.axiomNames" = some (scells axNames).toArray ∧ TabAt W 1 axNames) ∧ W.var? Tryz.prog "loop.example/g01089/impl.axiomTexts" = some (scells axTexts).toArray ∧ TabAt W 0 axTexts := by
  rw [MakeChecks.laidMetH_plain _ _ _ (by kernel_rfl)] at h
  obtain ⟨ps, hv, _, hc⟩ := h
  obtain ⟨h1, h2, q, hr, hq⟩ := laid_tab gNames tNames Tryz.underlying76 Tryz.underlying9 cStr cArr (by decide) hv hc
  obtain ⟨h3, h4, _⟩ := laid_tab gTexts tTexts Tryz.underlying76 Tryz.underlying9 cStr cArr (by decide) hr (fun b off hp => hc b off (hq _ hp))
  exact ⟨⟨h1, h2⟩, h3, h4⟩

theorem reads_names {H : Type} (enc : TypeId × Value → H) (W : World) (sp : Nat → Bool) : DataW.trod enc Tryz.prog W 0 sp true 3 76 (scells axNames).toArray.toList = some (tabS axNames, []) := by kernel_rfl
theorem reads_texts {H : Type} (enc : TypeId × Value → H) (W : World) (sp : Nat → Bool) : DataW.trod enc Tryz.prog W 0 sp true 3 76 (scells axTexts).toArray.toList = some (tabS axTexts, []) := by kernel_rfl

set_option maxRecDepth 100000 in
theorem lifted (os : Os) (started : os.Started) (H : Type) (enc : TypeId × Value → H) :
    ReturnsInHanded {} Tryz.checked os 4 .any (fun w args => (Rows.fnAxiomsSpec.pre enc Tryz.prog Tryz.f4 [] false w args ∧ laidMetH Tryz.prog laid2 w) ∧ sizedMet enc Tryz.prog Tryz.f4 (OpenSpec.ofChange Rows.fnAxiomsSpec) false w args)
      (Rows.fnAxiomsSpec.post enc Tryz.prog Tryz.f4 false true false false) := by
  refine returnsInHanded_of_change_and (C := Tryz.checked) (X := fun w _ => laidMetH Tryz.prog laid2 w) (fun _ _ _ hh h => h.of_heap hh) own started (by kernel_rfl) Tryz.func4
    (ChangeSpec.witness_shaped (enc := enc) (C := Tryz.checked) (os := os) (X := fun w _ => laidMetH Tryz.prog laid2 w) false (World.doorLaid Tryz.prog 24 os) #[.slice none 0 0] 8 rfl (World.shaped_of_RefB (by kernel_rfl) (by kernel_rfl)) (by kernel_rfl) (by kernel_rfl) (by kernel_rfl) (door_met os _)) ?_
  intro W base args ds gs before hval0 hW _ _ hL _
  have hval : ∀ (j : Nat) t v, Tryz.f4.params[j]? = some t → args[j]? = some v → Value.okWide Tryz.prog W .any base t v := hval0
  have hW' := hW
  obtain ⟨p, q, hA0, hV0, rfl, hfz, hnd⟩ := hW
  have hA : DataW.TrodAll enc Tryz.prog W 0 (fun _ => true) true Tryz.f4.params.toList args.toList ds p := hA0
  have hV : DataW.TrodVars enc Tryz.prog W (fun _ => true) ["loop.example/g01089/impl.axiomNames", "loop.example/g01089/impl.axiomTexts"] gs q := hV0
  rw [Tryz.params4] at hA hval
  obtain ⟨v0, vs0, d0, ds0, p0, q0, hargs, rfl, rfl, h0, r0⟩ := trodAll_cons hA
  obtain ⟨rfl, rfl, rfl⟩ := trodAll_nil r0
  obtain rfl : args = #[v0] := by cases args; simp_all
  have h0k := h0
  obtain ⟨A, l, c, rfl⟩ := okWide_slice Tryz.underlying36 (hval 0 36 v0 rfl rfl)
  obtain ⟨fuel, hf0⟩ := h0
  obtain ⟨N, hL0⟩ := argB_of_trod (v := .slice A l c) Tryz.underlying36 Tryz.underlying5 cByte hf0
  obtain ⟨⟨vN, hN⟩, vX, hX⟩ := of_laid hL
  obtain ⟨g0, t0, cs0, f0, e0, p2, g1, t1, cs1, f1, e1, p1, rfl, hg0, ht0, hv0, hd0, hg1, ht1, hv1, hd1, rfl⟩ := trodVars_two hV
  obtain rfl := Option.some.inj (gNames.symm.trans hg0)
  obtain rfl := Option.some.inj (gTexts.symm.trans hg1)
  obtain rfl := Option.some.inj (tNames.symm.trans ht0)
  obtain rfl := Option.some.inj (tTexts.symm.trans ht1)
  obtain rfl : cs0 = (scells axNames).toArray := Option.some.inj (hv0.symm.trans vN)
  obtain rfl : cs1 = (scells axTexts).toArray := Option.some.inj (hv1.symm.trans vX)
  obtain ⟨rfl, rfl⟩ := DataW.Trod.unique (v := .agg (scells axNames).toArray) ⟨f0, hd0⟩ ⟨3, reads_names enc W _⟩
  obtain ⟨rfl, rfl⟩ := DataW.Trod.unique (v := .agg (scells axTexts).toArray) ⟨f1, hd1⟩ ⟨3, reads_texts enc W _⟩
  clear hA0 hV0 hval0
  refine (lawFa_c (.slice A l c) N W hL0 hN hX).mono fun e W' ⟨he, hg⟩ => ?_
  subst he
  have hlt : ∀ x ∈ p0, x.block < W.heap.size := fun x hx => by simpa using hW'.lt x (by simp [hx])
  have hargs' := Below.trod laidOut (by kernel_rfl) (of_decide_eq_true (by kernel_rfl)) h0k hg.below hlt
  have hvars : ∀ sp : Nat → Bool, DataW.TrodVars enc Tryz.prog W' sp ["loop.example/g01089/impl.axiomNames", "loop.example/g01089/impl.axiomTexts"] [tabS axNames, tabS axTexts] (MemPlace.row ⟨1, 0, none⟩ (scells axNames).toArray.size ++ [] ++ (MemPlace.row ⟨0, 0, none⟩ (scells axTexts).toArray.size ++ [] ++ [])) := fun sp =>
    ⟨1, 76, _, 3, [], _, gNames, tNames, var?_below hg.below gNames hN.lt vN, reads_names enc W' sp, ⟨0, 76, _, 3, [], [], gTexts, tTexts, var?_below hg.below gTexts hX.lt vX, reads_texts enc W' sp, rfl, rfl⟩, rfl⟩
  exact ⟨_, rfl, ⟨_, _, _, [], _, _, hW', trodAll_cons_mk (shut_bool Tryz.underlying4 _) trodAll_mk0, trodAll_cons_mk hargs' trodAll_mk0, hvars _, hg.below.frame _, fun h => by cases h⟩⟩

theorem proved : Rows.FnAxiomsSaid :=
  OpenClaim.holds_of_wide 4 Tryz.f4 rfl rfl rfl rfl rfl rfl rfl ⟨rfl, rfl, rfl, rfl, rfl⟩ rfl rfl rfl rfl rfl (by kernel_rfl) Tryz.func4 (by kernel_rfl)
    (of_decide_eq_true (by kernel_rfl)) (by unfold Func.isWrapper; first | (rw [if_pos (by decide +kernel)]; kernel_rfl) | (rw [if_neg (by decide +kernel)]; exact ⟨rfl, rfl⟩))
    (fun os started H enc _ => lifted os started H enc)

theorem card : Rows.FnAxiomsCardSaid :=
  Claim7.holds_tied_plain_at .later [] [.data, .data] true (true, "1a4f2a02095bd518cf4caff4575e9453fccef3fed8340054c3dd6373d031c919") false
    proved (fun _ h => by cases h) (by kernel_rfl) (fun _ h => by cases h) fnAxioms_row_tie rfl ⟨rfl, rfl⟩ (by kernel_rfl) rfl
    (fun f fn hf hfn => by
      obtain rfl : f = 4 := Option.some.inj ((show Tryz.prog.funcNamed "loop.example/g01089/laws.FnAxioms" = some 4 by kernel_rfl).symm.trans hf) |>.symm
      obtain rfl : fn = Tryz.f4 := (Option.some.inj (Tryz.func4.symm.trans hfn)).symm
      exact ⟨by kernel_rfl, fun j t ht => by
        rw [Tryz.params4] at ht
        have hm : t ∈ [36] := by simpa using Array.mem_of_getElem? ht
        have hall : ([36].all fun u => !Tryz.prog.wantsStandIn u) = true := by kernel_rfl
        exact (show Tryz.prog.wantsStandIn t = false by simpa using List.all_eq_true.1 hall t hm)⟩)
    (by kernel_rfl)
#print axioms card
end Go.Proofs.YtpfncncohnhanaaGreatDoor.fnAxioms

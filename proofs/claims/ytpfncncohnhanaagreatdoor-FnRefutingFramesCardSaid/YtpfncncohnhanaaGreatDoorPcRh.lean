/- FnRefutingFrames returns true for every list of bytes, its argument reads as before; the listed tables are tied to the text of the program. -/
import Derived.Test.YtpfncncohnhanaaGreatDoorRows
import Derived.Test.YtpfncncohnhanaaGreatDoorCards
import Derived.Test.YtpfncncohnhanaaGreatDoorTie
import Derived.ProofKit
import Derived.LaidMore
import Derived.Lay
import Derived.OpenShut
import Derived.Stop.Joined
import Derived.SevenTiedAt
import Derived.Test.YtpfncncohnhanaaGreatDoorPc1
import Derived.Test.YtpfncncohnhanaaGreatDoorPc2
import Derived.Test.YtpfncncohnhanaaGreatDoorPc3
import Derived.Test.YtpfncncohnhanaaGreatDoorPc4
import Derived.Test.YtpfncncohnhanaaGreatDoorPc5
import Derived.Test.YtpfncncohnhanaaGreatDoorPc6
namespace Go.Proofs.YtpfncncohnhanaaGreatDoor.fnRefutingFrames
open Go.ChangeShapes Go.WideShapes Go.ChangeAt Go.RowKit

theorem laidOut : laidOutB Tryz.prog = true := by kernel_rfl
theorem cByte : Tryz.prog.cellsOf 5 = 1 := by kernel_rfl
theorem own : ownKnob Tryz.prog.godebug = none := by kernel_rfl
theorem gNames : Tryz.prog.globalNamed "loop.example/g01089/impl.axiomNames" = some 1 := by kernel_rfl
theorem gLogic : Tryz.prog.globalNamed "loop.example/g01089/impl.logicTable" = some 2 := by kernel_rfl
theorem tNames : (Tryz.prog.globals[1]?).map (·.type) = some 76 := by kernel_rfl
theorem tLogic : (Tryz.prog.globals[2]?).map (·.type) = some 135 := by kernel_rfl
theorem cArr2 : Tryz.prog.cellsOf 135 = 16 := by kernel_rfl
theorem cArr : Tryz.prog.cellsOf 76 = 13 := by kernel_rfl
theorem cStr : Tryz.prog.cellsOf 9 = 1 := by kernel_rfl

def laid4 : List (String × DataW Unit) := [("unicode/utf8.acceptRanges", Rows.laid_unicode_utf8_acceptRanges), ("loop.example/g01089/impl.axiomNames", tabS axNames), ("loop.example/g01089/impl.logicTable", tabS lgTab), ("unicode/utf8.first", Rows.laid_unicode_utf8_first)]

/-- What the condition gives. -/
theorem of_laid {W : World} (h : laidMetH Tryz.prog laid4 W) : (W.var? Tryz.prog "loop.example/g01089/impl.axiomNames" = some (scells axNames).toArray ∧ TabAt W 1 axNames) ∧ W.var? Tryz.prog "loop.example/g01089/impl.logicTable" = some (scells lgTab).toArray ∧ TabAt W 2 lgTab := by
  rw [MakeChecks.laidMetH_plain _ _ _ (by kernel_rfl)] at h
  obtain ⟨ps, hv, _, hc⟩ := h
  obtain ⟨ga, ta, csa, fa, pa, qa, _, _, _, _, hv, hps⟩ := hv
  obtain ⟨h1, h2, q, hr, hq⟩ := laid_tab gNames tNames Tryz.underlying76 Tryz.underlying9 cStr cArr (by decide) hv (fun b off hp => hc b off (by rw [hps]; simp [hp]))
  obtain ⟨h3, h4, _⟩ := laid_tab gLogic tLogic Tryz.underlying135 Tryz.underlying9 cStr cArr2 (by decide) hr (fun b off hp => hc b off (by rw [hps]; have := hq _ hp; simp [this]))
  exact ⟨⟨h1, h2⟩, h3, h4⟩

theorem reads_names {H : Type} (enc : TypeId × Value → H) (W : World) (sp : Nat → Bool) : DataW.trod enc Tryz.prog W 0 sp true 3 76 (scells axNames).toArray.toList = some (tabS axNames, []) := by kernel_rfl
theorem reads_logic {H : Type} (enc : TypeId × Value → H) (W : World) (sp : Nat → Bool) : DataW.trod enc Tryz.prog W 0 sp true 3 135 (scells lgTab).toArray.toList = some (tabS lgTab, []) := by kernel_rfl

set_option maxRecDepth 100000 in
theorem lifted (os : Os) (started : os.Started) (H : Type) (enc : TypeId × Value → H) :
    ReturnsInHanded {} Tryz.checked os 5 .any (fun w args => (Rows.fnRefutingFramesSpec.pre enc Tryz.prog Tryz.f5 [] false w args ∧ laidMetH Tryz.prog laid4 w) ∧ sizedMet enc Tryz.prog Tryz.f5 (OpenSpec.ofChange Rows.fnRefutingFramesSpec) false w args)
      (Rows.fnRefutingFramesSpec.post enc Tryz.prog Tryz.f5 false true false false) := by
  refine returnsInHanded_of_change_and (C := Tryz.checked) (X := fun w _ => laidMetH Tryz.prog laid4 w) (fun _ _ _ hh h => h.of_heap hh) own started (by kernel_rfl) Tryz.func5
    (ChangeSpec.witness_shaped (enc := enc) (C := Tryz.checked) (os := os) (X := fun w _ => laidMetH Tryz.prog laid4 w) false (World.laidAll Tryz.prog os laid4) #[.slice none 0 0] 8 (World.laidAll_os _ _ _)
      (World.shaped_of_ZipB (by kernel_rfl) (by kernel_rfl)) (by kernel_rfl) (by kernel_rfl) (by kernel_rfl)
      (by rw [MakeChecks.laidMetH_plain _ _ _ (by kernel_rfl)]; exact laidMet_laidAll _ (by kernel_rfl) (by kernel_rfl))) ?_
  intro W base args ds gs before hval0 hW _ _ hL _
  have hval : ∀ (j : Nat) t v, Tryz.f5.params[j]? = some t → args[j]? = some v → Value.okWide Tryz.prog W .any base t v := hval0
  have hW' := hW
  obtain ⟨p, q, hA0, hV0, rfl, hfz, hnd⟩ := hW
  have hA : DataW.TrodAll enc Tryz.prog W 0 (fun _ => true) true Tryz.f5.params.toList args.toList ds p := hA0
  have hV : DataW.TrodVars enc Tryz.prog W (fun _ => true) ["loop.example/g01089/impl.logicTable", "loop.example/g01089/impl.axiomNames"] gs q := hV0
  rw [Tryz.params5] at hA hval
  obtain ⟨v0, vs0, d0, ds0, p0, q0, hargs, rfl, rfl, h0, r0⟩ := trodAll_cons hA
  obtain ⟨rfl, rfl, rfl⟩ := trodAll_nil r0
  obtain rfl : args = #[v0] := by cases args; simp_all
  have h0k := h0
  obtain ⟨A, l, c, rfl⟩ := okWide_slice Tryz.underlying36 (hval 0 36 v0 rfl rfl)
  obtain ⟨fuel, hf0⟩ := h0
  obtain ⟨N, hL0⟩ := argB_of_trod (v := .slice A l c) Tryz.underlying36 Tryz.underlying5 cByte hf0
  obtain ⟨⟨vN, hN⟩, vX, hX⟩ := of_laid hL
  obtain ⟨g0, t0, cs0, f0, e0, p2, g1, t1, cs1, f1, e1, p3, rfl, hg0, ht0, hv0, hd0, hg1, ht1, hv1, hd1, rfl⟩ := trodVars_two hV
  obtain rfl := Option.some.inj (gLogic.symm.trans hg0)
  obtain rfl := Option.some.inj (gNames.symm.trans hg1)
  obtain rfl := Option.some.inj (tLogic.symm.trans ht0)
  obtain rfl := Option.some.inj (tNames.symm.trans ht1)
  obtain rfl : cs0 = (scells lgTab).toArray := Option.some.inj (hv0.symm.trans vX)
  obtain rfl : cs1 = (scells axNames).toArray := Option.some.inj (hv1.symm.trans vN)
  obtain ⟨rfl, rfl⟩ := DataW.Trod.unique (v := .agg (scells lgTab).toArray) ⟨f0, hd0⟩ ⟨3, reads_logic enc W _⟩
  obtain ⟨rfl, rfl⟩ := DataW.Trod.unique (v := .agg (scells axNames).toArray) ⟨f1, hd1⟩ ⟨3, reads_names enc W _⟩
  clear hA0 hV0 hval0
  refine (lawRh_c (.slice A l c) N W hL0 hN hX).mono fun e W' ⟨he, hg⟩ => ?_
  subst he
  have hlt : ∀ x ∈ p0, x.block < W.heap.size := fun x hx => by simpa using hW'.lt x (by simp [hx])
  have hargs' := Below.trod laidOut (by kernel_rfl) (of_decide_eq_true (by kernel_rfl)) h0k hg.below hlt
  have hvars : ∀ sp : Nat → Bool, DataW.TrodVars enc Tryz.prog W' sp ["loop.example/g01089/impl.logicTable", "loop.example/g01089/impl.axiomNames"] [tabS lgTab, tabS axNames] (MemPlace.row ⟨2, 0, none⟩ (scells lgTab).toArray.size ++ [] ++ (MemPlace.row ⟨1, 0, none⟩ (scells axNames).toArray.size ++ [] ++ [])) := fun sp =>
    ⟨2, 135, _, 3, [], _, gLogic, tLogic, var?_below hg.below gLogic hX.lt vX, reads_logic enc W' sp, ⟨1, 76, _, 3, [], [], gNames, tNames, var?_below hg.below gNames hN.lt vN, reads_names enc W' sp, rfl, rfl⟩, rfl⟩
  exact ⟨_, rfl, ⟨_, _, _, [], _, _, hW', trodAll_cons_mk (shut_bool Tryz.underlying4 _) trodAll_mk0, trodAll_cons_mk hargs' trodAll_mk0, hvars _, hg.below.frame _, fun h => by cases h⟩⟩

theorem proved : Rows.FnRefutingFramesSaid :=
  OpenClaim.holds_of_wide 5 Tryz.f5 rfl rfl rfl rfl rfl rfl rfl ⟨rfl, rfl, rfl, rfl, rfl⟩ rfl rfl rfl rfl rfl (by kernel_rfl) Tryz.func5 (by kernel_rfl)
    (of_decide_eq_true (by kernel_rfl)) (by unfold Func.isWrapper; first | (rw [if_pos (by decide +kernel)]; kernel_rfl) | (rw [if_neg (by decide +kernel)]; exact ⟨rfl, rfl⟩))
    (fun os started H enc _ => lifted os started H enc)

theorem card : Rows.FnRefutingFramesCardSaid :=
  Claim7.holds_tied_plain_at .later [] [.data, .data, .data, .pinned] true (true, "1a4f2a02095bd518cf4caff4575e9453fccef3fed8340054c3dd6373d031c919") false
    proved (fun _ h => by cases h) (by kernel_rfl) (fun _ h => by cases h) fnRefutingFrames_row_tie rfl ⟨rfl, rfl⟩ (by kernel_rfl) rfl
    (fun f fn hf hfn => by
      obtain rfl : f = 5 := Option.some.inj ((show Tryz.prog.funcNamed "loop.example/g01089/laws.FnRefutingFrames" = some 5 by kernel_rfl).symm.trans hf) |>.symm
      obtain rfl : fn = Tryz.f5 := (Option.some.inj (Tryz.func5.symm.trans hfn)).symm
      exact ⟨by kernel_rfl, fun j t ht => by
        rw [Tryz.params5] at ht
        have hm : t ∈ [36] := by simpa using Array.mem_of_getElem? ht
        have hall : ([36].all fun u => !Tryz.prog.wantsStandIn u) = true := by kernel_rfl
        exact (show Tryz.prog.wantsStandIn t = false by simpa using List.all_eq_true.1 hall t hm)⟩)
    (by kernel_rfl)
#print axioms card
end Go.Proofs.YtpfncncohnhanaaGreatDoor.fnRefutingFrames

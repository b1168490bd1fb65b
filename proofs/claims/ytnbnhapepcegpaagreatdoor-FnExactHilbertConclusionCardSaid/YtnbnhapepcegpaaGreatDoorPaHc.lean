/- FnExactHilbertConclusion returns true for every string, every list of lists of nodes and every list of lines, its arguments read as before; the listed table is tied to the text of the program. No other condition. -/
import Derived.Test.YtnbnhapepcegpaaGreatDoorRows
import Derived.Test.YtnbnhapepcegpaaGreatDoorCards
import Derived.Test.YtnbnhapepcegpaaGreatDoorTie
import Derived.ProofKit
import Derived.LaidMore
import Derived.OpenShut
import Derived.ShutString
import Derived.ChangeVars
import Derived.Stop.Joined
import Derived.SevenTiedAt
import Derived.Test.YtnbnhapepcegpaaGreatDoorPa1
import Derived.Test.YtnbnhapepcegpaaGreatDoorPa2
import Derived.Test.YtnbnhapepcegpaaGreatDoorPa3
import Derived.Test.YtnbnhapepcegpaaGreatDoorPa4
import Derived.Test.YtnbnhapepcegpaaGreatDoorPa5
import Derived.Test.YtnbnhapepcegpaaGreatDoorPa6
namespace Go.Proofs.YtnbnhapepcegpaaGreatDoor.fnExactHilbertConclusion
open Go.ChangeShapes Go.WideShapes Go.ChangeAt Go.RowKit
open Go.ChangeMaps (open_string shut_string)

theorem own : ownKnob Tryz.prog.godebug = none := by kernel_rfl
theorem laidOut : laidOutB Tryz.prog = true := by kernel_rfl
theorem gTexts : Tryz.prog.globalNamed "loop.example/g01089/impl.schemeTexts" = some 0 := by kernel_rfl
theorem tTexts : (Tryz.prog.globals[0]?).map (·.type) = some 133 := by kernel_rfl
theorem cArr : Tryz.prog.cellsOf 133 = 19 := by kernel_rfl
theorem cNd : Tryz.prog.cellsOf 74 = 2 := by kernel_rfl
theorem cLine : Tryz.prog.cellsOf 46 = 4 := by kernel_rfl
theorem cNds : Tryz.prog.cellsOf 43 = 1 := by kernel_rfl
theorem cI : Tryz.prog.cellsOf 2 = 1 := by kernel_rfl
theorem cStr : Tryz.prog.cellsOf 9 = 1 := by kernel_rfl

def laid2 : List (String × DataW Unit) := [("loop.example/g01089/impl.schemeTexts", tabS schTexts)]

/-- The door's own heap meets the condition: closed facts. -/
theorem door_met (os : Os) (args : Array Value) : laidMetH Tryz.prog laid2 ((World.doorLaid Tryz.prog 24 os).forCall (fun _ _ => 0) ⟨#[], args, []⟩).memory :=
  laidMetH_of_parts3 (fuel := 8) (laidMet_of_run' 8 (by kernel_rfl) (by kernel_rfl)) (by kernel_rfl) (by kernel_rfl)

/-- What the condition gives. -/
theorem of_laid {W : World} (h : laidMetH Tryz.prog laid2 W) : W.var? Tryz.prog "loop.example/g01089/impl.schemeTexts" = some (scells schTexts).toArray ∧ TabAt W 0 schTexts := by
  rw [MakeChecks.laidMetH_plain _ _ _ (by kernel_rfl)] at h
  obtain ⟨ps, hv, _, hc⟩ := h
  obtain ⟨h1, h2, _⟩ := laid_tab gTexts tTexts Tryz.underlying133 Tryz.underlying9 cStr cArr (by decide) hv hc
  exact ⟨h1, h2⟩

theorem reads_texts {H : Type} (enc : TypeId × Value → H) (W : World) (sp : Nat → Bool) : DataW.trod enc Tryz.prog W 0 sp true 3 133 (scells schTexts).toArray.toList = some (tabS schTexts, []) := by kernel_rfl

set_option maxRecDepth 100000 in
theorem lifted (os : Os) (started : os.Started) (H : Type) (enc : TypeId × Value → H) :
    ReturnsInHanded {} Tryz.checked os 4 .any (fun w args => (Rows.fnExactHilbertConclusionSpec.pre enc Tryz.prog Tryz.f4 [] false w args ∧ laidMetH Tryz.prog laid2 w) ∧ sizedMet enc Tryz.prog Tryz.f4 (OpenSpec.ofChange Rows.fnExactHilbertConclusionSpec) false w args)
      (Rows.fnExactHilbertConclusionSpec.post enc Tryz.prog Tryz.f4 false true false false) := by
  refine returnsInHanded_of_change_and (C := Tryz.checked) (X := fun w _ => laidMetH Tryz.prog laid2 w) (fun _ _ _ hh h => h.of_heap hh) own started (by kernel_rfl) Tryz.func4
    (ChangeSpec.witness_shaped (enc := enc) (C := Tryz.checked) (os := os) (X := fun w _ => laidMetH Tryz.prog laid2 w) false (World.doorLaid Tryz.prog 24 os) #[.string ByteArray.empty, .slice none 0 0, .slice none 0 0] 8 rfl (World.shaped_of_RefB (by kernel_rfl) (by kernel_rfl)) (by kernel_rfl) (by kernel_rfl) (by kernel_rfl) (door_met os _)) ?_
  intro W base args ds gs before hval0 hW _ _ hL _
  have hval : ∀ (j : Nat) t v, Tryz.f4.params[j]? = some t → args[j]? = some v → Value.okWide Tryz.prog W .any base t v := hval0
  have hW' := hW
  obtain ⟨p, q, hA0, hV0, rfl, hfz, hnd⟩ := hW
  have hA : DataW.TrodAll enc Tryz.prog W 0 (fun _ => true) true Tryz.f4.params.toList args.toList ds p := hA0
  have hV : DataW.TrodVars enc Tryz.prog W (fun _ => true) ["loop.example/g01089/impl.schemeTexts"] gs q := hV0
  rw [Tryz.params4] at hA hval
  obtain ⟨v0, vs0, d0, ds0, p0, q0, hargs, rfl, rfl, h0, r0⟩ := trodAll_cons hA
  obtain ⟨v1, vs1, d1, ds1, p1, q1, hargs1, rfl, rfl, h1, r1⟩ := trodAll_cons r0
  obtain ⟨v2, vs2, d2, ds2, p2, q2, hargs2, rfl, rfl, h2, r2⟩ := trodAll_cons r1
  obtain ⟨rfl, rfl, rfl⟩ := trodAll_nil r2
  obtain rfl : args = #[v0, v1, v2] := by cases args; simp_all
  obtain ⟨a0, rfl, rfl, rfl, w0⟩ := open_string Tryz.underlying9 (hval 0 9 v0 rfl rfl) h0
  have h1k := h1
  obtain ⟨A1, l1, c1, rfl⟩ := okWide_slice Tryz.underlying22 (hval 1 22 v1 rfl rfl)
  obtain ⟨fuel1, hf1⟩ := h1
  obtain ⟨L1, hL1⟩ := argNl_of_trod (v := .slice A1 l1 c1) Tryz.underlying22 Tryz.underlying43 cNds Tryz.underlying74 cNd rfl rfl cI cI Tryz.underlying2 Tryz.underlying2 hf1
  have h2k := h2
  obtain ⟨A2, l2, c2, rfl⟩ := okWide_slice Tryz.underlying23 (hval 2 23 v2 rfl rfl)
  obtain ⟨fuel2, hf2⟩ := h2
  obtain ⟨L2, hL2⟩ := argHl_of_trod (v := .slice A2 l2 c2) Tryz.underlying23 Tryz.underlying46 cLine rfl rfl rfl rfl cI cI cI cNds Tryz.underlying2 Tryz.underlying2 Tryz.underlying2 Tryz.underlying43 Tryz.underlying74 cNd rfl rfl cI cI Tryz.underlying2 Tryz.underlying2 hf2
  obtain ⟨vX, hX⟩ := of_laid hL
  obtain ⟨g0, t0, cs0, f0, e0, p5, rfl, hg0, ht0, hv0, hd0, rfl⟩ := trodVars_one hV
  obtain rfl := Option.some.inj (gTexts.symm.trans hg0)
  obtain rfl := Option.some.inj (tTexts.symm.trans ht0)
  obtain rfl : cs0 = (scells schTexts).toArray := Option.some.inj (hv0.symm.trans vX)
  obtain ⟨rfl, rfl⟩ := DataW.Trod.unique (v := .agg (scells schTexts).toArray) ⟨f0, hd0⟩ ⟨3, reads_texts enc W _⟩
  clear hA0 hV0 hval0
  refine (lawHc_c a0 (.slice A1 l1 c1) L1 (.slice A2 l2 c2) L2 W hX hL1 hL2).mono fun e W' ⟨he, hg⟩ => ?_
  subst he
  have hlt1 : ∀ x ∈ p1, x.block < W.heap.size := fun x hx => by simpa using hW'.lt x (by simp [hx])
  have hlt2 : ∀ x ∈ p2, x.block < W.heap.size := fun x hx => by simpa using hW'.lt x (by simp [hx])
  have hargs'1 := Below.trod laidOut (by kernel_rfl) (of_decide_eq_true (by kernel_rfl)) h1k hg.below hlt1
  have hargs'2 := Below.trod laidOut (by kernel_rfl) (of_decide_eq_true (by kernel_rfl)) h2k hg.below hlt2
  have hvars : ∀ sp : Nat → Bool, DataW.TrodVars enc Tryz.prog W' sp ["loop.example/g01089/impl.schemeTexts"] [tabS schTexts] (MemPlace.row ⟨0, 0, none⟩ (scells schTexts).toArray.size ++ [] ++ []) := fun sp =>
    ⟨0, 133, _, 3, [], [], gTexts, tTexts, var?_below hg.below gTexts hX.lt vX, reads_texts enc W' sp, rfl, rfl⟩
  exact ⟨_, rfl, ⟨_, _, _, [], _, _, hW', trodAll_cons_mk (shut_bool Tryz.underlying4 _) trodAll_mk0, trodAll_cons_mk (shut_string Tryz.underlying9 w0) (trodAll_cons_mk hargs'1 (trodAll_cons_mk hargs'2 trodAll_mk0)), hvars _, hg.below.frame _, fun h => by cases h⟩⟩

theorem proved : Rows.FnExactHilbertConclusionSaid :=
  OpenClaim.holds_of_wide 4 Tryz.f4 rfl rfl rfl rfl rfl rfl rfl ⟨rfl, rfl, rfl, rfl, rfl⟩ rfl rfl rfl rfl rfl (by kernel_rfl) Tryz.func4 (by kernel_rfl)
    (of_decide_eq_true (by kernel_rfl)) (by unfold Func.isWrapper; first | (rw [if_pos (by decide +kernel)]; kernel_rfl) | (rw [if_neg (by decide +kernel)]; exact ⟨rfl, rfl⟩))
    (fun os started H enc _ => lifted os started H enc)

theorem card : Rows.FnExactHilbertConclusionCardSaid :=
  Claim7.holds_tied_plain_at .later [] [.data] true (true, "8ab16a9b73130daa62299f5fae201481728a6ed0162874348a61d537d0a77ecf") false
    proved (fun _ h => by cases h) (by kernel_rfl) (fun _ h => by cases h) fnExactHilbertConclusion_row_tie rfl ⟨rfl, rfl⟩ (by kernel_rfl) rfl
    (fun f fn hf hfn => by
      obtain rfl : f = 4 := Option.some.inj ((show Tryz.prog.funcNamed "loop.example/g01089/laws.FnExactHilbertConclusion" = some 4 by kernel_rfl).symm.trans hf) |>.symm
      obtain rfl : fn = Tryz.f4 := (Option.some.inj (Tryz.func4.symm.trans hfn)).symm
      exact ⟨by kernel_rfl, fun j t ht => by
        rw [Tryz.params4] at ht
        have hm : t ∈ [9, 22, 23] := by simpa using Array.mem_of_getElem? ht
        have hall : ([9, 22, 23].all fun u => !Tryz.prog.wantsStandIn u) = true := by kernel_rfl
        exact (show Tryz.prog.wantsStandIn t = false by simpa using List.all_eq_true.1 hall t hm)⟩)
    (by kernel_rfl)
#print axioms card
end Go.Proofs.YtnbnhapepcegpaaGreatDoor.fnExactHilbertConclusion

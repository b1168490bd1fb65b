/- FnExactIsInstance returns true for every number and every list of nodes, its arguments read as before; the listed table is tied to the program's text. -/
import Derived.Test.YtpbaiadaanpllaaDoorRows
import Derived.Test.YtpbaiadaanpllaaDoorCards
import Derived.Test.YtpbaiadaanpllaaDoorTie
import Derived.Test.YtpbaiadaanpllaaDoorInst
import Derived.Test.YtpbaiadaanpllaaDoorArgN
import Derived.ProofKit
import Derived.LaidMore
import Derived.OpenShut
import Derived.ChangeVars
import Derived.Stop.Joined
import Derived.SevenTiedAt
namespace Go.Proofs.YtpbaiadaanpllaaDoor.fnExactIsInstance
open Go.ChangeShapes Go.WideShapes Go.ChangeAt Go.RowKit

theorem own : ownKnob Tryd.prog.godebug = none := by kernel_rfl
theorem laidOut : laidOutB Tryd.prog = true := by kernel_rfl
theorem gTexts : Tryd.prog.globalNamed "loop.example/g01089/impl.schemeTexts" = some 2 := by kernel_rfl
theorem tTexts : (Tryd.prog.globals[2]?).map (·.type) = some 55 := by kernel_rfl
theorem cArr : Tryd.prog.cellsOf 55 = 19 := by kernel_rfl
theorem cNd : Tryd.prog.cellsOf 50 = 2 := by kernel_rfl
theorem cI : Tryd.prog.cellsOf 2 = 1 := by kernel_rfl
theorem cStr : Tryd.prog.cellsOf 9 = 1 := by kernel_rfl

def laid2 : List (String × DataW Unit) := [("loop.example/g01089/impl.schemeTexts", tabS schTexts)]

/-- The door's own heap meets the condition: closed facts. -/
theorem door_met (os : Os) (args : Array Value) : laidMetH Tryd.prog laid2 ((World.doorLaid Tryd.prog 24 os).forCall (fun _ _ => 0) ⟨#[], args, []⟩).memory :=
  laidMetH_of_parts3 (fuel := 8) (laidMet_of_run' 8 (by kernel_rfl) (by kernel_rfl)) (by kernel_rfl) (by kernel_rfl)

/-- What the condition gives. -/
theorem of_laid {W : World} (h : laidMetH Tryd.prog laid2 W) : W.var? Tryd.prog "loop.example/g01089/impl.schemeTexts" = some (scells schTexts).toArray ∧ TabAt W 2 schTexts := by
  rw [MakeChecks.laidMetH_plain _ _ _ (by kernel_rfl)] at h
  obtain ⟨ps, hv, _, hc⟩ := h
  obtain ⟨h1, h2, _⟩ := laid_tab gTexts tTexts Tryd.underlying55 Tryd.underlying9 cStr cArr (by decide) hv hc
  exact ⟨h1, h2⟩

theorem reads_texts {H : Type} (enc : TypeId × Value → H) (W : World) (sp : Nat → Bool) : DataW.trod enc Tryd.prog W 0 sp true 3 55 (scells schTexts).toArray.toList = some (tabS schTexts, []) := by kernel_rfl

set_option maxRecDepth 100000 in
theorem lifted (os : Os) (started : os.Started) (H : Type) (enc : TypeId × Value → H) :
    ReturnsInHanded {} Tryd.checked os 5 .any (fun w args => (Rows.fnExactIsInstanceSpec.pre enc Tryd.prog Tryd.f5 [] false w args ∧ laidMetH Tryd.prog laid2 w) ∧ sizedMet enc Tryd.prog Tryd.f5 (OpenSpec.ofChange Rows.fnExactIsInstanceSpec) false w args)
      (Rows.fnExactIsInstanceSpec.post enc Tryd.prog Tryd.f5 false true false false) := by
  refine returnsInHanded_of_change_and (C := Tryd.checked) (X := fun w _ => laidMetH Tryd.prog laid2 w) (fun _ _ _ hh h => h.of_heap hh) own started (by kernel_rfl) Tryd.func5
    (ChangeSpec.witness_shaped (enc := enc) (C := Tryd.checked) (os := os) (X := fun w _ => laidMetH Tryd.prog laid2 w) false (World.doorLaid Tryd.prog 24 os) #[.int .i64 0, .slice none 0 0] 8 rfl (World.shaped_of_RefB (by kernel_rfl) (by kernel_rfl)) (by kernel_rfl) (by kernel_rfl) (by kernel_rfl) (door_met os _)) ?_
  intro W base args ds gs before hval0 hW _ _ hL _
  have hval : ∀ (j : Nat) t v, Tryd.f5.params[j]? = some t → args[j]? = some v → Value.okWide Tryd.prog W .any base t v := hval0
  have hW' := hW
  obtain ⟨p, q, hA0, hV0, rfl, hfz, hnd⟩ := hW
  have hA : DataW.TrodAll enc Tryd.prog W 0 (fun _ => true) true Tryd.f5.params.toList args.toList ds p := hA0
  have hV : DataW.TrodVars enc Tryd.prog W (fun _ => true) ["loop.example/g01089/impl.schemeTexts"] gs q := hV0
  rw [Tryd.params5] at hA hval
  obtain ⟨v0, vs0, d0, ds0, p0, q0, hargs, rfl, rfl, h0, r0⟩ := trodAll_cons hA
  obtain ⟨v1, vs1, d1, ds1, p1, q1, hargs1, rfl, rfl, h1, r1⟩ := trodAll_cons r0
  obtain ⟨rfl, rfl, rfl⟩ := trodAll_nil r1
  obtain rfl : args = #[v0, v1] := by cases args; simp_all
  obtain ⟨a0, rfl, rfl, rfl, w0⟩ := open_int Tryd.underlying2 (hval 0 2 v0 rfl rfl) h0
  have h1k := h1
  obtain ⟨A, l, c, rfl⟩ := okWide_slice Tryd.underlying30 (hval 1 30 v1 rfl rfl)
  obtain ⟨fuel, hf1⟩ := h1
  obtain ⟨xs, hxs⟩ := argN_of_trod (v := .slice A l c) Tryd.underlying30 Tryd.underlying50 cNd rfl rfl cI cI Tryd.underlying2 Tryd.underlying2 hf1
  obtain ⟨vX, hX⟩ := of_laid hL
  obtain ⟨g0, t0, cs0, f0, e0, p5, rfl, hg0, ht0, hv0, hd0, rfl⟩ := trodVars_one hV
  obtain rfl := Option.some.inj (gTexts.symm.trans hg0)
  obtain rfl := Option.some.inj (tTexts.symm.trans ht0)
  obtain rfl : cs0 = (scells schTexts).toArray := Option.some.inj (hv0.symm.trans vX)
  obtain ⟨rfl, rfl⟩ := DataW.Trod.unique (v := .agg (scells schTexts).toArray) ⟨f0, hd0⟩ ⟨3, reads_texts enc W _⟩
  clear hA0 hV0 hval0
  refine (lawInst_c a0 (.slice A l c) xs W hX hxs).mono fun e W' ⟨he, hg⟩ => ?_
  subst he
  have hlt : ∀ x ∈ p1, x.block < W.heap.size := fun x hx => by simpa using hW'.lt x (by simp [hx])
  have hargs' := Below.trod laidOut (by kernel_rfl) (of_decide_eq_true (by kernel_rfl)) h1k hg.below hlt
  have hvars : ∀ sp : Nat → Bool, DataW.TrodVars enc Tryd.prog W' sp ["loop.example/g01089/impl.schemeTexts"] [tabS schTexts] (MemPlace.row ⟨2, 0, none⟩ (scells schTexts).toArray.size ++ [] ++ []) := fun sp =>
    ⟨2, 55, _, 3, [], [], gTexts, tTexts, var?_below hg.below gTexts hX.lt vX, reads_texts enc W' sp, rfl, rfl⟩
  exact ⟨_, rfl, ⟨_, _, _, [], _, _, hW', trodAll_cons_mk (shut_bool Tryd.underlying4 _) trodAll_mk0, trodAll_cons_mk (shut_int Tryd.underlying2 w0) (trodAll_cons_mk hargs' trodAll_mk0), hvars _, hg.below.frame _, fun h => by cases h⟩⟩

theorem proved : Rows.FnExactIsInstanceSaid :=
  OpenClaim.holds_of_wide 5 Tryd.f5 rfl rfl rfl rfl rfl rfl rfl ⟨rfl, rfl, rfl, rfl, rfl⟩ rfl rfl rfl rfl rfl (by kernel_rfl) Tryd.func5 (by kernel_rfl)
    (of_decide_eq_true (by kernel_rfl)) (by unfold Func.isWrapper; first | (rw [if_pos (by decide +kernel)]; kernel_rfl) | (rw [if_neg (by decide +kernel)]; exact ⟨rfl, rfl⟩))
    (fun os started H enc _ => lifted os started H enc)

theorem card : Rows.FnExactIsInstanceCardSaid :=
  Claim7.holds_tied_plain_at .later [] [.data] true (true, "d5462ae7ea287febfc7bb65170ce3007552d49002c780eb7c0140f0e8bf5411c") false
    proved (fun _ h => by cases h) (by kernel_rfl) (fun _ h => by cases h) fnExactIsInstance_row_tie rfl ⟨rfl, rfl⟩ (by kernel_rfl) rfl
    (fun f fn hf hfn => by
      obtain rfl : f = 5 := Option.some.inj ((show Tryd.prog.funcNamed "loop.example/g01089/laws.FnExactIsInstance" = some 5 by kernel_rfl).symm.trans hf) |>.symm
      obtain rfl : fn = Tryd.f5 := (Option.some.inj (Tryd.func5.symm.trans hfn)).symm
      exact ⟨by kernel_rfl, fun j t ht => by
        rw [Tryd.params5] at ht
        have hm : t ∈ [2, 30] := by simpa using Array.mem_of_getElem? ht
        have hall : ([2, 30].all fun u => !Tryd.prog.wantsStandIn u) = true := by kernel_rfl
        exact (show Tryd.prog.wantsStandIn t = false by simpa using List.all_eq_true.1 hall t hm)⟩)
    (by kernel_rfl)
#print axioms card
end Go.Proofs.YtpbaiadaanpllaaDoor.fnExactIsInstance

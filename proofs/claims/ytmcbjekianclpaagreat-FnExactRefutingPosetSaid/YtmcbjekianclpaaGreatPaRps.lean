/- The program's RefutingPoset returns what the reference's returns, for all arguments. It holds without conditions. -/
import Derived.Test.YtmcbjekianclpaaGreatRows
import Derived.ProofKit
import Derived.OpenShut
import Derived.Test.YtmcbjekianclpaaGreatPa1
import Derived.Test.YtmcbjekianclpaaGreatPa2
import Derived.Test.YtmcbjekianclpaaGreatPa3
import Derived.Test.YtmcbjekianclpaaGreatPa4
import Derived.Test.YtmcbjekianclpaaGreatPa5
namespace Go.Proofs.YtmcbjekianclpaaGreat.fnExactRefutingPoset
open Go.ChangeShapes Go.WideShapes Go.ChangeAt Go.RowKit

theorem own : ownKnob Tryz.prog.godebug = none := by kernel_rfl
theorem laidOut : laidOutB Tryz.prog = true := by kernel_rfl
theorem cI : Tryz.prog.cellsOf 2 = 1 := by kernel_rfl
theorem cNd : Tryz.prog.cellsOf 44 = 2 := by kernel_rfl

set_option maxRecDepth 100000 in
theorem lifted (os : Os) (started : os.Started) (H : Type) (enc : TypeId × Value → H) :
    ReturnsInHanded {} Tryz.checked os 3 .any (Rows.fnExactRefutingPosetSpec.pre6 enc Tryz.prog Tryz.f3 Rows.fnExactRefutingPosetRow.domain false) (Rows.fnExactRefutingPosetSpec.post enc Tryz.prog Tryz.f3 false true false false) := by
  refine returnsInHanded_of_change (C := Tryz.checked) own started (by kernel_rfl) Tryz.func3
    (ChangeSpec.witness6 (enc := enc) (C := Tryz.checked) false ⟨#[], #[.slice none 0 0], []⟩ 8 (by kernel_rfl) (by kernel_rfl) (by kernel_rfl) (by kernel_rfl)) ?_
  intro W base args ds gs before hval0 hW _ _
  have hval : ∀ (j : Nat) t v, Tryz.f3.params[j]? = some t → args[j]? = some v → Value.okWide Tryz.prog W .any base t v := hval0
  have hW' := hW
  obtain ⟨p, q, hA0, hV, rfl, hfz, hnd⟩ := hW
  have hA : DataW.TrodAll enc Tryz.prog W 0 (fun _ => true) true Tryz.f3.params.toList args.toList ds p := hA0
  rw [Tryz.params3] at hA hval
  obtain ⟨v0, vs0, d0, ds0, p0, q0, hargs0, rfl, rfl, h0, r0⟩ := trodAll_cons hA
  obtain ⟨rfl, rfl, rfl⟩ := trodAll_nil r0
  obtain rfl : args = #[v0] := by cases args; simp_all
  obtain ⟨rfl, rfl⟩ := trodVars_none hV
  have h0k := h0
  obtain ⟨A0, l0, c0, rfl⟩ := okWide_slice Tryz.underlying22 (hval 0 22 v0 rfl rfl)
  obtain ⟨fuel0, hf0⟩ := h0
  obtain ⟨L0, hL0⟩ := argN_of_trod (v := .slice A0 l0 c0) Tryz.underlying22 Tryz.underlying44 cNd rfl rfl cI cI Tryz.underlying2 Tryz.underlying2 hf0
  clear hA0 hval0
  simp only [List.append_nil] at hW'
  have hlt0 : ∀ x ∈ p0, x.block < W.heap.size := fun x hx => by simpa using hW'.lt x (by simp [hx])
  refine (lawRps_c (.slice A0 l0 c0) L0 W hL0).mono fun e W' ⟨he, hg⟩ => ?_
  subst he
  have hargs'0 := Below.trod laidOut (by kernel_rfl) (of_decide_eq_true (by kernel_rfl)) h0k hg.below hlt0
  exact ⟨_, rfl, ⟨_, _, _, [], _, [], hW', trodAll_cons_mk (shut_bool Tryz.underlying4 _) trodAll_mk0, (trodAll_cons_mk hargs'0 trodAll_mk0), rfl, hg.below.frame _, fun h => by cases h⟩⟩

theorem proved : Rows.FnExactRefutingPosetSaid :=
  OpenClaim.holds_of_wide 3 Tryz.f3 rfl rfl rfl rfl rfl rfl rfl ⟨rfl, rfl, rfl, rfl, rfl⟩ rfl rfl rfl rfl rfl (by kernel_rfl) Tryz.func3 (by kernel_rfl)
    (of_decide_eq_true (by kernel_rfl)) (by unfold Func.isWrapper; first | (rw [if_pos (by decide +kernel)]; kernel_rfl) | (rw [if_neg (by decide +kernel)]; exact ⟨rfl, rfl⟩))
    (fun os started H enc _ => lifted os started H enc)
#print axioms proved
end Go.Proofs.YtmcbjekianclpaaGreat.fnExactRefutingPoset

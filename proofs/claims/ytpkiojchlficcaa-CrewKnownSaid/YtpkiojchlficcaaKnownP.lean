/- The law CrewKnown of the given program holds for every input that its row admits, on every schedule: the call returns true and the arguments read as before. The frame round the walk. -/
import Derived.Test.YtpkiojchlficcaaRows
import Derived.Test.YtpkiojchlficcaaLawD
import Derived.ProofKit
import Derived.OpenShut
import Derived.ChangeOld
import Derived.Below
import Derived.ChangeSlices
import Derived.Conc.HoldsTime
import Derived.Conc.LeavingOf
namespace Go.Proofs.Ytpkiojchlficcaa.crewKnown
open Go.ChangeShapes Go.WideShapes Go.ChangeAt Go.RowKit Go.Conc Go.ConcM
open Go.Proofs.Ytpkiojchlficcaa.Crew
set_option linter.unusedVariables false

theorem own : ownKnob Try.prog.godebug = none := by kernel_rfl
theorem laidOut : laidOutB Try.prog = true := by kernel_rfl
theorem bytes2 : Try.prog.bytesOf 2 = 8 := by kernel_rfl

set_option maxRecDepth 100000 in
set_option maxHeartbeats 16000000 in
theorem lifted (os : Os) (started : os.Started) (H : Type) (enc : TypeId × Value → H) (F : Stop.Interp) :
    ReturnsInLeavingWide Rows.crewKnownRow.assume Try.checked os 6 .any (Rows.crewKnownSpec.pre6 enc Try.prog Try.f6 Rows.crewKnownRow.domain false) ((OpenSpec.ofChange Rows.crewKnownSpec).postWith enc Try.prog Try.f6 F (outsideKept [.timePasses]) false true false) := by
  refine returnsInLeavingWide_of_change_time (C := Try.checked) own started Try.func6
    (ChangeSpec.witness6c (enc := enc) (C := Try.checked) ⟨#[], #[], []⟩ 8 (by kernel_rfl) (by kernel_rfl) (by kernel_rfl) (by kernel_rfl)) ?_
  intro W base args ds gs before hval0 hW hcnd hsz0 _
  have hsz : (DataW.weightsEach Try.prog (Try.f6.params.toList ++ Rows.crewKnownSpec.plain.varTypes Try.prog) (ds ++ gs)).all (· ≤ reachBytes) = true := hsz0
  clear hsz0
  have hval : ∀ (j : Nat) t v, Try.f6.params[j]? = some t → args[j]? = some v → Value.okWide Try.prog W .any base t v := hval0
  have hW' := hW
  obtain ⟨p, q, hA0, hV, rfl, hfz, hnd⟩ := hW
  have hA : DataW.TrodAll enc Try.prog W 0 (fun _ => true) true Try.f6.params.toList args.toList ds p := hA0
  rw [Try.params6] at hA hval hsz
  obtain ⟨hargs, rfl, rfl⟩ := trodAll_none hA
  obtain rfl : args = #[] := by cases args; simp_all
  obtain ⟨rfl, rfl⟩ := trodVars_none hV
  clear hA0 hval0
  have hrun := run_of_gets (law6 (w := W)   )
  have hent : Frame.enter Try.prog 6 #[] .normal = (Conc.base 6).at ⟨#[undef, undef, undef, undef, undef, undef, undef, undef, undef, undef, undef, undef, undef, undef, undef, undef, undef, undef, undef, undef, undef, undef, undef, undef, undef, undef], []⟩ [.code body6] := by
    simp [Frame.enter, Frame.at, Try.func6, Conc.base, body6, Try.f6]
    rfl
  rw [← hent] at hrun
  obtain ⟨M, last, o, w', t', r1, r2, r3, v, e, hp, g1, g2, g3, g4⟩ := hrun
  refine ⟨M, last, o, w', t', r1, r2, r3, v, e, ?_, g1, g2, g3, g4⟩
  obtain ⟨rfl, S', hk⟩ := hp
  have hbel : Below W.heap.size W { w' with os := W.os } := ⟨rfl, hk.tape, hk.output, hk.size, hk.low⟩
  exact ⟨⟨_, _, _, [], _, [], hW', trodAll_mk1 (shut_bool Try.underlying4 _), trodAll_mk0, rfl, hbel.frame _, fun h => by cases h⟩, hk.os⟩

theorem over : Rows.crewKnownRow.holds Try.pinned (OpenSpec.ofChange Rows.crewKnownSpec) :=
  OpenClaim.holds_of_wide_leaving_time 6 Try.f6 rfl rfl rfl rfl rfl rfl rfl ⟨rfl, rfl, rfl, rfl, rfl⟩ rfl rfl rfl rfl rfl (by kernel_rfl) Try.func6 (by kernel_rfl)
    (of_decide_eq_true (by kernel_rfl)) (by unfold Func.isWrapper; first | (rw [if_pos (by decide +kernel)]; kernel_rfl) | (rw [if_neg (by decide +kernel)]; exact ⟨rfl, rfl⟩))
    (fun os started H enc _ F => lifted os started H enc F)

/-- the statement -/
theorem proved : Rows.CrewKnownSaid := over
#print axioms proved
end Go.Proofs.Ytpkiojchlficcaa.crewKnown

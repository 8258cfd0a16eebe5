/- The walks of 'works' and of the laws DigitTakes and DigitOne. -/
import Derived.Test.YtjbdmhafjcoplaaRefTake
namespace Go.Proofs.Ytjbdmhafjcoplaa
open Go.RowKit

theorem take_300 : take (putS 300) = (300, 2, 0) := by
  have := take_put 300 (by omega) (putS 300) [] (by simp [putS])
  rw [this]; rfl
theorem put_300 : putS 300 = { data := #[172, 2] } := by decide +kernel

set_option maxRecDepth 100000 in
set_option maxHeartbeats 400000 in
theorem works_any (w : World) : Calls Try.prog 16 #[] w fun e w' => e = .returned (.bool true) ∧ Below w.heap.size w w' := by
  go_enter Try.func16, Try.ntmps16
  go_wp2_with fail
  refine (put_any 300 (by omega) _).mono ?_
  rintro e w1 ⟨rfl, hb1⟩
  go_wp2_with fail
  refine (take_any (putS 300) _ (by rw [put_300]; decide)).mono ?_
  rintro e w2 ⟨rfl, rfl⟩
  rw [take_300]
  go_wp2_with fail
  refine (put_any 300 (by omega) _).mono ?_
  rintro e w3 ⟨rfl, hb3⟩
  rw [put_300]
  go_wp2_with fail
  go_ret
  exact ⟨rfl, below_then hb1 hb3⟩

set_option maxRecDepth 100000 in
set_option maxHeartbeats 400000 in
theorem digitTakesWalk (a0 : ByteArray) (w : World) (w0 : a0.size ≤ maxLen) :
    Calls Try.prog 4 #[.string a0] w fun e w' => e = .returned (.bool true) ∧ Below w.heap.size w w' := by
  by_cases hl : 65536 < a0.size
  · go_enter Try.func4, Try.ntmps4
    go_wp2_with fail
    refine (works_any _).mono ?_
    rintro e w1 ⟨rfl, hb1⟩
    go_wp2_with fail
    go_ret
    exact ⟨rfl, hb1⟩
  · go_enter Try.func4, Try.ntmps4
    go_wp2_with fail
    refine (take_any a0 _ w0).mono ?_
    rintro e w1 ⟨rfl, rfl⟩
    go_wp2_with fail
    refine (refTake_any a0 _ w0).mono ?_
    rintro e w2 ⟨rfl, hb2⟩
    go_wp2_with fail
    go_ret
    exact ⟨rfl, hb2⟩
end Go.Proofs.Ytjbdmhafjcoplaa

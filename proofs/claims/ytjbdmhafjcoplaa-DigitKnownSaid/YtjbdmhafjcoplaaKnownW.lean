/- The walk of the law DigitKnown: the document's examples. -/
import Derived.Test.YtjbdmhafjcoplaaTextsW
import Derived.Test.YtjbdmhafjcoplaaEightsW
namespace Go.Proofs.Ytjbdmhafjcoplaa
open Go.RowKit

theorem tk1 : take { data := #[128] } = (0, 0, 10) := by decide +kernel
theorem tk2 : take { data := #[128, 0] } = (0, 0, 6) := by decide +kernel
theorem tk3 : take { data := #[255, 255, 255, 255, 255, 255, 255, 255, 255, 2] } = (0, 0, 6) := by decide +kernel
theorem tk4 : take { data := #[172, 2, 7] } = (300, 2, 0) := by decide +kernel
theorem pk1 : putS 0 = { data := #[0] } := by decide +kernel
theorem pk2 : putS 127 = { data := #[127] } := by decide +kernel
theorem pk3 : putS 128 = { data := #[128, 1] } := by decide +kernel
theorem tt1 : takeT { data := #[2, 97, 98, 99] } 5 = ({ data := #[97, 98] }, 3, 0) := by decide +kernel
theorem tt2 : takeT { data := #[2, 97, 98] } 1 = ({ data := #[] }, 0, 3) := by decide +kernel
theorem tt3 : takeT { data := #[3, 97] } 9 = ({ data := #[] }, 0, 10) := by decide +kernel
theorem ek : eightS 258 = { data := #[0, 0, 0, 0, 0, 0, 1, 2] } := by decide +kernel
theorem ptk : putS ({ data := #[97, 98] } : ByteArray).size ++ { data := #[97, 98] } = { data := #[2, 97, 98] } := by decide +kernel

set_option maxRecDepth 100000 in
set_option maxHeartbeats 1000000 in
theorem digitKnownWalk (w : World) :
    Calls Try.prog 9 #[] w fun e w' => e = .returned (.bool true) ∧ Below w.heap.size w w' := by
  go_enter Try.func9, Try.ntmps9
  go_wp2_with fail
  refine (take_any _ _ (by decide)).mono ?_
  rintro e w1 ⟨rfl, rfl⟩
  rw [tk1]
  go_wp2_with fail
  refine (take_any _ _ (by decide)).mono ?_
  rintro e w1 ⟨rfl, rfl⟩
  rw [tk2]
  go_wp2_with fail
  refine (take_any _ _ (by decide)).mono ?_
  rintro e w1 ⟨rfl, rfl⟩
  rw [tk3]
  go_wp2_with fail
  refine (take_any _ _ (by decide)).mono ?_
  rintro e w1 ⟨rfl, rfl⟩
  rw [tk4]
  go_wp2_with fail
  refine (put_any 0 (by omega) _).mono ?_
  rintro e w1 ⟨rfl, hb1⟩
  rw [pk1]
  go_wp2_with fail
  refine (put_any 127 (by omega) _).mono ?_
  rintro e w2 ⟨rfl, hb2⟩
  rw [pk2]
  go_wp2_with fail
  refine (put_any 128 (by omega) _).mono ?_
  rintro e w3 ⟨rfl, hb3⟩
  rw [pk3]
  go_wp2_with fail
  refine (takeT_any _ 5 _ (by decide) (by decide)).mono ?_
  rintro e w4 ⟨rfl, rfl⟩
  rw [tt1]
  go_wp2_with fail
  refine (takeT_any _ 1 _ (by decide) (by decide)).mono ?_
  rintro e w4 ⟨rfl, rfl⟩
  rw [tt2]
  go_wp2_with fail
  refine (takeT_any _ 9 _ (by decide) (by decide)).mono ?_
  rintro e w4 ⟨rfl, rfl⟩
  rw [tt3]
  go_wp2_with fail
  refine (eight_any 258 _).mono ?_
  rintro e w4 ⟨rfl, hb4⟩
  rw [ek]
  go_wp2_with fail
  refine (putText_any _ _ (by decide)).mono ?_
  rintro e w5 ⟨rfl, hb5⟩
  rw [ptk]
  go_wp2_with fail
  refine (works_any _).mono ?_
  rintro e w6 ⟨rfl, hb6⟩
  go_wp2_with fail
  go_ret
  exact ⟨rfl, below_then (below_then (below_then (below_then (below_then hb1 hb2) hb3) hb4) hb5) hb6⟩
end Go.Proofs.Ytjbdmhafjcoplaa

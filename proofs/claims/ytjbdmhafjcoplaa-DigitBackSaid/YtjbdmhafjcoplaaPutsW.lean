/- The walk of the law DigitPuts: Put, Size and Eight agree with the reference's. -/
import Derived.Test.YtjbdmhafjcoplaaEight
namespace Go.Proofs.Ytjbdmhafjcoplaa
open Go.RowKit

theorem below_then {w w1 w2 : World} (h : Below w.heap.size w w1) (k : Below w1.heap.size w1 w2) : Below w.heap.size w w2 := h.trans (k.mono h.size)
theorem of_wf_u64 {a : Int} (h : (Lit.int .u64 a).wf = true) : ∃ n : Nat, a = n ∧ n < 18446744073709551616 := by
  simp [Lit.wf, IntKind.min, IntKind.max, IntKind.signed, IntKind.bits] at h
  exact ⟨a.toNat, by omega, by omega⟩

theorem refPut (n : Nat) (h1 : n < 18446744073709551616) (w : World) :
    Calls Try.prog 12 #[.int .u64 n] w fun e w' => e = .returned (.string (putS n)) ∧ Below w.heap.size w w' := by
  have e : (128 : Int) ^ (9 + 1) = 1180591620717411303424 := by decide
  exact refPut_any 9 (by omega) n (by omega) (by rw [e]; omega) (by omega) w

set_option maxRecDepth 100000 in
set_option maxHeartbeats 400000 in
theorem digitPutsWalk (a0 : Int) (w : World) (w0 : (Lit.int .u64 a0).wf = true) :
    Calls Try.prog 3 #[.int .u64 a0] w fun e w' => e = .returned (.bool true) ∧ Below w.heap.size w w' := by
  obtain ⟨n, rfl, hn⟩ := of_wf_u64 w0
  clear w0
  have H := Lib.hid hn
  clear hn
  have hs := short_length n
  rw [← putS_size] at hs
  go_enter Try.func3, Try.ntmps3
  go_wp2_with fail
  refine (put_any n H.out _).mono ?_
  rintro e w1 ⟨rfl, hb1⟩
  go_wp2_with fail
  refine (refPut n H.out _).mono ?_
  rintro e w2 ⟨rfl, hb2⟩
  go_wp2_with fail
  refine (size_any n H.out _).mono ?_
  rintro e w3 ⟨rfl, hb3⟩
  go_wp2_with fail
  refine (refPut n H.out _).mono ?_
  rintro e w4 ⟨rfl, hb4⟩
  go_wp2_with fail
  refine (eight_any n _).mono ?_
  rintro e w5 ⟨rfl, hb5⟩
  go_wp2_with fail
  refine (refEight_any n H.out _).mono ?_
  rintro e w6 ⟨rfl, hb6⟩
  go_wp2_with fail
  go_ret
  exact ⟨rfl, below_then (below_then (below_then (below_then (below_then hb1 hb2) hb3) hb4) hb5) hb6⟩
end Go.Proofs.Ytjbdmhafjcoplaa

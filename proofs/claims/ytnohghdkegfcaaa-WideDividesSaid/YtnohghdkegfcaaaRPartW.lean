/- The walk of the reference's Part. -/
import Derived.Test.YtnohghdkegfcaaaRDivW
import Derived.Test.YtnohghdkegfcaaaPartW
namespace Go.Proofs.Ytnohghdkegfcaaa
open Go.RowKit

set_option maxRecDepth 100000 in
set_option maxHeartbeats 1000000 in
theorem rpart_any (n a b : Nat) (hn : n < 18446744073709551616) (ha : a < 18446744073709551616) (hb : b < 18446744073709551616) (w : World) :
    Calls Try.prog 27 #[.int .u64 n, .int .u64 a, .int .u64 b] w fun e w' => e = .returned (.tuple #[.int .u64 (partR n a b).1, .int .i64 (partR n a b).2]) ∧ Below w.heap.size w w' := by
  have HN := Lib.hid hn
  have HA := Lib.hid ha
  have HB := Lib.hid hb
  have HP := Lib.hid (mul_lt hn ha)
  clear hn ha hb
  go_enter Try.func27, Try.ntmps27
  go_wp2_with fail
  refine (rmul_any n a HN.out HA.out _).mono ?_
  rintro e w1 ⟨rfl, hb1⟩
  go_wp2_with fail
  rcases Nat.eq_zero_or_pos b with rfl | h0
  · have hv : Hid (partR n a 0 = (0, 2)) := if_pos rfl
    refine (rdiv_none (n * a) HP.out _).mono ?_
    rintro e w2 ⟨rfl, hb2⟩
    go_wp2_with fail
    go_ret2
    rw [hv.out]
    exact ⟨rfl, (below_then hb1 hb2).alloc (below_then hb1 hb2).size _⟩
  · refine (rdiv_any (n * a) b HP.out h0 HB.out _).mono ?_
    rintro e w2 ⟨rfl, hb2⟩
    have hlt : Hid (n * a / b < 18446744073709551616 ↔ hiW (n * a / b) = 0) := by
      show _ ↔ _
      generalize n * a / b = Q
      unfold hiW; omega
    have hlo : Hid (n * a / b < 18446744073709551616 → loW (n * a / b) = n * a / b) := by
      show _ → _
      generalize n * a / b = Q
      unfold loW; omega
    by_cases h1 : hiW (n * a / b) = 0
    · have hv : Hid (partR n a b = (loW (n * a / b), 0)) := by
        show _ = _; unfold partR; rw [if_neg (by omega), if_pos (hlt.out.2 h1), hlo.out (hlt.out.2 h1)]
      go_wp2_with fail
      go_ret2
      rw [hv.out]
      exact ⟨rfl, (below_then hb1 hb2).alloc (below_then hb1 hb2).size _⟩
    · have h2 : 0 < hiW (n * a / b) := by omega
      have hv : Hid (partR n a b = (0, 9)) := by
        show _ = _; unfold partR; rw [if_neg (by omega), if_neg (fun h => h1 (hlt.out.1 h))]
      go_wp2_with fail
      go_ret2
      rw [hv.out]
      exact ⟨rfl, (below_then hb1 hb2).alloc (below_then hb1 hb2).size _⟩
end Go.Proofs.Ytnohghdkegfcaaa

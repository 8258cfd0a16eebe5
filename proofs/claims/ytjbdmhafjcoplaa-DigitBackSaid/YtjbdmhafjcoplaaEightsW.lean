/- The walks of TakeEight, of the reference's TakeEight, and of the law DigitEights. -/
import Derived.Test.YtjbdmhafjcoplaaTakesW
namespace Go.Proofs.Ytjbdmhafjcoplaa
open Go.RowKit

/-- the number of the first k bytes, the highest first -/
def eaF (s : ByteArray) : Nat → Nat
  | 0 => 0
  | k + 1 => eaF s k * 256 + (if h : k < s.size then s[k].toNat else 0)
theorem eaF_succ (s : ByteArray) (k : Nat) (h : k < s.size) : eaF s (k + 1) = eaF s k * 256 + s[k].toNat := by rw [eaF, dif_pos h]
theorem eaF_lt (s : ByteArray) (k : Nat) : eaF s k < 256 ^ k := by
  induction k with
  | zero => simp [eaF]
  | succ k ih =>
    rw [eaF, Nat.pow_succ]
    split
    · have := s[k].toNat_lt; omega
    · omega
theorem eaF_top (s : ByteArray) (k : Nat) (hk : k < 8) : eaF s k < 72057594037927936 := by
  have e : (72057594037927936 : Nat) = 256 ^ 7 := by decide
  rw [e]
  exact Nat.lt_of_lt_of_le (eaF_lt s k) (Nat.pow_le_pow_right (by omega) (by omega))
theorem ea_or (a c : Nat) (ha : a < 72057594037927936) (hc : c < 256) : bits .or .u64 (IntKind.u64.wrap ((a : Int) * 256)) (c : Int) = ((a * 256 + c : Nat) : Int) := by
  rw [wrap_u64_of _ (by omega) (by omega), show ((a : Int) * 256) = ((a * 256 : Nat) : Int) from by omega, u64_or_nat _ _ (by omega) (by omega)]
  rw [Nat.mul_comm, show (256 : Nat) = 2 ^ 8 from rfl, ← Nat.two_pow_add_eq_or_of_lt hc]
/-- the number with whose eight bytes a text begins, and the error's number -/
def takeE (s : ByteArray) : Nat × Nat := if s.size < 8 then (0, 10) else (eaF s 8, 0)

set_option maxRecDepth 100000 in
set_option maxHeartbeats 400000 in
theorem takeE_any (s : ByteArray) (w : World) (hs : s.size ≤ maxLen) :
    Calls Try.prog 19 #[.string s] w fun e w' => e = .returned (.tuple #[.int .u64 (takeE s).1, .int .i64 (takeE s).2]) ∧ w = w' := by
  unfold maxLen at hs
  by_cases h : s.size < 8
  · go_enter Try.func19, Try.ntmps19
    go_wp2
    go_ret2
    unfold takeE; rw [if_pos h]; exact ⟨rfl, rfl⟩
  · go_enter Try.func19, Try.ntmps19
    go_wp2
    go_loop [4, 9] (fun n i => ∃ k : Nat, k ≤ 8 ∧ i = .int .i64 k ∧ n = .int .u64 (eaF s k)) (fun _ i => 8 - (intOf i).toNat)
    case atStart => exact ⟨0, by omega, rfl, rfl⟩
    case round =>
      obtain ⟨k, hk, rfl, rfl⟩ := hrel
      by_cases hk8 : k < 8
      · have hb := s[k].toNat_lt
        have e := ea_or (eaF s k) s[k].toNat (eaF_top s k hk8) (by omega)
        rw [← eaF_succ s k (by omega)] at e
        go_wp2
        go_round
        case rel => exact ⟨k + 1, by omega, by go_num, rfl⟩
        case measure => simp [intOf]; omega
      · obtain rfl : k = 8 := by omega
        go_wp2
        go_ret2
        unfold takeE; rw [if_neg h]; exact ⟨rfl, rfl⟩

set_option maxRecDepth 100000 in
set_option maxHeartbeats 400000 in
theorem refTakeE_any (s : ByteArray) (w : World) (hs : s.size ≤ maxLen) :
    Calls Try.prog 20 #[.string s] w fun e w' => e = .returned (.tuple #[.int .u64 (takeE s).1, .int .i64 (takeE s).2]) ∧ w = w' := by
  unfold maxLen at hs
  by_cases h : s.size < 8
  · go_enter Try.func20, Try.ntmps20
    go_wp2
    go_ret2
    unfold takeE; rw [if_pos h]; exact ⟨rfl, rfl⟩
  · go_enter Try.func20, Try.ntmps20
    go_wp2
    go_loop [4, 5] (fun n i => ∃ k : Nat, k ≤ 8 ∧ i = .int .i64 k ∧ n = .int .u64 (eaF s k)) (fun _ i => 8 - (intOf i).toNat)
    case atStart => exact ⟨0, by omega, rfl, rfl⟩
    case round =>
      obtain ⟨k, hk, rfl, rfl⟩ := hrel
      by_cases hk8 : k < 8
      · have hb := s[k].toNat_lt
        have ht := eaF_top s k hk8
        have e : IntKind.u64.wrap (IntKind.u64.wrap ((eaF s k : Int) * 256) + (s[k].toNat : Int)) = (eaF s (k + 1) : Int) := by
          rw [eaF_succ s k (by omega), wrap_u64_of ((eaF s k : Int) * 256) (by omega) (by omega), wrap_u64_of _ (by omega) (by omega)]; omega
        have e' : IntKind.u64.wrap ((eaF s k : Int) * 256 + (s[k].toNat : Int)) = (eaF s (k + 1) : Int) := by
          rw [eaF_succ s k (by omega), wrap_u64_of _ (by omega) (by omega)]; omega
        have E := Lib.hid e'
        go_wp2
        go_round
        case rel => exact ⟨k + 1, by omega, by go_num, by first | rfl | (rw [eaF_succ s k (by omega)]; go_num)⟩
        case measure => simp [intOf]; omega
      · obtain rfl : k = 8 := by omega
        go_wp2
        go_ret2
        unfold takeE; rw [if_neg h]; exact ⟨rfl, rfl⟩

set_option maxRecDepth 100000 in
set_option maxHeartbeats 400000 in
theorem digitEightsWalk (a0 : ByteArray) (w : World) (w0 : a0.size ≤ maxLen) :
    Calls Try.prog 6 #[.string a0] w fun e w' => e = .returned (.bool true) ∧ Below w.heap.size w w' := by
  by_cases hl : 65536 < a0.size
  · go_enter Try.func6, Try.ntmps6
    go_wp2_with fail
    refine (works_any _).mono ?_
    rintro e w1 ⟨rfl, hb1⟩
    go_wp2_with fail
    go_ret
    exact ⟨rfl, hb1⟩
  · go_enter Try.func6, Try.ntmps6
    go_wp2_with fail
    refine (takeE_any a0 _ w0).mono ?_
    rintro e w1 ⟨rfl, rfl⟩
    go_wp2_with fail
    refine (refTakeE_any a0 _ w0).mono ?_
    rintro e w2 ⟨rfl, rfl⟩
    go_wp2_with fail
    refine (works_any _).mono ?_
    rintro e w3 ⟨rfl, hb3⟩
    go_wp2_with fail
    go_ret
    exact ⟨rfl, hb3⟩
end Go.Proofs.Ytjbdmhafjcoplaa

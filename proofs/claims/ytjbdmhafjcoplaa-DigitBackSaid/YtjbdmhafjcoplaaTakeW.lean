/- The walk of digit.Take: for every text it answers what 'take' says. -/
import Derived.Test.YtjbdmhafjcoplaaPutsW
import Derived.Test.YtjbdmhafjcoplaaTakeP
namespace Go.Proofs.Ytjbdmhafjcoplaa
open Go.RowKit

theorem andNot_more (c : Nat) (h : c < 256) : bits .andNot .u8 (c : Int) 128 = ((c % 128 : Nat) : Int) := by
  have : ∀ j : Fin 256, bits .andNot .u8 ((j.val : Nat) : Int) 128 = ((j.val % 128 : Nat) : Int) := by decide +kernel
  exact this ⟨c, h⟩
/-- the bits of one byte more -/
theorem or_digit (a c k : Nat) (P : Int) (hP : P = ((128 ^ k : Nat) : Int)) (hc : c < 256) (ha : a < 128 ^ k) (hb : a + c % 128 * 128 ^ k < 18446744073709551616) :
    bits .or .u64 (a : Int) (IntKind.u64.wrap (IntKind.u64.wrap (bits .andNot .u8 (c : Int) 128) * P)) = ((a + c % 128 * 128 ^ k : Nat) : Int) := by
  rw [andNot_more c hc, wrap_u64_of ((c % 128 : Nat) : Int) (by omega) (by omega), hP, ← Int.natCast_mul, wrap_u64_of ((c % 128 * 128 ^ k : Nat) : Int) (by omega) (by omega), u64_or_nat _ _ (by omega) (by omega)]
  have e2 : (128 : Nat) ^ k = 2 ^ (7 * k) := by rw [show (128 : Nat) = 2 ^ 7 from rfl, ← Nat.pow_mul]
  rw [e2] at ha ⊢
  rw [Nat.add_comm, Nat.mul_comm (c % 128), Nat.two_pow_add_eq_or_of_lt ha, Nat.or_comm]
theorem tuple3 {a a' b b' c c' : Int} (h : a = a') (h2 : b = b') (h3 : c = c') : Ending.returned (.tuple #[.int .u64 a, .int .i64 b, .int .i64 c]) = .returned (.tuple #[.int .u64 a', .int .i64 b', .int .i64 c']) := by rw [h, h2, h3]

set_option maxRecDepth 100000 in
set_option maxHeartbeats 400000 in
theorem take_any (s : ByteArray) (w : World) (hs : s.size ≤ maxLen) :
    Calls Try.prog 17 #[.string s] w fun e w' => e = .returned (.tuple #[.int .u64 (take s).1, .int .i64 (take s).2.1, .int .i64 (take s).2.2]) ∧ w = w' := by
  unfold maxLen at hs
  go_enter Try.func17, Try.ntmps17
  go_wp2
  go_loop [5, 8] (fun n i => ∃ k a : Nat, k ≤ 10 ∧ k ≤ s.size ∧ i = .int .i64 k ∧ n = .int .u64 a ∧ Goes s k a) (fun _ i => 10 - (intOf i).toNat)
  case atStart => exact ⟨0, 0, by omega, by omega, rfl, rfl, rfl, by decide⟩
  case round =>
    obtain ⟨k, a, hk, hks, rfl, rfl, hg⟩ := hrel
    by_cases h10 : k = 10
    · subst h10
      go_wp2
      go_ret3
      rw [goes_ten hg]; exact ⟨rfl, rfl⟩
    · by_cases hz : k = s.size
      · have hf := goes_short hg (by omega) hz
        have HF := Lib.hid hf
        clear hf hg
        go_wp2
        go_ret3
        rw [HF.out]; exact ⟨rfl, rfl⟩
      · have hlt : k < s.size := by omega
        have hb := s[k].toNat_lt
        have hgo := Lib.hid hg
        have ha := Lib.hid hg.2
        clear hg
        by_cases h9 : k = 9
        · subst h9
          by_cases hc : 1 < s[9].toNat
          · go_wp2
            go_ret3
            rw [goes_big hgo.out rfl hlt hc]; exact ⟨rfl, rfl⟩
          · have hv := Lib.hid (or_digit a s[9].toNat 9 9223372036854775808 (by decide) (by omega) ha.out (sum_nine a _ (by omega) ha.out))
            by_cases h0 : s[9].toNat = 0
            · go_wp2
              go_ret3
              rw [goes_nought hgo.out (by omega) hlt h0 (by omega)]; exact ⟨rfl, rfl⟩
            · go_wp2
              go_ret3
              rw [goes_done hgo.out (by omega) hlt (by omega) (by omega) (by omega)]; exact ⟨tuple3 hv.out rfl rfl, rfl⟩
        · have hv := Lib.hid (or_digit a s[k].toNat k (2 ^ (7 * k)) (by rw [show (128 : Nat) = 2 ^ 7 from rfl, ← Nat.pow_mul]; simp) (by omega) ha.out (sum_low a _ k (by omega) ha.out))
          by_cases hm : 128 ≤ s[k].toNat
          · go_wp2
            go_round
            case rel => exact ⟨k + 1, _, by omega, by omega, by go_num, congrArg (Value.int .u64) hv.out, goes_more hgo.out (by omega) hlt hm⟩
            case measure => simp [intOf]; omega
          · by_cases h0 : s[k].toNat = 0 ∧ 0 < k
            · obtain ⟨h0, hk0⟩ := h0
              go_wp2
              go_ret3
              rw [goes_nought hgo.out (by omega) hlt h0 hk0]; exact ⟨rfl, rfl⟩
            · by_cases h1 : s[k].toNat = 0
              all_goals
                go_wp2
                go_ret3
                rw [goes_done hgo.out (by omega) hlt (by omega) (by omega) h0]
                first
                  | exact ⟨tuple3 hv.out rfl rfl, rfl⟩
                  | exact ⟨tuple3 (by have := hv.out; rw [h1] at this ⊢; exact this) rfl rfl, rfl⟩
end Go.Proofs.Ytjbdmhafjcoplaa

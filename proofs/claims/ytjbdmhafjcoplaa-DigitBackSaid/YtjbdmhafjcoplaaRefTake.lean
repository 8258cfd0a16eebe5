/- The walk of the reference's Take: it answers what 'take' says, too. -/
import Derived.Test.YtjbdmhafjcoplaaTakeW
namespace Go.Proofs.Ytjbdmhafjcoplaa
open Go.RowKit

def beginsB (s t : ByteArray) : Bool := decide (t.size ≤ s.size) && (s.extract 0 t.size).toList == t.toList

set_option maxRecDepth 100000 in
set_option maxHeartbeats 400000 in
theorem begins_any (s t : ByteArray) (w : World) (_hs : s.size ≤ 9223372036854775807) (_ht : t.size ≤ 9223372036854775807) :
    Calls Try.prog 26 #[.string s, .string t] w fun e w' => e = .returned (.bool (beginsB s t)) ∧ w = w' := by
  by_cases h : t.size ≤ s.size
  · go_enter Try.func26, Try.ntmps26
    go_wp2_with fail
    go_ret
    exact ⟨by simp [beginsB, h], rfl⟩
  · go_enter Try.func26, Try.ntmps26
    go_wp2_with fail
    go_ret
    exact ⟨by simp [beginsB, h], rfl⟩

def pw (k : Nat) : Nat := 128 ^ k
def vs (s : ByteArray) (k : Nat) : Nat := valL (firsts s k)
/-- one byte's part, as far as 64 bits bear it; what dividing it again gives -/
def pd (c k : Nat) : Nat := c % 128 * 128 ^ k % 18446744073709551616
def pq (c k : Nat) : Nat := pd c k / 128 ^ k
theorem pw_pos (k : Nat) : ¬ pw k = 0 := by have : 0 < 128 ^ k := Nat.pow_pos (by omega); unfold pw; omega
theorem pd_wrap (c k : Nat) : IntKind.u64.wrap ((c : Int) % 128 * (pw k : Int)) = (pd c k : Int) := by
  rw [IntKind.wrap_u64]; unfold pd pw; simp
theorem pq_wrap (c k : Nat) : IntKind.u64.wrap ((pd c k : Int).tdiv (pw k : Int)) = (pq c k : Int) := by
  have h : pq c k ≤ pd c k := Nat.div_le_self _ _
  have h2 : pd c k < 18446744073709551616 := Nat.mod_lt _ (by omega)
  have : ((pd c k : Int).tdiv (pw k : Int)) = (pq c k : Int) := by
    rw [Int.tdiv_eq_ediv_of_nonneg (by omega)]; unfold pq pw; simp
  rw [this, wrap_u64_of _ (by omega) (by omega)]
theorem pq_wrap' (c k : Nat) : IntKind.u64.wrap ((pd c k : Int) / (pw k : Int)) = (pq c k : Int) := by
  rw [← pq_wrap, Int.tdiv_eq_ediv_of_nonneg (by omega)]
theorem pq_low (c k : Nat) (hk : k < 9) : pq c k = c % 128 := by
  have hp : 0 < 128 ^ k := Nat.pow_pos (by omega)
  have := sum_low 0 c k hk hp
  unfold pq pd
  rw [Nat.mod_eq_of_lt (by omega), Nat.mul_div_cancel _ hp]
theorem pq_nine (c : Nat) : pq c 9 = c % 2 := by
  have e : (128 : Nat) ^ 9 = 9223372036854775808 := by decide
  unfold pq pd
  rw [e]; omega
theorem vs_next (s : ByteArray) (k : Nat) (h : k < s.size) (hk : k ≤ 9) (h9 : k = 9 → s[k].toNat % 128 ≤ 1) : IntKind.u64.wrap ((vs s k : Int) + (pd s[k].toNat k : Int)) = (vs s (k + 1) : Int) := by
  have hl := valL_lt (firsts s k)
  rw [firsts_length s k (by omega)] at hl
  have hsum : valL (firsts s k) + s[k].toNat % 128 * 128 ^ k < 18446744073709551616 := by
    rcases Nat.lt_or_ge k 9 with h1 | h1
    · exact sum_low _ _ k h1 hl
    · obtain rfl : k = 9 := by omega
      have := sum_nine (valL (firsts s 9)) (s[9].toNat % 128) (h9 rfl) hl
      rwa [Nat.mod_mod] at this
  have e : pd s[k].toNat k = s[k].toNat % 128 * 128 ^ k := by unfold pd; rw [Nat.mod_eq_of_lt (by omega)]
  rw [e]
  unfold vs
  rw [valL_succ s k h, ← Int.natCast_add, wrap_u64_of _ (by omega) (by omega)]
theorem pw_next (k : Nat) (hk : k < 9) : IntKind.u64.wrap ((pw k : Int) * 128) = (pw (k + 1) : Int) := by
  have := pow_le_top k hk
  rw [wrap_u64_of _ (by omega) (by unfold pw; omega)]
  unfold pw; rw [Nat.pow_succ]; simp
theorem vs_lt (s : ByteArray) (k : Nat) (h : k < s.size) (hk : k ≤ 9) (h9 : k = 9 → s[k].toNat % 128 ≤ 1) : vs s (k + 1) < 18446744073709551616 := by
  have h1 := vs_next s k h hk h9
  rw [IntKind.wrap_u64] at h1
  omega

/-- the number so far is the whole one: its short form stands there, and nothing less -/
theorem ref_good (s : ByteArray) (k : Nat) (h : k < s.size) (hk : k ≤ 9) (hc : Conts (firsts s k)) (h1 : s[k].toNat < 128) (h0 : ¬ (s[k].toNat = 0 ∧ 0 < k)) :
    beginsB s (putS (vs s (k + 1))) = true ∧ (putS (vs s (k + 1))).size = k + 1 := by
  have hv : short (vs s (k + 1)) = firsts s (k + 1) := by
    unfold vs short
    rw [firsts_succ s k h]
    refine sh_valL 9 _ _ hc h1 ?_ (by rw [firsts_length s k (by omega)]; exact hk)
    rcases Nat.eq_zero_or_pos k with rfl | hp
    · exact Or.inr rfl
    · exact Or.inl (by omega)
  have hs : (putS (vs s (k + 1))).size = k + 1 := by rw [putS_size, hv, firsts_length s _ (by omega)]
  refine ⟨?_, hs⟩
  have he : s.extract 0 (k + 1) = putS (vs s (k + 1)) := by
    unfold putS; rw [hv]
    apply ByteArray.ext
    unfold firsts
    simp only [ByteArray.data_extract]
    apply Array.toList_inj.1
    simp
  unfold beginsB
  rw [hs, he]
  simp; omega
theorem ref_bad (s : ByteArray) (k : Nat) (h : k < s.size) (hc : s[k].toNat = 0) (h0 : 0 < k) : ¬ (putS (vs s (k + 1))).size = k + 1 := by
  have hl := valL_lt (firsts s k)
  rw [firsts_length s k (by omega)] at hl
  have := sh_length_lt 9 (vs s (k + 1)) k (by unfold vs; rw [valL_succ s k h, hc]; simpa using hl) h0
  rw [putS_size]
  unfold short
  omega


set_option maxRecDepth 100000 in
set_option maxHeartbeats 1000000 in
theorem refTake_any (s : ByteArray) (w : World) (hs : s.size ≤ maxLen) :
    Calls Try.prog 18 #[.string s] w fun e w' => e = .returned (.tuple #[.int .u64 (take s).1, .int .i64 (take s).2.1, .int .i64 (take s).2.2]) ∧ Below w.heap.size w w' := by
  unfold maxLen at hs
  go_enter Try.func18, Try.ntmps18
  go_wp2
  go_loopw [5, 6, 7] (fun n t i wr => ∃ k : Nat, k ≤ 9 ∧ k ≤ s.size ∧ i = .int .i64 k ∧ n = .int .u64 (vs s k) ∧ t = .int .u64 (pw k) ∧ Conts (firsts s k) ∧ Below w.heap.size w wr) (fun _ _ i _ => 10 - (intOf i).toNat)
  case atStart => exact ⟨0, by omega, by omega, rfl, rfl, rfl, fun b hb => by simp [firsts] at hb, Below.refl _ _⟩
  case round =>
    obtain ⟨k, hk, hks, rfl, rfl, rfl, hc, hb⟩ := hrel
    have hC := Lib.hid hc
    clear hc
    have hg := Lib.hid (goes_of s k hk hks hC.out)
    by_cases hz : k = s.size
    · have HZ := Lib.hid hz
      have hz2 : s.size ≤ k := by omega
      clear hz
      go_wp2_with fail
      go_ret3
      rw [goes_short hg.out (by omega) HZ.out]; exact ⟨rfl, hb⟩
    · have hlt : k < s.size := by omega
      have hb8 := s[k].toNat_lt
      have hp := pw_pos k
      have e1 := pd_wrap s[k].toNat k
      have e2 := pq_wrap s[k].toNat k
      have e2b := pq_wrap' s[k].toNat k
      by_cases hq : k = 9 ∧ ¬ s[k].toNat % 128 ≤ 1
      · have e3 : (((pq s[k].toNat k : Nat) : Int) != (s[k].toNat : Int) % 128) = true := by
          obtain ⟨rfl, h⟩ := hq
          rw [pq_nine, bne_iff_ne]; omega
        have HQ := Lib.hid hq
        clear hq
        go_wp2_with fail
        go_ret3
        rw [goes_big hg.out HQ.out.1 hlt (by have := HQ.out.2; omega)]; exact ⟨rfl, hb⟩
      · have e3 : (((pq s[k].toNat k : Nat) : Int) != (s[k].toNat : Int) % 128) = false := by
          rw [bne_eq_false_iff_eq]
          rcases Nat.lt_or_ge k 9 with h | h
          · rw [pq_low _ _ h]; simp
          · obtain rfl : k = 9 := by omega
            rw [pq_nine]; omega
        have h9 : k = 9 → s[k].toNat % 128 ≤ 1 := fun h => by omega
        have e4 := vs_next s k hlt hk h9
        have hvl := Lib.hid (vs_lt s k hlt hk h9)
        have H9 := Lib.hid h9
        clear hq h9
        by_cases hm : 128 ≤ s[k].toNat
        · by_cases hk9 : k = 9
          · have K9 := Lib.hid hk9
            have hk9' : 9 ≤ k := by omega
            clear hk9
            go_wp2_with fail
            go_ret3
            rw [goes_big hg.out K9.out hlt (by omega)]; exact ⟨rfl, hb⟩
          · have e5 := pw_next k (by omega)
            go_wp2_with fail
            go_roundw
            case rel => exact ⟨k + 1, by omega, by omega, by go_num, rfl, rfl, conts_succ hlt hC.out hm, hb⟩
            case measure => simp [intOf]; omega
        · have hps : (putS (vs s (k + 1))).size ≤ 10 := (short_length _).2
          by_cases h0 : s[k].toNat = 0 ∧ 0 < k
          · have H0 := Lib.hid h0
            clear h0
            have hbad := Lib.hid (ref_bad s k hlt H0.out.1 H0.out.2)
            go_wp2_with fail
            refine (refPut (vs s (k + 1)) hvl.out _).mono ?_
            rintro e w1 ⟨rfl, hb1⟩
            go_wp2_with fail
            refine (begins_any s (putS (vs s (k + 1))) _ (by omega) (by omega)).mono ?_
            rintro e w2 ⟨rfl, rfl⟩
            generalize beginsB s (putS (vs s (k + 1))) = bb
            cases bb
            · go_wp2_with fail
              go_ret3
              rw [goes_nought hg.out (by omega) hlt H0.out.1 H0.out.2]; exact ⟨rfl, below_then hb hb1⟩
            · have hne : (((putS (vs s (k + 1))).size : Int) != (k : Int) + 1) = true := by
                rw [bne_iff_ne]; have := hbad.out; omega
              go_wp2_with fail
              refine (refPut (vs s (k + 1)) hvl.out _).mono ?_
              rintro e w3 ⟨rfl, hb3⟩
              go_wp2_with fail
              go_ret3
              rw [goes_nought hg.out (by omega) hlt H0.out.1 H0.out.2]; exact ⟨rfl, below_then (below_then hb hb1) hb3⟩
          · have hgood := Lib.hid (ref_good s k hlt hk hC.out (by omega) h0)
            have H0 := Lib.hid h0
            clear h0
            go_wp2_with fail
            refine (refPut (vs s (k + 1)) hvl.out _).mono ?_
            rintro e w1 ⟨rfl, hb1⟩
            go_wp2_with fail
            refine (begins_any s (putS (vs s (k + 1))) _ (by omega) (by omega)).mono ?_
            rintro e w2 ⟨rfl, rfl⟩
            rw [hgood.out.1]
            have hne : (((putS (vs s (k + 1))).size : Int) != (k : Int) + 1) = false := by
              rw [bne_eq_false_iff_eq]; have := hgood.out.2; omega
            go_wp2_with fail
            refine (refPut (vs s (k + 1)) hvl.out _).mono ?_
            rintro e w3 ⟨rfl, hb3⟩
            go_wp2_with fail
            go_ret3
            rw [goes_done hg.out (by omega) hlt (by have := H9.out; omega) (by omega) H0.out]
            exact ⟨tuple3 (by unfold vs; rw [valL_succ s k hlt]) rfl rfl, below_then (below_then hb hb1) hb3⟩
end Go.Proofs.Ytjbdmhafjcoplaa

/- The walk of the law DigitBack: what was put is taken as it was, whatever stands behind it. -/
import Derived.Test.YtjbdmhafjcoplaaTextsW
import Derived.Test.YtjbdmhafjcoplaaEightsW
namespace Go.Proofs.Ytjbdmhafjcoplaa
open Go.RowKit

theorem append_toList (a b : ByteArray) : (a ++ b).data.toList = a.data.toList ++ b.data.toList := by simp [ByteArray.data_append]
theorem take_back (n : Nat) (hn : n < 18446744073709551616) (m : ByteArray) : take (putS n ++ m) = (n, (putS n).size, 0) := by
  rw [take_put n hn (putS n ++ m) m.data.toList (by rw [append_toList]; rfl), putS_size]
theorem eaF_back (n : Nat) (hn : n < 18446744073709551616) (m : ByteArray) (k : Nat) (hk : k ≤ 8) : eaF (eightS n ++ m) k = n / 2 ^ (64 - 8 * k) := by
  induction k with
  | zero => simp [eaF]; omega
  | succ k ih =>
    have hs : k < (eightS n ++ m).size := by simp [eightS_size]; omega
    have hb : (eightS n ++ m)[k].toNat = n / 2 ^ (56 - 8 * k) % 256 := by
      have e1 : (eightS n ++ m)[k] = (eightS n ++ m).data.toList[k]'(by rw [size_toList]; exact hs) := by simp; rfl
      have hl : k < (eight n).length := by simp [eight]; omega
      have e2 : (eightS n ++ m).data.toList[k]'(by rw [size_toList]; exact hs) = (eight n)[k] := by
        simp only [append_toList]
        exact List.getElem_append_left hl
      rw [e1, e2]
      simp [eight, eb]
    rw [eaF_succ _ k hs, ih (by omega), hb]
    rw [show 64 - 8 * k = (56 - 8 * k) + 8 from by omega, show 64 - 8 * (k + 1) = 56 - 8 * k from by omega, Nat.pow_add, ← Nat.div_div_eq_div_mul]
    omega
theorem takeE_back (n : Nat) (hn : n < 18446744073709551616) (m : ByteArray) : takeE (eightS n ++ m) = (n, 0) := by
  unfold takeE
  rw [if_neg (by simp [eightS_size]), eaF_back n hn m 8 (by omega)]
  simp
theorem takeT_back (t m : ByteArray) (ht : t.size ≤ 65536) : takeT (putS t.size ++ t ++ m) t.size = (t, (((putS t.size).size + t.size : Nat) : Int), 0) := by
  have h : take (putS t.size ++ t ++ m) = (t.size, (putS t.size).size, 0) := by
    rw [ByteArray.append_assoc]; exact take_back _ (by omega) _
  unfold takeT
  rw [h]
  have e : (putS t.size ++ t ++ m).extract (putS t.size).size ((putS t.size).size + t.size) = t := by
    apply ByteArray.ext
    apply Array.toList_inj.1
    simp only [ByteArray.data_extract, Array.toList_extract]
    have h1 : (putS t.size).data.toList.length = (putS t.size).size := size_toList _
    have h2 : t.data.toList.length = t.size := size_toList _
    rw [List.extract_eq_take_drop, append_toList, append_toList, List.append_assoc, ← h1, List.drop_left, ← h2]
    rw [Nat.add_sub_cancel_left, List.take_left]
  have hs : ¬ (putS t.size ++ t ++ m).size - (putS t.size).size < t.size := by simp; omega
  simp only [e, hs, ne_eq, not_true_eq_false, if_false]
  rw [if_neg (by omega)]

set_option maxRecDepth 100000 in
set_option maxHeartbeats 1000000 in
theorem digitBackWalk (a0 : Int) (a1 : ByteArray) (a2 : ByteArray) (w : World) (w0 : (Lit.int .u64 a0).wf = true) (_w1 : a1.size ≤ maxLen) (_w2 : a2.size ≤ maxLen) :
    Calls Try.prog 10 #[.int .u64 a0, .string a1, .string a2] w fun e w' => e = .returned (.bool true) ∧ Below w.heap.size w w' := by
  obtain ⟨n, rfl, hn⟩ := of_wf_u64 w0
  clear w0
  have HN := Lib.hid hn
  clear hn
  by_cases h1 : 65536 < a1.size
  · go_enter Try.func10, Try.ntmps10
    go_wp2_with fail
    refine (works_any _).mono ?_
    rintro e w1 ⟨rfl, hb1⟩
    go_wp2_with fail
    go_ret
    exact ⟨rfl, hb1⟩
  by_cases h2 : 65536 < a2.size
  · go_enter Try.func10, Try.ntmps10
    go_wp2_with fail
    refine (works_any _).mono ?_
    rintro e w1 ⟨rfl, hb1⟩
    go_wp2_with fail
    go_ret
    exact ⟨rfl, hb1⟩
  have hp := short_length n
  rw [← putS_size] at hp
  have hq := short_length a1.size
  rw [← putS_size] at hq
  have h8 := eightS_size n
  go_enter Try.func10, Try.ntmps10
  go_wp2_with fail
  refine (put_any n HN.out _).mono ?_
  rintro e w3 ⟨rfl, hb1⟩
  go_wp2_with fail
  refine (take_any (putS n ++ a2) _ (by unfold maxLen; simp; omega)).mono ?_
  rintro e w4 ⟨rfl, rfl⟩
  rw [take_back n HN.out a2]
  go_wp2_with fail
  refine (eight_any n _).mono ?_
  rintro e w5 ⟨rfl, hb2⟩
  go_wp2_with fail
  refine (takeE_any (eightS n ++ a2) _ (by unfold maxLen; simp; omega)).mono ?_
  rintro e w6 ⟨rfl, rfl⟩
  rw [takeE_back n HN.out a2]
  go_wp2_with fail
  refine (putText_any a1 _ (by omega)).mono ?_
  rintro e w7 ⟨rfl, hb3⟩
  go_wp2_with fail
  refine (takeT_any (putS a1.size ++ a1 ++ a2) a1.size _ (by unfold maxLen; simp; omega) (by omega)).mono ?_
  rintro e w8 ⟨rfl, rfl⟩
  rw [takeT_back a1 a2 (by omega)]
  go_wp2_with fail
  refine (putText_any a1 _ (by omega)).mono ?_
  rintro e w9 ⟨rfl, hb4⟩
  go_wp2_with fail
  go_ret
  exact ⟨rfl, below_then (below_then (below_then hb1 hb2) hb3) hb4⟩
end Go.Proofs.Ytjbdmhafjcoplaa

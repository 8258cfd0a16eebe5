/- The walk of the law DigitOne. -/
import Derived.Test.YtjbdmhafjcoplaaTakesW
import Derived.Deep.RegionHeld3
namespace Go.Proofs.Ytjbdmhafjcoplaa
open Go.RowKit

set_option maxRecDepth 100000 in
set_option maxHeartbeats 1000000 in
theorem digitOneWalk (a0 : ByteArray) (w : World) (w0 : a0.size ≤ maxLen) :
    Calls Try.prog 5 #[.string a0] w fun e w' => e = .returned (.bool true) ∧ Below w.heap.size w w' := by
  by_cases hl : 65536 < a0.size
  · go_enter Try.func5, Try.ntmps5
    go_wp2_with fail
    refine (works_any _).mono ?_
    rintro e w1 ⟨rfl, hb1⟩
    go_wp2_with fail
    go_ret
    exact ⟨rfl, hb1⟩
  · have T := Lib.hid (take_cases a0)
    go_enter Try.func5, Try.ntmps5
    go_wp2_with fail
    refine (take_any a0 _ w0).mono ?_
    rintro e w1 ⟨rfl, rfl⟩
    rcases T.out with h | h | ⟨n, k, h, ht⟩
    · rw [h]
      clear T h
      go_wp2_with fail
      refine (works_any _).mono ?_
      rintro e w1 ⟨rfl, hb1⟩
      go_wp2_with fail
      go_ret
      exact ⟨rfl, hb1⟩
    · rw [h]
      clear T h
      go_wp2_with fail
      refine (works_any _).mono ?_
      rintro e w1 ⟨rfl, hb1⟩
      go_wp2_with fail
      go_ret
      exact ⟨rfl, hb1⟩
    · rw [h]
      have hn := Lib.hid (took_lt ht)
      have hp := took_put ht
      have hk1 : 1 ≤ k := by obtain ⟨m, rfl, _⟩ := ht; omega
      have hk2 : k ≤ 10 := by obtain ⟨m, rfl, _⟩ := ht; omega
      have hk3 : k ≤ a0.size := by obtain ⟨m, rfl, _, ⟨_, _⟩, _⟩ := ht; omega
      have HT := Lib.hid ht
      clear T h ht
      have HE : Hid (putS n = a0.extract 0 k) := by
        show putS n = a0.extract 0 k
        unfold putS; rw [hp]
        apply ByteArray.ext
        unfold firsts
        simp only [ByteArray.data_extract]
        apply Array.toList_inj.1
        simp
      clear hp
      go_wp2_with fail
      have d1 : decide ((k : Int) < 1) = false := by simp; omega
      have d2 : decide (10 < (k : Int)) = false := by simp; omega
      have d3 : decide (a0.size < k) = false := by simp; omega
      have hbq : ((putS n).toList == (a0.extract 0 k).toList) = true := by rw [HE.out]; simp
      go_region_held3 (fun _ => True) (trivial) (first | (go_at_call 11; refine (put_any n hn.out _).mono ?_; rintro e w' ⟨rfl, hb⟩))
      clear d1 d2 d3
      go_wp2
      go_loopw [6, 7, 8, 9, 52] (fun _ _ _ _ i wr => ∃ j : Nat, j ≤ k ∧ i = .int .i64 j ∧ Below w.heap.size w wr) (fun _ _ _ _ i _ => k - (intOf i).toNat)
      case atStart => exact ⟨0, by omega, rfl, (Below.refl _ _).drew.trans hb⟩
      case round =>
        obtain ⟨j, hj, rfl, hb2⟩ := hrel
        by_cases hjk : j < k
        · have hbeg : Hid (take (a0.extract 0 j) = (0, 0, 10)) := take_begin HT.out hjk (by
            unfold firsts
            simp [ByteArray.data_extract])
          have hsz : (a0.extract 0 j).size ≤ maxLen := by
            unfold maxLen at *; simp; omega
          have hsz' := Lib.hid hsz
          clear hsz
          go_wp2_with fail
          refine (take_any (a0.extract 0 j) _ hsz'.out).mono ?_
          rintro e w1 ⟨rfl, rfl⟩
          rw [hbeg.out]
          go_wp2_with fail
          go_roundw
          case rel => exact ⟨j + 1, by omega, by go_num, hb2⟩
          case measure => simp [intOf]; omega
        · go_wp2_with fail
          go_ret
          exact ⟨rfl, hb2⟩
end Go.Proofs.Ytjbdmhafjcoplaa

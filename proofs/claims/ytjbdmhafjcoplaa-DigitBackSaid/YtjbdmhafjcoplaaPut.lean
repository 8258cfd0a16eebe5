/- The walks of digit.Put and digit.Size: they answer the short form and its length, for every number. -/
import Derived.Test.YtjbdmhafjcoplaaRows
import Derived.Test.YtjbdmhafjcoplaaPlain
import Derived.WalkKit
import Derived.WalkLawsBesides
import Derived.WalkSpells
import Derived.Lib.Hide
namespace Go.Proofs.Ytjbdmhafjcoplaa
open Go.RowKit

def putNums (n k : Nat) : List Int := (List.range k).map (fun i => ((rest n i % 128 + 128 : Nat) : Int)) ++ List.replicate (10 - k) 0
def putCells (n k : Nat) : Array Value := ((putNums n k).map (Value.int .u8)).toArray

theorem putNums_length (n k : Nat) (h : k ≤ 10) : (putNums n k).length = 10 := by simp [putNums]; omega
theorem putCells_at (n k : Nat) (h : k ≤ 9) : (putCells n k)[k]? = some (.int .u8 0) := by
  have hl := putNums_length n k (by omega)
  have : (putNums n k)[k]? = some 0 := by
    unfold putNums
    rw [List.getElem?_append_right (by simp), List.getElem?_replicate]
    simp; omega
  simp [putCells, this]
theorem putCells_zero (n : Nat) : putCells n 0 = #[.int .u8 0, .int .u8 0, .int .u8 0, .int .u8 0, .int .u8 0, .int .u8 0, .int .u8 0, .int .u8 0, .int .u8 0, .int .u8 0] := rfl
theorem putNums_set (n k : Nat) (h : k ≤ 9) : (putNums n k).set k ((rest n k % 128 + 128 : Nat) : Int) = putNums n (k + 1) := by
  have e : 10 - k = (10 - (k + 1)) + 1 := by omega
  unfold putNums
  rw [List.set_append_right _ _ (by simp), List.range_succ, e, List.replicate_succ]
  simp
theorem putCells_set (n k : Nat) (h : k ≤ 9) : (putCells n k).setIfInBounds k (.int .u8 ((rest n k % 128 + 128 : Nat) : Int)) = putCells n (k + 1) := by
  unfold putCells
  rw [← putNums_set n k h]
  simp [List.map_set]
theorem or_more (m : Nat) : bits .or .u8 ((m : Int) % 256) 128 = ((m % 128 + 128 : Nat) : Int) := by
  have e : (m : Int) % 256 = ((m % 256 : Nat) : Int) := by omega
  rw [e]
  have : ∀ j : Fin 256, bits .or .u8 ((j.val : Nat) : Int) 128 = ((j.val % 128 + 128 : Nat) : Int) := by decide +kernel
  have h := this ⟨m % 256, Nat.mod_lt _ (by omega)⟩
  rw [h]
  have : m % 256 % 128 = m % 128 := by omega
  rw [this]
theorem slice40 (a : Addr) (k : Nat) (h : k ≤ 9) (w : World) : (Instr.sliceAt 40 (.pointer (some a)) none (some (.int .i64 ((k : Int) + 1))) none).run Try.prog w = .ok (.slice (some a) (k + 1) 10) w := by
  rw [run_sliceAt_array_h w 40 a (by kernel_rfl) .i64 ((k : Int) + 1) (by omega) (by rw [show Try.prog.arrayLen 40 = 10 from by kernel_rfl]; omega)]
  simp [go_sem, slicedAt]
theorem conv_put (n k : Nat) (hk : k ≤ 9) (w : World) (hm : Many n k) (hl : rest n k < 128) :
    (convert 42 9 (.slice (some ⟨w.heap.size, 0, none⟩) (k + 1) 10)).run Try.prog (w.alloc (.cells ((putCells n k).setIfInBounds k (.int .u8 (rest n k))) 40)) =
      .ok (.string (putS n)) (w.alloc (.cells ((putCells n k).setIfInBounds k (.int .u8 (rest n k))) 40)) := by
  have hlen := putNums_length n k (by omega)
  rw [run_convert_bytes_arg _ 42 5 (by kernel_rfl) (by kernel_rfl) w.heap.size 0 (k + 1) 10 (((putNums n k).set k (rest n k : Int)).take (k + 1)) (by simp; omega) ?_ 9 (by kernel_rfl)]
  · have : strOfNums (((putNums n k).set k (rest n k : Int)).take (k + 1)) = putS n := by
      unfold strOfNums putS short
      rw [sh_many 9 n k hk hm hl]
      unfold putNums
      have e : 10 - k = (9 - k) + 1 := by omega
      rw [List.set_append_right _ _ (by simp), e, List.replicate_succ]
      simp [List.take_append]
      rw [List.take_of_length_le (by simp)]
      have he : ∀ m : Nat, UInt8.ofNat ((m : Int) % 128 + 128).toNat = UInt8.ofNat (m % 128) + 128 := fun m => by
        rw [show ((m : Int) % 128 + 128).toNat = m % 128 + 128 from by omega, UInt8.ofNat_add]; rfl
      simp [Function.comp_def, he]
    rw [this]
  · intro i hi
    have hi2 : i < ((putNums n k).set k (rest n k : Int)).length := by simp; omega
    have : (putCells n k).setIfInBounds k (.int .u8 (rest n k)) = (((putNums n k).set k (rest n k : Int)).map (Value.int .u8)).toArray := by
      simp [putCells, List.map_set]
    rw [this]
    rw [Nat.zero_add, World.cell?_alloc_new]
    rw [List.getElem?_toArray, List.getElem?_map]
    simp only [List.getD, List.getElem?_take, if_pos hi, List.getElem?_eq_getElem hi2, Option.map_some, Option.getD_some]

set_option maxRecDepth 100000 in
set_option maxHeartbeats 400000 in
theorem put_any (n : Nat) (h1 : n < 18446744073709551616) (w : World) :
    Calls Try.prog 11 #[.int .u64 n] w fun e w' => e = .returned (.string (putS n)) ∧ Below w.heap.size w w' := by
  have H1 := Lib.hid h1
  clear h1
  go_enter Try.func11, Try.ntmps11
  go_wp2
  go_loopw [0, 4] (fun m i wr => ∃ k : Nat, k ≤ 9 ∧ Many n k ∧ i = .int .i64 k ∧ m = .int .u64 (rest n k) ∧ wr = w.alloc (.cells (putCells n k) 40)) (fun _ i _ => 10 - (intOf i).toNat)
  case atStart => exact ⟨0, by omega, many_zero n, rfl, by simp [rest_zero], rfl⟩
  case round =>
    obtain ⟨k, hk, hm, rfl, rfl, rfl⟩ := hrel
    have hc := putCells_at n k hk
    have hsl := slice40 ⟨w.heap.size, 0, none⟩ k hk
    by_cases hl : rest n k < 128
    · have hcv := conv_put n k hk w hm hl
      go_wp2
      go_ret
      exact ⟨rfl, (Below.refl _ _).alloc (Nat.le_refl _) _⟩
    · have hlt : k < 9 := by
        rcases Nat.lt_or_ge k 9 with h | h
        · exact h
        · obtain rfl : k = 9 := by omega
          have := rest_nine n H1.out
          omega
      go_wp2
      go_roundw
      case rel =>
        refine ⟨k + 1, by omega, many_succ hm (by omega), by go_num, by rw [rest_succ]; go_num, ?_⟩
        rw [or_more, putCells_set n k hk]
      case measure => simp [intOf]; omega

set_option maxRecDepth 100000 in
set_option maxHeartbeats 400000 in
theorem size_any (n : Nat) (h1 : n < 18446744073709551616) (w : World) :
    Calls Try.prog 13 #[.int .u64 n] w fun e w' => e = .returned (.int .i64 (putS n).size) ∧ Below w.heap.size w w' := by
  have hs := short_length n
  rw [← putS_size] at hs
  go_enter Try.func13, Try.ntmps13
  go_wp2_with (go_at_call 11; refine (put_any n h1 _).mono ?_; rintro e w' ⟨rfl, hb⟩)
  go_ret
  exact ⟨rfl, hb⟩
end Go.Proofs.Ytjbdmhafjcoplaa

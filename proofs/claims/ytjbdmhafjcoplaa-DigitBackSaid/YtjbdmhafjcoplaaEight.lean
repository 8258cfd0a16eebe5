/- The walks of digit.Eight and of the reference's Eight: both answer the eight bytes. -/
import Derived.Test.YtjbdmhafjcoplaaRefPut
namespace Go.Proofs.Ytjbdmhafjcoplaa
open Go.RowKit

def eNums (n k : Nat) : List Int := (List.range k).map (fun i => ((eb n i : Nat) : Int)) ++ List.replicate (8 - k) 0
def eCells (n k : Nat) : Array Value := ((eNums n k).map (Value.int .u8)).toArray
theorem eNums_length (n k : Nat) (h : k ≤ 8) : (eNums n k).length = 8 := by simp [eNums]; omega
theorem eCells_at (n k : Nat) (h : k < 8) : (eCells n k)[k]? = some (.int .u8 0) := by
  have : (eNums n k)[k]? = some 0 := by
    unfold eNums
    rw [List.getElem?_append_right (by simp), List.getElem?_replicate]
    simp; omega
  simp [eCells, this]
theorem eCells_set (n k : Nat) (h : k < 8) : (eCells n k).setIfInBounds k (.int .u8 ((eb n k : Nat) : Int)) = eCells n (k + 1) := by
  have e : 8 - k = (8 - (k + 1)) + 1 := by omega
  have : (eNums n k).set k ((eb n k : Nat) : Int) = eNums n (k + 1) := by
    unfold eNums
    rw [List.set_append_right _ _ (by simp), List.range_succ, e, List.replicate_succ]
    simp
  unfold eCells
  rw [← this]
  simp [List.map_set]
theorem eNums_eight (n : Nat) : eNums n 8 = (List.range 8).map (fun i => ((eb n i : Nat) : Int)) := by simp [eNums]
theorem conv_eight (n : Nat) (w : World) :
    (convert 42 9 (.slice (some ⟨w.heap.size, 0, none⟩) 8 8)).run Try.prog (w.alloc (.cells (eCells n 8) 43)) = .ok (.string (eightS n)) (w.alloc (.cells (eCells n 8) 43)) := by
  rw [run_convert_bytes_arg _ 42 5 (by kernel_rfl) (by kernel_rfl) w.heap.size 0 8 8 (eNums n 8) (eNums_length n 8 (by omega)) ?_ 9 (by kernel_rfl)]
  · have : strOfNums (eNums n 8) = eightS n := by
      unfold strOfNums eightS eight
      rw [eNums_eight]
      simp [Function.comp_def]
    rw [this]
  · intro i hi
    have hi2 : i < (eNums n 8).length := by rw [eNums_length n 8 (by omega)]; exact hi
    rw [Nat.zero_add, World.cell?_alloc_new]
    unfold eCells
    rw [List.getElem?_toArray, List.getElem?_map]
    simp only [List.getD, List.getElem?_eq_getElem hi2, Option.map_some, Option.getD_some]

set_option maxRecDepth 100000 in
set_option maxHeartbeats 400000 in
theorem eight_any (n : Nat) (w : World) :
    Calls Try.prog 14 #[.int .u64 n] w fun e w' => e = .returned (.string (eightS n)) ∧ Below w.heap.size w w' := by
  go_enter Try.func14, Try.ntmps14
  go_wp2
  go_loopw [4, 5] (fun _ i wr => ∃ k : Nat, k ≤ 8 ∧ i = .int .i64 k ∧ wr = w.alloc (.cells (eCells n k) 43)) (fun _ i _ => 8 - (intOf i).toNat)
  case atStart => exact ⟨0, by omega, rfl, rfl⟩
  case round =>
    obtain ⟨k, hk, rfl, rfl⟩ := hrel
    by_cases hl : k < 8
    · have hc := eCells_at n k hl
      go_wp2
      go_roundw
      case rel =>
        refine ⟨k + 1, by omega, by go_num, ?_⟩
        rw [show ((n : Int) / 2 ^ (56 - 8 * k) % 256) = ((eb n k : Nat) : Int) from by simp [eb], eCells_set n k hl]
      case measure => simp [intOf]; omega
    · obtain rfl : k = 8 := by omega
      have hcv := conv_eight n w
      go_wp2
      go_ret
      exact ⟨rfl, (Below.refl _ _).alloc (Nat.le_refl _) _⟩

def lowS (n k : Nat) : ByteArray := ⟨(lows n k).toArray⟩
theorem lowS_size (n k : Nat) : (lowS n k).size = k := by simp [lowS, ByteArray.size, lows]
theorem lowS_zero (n : Nat) : lowS n 0 = ⟨#[]⟩ := rfl
theorem lowS_succ (n k : Nat) (h : k < 8) : byteS (((n / 256 ^ k % 256 : Nat)) : Int) ++ lowS n k = lowS n (k + 1) := by
  unfold lowS byteS
  rw [lows_succ n k h, Int.toNat_natCast]
  apply ByteArray.ext
  simp [ByteArray.data_append]
theorem lowS_eight (n : Nat) : lowS n 8 = eightS n := by unfold lowS eightS; rw [lows_eight]
/-- what is left of a number behind k steps of eight bits -/
def rest8 (n k : Nat) : Nat := n / 256 ^ k
theorem rest8_zero (n : Nat) : rest8 n 0 = n := by simp [rest8]
theorem rest8_le (n k : Nat) : rest8 n k ≤ n := Nat.div_le_self _ _
theorem wrap_u64_of (x : Int) (h0 : 0 ≤ x) (h1 : x < 18446744073709551616) : IntKind.u64.wrap x = x := by
  simp [IntKind.wrap, IntKind.bits, IntKind.signed]; omega
theorem rest8_succ (n k : Nat) : rest8 n (k + 1) = rest8 n k / 256 := by
  unfold rest8; rw [Nat.pow_succ, Nat.div_div_eq_div_mul]

set_option maxRecDepth 100000 in
set_option maxHeartbeats 400000 in
theorem refEight_any (n : Nat) (h1 : n < 18446744073709551616) (w : World) :
    Calls Try.prog 15 #[.int .u64 n] w fun e w' => e = .returned (.string (eightS n)) ∧ Below w.heap.size w w' := by
  have hcv := conv1
  have hbs := byteS_size
  have H1 := Lib.hid h1
  clear h1
  go_enter Try.func15, Try.ntmps15
  go_wp2
  go_loopw [0, 3, 4] (fun m s i wr => ∃ k : Nat, k ≤ 8 ∧ m = .int .u64 (rest8 n k) ∧ s = .string (lowS n k) ∧ i = .int .i64 k ∧ Below w.heap.size w wr) (fun _ _ i _ => 8 - (intOf i).toNat)
  case atStart => exact ⟨0, by omega, by rw [rest8_zero], rfl, rfl, Below.refl _ _⟩
  case round =>
    obtain ⟨k, hk, rfl, rfl, rfl, hb⟩ := hrel
    have hs := lowS_size n k
    by_cases hl : k < 8
    · go_wp2
      go_roundw
      case rel =>
        refine ⟨k + 1, by omega, ?_, ?_, by go_num, hb.alloc hb.size _⟩
        · rw [rest8_succ, wrap_u64_of _ (by omega) (by have := rest8_le n k; have := H1.out; omega)]; go_num
        · rw [← lowS_succ n k hl]
          show Value.string (byteS ((rest8 n k : Nat) % 256) ++ lowS n k) = _
          rw [show ((rest8 n k : Nat) : Int) % 256 = ((n / 256 ^ k % 256 : Nat) : Int) from by simp [rest8]]
      case measure => simp [intOf]; omega
    · obtain rfl : k = 8 := by omega
      go_wp2
      go_ret
      exact ⟨by rw [← lowS_eight]; rfl, hb⟩
end Go.Proofs.Ytjbdmhafjcoplaa

/- The walk of the reference's by: digits times one of 32 bits. -/
import Derived.Test.YtnohghdkegfcaaaRPlusW
namespace Go.Proofs.Ytnohghdkegfcaaa
open Go.RowKit

/-- the digits so far, zeros behind -/
def upTo (f : Nat → Nat) (k j : Nat) : Nat := if j < k then f j else 0
theorem upTo_set (f : Nat → Nat) (k n : Nat) : (cellsF (upTo f k) n).set k (.int .u64 (f k)) = cellsF (upTo f (k + 1)) n := by
  apply List.ext_getElem?
  intro j
  by_cases hj : j < n
  · by_cases hjk : k = j
    · subst hjk
      rw [List.getElem?_set_self (by simp [cellsF]; omega), cellsF_get _ hj]
      simp [upTo]
    · rw [List.getElem?_set_ne hjk, cellsF_get _ hj, cellsF_get _ hj]
      unfold upTo
      by_cases h1 : j < k
      · rw [if_pos h1, if_pos (by omega)]
      · rw [if_neg h1, if_neg (by omega)]
  · rw [List.getElem?_eq_none (by simp [cellsF]; omega), List.getElem?_eq_none (by simp [cellsF]; omega)]
theorem mul_small {f : Nat → Nat} {n : Nat} (hf : ∀ i, f i < 4294967296) (hn : n < 4294967296) (i : Nat) : f i * n ≤ 18446744065119617025 := by
  have : f i * n ≤ 4294967295 * 4294967295 := Nat.mul_le_mul (by have := hf i; omega) (by omega)
  omega
theorem cO_mul_lt {f : Nat → Nat} {n : Nat} (hf : ∀ i, f i < 4294967296) (hn : n < 4294967296) (k : Nat) : cO (fun i => f i * n) k < 4294967296 := by
  induction k with
  | zero => unfold cO; omega
  | succ k ih => unfold cO; have := mul_small hf hn k; omega
theorem cR_mul_lt {f : Nat → Nat} {n : Nat} (hf : ∀ i, f i < 4294967296) (hn : n < 4294967296) (m i : Nat) : cR (fun i => f i * n) m i < 4294967296 := by
  unfold cR; split
  · exact Nat.mod_lt _ (by omega)
  · exact cO_mul_lt hf hn m
theorem valF_mul (f : Nat → Nat) (n k : Nat) : valF (fun i => f i * n) k = valF f k * n := by
  induction k with
  | zero => simp [valF]
  | succ k ih => rw [valF, valF, ih, Nat.add_mul, Nat.mul_right_comm]

set_option maxRecDepth 100000 in
set_option maxHeartbeats 4000000 in
theorem by_any (g cap n : Nat) (f : Nat → Nat) (hf : ∀ i, f i < 4294967296) (hn : n < 4294967296) (w : World) (hc : At w g 4 f) (hg : g < w.heap.size) :
    Calls Try.prog 33 #[.slice (some ⟨g, 0, none⟩) 4 cap, .int .u64 n] w fun e w' => ∃ g' cap', e = .returned (.slice (some ⟨g', 0, none⟩) 5 cap') ∧ At w' g' 5 (cR (fun i => f i * n) 4) ∧ w.heap.size ≤ g' ∧ g' < w'.heap.size ∧ Below w.heap.size w w' := by
  have HC := Lib.hid hc
  have HF := Lib.hid hf
  have HN := Lib.hid hn
  clear hc hf hn
  obtain ⟨i0, hi, hz0, hz1, hz2⟩ := info_parts info22
  go_enter Try.func33, Try.ntmps33
  go_wp2_with fail
  go_loopw [5, 6] (fun v i wr => ∃ k : Nat, k ≤ 4 ∧ i = .int .i64 k ∧ wr.ownsRow w.heap.size 22 1 v k (cellsF (fun _ => 0) k) ∧ Below w.heap.size w wr)
    (fun _ i _ => 4 - (intOf i).toNat)
  case atStart => exact ⟨0, by omega, rfl, World.ownsRow_nil _ _ _ _, Below.refl _ _⟩
  case round =>
    obtain ⟨k, hk, rfl, hown, hbw⟩ := hrel
    have hsz := hbw.size
    by_cases hkl : k < 4
    · go_wp2_with (first
        | (at_builtin; refine wpList_append_own _ rfl _ _ 49 rfl w.heap.size 22 i0 (.int .u64 0) 1 8 Try.underlying49 hi hz0 hz1 hz2 rfl (by decide) _ _ _ rfl (hown.alloc _) ⟨wr.heap.size, 0, none⟩ 1 1 [.int .u64 (0 : Nat)] rfl rfl ?c1 ?c2 ?c3 ?c4 ?c5 ?_))
      case c1 =>
        intro j u hj
        match j, hj with
        | 0, hj => simp at hj; subst hj; simp [Addr.add]
      case c2 => intro u hu; simp at hu; subst hu; rfl
      case c3 => unfold maxLen; omega
      case c4 => omega
      case c5 => simp; omega
      · intro v' w1 hown' hgrow _
        have hb2 : Below w.heap.size w w1 := (hbw.alloc hsz _).grown hgrow (by simp; omega) (own_base hown)
        replace hown' : w1.ownsRow w.heap.size 22 1 v' (k + 1) (cellsF (fun _ => 0) (k + 1)) := by rw [← cellsF_succ]; exact hown'
        clear hgrow hown hbw
        go_wp2_with fail
        go_roundw
        case rel => exact ⟨k + 1, by omega, by go_num, hown', hb2⟩
        case measure => simp [intOf]; omega
    · obtain rfl : k = 4 := by omega
      obtain ⟨gd, cd, rfl, hBd, hld⟩ := hown.form (by omega)
      have hown0 : wr.ownsRow w.heap.size 22 1 (.slice (some ⟨gd, 0, none⟩) 4 cd) 4 (cellsF (upTo (cD fun i => f i * n) 0) 4) := hown
      clear hown
      go_wp2_with fail
      go_loopw [7, 8] (fun o i ws => ∃ k : Nat, k ≤ 4 ∧ i = .int .i64 k ∧ o = .int .u64 (cO (fun i => f i * n) k) ∧ ws.ownsRow w.heap.size 22 1 (.slice (some ⟨gd, 0, none⟩) 4 cd) 4 (cellsF (upTo (cD fun i => f i * n) k) 4) ∧ Below w.heap.size w ws)
        (fun _ i _ => 4 - (intOf i).toNat)
      case atStart => exact ⟨0, by omega, rfl, rfl, hown0, hbw⟩
      case round =>
        clear hown0 hbw
        obtain ⟨k, hk2, rfl, rfl, hown, hbs⟩ := hrel
        have hss := hbs.size
        obtain ⟨m, hm⟩ : ∃ m, m = f k * n + cO (fun i => f i * n) k := ⟨_, rfl⟩
        have HM : Hid (m = f k * n + cO (fun i => f i * n) k) := hm
        clear hm
        have hO := Lib.hid (cO_mul_lt HF.out HN.out k)
        have hP := Lib.hid (mul_small HF.out HN.out k)
        have e0 : IntKind.u64.wrap ((f k : Int) * (n : Int)) = ((f k * n : Nat) : Int) := by
          have := hP.out
          rw [M.mulN, wrap_u64_of ((f k * n : Nat) : Int) (by omega) (by omega)]
        have e1 : IntKind.u64.wrap ((f k : Int) * (n : Int) + (cO (fun i => f i * n) k : Int)) = (m : Int) := by
          have := hP.out; have := hO.out
          rw [HM.out, M.mulN, wrap_u64_of (((f k * n : Nat) : Int) + (cO (fun i => f i * n) k : Int)) (by omega) (by omega)]; omega
        have e1' : IntKind.u64.wrap (((f k * n : Nat) : Int) + (cO (fun i => f i * n) k : Int)) = (m : Int) := by rw [← M.mulN]; exact e1
        have e2 : ((m : Int).tmod 4294967296) = (cD (fun i => f i * n) k : Int) := by rw [Int.tmod_eq_emod_of_nonneg (by omega), HM.out, cD]; omega
        have e2' : ((m : Int) % 4294967296) = (cD (fun i => f i * n) k : Int) := by rw [HM.out, cD]; omega
        have e3 : ((m : Int).tdiv 4294967296) = (cO (fun i => f i * n) (k + 1) : Int) := by rw [Int.tdiv_eq_ediv_of_nonneg (by omega), HM.out, cO]; omega
        have e3' : ((m : Int) / 4294967296) = (cO (fun i => f i * n) (k + 1) : Int) := by rw [HM.out, cO]; omega
        have e4 : IntKind.u64.wrap (cO (fun i => f i * n) (k + 1) : Int) = (cO (fun i => f i * n) (k + 1) : Int) := wrap_u64_of (cO (fun i => f i * n) (k + 1) : Int) (by omega) (by have := cO_mul_lt HF.out HN.out (k + 1); omega)
        by_cases hkl2 : k < 4
        · have hck : wr.cell? ⟨g, k, none⟩ = some (.int .u64 (f k)) := by rw [hbs.cell (show g < w.heap.size from hg)]; exact HC.out k hkl2
          have hco := at_owned hown k hkl2
          have hfo := hown.frozenAt k
          go_wp2_with fail
          go_roundw
          case rel =>
            refine ⟨k + 1, by omega, by go_num, rfl, ?_, hbs.setCell (by simpa using hBd) _⟩
            rw [← upTo_set]
            exact (hown.stored k (.int .u64 (cD (fun i => f i * n) k))).1
          case measure => simp [intOf]; omega
        · obtain rfl : k = 4 := by omega
          go_wp2_with (first
            | (at_builtin; refine wpList_append_lies _ rfl _ _ 49 rfl w.heap.size 22 i0 (.int .u64 0) 1 8 Try.underlying49 hi hz0 hz1 hz2 rfl (by decide) _ _ _ rfl (hown.alloc _) ⟨wr.heap.size, 0, none⟩ 1 1 [.int .u64 (cO (fun i => f i * n) 4)] rfl rfl ?d1 ?d2 (by omega) ?d3 ?d4 ?d5 _ rfl ?_))
          case d1 =>
            intro j u hj
            match j, hj with
            | 0, hj => simp at hj; subst hj; simp [Addr.add]
          case d2 => intro u hu; simp at hu; subst hu; rfl
          case d3 => unfold maxLen; omega
          case d4 => omega
          case d5 => simp; omega
          · intro g' cap' w1 hown' hgrow hat hlt
            have hb2 : Below w.heap.size w w1 := (hbs.alloc hss _).grown hgrow (by simp; omega) (own_base hown)
            replace hown' : w1.ownsRow w.heap.size 22 1 (.slice (some ⟨g', 0, none⟩) 5 cap') 5 (cellsF (cR (fun i => f i * n) 4) 5) := by
              rw [← cR_cells, cellsF_congr (f := cD fun i => f i * n) (g := upTo (cD fun i => f i * n) 4) (fun i hi => (if_pos hi).symm)]
              exact hown'
            have hB := own_at hown'
            clear hgrow hown hbs hat
            go_wp2_with fail
            go_ret
            exact ⟨g', cap', rfl, at_owned hown', hB, hlt, hb2⟩
end Go.Proofs.Ytnohghdkegfcaaa

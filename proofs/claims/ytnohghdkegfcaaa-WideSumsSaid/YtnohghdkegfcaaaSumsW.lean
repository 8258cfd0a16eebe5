/- The walk of the law WideSums. -/
import Derived.Test.YtnohghdkegfcaaaRSumW
namespace Go.Proofs.Ytnohghdkegfcaaa
open Go.RowKit

/-- a slice's numbers lie where it points -/
def IsRow (k : IntKind) (w : World) (a : Option Addr) (len cap : Nat) (zs : List Int) : Prop :=
  (a = none ∧ len = 0 ∧ cap = 0 ∧ zs = []) ∨
  ∃ x, a = some x ∧ len ≤ cap ∧ cap ≤ maxLen ∧ zs.length = cap ∧ (∀ i, i < zs.length → w.cell? (x.add i) = some (.int k (zs.getD i 0))) ∧ ∀ n ∈ zs, (Lit.int k n).wf = true
theorem row_view {w : World} {a : Option Addr} {len cap : Nat} {zs : List Int} (h : IsRow .u64 w a len cap zs) :
    (a = none ∧ len = 0 ∧ cap = 0) ∨ ∃ x, ∃ f : Nat → Nat, a = some x ∧ len ≤ maxLen ∧ (∀ i, i < len → w.cell? (x.add i) = some (.int .u64 (f i))) ∧ ∀ i, f i < 18446744073709551616 := by
  rcases h with ⟨h1, h2, h3, _⟩ | ⟨x, h1, h2, h3, h4, h5, h6⟩
  · exact .inl ⟨h1, h2, h3⟩
  · right
    refine ⟨x, fun i => (zs.getD i 0).toNat, h1, by omega, fun i hi => ?_, fun i => ?_⟩
    · rw [h5 i (by omega)]
      have hm : zs.getD i 0 ∈ zs := by rw [List.getD_eq_getElem?_getD, List.getElem?_eq_getElem (by omega)]; exact List.getElem_mem _
      obtain ⟨m, hm1, _⟩ := of_wf_u64 (h6 _ hm)
      show _ = some (Value.int .u64 ((zs.getD i 0).toNat : Int))
      rw [hm1]; rfl
    · by_cases hi : i < zs.length
      · have hm : zs.getD i 0 ∈ zs := by rw [List.getD_eq_getElem?_getD, List.getElem?_eq_getElem (by omega)]; exact List.getElem_mem _
        obtain ⟨m, hm1, hm2⟩ := of_wf_u64 (h6 _ hm)
        show (zs.getD i 0).toNat < _
        rw [hm1]; exact hm2
      · show (zs.getD i 0).toNat < _
        rw [List.getD_eq_getElem?_getD, List.getElem?_eq_none (by omega)]; decide
/-- what both sums owe: the same answer -/
theorem sums_both {w : World} {a : Option Addr} {len cap : Nat} {zs : List Int} (h : IsRow .u64 w a len cap zs) (hl : len ≤ 4096) :
    ∃ s e : Nat, ∀ w1, Below w.heap.size w w1 →
      (Calls Try.prog 21 #[.slice a len cap] w1 fun z w' => z = .returned (.tuple #[.int .u64 s, .int .i64 e]) ∧ w1 = w') ∧
      (Calls Try.prog 22 #[.slice a len cap] w1 fun z w' => z = .returned (.tuple #[.int .u64 s, .int .i64 e]) ∧ Below w1.heap.size w1 w') := by
  rcases row_view h with ⟨rfl, rfl, rfl⟩ | ⟨x, f, rfl, _, hc, hf⟩
  · exact ⟨_, _, fun w1 _ => ⟨sum_none (fun _ => 0) w1, rsum_none (fun _ => 0) w1⟩⟩
  · refine ⟨(sumR f len).1, (sumR f len).2, fun w1 hb => ?_⟩
    have hc1 : ∀ i, i < len → w1.cell? (x.add i) = some (.int .u64 (f i)) := fun i hi => keep_cell hb (hc i hi)
    exact ⟨sum_some x len cap f hl w1 hc1 hf, rsum_some x len cap f hl w1 hc1 hf⟩

set_option maxRecDepth 100000 in
set_option maxHeartbeats 2000000 in
theorem wideSums_any (a b : Nat) (ha : a < 18446744073709551616) (hb : b < 18446744073709551616) (ao : Option Addr) (len cap : Nat) (zs : List Int) (w : World) (h : IsRow .u64 w ao len cap zs) :
    Calls Try.prog 5 #[.int .u64 a, .int .u64 b, .slice ao len cap] w fun e w' => e = .returned (.bool true) ∧ Below w.heap.size w w' := by
  have HA := Lib.hid ha
  have HB := Lib.hid hb
  clear ha hb
  by_cases hl : (4096 : Int) < (len : Int)
  · clear h
    go_enter Try.func5, Try.ntmps5
    go_wp2_with fail
    refine (works_any _).mono ?_
    rintro e w1 ⟨rfl, hb1⟩
    go_wp2_with fail
    go_ret
    exact ⟨rfl, hb1⟩
  · obtain ⟨s, t, hs⟩ := sums_both h (by omega)
    have HS := Lib.hid hs
    clear hs h
    go_enter Try.func5, Try.ntmps5
    go_wp2_with fail
    refine (add_any a b HA.out HB.out _).mono ?_
    rintro e w1 ⟨rfl, rfl⟩
    go_wp2_with fail
    refine (radd_any a b HA.out HB.out _).mono ?_
    rintro e w1 ⟨rfl, hb1⟩
    go_wp2_with fail
    refine (HS.out w1 hb1).1.mono ?_
    rintro e w2 ⟨rfl, rfl⟩
    go_wp2_with fail
    refine (HS.out w1 hb1).2.mono ?_
    rintro e w2 ⟨rfl, hb2⟩
    have s2 := below_then hb1 hb2
    go_wp2_with fail
    refine (sub_any a b HA.out _).mono ?_
    rintro e w3 ⟨rfl, rfl⟩
    by_cases hab : a < b
    · have HV : subR a b = (0, 5) := if_pos hab
      rw [HV]
      clear HV
      go_wp2_with fail
      go_ret
      exact ⟨rfl, s2⟩
    · have HV : subR a b = (a - b, 0) := if_neg hab
      have ew : IntKind.u64.wrap ((a : Int) - (b : Int)) = ((a - b : Nat) : Int) := by
        have := HA.out
        rw [wrap_u64_of ((a : Int) - (b : Int)) (by omega) (by omega)]; omega
      rw [HV]
      clear HV
      go_wp2_with fail
      refine (works_any _).mono ?_
      rintro e w4 ⟨rfl, hb4⟩
      go_wp2_with fail
      go_ret
      exact ⟨rfl, below_then s2 hb4⟩
theorem wideSumsWalk (a0 : Int) (a1 : Int) (a2 : Option Addr) (len2 cap2 : Nat) (z2 : List Int) (w : World) (w0 : (Lit.int .u64 a0).wf = true) (w1 : (Lit.int .u64 a1).wf = true) (w2 : IsRow .u64 w a2 len2 cap2 z2) :
    Calls Try.prog 5 #[.int .u64 a0, .int .u64 a1, .slice a2 len2 cap2] w fun e w' => e = .returned (.bool true) ∧ Below w.heap.size w w'
 := by
  obtain ⟨m, rfl, hm⟩ := of_wf_u64 w0
  obtain ⟨n, rfl, hn⟩ := of_wf_u64 w1
  exact wideSums_any m n hm hn _ _ _ _ w w2
end Go.Proofs.Ytnohghdkegfcaaa

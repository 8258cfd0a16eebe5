/- The walks of the reference's of, carry, wide. -/
import Derived.Test.YtnohghdkegfcaaaDigP
import Derived.Deep.AppendLies
import Derived.Deep.RegionHeld3
import Derived.StillTailTactics
import Derived.WalkSmall
namespace Go.Proofs.Ytnohghdkegfcaaa
open Go.RowKit

/-- block g holds a row's numbers -/
def At (w : World) (g n : Nat) (f : Nat → Nat) : Prop := ∀ i, i < n → w.cell? ⟨g, i, none⟩ = some (.int .u64 (f i))
theorem at_below {w w' : World} {B g n : Nat} {f : Nat → Nat} (h : At w g n f) (hb : Below B w w') (hg : g < B) : At w' g n f := fun i hi => by rw [hb.cell (show g < B from hg), h i hi]

set_option maxRecDepth 100000 in
set_option maxHeartbeats 1000000 in
theorem of_any (A : Nat) (hA : A < W128) (w : World) :
    Calls Try.prog 30 #[wv A] w fun e w' => e = .returned (.slice (some ⟨w.heap.size + 1, 0, none⟩) 4 4) ∧ At w' (w.heap.size + 1) 4 (dig A) ∧ w.heap.size + 1 < w'.heap.size ∧ Below w.heap.size w w' := by
  have HA := Lib.hid hA
  clear hA
  have h0 := dig0 A
  have h1 := dig1 A
  have h2 := dig2 A
  have h3 := dig3 HA.out
  have hl := loW_lt A
  have hh := hiW_lt HA.out
  have e0 : ((loW A : Int).tmod 4294967296) = (dig A 0 : Int) := by rw [Int.tmod_eq_emod_of_nonneg (by omega)]; omega
  have e1 : ((loW A : Int).tdiv 4294967296) = (dig A 1 : Int) := by rw [Int.tdiv_eq_ediv_of_nonneg (by omega)]; omega
  have e2 : ((hiW A : Int).tmod 4294967296) = (dig A 2 : Int) := by rw [Int.tmod_eq_emod_of_nonneg (by omega)]; omega
  have e3 : ((hiW A : Int).tdiv 4294967296) = (dig A 3 : Int) := by rw [Int.tdiv_eq_ediv_of_nonneg (by omega)]; omega
  have g0 : ((loW A : Int) % 4294967296) = (dig A 0 : Int) := by omega
  have g1 : ((loW A : Int) / 4294967296) = (dig A 1 : Int) := by omega
  have g2 : ((hiW A : Int) % 4294967296) = (dig A 2 : Int) := by omega
  have g3 : ((hiW A : Int) / 4294967296) = (dig A 3 : Int) := by omega
  have w1 : IntKind.u64.wrap (dig A 1 : Int) = (dig A 1 : Int) := wrap_u64_of (dig A 1 : Int) (by omega) (by have := dig_lt A 1; omega)
  have w3 : IntKind.u64.wrap (dig A 3 : Int) = (dig A 3 : Int) := wrap_u64_of (dig A 3 : Int) (by omega) (by have := dig_lt A 3; omega)
  clear h0 h1 h2 h3 hl hh
  go_enter Try.func30, Try.ntmps30
  go_wp2_with fail
  go_ret
  refine ⟨rfl, fun i hi => ?_, by simp, ((Below.refl _ _).alloc (Nat.le_refl _) _).alloc (by simp) _⟩
  match i, hi with
  | 0, _ => simp
  | 1, _ => simp
  | 2, _ => simp
  | 3, _ => simp

set_option maxRecDepth 100000 in
set_option maxHeartbeats 1000000 in
theorem wide_any (g n cap : Nat) (f : Nat → Nat) (hn : 4 ≤ n) (hn7 : n ≤ 7) (hf : ∀ i, f i < 4294967296) (w : World) (hc : At w g n f) (hg : g < w.heap.size) :
    Calls Try.prog 31 #[.slice (some ⟨g, 0, none⟩) n cap] w fun e w' => e = .returned (.tuple #[wv (wideR f n).1, .bool (wideR f n).2]) ∧ Below w.heap.size w w' := by
  have HC := Lib.hid hc
  clear hc
  have hgr : ¬ w.heap.size = g := by omega
  go_enter Try.func31, Try.ntmps31
  go_wp2_with fail
  have hc : ∀ i, i < n → (w.alloc (.cells #[.int .u64 0, .int .u64 0] 24)).cell? ⟨g, i, none⟩ = some (.int .u64 (f i)) := fun i hi => by rw [World.cell?_alloc_past _ _ _ (by omega)]; exact HC.out i hi
  go_loop [4] (fun i => ∃ k : Nat, 4 ≤ k ∧ k ≤ n ∧ i = .int .i64 k ∧ ∀ j, 4 ≤ j → j < k → f j = 0) (fun i => n - (intOf i).toNat)
  case atStart => exact ⟨4, by omega, hn, rfl, fun j h1 h2 => by omega⟩
  case round =>
    obtain ⟨k, hk4, hkn, rfl, hz⟩ := hrel
    have HZ : Hid (∀ j, 4 ≤ j → j < k → f j = 0) := hz
    clear hz
    by_cases hkl : k < n
    · have hck := hc k hkl
      by_cases h0 : f k = 0
      · rw [h0] at hck
        go_wp2_with fail
        go_round
        case rel => exact ⟨k + 1, by omega, by omega, by go_num, fun j h1 h2 => by rcases Nat.lt_or_ge j k with h | h; exact HZ.out j h1 h; exact (show j = k by omega) ▸ h0⟩
        case measure => simp [intOf]; omega
      · have HV := Lib.hid (wideR_no hk4 hkl h0)
        go_wp2_with fail
        refine bodyPost_ret (v := .tuple #[wv 0, .bool false]) ?_ rfl ⟨by rw [HV.out], (Below.refl _ _).alloc (Nat.le_refl _) _⟩
        have e1 : hiW 0 = 0 := rfl
        have e2 : loW 0 = 0 := rfl
        simp [results, Try.results31, go_sem, e1, e2]
    · have HV := Lib.hid (wideR_yes (n := n) hf hn (fun j h1 h2 => HZ.out j h1 (by omega)))
      have c0 := hc 0 (by omega)
      have c1 := hc 1 (by omega)
      have c2 := hc 2 (by omega)
      have c3 := hc 3 (by omega)
      have n3 : (3 : Int) < (n : Int) := by omega
      have n2 : (2 : Int) < (n : Int) := by omega
      have n1 : (1 : Int) < (n : Int) := by omega
      have n0 : 0 < n := by omega
      have hgr2 : ¬ g = w.heap.size := by omega
      have m1 : IntKind.u64.wrap (IntKind.u64.wrap ((f 3 : Int) * 4294967296) + (f 2 : Int)) = (hiW (valF f 4) : Int) := by
        have := hf 3; have := hf 2
        rw [HV.out.2.1, wrap_u64_of ((f 3 : Int) * 4294967296) (by omega) (by omega), wrap_u64_of ((f 3 : Int) * 4294967296 + (f 2 : Int)) (by omega) (by omega)]
        omega
      have m2 : IntKind.u64.wrap (IntKind.u64.wrap ((f 1 : Int) * 4294967296) + (f 0 : Int)) = (loW (valF f 4) : Int) := by
        have := hf 1; have := hf 0
        rw [HV.out.2.2, wrap_u64_of ((f 1 : Int) * 4294967296) (by omega) (by omega), wrap_u64_of ((f 1 : Int) * 4294967296 + (f 0 : Int)) (by omega) (by omega)]
        omega
      have r1 : (w.alloc (.cells #[.int .u64 0, .int .u64 0] 24)).cell? ⟨w.heap.size, 0, none⟩ = some (.int .u64 0) := by simp
      have r2 : (w.alloc (.cells #[.int .u64 0, .int .u64 0] 24)).cell? ⟨w.heap.size, 1, none⟩ = some (.int .u64 0) := by simp
      have r3 : (w.alloc (.cells #[.int .u64 0, .int .u64 0] 24)).frozen? ⟨w.heap.size, 0, none⟩ = false := by simp [go_sem]
      have r4 : (w.alloc (.cells #[.int .u64 0, .int .u64 0] 24)).frozen? ⟨w.heap.size, 1, none⟩ = false := by simp [go_sem]
      have kb : Below w.heap.size w (w.alloc (.cells #[.int .u64 0, .int .u64 0] 24)) := (Below.refl _ _).alloc (Nat.le_refl _) _
      have hv : Hid (Ending.returned (.tuple #[.agg #[.int .u64 (hiW (valF f 4)), .int .u64 (loW (valF f 4))], .bool true]) = Ending.returned (.tuple #[wv (wideR f n).1, .bool (wideR f n).2])) := by show _ = _; rw [HV.out.1]
      clear HV hc HC
      go_wp2_with fail
      generalize hW : w.alloc (.cells #[.int .u64 0, .int .u64 0] 24) = W at *
      generalize hB : w.heap.size = B at *
      have HB : Hid (w.heap.size = B) := hB
      clear hB
      generalize hiW (valF f 4) = hv1 at *
      generalize loW (valF f 4) = hv0 at *
      clear HZ hf
      generalize f 0 = a0 at *
      generalize f 1 = a1 at *
      generalize f 2 = a2 at *
      generalize f 3 = a3 at *
      clear hW
      go_still_tail 17, (by kernel_rfl)
      change wpList _ _ _ _ _ W.drew
      replace r1 : W.drew.cell? ⟨B, 0, none⟩ = some (.int .u64 0) := by simpa using r1
      replace r2 : W.drew.cell? ⟨B, 1, none⟩ = some (.int .u64 0) := by simpa using r2
      replace r3 : W.drew.frozen? ⟨B, 0, none⟩ = false := by simpa using r3
      replace r4 : W.drew.frozen? ⟨B, 1, none⟩ = false := by simpa using r4
      replace kb := kb.drew
      clear c0 c1 c2 c3
      generalize W.drew = W2 at *
      go_wp2_with fail
      obtain ⟨q1, q2⟩ := set2 (u := .int .u64 hv1) (v := .int .u64 hv0) r1 r2
      refine bodyPost_ret (v := .tuple #[.agg #[.int .u64 hv1, .int .u64 hv0], .bool true]) ?_ rfl ⟨hv.out, by rw [HB.out]; exact (kb.setCell (by simp) _).setCell (by simp) _⟩
      simp [results, Try.results31, go_sem, q1, q2]
end Go.Proofs.Ytnohghdkegfcaaa

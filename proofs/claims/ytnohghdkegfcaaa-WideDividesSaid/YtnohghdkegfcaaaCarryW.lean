/- The walk of the reference's carry. -/
import Derived.Test.YtnohghdkegfcaaaDigW
namespace Go.Proofs.Ytnohghdkegfcaaa
open Go.RowKit

theorem info22 : (Try.prog.info? 22).map (fun i => (i.zero, i.size, i.bytes)) = some (some (.int .u64 0), 1, 8) := by kernel_rfl
/-- the cells of a row of numbers -/
def cellsF (f : Nat → Nat) (k : Nat) : List Value := (List.range k).map fun j => .int .u64 (f j)
theorem cellsF_succ (f : Nat → Nat) (k : Nat) : cellsF f k ++ [.int .u64 (f k)] = cellsF f (k + 1) := by simp [cellsF, List.range_succ]
theorem cellsF_congr {f g : Nat → Nat} {k : Nat} (h : ∀ i, i < k → f i = g i) : cellsF f k = cellsF g k := by
  unfold cellsF
  apply List.map_congr_left
  intro j hj
  rw [h j (by simpa using hj)]
theorem cellsF_get (f : Nat → Nat) {k i : Nat} (h : i < k) : (cellsF f k)[i]? = some (.int .u64 (f i)) := by simp [cellsF, h]
theorem at_owned {w : World} {B g n cap : Nat} {f : Nat → Nat} (h : w.ownsRow B 22 1 (.slice (some ⟨g, 0, none⟩) n cap) n (cellsF f n)) : At w g n f := fun i hi => by
  rw [h.cellAt i (by omega), cellsF_get f hi]

theorem own_base {w : World} {B n : Nat} {v : Value} {xs : List Value} (h : w.ownsRow B 22 1 v n xs) : ∀ b, v.ownBlock = some b → B ≤ b := by
  intro b hb
  rcases h.2 with ⟨rfl, _⟩ | ⟨g, cap, cur, rfl, hB, _⟩
  · cases hb
  · simp [Value.ownBlock] at hb; omega
theorem own_at {w : World} {B g n cap : Nat} {xs : List Value} (h : w.ownsRow B 22 1 (.slice (some ⟨g, 0, none⟩) n cap) n xs) : B ≤ g := own_base h g rfl
theorem cR_cells (f : Nat → Nat) (n : Nat) : cellsF (cD f) n ++ [.int .u64 (cO f n)] = cellsF (cR f n) (n + 1) := by
  rw [← cellsF_succ (cR f n), cellsF_congr (f := cD f) (g := cR f n) (fun i hi => (if_pos hi).symm), show cR f n n = cO f n from if_neg (Nat.lt_irrefl _)]

set_option maxRecDepth 100000 in
set_option maxHeartbeats 2000000 in
theorem carry_any (g n cap : Nat) (f : Nat → Nat) (hn : n ≤ 7) (hf : ∀ i, f i < 1099511627776) (w : World) (hc : At w g n f) (hg : g < w.heap.size) :
    Calls Try.prog 32 #[.slice (some ⟨g, 0, none⟩) n cap] w fun e w' => ∃ g' cap', e = .returned (.slice (some ⟨g', 0, none⟩) (n + 1) cap') ∧ At w' g' (n + 1) (cR f n) ∧ w.heap.size ≤ g' ∧ g' < w'.heap.size ∧ Below w.heap.size w w' := by
  have HC := Lib.hid hc
  have HF := Lib.hid hf
  clear hc hf
  obtain ⟨i0, hi, hz0, hz1, hz2⟩ := info_parts info22
  go_enter Try.func32, Try.ntmps32
  go_wp2_with fail
  go_loopw [3, 4, 5] (fun v o i wr => ∃ k : Nat, k ≤ n ∧ i = .int .i64 k ∧ o = .int .u64 (cO f k) ∧ wr.ownsRow w.heap.size 22 1 v k (cellsF (cD f) k) ∧ Below w.heap.size w wr)
    (fun _ _ i _ => n - (intOf i).toNat)
  case atStart => exact ⟨0, Nat.zero_le _, rfl, rfl, World.ownsRow_nil _ _ _ _, Below.refl _ _⟩
  case round =>
    obtain ⟨k, hk, rfl, rfl, hown, hbw⟩ := hrel
    have hsz := hbw.size
    obtain ⟨m, hm⟩ : ∃ m, m = f k + cO f k := ⟨_, rfl⟩
    have HM : Hid (m = f k + cO f k) := hm
    clear hm
    have hO := Lib.hid (cO_lt HF.out k)
    have e1 : IntKind.u64.wrap ((f k : Int) + (cO f k : Int)) = (m : Int) := by
      have := HF.out k; have := hO.out
      rw [wrap_u64_of ((f k : Int) + (cO f k : Int)) (by omega) (by omega), HM.out]; omega
    have e2 : ((m : Int).tmod 4294967296) = (cD f k : Int) := by rw [Int.tmod_eq_emod_of_nonneg (by omega), HM.out, cD]; omega
    have e2' : ((m : Int) % 4294967296) = (cD f k : Int) := by rw [HM.out, cD]; omega
    have e3 : ((m : Int).tdiv 4294967296) = (cO f (k + 1) : Int) := by rw [Int.tdiv_eq_ediv_of_nonneg (by omega), HM.out, cO]; omega
    have e3' : ((m : Int) / 4294967296) = (cO f (k + 1) : Int) := by rw [HM.out, cO]; omega
    have e4 : IntKind.u64.wrap (cO f (k + 1) : Int) = (cO f (k + 1) : Int) := wrap_u64_of (cO f (k + 1) : Int) (by omega) (by have := cO_lt HF.out (k + 1); omega)
    by_cases hkl : k < n
    · have hck : wr.cell? ⟨g, k, none⟩ = some (.int .u64 (f k)) := by rw [hbw.cell (show g < w.heap.size from hg)]; exact HC.out k hkl
      go_wp2_with (first
        | (at_builtin; refine wpList_append_own _ rfl _ _ 49 rfl w.heap.size 22 i0 (.int .u64 0) 1 8 Try.underlying49 hi hz0 hz1 hz2 rfl (by decide) _ _ _ rfl (hown.alloc _) ⟨wr.heap.size, 0, none⟩ 1 1 [.int .u64 (cD f k)] rfl rfl ?c1 ?c2 ?c3 ?c4 ?c5 ?_))
      case c1 =>
        intro j u hj
        match j, hj with
        | 0, hj => simp at hj; subst hj; simp [Addr.add]
      case c2 => intro u hu; simp at hu; subst hu; rfl
      case c3 => unfold maxLen; omega
      case c4 => omega
      case c5 => simp; omega
      · intro v' w1 hown' hgrow _
        have hb2 : Below w.heap.size w w1 := (hbw.alloc hsz _).grown hgrow (by simp; omega) (own_base hown)
        rw [cellsF_succ] at hown'
        clear hgrow hown hbw
        go_wp2_with fail
        go_roundw
        case rel => exact ⟨k + 1, by omega, by go_num, rfl, hown', hb2⟩
        case measure => simp [intOf]; omega
    · go_wp2_with (first
        | (at_builtin; refine wpList_append_lies _ rfl _ _ 49 rfl w.heap.size 22 i0 (.int .u64 0) 1 8 Try.underlying49 hi hz0 hz1 hz2 rfl (by decide) _ _ _ rfl (hown.alloc _) ⟨wr.heap.size, 0, none⟩ 1 1 [.int .u64 (cO f k)] rfl rfl ?d1 ?d2 (by omega) ?d3 ?d4 ?d5 _ rfl ?_))
      case d1 =>
        intro j u hj
        match j, hj with
        | 0, hj => simp at hj; subst hj; simp [Addr.add]
      case d2 => intro u hu; simp at hu; subst hu; rfl
      case d3 => unfold maxLen; omega
      case d4 => omega
      case d5 => simp; omega
      · intro g' cap' w1 hown' hgrow hat hlt
        have hb2 : Below w.heap.size w w1 := (hbw.alloc hsz _).grown hgrow (by simp; omega) (own_base hown)
        obtain rfl : k = n := by omega
        rw [cR_cells] at hown'
        have hB := own_at hown'
        clear hgrow hown hbw
        go_wp2_with fail
        go_ret
        exact ⟨g', cap', rfl, at_owned hown', hB, hlt, hb2⟩
end Go.Proofs.Ytnohghdkegfcaaa

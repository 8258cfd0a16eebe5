/- The walk of wide.Times: the product, or the error that it is no wide number; the statement that makes both products draws its order: twelve ways. -/
import Derived.Test.YtnohghdkegfcaaaOrderW
import Derived.Deep.DeepCutAuto
namespace Go.Proofs.Ytnohghdkegfcaaa
open Go.RowKit

theorem blt {W w1 : World} (hb : Below W.heap.size W w1) : ∀ b, b < W.heap.size → b < w1.heap.size := fun _ h => Nat.lt_of_lt_of_le h hb.size
theorem blt1 {W w1 : World} (hb : Below W.heap.size W w1) : ∀ b, b < W.heap.size → b < w1.heap.size + 1 := fun _ h => Nat.lt_succ_of_lt (Nat.lt_of_lt_of_le h hb.size)
theorem blt2 {W w1 : World} (hb : Below W.heap.size W w1) : ∀ b, b < W.heap.size → b < w1.heap.size + 1 + 1 := fun _ h => Nat.lt_succ_of_lt (Nat.lt_succ_of_lt (Nat.lt_of_lt_of_le h hb.size))
theorem bel_alloc {a w : World} (h : Below a.heap.size a w) (o : Obj) : Below a.heap.size a (w.alloc o) := h.alloc h.size o
/-- the world in which a wide argument and a wide result have been laid -/
abbrev laid2 (w : World) (A : Nat) : World := (w.alloc (.cells #[.int .u64 (hiW A), .int .u64 (loW A)] 24)).alloc (.cells #[.int .u64 0, .int .u64 0] 24)
theorem box_cells {w w1 : World} {A : Nat} (h : Below (laid2 w A).heap.size (laid2 w A) w1) :
    w1.cell? ⟨w.heap.size, 0, none⟩ = some (.int .u64 (hiW A)) ∧ w1.cell? ⟨w.heap.size, 1, none⟩ = some (.int .u64 (loW A)) := by
  rw [h.cell (by simp; omega), h.cell (by simp; omega)]
  simp
theorem res_cells {w w1 : World} {A : Nat} (h : Below (laid2 w A).heap.size (laid2 w A) w1) :
    w1.cell? ⟨w.heap.size + 1, 0, none⟩ = some (.int .u64 0) ∧ w1.cell? ⟨w.heap.size + 1, 1, none⟩ = some (.int .u64 0) ∧ w1.frozen? ⟨w.heap.size + 1, 0, none⟩ = false ∧ w1.frozen? ⟨w.heap.size + 1, 1, none⟩ = false ∧ w.heap.size + 1 < w1.heap.size := by
  have hz : w.heap.size + 1 < w1.heap.size := by have := h.size; simp at this; omega
  rw [h.cell (by simp), h.cell (by simp), h.frozen (by simp), h.frozen (by simp)]
  simp [go_sem, hz]

/-- a product of a wide number, and the error's number -/
def timesR (A b : Nat) : Nat × Nat := if A * b < W128 then (A * b, 0) else (0, 9)
theorem times_split (A b : Nat) : A * b = loW A * b + hiW A * b * 18446744073709551616 := by
  have h := hi_lo A
  calc A * b = (hiW A * 18446744073709551616 + loW A) * b := by rw [h]
    _ = _ := by rw [Nat.add_mul, Nat.mul_right_comm, Nat.add_comm]
theorem times_over {A b : Nat} (h : 0 < hiW (hiW A * b)) : timesR A b = (0, 9) := by
  unfold timesR
  rw [if_neg]
  rw [times_split A b]
  unfold W128
  generalize hiW A * b = X at *
  unfold hiW at h
  omega
theorem times_plus {A b : Nat} (h : ¬ 0 < hiW (hiW A * b)) : plusR (loW A * b) (loW (hiW A * b) * 18446744073709551616) = timesR A b := by
  have e : loW (hiW A * b) = hiW A * b := by
    generalize hiW A * b = X at *
    unfold hiW at h; unfold loW; omega
  unfold plusR timesR
  rw [e, ← times_split A b]
theorem low_lt {A b : Nat} (hb : b < 18446744073709551616) : loW A * b < W128 := by
  have h1 := loW_lt A
  have : loW A * b ≤ 18446744073709551615 * 18446744073709551615 := Nat.mul_le_mul (by omega) (by omega)
  unfold W128; omega
theorem plus_shift (A X : Nat) (hA : A < W128) (hX : X < 18446744073709551616) (w : World) :
    Calls Try.prog 10 #[wv A, .agg #[.int .u64 X, .int .u64 0]] w fun e w' => e = .returned (.tuple #[wv (plusR A (X * 18446744073709551616)).1, .int .i64 (plusR A (X * 18446744073709551616)).2]) ∧ Below w.heap.size w w' := by
  have h := plus_any A (X * 18446744073709551616) hA (by unfold W128; omega) w
  have e1 : hiW (X * 18446744073709551616) = X := by unfold hiW; omega
  have e2 : loW (X * 18446744073709551616) = 0 := by unfold loW; omega
  have e : wv (X * 18446744073709551616) = .agg #[.int .u64 X, .int .u64 0] := by unfold wv; rw [e1, e2]; rfl
  rw [e] at h
  exact h

set_option maxRecDepth 100000 in
set_option maxHeartbeats 4000000 in
theorem times_any (A b : Nat) (hA : A < W128) (hb : b < 18446744073709551616) (w : World) :
    Calls Try.prog 15 #[wv A, .int .u64 b] w fun e w' => e = .returned (.tuple #[wv (timesR A b).1, .int .i64 (timesR A b).2]) ∧ Below w.heap.size w w' := by
  have HA := Lib.hid hA
  have HB := Lib.hid hb
  clear hA hb
  have bel : Below (laid2 w A).heap.size (laid2 w A) (laid2 w A) := Below.refl _ _
  go_enter Try.func15, Try.ntmps15
  go_upto_region 1 with fail
  go_cut [6, 7] (fun s6 s7 wx => ∃ g6 g7 : Nat, s6 = .pointer (some ⟨g6, 0, none⟩) ∧ s7 = .pointer (some ⟨g7, 0, none⟩) ∧
      wx.cell? ⟨g6, 0, none⟩ = some (.int .u64 (hiW (loW A * b))) ∧ wx.cell? ⟨g6, 1, none⟩ = some (.int .u64 (loW (loW A * b))) ∧
      wx.cell? ⟨g7, 0, none⟩ = some (.int .u64 (hiW (hiW A * b))) ∧ wx.cell? ⟨g7, 1, none⟩ = some (.int .u64 (loW (hiW A * b))) ∧
      Below (laid2 w A).heap.size (laid2 w A) wx)
  case first =>
    go_region_held3 (fun w' => w'.cell? ⟨w.heap.size, 0, none⟩ = some (.int .u64 (hiW A)) ∧ w'.cell? ⟨w.heap.size, 1, none⟩ = some (.int .u64 (loW A)))
      (first
        | exact box_cells bel
        | (refine box_cells ?_; repeat' (first | exact bel | refine Below.drew ?_ | refine bel_alloc ?_ _ | refine Below.setCell ?_ ?_ _ | assumption | (dsimp only; omega) | (simp; done) | (simp; omega))))
      (first
        | (go_at_call 11; refine (mul_any _ _ (by first | exact loW_lt _ | exact hiW_lt HA.out) HB.out _).mono ?_; rintro e w' ⟨rfl, hb⟩; obtain ⟨hc, hf⟩ := bcell hb; have hl := blt hb; have hl1 := blt1 hb; have hl2 := blt2 hb; have hsz := hb.size; (try simp only [World.size_alloc, World.size_drew] at hsz); (try (have n1 : w.heap.size + 1 + 1 < w'.heap.size := (by omega))); (try (have n2 : w.heap.size + 1 + 1 + 1 < w'.heap.size := (by omega))); have bel : Below (laid2 w A).heap.size (laid2 w A) w' := (by refine below_then ?_ hb; repeat' (first | exact bel | refine Below.drew ?_ | refine bel_alloc ?_ _)); have hz := bel.size))
    all_goals
      go_wp2_with fail
      go_meet
      refine ⟨_, _, rfl, rfl, ?_, ?_, ?_, ?_, ?_⟩
      · first | (go_simp; done) | (go_simp; refine World.cell?_setCell_same _ _ _ (u := .int .u64 0) ?_; go_simp; done)
      · first | (go_simp; done) | (go_simp; refine World.cell?_setCell_same _ _ _ (u := .int .u64 0) ?_; go_simp; done)
      · first | (go_simp; done) | (go_simp; refine World.cell?_setCell_same _ _ _ (u := .int .u64 0) ?_; go_simp; done)
      · first | (go_simp; done) | (go_simp; refine World.cell?_setCell_same _ _ _ (u := .int .u64 0) ?_; go_simp; done)
      · repeat' (first | exact bel | refine Below.drew ?_ | refine bel_alloc ?_ _ | refine Below.setCell ?_ ?_ _ | assumption | (dsimp only; omega) | (simp; done) | (simp; omega))
  case rest =>
    obtain ⟨g6, g7, rfl, rfl, k1, k2, k3, k4, kb⟩ := hcut
    obtain ⟨r1, r2, r3, r4, r5⟩ := res_cells kb
    have kbw : Below w.heap.size w wc := (((Below.refl _ _).alloc (Nat.le_refl _) _).alloc (by simp) _).trans (kb.mono (by simp; omega))
    have HL := Lib.hid (low_lt (A := A) HB.out)
    by_cases h0 : 0 < hiW (hiW A * b)
    · have hv := Lib.hid (times_over h0)
      go_wp2_with fail
      refine bodyPost_ret (v := .tuple #[wv 0, .int .i64 9]) ?_ rfl ⟨by rw [hv.out]; rfl, (kbw.setCell (by simp) _).setCell (by simp) _⟩
      have e1 : hiW 0 = 0 := rfl
      have e2 : loW 0 = 0 := rfl
      have q1 := World.cell?_setCell_same wc ⟨w.heap.size + 1, 0, none⟩ (.int .u64 0) r1
      have q2 := World.cell?_setCell_same (wc.setCell ⟨w.heap.size + 1, 0, none⟩ (.int .u64 0)) ⟨w.heap.size + 1, 1, none⟩ (.int .u64 0) ((World.cell?_setCell_other _ _ _ _ (by simp)).trans r2)
      have q3 := (World.cell?_setCell_other (wc.setCell ⟨w.heap.size + 1, 0, none⟩ (.int .u64 0)) ⟨w.heap.size + 1, 1, none⟩ ⟨w.heap.size + 1, 0, none⟩ (.int .u64 0) (by simp)).trans q1
      simp [results, Try.results15, go_sem, q2, q3, e1, e2]
    · have hv := Lib.hid (times_plus h0)
      go_wp2_with fail
      refine (plus_shift (loW A * b) (loW (hiW A * b)) HL.out (loW_lt _) _).mono ?_
      rintro e w5 ⟨rfl, hb5⟩
      rw [hv.out]
      obtain ⟨hc5, hf5⟩ := bcell hb5
      have p1 : w5.cell? ⟨w.heap.size + 1, 0, none⟩ = some (.int .u64 0) := by go_simp
      have p2 : w5.cell? ⟨w.heap.size + 1, 1, none⟩ = some (.int .u64 0) := by go_simp
      have p3 : w5.frozen? ⟨w.heap.size + 1, 0, none⟩ = false := by go_simp
      have p4 : w5.frozen? ⟨w.heap.size + 1, 1, none⟩ = false := by go_simp
      clear hc5 hf5
      go_wp2_with fail
      refine bodyPost_ret (v := .tuple #[wv (timesR A b).1, .int .i64 (timesR A b).2]) ?_ rfl ⟨rfl, ((below_then kbw hb5).setCell (by simp) _).setCell (by simp) _⟩
      have q1 := World.cell?_setCell_same w5 ⟨w.heap.size + 1, 0, none⟩ (.int .u64 (hiW (timesR A b).1)) p1
      have q2 := World.cell?_setCell_same (w5.setCell ⟨w.heap.size + 1, 0, none⟩ (.int .u64 (hiW (timesR A b).1))) ⟨w.heap.size + 1, 1, none⟩ (.int .u64 (loW (timesR A b).1)) ((World.cell?_setCell_other _ _ _ _ (by simp)).trans p2)
      have q3 := (World.cell?_setCell_other (w5.setCell ⟨w.heap.size + 1, 0, none⟩ (.int .u64 (hiW (timesR A b).1))) ⟨w.heap.size + 1, 1, none⟩ ⟨w.heap.size + 1, 0, none⟩ (.int .u64 (loW (timesR A b).1)) (by simp)).trans q1
      simp [results, Try.results15, go_sem, q2, q3]
end Go.Proofs.Ytnohghdkegfcaaa

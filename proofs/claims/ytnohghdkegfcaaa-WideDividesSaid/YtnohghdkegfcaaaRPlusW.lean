/- The walk of the reference's Plus. -/
import Derived.Test.YtnohghdkegfcaaaCarryW
namespace Go.Proofs.Ytnohghdkegfcaaa
open Go.RowKit

/-- the world in which two wide arguments and a wide result have been laid -/
abbrev laid3 (w : World) (A B : Nat) : World := ((w.alloc (.cells #[.int .u64 (hiW A), .int .u64 (loW A)] 24)).alloc (.cells #[.int .u64 (hiW B), .int .u64 (loW B)] 24)).alloc (.cells #[.int .u64 0, .int .u64 0] 24)
theorem box3_cells {w w1 : World} {A B : Nat} (h : Below (laid3 w A B).heap.size (laid3 w A B) w1) :
    w1.cell? ⟨w.heap.size + 1, 0, none⟩ = some (.int .u64 (hiW B)) ∧ w1.cell? ⟨w.heap.size + 1, 1, none⟩ = some (.int .u64 (loW B)) := by
  rw [h.cell (by simp), h.cell (by simp)]
  simp [go_sem]
theorem res3_cells {w w1 : World} {A B : Nat} (h : Below (laid3 w A B).heap.size (laid3 w A B) w1) :
    w1.cell? ⟨w.heap.size + 1 + 1, 0, none⟩ = some (.int .u64 0) ∧ w1.cell? ⟨w.heap.size + 1 + 1, 1, none⟩ = some (.int .u64 0) ∧ w1.frozen? ⟨w.heap.size + 1 + 1, 0, none⟩ = false ∧ w1.frozen? ⟨w.heap.size + 1 + 1, 1, none⟩ = false ∧ w.heap.size + 1 + 1 < w1.heap.size := by
  have hz : w.heap.size + 1 + 1 < w1.heap.size := by have := h.size; simp at this; omega
  rw [h.cell (by simp), h.cell (by simp), h.frozen (by simp), h.frozen (by simp)]
  simp [go_sem, hz]
theorem laid3_below (w : World) (A B : Nat) : Below w.heap.size w (laid3 w A B) := (((Below.refl _ _).alloc (Nat.le_refl _) _).alloc (by simp) _).alloc (by simp; omega) _

theorem keepXY {w2 w' : World} {gx gy k n : Nat} {f h : Nat → Nat} (h1 : At w2 gx n f) (h2 : At w2 gy n h) (hx : gx < w2.heap.size) (hy : gy < w2.heap.size) (hk : k < n) (hb : Below w2.heap.size w2 w') :
    w'.cell? ⟨gx, k, none⟩ = some (.int .u64 (f k)) ∧ w'.cell? ⟨gy, k, none⟩ = some (.int .u64 (h k)) ∧ Below w2.heap.size w2 w' :=
  ⟨(hb.cell (p := ⟨gx, k, none⟩) hx).trans (h1 k hk), (hb.cell (p := ⟨gy, k, none⟩) hy).trans (h2 k hk), hb⟩

theorem set2a {w : World} {g : Nat} {x y u v : Value} (h1 : w.cell? ⟨g, 0, none⟩ = some x) (h2 : w.cell? ⟨g, 1, none⟩ = some y) (hg : g < w.heap.size) (o : Obj) :
    (((w.setCell ⟨g, 0, none⟩ u).setCell ⟨g, 1, none⟩ v).alloc o).cell? ⟨g, 0, none⟩ = some u ∧ (((w.setCell ⟨g, 0, none⟩ u).setCell ⟨g, 1, none⟩ v).alloc o).cell? ⟨g, 1, none⟩ = some v := by
  obtain ⟨q1, q2⟩ := set2 (u := u) (v := v) h1 h2
  rw [World.cell?_alloc_past _ _ _ (by simp; omega), World.cell?_alloc_past _ _ _ (by simp; omega)]
  exact ⟨q1, q2⟩

set_option maxRecDepth 100000 in
set_option maxHeartbeats 4000000 in
theorem rplus_any (A B : Nat) (hA : A < W128) (hB : B < W128) (w : World) :
    Calls Try.prog 14 #[wv A, wv B] w fun e w' => e = .returned (.tuple #[wv (plusR A B).1, .int .i64 (plusR A B).2]) ∧ Below w.heap.size w w' := by
  have HA := Lib.hid hA
  have HB := Lib.hid hB
  clear hA hB
  obtain ⟨i0, hi, hz0, hz1, hz2⟩ := info_parts info22
  go_enter Try.func14, Try.ntmps14
  go_wp2_with fail
  refine (of_any A HA.out _).mono ?_
  rintro e w1 ⟨rfl, hat1, hl1, hb1⟩
  obtain ⟨b1, b2⟩ := box3_cells hb1
  go_wp2_with fail
  refine (of_any B HB.out _).mono ?_
  rintro e w2 ⟨rfl, hat2, hl2, hb2⟩
  have s2 : Below (laid3 w A B).heap.size (laid3 w A B) w2 := below_then hb1 hb2
  clear b1 b2
  simp only [World.size_alloc] at hat1 hl1
  have ha1 : At w2 (w.heap.size + 1 + 1 + 1 + 1) 4 (dig A) := at_below hat1 hb2 hl1
  have hl3 : w.heap.size + 1 + 1 + 1 + 1 < w2.heap.size := by have := hb2.size; omega
  clear hat1 hl1 hb1 hb2
  generalize hgx : w.heap.size + 1 + 1 + 1 + 1 = gx at *
  generalize hgy : w1.heap.size + 1 = gy at *
  clear hgy
  go_wp2_with fail
  go_loopw [8, 9] (fun v i wr => ∃ k : Nat, k ≤ 4 ∧ i = .int .i64 k ∧ wr.ownsRow w2.heap.size 22 1 v k (cellsF (fun j => dig A j + dig B j) k) ∧ Below w2.heap.size w2 wr)
    (fun _ i _ => 4 - (intOf i).toNat)
  case atStart => exact ⟨0, by omega, rfl, World.ownsRow_nil _ _ _ _, Below.refl _ _⟩
  case round =>
    obtain ⟨k, hk, rfl, hown, hbw⟩ := hrel
    have hsz := hbw.size
    by_cases hkl : k < 4
    · have hcx : wr.cell? ⟨gx, k, none⟩ = some (.int .u64 (dig A k)) := by rw [hbw.cell (show gx < w2.heap.size from hl3)]; exact ha1 k hkl
      have hcy : wr.cell? ⟨gy, k, none⟩ = some (.int .u64 (dig B k)) := by rw [hbw.cell (show gy < w2.heap.size from hl2)]; exact hat2 k hkl
      have e1 : IntKind.u64.wrap ((dig A k : Int) + (dig B k : Int)) = ((dig A k + dig B k : Nat) : Int) := by
        have := dig_lt A k; have := dig_lt B k
        rw [wrap_u64_of ((dig A k : Int) + (dig B k : Int)) (by omega) (by omega)]; omega
      have k0 : (0 : Int) ≤ (k : Int) := by omega
      have k4 : (k : Int) < 4 := by omega
      go_wp2_with fail
      go_region_held3 (fun w' => w'.cell? ⟨gx, k, none⟩ = some (.int .u64 (dig A k)) ∧ w'.cell? ⟨gy, k, none⟩ = some (.int .u64 (dig B k)) ∧ Below w2.heap.size w2 w')
        (first | exact keepXY ha1 hat2 hl3 hl2 hkl (by assumption) | exact keepXY ha1 hat2 hl3 hl2 hkl hbw.drew | exact keepXY ha1 hat2 hl3 hl2 hkl (hbw.drew.alloc (by simpa using hsz) _) | exact keepXY ha1 hat2 hl3 hl2 hkl (hbw.alloc hsz _))
        ((refine step_append_lies _ (by rfl) _ _ _ (by rfl) w2.heap.size 22 i0 (.int .u64 0) 1 8 Try.underlying49 hi hz0 hz1 hz2 (by rfl) (by omega) _ _ _ (by rfl) (by first | exact hown.drew.alloc _ | exact hown.alloc _) _ 1 1 [.int .u64 (dig A k + dig B k : Nat)] (by rfl) (by rfl) (World.news_of_block (heap_alloc_new _ _)) (by intro u hu; simp at hu; subst hu; rfl) (by omega) (by unfold maxLen; omega) (by omega) (by simp; omega) _ rfl ?_; intro g' cap' w3 hown' hgrow hat hlt; have hb2 : Below w2.heap.size w2 w3 := (by first | exact (hbw.drew.alloc (by simpa using hsz) _).grown hgrow (by simp; omega) (own_base hown) | exact (hbw.alloc hsz _).grown hgrow (by simp; omega) (own_base hown))))
      rw [cellsF_succ (fun j => dig A j + dig B j)] at hown'
      clear hgrow hat
      go_wp2_with fail
      go_roundw
      case rel => exact ⟨k + 1, by omega, by go_num, hown', hb2⟩
      case measure => simp [intOf]; omega
    · obtain rfl : k = 4 := by omega
      obtain ⟨gd, cd, rfl, hBd, hld⟩ := hown.form (by omega)
      have hatd := at_owned hown
      have hr := Lib.hid (plus_ref HA.out HB.out)
      go_wp2_with fail
      refine (carry_any gd 4 cd _ (by omega) (plus_small A B) _ hatd hld).mono ?_
      rintro e w3 ⟨gc, cc, rfl, hatc, hBc, hlc, hb3⟩
      go_wp2_with fail
      refine (wide_any gc 5 cc _ (by omega) (by omega) (fun i => cR_lt (plus_small A B) 4 i) _ hatc hlc).mono ?_
      rintro e w4 ⟨rfl, hb4⟩
      have s4 : Below (laid3 w A B).heap.size (laid3 w A B) w4 := below_then (below_then (below_then s2 hbw) hb3) hb4
      obtain ⟨r1, r2, r3, r4, r5⟩ := res3_cells s4
      have kb : Below w.heap.size w w4 := below_then (laid3_below w A B) s4
      clear s4 s2 hb4 hb3
      by_cases h : A + B < W128
      · have hv : Hid (plusR A B = (A + B, 0)) := if_pos h
        have hq := hr.out
        rw [if_pos h] at hq
        rw [hq]
        clear hq h
        go_wp2_with fail
        obtain ⟨q1, q2⟩ := set2a (u := .int .u64 (hiW (A + B))) (v := .int .u64 (loW (A + B))) r1 r2 r5 (.cells #[.int .u64 (hiW (A + B)), .int .u64 (loW (A + B))] 24)
        refine bodyPost_ret (v := .tuple #[wv (A + B), .int .i64 0]) ?_ rfl ⟨by rw [hv.out]; rfl, ((kb.setCell (by simp; omega) _).setCell (by simp; omega) _).alloc (by have := kb.size; simp; omega) _⟩
        simp [results, Try.results14, go_sem, q1, q2]
      · have hv : Hid (plusR A B = (0, 9)) := if_neg h
        have hq := hr.out
        rw [if_neg h] at hq
        rw [hq]
        clear hq h
        go_wp2_with fail
        obtain ⟨q1, q2⟩ := set2a (u := .int .u64 0) (v := .int .u64 0) r1 r2 r5 (.cells #[.int .u64 0, .int .u64 0] 24)
        refine bodyPost_ret (v := .tuple #[wv 0, .int .i64 9]) ?_ rfl ⟨by rw [hv.out]; rfl, ((kb.setCell (by simp; omega) _).setCell (by simp; omega) _).alloc (by have := kb.size; simp; omega) _⟩
        have e1 : hiW 0 = 0 := rfl
        have e2 : loW 0 = 0 := rfl
        simp [results, Try.results14, go_sem, q1, q2, e1, e2]
end Go.Proofs.Ytnohghdkegfcaaa

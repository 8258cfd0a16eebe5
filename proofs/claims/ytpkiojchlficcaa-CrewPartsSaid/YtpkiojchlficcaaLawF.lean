/- The law CrewParts, walked: it returns true. -/
import Derived.Test.YtpkiojchlficcaaLa
import Derived.Test.YtpkiojchlficcaaCc
set_option linter.unusedSimpArgs false
namespace Go.Proofs.Ytpkiojchlficcaa.Crew
open Go Go.Conc Go.ConcN Go.RowKit Go.Conc.Lib Go.ConcR.Gen
open Go.ConcM (OsLater goes_pad goes_le)
open Go.ConcR (KK wgBlock WgAt stA smA rd wr mk DC0)
/-- WHERE THE FIRST STANDS IN TWO, one behind the other. -/
theorem firstZ_neg (y : Nat → Bool) : ∀ r i, firstZ y i r < 0 → firstZ y i r = -1
  | 0, _, _ => rfl
  | r + 1, i, h => by
    simp only [firstZ] at h ⊢
    split at h
    · omega
    · rename_i hy
      rw [if_neg hy]; exact firstZ_neg y r (i + 1) h
theorem firstZ_t {y : Nat → Bool} {i : Nat} (h : y i = true) (r : Nat) : firstZ y i (r + 1) = i := by simp only [firstZ]; rw [if_pos h]
theorem firstZ_f {y : Nat → Bool} {i : Nat} (h : ¬ y i = true) (r : Nat) : firstZ y i (r + 1) = firstZ y (i + 1) r := by simp only [firstZ]; rw [if_neg h]
theorem firstZ_append (y : Nat → Bool) (s : Nat) : ∀ r i, firstZ y i (r + s) = if firstZ y i r < 0 then firstZ y (i + r) s else firstZ y i r
  | 0, i => by simp [firstZ]
  | r + 1, i => by
    rw [show r + 1 + s = (r + s) + 1 by omega]
    by_cases hy : y i = true
    · rw [firstZ_t hy, firstZ_t hy, if_neg (by omega)]
    · rw [firstZ_f hy, firstZ_f hy, firstZ_append y s r (i + 1), show i + 1 + r = i + (r + 1) by omega]
theorem firstZ_shift (y z : Nat → Bool) (n : Nat) (h : ∀ i, z (n + i) = y i) : ∀ r i, firstZ z (n + i) r = if firstZ y i r < 0 then -1 else (n : Int) + firstZ y i r
  | 0, i => by simp [firstZ]
  | r + 1, i => by
    by_cases hy : y i = true
    · rw [firstZ_t hy, firstZ_t (by rw [h i]; exact hy), if_neg (by omega)]; omega
    · rw [firstZ_f hy, firstZ_f (by rw [h i]; exact hy), show n + i + 1 = n + (i + 1) by omega, firstZ_shift y z n h r (i + 1)]
section
variable {kd : Int} {f f2 : Nat → Int} {n m : Nat}
theorem firstZ_cat : firstZ (fun i => isZ kd (catZ f f2 n i)) 0 (n + m) = if firstZ (fun i => isZ kd (f i)) 0 n < 0 then (if firstZ (fun i => isZ kd (f2 i)) 0 m < 0 then -1 else (n : Int) + firstZ (fun i => isZ kd (f2 i)) 0 m) else firstZ (fun i => isZ kd (f i)) 0 n := by
  rw [firstZ_append, firstZ_congr (fun i => isZ kd (catZ f f2 n i)) (fun i => isZ kd (f i)) n 0 fun j _ hj => by simp only [catZ]; rw [if_pos (by omega)]]
  have := firstZ_shift (fun i => isZ kd (f2 i)) (fun i => isZ kd (catZ f f2 n i)) n (fun i => by simp only [catZ]; rw [if_neg (by omega), Nat.add_sub_cancel_left]) m 0
  rw [Nat.zero_add, ← this]; rfl
theorem firstZ_le (y : Nat → Bool) : ∀ r i, firstZ y i r < ((i + r : Nat) : Int) ∨ r = 0
  | 0, _ => .inr rfl
  | r + 1, i => by
    simp only [firstZ]
    split
    · exact .inl (by omega)
    · rcases firstZ_le y r (i + 1) with h | rfl
      · exact .inl (by omega)
      · exact .inl (by simp only [firstZ]; omega)
end
noncomputable def body8 : Code := Try.f8.body.getD .skip
set_option maxRecDepth 100000 in
set_option maxHeartbeats 16000000 in
/-- ████ THE LAW. ████ -/
theorem law8 {w : World} {n c m c2 : Nat} {f f2 : Nat → Int} {a a2 : Option Addr} {wk kd : Int} (hn : n < 17592186044416) (hm : m < 17592186044416) (hI : Ints (fun _ => False) w a n f) (hJ : Ints (fun _ => False) w a2 m f2) :
    Gets (G ((base 8).at ⟨#[.slice a n c, .slice a2 m c2, .int .i64 wk, .int .u8 kd, undef, undef, undef, undef, undef, undef, undef, undef, undef, undef, undef, undef, undef, undef, undef, undef, undef, undef, undef, undef, undef, undef, undef, undef, undef, undef, undef, undef, undef, undef, undef, undef, undef, undef, undef, undef, undef, undef, undef, undef, undef, undef, undef, undef, undef, undef, undef, undef, undef, undef, undef, undef, undef, undef, undef, undef, undef, undef, undef, undef, undef, undef, undef, undef, undef, undef, undef, undef], []⟩ [.code body8]) []) w (fun _ => False) (Done (PostL w)) := by
  have hS : ∀ b, (fun _ : Nat => False) b → b < w.heap.size := fun _ h => h.elim
  have hK : Kept w (fun _ => False) w (fun _ => False) := Kept.refl w _
  by_cases h400 : 400 < n
  · have h400' : decide ((400 : Int) < (n : Int)) = true := by rw [decide_eq_true_iff]; omega
    have hF := atRel_refl w
    refine Gets.silent 40 ?_
    simp only [body8, Try.f8, Option.getD_some]
    repeat w_go at_rl
    u_call Try.func9 nm9 Try.f9 at_rl hF
    refine Goes.stop (fun w₁ r₁ => ?_)
    replace hF := at_rl hF r₁
    clear r₁
    replace hK := hK.rely hF
    clear hF
    refine worksGets (hK.bound hS) fun w₇ S₇ hk => ?_
    replace hK := hK.trans hk
    clear hk
    have hF := atRel_refl w₇
    refine Gets.silent 30 ?_
    walk_nrm
    repeat w_go at_rl
    refine Goes.stop (fun w₁ r₁ => Gets.here fun w₂ r₂ => ?_)
    replace hF := at_rl (at_rl hF r₁) r₂
    replace hK := hK.rely hF
    intro w₃ r₃
    refine ⟨rfl, .bool true, #[], ?_, by simp, rfl, _, hK.rely r₃⟩
    simp [G, stepG, unwind, doReturn, results, Frame.at, base, Try.func8, Try.f8, seen, GStep.after]
  have h400' : decide ((400 : Int) < (n : Int)) = false := by rw [decide_eq_false_iff_not]; omega
  by_cases h401 : 400 < m
  · have h401' : decide ((400 : Int) < (m : Int)) = true := by rw [decide_eq_true_iff]; omega
    have hF := atRel_refl w
    refine Gets.silent 40 ?_
    simp only [body8, Try.f8, Option.getD_some]
    repeat w_go at_rl
    u_call Try.func9 nm9 Try.f9 at_rl hF
    refine Goes.stop (fun w₁ r₁ => ?_)
    replace hF := at_rl hF r₁
    clear r₁
    replace hK := hK.rely hF
    clear hF
    refine worksGets (hK.bound hS) fun w₇ S₇ hk => ?_
    replace hK := hK.trans hk
    clear hk
    have hF := atRel_refl w₇
    refine Gets.silent 30 ?_
    walk_nrm
    repeat w_go at_rl
    refine Goes.stop (fun w₁ r₁ => Gets.here fun w₂ r₂ => ?_)
    replace hF := at_rl (at_rl hF r₁) r₂
    replace hK := hK.rely hF
    intro w₃ r₃
    refine ⟨rfl, .bool true, #[], ?_, by simp, rfl, _, hK.rely r₃⟩
    simp [G, stepG, unwind, doReturn, results, Frame.at, base, Try.func8, Try.f8, seen, GStep.after]
  have h401' : decide ((400 : Int) < (m : Int)) = false := by rw [decide_eq_false_iff_not]; omega
  obtain ⟨N, hN⟩ : ∃ N, Hide (n + m = N) := ⟨_, hide rfl⟩
  have hN' : n + m < 17592186044416 := by omega
  have hN1 : N < 17592186044416 := by have hh : n + m = N := hN; omega
  obtain ⟨X, hX⟩ : ∃ X, Hide (firstZ (fun i => isZ kd (f i)) 0 n = X) := ⟨_, hide rfl⟩
  obtain ⟨Y, hY⟩ : ∃ Y, Hide (firstZ (fun i => isZ kd (f2 i)) 0 m = Y) := ⟨_, hide rfl⟩
  obtain ⟨Z, hZ⟩ : ∃ Z, Hide (firstZ (fun i => isZ kd (catZ f f2 n i)) 0 N = Z) := ⟨_, hide rfl⟩
  have hXYZ : Z = if X < 0 then (if Y < 0 then -1 else (n : Int) + Y) else X := by
    have e1 : n + m = N := hN
    have e2 : firstZ (fun i => isZ kd (f i)) 0 n = X := hX
    have e3 : firstZ (fun i => isZ kd (f2 i)) 0 m = Y := hY
    have e4 : firstZ (fun i => isZ kd (catZ f f2 n i)) 0 N = Z := hZ
    rw [← e4, ← e1, firstZ_cat, e2, e3]
  have hX1 : Hide (X < 0 → X = -1) := hide <| by
    have e2 : firstZ (fun i => isZ kd (f i)) 0 n = X := hX
    rw [← e2]; exact firstZ_neg _ _ _
  have hYm : Y < m ∨ m = 0 ∧ Y < 0 := by
    have e3 : firstZ (fun i => isZ kd (f2 i)) 0 m = Y := hY
    rcases firstZ_le (fun i => isZ kd (f2 i)) m 0 with h | h
    · left; omega
    · subst h; right; rw [← e3]; simp [firstZ]
  have hF := atRel_refl w
  refine Gets.silent 60 ?_
  simp only [body8, Try.f8, Option.getD_some]
  repeat w_go at_rl
  refine Goes.stop (fun w₁ r₁ => ?_)
  replace hF := at_rl hF r₁
  clear r₁
  replace hK := hK.rely hF
  replace hI := hI.rely hF
  replace hJ := hJ.rely hF
  clear hF
  refine Gets.val 0 rfl rfl (by k_ne) fun w₂ r => ⟨.slice (some ⟨w₂.heap.size, 0, Option.none⟩) 2 2, w₂.alloc (.cells #[.slice a n c, .slice a2 m c2] 22), by simp [go_sem, execOp, Act.eval], by simp [go_sem, execOp, Act.eval], ?_⟩
  replace hK := hK.rely r
  replace hI := hI.rely r
  replace hJ := hJ.rely r
  have hg : w₂.heap.size < (w₂.alloc (.cells #[.slice a n c, .slice a2 m c2] 22)).heap.size := by simp
  have hgS : ¬ (fun _ : Nat => False) w₂.heap.size := fun hb => hb
  have k1 : (w₂.alloc (.cells #[.slice a n c, .slice a2 m c2] 22)).cell? ⟨w₂.heap.size, 0, Option.none⟩ = some (.slice a n c) := by simp
  have k2 : (w₂.alloc (.cells #[.slice a n c, .slice a2 m c2] 22)).cell? ⟨w₂.heap.size, 1, Option.none⟩ = some (.slice a2 m c2) := by simp
  replace hI := hI.kept (((Grew.refl w₂).alloc (.cells #[.slice a n c, .slice a2 m c2] 22)).kept (fun _ => False))
  replace hJ := hJ.kept (((Grew.refl w₂).alloc (.cells #[.slice a n c, .slice a2 m c2] 22)).kept (fun _ => False))
  replace hK := hK.trans (((Grew.refl w₂).alloc (.cells #[.slice a n c, .slice a2 m c2] 22)).kept (fun _ => False))
  generalize w₂.heap.size = gb at hg hgS k1 k2 ⊢
  generalize w₂.alloc (.cells #[.slice a n c, .slice a2 m c2] 22) = w₃ at hK hI hJ hg k1 k2 ⊢
  clear r
  have hF := atRel_refl w₃
  refine Gets.silent 20 ?_
  walk_nrm
  repeat w_go at_rl
  u_call Try.func27 nm27 Try.f27 at_rl hF
  refine Goes.stop (fun w₁ r₁ => ?_)
  replace hF := at_rl hF r₁
  clear r₁
  replace hK := hK.rely hF
  replace hI := hI.rely hF
  replace hJ := hJ.rely hF
  have hg := show gb < w₁.heap.size by obtain ⟨dd, rfl⟩ := hF; exact hg
  have k1 := (show w₁.cell? _ = _ by obtain ⟨dd, rfl⟩ := hF; exact k1)
  have k2 := (show w₁.cell? _ = _ by obtain ⟨dd, rfl⟩ := hF; exact k2)
  clear hF
  refine concatGets hN' (hK.bound hS) hg hgS k1 k2 hI hJ fun w₄ ac cc hk hC => ?_
  rw [show n + m = N from hN] at hC ⊢
  replace hI := hI.kept hk
  replace hJ := hJ.kept hk
  replace hK := hK.trans hk
  clear hk hg hgS k1 k2
  have hF := atRel_refl w₄
  refine Gets.silent 60 ?_
  walk_nrm
  repeat w_go at_rl
  u_call Try.func12 nm12 Try.f12 at_rl hF
  refine Goes.stop (fun w₁ r₁ => ?_)
  replace hF := at_rl hF r₁
  clear r₁
  replace hK := hK.rely hF
  replace hI := hI.rely hF
  replace hJ := hJ.rely hF
  replace hC := hC.rely hF
  clear hF
  refine make12 (hK.bound hS) fun w₄ fd cap hk hfun => ?_
  replace hI := hI.kept hk
  replace hJ := hJ.kept hk
  replace hC := hC.kept hk
  replace hK := hK.trans hk
  clear hk
  have hF := atRel_refl w₄
  refine Gets.silent 20 ?_
  walk_nrm
  repeat w_go at_rl
  u_call Try.func11 nm11 Try.f11 at_rl hF
  refine Goes.stop (fun w₁ r₁ => ?_)
  replace hF := at_rl hF r₁
  clear r₁
  replace hK := hK.rely hF
  replace hI := hI.rely hF
  replace hJ := hJ.rely hF
  replace hC := hC.rely hF
  replace hfun := hfun.rely hF
  clear hF
  refine enter11 (n := N) hN1 (hK.bound hS) hC hfun fun w₅ S₅ hk hlt hnS hc => ?_
  have hO := Ints.row hlt hnS hc
  replace hI := hI.kept hk
  replace hJ := hJ.kept hk
  replace hC := hC.kept hk
  replace hK := hK.trans hk
  clear hk hfun hc hlt hnS
  generalize w₁.heap.size + 2 = g2 at hO ⊢
  have hF := atRel_refl w₅
  refine Gets.silent 60 ?_
  walk_nrm
  repeat w_go at_rl
  u_call Try.func12 nm12 Try.f12 at_rl hF
  refine Goes.stop (fun w₁ r₁ => ?_)
  replace hF := at_rl hF r₁
  clear r₁
  replace hK := hK.rely hF
  replace hI := hI.rely hF
  replace hJ := hJ.rely hF
  replace hC := hC.rely hF
  replace hO := hO.rely hF
  clear hF
  refine make12 (hK.bound hS) fun w₄ fd cap hk hfun => ?_
  replace hI := hI.kept hk
  replace hJ := hJ.kept hk
  replace hC := hC.kept hk
  replace hO := hO.kept hk
  replace hK := hK.trans hk
  clear hk
  have hF := atRel_refl w₄
  refine Gets.silent 20 ?_
  walk_nrm
  repeat w_go at_rl
  u_call Try.func11 nm11 Try.f11 at_rl hF
  refine Goes.stop (fun w₁ r₁ => ?_)
  replace hF := at_rl hF r₁
  clear r₁
  replace hK := hK.rely hF
  replace hI := hI.rely hF
  replace hJ := hJ.rely hF
  replace hC := hC.rely hF
  replace hO := hO.rely hF
  replace hfun := hfun.rely hF
  clear hF
  refine enter11 (n := n) hn (hK.bound hS) hI hfun fun w₅ S₅ hk hlt hnS hc => ?_
  have hP := Ints.row hlt hnS hc
  replace hI := hI.kept hk
  replace hJ := hJ.kept hk
  replace hC := hC.kept hk
  replace hO := hO.kept hk
  replace hK := hK.trans hk
  clear hk hfun hc hlt hnS
  generalize w₁.heap.size + 2 = g3 at hP ⊢
  have hF := atRel_refl w₅
  refine Gets.silent 60 ?_
  walk_nrm
  repeat w_go at_rl
  u_call Try.func12 nm12 Try.f12 at_rl hF
  refine Goes.stop (fun w₁ r₁ => ?_)
  replace hF := at_rl hF r₁
  clear r₁
  replace hK := hK.rely hF
  replace hI := hI.rely hF
  replace hJ := hJ.rely hF
  replace hC := hC.rely hF
  replace hO := hO.rely hF
  replace hP := hP.rely hF
  clear hF
  refine make12 (hK.bound hS) fun w₄ fd cap hk hfun => ?_
  replace hI := hI.kept hk
  replace hJ := hJ.kept hk
  replace hC := hC.kept hk
  replace hO := hO.kept hk
  replace hP := hP.kept hk
  replace hK := hK.trans hk
  clear hk
  have hF := atRel_refl w₄
  refine Gets.silent 20 ?_
  walk_nrm
  repeat w_go at_rl
  u_call Try.func11 nm11 Try.f11 at_rl hF
  refine Goes.stop (fun w₁ r₁ => ?_)
  replace hF := at_rl hF r₁
  clear r₁
  replace hK := hK.rely hF
  replace hI := hI.rely hF
  replace hJ := hJ.rely hF
  replace hC := hC.rely hF
  replace hO := hO.rely hF
  replace hP := hP.rely hF
  replace hfun := hfun.rely hF
  clear hF
  refine enter11 (n := m) hm (hK.bound hS) hJ hfun fun w₅ S₅ hk hlt hnS hc => ?_
  have hR := Ints.row hlt hnS hc
  replace hI := hI.kept hk
  replace hJ := hJ.kept hk
  replace hC := hC.kept hk
  replace hO := hO.kept hk
  replace hP := hP.kept hk
  replace hK := hK.trans hk
  clear hk hfun hc hlt hnS
  generalize w₁.heap.size + 2 = g4 at hR ⊢
  have hF := atRel_refl w₅
  refine Gets.silent 20 ?_
  walk_nrm
  repeat w_go at_rl
  refine Goes.stop (fun w₁ r₁ => ?_)
  replace hF := at_rl hF r₁
  clear r₁
  replace hK := hK.rely hF
  replace hI := hI.rely hF
  replace hJ := hJ.rely hF
  replace hC := hC.rely hF
  replace hO := hO.rely hF
  replace hP := hP.rely hF
  replace hR := hR.rely hF
  clear hF
  refine Gets.val 0 rfl rfl (by k_ne) fun w₂ r => ⟨.slice (some ⟨w₂.heap.size, 0, Option.none⟩) 2 2, w₂.alloc (.cells #[.slice (some ⟨g3, 0, Option.none⟩) n n, .slice (some ⟨g4, 0, Option.none⟩) m m] 22), by simp [go_sem, execOp, Act.eval], by simp [go_sem, execOp, Act.eval], ?_⟩
  replace hK := hK.rely r
  replace hI := hI.rely r
  replace hJ := hJ.rely r
  replace hC := hC.rely r
  replace hO := hO.rely r
  replace hP := hP.rely r
  replace hR := hR.rely r
  have hg : w₂.heap.size < (w₂.alloc (.cells #[.slice (some ⟨g3, 0, Option.none⟩) n n, .slice (some ⟨g4, 0, Option.none⟩) m m] 22)).heap.size := by simp
  have hgS : ¬ S₅ w₂.heap.size := fun hb => by have := hK.bound hS _ hb; omega
  have k1 : (w₂.alloc (.cells #[.slice (some ⟨g3, 0, Option.none⟩) n n, .slice (some ⟨g4, 0, Option.none⟩) m m] 22)).cell? ⟨w₂.heap.size, 0, Option.none⟩ = some (.slice (some ⟨g3, 0, Option.none⟩) n n) := by simp
  have k2 : (w₂.alloc (.cells #[.slice (some ⟨g3, 0, Option.none⟩) n n, .slice (some ⟨g4, 0, Option.none⟩) m m] 22)).cell? ⟨w₂.heap.size, 1, Option.none⟩ = some (.slice (some ⟨g4, 0, Option.none⟩) m m) := by simp
  replace hI := hI.kept (((Grew.refl w₂).alloc (.cells #[.slice (some ⟨g3, 0, Option.none⟩) n n, .slice (some ⟨g4, 0, Option.none⟩) m m] 22)).kept S₅)
  replace hJ := hJ.kept (((Grew.refl w₂).alloc (.cells #[.slice (some ⟨g3, 0, Option.none⟩) n n, .slice (some ⟨g4, 0, Option.none⟩) m m] 22)).kept S₅)
  replace hC := hC.kept (((Grew.refl w₂).alloc (.cells #[.slice (some ⟨g3, 0, Option.none⟩) n n, .slice (some ⟨g4, 0, Option.none⟩) m m] 22)).kept S₅)
  replace hO := hO.kept (((Grew.refl w₂).alloc (.cells #[.slice (some ⟨g3, 0, Option.none⟩) n n, .slice (some ⟨g4, 0, Option.none⟩) m m] 22)).kept S₅)
  replace hP := hP.kept (((Grew.refl w₂).alloc (.cells #[.slice (some ⟨g3, 0, Option.none⟩) n n, .slice (some ⟨g4, 0, Option.none⟩) m m] 22)).kept S₅)
  replace hR := hR.kept (((Grew.refl w₂).alloc (.cells #[.slice (some ⟨g3, 0, Option.none⟩) n n, .slice (some ⟨g4, 0, Option.none⟩) m m] 22)).kept S₅)
  replace hK := hK.trans (((Grew.refl w₂).alloc (.cells #[.slice (some ⟨g3, 0, Option.none⟩) n n, .slice (some ⟨g4, 0, Option.none⟩) m m] 22)).kept S₅)
  generalize w₂.heap.size = gb at hg hgS k1 k2 ⊢
  generalize w₂.alloc (.cells #[.slice (some ⟨g3, 0, Option.none⟩) n n, .slice (some ⟨g4, 0, Option.none⟩) m m] 22) = w₃ at hK hI hJ hC hO hP hR hg k1 k2 ⊢
  clear r
  have hF := atRel_refl w₃
  refine Gets.silent 20 ?_
  walk_nrm
  repeat w_go at_rl
  u_call Try.func27 nm27 Try.f27 at_rl hF
  refine Goes.stop (fun w₁ r₁ => ?_)
  replace hF := at_rl hF r₁
  clear r₁
  replace hK := hK.rely hF
  replace hI := hI.rely hF
  replace hJ := hJ.rely hF
  replace hC := hC.rely hF
  replace hO := hO.rely hF
  replace hP := hP.rely hF
  replace hR := hR.rely hF
  have hg := show gb < w₁.heap.size by obtain ⟨dd, rfl⟩ := hF; exact hg
  have k1 := (show w₁.cell? _ = _ by obtain ⟨dd, rfl⟩ := hF; exact k1)
  have k2 := (show w₁.cell? _ = _ by obtain ⟨dd, rfl⟩ := hF; exact k2)
  clear hF
  refine concatGets hN' (hK.bound hS) hg hgS k1 k2 hP hR fun w₄ at' ct hk hT => ?_
  rw [show n + m = N from hN] at hT ⊢
  replace hI := hI.kept hk
  replace hJ := hJ.kept hk
  replace hC := hC.kept hk
  replace hO := hO.kept hk
  replace hK := hK.trans hk
  clear hk hg hgS k1 k2 hP hR
  replace hT := hT.congr (g := fun i => doesZ kd (catZ f f2 n i)) fun i _ => by simp only [catZ]; split <;> rfl
  have hF := atRel_refl w₄
  refine Gets.silent 20 ?_
  walk_nrm
  repeat w_go at_rl
  u_call Try.func10 nm10 Try.f10 at_rl hF
  refine Goes.stop (fun w₁ r₁ => ?_)
  replace hF := at_rl hF r₁
  clear r₁
  replace hK := hK.rely hF
  replace hI := hI.rely hF
  replace hJ := hJ.rely hF
  replace hC := hC.rely hF
  replace hO := hO.rely hF
  replace hT := hT.rely hF
  clear hF
  refine equalGets (n := N) hN1 hO hT fun w₆ r => ?_
  replace hK := hK.rely r
  replace hI := hI.rely r
  replace hJ := hJ.rely r
  replace hC := hC.rely r
  clear hO hT r
  have hF := atRel_refl w₆
  refine Gets.silent 60 ?_
  walk_nrm
  repeat w_go at_rl
  u_call Try.func15 nm15 Try.f15 at_rl hF
  refine Goes.stop (fun w₁ r₁ => ?_)
  replace hF := at_rl hF r₁
  clear r₁
  replace hK := hK.rely hF
  replace hI := hI.rely hF
  replace hJ := hJ.rely hF
  replace hC := hC.rely hF
  clear hF
  refine make15 (hK.bound hS) fun w₄ fd cap hk hfun => ?_
  replace hI := hI.kept hk
  replace hJ := hJ.kept hk
  replace hC := hC.kept hk
  replace hK := hK.trans hk
  clear hk
  have hF := atRel_refl w₄
  refine Gets.silent 20 ?_
  walk_nrm
  repeat w_go at_rl
  u_call Try.func14 nm14 Try.f14 at_rl hF
  refine Goes.stop (fun w₁ r₁ => ?_)
  replace hF := at_rl hF r₁
  clear r₁
  replace hK := hK.rely hF
  replace hI := hI.rely hF
  replace hJ := hJ.rely hF
  replace hC := hC.rely hF
  replace hfun := hfun.rely hF
  clear hF
  refine enter14 (n := n) hn (hK.bound hS) hI hfun fun w₅ S₅ hk => ?_
  replace hI := hI.kept hk
  replace hJ := hJ.kept hk
  replace hC := hC.kept hk
  replace hK := hK.trans hk
  clear hk hfun
  rw [show firstZ _ 0 n = X from hX]
  clear hN
  by_cases hx : ¬ X < 0
  · have dX : decide (X < 0) = false := by rw [decide_eq_false_iff_not]; omega
    obtain rfl : Z = X := by rw [hXYZ, if_neg hx]
    clear hXYZ hX1 hYm hY hI hJ
    have hF := atRel_refl w₅
    refine Gets.silent 60 ?_
    walk_nrm
    repeat w_go at_rl
    u_call Try.func15 nm15 Try.f15 at_rl hF
    refine Goes.stop (fun w₁ r₁ => ?_)
    replace hF := at_rl hF r₁
    clear r₁
    replace hK := hK.rely hF
    replace hC := hC.rely hF
    clear hF
    refine make15 (hK.bound hS) fun w₄ fd cap hk hfun => ?_
    replace hC := hC.kept hk
    replace hK := hK.trans hk
    clear hk
    have hF := atRel_refl w₄
    refine Gets.silent 20 ?_
    walk_nrm
    repeat w_go at_rl
    u_call Try.func14 nm14 Try.f14 at_rl hF
    refine Goes.stop (fun w₁ r₁ => ?_)
    replace hF := at_rl hF r₁
    clear r₁
    replace hK := hK.rely hF
    replace hC := hC.rely hF
    replace hfun := hfun.rely hF
    clear hF
    refine enter14 (n := N) hN1 (hK.bound hS) hC hfun fun w₅ S₅ hk => ?_
    replace hK := hK.trans hk
    clear hk hfun
    rw [show firstZ _ 0 N = Z from hZ]
    clear hC
    have hF := atRel_refl w₅
    refine Gets.silent 80 ?_
    walk_nrm
    repeat w_go at_rl
    u_call Try.func9 nm9 Try.f9 at_rl hF
    refine Goes.stop (fun w₁ r₁ => ?_)
    replace hF := at_rl hF r₁
    clear r₁
    replace hK := hK.rely hF
    clear hF
    refine worksGets (hK.bound hS) fun w₈ S₈ hk => ?_
    replace hK := hK.trans hk
    clear hk
    have hF := atRel_refl w₈
    refine Gets.silent 60 ?_
    walk_nrm
    repeat w_go at_rl
    refine Goes.stop (fun w₁ r₁ => Gets.here fun w₂ r₂ => ?_)
    replace hF := at_rl (at_rl hF r₁) r₂
    replace hK := hK.rely hF
    intro w₃ r₃
    refine ⟨rfl, .bool true, #[], ?_, by simp, rfl, _, hK.rely r₃⟩
    simp [G, stepG, unwind, doReturn, results, Frame.at, base, Try.func8, Try.f8, seen, GStep.after]
  replace hx : X < 0 := by omega
  have dX : decide (X < 0) = true := by rw [decide_eq_true_iff]; omega
  have hF := atRel_refl w₅
  refine Gets.silent 60 ?_
  walk_nrm
  repeat w_go at_rl
  u_call Try.func15 nm15 Try.f15 at_rl hF
  refine Goes.stop (fun w₁ r₁ => ?_)
  replace hF := at_rl hF r₁
  clear r₁
  replace hK := hK.rely hF
  replace hI := hI.rely hF
  replace hJ := hJ.rely hF
  replace hC := hC.rely hF
  clear hF
  refine make15 (hK.bound hS) fun w₄ fd cap hk hfun => ?_
  replace hI := hI.kept hk
  replace hJ := hJ.kept hk
  replace hC := hC.kept hk
  replace hK := hK.trans hk
  clear hk
  have hF := atRel_refl w₄
  refine Gets.silent 20 ?_
  walk_nrm
  repeat w_go at_rl
  u_call Try.func14 nm14 Try.f14 at_rl hF
  refine Goes.stop (fun w₁ r₁ => ?_)
  replace hF := at_rl hF r₁
  clear r₁
  replace hK := hK.rely hF
  replace hI := hI.rely hF
  replace hJ := hJ.rely hF
  replace hC := hC.rely hF
  replace hfun := hfun.rely hF
  clear hF
  refine enter14 (n := m) hm (hK.bound hS) hJ hfun fun w₅ S₅ hk => ?_
  replace hC := hC.kept hk
  replace hK := hK.trans hk
  clear hk hfun
  rw [show firstZ _ 0 m = Y from hY]
  clear hI hJ
  by_cases hy : Y < 0
  · have dY : decide (0 ≤ Y) = false := by rw [decide_eq_false_iff_not]; omega
    obtain rfl : Z = X := by rw [hXYZ, if_pos hx, if_pos hy, (show X < 0 → X = -1 from hX1) hx]
    clear hXYZ hX1 hYm
    have hF := atRel_refl w₅
    refine Gets.silent 80 ?_
    walk_nrm
    repeat w_go at_rl
    u_call Try.func15 nm15 Try.f15 at_rl hF
    refine Goes.stop (fun w₁ r₁ => ?_)
    replace hF := at_rl hF r₁
    clear r₁
    replace hK := hK.rely hF
    replace hC := hC.rely hF
    clear hF
    refine make15 (hK.bound hS) fun w₄ fd cap hk hfun => ?_
    replace hC := hC.kept hk
    replace hK := hK.trans hk
    clear hk
    have hF := atRel_refl w₄
    refine Gets.silent 20 ?_
    walk_nrm
    repeat w_go at_rl
    u_call Try.func14 nm14 Try.f14 at_rl hF
    refine Goes.stop (fun w₁ r₁ => ?_)
    replace hF := at_rl hF r₁
    clear r₁
    replace hK := hK.rely hF
    replace hC := hC.rely hF
    replace hfun := hfun.rely hF
    clear hF
    refine enter14 (n := N) hN1 (hK.bound hS) hC hfun fun w₅ S₅ hk => ?_
    replace hK := hK.trans hk
    clear hk hfun
    rw [show firstZ _ 0 N = Z from hZ]
    clear hC
    have hF := atRel_refl w₅
    refine Gets.silent 80 ?_
    walk_nrm
    repeat w_go at_rl
    u_call Try.func9 nm9 Try.f9 at_rl hF
    refine Goes.stop (fun w₁ r₁ => ?_)
    replace hF := at_rl hF r₁
    clear r₁
    replace hK := hK.rely hF
    clear hF
    refine worksGets (hK.bound hS) fun w₈ S₈ hk => ?_
    replace hK := hK.trans hk
    clear hk
    have hF := atRel_refl w₈
    refine Gets.silent 60 ?_
    walk_nrm
    repeat w_go at_rl
    refine Goes.stop (fun w₁ r₁ => Gets.here fun w₂ r₂ => ?_)
    replace hF := at_rl (at_rl hF r₁) r₂
    replace hK := hK.rely hF
    intro w₃ r₃
    refine ⟨rfl, .bool true, #[], ?_, by simp, rfl, _, hK.rely r₃⟩
    simp [G, stepG, unwind, doReturn, results, Frame.at, base, Try.func8, Try.f8, seen, GStep.after]
  have dY : decide (0 ≤ Y) = true := by rw [decide_eq_true_iff]; omega
  have hs : IntKind.i64.wrap ((n : Int) + Y) = Z := by rw [hXYZ, if_pos hx, if_neg hy, IntKind.wrap_i64]; omega
  clear hXYZ hX1 hYm
  have hF := atRel_refl w₅
  refine Gets.silent 80 ?_
  walk_nrm
  repeat w_go at_rl
  u_call Try.func15 nm15 Try.f15 at_rl hF
  refine Goes.stop (fun w₁ r₁ => ?_)
  replace hF := at_rl hF r₁
  clear r₁
  replace hK := hK.rely hF
  replace hC := hC.rely hF
  clear hF
  refine make15 (hK.bound hS) fun w₄ fd cap hk hfun => ?_
  replace hC := hC.kept hk
  replace hK := hK.trans hk
  clear hk
  have hF := atRel_refl w₄
  refine Gets.silent 20 ?_
  walk_nrm
  repeat w_go at_rl
  u_call Try.func14 nm14 Try.f14 at_rl hF
  refine Goes.stop (fun w₁ r₁ => ?_)
  replace hF := at_rl hF r₁
  clear r₁
  replace hK := hK.rely hF
  replace hC := hC.rely hF
  replace hfun := hfun.rely hF
  clear hF
  refine enter14 (n := N) hN1 (hK.bound hS) hC hfun fun w₅ S₅ hk => ?_
  replace hK := hK.trans hk
  clear hk hfun
  rw [show firstZ _ 0 N = Z from hZ]
  clear hC
  have hF := atRel_refl w₅
  refine Gets.silent 80 ?_
  walk_nrm
  repeat w_go at_rl
  u_call Try.func9 nm9 Try.f9 at_rl hF
  refine Goes.stop (fun w₁ r₁ => ?_)
  replace hF := at_rl hF r₁
  clear r₁
  replace hK := hK.rely hF
  clear hF
  refine worksGets (hK.bound hS) fun w₈ S₈ hk => ?_
  replace hK := hK.trans hk
  clear hk
  have hF := atRel_refl w₈
  refine Gets.silent 60 ?_
  walk_nrm
  repeat w_go at_rl
  refine Goes.stop (fun w₁ r₁ => Gets.here fun w₂ r₂ => ?_)
  replace hF := at_rl (at_rl hF r₁) r₂
  replace hK := hK.rely hF
  intro w₃ r₃
  refine ⟨rfl, .bool true, #[], ?_, by simp, rfl, _, hK.rely r₃⟩
  simp [G, stepG, unwind, doReturn, results, Frame.at, base, Try.func8, Try.f8, seen, GStep.after]
end Go.Proofs.Ytpkiojchlficcaa.Crew

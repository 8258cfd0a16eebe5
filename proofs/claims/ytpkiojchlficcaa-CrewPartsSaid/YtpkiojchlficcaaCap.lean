/- What is asked of a worker at a greater depth is asked at a smaller; a family of depths with a cap. -/
import Derived.Test.YtpkiojchlficcaaStepW2
namespace Go.Proofs.Ytpkiojchlficcaa.Crew
open Go Go.Conc
section
variable {C : Cf} {Nx Nx' : Th → Goroutine → World → Prop} (h : ∀ T g w, Nx T g w → Nx' T g w)
include h
theorem AfterW.mono {T' : Th} {g : Goroutine} {w : World} (x : AfterW C Nx T' g w) : AfterW C Nx' T' g w := by
  unfold AfterW at x ⊢
  split
  · rename_i e; rw [if_pos e] at x; exact x
  · rename_i e; rw [if_neg e] at x
    obtain ⟨m, x⟩ := x
    exact ⟨m, goes_mono (fun _ _ _ d => d) (fun _ _ y => h _ _ _ y) x⟩
theorem StpW.mono {T : Th} {g : Goroutine} {w : World} (x : StpW C Nx T g w) : StpW C Nx' T g w := by
  obtain ⟨x1, x2, x3⟩ := x
  refine ⟨x1, fun e => ?_, fun e => ?_⟩
  · obtain ⟨g₂, a1, a2, a3, a4, a5, a6, a7⟩ := x2 e
    refine ⟨g₂, a1, a2, a3, a4, fun i hi w₁ r => ?_, fun w₁ r => (a6 w₁ r).mono h, fun w₁ r => (a7 w₁ r).mono h⟩
    obtain ⟨m, y⟩ := a5 i hi w₁ r
    exact ⟨m, goes_mono (fun _ _ _ d => d) (fun _ _ z => ⟨z.1, h _ _ _ z.2⟩) y⟩
  · obtain ⟨a1, a2, a3⟩ := x3 e
    refine ⟨a1, a2, fun s hs hsm => ⟨(a3 s hs hsm).1, fun hne => ?_⟩⟩
    obtain ⟨r, hr, y⟩ := (a3 s hs hsm).2 hne
    refine ⟨r, hr, fun hb => ?_⟩
    obtain ⟨g', w', es, b1, b2, b3, b4, b5⟩ := y hb
    exact ⟨g', w', es, b1, b2, b3, b4, b5.mono h⟩
end
theorem Wk.less {C : Cf} : ∀ {k : Nat} {T : Th} {g : Goroutine} {w : World}, Wk C (k + 1) T g w → Wk C k T g w
  | 0, _, _, _, _ => trivial
  | _ + 1, _, _, _, x => StpW.mono (fun _ _ _ y => Wk.less y) x
theorem Wk.le {C : Cf} {k k' : Nat} (h : k ≤ k') {T : Th} {g : Goroutine} {w : World} (x : Wk C k' T g w) : Wk C k T g w := by
  obtain ⟨r, rfl⟩ := Nat.exists_eq_add_of_le h
  induction r with
  | zero => exact x
  | succ r ih => exact ih (by omega) (Wk.less x)
/-- The depth beyond which nothing is asked. -/
class Cap where
  K : Nat
/-- What is asked of a worker at a stop, at the depth that the cap lets. -/
abbrev WK [Cap] (C : Cf) (k : Nat) (T : Th) (g : Goroutine) (w : World) : Prop := Wk C (min k Cap.K) T g w
theorem WK.of_stp [Cap] {C : Cf} {k : Nat} {T : Th} {g : Goroutine} {w : World} (x : StpW C (WK C k) T g w) : WK C (k + 1) T g w := by
  unfold WK at x ⊢
  have x' : Wk C (min k Cap.K + 1) T g w := x
  exact Wk.le (by omega) x'
theorem WK.zero [Cap] {C : Cf} {T : Th} {g : Goroutine} {w : World} : WK C 0 T g w := by
  unfold WK
  rw [Nat.zero_min]
  trivial
end Go.Proofs.Ytpkiojchlficcaa.Crew

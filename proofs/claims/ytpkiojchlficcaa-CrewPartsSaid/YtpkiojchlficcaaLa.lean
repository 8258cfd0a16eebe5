/- The laws' ground: a law's run: from its entry, alone, to its return. -/
import Derived.Test.YtpkiojchlficcaaWo
set_option linter.unusedSimpArgs false
namespace Go.Proofs.Ytpkiojchlficcaa.Crew
open Go Go.Conc Go.ConcN Go.RowKit Go.Conc.Lib Go.ConcR.Gen
open Go.ConcM (OsLater goes_pad goes_le)
open Go.ConcR (KK wgBlock WgAt stA smA rd wr mk DC0)
/-- WHAT A LAW LEAVES: true; all that was stands. -/
def PostL (w : World) (v : Value) (w' : World) : Prop := v = .bool true ∧ ∃ S', Kept w (fun _ => False) w' S'
/-- Goroutine 0 stands at the step that ends the run. -/
def Done (Post : Value → World → Prop) (g : Goroutine) (w : World) (S : Nat → Prop) : Prop := ∀ w₁, AtRel w w₁ → AtEnd Try.prog (ShB S) 0 Post g w₁
/-- ████ THE RUN, out of the walk. ████ -/
theorem run_of_gets {g : Goroutine} {w : World} {Post : Value → World → Prop} (h : Gets g w (fun _ => False) (Done Post)) :
    ∃ M last o w' t', runNT Try.prog (M + 1) (solo g w) #[] = (.ended o w', t') ∧ runN Try.prog M (solo g w) = .next last ∧ step Try.prog last = .ended o w' ∧ Conc.Good Try.prog Post last o w' t' := by
  have past0 : Past (ShB fun _ => False) 0 #[] := by
    have := past_nil
    exact ⟨this.clean, fun i a ha hm => (this.known i a ha hm).imp id fun hh => hh.1.elim, this.over, this.hears, this.seen⟩
  obtain ⟨n, gs', g', w', sl', t', S', h1, h2, h3⟩ := h w (atRel_refl _) #[g] Option.none #[] ⟨rfl, ⟨_, leavers_one _ _⟩, ⟨0, past0⟩⟩
  obtain ⟨q, hL⟩ := h2.lv
  obtain ⟨B, hP⟩ := h2.pa
  have hG : Goes Try.prog true AtRel (DE (EvL (ShB S') B)) (AtEnd Try.prog (ShB S') B Post) 0 g' w' := fun w₁ r => by
    obtain ⟨a1, v, es, a2, a3, a4⟩ := h3 w₁ r
    exact ⟨a1, v, es, a2, fun e he => evL_up (a3 e he) (Nat.zero_le _), a4⟩
  obtain ⟨M, last, o, w'', t'', e1, e2, e3, e4⟩ := beside_ends (P := Try.prog) (fun _ _ _ d => d) h2.h0 hL hP hG
  rw [solo_eq_crowd]
  refine ⟨n + M, last, o, w'', t'', ?_, ?_, e3, e4⟩
  · rw [Nat.add_assoc, runNT_add, h1]; exact e1
  · rw [runN_add, ← runNT_fst Try.prog _ _ #[], h1]; exact e2
end Go.Proofs.Ytpkiojchlficcaa.Crew

/- The machine beside those that only leave: goroutine 0 gets from here to there, whatever the tape; a phase of the crew, from hands' loop to its caller. -/
import Derived.Test.YtpkiojchlficcaaGi
namespace Go.Proofs.Ytpkiojchlficcaa.Crew
open Go Go.Conc Go.ConcN Go.RowKit Go.Conc.Lib Go.ConcR.Gen
open Go.ConcM (OsLater goes_pad goes_le)
open Go.ConcR (KK wgBlock WgAt stA smA rd wr mk DC0)
/-- A place in one of the blocks S. -/
def ShB (S : Nat → Prop) : Loc → Prop
  | .cell a => S a.block
  | .obj r => S r
  | _ => False
/-- A FRAME: goroutine 0's record; all others only leave; the trace is past; S: what may be touched no more. -/
structure Frm (gs : Array Goroutine) (g : Goroutine) (w : World) (t : Trace) (S : Nat → Prop) : Prop where
  h0 : gs[0]? = some g
  lv : ∃ q, Leavers Try.prog t gs q
  pa : ∃ B, Past (ShB S) B t
/-- GOROUTINE 0 GETS from g, w, S to where Q holds, whatever the tape (and however many draws the others have made). -/
def Gets (g : Goroutine) (w : World) (S : Nat → Prop) (Q : Goroutine → World → (Nat → Prop) → Prop) : Prop :=
  ∀ w₁, AtRel w w₁ → ∀ gs sl t, Frm gs g w₁ t S → ∃ n gs' g' w' sl' t' S', runNT Try.prog n (crowd gs w₁ sl) t = (.next (crowd gs' w' sl'), t') ∧ Frm gs' g' w' t' S' ∧ Q g' w' S'
theorem runNT_join {P : Program} {N N' : Nat} {m m₁ m₂ : Machine} {t t₁ t₂ : Trace} (h : runNT P N m t = (.next m₁, t₁)) (hk : runNT P N' m₁ t₁ = (.next m₂, t₂)) : runNT P (N + N') m t = (.next m₂, t₂) := by
  rw [runNT_add, h]; exact hk
section
variable {g : Goroutine} {w : World} {S : Nat → Prop} {Q Q' : Goroutine → World → (Nat → Prop) → Prop}
theorem Gets.rely {w₁ : World} (h : Gets g w S Q) (r : AtRel w w₁) : Gets g w₁ S Q := fun w₂ r₂ => h w₂ (atRel_trans _ _ _ r r₂)
theorem Gets.here (h : ∀ w₁, AtRel w w₁ → Q g w₁ S) : Gets g w S Q := fun w₁ r gs sl t f => ⟨0, gs, g, w₁, sl, t, S, rfl, f, h w₁ r⟩
theorem Gets.then (h : Gets g w S Q) (k : ∀ g' w' S', Q g' w' S' → Gets g' w' S' Q') : Gets g w S Q' := by
  intro w₁ r gs sl t f
  obtain ⟨n, gs', g', w', sl', t', S', h1, f', hq⟩ := h w₁ r gs sl t f
  obtain ⟨n', gs'', g'', w'', sl'', t'', S'', h2, f'', hq'⟩ := k g' w' S' hq w' (atRel_refl _) gs' sl' t' f'
  exact ⟨n + n', gs'', g'', w'', sl'', t'', S'', runNT_join h1 h2, f'', hq'⟩
theorem evL_up {Sh : Loc → Prop} {B B' : Nat} {e : Event} (h : EvL Sh B e) (hB : B ≤ B') : EvL Sh B' e := ⟨h.1, h.2.1, h.2.2.1, MemAct.low_mono hB h.2.2.2⟩
/-- A stretch by a number of own steps. -/
theorem Gets.goes {m : Nat} (B : Nat) (h : Goes Try.prog true AtRel (DE (EvL (ShB S) B)) (fun g' w' => Gets g' w' S Q) m g w) : Gets g w S Q := by
  intro w₁ r gs sl t f
  obtain ⟨q, hL⟩ := f.lv
  obtain ⟨B₀, hP⟩ := f.pa
  have h' : Goes Try.prog true AtRel (fun w w' es => ∀ e ∈ es, EvL (ShB S) (max B B₀) e) (fun g' w' => Gets g' w' S Q) m g w :=
    goes_mono (fun _ _ _ d e he => evL_up (d e he) (Nat.le_max_left _ _)) (fun _ _ x => x) h
  obtain ⟨n, gs', g', w', sl', t', q', hr, _, h0, hq, hL', hP'⟩ := walk_beside (P := Try.prog) (fun _ _ _ d => d) _ m gs g w₁ sl t q (Nat.le_refl _) f.h0 hL (hP.mono (Nat.le_max_right _ _)) (Goes.rely atRel_trans h' r)
  obtain ⟨n', gs'', g'', w'', sl'', t'', S'', h2, f'', hq'⟩ := hq w' (atRel_refl _) gs' sl' t' ⟨h0, ⟨q', hL'⟩, ⟨_, hP'⟩⟩
  exact ⟨n + n', gs'', g'', w'', sl'', t'', S'', runNT_join hr h2, f'', hq'⟩
/-- A SILENT STRETCH. -/
theorem Gets.silent (m : Nat) (h : Goes Try.prog true AtRel DC0 (fun g' w' => Gets g' w' S Q) m g w) : Gets g w S Q :=
  Gets.goes 0 (goes_mono (fun _ _ _ d e he => by rw [d.2] at he; simp at he) (fun _ _ x => x) h)
/-- ONE STEP. -/
theorem Gets.step (B : Nat) (hr : g.status = .running) (h : ∀ w₁, AtRel w w₁ → ∃ g' w' es, stepG Try.prog true g w₁ = .go g' w' es ∧ (∀ e ∈ es, EvL (ShB S) B e) ∧ Gets g' w' S Q) : Gets g w S Q := by
  refine Gets.goes (m := 1) B (Goes.step hr fun w₁ r₁ => ?_)
  obtain ⟨g', w', es, h1, h2, h3⟩ := h w₁ r₁
  rw [h1]
  exact ⟨h2, Goes.stop fun w₂ r₂ => h3.rely r₂⟩
end
section
variable {Q : Goroutine → World → (Nat → Prop) → Prop}
/-- The phase's places, once all is known but the frame. -/
noncomputable def mkC (On Wg Pl St Out n : Nat) (ok : Nat → Bool) (val : Nat → Value) (gb B : Nat) (S : Nat → Prop) : Cf := { P := Try.prog, tp := ⟨On, Wg, Pl, St, Out, gb, ShB S⟩, tO := 69, tW := 75, n := n, ok := ok, val := val, B := B }
/-- ████ A PHASE: from hands' loop, no worker started, to hands' caller. ████ -/
theorem handsPhase {On Wg Pl St Out n N Dv Pv Sv : Nat} {ok : Nat → Bool} {val : Nat → Value} {S : Nat → Prop} {fd : FuncId} {cap : Array Value} {w : World} {g : Goroutine}
    {b₀ : Frame} {a₀ : Act} {ops₀ : Array Oper} {i₀ : Nat} {rest₀ : List Nat} {k₀ : List Item} {cs : List Frame}
    (geo : ∀ gb B, Geo (mkC On Wg Pl St Out n ok val gb B S)) (hn : n < 4611686018427387904) (hN : 0 < N) (hN16 : N ≤ 16)
    (hon : On < w.heap.size) (hwg : Wg < w.heap.size) (hpl : Pl < w.heap.size) (hst : St < w.heap.size) (hout : Out < w.heap.size) (hsh : ¬ S Out)
    (hR : ∃ cs ty f, w.heap[Out]? = some (.cells cs ty f)) (hs : ∀ gb B, ShAt (mkC On Wg Pl St Out n ok val gb B S) w {})
    (hPv : ∀ gb B, w.heap.size ≤ B → Var (mkC On Wg Pl St Out n ok val gb B S) w Pv (.chan (some Pl))) (hSv : ∀ gb B, w.heap.size ≤ B → Var (mkC On Wg Pl St Out n ok val gb B S) w Sv (.chan (some St)))
    (hDv : ∀ gb B, w.heap.size ≤ B → Var (mkC On Wg Pl St Out n ok val gb B S) w Dv (.func (.func fd) #[] cap)) (hDo : ∀ gb B w₁, w.heap.size ≤ B → AtRel w w₁ → Does (mkC On Wg Pl St Out n ok val gb B S) w₁ (.func (.func fd) #[] cap))
    (hg : ∀ gb B, IsHands (mkC On Wg Pl St Out n ok val gb B S) Dv Pv Sv b₀ a₀ ops₀ i₀ rest₀ k₀ cs (N : Int) 0 g) :
    Gets g w S (fun g' w' S' => Back b₀ a₀ ops₀ i₀ rest₀ k₀ cs g' w' ∧ (∀ b, S' b ↔ S b ∨ b = On ∨ b = Wg ∨ b = Pl ∨ b = St) ∧ w'.heap.size = w.heap.size ∧ w'.tape = w.tape ∧ w'.output = w.output ∧
      OsLater w.os w'.os ∧ (∀ b, b ≠ On → b ≠ Wg → b ≠ Pl → b ≠ St → b ≠ Out → w'.heap[b]? = w.heap[b]?) ∧ (∀ cs t f, w.heap[Out]? = some (.cells cs t f) → ∃ cs', w'.heap[Out]? = some (.cells cs' t f) ∧ cs'.size = cs.size) ∧
      ∃ gv, gv ≤ n ∧ (∀ i, i < gv → w'.cell? ⟨Out, i, Option.none⟩ = some (val i)) ∧ (∀ i, gv ≤ i → w'.cell? ⟨Out, i, Option.none⟩ = w.cell? ⟨Out, i, Option.none⟩) ∧ (gv = n ∨ ∃ i, i < gv ∧ ok i = false)) := by
  intro w₁ r gs sl t f
  obtain ⟨d, rfl⟩ := r
  obtain ⟨q, hL⟩ := f.lv
  obtain ⟨B₀, hP⟩ := f.pa
  have hle : w.heap.size ≤ max w.heap.size B₀ := Nat.le_max_left _ _
  have var_at : ∀ {b : Nat} {v : Value}, Var (mkC On Wg Pl St Out n ok val gs.size (max w.heap.size B₀) S) w b v → Var (mkC On Wg Pl St Out n ok val gs.size (max w.heap.size B₀) S) (w.at d) b v := fun x => ⟨x.not, x.shun, x.low, x.at0⟩
  have hgo : ∀ k, ∃ m, GoesM (mkC On Wg Pl St Out n ok val gs.size (max w.heap.size B₀) S) (Mk (mkC On Wg Pl St Out n ok val gs.size (max w.heap.size B₀) S) N (Back b₀ a₀ ops₀ i₀ rest₀ k₀ cs) k (.k1 0)) m g (w.at d) := fun k => by
    refine ⟨60, ?_⟩
    have := handsGo (C := mkC On Wg Pl St Out n ok val gs.size (max w.heap.size B₀) S) (W := w.at d) (N := N) (b₀ := b₀) (a₀ := a₀) (ops₀ := ops₀) (i₀ := i₀) (rest₀ := rest₀) (k₀ := k₀) (cs := cs) rfl (geo _ _) hn hN16 (var_at (hPv _ _ hle)) (var_at (hSv _ _ hle)) (var_at (hDv _ _ hle)) (hDo _ _ _ hle ⟨d, rfl⟩) N 0 hN rfl k g (w.at d) ⟨hg _ _, ⟨{}, (hs _ _).at d⟩, RX.refl _ _⟩
    exact gx_of_gm this
  obtain ⟨m, gs', g', w', sl', t', q', h1, _, h2, h3, h4, h5, h6, h7, gv, h8, h9, h10, h11⟩ := crew_phase (C := mkC On Wg Pl St Out n ok val gs.size (max w.heap.size B₀) S) (N := N) (w₀ := w.at d) (Anch := Back b₀ a₀ ops₀ i₀ rest₀ k₀ cs) (sl := sl) (geo _ _) rfl hN hN16 f.h0 hL hP (Nat.le_max_right _ _) (Nat.lt_of_lt_of_le hon hle) (Nat.lt_of_lt_of_le hwg hle) (Nat.lt_of_lt_of_le hpl hle) (Nat.lt_of_lt_of_le hst hle) (Nat.lt_of_lt_of_le hout hle) (fun _ => hsh) hR ((hs _ _).at d) hgo
  refine ⟨m, gs', g', w', sl', t', fun b => S b ∨ b = On ∨ b = Wg ∨ b = Pl ∨ b = St, h1, ⟨h2, ⟨q', h5⟩, ⟨_, h6.clean, fun i a ha hm => ?_, h6.over, h6.hears, h6.seen⟩⟩, h4, fun _ => Iff.rfl, h7.size, h7.tape, h7.output, h7.os, fun b b1 b2 b3 b4 b5 => h7.block b (by rintro (h | h | h | h | h) <;> contradiction), fun cs' t f e => ?_, gv, h8, h9, h10, h11⟩
  · refine (h6.known i a ha hm).imp id fun ⟨hs, hk⟩ => ⟨?_, hk⟩
    revert hs
    cases a.loc with
    | cell a =>
      rintro (h | h | h)
      · exact .inl h
      · exact .inr (.inl h)
      · exact .inr (.inr (.inl h))
    | obj r =>
      rintro (h | h | h)
      · exact .inl h
      · exact .inr (.inr (.inr (.inl h)))
      · exact .inr (.inr (.inr (.inr h)))
    | _ => rintro (h | h) <;> exact h.elim
  · obtain ⟨cs'', e', hsz, _⟩ := h7.row cs' t f e
    exact ⟨cs'', e', hsz⟩
end
end Go.Proofs.Ytpkiojchlficcaa.Crew

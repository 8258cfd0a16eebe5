/- A call of hands, whole: from its entry to its caller, beside those that only leave. -/
import Derived.Test.YtpkiojchlficcaaWr
namespace Go.Proofs.Ytpkiojchlficcaa.Crew
open Go Go.Conc Go.ConcN Go.RowKit Go.Conc.Lib Go.ConcR.Gen
open Go.ConcM (OsLater goes_pad goes_le)
open Go.ConcR (KK wgBlock WgAt stA smA rd wr mk DC0)
/-- What stands from one place to another: old blocks, all that leaves the machine; what is shunned grows by new blocks alone. -/
structure Kept (w : World) (S : Nat → Prop) (w' : World) (S' : Nat → Prop) : Prop where
  low : ∀ b, b < w.heap.size → w'.heap[b]? = w.heap[b]?
  size : w.heap.size ≤ w'.heap.size
  tape : w'.tape = w.tape
  output : w'.output = w.output
  os : OsLater w.os w'.os
  sub : ∀ b, S b → S' b
  new : ∀ b, S' b → S b ∨ (w.heap.size ≤ b ∧ b < w'.heap.size)
section
variable {w w' w'' : World} {S S' S'' : Nat → Prop}
theorem Kept.refl (w : World) (S : Nat → Prop) : Kept w S w S := ⟨fun _ _ => rfl, Nat.le_refl _, rfl, rfl, .refl _, fun _ h => h, fun _ h => .inl h⟩
theorem Kept.trans (a : Kept w S w' S') (b : Kept w' S' w'' S'') : Kept w S w'' S'' := by
  refine ⟨fun k hk => (b.low k (Nat.lt_of_lt_of_le hk a.size)).trans (a.low k hk), Nat.le_trans a.size b.size, b.tape.trans a.tape, b.output.trans a.output, a.os.trans b.os, fun k h => b.sub k (a.sub k h), fun k h => ?_⟩
  have := a.size
  have := b.size
  rcases b.new k h with h | ⟨h1, h2⟩
  · rcases a.new k h with h | ⟨h1, h2⟩
    · exact .inl h
    · exact .inr ⟨h1, by omega⟩
  · exact .inr ⟨by omega, h2⟩
theorem Kept.rely {w₁ : World} (a : Kept w S w' S') (r : AtRel w' w₁) : Kept w S w₁ S' := by obtain ⟨d, rfl⟩ := r; exact ⟨a.low, a.size, a.tape, a.output, a.os, a.sub, a.new⟩
theorem Grew.kept {l : List Obj} (h : Grew w w' l) (S : Nat → Prop) : Kept w S w' S := ⟨fun _ hb => h.low hb, by rw [h.size]; omega, h.tape, h.output, by rw [h.os]; exact .refl _, fun _ h => h, fun _ h => .inl h⟩
theorem Kept.cell (a : Kept w S w' S') {ad : Addr} (h : ad.block < w.heap.size) : w'.cell? ad = w.cell? ad := by simp only [World.cell?, a.low _ h]
theorem Kept.bound (a : Kept w S w' S') (h : ∀ b, S b → b < w.heap.size) : ∀ b, S' b → b < w'.heap.size := fun b hb => by
  have := a.size
  rcases a.new b hb with h' | ⟨_, h'⟩
  · have := h b h'; omega
  · exact h'
end
section
variable {S : Nat → Prop} {Q : Goroutine → World → (Nat → Prop) → Prop} {b₀ : Frame} {a₀ : Act} {ops₀ : Array Oper} {i₀ : Nat} {rest₀ : List Nat} {k₀ : List Item} {cs : List Frame}
/-- ████ hands, WHOLE. ████ -/
theorem handsAll {w : World} {n : Nat} {wk : Int} {fd : FuncId} {cap : Array Value} {Out : Nat} {ok : Nat → Bool} {val : Nat → Value} (hn : n < 4611686018427387904) (hS : ∀ b, S b → b < w.heap.size) (hout : Out < w.heap.size) (hsh : ¬ S Out) (hR : ∃ cs ty f, w.heap[Out]? = some (.cells cs ty f))
    (hDo : ∀ (C : Cf) (W : World), C.n = n → C.ok = ok → C.val = val → C.tp.Out = Out → Geo C → (∀ ad v, w.cell? ad = some v → ad.block < w.heap.size → ad.block ≠ Out → ¬ S ad.block → VarA C W ad v) → W.heap[Out]? = w.heap[Out]? → Does C W (.func (.func fd) #[] cap))
    (h : ∀ (w' : World) (S' : Nat → Prop), (∀ b, b < w.heap.size → b ≠ Out → w'.heap[b]? = w.heap[b]?) → w.heap.size ≤ w'.heap.size → w'.tape = w.tape → w'.output = w.output → OsLater w.os w'.os → (∀ b, S b → S' b) → (∀ b, S' b → S b ∨ (w.heap.size ≤ b ∧ b < w'.heap.size)) →
      (∀ cs t f, w.heap[Out]? = some (.cells cs t f) → ∃ cs', w'.heap[Out]? = some (.cells cs' t f) ∧ cs'.size = cs.size) →
      (∃ gv, gv ≤ n ∧ (∀ i, i < gv → w'.cell? ⟨Out, i, Option.none⟩ = some (val i)) ∧ (∀ i, gv ≤ i → w'.cell? ⟨Out, i, Option.none⟩ = w.cell? ⟨Out, i, Option.none⟩) ∧ (gv = n ∨ ∃ i, i < gv ∧ ok i = false)) →
      Gets (G (b₀.at (a₀.put ((ops₀[i₀]?).bind (·.dst)) (.tuple #[])) (.inRegion ops₀ rest₀ :: k₀)) cs) w' S' Q) :
    Gets (G ((base 28).at ⟨#[.int .i64 (n : Int), .int .i64 wk, .func (.func fd) #[] cap, undef, undef, undef, undef, undef, undef, undef, undef, undef, undef, undef, undef, undef, undef, undef, undef, undef, undef, undef, undef, undef, undef, undef, undef, undef], []⟩ [.code body28]) (b₀.at a₀ (.inRegion ops₀ (i₀ :: rest₀) :: k₀) :: cs)) w S Q := by
  refine handsEnter hS fun w' l N p s pv sv g hN hN16 hM hl h5 h6 hI => ?_
  have hsz : w'.heap.size = w.heap.size + 7 := by rw [hM.gr.size, hl]
  obtain ⟨d1, d2, d3, d4, d5, d6⟩ := hM.d
  obtain ⟨r1, r2, r3, r4, r5, r6, r7, r8⟩ := hM.r
  have five : ∀ gb B b, ¬ (b = w.heap.size + 5) → ¬ (b = w.heap.size + 6) → ¬ (b = w.heap.size + p) → ¬ (b = w.heap.size + s) → ¬ (b = Out) → ¬ Five (mkC (w.heap.size + 5) (w.heap.size + 6) (w.heap.size + p) (w.heap.size + s) Out n ok val gb B S) b := by
    rintro gb B b a1 a2 a3 a4 a5 (h | h | h | h | h) <;> contradiction
  have cellAt : ∀ {k : Nat} {v : Value} {t : TypeId}, l[k]? = some (.cells #[v] t) → w'.cell? ⟨w.heap.size + k, 0, Option.none⟩ = some v := fun {k v t} e => by
    rw [hM.gr.cell e 0]; rfl
  have var : ∀ {k : Nat} {v : Value} {t : TypeId} (gb B : Nat), w'.heap.size ≤ B → l[k]? = some (.cells #[v] t) → k < 7 → k ≠ 5 → k ≠ 6 → k ≠ p → k ≠ s → Var (mkC (w.heap.size + 5) (w.heap.size + 6) (w.heap.size + p) (w.heap.size + s) Out n ok val gb B S) w' (w.heap.size + k) v := fun {k v t} gb B hB e hk k5 k6 kp ks =>
    ⟨five _ _ _ (by omega) (by omega) (by omega) (by omega) (by omega), fun hh => by have : S (w.heap.size + k) := hh; have := hS _ this; omega, by show w.heap.size + k < B; omega, cellAt e⟩
  have hg0 : w'.heap[Out]? = w.heap[Out]? := hM.gr.low hout
  refine (handsPhase (On := w.heap.size + 5) (Wg := w.heap.size + 6) (Pl := w.heap.size + p) (St := w.heap.size + s) (Out := Out) (n := n) (N := N) (Dv := w.heap.size) (Pv := w.heap.size + pv) (Sv := w.heap.size + sv) (ok := ok) (val := val) (S := S) (fd := fd) (cap := cap) (w := w') (g := g)
    (b₀ := b₀) (a₀ := a₀) (ops₀ := ops₀) (i₀ := i₀) (rest₀ := rest₀) (k₀ := k₀) (cs := cs)
    (fun gb B => ?_) hn hN hN16 (by omega) (by omega) (by omega) (by omega) (by omega) hsh (by rw [hg0]; exact hR) (fun gb B => ?_) (fun gb B hB => var gb B hB hM.lpv (by omega) (by omega) (by omega) (by omega) (by omega)) (fun gb B hB => var gb B hB hM.lsv (by omega) (by omega) (by omega) (by omega) (by omega))
    (fun gb B hB => by have := var gb B hB hM.l0 (by omega) (by omega) (by omega) (by omega) (by omega); exact this) (fun gb B w₁ hB r => ?_) (fun gb B => hI _ rfl rfl rfl)).then fun g' w'' S' hq => ?_
  · constructor <;> simp only [mkC] <;> omega
  · refine ⟨?_, ?_, ⟨0, ?_⟩, ?_⟩
    · exact (hM.gr.get 5).trans h5
    · exact (hM.gr.get 6).trans h6
    · exact (hM.gr.get p).trans hM.lp
    · exact (hM.gr.get s).trans hM.ls
  · obtain ⟨dd, rfl⟩ := r
    refine hDo _ _ rfl rfl rfl rfl (by constructor <;> simp only [mkC] <;> omega) (fun ad v hc hlt hne hnS => ⟨five _ _ _ (by omega) (by omega) (by omega) (by omega) hne, hnS, by show ad.block < B; omega, ?_⟩) hg0
    show w'.cell? ad = some v
    rw [hM.gr.lowCell hlt]; exact hc
  · obtain ⟨hb, hS', q1, q2, q3, q4, q5, q6, q7⟩ := hq
    have hb : g' = G (b₀.at (a₀.put ((ops₀[i₀]?).bind (·.dst)) (.tuple #[])) (.inRegion ops₀ rest₀ :: k₀)) cs := hb
    subst hb
    obtain ⟨gv, g1, g2, g3, g4⟩ := q7
    refine h w'' S' (fun b hb hne => (q5 b (by omega) (by omega) (by omega) (by omega) hne).trans (hM.gr.low hb)) (by omega) (q2.trans hM.gr.tape) (q3.trans hM.gr.output) (by rw [← hM.gr.os]; exact q4) (fun b hb => (hS' b).2 (.inl hb)) (fun b hb => ?_) (fun cs t f e => q6 cs t f (hg0.trans e)) ⟨gv, g1, g2, fun i hi => (g3 i hi).trans (hM.gr.lowCell hout), g4⟩
    rcases (hS' b).1 hb with h | h | h | h | h
    · exact .inl h
    · exact .inr ⟨by omega, by omega⟩
    · exact .inr ⟨by omega, by omega⟩
    · exact .inr ⟨by omega, by omega⟩
    · exact .inr ⟨by omega, by omega⟩
end
end Go.Proofs.Ytpkiojchlficcaa.Crew

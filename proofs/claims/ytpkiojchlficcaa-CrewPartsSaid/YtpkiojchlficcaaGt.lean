/- Goroutine 0 beside those that only leave: operations that look at memory or turn it; a heap that has grown by known blocks. -/
import Derived.Test.YtpkiojchlficcaaPh
import Derived.Laws.Cover1
import Derived.Laws.Small
import Derived.Conc.SmallLaws
namespace Go.Proofs.Ytpkiojchlficcaa.Crew
open Go Go.Conc Go.ConcN Go.RowKit Go.Conc.Lib Go.ConcR.Gen
open Go.ConcM (OsLater goes_pad goes_le)
open Go.ConcR (KK wgBlock WgAt stA smA rd wr mk DC0)
section
variable {S : Nat → Prop} {Q : Goroutine → World → (Nat → Prop) → Prop} {b : Frame} {a : Act} {k : List Item} {cs : List Frame} {w : World} {ops : Array Oper} {i : Nat} {rest : List Nat} {o : Oper}
/-- An operation that yields a value. -/
theorem Gets.val (B : Nat) (ho : ops[i]? = some o) (hw : Region.wanted o (yielded ops a.tmps) = true) (hk : b.kind ≠ .early)
    (h : ∀ w₁, AtRel w w₁ → ∃ v w', (execOp a.eval o).run Try.prog w₁ = .ok (.value v) w' ∧ (∀ e ∈ (execOp a.eval o).events Try.prog w₁ #[], EvL (ShB S) B e) ∧ Gets (G (b.at (a.put o.dst v) (.inRegion ops rest :: k)) cs) w' S Q) :
    Gets (G (b.at a (.inRegion ops (i :: rest) :: k)) cs) w S Q :=
  Gets.step B rfl fun w₁ r => by
    obtain ⟨v, w', h1, h2, h3⟩ := h w₁ r
    exact ⟨_, _, _, stepG_value ho hw hk h1, fun e he => h2 e (mem_listed he), h3⟩
/-- An operation that yields nothing. -/
theorem Gets.non (B : Nat) (ho : ops[i]? = some o) (hw : Region.wanted o (yielded ops a.tmps) = true) (hk : b.kind ≠ .early)
    (h : ∀ w₁, AtRel w w₁ → ∃ w', (execOp a.eval o).run Try.prog w₁ = .ok .skip w' ∧ (∀ e ∈ (execOp a.eval o).events Try.prog w₁ #[], EvL (ShB S) B e) ∧ Gets (G (b.at (a.put o.dst undef) (.inRegion ops rest :: k)) cs) w' S Q) :
    Gets (G (b.at a (.inRegion ops (i :: rest) :: k)) cs) w S Q :=
  Gets.step B rfl fun w₁ r => by
    obtain ⟨w', h1, h2, h3⟩ := h w₁ r
    exact ⟨_, _, _, stepG_none ho hw hk h1, fun e he => h2 e (mem_listed he), h3⟩
/-- The order of a region is drawn. -/
theorem Gets.draw {id : Nat} (h : ∀ w₁ t, AtRel w w₁ → Gets (G (b.at a (.inRegion ops (Region.schedule (Try.prog.follows .mixedOrders) ops t) :: k)) cs) w₁ S Q) :
    Gets (G (b.at a (.code (.region id ops true) :: k)) cs) w S Q :=
  Gets.step 0 rfl fun w₁ r => ⟨_, _, _, stepG_draw, by simp, h { w₁ with drawn := w₁.drawn + 1 } (w₁.tape w₁.drawn (.order b.fn id)) (atRel_trans _ _ _ r ⟨w₁.drawn + 1, rfl⟩)⟩
/-- What a plain access of a cell lists. -/
theorem evL_plain {B : Nat} (a : Addr) (wr : Bool) (hS : ¬ S a.block) (hB : a.block < B) : EvL (ShB S) B ⟨.cell a, wr, false⟩ := evL_cell a wr hS hB
end
/-- THE HEAP HAS GROWN by these blocks; all else stands. -/
structure Grew (w w' : World) (l : List Obj) : Prop where
  heap : w'.heap = w.heap ++ l.toArray
  tape : w'.tape = w.tape
  output : w'.output = w.output
  os : w'.os = w.os
section
variable {w w' w₁ : World} {l : List Obj}
theorem Grew.refl (w : World) : Grew w w [] := ⟨by simp, rfl, rfl, rfl⟩
theorem Grew.at (h : Grew w w' l) (d : Nat) : Grew w (w'.at d) l := ⟨h.heap, h.tape, h.output, h.os⟩
theorem Grew.rely (h : Grew w w' l) (r : AtRel w' w₁) : Grew w w₁ l := by obtain ⟨d, rfl⟩ := r; exact h.at d
theorem Grew.alloc (h : Grew w w' l) (o : Obj) : Grew w (w'.alloc o) (l ++ [o]) := ⟨by simp [World.alloc, h.heap], h.tape, h.output, h.os⟩
theorem Grew.size (h : Grew w w' l) : w'.heap.size = w.heap.size + l.length := by rw [h.heap]; simp
theorem Grew.low (h : Grew w w' l) {b : Nat} (hb : b < w.heap.size) : w'.heap[b]? = w.heap[b]? := by rw [h.heap, Array.getElem?_append_left hb]
theorem Grew.get (h : Grew w w' l) (k : Nat) : w'.heap[w.heap.size + k]? = l[k]? := by
  rw [h.heap, Array.getElem?_append_right (by omega)]; simp
theorem Grew.cell (h : Grew w w' l) {k : Nat} {cs : Array Value} {t : TypeId} {f : Nat × Nat} (e : l[k]? = some (.cells cs t f)) (off : Nat) : w'.cell? ⟨w.heap.size + k, off, Option.none⟩ = cs[off]? := by
  simp [World.cell?, h.get k, e]
theorem Grew.thaw (h : Grew w w' l) {k : Nat} {cs : Array Value} {t : TypeId} (e : l[k]? = some (.cells cs t)) (off : Nat) : w'.frozen? ⟨w.heap.size + k, off, Option.none⟩ = false := by
  simp [World.frozen?, h.get k, e]
theorem Grew.lowCell (h : Grew w w' l) {a : Addr} (hb : a.block < w.heap.size) : w'.cell? a = w.cell? a := by
  simp only [World.cell?, h.low hb]
theorem Grew.set (h : Grew w w' l) {k : Nat} {cs : Array Value} {t : TypeId} {f : Nat × Nat} (e : l[k]? = some (.cells cs t f)) (off : Nat) (v : Value) :
    Grew w (w'.setCell ⟨w.heap.size + k, off, Option.none⟩ v) (l.set k (.cells (cs.setIfInBounds off v) t f)) := by
  refine ⟨?_, h.tape, h.output, h.os⟩
  have hk : k < l.length := (List.getElem?_eq_some_iff.1 e).1
  apply Array.ext_getElem?
  intro j
  simp only [World.setCell, h.heap]
  rw [Array.getElem?_modify]
  by_cases hj : j < w.heap.size
  · rw [if_neg (by omega), Array.getElem?_append_left hj, Array.getElem?_append_left hj]
  · rw [Array.getElem?_append_right (by omega), Array.getElem?_append_right (by omega)]
    by_cases hjk : w.heap.size + k = j
    · subst hjk
      have e' := (List.getElem?_eq_some_iff.1 e).2
      simp [hk, e']
    · rw [if_neg hjk]
      simp only [List.getElem?_toArray]
      rw [List.getElem?_set_ne (by omega)]
theorem Grew.trans {l' : List Obj} (h : Grew w w' l) (h' : Grew w' w₁ l') : Grew w w₁ (l ++ l') := ⟨by rw [h'.heap, h.heap]; simp, h'.tape.trans h.tape, h'.output.trans h.output, h'.os.trans h.os⟩
end
end Go.Proofs.Ytpkiojchlficcaa.Crew

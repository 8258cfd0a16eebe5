/- The walks: what a worker does with a place: its region's order is drawn; the row's cell is written. -/
import Derived.Test.YtpkiojchlficcaaWf
set_option linter.unusedSimpArgs false
namespace Go.Proofs.Ytpkiojchlficcaa.Crew
open Go Go.Conc Go.ConcN Go.RowKit Go.Conc.Lib Go.ConcR.Gen
open Go.ConcM (OsLater goes_pad goes_le)
open Go.ConcR (KK wgBlock WgAt stA smA rd wr mk DC0)
/-- What each of the region's first eight operations waits for. -/
def depR : Nat → List Nat
  | 5 => [3, 4]
  | 6 => [5]
  | 7 => [2, 6]
  | _ => []
def goodL : List Nat → (Nat → Bool) → Bool
  | [], d => d 0 && d 1 && d 2 && d 3 && d 4 && d 5 && d 6 && d 7
  | j :: L, d => decide (j < 8) && (depR j).all d && goodL L (fun x => x == j || d x)
noncomputable def body29 : Code := Try.f29.body.getD .skip
noncomputable def ops29 : Array Oper := match s0' (s1' body29) with | .region _ o _ => o | _ => #[]
theorem nm29 : (Try.f29.name == "runtime.NumGoroutine") = false := by kernel_rfl
theorem loud29 : (Try.prog.funcs[(base 29).fn]?).any (·.norace) = false := by kernel_rfl
theorem dep29 : (Try.prog.follows .mixedOrders || !Region.departs ops29) = true := by kernel_rfl
theorem size29 : ops29.size = 10 := by kernel_rfl
theorem all29 : (orders .any ops29 10 (Array.replicate 10 false) []).all (fun L => L == L.take 8 ++ [8, 9] && goodL (L.take 8) (fun _ => false)) = true := by kernel_rfl
theorem sched29 (t : Nat) : ∃ L, Region.schedule (Try.prog.follows .mixedOrders) ops29 t = L ++ [8, 9] ∧ L.length ≤ 8 ∧ goodL L (fun _ => false) = true := by
  have h := schedule_mem dep29 t
  rw [size29] at h
  have := List.all_eq_true.1 all29 _ h
  rw [Bool.and_eq_true] at this
  exact ⟨_, by simpa using this.1, List.length_take_le _ _, this.2⟩
noncomputable def body32 : Code := Try.f32.body.getD .skip
noncomputable def ops32 : Array Oper := match s0' (s1' body32) with | .region _ o _ => o | _ => #[]
theorem nm32 : (Try.f32.name == "runtime.NumGoroutine") = false := by kernel_rfl
theorem loud32 : (Try.prog.funcs[(base 32).fn]?).any (·.norace) = false := by kernel_rfl
theorem dep32 : (Try.prog.follows .mixedOrders || !Region.departs ops32) = true := by kernel_rfl
theorem size32 : ops32.size = 10 := by kernel_rfl
theorem all32 : (orders .any ops32 10 (Array.replicate 10 false) []).all (fun L => L == L.take 8 ++ [8, 9] && goodL (L.take 8) (fun _ => false)) = true := by kernel_rfl
theorem sched32 (t : Nat) : ∃ L, Region.schedule (Try.prog.follows .mixedOrders) ops32 t = L ++ [8, 9] ∧ L.length ≤ 8 ∧ goodL L (fun _ => false) = true := by
  have h := schedule_mem dep32 t
  rw [size32] at h
  have := List.all_eq_true.1 all32 _ h
  rw [Bool.and_eq_true] at this
  exact ⟨_, by simpa using this.1, List.length_take_le _ _, this.2⟩
noncomputable def body45 : Code := Try.f45.body.getD .skip
noncomputable def ops45 : Array Oper := match s0' (s1' body45) with | .region _ o _ => o | _ => #[]
theorem nm45 : (Try.f45.name == "runtime.NumGoroutine") = false := by kernel_rfl
theorem loud45 : (Try.prog.funcs[(base 45).fn]?).any (·.norace) = false := by kernel_rfl
theorem dep45 : (Try.prog.follows .mixedOrders || !Region.departs ops45) = true := by kernel_rfl
theorem size45 : ops45.size = 10 := by kernel_rfl
theorem all45 : (orders .any ops45 10 (Array.replicate 10 false) []).all (fun L => L == L.take 8 ++ [8, 9] && goodL (L.take 8) (fun _ => false)) = true := by kernel_rfl
theorem sched45 (t : Nat) : ∃ L, Region.schedule (Try.prog.follows .mixedOrders) ops45 t = L ++ [8, 9] ∧ L.length ≤ 8 ∧ goodL L (fun _ => false) = true := by
  have h := schedule_mem dep45 t
  rw [size45] at h
  have := List.all_eq_true.1 all45 _ h
  rw [Bool.and_eq_true] at this
  exact ⟨_, by simpa using this.1, List.length_take_le _ _, this.2⟩
section
variable {C : Cf} {W w : World}
/-- The row that is written stands, of this length; it may be written. -/
def RowOf (C : Cf) (W : World) : Prop := ∃ cs t, W.heap[C.tp.Out]? = some (.cells cs t) ∧ cs.size = C.n
theorem RowOf.cell (h : RowOf C W) (k : KW C W w) {i : Nat} (hi : i < C.n) : (∃ v, w.cell? ⟨C.tp.Out, i, Option.none⟩ = some v) ∧ w.frozen? ⟨C.tp.Out, i, Option.none⟩ = false := by
  obtain ⟨cs, t, e, hs⟩ := h
  obtain ⟨cs', e', s', _⟩ := k.rx.row cs t (0, 0) e
  refine ⟨⟨cs'[i]'(by omega), by simp [World.cell?, e', Array.getElem?_eq_getElem (show i < cs'.size by omega)]⟩, by simp [World.frozen?, e']⟩
/-- The store of its own cell. -/
theorem dx_own {i : Nat} (v : Value) : DX C (some i) false w (w.setCell ⟨C.tp.Out, i, Option.none⟩ v) #[⟨.cell ⟨C.tp.Out, i, Option.none⟩, true, false⟩] := by
  have A := aside_setCell w ⟨C.tp.Out, i, Option.none⟩ v
  refine ⟨A.tape, A.output, A.size, A.os, fun b hb => A.block b hb, fun cs t f e => ?_, fun e he => ?_, fun h => by cases h⟩
  · refine ⟨cs.setIfInBounds i v, ?_, by simp, fun k hk => ?_⟩
    · rw [setCell_eq_setRow w C.tp.Out i _ t f _ e, setRow_heap w C.tp.Out _ _ t f e]
    · rw [Array.getElem?_setIfInBounds_ne]
      intro h; exact hk (by rw [h])
  · simp at he; subst he; exact .inr ⟨i, true, rfl, rfl⟩
theorem outAt_own {i : Nat} (v : Value) (hc : ∃ v, w.cell? ⟨C.tp.Out, i, Option.none⟩ = some v) : OutAt C (w.setCell ⟨C.tp.Out, i, Option.none⟩ v) i v := by
  obtain ⟨x, hx⟩ := hc
  exact World.cell?_setCell_same _ _ _ hx
end
end Go.Proofs.Ytpkiojchlficcaa.Crew

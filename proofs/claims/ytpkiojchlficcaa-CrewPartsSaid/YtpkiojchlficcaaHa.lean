/- The walks: hands' entry: a variable for the function, two channels and their variables in whatever order, the Once, the group. -/
import Derived.Test.YtpkiojchlficcaaGt
set_option linter.unusedSimpArgs false
namespace Go.Proofs.Ytpkiojchlficcaa.Crew
open Go Go.Conc Go.ConcN Go.RowKit Go.Conc.Lib Go.ConcR.Gen
open Go.ConcM (OsLater goes_pad goes_le)
open Go.ConcR (KK wgBlock WgAt stA smA rd wr mk DC0)
noncomputable def ops28 : Array Oper := match s0' (s1' (s1' body28)) with | .region _ o _ => o | _ => #[]
theorem dep28 : (Try.prog.follows .mixedOrders || !Region.departs ops28) = true := by kernel_rfl
theorem size28 : ops28.size = 6 := by kernel_rfl
theorem bytes3' : ∃ i, Try.prog.info? 3 = some i ∧ i.bytes = 8 := by
  have h : (Try.prog.info? 3).map (·.bytes) = some 8 := by kernel_rfl
  obtain ⟨i, hi, hb⟩ := Option.map_eq_some_iff.1 h
  exact ⟨i, hi, hb⟩
theorem bytes58 : ∃ i, Try.prog.info? 58 = some i ∧ i.bytes = 0 := by
  have h : (Try.prog.info? 58).map (·.bytes) = some 0 := by kernel_rfl
  obtain ⟨i, hi, hb⟩ := Option.map_eq_some_iff.1 h
  exact ⟨i, hi, hb⟩
theorem mk56 (w : World) : (Instr.makeChan 56 (.int .i64 0)).run Try.prog w = .ok (.chan (some w.heap.size)) (w.alloc (.chan 0 #[] false 0 0 false)) := by
  obtain ⟨i, hi, hb⟩ := bytes3'
  simpa using run_makeChan (P := Try.prog) (w := w) Try.underlying56 hi .i64 0 (by omega) (by rw [hb]; omega)
theorem mk56e (w : World) (es : Array Event) : (Instr.makeChan 56 (.int .i64 0)).events Try.prog w es = es := by
  obtain ⟨i, hi, hb⟩ := bytes3'
  simpa using events_makeChan (P := Try.prog) (w := w) Try.underlying56 hi .i64 0 (by omega) (by rw [hb]; omega) es
theorem mk57 (w : World) : (Instr.makeChan 57 (.int .i64 0)).run Try.prog w = .ok (.chan (some w.heap.size)) (w.alloc (.chan 0 #[] false 0 0 false)) := by
  obtain ⟨i, hi, hb⟩ := bytes58
  simpa using run_makeChan (P := Try.prog) (w := w) Try.underlying57 hi .i64 0 (by omega) (by rw [hb]; omega)
theorem mk57e (w : World) (es : Array Event) : (Instr.makeChan 57 (.int .i64 0)).events Try.prog w es = es := by
  obtain ⟨i, hi, hb⟩ := bytes58
  simpa using events_makeChan (P := Try.prog) (w := w) Try.underlying57 hi .i64 0 (by omega) (by rw [hb]; omega) es
theorem orders28 : orders .any ops28 6 (Array.replicate 6 false) [] = [[0, 1, 2, 3, 4, 5], [0, 1, 3, 2, 4, 5], [0, 2, 1, 3, 4, 5], [0, 2, 3, 1, 4, 5], [0, 2, 3, 4, 1, 5], [0, 3, 1, 2, 4, 5], [0, 3, 2, 1, 4, 5], [0, 3, 2, 4, 1, 5], [1, 0, 2, 3, 4, 5], [1, 0, 3, 2, 4, 5], [1, 2, 0, 3, 4, 5], [1, 2, 3, 0, 4, 5], [1, 3, 0, 2, 4, 5], [1, 3, 2, 0, 4, 5], [2, 0, 1, 3, 4, 5], [2, 0, 3, 1, 4, 5], [2, 0, 3, 4, 1, 5], [2, 1, 0, 3, 4, 5], [2, 1, 3, 0, 4, 5], [2, 3, 0, 1, 4, 5], [2, 3, 0, 4, 1, 5], [2, 3, 1, 0, 4, 5], [3, 0, 1, 2, 4, 5], [3, 0, 2, 1, 4, 5], [3, 0, 2, 4, 1, 5], [3, 1, 0, 2, 4, 5], [3, 1, 2, 0, 4, 5], [3, 2, 0, 1, 4, 5], [3, 2, 0, 4, 1, 5], [3, 2, 1, 0, 4, 5]] := by kernel_rfl
theorem sched28 (t : Nat) : Region.schedule (Try.prog.follows .mixedOrders) ops28 t ∈ [[0, 1, 2, 3, 4, 5], [0, 1, 3, 2, 4, 5], [0, 2, 1, 3, 4, 5], [0, 2, 3, 1, 4, 5], [0, 2, 3, 4, 1, 5], [0, 3, 1, 2, 4, 5], [0, 3, 2, 1, 4, 5], [0, 3, 2, 4, 1, 5], [1, 0, 2, 3, 4, 5], [1, 0, 3, 2, 4, 5], [1, 2, 0, 3, 4, 5], [1, 2, 3, 0, 4, 5], [1, 3, 0, 2, 4, 5], [1, 3, 2, 0, 4, 5], [2, 0, 1, 3, 4, 5], [2, 0, 3, 1, 4, 5], [2, 0, 3, 4, 1, 5], [2, 1, 0, 3, 4, 5], [2, 1, 3, 0, 4, 5], [2, 3, 0, 1, 4, 5], [2, 3, 0, 4, 1, 5], [2, 3, 1, 0, 4, 5], [3, 0, 1, 2, 4, 5], [3, 0, 2, 1, 4, 5], [3, 0, 2, 4, 1, 5], [3, 1, 0, 2, 4, 5], [3, 1, 2, 0, 4, 5], [3, 2, 0, 1, 4, 5], [3, 2, 0, 4, 1, 5], [3, 2, 1, 0, 4, 5]] := by
  have := schedule_mem dep28 t
  rw [size28, orders28] at this
  exact this
/-- hands' blocks: the function's variable at 0; the places' channel at p, the word to stop's at s; their variables at pv, sv. -/
structure Made (w w' : World) (dv : Value) (l : List Obj) (p s pv sv : Nat) : Prop where
  gr : Grew w w' l
  l0 : l[0]? = some (.cells #[dv] 49)
  lp : l[p]? = some (.chan 0 #[] false 0 0 false)
  ls : l[s]? = some (.chan 0 #[] false 0 0 false)
  lpv : l[pv]? = some (.cells #[.chan (some (w.heap.size + p))] 56)
  lsv : l[sv]? = some (.cells #[.chan (some (w.heap.size + s))] 57)
  d : p ≠ s ∧ p ≠ pv ∧ p ≠ sv ∧ s ≠ pv ∧ s ≠ sv ∧ pv ≠ sv
  r : 0 < p ∧ 0 < s ∧ 0 < pv ∧ 0 < sv ∧ p < 5 ∧ s < 5 ∧ pv < 5 ∧ sv < 5
theorem Made.alloc {w w' : World} {dv : Value} {l : List Obj} {p s pv sv : Nat} (h : Made w w' dv l p s pv sv) (o : Obj) : Made w (w'.alloc o) dv (l ++ [o]) p s pv sv := by
  have ap : ∀ {k : Nat} {x : Obj}, l[k]? = some x → (l ++ [o])[k]? = some x := fun {k x} e => by
    rw [List.getElem?_append_left (List.getElem?_eq_some_iff.1 e).1]; exact e
  exact ⟨h.gr.alloc o, ap h.l0, ap h.lp, ap h.ls, ap h.lpv, ap h.lsv, h.d, h.r⟩
theorem Made.rely {w w' w₁ : World} {dv : Value} {l : List Obj} {p s pv sv : Nat} (h : Made w w' dv l p s pv sv) (r : AtRel w' w₁) : Made w w₁ dv l p s pv sv := ⟨h.gr.rely r, h.l0, h.lp, h.ls, h.lpv, h.lsv, h.d, h.r⟩
theorem ev_min3 {P : Program} (ts : Array TypeId) (t : TypeId) (k k' k'' : IntKind) (x y z : Int) (w : World) (es : Array Event) : (Builtin.min_ ts t #[.int k x, .int k' y, .int k'' z]).events P w es = es := by
  simp [Builtin.min_, Builtin.min2]
theorem ev_max2 {P : Program} (ts : Array TypeId) (t : TypeId) (k k' : IntKind) (x y : Int) (w : World) (es : Array Event) : (Builtin.max_ ts t #[.int k x, .int k' y]).events P w es = es := by
  simp [Builtin.max_, Builtin.max2]
theorem workN (n : Nat) (wk : Int) : ∃ N : Nat, (if (if (n : Int) < if 16 < wk then 16 else wk then (n : Int) else if 16 < wk then 16 else wk) < 1 then 1 else if (n : Int) < if 16 < wk then 16 else wk then (n : Int) else if 16 < wk then 16 else wk) = (N : Int) ∧ 0 < N ∧ N ≤ 16 := by
  refine ⟨(if (if (n : Int) < if 16 < wk then 16 else wk then (n : Int) else if 16 < wk then 16 else wk) < 1 then 1 else if (n : Int) < if 16 < wk then 16 else wk then (n : Int) else if 16 < wk then 16 else wk).toNat, ?_, ?_, ?_⟩ <;> (repeat' split) <;> omega
section
variable {S : Nat → Prop} {Q : Goroutine → World → (Nat → Prop) → Prop} {cs : List Frame} {n : Nat}
set_option maxRecDepth 100000 in
set_option maxHeartbeats 16000000 in
theorem made28 {w₀ w : World} {dv zN j10 j11 j12 j13 : Value} {k : List Item} (hF : Grew w₀ w [.cells #[dv] 49])
    (hS : ∀ b, S b → b < w₀.heap.size)
    (h : ∀ (w' : World) (l : List Obj) (p s pv sv : Nat), Made w₀ w' dv l p s pv sv → l.length = 5 →
      Gets (G ((base 28).at ⟨#[.int .i64 (n : Int), zN, dv, undef, undef, .pointer (some ⟨w₀.heap.size, 0, Option.none⟩), .pointer (some ⟨w₀.heap.size + pv, 0, Option.none⟩), .pointer (some ⟨w₀.heap.size + sv, 0, Option.none⟩), undef, undef, j10, j11, j12, j13, .chan (some (w₀.heap.size + p)), .chan (some (w₀.heap.size + s)), undef, undef, undef, undef, undef, undef, undef, undef, undef, undef, undef, undef], []⟩ (.inRegion ops28 [] :: k)) cs) w' S Q) :
    Gets (G ((base 28).at ⟨#[.int .i64 (n : Int), zN, dv, undef, undef, .pointer (some ⟨w₀.heap.size, 0, Option.none⟩), undef, undef, undef, undef, j10, j11, j12, j13, undef, undef, undef, undef, undef, undef, undef, undef, undef, undef, undef, undef, undef, undef], []⟩ (.code (.region 2 ops28 true) :: k)) cs) w S Q := by
  refine Gets.draw fun w₁ t r => ?_
  have hm := sched28 t
  generalize Region.schedule (Try.prog.follows .mixedOrders) ops28 t = L at hm
  replace hF := hF.rely r
  clear r t
  generalize hsz : w₀.heap.size = sz at h ⊢
  have step_c : ∀ {l : List Obj} {w : World}, Grew w₀ w l → Grew w₀ (w.alloc (.chan 0 #[] false 0 0 false)) (l ++ [.chan 0 #[] false 0 0 false]) := fun h => h.alloc _
  simp only [List.mem_cons, List.not_mem_nil, or_false] at hm
  simp only [ops28, body28, s0', s1', Try.f28, Option.getD_some] at h ⊢
  rcases hm with rfl | rfl | rfl | rfl | rfl | rfl | rfl | rfl | rfl | rfl | rfl | rfl | rfl | rfl | rfl | rfl | rfl | rfl | rfl | rfl | rfl | rfl | rfl | rfl | rfl | rfl | rfl | rfl | rfl | rfl
  · -- [0, 1, 2, 3, 4, 5]
    refine Gets.val 0 rfl rfl (by k_ne) fun w₁ r => ⟨.chan (some (sz + 1)), w₁.alloc (.chan 0 #[] false 0 0 false), by simp [go_sem, execOp, mk56, (hF.rely r).size, hsz], by simp [go_sem, execOp, mk56e], ?_⟩
    replace hF := (hF.rely r).alloc (.chan 0 #[] false 0 0 false)
    clear r
    walk_nrm
    refine Gets.val 0 rfl rfl (by k_ne) fun w₁ r => ⟨.chan (some (sz + 2)), w₁.alloc (.chan 0 #[] false 0 0 false), by simp [go_sem, execOp, mk57, (hF.rely r).size, hsz], by simp [go_sem, execOp, mk57e], ?_⟩
    replace hF := (hF.rely r).alloc (.chan 0 #[] false 0 0 false)
    clear r
    walk_nrm
    refine Gets.val 0 rfl rfl (by k_ne) fun w₁ r => ⟨.pointer (some ⟨sz + 3, 0, Option.none⟩), w₁.alloc (.cells #[.chan Option.none] 56), by simp [go_sem, execOp, (hF.rely r).size, hsz], by simp [go_sem, execOp], ?_⟩
    replace hF := (hF.rely r).alloc (.cells #[.chan Option.none] 56)
    clear r
    walk_nrm
    refine Gets.val 0 rfl rfl (by k_ne) fun w₁ r => ⟨.pointer (some ⟨sz + 4, 0, Option.none⟩), w₁.alloc (.cells #[.chan Option.none] 57), by simp [go_sem, execOp, (hF.rely r).size, hsz], by simp [go_sem, execOp], ?_⟩
    replace hF := (hF.rely r).alloc (.cells #[.chan Option.none] 57)
    clear r
    walk_nrm
    refine Gets.non (sz + 5) rfl rfl (by k_ne) fun w₁ r => ?_
    have hc := (hF.rely r).cell (k := 3) rfl 0
    have hz := (hF.rely r).thaw (k := 3) rfl 0
    rw [hsz] at hc hz
    refine ⟨w₁.setCell ⟨sz + 3, 0, Option.none⟩ (.chan (some (sz + 1))), by simp [go_sem, execOp, hc, hz], ?_, ?_⟩
    · intro e he; simp [go_sem, execOp, storedEv, hc, hz] at he; subst he; exact evL_plain _ _ (fun hb => by have := hS _ hb; simp only at this; omega) (by simp only; omega)
    replace hF := (hF.rely r).set (k := 3) rfl 0 (.chan (some (sz + 1)))
    rw [hsz] at hF; clear r hc hz
    walk_nrm
    refine Gets.non (sz + 5) rfl rfl (by k_ne) fun w₁ r => ?_
    have hc := (hF.rely r).cell (k := 4) rfl 0
    have hz := (hF.rely r).thaw (k := 4) rfl 0
    rw [hsz] at hc hz
    refine ⟨w₁.setCell ⟨sz + 4, 0, Option.none⟩ (.chan (some (sz + 2))), by simp [go_sem, execOp, hc, hz], ?_, ?_⟩
    · intro e he; simp [go_sem, execOp, storedEv, hc, hz] at he; subst he; exact evL_plain _ _ (fun hb => by have := hS _ hb; simp only at this; omega) (by simp only; omega)
    replace hF := (hF.rely r).set (k := 4) rfl 0 (.chan (some (sz + 2)))
    rw [hsz] at hF; clear r hc hz
    walk_nrm
    exact h _ _ 1 2 3 4 ⟨hF, rfl, rfl, rfl, by rw [hsz]; rfl, by rw [hsz]; rfl, by decide, by decide⟩ rfl
  · -- [0, 1, 3, 2, 4, 5]
    refine Gets.val 0 rfl rfl (by k_ne) fun w₁ r => ⟨.chan (some (sz + 1)), w₁.alloc (.chan 0 #[] false 0 0 false), by simp [go_sem, execOp, mk56, (hF.rely r).size, hsz], by simp [go_sem, execOp, mk56e], ?_⟩
    replace hF := (hF.rely r).alloc (.chan 0 #[] false 0 0 false)
    clear r
    walk_nrm
    refine Gets.val 0 rfl rfl (by k_ne) fun w₁ r => ⟨.chan (some (sz + 2)), w₁.alloc (.chan 0 #[] false 0 0 false), by simp [go_sem, execOp, mk57, (hF.rely r).size, hsz], by simp [go_sem, execOp, mk57e], ?_⟩
    replace hF := (hF.rely r).alloc (.chan 0 #[] false 0 0 false)
    clear r
    walk_nrm
    refine Gets.val 0 rfl rfl (by k_ne) fun w₁ r => ⟨.pointer (some ⟨sz + 3, 0, Option.none⟩), w₁.alloc (.cells #[.chan Option.none] 57), by simp [go_sem, execOp, (hF.rely r).size, hsz], by simp [go_sem, execOp], ?_⟩
    replace hF := (hF.rely r).alloc (.cells #[.chan Option.none] 57)
    clear r
    walk_nrm
    refine Gets.val 0 rfl rfl (by k_ne) fun w₁ r => ⟨.pointer (some ⟨sz + 4, 0, Option.none⟩), w₁.alloc (.cells #[.chan Option.none] 56), by simp [go_sem, execOp, (hF.rely r).size, hsz], by simp [go_sem, execOp], ?_⟩
    replace hF := (hF.rely r).alloc (.cells #[.chan Option.none] 56)
    clear r
    walk_nrm
    refine Gets.non (sz + 5) rfl rfl (by k_ne) fun w₁ r => ?_
    have hc := (hF.rely r).cell (k := 4) rfl 0
    have hz := (hF.rely r).thaw (k := 4) rfl 0
    rw [hsz] at hc hz
    refine ⟨w₁.setCell ⟨sz + 4, 0, Option.none⟩ (.chan (some (sz + 1))), by simp [go_sem, execOp, hc, hz], ?_, ?_⟩
    · intro e he; simp [go_sem, execOp, storedEv, hc, hz] at he; subst he; exact evL_plain _ _ (fun hb => by have := hS _ hb; simp only at this; omega) (by simp only; omega)
    replace hF := (hF.rely r).set (k := 4) rfl 0 (.chan (some (sz + 1)))
    rw [hsz] at hF; clear r hc hz
    walk_nrm
    refine Gets.non (sz + 5) rfl rfl (by k_ne) fun w₁ r => ?_
    have hc := (hF.rely r).cell (k := 3) rfl 0
    have hz := (hF.rely r).thaw (k := 3) rfl 0
    rw [hsz] at hc hz
    refine ⟨w₁.setCell ⟨sz + 3, 0, Option.none⟩ (.chan (some (sz + 2))), by simp [go_sem, execOp, hc, hz], ?_, ?_⟩
    · intro e he; simp [go_sem, execOp, storedEv, hc, hz] at he; subst he; exact evL_plain _ _ (fun hb => by have := hS _ hb; simp only at this; omega) (by simp only; omega)
    replace hF := (hF.rely r).set (k := 3) rfl 0 (.chan (some (sz + 2)))
    rw [hsz] at hF; clear r hc hz
    walk_nrm
    exact h _ _ 1 2 4 3 ⟨hF, rfl, rfl, rfl, by rw [hsz]; rfl, by rw [hsz]; rfl, by decide, by decide⟩ rfl
  · -- [0, 2, 1, 3, 4, 5]
    refine Gets.val 0 rfl rfl (by k_ne) fun w₁ r => ⟨.chan (some (sz + 1)), w₁.alloc (.chan 0 #[] false 0 0 false), by simp [go_sem, execOp, mk56, (hF.rely r).size, hsz], by simp [go_sem, execOp, mk56e], ?_⟩
    replace hF := (hF.rely r).alloc (.chan 0 #[] false 0 0 false)
    clear r
    walk_nrm
    refine Gets.val 0 rfl rfl (by k_ne) fun w₁ r => ⟨.pointer (some ⟨sz + 2, 0, Option.none⟩), w₁.alloc (.cells #[.chan Option.none] 56), by simp [go_sem, execOp, (hF.rely r).size, hsz], by simp [go_sem, execOp], ?_⟩
    replace hF := (hF.rely r).alloc (.cells #[.chan Option.none] 56)
    clear r
    walk_nrm
    refine Gets.val 0 rfl rfl (by k_ne) fun w₁ r => ⟨.chan (some (sz + 3)), w₁.alloc (.chan 0 #[] false 0 0 false), by simp [go_sem, execOp, mk57, (hF.rely r).size, hsz], by simp [go_sem, execOp, mk57e], ?_⟩
    replace hF := (hF.rely r).alloc (.chan 0 #[] false 0 0 false)
    clear r
    walk_nrm
    refine Gets.val 0 rfl rfl (by k_ne) fun w₁ r => ⟨.pointer (some ⟨sz + 4, 0, Option.none⟩), w₁.alloc (.cells #[.chan Option.none] 57), by simp [go_sem, execOp, (hF.rely r).size, hsz], by simp [go_sem, execOp], ?_⟩
    replace hF := (hF.rely r).alloc (.cells #[.chan Option.none] 57)
    clear r
    walk_nrm
    refine Gets.non (sz + 5) rfl rfl (by k_ne) fun w₁ r => ?_
    have hc := (hF.rely r).cell (k := 2) rfl 0
    have hz := (hF.rely r).thaw (k := 2) rfl 0
    rw [hsz] at hc hz
    refine ⟨w₁.setCell ⟨sz + 2, 0, Option.none⟩ (.chan (some (sz + 1))), by simp [go_sem, execOp, hc, hz], ?_, ?_⟩
    · intro e he; simp [go_sem, execOp, storedEv, hc, hz] at he; subst he; exact evL_plain _ _ (fun hb => by have := hS _ hb; simp only at this; omega) (by simp only; omega)
    replace hF := (hF.rely r).set (k := 2) rfl 0 (.chan (some (sz + 1)))
    rw [hsz] at hF; clear r hc hz
    walk_nrm
    refine Gets.non (sz + 5) rfl rfl (by k_ne) fun w₁ r => ?_
    have hc := (hF.rely r).cell (k := 4) rfl 0
    have hz := (hF.rely r).thaw (k := 4) rfl 0
    rw [hsz] at hc hz
    refine ⟨w₁.setCell ⟨sz + 4, 0, Option.none⟩ (.chan (some (sz + 3))), by simp [go_sem, execOp, hc, hz], ?_, ?_⟩
    · intro e he; simp [go_sem, execOp, storedEv, hc, hz] at he; subst he; exact evL_plain _ _ (fun hb => by have := hS _ hb; simp only at this; omega) (by simp only; omega)
    replace hF := (hF.rely r).set (k := 4) rfl 0 (.chan (some (sz + 3)))
    rw [hsz] at hF; clear r hc hz
    walk_nrm
    exact h _ _ 1 3 2 4 ⟨hF, rfl, rfl, rfl, by rw [hsz]; rfl, by rw [hsz]; rfl, by decide, by decide⟩ rfl
  · -- [0, 2, 3, 1, 4, 5]
    refine Gets.val 0 rfl rfl (by k_ne) fun w₁ r => ⟨.chan (some (sz + 1)), w₁.alloc (.chan 0 #[] false 0 0 false), by simp [go_sem, execOp, mk56, (hF.rely r).size, hsz], by simp [go_sem, execOp, mk56e], ?_⟩
    replace hF := (hF.rely r).alloc (.chan 0 #[] false 0 0 false)
    clear r
    walk_nrm
    refine Gets.val 0 rfl rfl (by k_ne) fun w₁ r => ⟨.pointer (some ⟨sz + 2, 0, Option.none⟩), w₁.alloc (.cells #[.chan Option.none] 56), by simp [go_sem, execOp, (hF.rely r).size, hsz], by simp [go_sem, execOp], ?_⟩
    replace hF := (hF.rely r).alloc (.cells #[.chan Option.none] 56)
    clear r
    walk_nrm
    refine Gets.val 0 rfl rfl (by k_ne) fun w₁ r => ⟨.pointer (some ⟨sz + 3, 0, Option.none⟩), w₁.alloc (.cells #[.chan Option.none] 57), by simp [go_sem, execOp, (hF.rely r).size, hsz], by simp [go_sem, execOp], ?_⟩
    replace hF := (hF.rely r).alloc (.cells #[.chan Option.none] 57)
    clear r
    walk_nrm
    refine Gets.val 0 rfl rfl (by k_ne) fun w₁ r => ⟨.chan (some (sz + 4)), w₁.alloc (.chan 0 #[] false 0 0 false), by simp [go_sem, execOp, mk57, (hF.rely r).size, hsz], by simp [go_sem, execOp, mk57e], ?_⟩
    replace hF := (hF.rely r).alloc (.chan 0 #[] false 0 0 false)
    clear r
    walk_nrm
    refine Gets.non (sz + 5) rfl rfl (by k_ne) fun w₁ r => ?_
    have hc := (hF.rely r).cell (k := 2) rfl 0
    have hz := (hF.rely r).thaw (k := 2) rfl 0
    rw [hsz] at hc hz
    refine ⟨w₁.setCell ⟨sz + 2, 0, Option.none⟩ (.chan (some (sz + 1))), by simp [go_sem, execOp, hc, hz], ?_, ?_⟩
    · intro e he; simp [go_sem, execOp, storedEv, hc, hz] at he; subst he; exact evL_plain _ _ (fun hb => by have := hS _ hb; simp only at this; omega) (by simp only; omega)
    replace hF := (hF.rely r).set (k := 2) rfl 0 (.chan (some (sz + 1)))
    rw [hsz] at hF; clear r hc hz
    walk_nrm
    refine Gets.non (sz + 5) rfl rfl (by k_ne) fun w₁ r => ?_
    have hc := (hF.rely r).cell (k := 3) rfl 0
    have hz := (hF.rely r).thaw (k := 3) rfl 0
    rw [hsz] at hc hz
    refine ⟨w₁.setCell ⟨sz + 3, 0, Option.none⟩ (.chan (some (sz + 4))), by simp [go_sem, execOp, hc, hz], ?_, ?_⟩
    · intro e he; simp [go_sem, execOp, storedEv, hc, hz] at he; subst he; exact evL_plain _ _ (fun hb => by have := hS _ hb; simp only at this; omega) (by simp only; omega)
    replace hF := (hF.rely r).set (k := 3) rfl 0 (.chan (some (sz + 4)))
    rw [hsz] at hF; clear r hc hz
    walk_nrm
    exact h _ _ 1 4 2 3 ⟨hF, rfl, rfl, rfl, by rw [hsz]; rfl, by rw [hsz]; rfl, by decide, by decide⟩ rfl
  · -- [0, 2, 3, 4, 1, 5]
    refine Gets.val 0 rfl rfl (by k_ne) fun w₁ r => ⟨.chan (some (sz + 1)), w₁.alloc (.chan 0 #[] false 0 0 false), by simp [go_sem, execOp, mk56, (hF.rely r).size, hsz], by simp [go_sem, execOp, mk56e], ?_⟩
    replace hF := (hF.rely r).alloc (.chan 0 #[] false 0 0 false)
    clear r
    walk_nrm
    refine Gets.val 0 rfl rfl (by k_ne) fun w₁ r => ⟨.pointer (some ⟨sz + 2, 0, Option.none⟩), w₁.alloc (.cells #[.chan Option.none] 56), by simp [go_sem, execOp, (hF.rely r).size, hsz], by simp [go_sem, execOp], ?_⟩
    replace hF := (hF.rely r).alloc (.cells #[.chan Option.none] 56)
    clear r
    walk_nrm
    refine Gets.val 0 rfl rfl (by k_ne) fun w₁ r => ⟨.pointer (some ⟨sz + 3, 0, Option.none⟩), w₁.alloc (.cells #[.chan Option.none] 57), by simp [go_sem, execOp, (hF.rely r).size, hsz], by simp [go_sem, execOp], ?_⟩
    replace hF := (hF.rely r).alloc (.cells #[.chan Option.none] 57)
    clear r
    walk_nrm
    refine Gets.non (sz + 5) rfl rfl (by k_ne) fun w₁ r => ?_
    have hc := (hF.rely r).cell (k := 2) rfl 0
    have hz := (hF.rely r).thaw (k := 2) rfl 0
    rw [hsz] at hc hz
    refine ⟨w₁.setCell ⟨sz + 2, 0, Option.none⟩ (.chan (some (sz + 1))), by simp [go_sem, execOp, hc, hz], ?_, ?_⟩
    · intro e he; simp [go_sem, execOp, storedEv, hc, hz] at he; subst he; exact evL_plain _ _ (fun hb => by have := hS _ hb; simp only at this; omega) (by simp only; omega)
    replace hF := (hF.rely r).set (k := 2) rfl 0 (.chan (some (sz + 1)))
    rw [hsz] at hF; clear r hc hz
    walk_nrm
    refine Gets.val 0 rfl rfl (by k_ne) fun w₁ r => ⟨.chan (some (sz + 4)), w₁.alloc (.chan 0 #[] false 0 0 false), by simp [go_sem, execOp, mk57, (hF.rely r).size, hsz], by simp [go_sem, execOp, mk57e], ?_⟩
    replace hF := (hF.rely r).alloc (.chan 0 #[] false 0 0 false)
    clear r
    walk_nrm
    refine Gets.non (sz + 5) rfl rfl (by k_ne) fun w₁ r => ?_
    have hc := (hF.rely r).cell (k := 3) rfl 0
    have hz := (hF.rely r).thaw (k := 3) rfl 0
    rw [hsz] at hc hz
    refine ⟨w₁.setCell ⟨sz + 3, 0, Option.none⟩ (.chan (some (sz + 4))), by simp [go_sem, execOp, hc, hz], ?_, ?_⟩
    · intro e he; simp [go_sem, execOp, storedEv, hc, hz] at he; subst he; exact evL_plain _ _ (fun hb => by have := hS _ hb; simp only at this; omega) (by simp only; omega)
    replace hF := (hF.rely r).set (k := 3) rfl 0 (.chan (some (sz + 4)))
    rw [hsz] at hF; clear r hc hz
    walk_nrm
    exact h _ _ 1 4 2 3 ⟨hF, rfl, rfl, rfl, by rw [hsz]; rfl, by rw [hsz]; rfl, by decide, by decide⟩ rfl
  · -- [0, 3, 1, 2, 4, 5]
    refine Gets.val 0 rfl rfl (by k_ne) fun w₁ r => ⟨.chan (some (sz + 1)), w₁.alloc (.chan 0 #[] false 0 0 false), by simp [go_sem, execOp, mk56, (hF.rely r).size, hsz], by simp [go_sem, execOp, mk56e], ?_⟩
    replace hF := (hF.rely r).alloc (.chan 0 #[] false 0 0 false)
    clear r
    walk_nrm
    refine Gets.val 0 rfl rfl (by k_ne) fun w₁ r => ⟨.pointer (some ⟨sz + 2, 0, Option.none⟩), w₁.alloc (.cells #[.chan Option.none] 57), by simp [go_sem, execOp, (hF.rely r).size, hsz], by simp [go_sem, execOp], ?_⟩
    replace hF := (hF.rely r).alloc (.cells #[.chan Option.none] 57)
    clear r
    walk_nrm
    refine Gets.val 0 rfl rfl (by k_ne) fun w₁ r => ⟨.chan (some (sz + 3)), w₁.alloc (.chan 0 #[] false 0 0 false), by simp [go_sem, execOp, mk57, (hF.rely r).size, hsz], by simp [go_sem, execOp, mk57e], ?_⟩
    replace hF := (hF.rely r).alloc (.chan 0 #[] false 0 0 false)
    clear r
    walk_nrm
    refine Gets.val 0 rfl rfl (by k_ne) fun w₁ r => ⟨.pointer (some ⟨sz + 4, 0, Option.none⟩), w₁.alloc (.cells #[.chan Option.none] 56), by simp [go_sem, execOp, (hF.rely r).size, hsz], by simp [go_sem, execOp], ?_⟩
    replace hF := (hF.rely r).alloc (.cells #[.chan Option.none] 56)
    clear r
    walk_nrm
    refine Gets.non (sz + 5) rfl rfl (by k_ne) fun w₁ r => ?_
    have hc := (hF.rely r).cell (k := 4) rfl 0
    have hz := (hF.rely r).thaw (k := 4) rfl 0
    rw [hsz] at hc hz
    refine ⟨w₁.setCell ⟨sz + 4, 0, Option.none⟩ (.chan (some (sz + 1))), by simp [go_sem, execOp, hc, hz], ?_, ?_⟩
    · intro e he; simp [go_sem, execOp, storedEv, hc, hz] at he; subst he; exact evL_plain _ _ (fun hb => by have := hS _ hb; simp only at this; omega) (by simp only; omega)
    replace hF := (hF.rely r).set (k := 4) rfl 0 (.chan (some (sz + 1)))
    rw [hsz] at hF; clear r hc hz
    walk_nrm
    refine Gets.non (sz + 5) rfl rfl (by k_ne) fun w₁ r => ?_
    have hc := (hF.rely r).cell (k := 2) rfl 0
    have hz := (hF.rely r).thaw (k := 2) rfl 0
    rw [hsz] at hc hz
    refine ⟨w₁.setCell ⟨sz + 2, 0, Option.none⟩ (.chan (some (sz + 3))), by simp [go_sem, execOp, hc, hz], ?_, ?_⟩
    · intro e he; simp [go_sem, execOp, storedEv, hc, hz] at he; subst he; exact evL_plain _ _ (fun hb => by have := hS _ hb; simp only at this; omega) (by simp only; omega)
    replace hF := (hF.rely r).set (k := 2) rfl 0 (.chan (some (sz + 3)))
    rw [hsz] at hF; clear r hc hz
    walk_nrm
    exact h _ _ 1 3 4 2 ⟨hF, rfl, rfl, rfl, by rw [hsz]; rfl, by rw [hsz]; rfl, by decide, by decide⟩ rfl
  · -- [0, 3, 2, 1, 4, 5]
    refine Gets.val 0 rfl rfl (by k_ne) fun w₁ r => ⟨.chan (some (sz + 1)), w₁.alloc (.chan 0 #[] false 0 0 false), by simp [go_sem, execOp, mk56, (hF.rely r).size, hsz], by simp [go_sem, execOp, mk56e], ?_⟩
    replace hF := (hF.rely r).alloc (.chan 0 #[] false 0 0 false)
    clear r
    walk_nrm
    refine Gets.val 0 rfl rfl (by k_ne) fun w₁ r => ⟨.pointer (some ⟨sz + 2, 0, Option.none⟩), w₁.alloc (.cells #[.chan Option.none] 57), by simp [go_sem, execOp, (hF.rely r).size, hsz], by simp [go_sem, execOp], ?_⟩
    replace hF := (hF.rely r).alloc (.cells #[.chan Option.none] 57)
    clear r
    walk_nrm
    refine Gets.val 0 rfl rfl (by k_ne) fun w₁ r => ⟨.pointer (some ⟨sz + 3, 0, Option.none⟩), w₁.alloc (.cells #[.chan Option.none] 56), by simp [go_sem, execOp, (hF.rely r).size, hsz], by simp [go_sem, execOp], ?_⟩
    replace hF := (hF.rely r).alloc (.cells #[.chan Option.none] 56)
    clear r
    walk_nrm
    refine Gets.val 0 rfl rfl (by k_ne) fun w₁ r => ⟨.chan (some (sz + 4)), w₁.alloc (.chan 0 #[] false 0 0 false), by simp [go_sem, execOp, mk57, (hF.rely r).size, hsz], by simp [go_sem, execOp, mk57e], ?_⟩
    replace hF := (hF.rely r).alloc (.chan 0 #[] false 0 0 false)
    clear r
    walk_nrm
    refine Gets.non (sz + 5) rfl rfl (by k_ne) fun w₁ r => ?_
    have hc := (hF.rely r).cell (k := 3) rfl 0
    have hz := (hF.rely r).thaw (k := 3) rfl 0
    rw [hsz] at hc hz
    refine ⟨w₁.setCell ⟨sz + 3, 0, Option.none⟩ (.chan (some (sz + 1))), by simp [go_sem, execOp, hc, hz], ?_, ?_⟩
    · intro e he; simp [go_sem, execOp, storedEv, hc, hz] at he; subst he; exact evL_plain _ _ (fun hb => by have := hS _ hb; simp only at this; omega) (by simp only; omega)
    replace hF := (hF.rely r).set (k := 3) rfl 0 (.chan (some (sz + 1)))
    rw [hsz] at hF; clear r hc hz
    walk_nrm
    refine Gets.non (sz + 5) rfl rfl (by k_ne) fun w₁ r => ?_
    have hc := (hF.rely r).cell (k := 2) rfl 0
    have hz := (hF.rely r).thaw (k := 2) rfl 0
    rw [hsz] at hc hz
    refine ⟨w₁.setCell ⟨sz + 2, 0, Option.none⟩ (.chan (some (sz + 4))), by simp [go_sem, execOp, hc, hz], ?_, ?_⟩
    · intro e he; simp [go_sem, execOp, storedEv, hc, hz] at he; subst he; exact evL_plain _ _ (fun hb => by have := hS _ hb; simp only at this; omega) (by simp only; omega)
    replace hF := (hF.rely r).set (k := 2) rfl 0 (.chan (some (sz + 4)))
    rw [hsz] at hF; clear r hc hz
    walk_nrm
    exact h _ _ 1 4 3 2 ⟨hF, rfl, rfl, rfl, by rw [hsz]; rfl, by rw [hsz]; rfl, by decide, by decide⟩ rfl
  · -- [0, 3, 2, 4, 1, 5]
    refine Gets.val 0 rfl rfl (by k_ne) fun w₁ r => ⟨.chan (some (sz + 1)), w₁.alloc (.chan 0 #[] false 0 0 false), by simp [go_sem, execOp, mk56, (hF.rely r).size, hsz], by simp [go_sem, execOp, mk56e], ?_⟩
    replace hF := (hF.rely r).alloc (.chan 0 #[] false 0 0 false)
    clear r
    walk_nrm
    refine Gets.val 0 rfl rfl (by k_ne) fun w₁ r => ⟨.pointer (some ⟨sz + 2, 0, Option.none⟩), w₁.alloc (.cells #[.chan Option.none] 57), by simp [go_sem, execOp, (hF.rely r).size, hsz], by simp [go_sem, execOp], ?_⟩
    replace hF := (hF.rely r).alloc (.cells #[.chan Option.none] 57)
    clear r
    walk_nrm
    refine Gets.val 0 rfl rfl (by k_ne) fun w₁ r => ⟨.pointer (some ⟨sz + 3, 0, Option.none⟩), w₁.alloc (.cells #[.chan Option.none] 56), by simp [go_sem, execOp, (hF.rely r).size, hsz], by simp [go_sem, execOp], ?_⟩
    replace hF := (hF.rely r).alloc (.cells #[.chan Option.none] 56)
    clear r
    walk_nrm
    refine Gets.non (sz + 5) rfl rfl (by k_ne) fun w₁ r => ?_
    have hc := (hF.rely r).cell (k := 3) rfl 0
    have hz := (hF.rely r).thaw (k := 3) rfl 0
    rw [hsz] at hc hz
    refine ⟨w₁.setCell ⟨sz + 3, 0, Option.none⟩ (.chan (some (sz + 1))), by simp [go_sem, execOp, hc, hz], ?_, ?_⟩
    · intro e he; simp [go_sem, execOp, storedEv, hc, hz] at he; subst he; exact evL_plain _ _ (fun hb => by have := hS _ hb; simp only at this; omega) (by simp only; omega)
    replace hF := (hF.rely r).set (k := 3) rfl 0 (.chan (some (sz + 1)))
    rw [hsz] at hF; clear r hc hz
    walk_nrm
    refine Gets.val 0 rfl rfl (by k_ne) fun w₁ r => ⟨.chan (some (sz + 4)), w₁.alloc (.chan 0 #[] false 0 0 false), by simp [go_sem, execOp, mk57, (hF.rely r).size, hsz], by simp [go_sem, execOp, mk57e], ?_⟩
    replace hF := (hF.rely r).alloc (.chan 0 #[] false 0 0 false)
    clear r
    walk_nrm
    refine Gets.non (sz + 5) rfl rfl (by k_ne) fun w₁ r => ?_
    have hc := (hF.rely r).cell (k := 2) rfl 0
    have hz := (hF.rely r).thaw (k := 2) rfl 0
    rw [hsz] at hc hz
    refine ⟨w₁.setCell ⟨sz + 2, 0, Option.none⟩ (.chan (some (sz + 4))), by simp [go_sem, execOp, hc, hz], ?_, ?_⟩
    · intro e he; simp [go_sem, execOp, storedEv, hc, hz] at he; subst he; exact evL_plain _ _ (fun hb => by have := hS _ hb; simp only at this; omega) (by simp only; omega)
    replace hF := (hF.rely r).set (k := 2) rfl 0 (.chan (some (sz + 4)))
    rw [hsz] at hF; clear r hc hz
    walk_nrm
    exact h _ _ 1 4 3 2 ⟨hF, rfl, rfl, rfl, by rw [hsz]; rfl, by rw [hsz]; rfl, by decide, by decide⟩ rfl
  · -- [1, 0, 2, 3, 4, 5]
    refine Gets.val 0 rfl rfl (by k_ne) fun w₁ r => ⟨.chan (some (sz + 1)), w₁.alloc (.chan 0 #[] false 0 0 false), by simp [go_sem, execOp, mk57, (hF.rely r).size, hsz], by simp [go_sem, execOp, mk57e], ?_⟩
    replace hF := (hF.rely r).alloc (.chan 0 #[] false 0 0 false)
    clear r
    walk_nrm
    refine Gets.val 0 rfl rfl (by k_ne) fun w₁ r => ⟨.chan (some (sz + 2)), w₁.alloc (.chan 0 #[] false 0 0 false), by simp [go_sem, execOp, mk56, (hF.rely r).size, hsz], by simp [go_sem, execOp, mk56e], ?_⟩
    replace hF := (hF.rely r).alloc (.chan 0 #[] false 0 0 false)
    clear r
    walk_nrm
    refine Gets.val 0 rfl rfl (by k_ne) fun w₁ r => ⟨.pointer (some ⟨sz + 3, 0, Option.none⟩), w₁.alloc (.cells #[.chan Option.none] 56), by simp [go_sem, execOp, (hF.rely r).size, hsz], by simp [go_sem, execOp], ?_⟩
    replace hF := (hF.rely r).alloc (.cells #[.chan Option.none] 56)
    clear r
    walk_nrm
    refine Gets.val 0 rfl rfl (by k_ne) fun w₁ r => ⟨.pointer (some ⟨sz + 4, 0, Option.none⟩), w₁.alloc (.cells #[.chan Option.none] 57), by simp [go_sem, execOp, (hF.rely r).size, hsz], by simp [go_sem, execOp], ?_⟩
    replace hF := (hF.rely r).alloc (.cells #[.chan Option.none] 57)
    clear r
    walk_nrm
    refine Gets.non (sz + 5) rfl rfl (by k_ne) fun w₁ r => ?_
    have hc := (hF.rely r).cell (k := 3) rfl 0
    have hz := (hF.rely r).thaw (k := 3) rfl 0
    rw [hsz] at hc hz
    refine ⟨w₁.setCell ⟨sz + 3, 0, Option.none⟩ (.chan (some (sz + 2))), by simp [go_sem, execOp, hc, hz], ?_, ?_⟩
    · intro e he; simp [go_sem, execOp, storedEv, hc, hz] at he; subst he; exact evL_plain _ _ (fun hb => by have := hS _ hb; simp only at this; omega) (by simp only; omega)
    replace hF := (hF.rely r).set (k := 3) rfl 0 (.chan (some (sz + 2)))
    rw [hsz] at hF; clear r hc hz
    walk_nrm
    refine Gets.non (sz + 5) rfl rfl (by k_ne) fun w₁ r => ?_
    have hc := (hF.rely r).cell (k := 4) rfl 0
    have hz := (hF.rely r).thaw (k := 4) rfl 0
    rw [hsz] at hc hz
    refine ⟨w₁.setCell ⟨sz + 4, 0, Option.none⟩ (.chan (some (sz + 1))), by simp [go_sem, execOp, hc, hz], ?_, ?_⟩
    · intro e he; simp [go_sem, execOp, storedEv, hc, hz] at he; subst he; exact evL_plain _ _ (fun hb => by have := hS _ hb; simp only at this; omega) (by simp only; omega)
    replace hF := (hF.rely r).set (k := 4) rfl 0 (.chan (some (sz + 1)))
    rw [hsz] at hF; clear r hc hz
    walk_nrm
    exact h _ _ 2 1 3 4 ⟨hF, rfl, rfl, rfl, by rw [hsz]; rfl, by rw [hsz]; rfl, by decide, by decide⟩ rfl
  · -- [1, 0, 3, 2, 4, 5]
    refine Gets.val 0 rfl rfl (by k_ne) fun w₁ r => ⟨.chan (some (sz + 1)), w₁.alloc (.chan 0 #[] false 0 0 false), by simp [go_sem, execOp, mk57, (hF.rely r).size, hsz], by simp [go_sem, execOp, mk57e], ?_⟩
    replace hF := (hF.rely r).alloc (.chan 0 #[] false 0 0 false)
    clear r
    walk_nrm
    refine Gets.val 0 rfl rfl (by k_ne) fun w₁ r => ⟨.chan (some (sz + 2)), w₁.alloc (.chan 0 #[] false 0 0 false), by simp [go_sem, execOp, mk56, (hF.rely r).size, hsz], by simp [go_sem, execOp, mk56e], ?_⟩
    replace hF := (hF.rely r).alloc (.chan 0 #[] false 0 0 false)
    clear r
    walk_nrm
    refine Gets.val 0 rfl rfl (by k_ne) fun w₁ r => ⟨.pointer (some ⟨sz + 3, 0, Option.none⟩), w₁.alloc (.cells #[.chan Option.none] 57), by simp [go_sem, execOp, (hF.rely r).size, hsz], by simp [go_sem, execOp], ?_⟩
    replace hF := (hF.rely r).alloc (.cells #[.chan Option.none] 57)
    clear r
    walk_nrm
    refine Gets.val 0 rfl rfl (by k_ne) fun w₁ r => ⟨.pointer (some ⟨sz + 4, 0, Option.none⟩), w₁.alloc (.cells #[.chan Option.none] 56), by simp [go_sem, execOp, (hF.rely r).size, hsz], by simp [go_sem, execOp], ?_⟩
    replace hF := (hF.rely r).alloc (.cells #[.chan Option.none] 56)
    clear r
    walk_nrm
    refine Gets.non (sz + 5) rfl rfl (by k_ne) fun w₁ r => ?_
    have hc := (hF.rely r).cell (k := 4) rfl 0
    have hz := (hF.rely r).thaw (k := 4) rfl 0
    rw [hsz] at hc hz
    refine ⟨w₁.setCell ⟨sz + 4, 0, Option.none⟩ (.chan (some (sz + 2))), by simp [go_sem, execOp, hc, hz], ?_, ?_⟩
    · intro e he; simp [go_sem, execOp, storedEv, hc, hz] at he; subst he; exact evL_plain _ _ (fun hb => by have := hS _ hb; simp only at this; omega) (by simp only; omega)
    replace hF := (hF.rely r).set (k := 4) rfl 0 (.chan (some (sz + 2)))
    rw [hsz] at hF; clear r hc hz
    walk_nrm
    refine Gets.non (sz + 5) rfl rfl (by k_ne) fun w₁ r => ?_
    have hc := (hF.rely r).cell (k := 3) rfl 0
    have hz := (hF.rely r).thaw (k := 3) rfl 0
    rw [hsz] at hc hz
    refine ⟨w₁.setCell ⟨sz + 3, 0, Option.none⟩ (.chan (some (sz + 1))), by simp [go_sem, execOp, hc, hz], ?_, ?_⟩
    · intro e he; simp [go_sem, execOp, storedEv, hc, hz] at he; subst he; exact evL_plain _ _ (fun hb => by have := hS _ hb; simp only at this; omega) (by simp only; omega)
    replace hF := (hF.rely r).set (k := 3) rfl 0 (.chan (some (sz + 1)))
    rw [hsz] at hF; clear r hc hz
    walk_nrm
    exact h _ _ 2 1 4 3 ⟨hF, rfl, rfl, rfl, by rw [hsz]; rfl, by rw [hsz]; rfl, by decide, by decide⟩ rfl
  · -- [1, 2, 0, 3, 4, 5]
    refine Gets.val 0 rfl rfl (by k_ne) fun w₁ r => ⟨.chan (some (sz + 1)), w₁.alloc (.chan 0 #[] false 0 0 false), by simp [go_sem, execOp, mk57, (hF.rely r).size, hsz], by simp [go_sem, execOp, mk57e], ?_⟩
    replace hF := (hF.rely r).alloc (.chan 0 #[] false 0 0 false)
    clear r
    walk_nrm
    refine Gets.val 0 rfl rfl (by k_ne) fun w₁ r => ⟨.pointer (some ⟨sz + 2, 0, Option.none⟩), w₁.alloc (.cells #[.chan Option.none] 56), by simp [go_sem, execOp, (hF.rely r).size, hsz], by simp [go_sem, execOp], ?_⟩
    replace hF := (hF.rely r).alloc (.cells #[.chan Option.none] 56)
    clear r
    walk_nrm
    refine Gets.val 0 rfl rfl (by k_ne) fun w₁ r => ⟨.chan (some (sz + 3)), w₁.alloc (.chan 0 #[] false 0 0 false), by simp [go_sem, execOp, mk56, (hF.rely r).size, hsz], by simp [go_sem, execOp, mk56e], ?_⟩
    replace hF := (hF.rely r).alloc (.chan 0 #[] false 0 0 false)
    clear r
    walk_nrm
    refine Gets.val 0 rfl rfl (by k_ne) fun w₁ r => ⟨.pointer (some ⟨sz + 4, 0, Option.none⟩), w₁.alloc (.cells #[.chan Option.none] 57), by simp [go_sem, execOp, (hF.rely r).size, hsz], by simp [go_sem, execOp], ?_⟩
    replace hF := (hF.rely r).alloc (.cells #[.chan Option.none] 57)
    clear r
    walk_nrm
    refine Gets.non (sz + 5) rfl rfl (by k_ne) fun w₁ r => ?_
    have hc := (hF.rely r).cell (k := 2) rfl 0
    have hz := (hF.rely r).thaw (k := 2) rfl 0
    rw [hsz] at hc hz
    refine ⟨w₁.setCell ⟨sz + 2, 0, Option.none⟩ (.chan (some (sz + 3))), by simp [go_sem, execOp, hc, hz], ?_, ?_⟩
    · intro e he; simp [go_sem, execOp, storedEv, hc, hz] at he; subst he; exact evL_plain _ _ (fun hb => by have := hS _ hb; simp only at this; omega) (by simp only; omega)
    replace hF := (hF.rely r).set (k := 2) rfl 0 (.chan (some (sz + 3)))
    rw [hsz] at hF; clear r hc hz
    walk_nrm
    refine Gets.non (sz + 5) rfl rfl (by k_ne) fun w₁ r => ?_
    have hc := (hF.rely r).cell (k := 4) rfl 0
    have hz := (hF.rely r).thaw (k := 4) rfl 0
    rw [hsz] at hc hz
    refine ⟨w₁.setCell ⟨sz + 4, 0, Option.none⟩ (.chan (some (sz + 1))), by simp [go_sem, execOp, hc, hz], ?_, ?_⟩
    · intro e he; simp [go_sem, execOp, storedEv, hc, hz] at he; subst he; exact evL_plain _ _ (fun hb => by have := hS _ hb; simp only at this; omega) (by simp only; omega)
    replace hF := (hF.rely r).set (k := 4) rfl 0 (.chan (some (sz + 1)))
    rw [hsz] at hF; clear r hc hz
    walk_nrm
    exact h _ _ 3 1 2 4 ⟨hF, rfl, rfl, rfl, by rw [hsz]; rfl, by rw [hsz]; rfl, by decide, by decide⟩ rfl
  · -- [1, 2, 3, 0, 4, 5]
    refine Gets.val 0 rfl rfl (by k_ne) fun w₁ r => ⟨.chan (some (sz + 1)), w₁.alloc (.chan 0 #[] false 0 0 false), by simp [go_sem, execOp, mk57, (hF.rely r).size, hsz], by simp [go_sem, execOp, mk57e], ?_⟩
    replace hF := (hF.rely r).alloc (.chan 0 #[] false 0 0 false)
    clear r
    walk_nrm
    refine Gets.val 0 rfl rfl (by k_ne) fun w₁ r => ⟨.pointer (some ⟨sz + 2, 0, Option.none⟩), w₁.alloc (.cells #[.chan Option.none] 56), by simp [go_sem, execOp, (hF.rely r).size, hsz], by simp [go_sem, execOp], ?_⟩
    replace hF := (hF.rely r).alloc (.cells #[.chan Option.none] 56)
    clear r
    walk_nrm
    refine Gets.val 0 rfl rfl (by k_ne) fun w₁ r => ⟨.pointer (some ⟨sz + 3, 0, Option.none⟩), w₁.alloc (.cells #[.chan Option.none] 57), by simp [go_sem, execOp, (hF.rely r).size, hsz], by simp [go_sem, execOp], ?_⟩
    replace hF := (hF.rely r).alloc (.cells #[.chan Option.none] 57)
    clear r
    walk_nrm
    refine Gets.val 0 rfl rfl (by k_ne) fun w₁ r => ⟨.chan (some (sz + 4)), w₁.alloc (.chan 0 #[] false 0 0 false), by simp [go_sem, execOp, mk56, (hF.rely r).size, hsz], by simp [go_sem, execOp, mk56e], ?_⟩
    replace hF := (hF.rely r).alloc (.chan 0 #[] false 0 0 false)
    clear r
    walk_nrm
    refine Gets.non (sz + 5) rfl rfl (by k_ne) fun w₁ r => ?_
    have hc := (hF.rely r).cell (k := 2) rfl 0
    have hz := (hF.rely r).thaw (k := 2) rfl 0
    rw [hsz] at hc hz
    refine ⟨w₁.setCell ⟨sz + 2, 0, Option.none⟩ (.chan (some (sz + 4))), by simp [go_sem, execOp, hc, hz], ?_, ?_⟩
    · intro e he; simp [go_sem, execOp, storedEv, hc, hz] at he; subst he; exact evL_plain _ _ (fun hb => by have := hS _ hb; simp only at this; omega) (by simp only; omega)
    replace hF := (hF.rely r).set (k := 2) rfl 0 (.chan (some (sz + 4)))
    rw [hsz] at hF; clear r hc hz
    walk_nrm
    refine Gets.non (sz + 5) rfl rfl (by k_ne) fun w₁ r => ?_
    have hc := (hF.rely r).cell (k := 3) rfl 0
    have hz := (hF.rely r).thaw (k := 3) rfl 0
    rw [hsz] at hc hz
    refine ⟨w₁.setCell ⟨sz + 3, 0, Option.none⟩ (.chan (some (sz + 1))), by simp [go_sem, execOp, hc, hz], ?_, ?_⟩
    · intro e he; simp [go_sem, execOp, storedEv, hc, hz] at he; subst he; exact evL_plain _ _ (fun hb => by have := hS _ hb; simp only at this; omega) (by simp only; omega)
    replace hF := (hF.rely r).set (k := 3) rfl 0 (.chan (some (sz + 1)))
    rw [hsz] at hF; clear r hc hz
    walk_nrm
    exact h _ _ 4 1 2 3 ⟨hF, rfl, rfl, rfl, by rw [hsz]; rfl, by rw [hsz]; rfl, by decide, by decide⟩ rfl
  · -- [1, 3, 0, 2, 4, 5]
    refine Gets.val 0 rfl rfl (by k_ne) fun w₁ r => ⟨.chan (some (sz + 1)), w₁.alloc (.chan 0 #[] false 0 0 false), by simp [go_sem, execOp, mk57, (hF.rely r).size, hsz], by simp [go_sem, execOp, mk57e], ?_⟩
    replace hF := (hF.rely r).alloc (.chan 0 #[] false 0 0 false)
    clear r
    walk_nrm
    refine Gets.val 0 rfl rfl (by k_ne) fun w₁ r => ⟨.pointer (some ⟨sz + 2, 0, Option.none⟩), w₁.alloc (.cells #[.chan Option.none] 57), by simp [go_sem, execOp, (hF.rely r).size, hsz], by simp [go_sem, execOp], ?_⟩
    replace hF := (hF.rely r).alloc (.cells #[.chan Option.none] 57)
    clear r
    walk_nrm
    refine Gets.val 0 rfl rfl (by k_ne) fun w₁ r => ⟨.chan (some (sz + 3)), w₁.alloc (.chan 0 #[] false 0 0 false), by simp [go_sem, execOp, mk56, (hF.rely r).size, hsz], by simp [go_sem, execOp, mk56e], ?_⟩
    replace hF := (hF.rely r).alloc (.chan 0 #[] false 0 0 false)
    clear r
    walk_nrm
    refine Gets.val 0 rfl rfl (by k_ne) fun w₁ r => ⟨.pointer (some ⟨sz + 4, 0, Option.none⟩), w₁.alloc (.cells #[.chan Option.none] 56), by simp [go_sem, execOp, (hF.rely r).size, hsz], by simp [go_sem, execOp], ?_⟩
    replace hF := (hF.rely r).alloc (.cells #[.chan Option.none] 56)
    clear r
    walk_nrm
    refine Gets.non (sz + 5) rfl rfl (by k_ne) fun w₁ r => ?_
    have hc := (hF.rely r).cell (k := 4) rfl 0
    have hz := (hF.rely r).thaw (k := 4) rfl 0
    rw [hsz] at hc hz
    refine ⟨w₁.setCell ⟨sz + 4, 0, Option.none⟩ (.chan (some (sz + 3))), by simp [go_sem, execOp, hc, hz], ?_, ?_⟩
    · intro e he; simp [go_sem, execOp, storedEv, hc, hz] at he; subst he; exact evL_plain _ _ (fun hb => by have := hS _ hb; simp only at this; omega) (by simp only; omega)
    replace hF := (hF.rely r).set (k := 4) rfl 0 (.chan (some (sz + 3)))
    rw [hsz] at hF; clear r hc hz
    walk_nrm
    refine Gets.non (sz + 5) rfl rfl (by k_ne) fun w₁ r => ?_
    have hc := (hF.rely r).cell (k := 2) rfl 0
    have hz := (hF.rely r).thaw (k := 2) rfl 0
    rw [hsz] at hc hz
    refine ⟨w₁.setCell ⟨sz + 2, 0, Option.none⟩ (.chan (some (sz + 1))), by simp [go_sem, execOp, hc, hz], ?_, ?_⟩
    · intro e he; simp [go_sem, execOp, storedEv, hc, hz] at he; subst he; exact evL_plain _ _ (fun hb => by have := hS _ hb; simp only at this; omega) (by simp only; omega)
    replace hF := (hF.rely r).set (k := 2) rfl 0 (.chan (some (sz + 1)))
    rw [hsz] at hF; clear r hc hz
    walk_nrm
    exact h _ _ 3 1 4 2 ⟨hF, rfl, rfl, rfl, by rw [hsz]; rfl, by rw [hsz]; rfl, by decide, by decide⟩ rfl
  · -- [1, 3, 2, 0, 4, 5]
    refine Gets.val 0 rfl rfl (by k_ne) fun w₁ r => ⟨.chan (some (sz + 1)), w₁.alloc (.chan 0 #[] false 0 0 false), by simp [go_sem, execOp, mk57, (hF.rely r).size, hsz], by simp [go_sem, execOp, mk57e], ?_⟩
    replace hF := (hF.rely r).alloc (.chan 0 #[] false 0 0 false)
    clear r
    walk_nrm
    refine Gets.val 0 rfl rfl (by k_ne) fun w₁ r => ⟨.pointer (some ⟨sz + 2, 0, Option.none⟩), w₁.alloc (.cells #[.chan Option.none] 57), by simp [go_sem, execOp, (hF.rely r).size, hsz], by simp [go_sem, execOp], ?_⟩
    replace hF := (hF.rely r).alloc (.cells #[.chan Option.none] 57)
    clear r
    walk_nrm
    refine Gets.val 0 rfl rfl (by k_ne) fun w₁ r => ⟨.pointer (some ⟨sz + 3, 0, Option.none⟩), w₁.alloc (.cells #[.chan Option.none] 56), by simp [go_sem, execOp, (hF.rely r).size, hsz], by simp [go_sem, execOp], ?_⟩
    replace hF := (hF.rely r).alloc (.cells #[.chan Option.none] 56)
    clear r
    walk_nrm
    refine Gets.val 0 rfl rfl (by k_ne) fun w₁ r => ⟨.chan (some (sz + 4)), w₁.alloc (.chan 0 #[] false 0 0 false), by simp [go_sem, execOp, mk56, (hF.rely r).size, hsz], by simp [go_sem, execOp, mk56e], ?_⟩
    replace hF := (hF.rely r).alloc (.chan 0 #[] false 0 0 false)
    clear r
    walk_nrm
    refine Gets.non (sz + 5) rfl rfl (by k_ne) fun w₁ r => ?_
    have hc := (hF.rely r).cell (k := 3) rfl 0
    have hz := (hF.rely r).thaw (k := 3) rfl 0
    rw [hsz] at hc hz
    refine ⟨w₁.setCell ⟨sz + 3, 0, Option.none⟩ (.chan (some (sz + 4))), by simp [go_sem, execOp, hc, hz], ?_, ?_⟩
    · intro e he; simp [go_sem, execOp, storedEv, hc, hz] at he; subst he; exact evL_plain _ _ (fun hb => by have := hS _ hb; simp only at this; omega) (by simp only; omega)
    replace hF := (hF.rely r).set (k := 3) rfl 0 (.chan (some (sz + 4)))
    rw [hsz] at hF; clear r hc hz
    walk_nrm
    refine Gets.non (sz + 5) rfl rfl (by k_ne) fun w₁ r => ?_
    have hc := (hF.rely r).cell (k := 2) rfl 0
    have hz := (hF.rely r).thaw (k := 2) rfl 0
    rw [hsz] at hc hz
    refine ⟨w₁.setCell ⟨sz + 2, 0, Option.none⟩ (.chan (some (sz + 1))), by simp [go_sem, execOp, hc, hz], ?_, ?_⟩
    · intro e he; simp [go_sem, execOp, storedEv, hc, hz] at he; subst he; exact evL_plain _ _ (fun hb => by have := hS _ hb; simp only at this; omega) (by simp only; omega)
    replace hF := (hF.rely r).set (k := 2) rfl 0 (.chan (some (sz + 1)))
    rw [hsz] at hF; clear r hc hz
    walk_nrm
    exact h _ _ 4 1 3 2 ⟨hF, rfl, rfl, rfl, by rw [hsz]; rfl, by rw [hsz]; rfl, by decide, by decide⟩ rfl
  · -- [2, 0, 1, 3, 4, 5]
    refine Gets.val 0 rfl rfl (by k_ne) fun w₁ r => ⟨.pointer (some ⟨sz + 1, 0, Option.none⟩), w₁.alloc (.cells #[.chan Option.none] 56), by simp [go_sem, execOp, (hF.rely r).size, hsz], by simp [go_sem, execOp], ?_⟩
    replace hF := (hF.rely r).alloc (.cells #[.chan Option.none] 56)
    clear r
    walk_nrm
    refine Gets.val 0 rfl rfl (by k_ne) fun w₁ r => ⟨.chan (some (sz + 2)), w₁.alloc (.chan 0 #[] false 0 0 false), by simp [go_sem, execOp, mk56, (hF.rely r).size, hsz], by simp [go_sem, execOp, mk56e], ?_⟩
    replace hF := (hF.rely r).alloc (.chan 0 #[] false 0 0 false)
    clear r
    walk_nrm
    refine Gets.val 0 rfl rfl (by k_ne) fun w₁ r => ⟨.chan (some (sz + 3)), w₁.alloc (.chan 0 #[] false 0 0 false), by simp [go_sem, execOp, mk57, (hF.rely r).size, hsz], by simp [go_sem, execOp, mk57e], ?_⟩
    replace hF := (hF.rely r).alloc (.chan 0 #[] false 0 0 false)
    clear r
    walk_nrm
    refine Gets.val 0 rfl rfl (by k_ne) fun w₁ r => ⟨.pointer (some ⟨sz + 4, 0, Option.none⟩), w₁.alloc (.cells #[.chan Option.none] 57), by simp [go_sem, execOp, (hF.rely r).size, hsz], by simp [go_sem, execOp], ?_⟩
    replace hF := (hF.rely r).alloc (.cells #[.chan Option.none] 57)
    clear r
    walk_nrm
    refine Gets.non (sz + 5) rfl rfl (by k_ne) fun w₁ r => ?_
    have hc := (hF.rely r).cell (k := 1) rfl 0
    have hz := (hF.rely r).thaw (k := 1) rfl 0
    rw [hsz] at hc hz
    refine ⟨w₁.setCell ⟨sz + 1, 0, Option.none⟩ (.chan (some (sz + 2))), by simp [go_sem, execOp, hc, hz], ?_, ?_⟩
    · intro e he; simp [go_sem, execOp, storedEv, hc, hz] at he; subst he; exact evL_plain _ _ (fun hb => by have := hS _ hb; simp only at this; omega) (by simp only; omega)
    replace hF := (hF.rely r).set (k := 1) rfl 0 (.chan (some (sz + 2)))
    rw [hsz] at hF; clear r hc hz
    walk_nrm
    refine Gets.non (sz + 5) rfl rfl (by k_ne) fun w₁ r => ?_
    have hc := (hF.rely r).cell (k := 4) rfl 0
    have hz := (hF.rely r).thaw (k := 4) rfl 0
    rw [hsz] at hc hz
    refine ⟨w₁.setCell ⟨sz + 4, 0, Option.none⟩ (.chan (some (sz + 3))), by simp [go_sem, execOp, hc, hz], ?_, ?_⟩
    · intro e he; simp [go_sem, execOp, storedEv, hc, hz] at he; subst he; exact evL_plain _ _ (fun hb => by have := hS _ hb; simp only at this; omega) (by simp only; omega)
    replace hF := (hF.rely r).set (k := 4) rfl 0 (.chan (some (sz + 3)))
    rw [hsz] at hF; clear r hc hz
    walk_nrm
    exact h _ _ 2 3 1 4 ⟨hF, rfl, rfl, rfl, by rw [hsz]; rfl, by rw [hsz]; rfl, by decide, by decide⟩ rfl
  · -- [2, 0, 3, 1, 4, 5]
    refine Gets.val 0 rfl rfl (by k_ne) fun w₁ r => ⟨.pointer (some ⟨sz + 1, 0, Option.none⟩), w₁.alloc (.cells #[.chan Option.none] 56), by simp [go_sem, execOp, (hF.rely r).size, hsz], by simp [go_sem, execOp], ?_⟩
    replace hF := (hF.rely r).alloc (.cells #[.chan Option.none] 56)
    clear r
    walk_nrm
    refine Gets.val 0 rfl rfl (by k_ne) fun w₁ r => ⟨.chan (some (sz + 2)), w₁.alloc (.chan 0 #[] false 0 0 false), by simp [go_sem, execOp, mk56, (hF.rely r).size, hsz], by simp [go_sem, execOp, mk56e], ?_⟩
    replace hF := (hF.rely r).alloc (.chan 0 #[] false 0 0 false)
    clear r
    walk_nrm
    refine Gets.val 0 rfl rfl (by k_ne) fun w₁ r => ⟨.pointer (some ⟨sz + 3, 0, Option.none⟩), w₁.alloc (.cells #[.chan Option.none] 57), by simp [go_sem, execOp, (hF.rely r).size, hsz], by simp [go_sem, execOp], ?_⟩
    replace hF := (hF.rely r).alloc (.cells #[.chan Option.none] 57)
    clear r
    walk_nrm
    refine Gets.val 0 rfl rfl (by k_ne) fun w₁ r => ⟨.chan (some (sz + 4)), w₁.alloc (.chan 0 #[] false 0 0 false), by simp [go_sem, execOp, mk57, (hF.rely r).size, hsz], by simp [go_sem, execOp, mk57e], ?_⟩
    replace hF := (hF.rely r).alloc (.chan 0 #[] false 0 0 false)
    clear r
    walk_nrm
    refine Gets.non (sz + 5) rfl rfl (by k_ne) fun w₁ r => ?_
    have hc := (hF.rely r).cell (k := 1) rfl 0
    have hz := (hF.rely r).thaw (k := 1) rfl 0
    rw [hsz] at hc hz
    refine ⟨w₁.setCell ⟨sz + 1, 0, Option.none⟩ (.chan (some (sz + 2))), by simp [go_sem, execOp, hc, hz], ?_, ?_⟩
    · intro e he; simp [go_sem, execOp, storedEv, hc, hz] at he; subst he; exact evL_plain _ _ (fun hb => by have := hS _ hb; simp only at this; omega) (by simp only; omega)
    replace hF := (hF.rely r).set (k := 1) rfl 0 (.chan (some (sz + 2)))
    rw [hsz] at hF; clear r hc hz
    walk_nrm
    refine Gets.non (sz + 5) rfl rfl (by k_ne) fun w₁ r => ?_
    have hc := (hF.rely r).cell (k := 3) rfl 0
    have hz := (hF.rely r).thaw (k := 3) rfl 0
    rw [hsz] at hc hz
    refine ⟨w₁.setCell ⟨sz + 3, 0, Option.none⟩ (.chan (some (sz + 4))), by simp [go_sem, execOp, hc, hz], ?_, ?_⟩
    · intro e he; simp [go_sem, execOp, storedEv, hc, hz] at he; subst he; exact evL_plain _ _ (fun hb => by have := hS _ hb; simp only at this; omega) (by simp only; omega)
    replace hF := (hF.rely r).set (k := 3) rfl 0 (.chan (some (sz + 4)))
    rw [hsz] at hF; clear r hc hz
    walk_nrm
    exact h _ _ 2 4 1 3 ⟨hF, rfl, rfl, rfl, by rw [hsz]; rfl, by rw [hsz]; rfl, by decide, by decide⟩ rfl
  · -- [2, 0, 3, 4, 1, 5]
    refine Gets.val 0 rfl rfl (by k_ne) fun w₁ r => ⟨.pointer (some ⟨sz + 1, 0, Option.none⟩), w₁.alloc (.cells #[.chan Option.none] 56), by simp [go_sem, execOp, (hF.rely r).size, hsz], by simp [go_sem, execOp], ?_⟩
    replace hF := (hF.rely r).alloc (.cells #[.chan Option.none] 56)
    clear r
    walk_nrm
    refine Gets.val 0 rfl rfl (by k_ne) fun w₁ r => ⟨.chan (some (sz + 2)), w₁.alloc (.chan 0 #[] false 0 0 false), by simp [go_sem, execOp, mk56, (hF.rely r).size, hsz], by simp [go_sem, execOp, mk56e], ?_⟩
    replace hF := (hF.rely r).alloc (.chan 0 #[] false 0 0 false)
    clear r
    walk_nrm
    refine Gets.val 0 rfl rfl (by k_ne) fun w₁ r => ⟨.pointer (some ⟨sz + 3, 0, Option.none⟩), w₁.alloc (.cells #[.chan Option.none] 57), by simp [go_sem, execOp, (hF.rely r).size, hsz], by simp [go_sem, execOp], ?_⟩
    replace hF := (hF.rely r).alloc (.cells #[.chan Option.none] 57)
    clear r
    walk_nrm
    refine Gets.non (sz + 5) rfl rfl (by k_ne) fun w₁ r => ?_
    have hc := (hF.rely r).cell (k := 1) rfl 0
    have hz := (hF.rely r).thaw (k := 1) rfl 0
    rw [hsz] at hc hz
    refine ⟨w₁.setCell ⟨sz + 1, 0, Option.none⟩ (.chan (some (sz + 2))), by simp [go_sem, execOp, hc, hz], ?_, ?_⟩
    · intro e he; simp [go_sem, execOp, storedEv, hc, hz] at he; subst he; exact evL_plain _ _ (fun hb => by have := hS _ hb; simp only at this; omega) (by simp only; omega)
    replace hF := (hF.rely r).set (k := 1) rfl 0 (.chan (some (sz + 2)))
    rw [hsz] at hF; clear r hc hz
    walk_nrm
    refine Gets.val 0 rfl rfl (by k_ne) fun w₁ r => ⟨.chan (some (sz + 4)), w₁.alloc (.chan 0 #[] false 0 0 false), by simp [go_sem, execOp, mk57, (hF.rely r).size, hsz], by simp [go_sem, execOp, mk57e], ?_⟩
    replace hF := (hF.rely r).alloc (.chan 0 #[] false 0 0 false)
    clear r
    walk_nrm
    refine Gets.non (sz + 5) rfl rfl (by k_ne) fun w₁ r => ?_
    have hc := (hF.rely r).cell (k := 3) rfl 0
    have hz := (hF.rely r).thaw (k := 3) rfl 0
    rw [hsz] at hc hz
    refine ⟨w₁.setCell ⟨sz + 3, 0, Option.none⟩ (.chan (some (sz + 4))), by simp [go_sem, execOp, hc, hz], ?_, ?_⟩
    · intro e he; simp [go_sem, execOp, storedEv, hc, hz] at he; subst he; exact evL_plain _ _ (fun hb => by have := hS _ hb; simp only at this; omega) (by simp only; omega)
    replace hF := (hF.rely r).set (k := 3) rfl 0 (.chan (some (sz + 4)))
    rw [hsz] at hF; clear r hc hz
    walk_nrm
    exact h _ _ 2 4 1 3 ⟨hF, rfl, rfl, rfl, by rw [hsz]; rfl, by rw [hsz]; rfl, by decide, by decide⟩ rfl
  · -- [2, 1, 0, 3, 4, 5]
    refine Gets.val 0 rfl rfl (by k_ne) fun w₁ r => ⟨.pointer (some ⟨sz + 1, 0, Option.none⟩), w₁.alloc (.cells #[.chan Option.none] 56), by simp [go_sem, execOp, (hF.rely r).size, hsz], by simp [go_sem, execOp], ?_⟩
    replace hF := (hF.rely r).alloc (.cells #[.chan Option.none] 56)
    clear r
    walk_nrm
    refine Gets.val 0 rfl rfl (by k_ne) fun w₁ r => ⟨.chan (some (sz + 2)), w₁.alloc (.chan 0 #[] false 0 0 false), by simp [go_sem, execOp, mk57, (hF.rely r).size, hsz], by simp [go_sem, execOp, mk57e], ?_⟩
    replace hF := (hF.rely r).alloc (.chan 0 #[] false 0 0 false)
    clear r
    walk_nrm
    refine Gets.val 0 rfl rfl (by k_ne) fun w₁ r => ⟨.chan (some (sz + 3)), w₁.alloc (.chan 0 #[] false 0 0 false), by simp [go_sem, execOp, mk56, (hF.rely r).size, hsz], by simp [go_sem, execOp, mk56e], ?_⟩
    replace hF := (hF.rely r).alloc (.chan 0 #[] false 0 0 false)
    clear r
    walk_nrm
    refine Gets.val 0 rfl rfl (by k_ne) fun w₁ r => ⟨.pointer (some ⟨sz + 4, 0, Option.none⟩), w₁.alloc (.cells #[.chan Option.none] 57), by simp [go_sem, execOp, (hF.rely r).size, hsz], by simp [go_sem, execOp], ?_⟩
    replace hF := (hF.rely r).alloc (.cells #[.chan Option.none] 57)
    clear r
    walk_nrm
    refine Gets.non (sz + 5) rfl rfl (by k_ne) fun w₁ r => ?_
    have hc := (hF.rely r).cell (k := 1) rfl 0
    have hz := (hF.rely r).thaw (k := 1) rfl 0
    rw [hsz] at hc hz
    refine ⟨w₁.setCell ⟨sz + 1, 0, Option.none⟩ (.chan (some (sz + 3))), by simp [go_sem, execOp, hc, hz], ?_, ?_⟩
    · intro e he; simp [go_sem, execOp, storedEv, hc, hz] at he; subst he; exact evL_plain _ _ (fun hb => by have := hS _ hb; simp only at this; omega) (by simp only; omega)
    replace hF := (hF.rely r).set (k := 1) rfl 0 (.chan (some (sz + 3)))
    rw [hsz] at hF; clear r hc hz
    walk_nrm
    refine Gets.non (sz + 5) rfl rfl (by k_ne) fun w₁ r => ?_
    have hc := (hF.rely r).cell (k := 4) rfl 0
    have hz := (hF.rely r).thaw (k := 4) rfl 0
    rw [hsz] at hc hz
    refine ⟨w₁.setCell ⟨sz + 4, 0, Option.none⟩ (.chan (some (sz + 2))), by simp [go_sem, execOp, hc, hz], ?_, ?_⟩
    · intro e he; simp [go_sem, execOp, storedEv, hc, hz] at he; subst he; exact evL_plain _ _ (fun hb => by have := hS _ hb; simp only at this; omega) (by simp only; omega)
    replace hF := (hF.rely r).set (k := 4) rfl 0 (.chan (some (sz + 2)))
    rw [hsz] at hF; clear r hc hz
    walk_nrm
    exact h _ _ 3 2 1 4 ⟨hF, rfl, rfl, rfl, by rw [hsz]; rfl, by rw [hsz]; rfl, by decide, by decide⟩ rfl
  · -- [2, 1, 3, 0, 4, 5]
    refine Gets.val 0 rfl rfl (by k_ne) fun w₁ r => ⟨.pointer (some ⟨sz + 1, 0, Option.none⟩), w₁.alloc (.cells #[.chan Option.none] 56), by simp [go_sem, execOp, (hF.rely r).size, hsz], by simp [go_sem, execOp], ?_⟩
    replace hF := (hF.rely r).alloc (.cells #[.chan Option.none] 56)
    clear r
    walk_nrm
    refine Gets.val 0 rfl rfl (by k_ne) fun w₁ r => ⟨.chan (some (sz + 2)), w₁.alloc (.chan 0 #[] false 0 0 false), by simp [go_sem, execOp, mk57, (hF.rely r).size, hsz], by simp [go_sem, execOp, mk57e], ?_⟩
    replace hF := (hF.rely r).alloc (.chan 0 #[] false 0 0 false)
    clear r
    walk_nrm
    refine Gets.val 0 rfl rfl (by k_ne) fun w₁ r => ⟨.pointer (some ⟨sz + 3, 0, Option.none⟩), w₁.alloc (.cells #[.chan Option.none] 57), by simp [go_sem, execOp, (hF.rely r).size, hsz], by simp [go_sem, execOp], ?_⟩
    replace hF := (hF.rely r).alloc (.cells #[.chan Option.none] 57)
    clear r
    walk_nrm
    refine Gets.val 0 rfl rfl (by k_ne) fun w₁ r => ⟨.chan (some (sz + 4)), w₁.alloc (.chan 0 #[] false 0 0 false), by simp [go_sem, execOp, mk56, (hF.rely r).size, hsz], by simp [go_sem, execOp, mk56e], ?_⟩
    replace hF := (hF.rely r).alloc (.chan 0 #[] false 0 0 false)
    clear r
    walk_nrm
    refine Gets.non (sz + 5) rfl rfl (by k_ne) fun w₁ r => ?_
    have hc := (hF.rely r).cell (k := 1) rfl 0
    have hz := (hF.rely r).thaw (k := 1) rfl 0
    rw [hsz] at hc hz
    refine ⟨w₁.setCell ⟨sz + 1, 0, Option.none⟩ (.chan (some (sz + 4))), by simp [go_sem, execOp, hc, hz], ?_, ?_⟩
    · intro e he; simp [go_sem, execOp, storedEv, hc, hz] at he; subst he; exact evL_plain _ _ (fun hb => by have := hS _ hb; simp only at this; omega) (by simp only; omega)
    replace hF := (hF.rely r).set (k := 1) rfl 0 (.chan (some (sz + 4)))
    rw [hsz] at hF; clear r hc hz
    walk_nrm
    refine Gets.non (sz + 5) rfl rfl (by k_ne) fun w₁ r => ?_
    have hc := (hF.rely r).cell (k := 3) rfl 0
    have hz := (hF.rely r).thaw (k := 3) rfl 0
    rw [hsz] at hc hz
    refine ⟨w₁.setCell ⟨sz + 3, 0, Option.none⟩ (.chan (some (sz + 2))), by simp [go_sem, execOp, hc, hz], ?_, ?_⟩
    · intro e he; simp [go_sem, execOp, storedEv, hc, hz] at he; subst he; exact evL_plain _ _ (fun hb => by have := hS _ hb; simp only at this; omega) (by simp only; omega)
    replace hF := (hF.rely r).set (k := 3) rfl 0 (.chan (some (sz + 2)))
    rw [hsz] at hF; clear r hc hz
    walk_nrm
    exact h _ _ 4 2 1 3 ⟨hF, rfl, rfl, rfl, by rw [hsz]; rfl, by rw [hsz]; rfl, by decide, by decide⟩ rfl
  · -- [2, 3, 0, 1, 4, 5]
    refine Gets.val 0 rfl rfl (by k_ne) fun w₁ r => ⟨.pointer (some ⟨sz + 1, 0, Option.none⟩), w₁.alloc (.cells #[.chan Option.none] 56), by simp [go_sem, execOp, (hF.rely r).size, hsz], by simp [go_sem, execOp], ?_⟩
    replace hF := (hF.rely r).alloc (.cells #[.chan Option.none] 56)
    clear r
    walk_nrm
    refine Gets.val 0 rfl rfl (by k_ne) fun w₁ r => ⟨.pointer (some ⟨sz + 2, 0, Option.none⟩), w₁.alloc (.cells #[.chan Option.none] 57), by simp [go_sem, execOp, (hF.rely r).size, hsz], by simp [go_sem, execOp], ?_⟩
    replace hF := (hF.rely r).alloc (.cells #[.chan Option.none] 57)
    clear r
    walk_nrm
    refine Gets.val 0 rfl rfl (by k_ne) fun w₁ r => ⟨.chan (some (sz + 3)), w₁.alloc (.chan 0 #[] false 0 0 false), by simp [go_sem, execOp, mk56, (hF.rely r).size, hsz], by simp [go_sem, execOp, mk56e], ?_⟩
    replace hF := (hF.rely r).alloc (.chan 0 #[] false 0 0 false)
    clear r
    walk_nrm
    refine Gets.val 0 rfl rfl (by k_ne) fun w₁ r => ⟨.chan (some (sz + 4)), w₁.alloc (.chan 0 #[] false 0 0 false), by simp [go_sem, execOp, mk57, (hF.rely r).size, hsz], by simp [go_sem, execOp, mk57e], ?_⟩
    replace hF := (hF.rely r).alloc (.chan 0 #[] false 0 0 false)
    clear r
    walk_nrm
    refine Gets.non (sz + 5) rfl rfl (by k_ne) fun w₁ r => ?_
    have hc := (hF.rely r).cell (k := 1) rfl 0
    have hz := (hF.rely r).thaw (k := 1) rfl 0
    rw [hsz] at hc hz
    refine ⟨w₁.setCell ⟨sz + 1, 0, Option.none⟩ (.chan (some (sz + 3))), by simp [go_sem, execOp, hc, hz], ?_, ?_⟩
    · intro e he; simp [go_sem, execOp, storedEv, hc, hz] at he; subst he; exact evL_plain _ _ (fun hb => by have := hS _ hb; simp only at this; omega) (by simp only; omega)
    replace hF := (hF.rely r).set (k := 1) rfl 0 (.chan (some (sz + 3)))
    rw [hsz] at hF; clear r hc hz
    walk_nrm
    refine Gets.non (sz + 5) rfl rfl (by k_ne) fun w₁ r => ?_
    have hc := (hF.rely r).cell (k := 2) rfl 0
    have hz := (hF.rely r).thaw (k := 2) rfl 0
    rw [hsz] at hc hz
    refine ⟨w₁.setCell ⟨sz + 2, 0, Option.none⟩ (.chan (some (sz + 4))), by simp [go_sem, execOp, hc, hz], ?_, ?_⟩
    · intro e he; simp [go_sem, execOp, storedEv, hc, hz] at he; subst he; exact evL_plain _ _ (fun hb => by have := hS _ hb; simp only at this; omega) (by simp only; omega)
    replace hF := (hF.rely r).set (k := 2) rfl 0 (.chan (some (sz + 4)))
    rw [hsz] at hF; clear r hc hz
    walk_nrm
    exact h _ _ 3 4 1 2 ⟨hF, rfl, rfl, rfl, by rw [hsz]; rfl, by rw [hsz]; rfl, by decide, by decide⟩ rfl
  · -- [2, 3, 0, 4, 1, 5]
    refine Gets.val 0 rfl rfl (by k_ne) fun w₁ r => ⟨.pointer (some ⟨sz + 1, 0, Option.none⟩), w₁.alloc (.cells #[.chan Option.none] 56), by simp [go_sem, execOp, (hF.rely r).size, hsz], by simp [go_sem, execOp], ?_⟩
    replace hF := (hF.rely r).alloc (.cells #[.chan Option.none] 56)
    clear r
    walk_nrm
    refine Gets.val 0 rfl rfl (by k_ne) fun w₁ r => ⟨.pointer (some ⟨sz + 2, 0, Option.none⟩), w₁.alloc (.cells #[.chan Option.none] 57), by simp [go_sem, execOp, (hF.rely r).size, hsz], by simp [go_sem, execOp], ?_⟩
    replace hF := (hF.rely r).alloc (.cells #[.chan Option.none] 57)
    clear r
    walk_nrm
    refine Gets.val 0 rfl rfl (by k_ne) fun w₁ r => ⟨.chan (some (sz + 3)), w₁.alloc (.chan 0 #[] false 0 0 false), by simp [go_sem, execOp, mk56, (hF.rely r).size, hsz], by simp [go_sem, execOp, mk56e], ?_⟩
    replace hF := (hF.rely r).alloc (.chan 0 #[] false 0 0 false)
    clear r
    walk_nrm
    refine Gets.non (sz + 5) rfl rfl (by k_ne) fun w₁ r => ?_
    have hc := (hF.rely r).cell (k := 1) rfl 0
    have hz := (hF.rely r).thaw (k := 1) rfl 0
    rw [hsz] at hc hz
    refine ⟨w₁.setCell ⟨sz + 1, 0, Option.none⟩ (.chan (some (sz + 3))), by simp [go_sem, execOp, hc, hz], ?_, ?_⟩
    · intro e he; simp [go_sem, execOp, storedEv, hc, hz] at he; subst he; exact evL_plain _ _ (fun hb => by have := hS _ hb; simp only at this; omega) (by simp only; omega)
    replace hF := (hF.rely r).set (k := 1) rfl 0 (.chan (some (sz + 3)))
    rw [hsz] at hF; clear r hc hz
    walk_nrm
    refine Gets.val 0 rfl rfl (by k_ne) fun w₁ r => ⟨.chan (some (sz + 4)), w₁.alloc (.chan 0 #[] false 0 0 false), by simp [go_sem, execOp, mk57, (hF.rely r).size, hsz], by simp [go_sem, execOp, mk57e], ?_⟩
    replace hF := (hF.rely r).alloc (.chan 0 #[] false 0 0 false)
    clear r
    walk_nrm
    refine Gets.non (sz + 5) rfl rfl (by k_ne) fun w₁ r => ?_
    have hc := (hF.rely r).cell (k := 2) rfl 0
    have hz := (hF.rely r).thaw (k := 2) rfl 0
    rw [hsz] at hc hz
    refine ⟨w₁.setCell ⟨sz + 2, 0, Option.none⟩ (.chan (some (sz + 4))), by simp [go_sem, execOp, hc, hz], ?_, ?_⟩
    · intro e he; simp [go_sem, execOp, storedEv, hc, hz] at he; subst he; exact evL_plain _ _ (fun hb => by have := hS _ hb; simp only at this; omega) (by simp only; omega)
    replace hF := (hF.rely r).set (k := 2) rfl 0 (.chan (some (sz + 4)))
    rw [hsz] at hF; clear r hc hz
    walk_nrm
    exact h _ _ 3 4 1 2 ⟨hF, rfl, rfl, rfl, by rw [hsz]; rfl, by rw [hsz]; rfl, by decide, by decide⟩ rfl
  · -- [2, 3, 1, 0, 4, 5]
    refine Gets.val 0 rfl rfl (by k_ne) fun w₁ r => ⟨.pointer (some ⟨sz + 1, 0, Option.none⟩), w₁.alloc (.cells #[.chan Option.none] 56), by simp [go_sem, execOp, (hF.rely r).size, hsz], by simp [go_sem, execOp], ?_⟩
    replace hF := (hF.rely r).alloc (.cells #[.chan Option.none] 56)
    clear r
    walk_nrm
    refine Gets.val 0 rfl rfl (by k_ne) fun w₁ r => ⟨.pointer (some ⟨sz + 2, 0, Option.none⟩), w₁.alloc (.cells #[.chan Option.none] 57), by simp [go_sem, execOp, (hF.rely r).size, hsz], by simp [go_sem, execOp], ?_⟩
    replace hF := (hF.rely r).alloc (.cells #[.chan Option.none] 57)
    clear r
    walk_nrm
    refine Gets.val 0 rfl rfl (by k_ne) fun w₁ r => ⟨.chan (some (sz + 3)), w₁.alloc (.chan 0 #[] false 0 0 false), by simp [go_sem, execOp, mk57, (hF.rely r).size, hsz], by simp [go_sem, execOp, mk57e], ?_⟩
    replace hF := (hF.rely r).alloc (.chan 0 #[] false 0 0 false)
    clear r
    walk_nrm
    refine Gets.val 0 rfl rfl (by k_ne) fun w₁ r => ⟨.chan (some (sz + 4)), w₁.alloc (.chan 0 #[] false 0 0 false), by simp [go_sem, execOp, mk56, (hF.rely r).size, hsz], by simp [go_sem, execOp, mk56e], ?_⟩
    replace hF := (hF.rely r).alloc (.chan 0 #[] false 0 0 false)
    clear r
    walk_nrm
    refine Gets.non (sz + 5) rfl rfl (by k_ne) fun w₁ r => ?_
    have hc := (hF.rely r).cell (k := 1) rfl 0
    have hz := (hF.rely r).thaw (k := 1) rfl 0
    rw [hsz] at hc hz
    refine ⟨w₁.setCell ⟨sz + 1, 0, Option.none⟩ (.chan (some (sz + 4))), by simp [go_sem, execOp, hc, hz], ?_, ?_⟩
    · intro e he; simp [go_sem, execOp, storedEv, hc, hz] at he; subst he; exact evL_plain _ _ (fun hb => by have := hS _ hb; simp only at this; omega) (by simp only; omega)
    replace hF := (hF.rely r).set (k := 1) rfl 0 (.chan (some (sz + 4)))
    rw [hsz] at hF; clear r hc hz
    walk_nrm
    refine Gets.non (sz + 5) rfl rfl (by k_ne) fun w₁ r => ?_
    have hc := (hF.rely r).cell (k := 2) rfl 0
    have hz := (hF.rely r).thaw (k := 2) rfl 0
    rw [hsz] at hc hz
    refine ⟨w₁.setCell ⟨sz + 2, 0, Option.none⟩ (.chan (some (sz + 3))), by simp [go_sem, execOp, hc, hz], ?_, ?_⟩
    · intro e he; simp [go_sem, execOp, storedEv, hc, hz] at he; subst he; exact evL_plain _ _ (fun hb => by have := hS _ hb; simp only at this; omega) (by simp only; omega)
    replace hF := (hF.rely r).set (k := 2) rfl 0 (.chan (some (sz + 3)))
    rw [hsz] at hF; clear r hc hz
    walk_nrm
    exact h _ _ 4 3 1 2 ⟨hF, rfl, rfl, rfl, by rw [hsz]; rfl, by rw [hsz]; rfl, by decide, by decide⟩ rfl
  · -- [3, 0, 1, 2, 4, 5]
    refine Gets.val 0 rfl rfl (by k_ne) fun w₁ r => ⟨.pointer (some ⟨sz + 1, 0, Option.none⟩), w₁.alloc (.cells #[.chan Option.none] 57), by simp [go_sem, execOp, (hF.rely r).size, hsz], by simp [go_sem, execOp], ?_⟩
    replace hF := (hF.rely r).alloc (.cells #[.chan Option.none] 57)
    clear r
    walk_nrm
    refine Gets.val 0 rfl rfl (by k_ne) fun w₁ r => ⟨.chan (some (sz + 2)), w₁.alloc (.chan 0 #[] false 0 0 false), by simp [go_sem, execOp, mk56, (hF.rely r).size, hsz], by simp [go_sem, execOp, mk56e], ?_⟩
    replace hF := (hF.rely r).alloc (.chan 0 #[] false 0 0 false)
    clear r
    walk_nrm
    refine Gets.val 0 rfl rfl (by k_ne) fun w₁ r => ⟨.chan (some (sz + 3)), w₁.alloc (.chan 0 #[] false 0 0 false), by simp [go_sem, execOp, mk57, (hF.rely r).size, hsz], by simp [go_sem, execOp, mk57e], ?_⟩
    replace hF := (hF.rely r).alloc (.chan 0 #[] false 0 0 false)
    clear r
    walk_nrm
    refine Gets.val 0 rfl rfl (by k_ne) fun w₁ r => ⟨.pointer (some ⟨sz + 4, 0, Option.none⟩), w₁.alloc (.cells #[.chan Option.none] 56), by simp [go_sem, execOp, (hF.rely r).size, hsz], by simp [go_sem, execOp], ?_⟩
    replace hF := (hF.rely r).alloc (.cells #[.chan Option.none] 56)
    clear r
    walk_nrm
    refine Gets.non (sz + 5) rfl rfl (by k_ne) fun w₁ r => ?_
    have hc := (hF.rely r).cell (k := 4) rfl 0
    have hz := (hF.rely r).thaw (k := 4) rfl 0
    rw [hsz] at hc hz
    refine ⟨w₁.setCell ⟨sz + 4, 0, Option.none⟩ (.chan (some (sz + 2))), by simp [go_sem, execOp, hc, hz], ?_, ?_⟩
    · intro e he; simp [go_sem, execOp, storedEv, hc, hz] at he; subst he; exact evL_plain _ _ (fun hb => by have := hS _ hb; simp only at this; omega) (by simp only; omega)
    replace hF := (hF.rely r).set (k := 4) rfl 0 (.chan (some (sz + 2)))
    rw [hsz] at hF; clear r hc hz
    walk_nrm
    refine Gets.non (sz + 5) rfl rfl (by k_ne) fun w₁ r => ?_
    have hc := (hF.rely r).cell (k := 1) rfl 0
    have hz := (hF.rely r).thaw (k := 1) rfl 0
    rw [hsz] at hc hz
    refine ⟨w₁.setCell ⟨sz + 1, 0, Option.none⟩ (.chan (some (sz + 3))), by simp [go_sem, execOp, hc, hz], ?_, ?_⟩
    · intro e he; simp [go_sem, execOp, storedEv, hc, hz] at he; subst he; exact evL_plain _ _ (fun hb => by have := hS _ hb; simp only at this; omega) (by simp only; omega)
    replace hF := (hF.rely r).set (k := 1) rfl 0 (.chan (some (sz + 3)))
    rw [hsz] at hF; clear r hc hz
    walk_nrm
    exact h _ _ 2 3 4 1 ⟨hF, rfl, rfl, rfl, by rw [hsz]; rfl, by rw [hsz]; rfl, by decide, by decide⟩ rfl
  · -- [3, 0, 2, 1, 4, 5]
    refine Gets.val 0 rfl rfl (by k_ne) fun w₁ r => ⟨.pointer (some ⟨sz + 1, 0, Option.none⟩), w₁.alloc (.cells #[.chan Option.none] 57), by simp [go_sem, execOp, (hF.rely r).size, hsz], by simp [go_sem, execOp], ?_⟩
    replace hF := (hF.rely r).alloc (.cells #[.chan Option.none] 57)
    clear r
    walk_nrm
    refine Gets.val 0 rfl rfl (by k_ne) fun w₁ r => ⟨.chan (some (sz + 2)), w₁.alloc (.chan 0 #[] false 0 0 false), by simp [go_sem, execOp, mk56, (hF.rely r).size, hsz], by simp [go_sem, execOp, mk56e], ?_⟩
    replace hF := (hF.rely r).alloc (.chan 0 #[] false 0 0 false)
    clear r
    walk_nrm
    refine Gets.val 0 rfl rfl (by k_ne) fun w₁ r => ⟨.pointer (some ⟨sz + 3, 0, Option.none⟩), w₁.alloc (.cells #[.chan Option.none] 56), by simp [go_sem, execOp, (hF.rely r).size, hsz], by simp [go_sem, execOp], ?_⟩
    replace hF := (hF.rely r).alloc (.cells #[.chan Option.none] 56)
    clear r
    walk_nrm
    refine Gets.val 0 rfl rfl (by k_ne) fun w₁ r => ⟨.chan (some (sz + 4)), w₁.alloc (.chan 0 #[] false 0 0 false), by simp [go_sem, execOp, mk57, (hF.rely r).size, hsz], by simp [go_sem, execOp, mk57e], ?_⟩
    replace hF := (hF.rely r).alloc (.chan 0 #[] false 0 0 false)
    clear r
    walk_nrm
    refine Gets.non (sz + 5) rfl rfl (by k_ne) fun w₁ r => ?_
    have hc := (hF.rely r).cell (k := 3) rfl 0
    have hz := (hF.rely r).thaw (k := 3) rfl 0
    rw [hsz] at hc hz
    refine ⟨w₁.setCell ⟨sz + 3, 0, Option.none⟩ (.chan (some (sz + 2))), by simp [go_sem, execOp, hc, hz], ?_, ?_⟩
    · intro e he; simp [go_sem, execOp, storedEv, hc, hz] at he; subst he; exact evL_plain _ _ (fun hb => by have := hS _ hb; simp only at this; omega) (by simp only; omega)
    replace hF := (hF.rely r).set (k := 3) rfl 0 (.chan (some (sz + 2)))
    rw [hsz] at hF; clear r hc hz
    walk_nrm
    refine Gets.non (sz + 5) rfl rfl (by k_ne) fun w₁ r => ?_
    have hc := (hF.rely r).cell (k := 1) rfl 0
    have hz := (hF.rely r).thaw (k := 1) rfl 0
    rw [hsz] at hc hz
    refine ⟨w₁.setCell ⟨sz + 1, 0, Option.none⟩ (.chan (some (sz + 4))), by simp [go_sem, execOp, hc, hz], ?_, ?_⟩
    · intro e he; simp [go_sem, execOp, storedEv, hc, hz] at he; subst he; exact evL_plain _ _ (fun hb => by have := hS _ hb; simp only at this; omega) (by simp only; omega)
    replace hF := (hF.rely r).set (k := 1) rfl 0 (.chan (some (sz + 4)))
    rw [hsz] at hF; clear r hc hz
    walk_nrm
    exact h _ _ 2 4 3 1 ⟨hF, rfl, rfl, rfl, by rw [hsz]; rfl, by rw [hsz]; rfl, by decide, by decide⟩ rfl
  · -- [3, 0, 2, 4, 1, 5]
    refine Gets.val 0 rfl rfl (by k_ne) fun w₁ r => ⟨.pointer (some ⟨sz + 1, 0, Option.none⟩), w₁.alloc (.cells #[.chan Option.none] 57), by simp [go_sem, execOp, (hF.rely r).size, hsz], by simp [go_sem, execOp], ?_⟩
    replace hF := (hF.rely r).alloc (.cells #[.chan Option.none] 57)
    clear r
    walk_nrm
    refine Gets.val 0 rfl rfl (by k_ne) fun w₁ r => ⟨.chan (some (sz + 2)), w₁.alloc (.chan 0 #[] false 0 0 false), by simp [go_sem, execOp, mk56, (hF.rely r).size, hsz], by simp [go_sem, execOp, mk56e], ?_⟩
    replace hF := (hF.rely r).alloc (.chan 0 #[] false 0 0 false)
    clear r
    walk_nrm
    refine Gets.val 0 rfl rfl (by k_ne) fun w₁ r => ⟨.pointer (some ⟨sz + 3, 0, Option.none⟩), w₁.alloc (.cells #[.chan Option.none] 56), by simp [go_sem, execOp, (hF.rely r).size, hsz], by simp [go_sem, execOp], ?_⟩
    replace hF := (hF.rely r).alloc (.cells #[.chan Option.none] 56)
    clear r
    walk_nrm
    refine Gets.non (sz + 5) rfl rfl (by k_ne) fun w₁ r => ?_
    have hc := (hF.rely r).cell (k := 3) rfl 0
    have hz := (hF.rely r).thaw (k := 3) rfl 0
    rw [hsz] at hc hz
    refine ⟨w₁.setCell ⟨sz + 3, 0, Option.none⟩ (.chan (some (sz + 2))), by simp [go_sem, execOp, hc, hz], ?_, ?_⟩
    · intro e he; simp [go_sem, execOp, storedEv, hc, hz] at he; subst he; exact evL_plain _ _ (fun hb => by have := hS _ hb; simp only at this; omega) (by simp only; omega)
    replace hF := (hF.rely r).set (k := 3) rfl 0 (.chan (some (sz + 2)))
    rw [hsz] at hF; clear r hc hz
    walk_nrm
    refine Gets.val 0 rfl rfl (by k_ne) fun w₁ r => ⟨.chan (some (sz + 4)), w₁.alloc (.chan 0 #[] false 0 0 false), by simp [go_sem, execOp, mk57, (hF.rely r).size, hsz], by simp [go_sem, execOp, mk57e], ?_⟩
    replace hF := (hF.rely r).alloc (.chan 0 #[] false 0 0 false)
    clear r
    walk_nrm
    refine Gets.non (sz + 5) rfl rfl (by k_ne) fun w₁ r => ?_
    have hc := (hF.rely r).cell (k := 1) rfl 0
    have hz := (hF.rely r).thaw (k := 1) rfl 0
    rw [hsz] at hc hz
    refine ⟨w₁.setCell ⟨sz + 1, 0, Option.none⟩ (.chan (some (sz + 4))), by simp [go_sem, execOp, hc, hz], ?_, ?_⟩
    · intro e he; simp [go_sem, execOp, storedEv, hc, hz] at he; subst he; exact evL_plain _ _ (fun hb => by have := hS _ hb; simp only at this; omega) (by simp only; omega)
    replace hF := (hF.rely r).set (k := 1) rfl 0 (.chan (some (sz + 4)))
    rw [hsz] at hF; clear r hc hz
    walk_nrm
    exact h _ _ 2 4 3 1 ⟨hF, rfl, rfl, rfl, by rw [hsz]; rfl, by rw [hsz]; rfl, by decide, by decide⟩ rfl
  · -- [3, 1, 0, 2, 4, 5]
    refine Gets.val 0 rfl rfl (by k_ne) fun w₁ r => ⟨.pointer (some ⟨sz + 1, 0, Option.none⟩), w₁.alloc (.cells #[.chan Option.none] 57), by simp [go_sem, execOp, (hF.rely r).size, hsz], by simp [go_sem, execOp], ?_⟩
    replace hF := (hF.rely r).alloc (.cells #[.chan Option.none] 57)
    clear r
    walk_nrm
    refine Gets.val 0 rfl rfl (by k_ne) fun w₁ r => ⟨.chan (some (sz + 2)), w₁.alloc (.chan 0 #[] false 0 0 false), by simp [go_sem, execOp, mk57, (hF.rely r).size, hsz], by simp [go_sem, execOp, mk57e], ?_⟩
    replace hF := (hF.rely r).alloc (.chan 0 #[] false 0 0 false)
    clear r
    walk_nrm
    refine Gets.val 0 rfl rfl (by k_ne) fun w₁ r => ⟨.chan (some (sz + 3)), w₁.alloc (.chan 0 #[] false 0 0 false), by simp [go_sem, execOp, mk56, (hF.rely r).size, hsz], by simp [go_sem, execOp, mk56e], ?_⟩
    replace hF := (hF.rely r).alloc (.chan 0 #[] false 0 0 false)
    clear r
    walk_nrm
    refine Gets.val 0 rfl rfl (by k_ne) fun w₁ r => ⟨.pointer (some ⟨sz + 4, 0, Option.none⟩), w₁.alloc (.cells #[.chan Option.none] 56), by simp [go_sem, execOp, (hF.rely r).size, hsz], by simp [go_sem, execOp], ?_⟩
    replace hF := (hF.rely r).alloc (.cells #[.chan Option.none] 56)
    clear r
    walk_nrm
    refine Gets.non (sz + 5) rfl rfl (by k_ne) fun w₁ r => ?_
    have hc := (hF.rely r).cell (k := 4) rfl 0
    have hz := (hF.rely r).thaw (k := 4) rfl 0
    rw [hsz] at hc hz
    refine ⟨w₁.setCell ⟨sz + 4, 0, Option.none⟩ (.chan (some (sz + 3))), by simp [go_sem, execOp, hc, hz], ?_, ?_⟩
    · intro e he; simp [go_sem, execOp, storedEv, hc, hz] at he; subst he; exact evL_plain _ _ (fun hb => by have := hS _ hb; simp only at this; omega) (by simp only; omega)
    replace hF := (hF.rely r).set (k := 4) rfl 0 (.chan (some (sz + 3)))
    rw [hsz] at hF; clear r hc hz
    walk_nrm
    refine Gets.non (sz + 5) rfl rfl (by k_ne) fun w₁ r => ?_
    have hc := (hF.rely r).cell (k := 1) rfl 0
    have hz := (hF.rely r).thaw (k := 1) rfl 0
    rw [hsz] at hc hz
    refine ⟨w₁.setCell ⟨sz + 1, 0, Option.none⟩ (.chan (some (sz + 2))), by simp [go_sem, execOp, hc, hz], ?_, ?_⟩
    · intro e he; simp [go_sem, execOp, storedEv, hc, hz] at he; subst he; exact evL_plain _ _ (fun hb => by have := hS _ hb; simp only at this; omega) (by simp only; omega)
    replace hF := (hF.rely r).set (k := 1) rfl 0 (.chan (some (sz + 2)))
    rw [hsz] at hF; clear r hc hz
    walk_nrm
    exact h _ _ 3 2 4 1 ⟨hF, rfl, rfl, rfl, by rw [hsz]; rfl, by rw [hsz]; rfl, by decide, by decide⟩ rfl
  · -- [3, 1, 2, 0, 4, 5]
    refine Gets.val 0 rfl rfl (by k_ne) fun w₁ r => ⟨.pointer (some ⟨sz + 1, 0, Option.none⟩), w₁.alloc (.cells #[.chan Option.none] 57), by simp [go_sem, execOp, (hF.rely r).size, hsz], by simp [go_sem, execOp], ?_⟩
    replace hF := (hF.rely r).alloc (.cells #[.chan Option.none] 57)
    clear r
    walk_nrm
    refine Gets.val 0 rfl rfl (by k_ne) fun w₁ r => ⟨.chan (some (sz + 2)), w₁.alloc (.chan 0 #[] false 0 0 false), by simp [go_sem, execOp, mk57, (hF.rely r).size, hsz], by simp [go_sem, execOp, mk57e], ?_⟩
    replace hF := (hF.rely r).alloc (.chan 0 #[] false 0 0 false)
    clear r
    walk_nrm
    refine Gets.val 0 rfl rfl (by k_ne) fun w₁ r => ⟨.pointer (some ⟨sz + 3, 0, Option.none⟩), w₁.alloc (.cells #[.chan Option.none] 56), by simp [go_sem, execOp, (hF.rely r).size, hsz], by simp [go_sem, execOp], ?_⟩
    replace hF := (hF.rely r).alloc (.cells #[.chan Option.none] 56)
    clear r
    walk_nrm
    refine Gets.val 0 rfl rfl (by k_ne) fun w₁ r => ⟨.chan (some (sz + 4)), w₁.alloc (.chan 0 #[] false 0 0 false), by simp [go_sem, execOp, mk56, (hF.rely r).size, hsz], by simp [go_sem, execOp, mk56e], ?_⟩
    replace hF := (hF.rely r).alloc (.chan 0 #[] false 0 0 false)
    clear r
    walk_nrm
    refine Gets.non (sz + 5) rfl rfl (by k_ne) fun w₁ r => ?_
    have hc := (hF.rely r).cell (k := 3) rfl 0
    have hz := (hF.rely r).thaw (k := 3) rfl 0
    rw [hsz] at hc hz
    refine ⟨w₁.setCell ⟨sz + 3, 0, Option.none⟩ (.chan (some (sz + 4))), by simp [go_sem, execOp, hc, hz], ?_, ?_⟩
    · intro e he; simp [go_sem, execOp, storedEv, hc, hz] at he; subst he; exact evL_plain _ _ (fun hb => by have := hS _ hb; simp only at this; omega) (by simp only; omega)
    replace hF := (hF.rely r).set (k := 3) rfl 0 (.chan (some (sz + 4)))
    rw [hsz] at hF; clear r hc hz
    walk_nrm
    refine Gets.non (sz + 5) rfl rfl (by k_ne) fun w₁ r => ?_
    have hc := (hF.rely r).cell (k := 1) rfl 0
    have hz := (hF.rely r).thaw (k := 1) rfl 0
    rw [hsz] at hc hz
    refine ⟨w₁.setCell ⟨sz + 1, 0, Option.none⟩ (.chan (some (sz + 2))), by simp [go_sem, execOp, hc, hz], ?_, ?_⟩
    · intro e he; simp [go_sem, execOp, storedEv, hc, hz] at he; subst he; exact evL_plain _ _ (fun hb => by have := hS _ hb; simp only at this; omega) (by simp only; omega)
    replace hF := (hF.rely r).set (k := 1) rfl 0 (.chan (some (sz + 2)))
    rw [hsz] at hF; clear r hc hz
    walk_nrm
    exact h _ _ 4 2 3 1 ⟨hF, rfl, rfl, rfl, by rw [hsz]; rfl, by rw [hsz]; rfl, by decide, by decide⟩ rfl
  · -- [3, 2, 0, 1, 4, 5]
    refine Gets.val 0 rfl rfl (by k_ne) fun w₁ r => ⟨.pointer (some ⟨sz + 1, 0, Option.none⟩), w₁.alloc (.cells #[.chan Option.none] 57), by simp [go_sem, execOp, (hF.rely r).size, hsz], by simp [go_sem, execOp], ?_⟩
    replace hF := (hF.rely r).alloc (.cells #[.chan Option.none] 57)
    clear r
    walk_nrm
    refine Gets.val 0 rfl rfl (by k_ne) fun w₁ r => ⟨.pointer (some ⟨sz + 2, 0, Option.none⟩), w₁.alloc (.cells #[.chan Option.none] 56), by simp [go_sem, execOp, (hF.rely r).size, hsz], by simp [go_sem, execOp], ?_⟩
    replace hF := (hF.rely r).alloc (.cells #[.chan Option.none] 56)
    clear r
    walk_nrm
    refine Gets.val 0 rfl rfl (by k_ne) fun w₁ r => ⟨.chan (some (sz + 3)), w₁.alloc (.chan 0 #[] false 0 0 false), by simp [go_sem, execOp, mk56, (hF.rely r).size, hsz], by simp [go_sem, execOp, mk56e], ?_⟩
    replace hF := (hF.rely r).alloc (.chan 0 #[] false 0 0 false)
    clear r
    walk_nrm
    refine Gets.val 0 rfl rfl (by k_ne) fun w₁ r => ⟨.chan (some (sz + 4)), w₁.alloc (.chan 0 #[] false 0 0 false), by simp [go_sem, execOp, mk57, (hF.rely r).size, hsz], by simp [go_sem, execOp, mk57e], ?_⟩
    replace hF := (hF.rely r).alloc (.chan 0 #[] false 0 0 false)
    clear r
    walk_nrm
    refine Gets.non (sz + 5) rfl rfl (by k_ne) fun w₁ r => ?_
    have hc := (hF.rely r).cell (k := 2) rfl 0
    have hz := (hF.rely r).thaw (k := 2) rfl 0
    rw [hsz] at hc hz
    refine ⟨w₁.setCell ⟨sz + 2, 0, Option.none⟩ (.chan (some (sz + 3))), by simp [go_sem, execOp, hc, hz], ?_, ?_⟩
    · intro e he; simp [go_sem, execOp, storedEv, hc, hz] at he; subst he; exact evL_plain _ _ (fun hb => by have := hS _ hb; simp only at this; omega) (by simp only; omega)
    replace hF := (hF.rely r).set (k := 2) rfl 0 (.chan (some (sz + 3)))
    rw [hsz] at hF; clear r hc hz
    walk_nrm
    refine Gets.non (sz + 5) rfl rfl (by k_ne) fun w₁ r => ?_
    have hc := (hF.rely r).cell (k := 1) rfl 0
    have hz := (hF.rely r).thaw (k := 1) rfl 0
    rw [hsz] at hc hz
    refine ⟨w₁.setCell ⟨sz + 1, 0, Option.none⟩ (.chan (some (sz + 4))), by simp [go_sem, execOp, hc, hz], ?_, ?_⟩
    · intro e he; simp [go_sem, execOp, storedEv, hc, hz] at he; subst he; exact evL_plain _ _ (fun hb => by have := hS _ hb; simp only at this; omega) (by simp only; omega)
    replace hF := (hF.rely r).set (k := 1) rfl 0 (.chan (some (sz + 4)))
    rw [hsz] at hF; clear r hc hz
    walk_nrm
    exact h _ _ 3 4 2 1 ⟨hF, rfl, rfl, rfl, by rw [hsz]; rfl, by rw [hsz]; rfl, by decide, by decide⟩ rfl
  · -- [3, 2, 0, 4, 1, 5]
    refine Gets.val 0 rfl rfl (by k_ne) fun w₁ r => ⟨.pointer (some ⟨sz + 1, 0, Option.none⟩), w₁.alloc (.cells #[.chan Option.none] 57), by simp [go_sem, execOp, (hF.rely r).size, hsz], by simp [go_sem, execOp], ?_⟩
    replace hF := (hF.rely r).alloc (.cells #[.chan Option.none] 57)
    clear r
    walk_nrm
    refine Gets.val 0 rfl rfl (by k_ne) fun w₁ r => ⟨.pointer (some ⟨sz + 2, 0, Option.none⟩), w₁.alloc (.cells #[.chan Option.none] 56), by simp [go_sem, execOp, (hF.rely r).size, hsz], by simp [go_sem, execOp], ?_⟩
    replace hF := (hF.rely r).alloc (.cells #[.chan Option.none] 56)
    clear r
    walk_nrm
    refine Gets.val 0 rfl rfl (by k_ne) fun w₁ r => ⟨.chan (some (sz + 3)), w₁.alloc (.chan 0 #[] false 0 0 false), by simp [go_sem, execOp, mk56, (hF.rely r).size, hsz], by simp [go_sem, execOp, mk56e], ?_⟩
    replace hF := (hF.rely r).alloc (.chan 0 #[] false 0 0 false)
    clear r
    walk_nrm
    refine Gets.non (sz + 5) rfl rfl (by k_ne) fun w₁ r => ?_
    have hc := (hF.rely r).cell (k := 2) rfl 0
    have hz := (hF.rely r).thaw (k := 2) rfl 0
    rw [hsz] at hc hz
    refine ⟨w₁.setCell ⟨sz + 2, 0, Option.none⟩ (.chan (some (sz + 3))), by simp [go_sem, execOp, hc, hz], ?_, ?_⟩
    · intro e he; simp [go_sem, execOp, storedEv, hc, hz] at he; subst he; exact evL_plain _ _ (fun hb => by have := hS _ hb; simp only at this; omega) (by simp only; omega)
    replace hF := (hF.rely r).set (k := 2) rfl 0 (.chan (some (sz + 3)))
    rw [hsz] at hF; clear r hc hz
    walk_nrm
    refine Gets.val 0 rfl rfl (by k_ne) fun w₁ r => ⟨.chan (some (sz + 4)), w₁.alloc (.chan 0 #[] false 0 0 false), by simp [go_sem, execOp, mk57, (hF.rely r).size, hsz], by simp [go_sem, execOp, mk57e], ?_⟩
    replace hF := (hF.rely r).alloc (.chan 0 #[] false 0 0 false)
    clear r
    walk_nrm
    refine Gets.non (sz + 5) rfl rfl (by k_ne) fun w₁ r => ?_
    have hc := (hF.rely r).cell (k := 1) rfl 0
    have hz := (hF.rely r).thaw (k := 1) rfl 0
    rw [hsz] at hc hz
    refine ⟨w₁.setCell ⟨sz + 1, 0, Option.none⟩ (.chan (some (sz + 4))), by simp [go_sem, execOp, hc, hz], ?_, ?_⟩
    · intro e he; simp [go_sem, execOp, storedEv, hc, hz] at he; subst he; exact evL_plain _ _ (fun hb => by have := hS _ hb; simp only at this; omega) (by simp only; omega)
    replace hF := (hF.rely r).set (k := 1) rfl 0 (.chan (some (sz + 4)))
    rw [hsz] at hF; clear r hc hz
    walk_nrm
    exact h _ _ 3 4 2 1 ⟨hF, rfl, rfl, rfl, by rw [hsz]; rfl, by rw [hsz]; rfl, by decide, by decide⟩ rfl
  · -- [3, 2, 1, 0, 4, 5]
    refine Gets.val 0 rfl rfl (by k_ne) fun w₁ r => ⟨.pointer (some ⟨sz + 1, 0, Option.none⟩), w₁.alloc (.cells #[.chan Option.none] 57), by simp [go_sem, execOp, (hF.rely r).size, hsz], by simp [go_sem, execOp], ?_⟩
    replace hF := (hF.rely r).alloc (.cells #[.chan Option.none] 57)
    clear r
    walk_nrm
    refine Gets.val 0 rfl rfl (by k_ne) fun w₁ r => ⟨.pointer (some ⟨sz + 2, 0, Option.none⟩), w₁.alloc (.cells #[.chan Option.none] 56), by simp [go_sem, execOp, (hF.rely r).size, hsz], by simp [go_sem, execOp], ?_⟩
    replace hF := (hF.rely r).alloc (.cells #[.chan Option.none] 56)
    clear r
    walk_nrm
    refine Gets.val 0 rfl rfl (by k_ne) fun w₁ r => ⟨.chan (some (sz + 3)), w₁.alloc (.chan 0 #[] false 0 0 false), by simp [go_sem, execOp, mk57, (hF.rely r).size, hsz], by simp [go_sem, execOp, mk57e], ?_⟩
    replace hF := (hF.rely r).alloc (.chan 0 #[] false 0 0 false)
    clear r
    walk_nrm
    refine Gets.val 0 rfl rfl (by k_ne) fun w₁ r => ⟨.chan (some (sz + 4)), w₁.alloc (.chan 0 #[] false 0 0 false), by simp [go_sem, execOp, mk56, (hF.rely r).size, hsz], by simp [go_sem, execOp, mk56e], ?_⟩
    replace hF := (hF.rely r).alloc (.chan 0 #[] false 0 0 false)
    clear r
    walk_nrm
    refine Gets.non (sz + 5) rfl rfl (by k_ne) fun w₁ r => ?_
    have hc := (hF.rely r).cell (k := 2) rfl 0
    have hz := (hF.rely r).thaw (k := 2) rfl 0
    rw [hsz] at hc hz
    refine ⟨w₁.setCell ⟨sz + 2, 0, Option.none⟩ (.chan (some (sz + 4))), by simp [go_sem, execOp, hc, hz], ?_, ?_⟩
    · intro e he; simp [go_sem, execOp, storedEv, hc, hz] at he; subst he; exact evL_plain _ _ (fun hb => by have := hS _ hb; simp only at this; omega) (by simp only; omega)
    replace hF := (hF.rely r).set (k := 2) rfl 0 (.chan (some (sz + 4)))
    rw [hsz] at hF; clear r hc hz
    walk_nrm
    refine Gets.non (sz + 5) rfl rfl (by k_ne) fun w₁ r => ?_
    have hc := (hF.rely r).cell (k := 1) rfl 0
    have hz := (hF.rely r).thaw (k := 1) rfl 0
    rw [hsz] at hc hz
    refine ⟨w₁.setCell ⟨sz + 1, 0, Option.none⟩ (.chan (some (sz + 3))), by simp [go_sem, execOp, hc, hz], ?_, ?_⟩
    · intro e he; simp [go_sem, execOp, storedEv, hc, hz] at he; subst he; exact evL_plain _ _ (fun hb => by have := hS _ hb; simp only at this; omega) (by simp only; omega)
    replace hF := (hF.rely r).set (k := 1) rfl 0 (.chan (some (sz + 3)))
    rw [hsz] at hF; clear r hc hz
    walk_nrm
    exact h _ _ 4 3 2 1 ⟨hF, rfl, rfl, rfl, by rw [hsz]; rfl, by rw [hsz]; rfl, by decide, by decide⟩ rfl
set_option maxRecDepth 100000 in
set_option maxHeartbeats 16000000 in
theorem handsEnter {w : World} {wk : Int} {fd : FuncId} {cap : Array Value} {b₀ : Frame} {a₀ : Act} {ops₀ : Array Oper} {i₀ : Nat} {rest₀ : List Nat} {k₀ : List Item} (hS : ∀ b, S b → b < w.heap.size)
    (h : ∀ (w' : World) (l : List Obj) (N p s pv sv : Nat) (g : Goroutine), 0 < N → N ≤ 16 → Made w w' (.func (.func fd) #[] cap) l p s pv sv → l.length = 7 → l[5]? = some (onBlock 69 {}) → l[6]? = some (wgBlk 75 {}) →
      (∀ C : Cf, C.n = n → C.tp.On = w.heap.size + 5 → C.tp.Wg = w.heap.size + 6 → IsHands C w.heap.size (w.heap.size + pv) (w.heap.size + sv) b₀ a₀ ops₀ i₀ rest₀ k₀ cs (N : Int) 0 g) → Gets g w' S Q) :
    Gets (G ((base 28).at ⟨#[.int .i64 (n : Int), .int .i64 wk, .func (.func fd) #[] cap, undef, undef, undef, undef, undef, undef, undef, undef, undef, undef, undef, undef, undef, undef, undef, undef, undef, undef, undef, undef, undef, undef, undef, undef, undef], []⟩ [.code body28]) (b₀.at a₀ (.inRegion ops₀ (i₀ :: rest₀) :: k₀) :: cs)) w S Q := by
  have e : body28 = .seq (s0' body28) (.seq (s0' (s1' body28)) (.seq (.region 2 ops28 true) (s1' (s1' (s1' body28))))) := by kernel_rfl
  have hF : Grew w w [] := .refl w
  generalize hw : w = w₀ at hF h ⊢
  subst hw
  rw [e]
  refine Gets.silent 9 ?_
  simp only [s0', s1', body28, Try.f28, Option.getD_some]
  repeat w_go Grew.rely
  refine Goes.stop (fun w₁ r₁ => ?_)
  replace hF := hF.rely r₁
  clear r₁
  refine Gets.val 0 rfl rfl (by k_ne) fun w₁ r => ⟨.pointer (some ⟨w.heap.size, 0, Option.none⟩), w₁.alloc (.cells #[.func (.func fd) #[] cap] 49), by simp [go_sem, execOp, (hF.rely r).size, Act.eval], by simp [go_sem, execOp], ?_⟩
  replace hF := (hF.rely r).alloc (.cells #[.func (.func fd) #[] cap] 49)
  clear r
  have em1 := @ev_min3 Try.prog
  have em2 := @ev_max2 Try.prog
  refine Gets.silent 30 ?_
  walk_nrm
  repeat w_go Grew.rely
  refine Goes.stop (fun w₁ r₁ => ?_)
  replace hF := hF.rely r₁
  clear r₁
  obtain ⟨N, hN, hN0, hN16⟩ := workN n wk
  rw [hN]
  refine made28 hF hS fun w' l p s pv sv hM hl => ?_
  clear hF em1 em2 e
  replace hF := hM
  refine Gets.silent 9 ?_
  repeat w_go Made.rely
  refine Goes.stop (fun w₁ r₁ => ?_)
  replace hF := hF.rely r₁
  clear r₁
  refine Gets.val 0 rfl rfl (by k_ne) fun w₁ r => ⟨.pointer (some ⟨w.heap.size + 5, 0, Option.none⟩), w₁.alloc (onBlock 69 {}), by simp [go_sem, execOp, (hF.rely r).gr.size, hl]; rfl, by simp [go_sem, execOp], ?_⟩
  replace hF := (hF.rely r).alloc (onBlock 69 {})
  clear r
  refine Gets.silent 9 ?_
  walk_nrm
  repeat w_go Made.rely
  refine Goes.stop (fun w₁ r₁ => ?_)
  replace hF := hF.rely r₁
  clear r₁
  refine Gets.val 0 rfl rfl (by k_ne) fun w₁ r => ⟨.pointer (some ⟨w.heap.size + 6, 0, Option.none⟩), w₁.alloc (wgBlk 75 {}), by simp [go_sem, execOp, (hF.rely r).gr.size, hl]; rfl, by simp [go_sem, execOp], ?_⟩
  replace hF := (hF.rely r).alloc (wgBlk 75 {})
  clear r
  refine Gets.silent 30 ?_
  walk_nrm
  repeat w_bar Made.rely
  u_c stepG_loop Made.rely hF
  refine Goes.stop (fun w₁ r₁ => ?_)
  replace hF := hF.rely r₁
  refine h _ _ N p s pv sv _ hN0 hN16 hF (by simp [hl]) (by simp [hl]) (by simp [hl]) fun C hC1 hC2 hC3 => ?_
  rw [← hC1] 
  exact ⟨_, _, _, _, _, _, _, _, _, _, _, _, _, _, _, _, _, _, _, by rw [hC2, hC3]; rfl⟩
end
end Go.Proofs.Ytpkiojchlficcaa.Crew

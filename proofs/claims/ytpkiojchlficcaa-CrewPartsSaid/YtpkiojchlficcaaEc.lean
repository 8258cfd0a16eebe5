/- The walks: Each, First: their entry, the call of hands. -/
import Derived.Test.YtpkiojchlficcaaHx
import Derived.Laws.MakeOwn
import Derived.Conc.AppendWalk
set_option linter.unusedSimpArgs false
namespace Go.Proofs.Ytpkiojchlficcaa.Crew
open Go Go.Conc Go.ConcN Go.RowKit Go.Conc.Lib Go.ConcR.Gen
open Go.ConcM (OsLater goes_pad goes_le)
open Go.ConcR (KK wgBlock WgAt stA smA rd wr mk DC0)
/-- A function value of one number, for whatever phase to come: it may read what is old and not shunned. -/
def Fun (S : Nat → Prop) (w : World) (fv : Value) (φ : Int → Value) : Prop := ∀ (C : Cf) (W : World), (∀ ad v, w.cell? ad = some v → ad.block < w.heap.size → ¬ S ad.block → VarA C W ad v) → ∀ h, Maps C W h fv φ
theorem Fun.kept {S S' : Nat → Prop} {w w' : World} {fv : Value} {φ : Int → Value} (h : Fun S w fv φ) (k : Kept w S w' S') : Fun S' w' fv φ := fun C W hv => h C W fun ad v hc hlt hnS =>
  hv ad v ((k.cell hlt).trans hc) (Nat.lt_of_lt_of_le hlt k.size) fun hs => by
    rcases k.new _ hs with hs | ⟨hs, _⟩
    · exact hnS hs
    · omega
theorem addB (a : Addr) (n : Nat) : (a.add n).block = a.block := by unfold Addr.add; split <;> rfl
theorem made_get {z : Value} {n i : Nat} (h : i < n) : (madeCells #[z] n)[i]? = some z := by
  simp [madeCells, h, Nat.mod_one]
theorem at_rl {W w w₁ : World} (h : AtRel W w) (r : AtRel w w₁) : AtRel W w₁ := atRel_trans _ _ _ h r
/-- The first of which it is so, from i on, among r; or -1. -/
def firstZ (y : Nat → Bool) : Nat → Nat → Int
  | _, 0 => -1
  | i, r + 1 => if y i then (i : Int) else firstZ y (i + 1) r
noncomputable def body14 : Code := Try.f14.body.getD .skip
noncomputable def LL14 : Code := (findLoop39 body14).getD .skip
noncomputable def REST14 : Code := (s1' (s1' (s1' (s1' body14))))
theorem firstZ_congr (y y' : Nat → Bool) : ∀ r i, (∀ j, i ≤ j → j < i + r → y j = y' j) → firstZ y i r = firstZ y' i r
  | 0, _, _ => rfl
  | r + 1, i, h => by
    simp only [firstZ]
    rw [h i (Nat.le_refl _) (by omega), firstZ_congr y y' r (i + 1) fun j h1 h2 => h j (by omega) (by omega)]
theorem firstZ_cut (y : Nat → Bool) (i0 gv : Nat) (h0 : i0 < gv) (h1 : y i0 = true) : ∀ r i, i ≤ i0 → i0 < i + r ∨ gv ≤ i + r → firstZ (fun j => if j < gv then y j else false) i r = firstZ y i r
  | 0, _, _, _ => rfl
  | r + 1, i, hi, hr => by
    have hyy : (if i < gv then y i else false) = y i := if_pos (by omega)
    simp only [firstZ, hyy]
    by_cases hy : y i = true
    · rw [if_pos hy, if_pos hy]
    · rw [if_neg hy, if_neg hy]
      have hne : i ≠ i0 := fun e => hy (by rw [e]; exact h1)
      exact firstZ_cut y i0 gv h0 h1 r (i + 1) (by omega) (by omega)
/-- AT First's LOOP HEAD. -/
def IsFirst (Out n : Nat) (zi : Int) (b₀ : Frame) (a₀ : Act) (ops₀ : Array Oper) (i₀ : Nat) (rest₀ : List Nat) (k₀ : List Item) (cs : List Frame) (g : Goroutine) : Prop :=
  ∃ j0 j1 j2 j3 j4 j5 j6 j7 j8 j9 j10 j11 j12 j13 j14 j15 j16 j17 j21 j22 j23 j24 j25 j26 j27 : Value, g = G ((base 14).at ⟨#[j0, j1, j2, j3, j4, j5, j6, j7, j8, j9, j10, j11, j12, j13, j14, j15, j16, j17, .slice (some ⟨Out, 0, Option.none⟩) n n, .int .i64 (n : Int), .int .i64 zi, j21, j22, j23, j24, j25, j26, j27], []⟩ [.code LL14, .inLoop LL14, .inBlock 0, .code REST14]) (b₀.at a₀ (.inRegion ops₀ (i₀ :: rest₀) :: k₀) :: cs)
section
variable {S : Nat → Prop} {Q : Goroutine → World → (Nat → Prop) → Prop} {b₀ : Frame} {a₀ : Act} {ops₀ : Array Oper} {i₀ : Nat} {rest₀ : List Nat} {k₀ : List Item} {cs : List Frame}
set_option maxRecDepth 100000 in
set_option maxHeartbeats 16000000 in
theorem firstLoop {w' : World} {Out n : Nat} {y : Nat → Bool} (hn : n < 17592186044416) (hO : Out < w'.heap.size) (hnS : ¬ S Out) (hy : ∀ i, i < n → w'.cell? ⟨Out, i, Option.none⟩ = some (.bool (y i)))
    (hQ : ∀ w₁, AtRel w' w₁ → Gets (G (b₀.at (a₀.put ((ops₀[i₀]?).bind (·.dst)) (.int .i64 (firstZ y 0 n))) (.inRegion ops₀ rest₀ :: k₀)) cs) w₁ S Q) : ∀ r i, i + r = n → firstZ y i r = firstZ y 0 n → ∀ g, IsFirst Out n (i : Int) b₀ a₀ ops₀ i₀ rest₀ k₀ cs g → ∀ w₁, AtRel w' w₁ → Gets g w₁ S Q := by
  intro r
  induction r with
  | zero =>
    rintro i hi hz g ⟨j0, j1, j2, j3, j4, j5, j6, j7, j8, j9, j10, j11, j12, j13, j14, j15, j16, j17, j21, j22, j23, j24, j25, j26, j27, rfl⟩ w₁ hF
    have hi' : ¬ i < n := by omega
    rw [← hz] at hQ
    clear hz
    refine Gets.silent 40 ?_
    simp only [LL14, REST14, body14, findLoop39, s0', s1', Try.f14, Option.getD_some]
    repeat w_go at_rl
    u_leave1 Try.func14 at_rl hF
    exact Goes.stop (fun w₁ r₁ => hQ _ (at_rl hF r₁))
  | succ r ih =>
    rintro i hi hz g ⟨j0, j1, j2, j3, j4, j5, j6, j7, j8, j9, j10, j11, j12, j13, j14, j15, j16, j17, j21, j22, j23, j24, j25, j26, j27, rfl⟩ w₁ hF
    have hi' : i < n := by omega
    refine Gets.silent 40 ?_
    simp only [LL14, REST14, body14, findLoop39, s0', s1', Try.f14, Option.getD_some]
    repeat w_go at_rl
    refine Goes.stop (fun w₁ r₁ => ?_)
    replace hF := at_rl hF r₁
    clear r₁
    refine Gets.val w'.heap.size rfl rfl (by k_ne) fun w₂ r₂ => ?_
    replace hF := at_rl hF r₂
    have hc : w₂.cell? ⟨Out, i, Option.none⟩ = some (.bool (y i)) := by obtain ⟨dd, rfl⟩ := hF; exact hy i hi'
    refine ⟨.bool (y i), w₂, by simp [go_sem, execOp, hc], ?_, ?_⟩
    · intro e he; simp [go_sem, execOp, hc] at he; subst he; exact evL_plain _ _ hnS hO
    clear hc r₂
    cases hyi : y i with
    | true =>
      rw [show firstZ y i (r + 1) = (i : Int) from by simp [firstZ, hyi]] at hz
      rw [← hz] at hQ
      clear hz
      refine Gets.silent 40 ?_
      walk_nrm
      repeat w_go at_rl
      u_leave1 Try.func14 at_rl hF
      exact Goes.stop (fun w₁ r₁ => hQ _ (at_rl hF r₁))
    | false =>
      rw [show firstZ y i (r + 1) = firstZ y (i + 1) r from by simp [firstZ, hyi]] at hz
      have hI := ih (i + 1) (by omega) hz
      obtain ⟨zi', hz'⟩ : ∃ z : Int, Hide (((i + 1 : Nat) : Int) = z) := ⟨_, hide rfl⟩
      rw [show ((i + 1 : Nat) : Int) = zi' from hz'] at hI
      have e2 : IntKind.i64.wrap ((i : Int) + 1) = zi' := by
        have h1 : ((i + 1 : Nat) : Int) = zi' := hz'
        rw [IntKind.wrap_i64]; omega
      clear ih hy hQ hz hz'
      generalize (i : Int) = zi at e2
      refine Gets.silent 40 ?_
      walk_nrm
      repeat w_nl at_rl
      u_c stepG_inLoop at_rl hF
      exact Goes.stop (fun w₁ r₁ => hI _ ⟨_, _, _, _, _, _, _, _, _, _, _, _, _, _, _, _, _, _, _, _, _, _, _, _, _, rfl⟩ _ (at_rl hF r₁))
end
section
variable {S : Nat → Prop} {Q : Goroutine → World → (Nat → Prop) → Prop} {b₀ : Frame} {a₀ : Act} {ops₀ : Array Oper} {i₀ : Nat} {rest₀ : List Nat} {k₀ : List Item} {cs : List Frame}
noncomputable def body11 : Code := Try.f11.body.getD .skip
theorem info2f11 : (Try.prog.info? 2).map (fun i => (i.zero, i.size, i.bytes)) = some (some (.int .i64 0), 1, 8) := by kernel_rfl
set_option maxRecDepth 100000 in
set_option maxHeartbeats 16000000 in
/-- ████ Each: its entry, to hands' caller. ████ -/
theorem enter11 {w : World} {n ci : Nat} {a0 : Option Addr} {wk : Int} {fd : FuncId} {cap : Array Value} {φ : Int → Int} {l : Nat → Int} (hn : n < 17592186044416) (hS : ∀ b, S b → b < w.heap.size)
    (hit : ∀ i, i < n → ∃ ad, a0 = some ad ∧ w.cell? (ad.add i) = some (.int .i64 (l i)) ∧ ad.block < w.heap.size ∧ ¬ S ad.block) (hM : Fun S w (.func (.func fd) #[] cap) (fun z => .int .i64 (φ z)))
    (h : ∀ (w' : World) (S' : Nat → Prop), Kept w S w' S' → w.heap.size + 2 < w'.heap.size → ¬ S' (w.heap.size + 2) → (∀ i, i < n → w'.cell? ⟨w.heap.size + 2, i, Option.none⟩ = some (.int .i64 (φ (l i)))) → Gets (G (b₀.at (a₀.put ((ops₀[i₀]?).bind (·.dst)) (.slice (some ⟨w.heap.size + 2, 0, Option.none⟩) n n)) (.inRegion ops₀ rest₀ :: k₀)) cs) w' S' Q) :
    Gets (G ((base 11).at ⟨#[.slice a0 n ci, .int .i64 wk, .func (.func fd) #[] cap, undef, undef, undef, undef, undef, undef, undef, undef, undef, undef, undef, undef, undef, undef], []⟩ [.code body11]) (b₀.at a₀ (.inRegion ops₀ (i₀ :: rest₀) :: k₀) :: cs)) w S Q := by
  obtain ⟨i0, hi0, hz0, hz1, hz2⟩ := info_parts info2f11
  have hmk := fun w => run_make (P := Try.prog) w 22 2 i0 (.int .i64 0) Try.underlying22 hi0 hz0 .i64 .i64 (n : Int) (n : Int) (by omega) (by omega) (by rw [hz2]; omega) (by omega)
  have hme := fun w es => events_make (P := Try.prog) w 22 2 i0 (.int .i64 0) Try.underlying22 hi0 hz0 .i64 .i64 (n : Int) (n : Int) (by omega) (by omega) (by rw [hz2]; omega) (by omega) (by rw [hz2]; omega) es
  rw [hz1] at hmk
  simp only [Int.toNat_natCast, Nat.mul_one, show (.int .i64 0 : Value).cells = #[.int .i64 0] from rfl] at hmk
  have hF : Grew w w [] := .refl w
  generalize hw : w = wx at hF h hM hit hS ⊢
  subst hw
  refine Gets.silent 9 ?_
  simp only [body11, Try.f11, Option.getD_some]
  repeat w_go Grew.rely
  refine Goes.stop (fun w₁ r₁ => ?_)
  replace hF := hF.rely r₁
  clear r₁
  refine Gets.val 0 rfl rfl (by k_ne) fun w₁ r => ⟨.pointer (some ⟨w.heap.size, 0, Option.none⟩), w₁.alloc (.cells #[.slice a0 n ci] 22), by simp [go_sem, execOp, Act.eval, (hF.rely r).size], by simp [go_sem, execOp], ?_⟩
  replace hF := (hF.rely r).alloc (.cells #[.slice a0 n ci] 22)
  clear r
  refine Gets.silent 9 ?_
  walk_nrm
  repeat w_go Grew.rely
  refine Goes.stop (fun w₁ r₁ => ?_)
  replace hF := hF.rely r₁
  clear r₁
  refine Gets.val 0 rfl rfl (by k_ne) fun w₁ r => ⟨.pointer (some ⟨w.heap.size + 1, 0, Option.none⟩), w₁.alloc (.cells #[.func (.func fd) #[] cap] 26), by simp [go_sem, execOp, Act.eval, (hF.rely r).size], by simp [go_sem, execOp], ?_⟩
  replace hF := (hF.rely r).alloc (.cells #[.func (.func fd) #[] cap] 26)
  clear r
  refine Gets.silent 9 ?_
  walk_nrm
  repeat w_go Grew.rely
  refine Goes.stop (fun w₁ r₁ => ?_)
  replace hF := hF.rely r₁
  clear r₁
  refine Gets.val (w.heap.size + 4) rfl rfl (by k_ne) fun w₁ r => ?_
  replace hF := hF.rely r
  have hc : w₁.cell? ⟨w.heap.size, 0, Option.none⟩ = some (.slice a0 n ci) := hF.cell (k := 0) rfl 0
  refine ⟨.slice a0 n ci, w₁, by simp [go_sem, execOp, hc], ?_, ?_⟩
  · intro e he; simp [go_sem, execOp, hc] at he; subst he; exact evL_plain _ _ (fun hb => by have := hS _ hb; simp only at this; omega) (by simp only; omega)
  clear r hc
  refine Gets.silent 9 ?_
  walk_nrm
  repeat w_go Grew.rely
  refine Goes.stop (fun w₁ r₁ => ?_)
  replace hF := hF.rely r₁
  clear r₁
  refine Gets.val 0 rfl rfl (by k_ne) fun w₁ r => ⟨.slice (some ⟨w.heap.size + 2, 0, Option.none⟩) n n, w₁.alloc (.cells (madeCells #[.int .i64 0] n) 2), by simp [go_sem, execOp, Act.eval, hmk, (hF.rely r).size], by simp [go_sem, execOp, hme], ?_⟩
  replace hF := (hF.rely r).alloc (.cells (madeCells #[.int .i64 0] n) 2)
  clear r
  refine Gets.silent 9 ?_
  walk_nrm
  repeat w_go Grew.rely
  refine Goes.stop (fun w₁ r₁ => ?_)
  replace hF := hF.rely r₁
  clear r₁
  refine Gets.val 0 rfl rfl (by k_ne) fun w₁ r => ⟨.pointer (some ⟨w.heap.size + 3, 0, Option.none⟩), w₁.alloc (.cells #[.slice Option.none 0 0] 22), by simp [go_sem, execOp, Act.eval, (hF.rely r).size], by simp [go_sem, execOp], ?_⟩
  replace hF := (hF.rely r).alloc (.cells #[.slice Option.none 0 0] 22)
  clear r
  refine Gets.silent 9 ?_
  walk_nrm
  repeat w_go Grew.rely
  refine Goes.stop (fun w₁ r₁ => ?_)
  replace hF := hF.rely r₁
  clear r₁
  refine Gets.non (w.heap.size + 4) rfl rfl (by k_ne) fun w₁ r => ?_
  replace hF := hF.rely r
  have hc : w₁.cell? ⟨w.heap.size + 3, 0, Option.none⟩ = some (.slice Option.none 0 0) := hF.cell (k := 3) rfl 0
  have hz := hF.thaw (k := 3) rfl 0
  refine ⟨w₁.setCell ⟨w.heap.size + 3, 0, Option.none⟩ (.slice (some ⟨w.heap.size + 2, 0, Option.none⟩) n n), by simp [go_sem, execOp, hc, hz], ?_, ?_⟩
  · intro e he; simp [go_sem, execOp, ev_store_slice, storedEv, hc, hz] at he; subst he; exact evL_plain _ _ (fun hb => by have := hS _ hb; simp only at this; omega) (by simp only; omega)
  replace hF := hF.set (k := 3) rfl 0 (.slice (some ⟨w.heap.size + 2, 0, Option.none⟩) n n)
  clear r hc hz
  refine Gets.silent 9 ?_
  walk_nrm
  repeat w_go Grew.rely
  refine Goes.stop (fun w₁ r₁ => ?_)
  replace hF := hF.rely r₁
  clear r₁
  refine Gets.val (w.heap.size + 4) rfl rfl (by k_ne) fun w₁ r => ?_
  replace hF := hF.rely r
  have hc : w₁.cell? ⟨w.heap.size, 0, Option.none⟩ = some (.slice a0 n ci) := hF.cell (k := 0) rfl 0
  refine ⟨.slice a0 n ci, w₁, by simp [go_sem, execOp, hc], ?_, ?_⟩
  · intro e he; simp [go_sem, execOp, hc] at he; subst he; exact evL_plain _ _ (fun hb => by have := hS _ hb; simp only at this; omega) (by simp only; omega)
  clear r hc
  refine Gets.silent 20 ?_
  walk_nrm
  repeat w_go Grew.rely
  u_call Try.func28 nm28 Try.f28 Grew.rely hF
  refine Goes.stop (fun w₁ r₁ => ?_)
  replace hF := hF.rely r₁
  clear r₁
  have hk := hF.kept S
  have hsz := hF.size
  simp only [List.length_append, List.length_cons, List.length_nil, List.length_set, Nat.reduceAdd, Nat.zero_add] at hsz
  clear hmk hme hi0 hz0 hz1 hz2
  refine handsAll (w := w₁) (n := n) (wk := wk) (fd := 29) (cap := #[.pointer (some ⟨w.heap.size + 1, 0, Option.none⟩), .pointer (some ⟨w.heap.size, 0, Option.none⟩), .pointer (some ⟨w.heap.size + 3, 0, Option.none⟩)]) (Out := w.heap.size + 2) (ok := fun i => true) (val := fun i => .int .i64 (φ (l i))) (by omega) (fun b hb => by have := hS b hb; omega) (by omega) (fun hb => by have := hS _ hb; omega) ⟨_, _, _, (hF.get 2).trans rfl⟩ ?_ ?_
  · intro C W hCn hCok hCval hCout Ge hv hrow
    refine does29 Ge (a0 := a0) (ci := ci) (fd := fd) (cap := cap) (φ := φ) (l := l) ?_ ?_ ?_ (fun i hi => ?_) (fun i => ?_) (fun i _ => by rw [hCval]) (fun i _ => by rw [hCok]) ⟨madeCells #[.int .i64 0] n, 2, by rw [hCout, hrow]; exact (hF.get 2).trans rfl, by rw [size_madeCells, hCn]⟩
    · rw [hCout, hCn]; exact hv _ _ (hF.cell (k := 3) rfl 0) (by simp only; omega) (by simp only; omega) (fun hb => by have := hS _ hb; simp only at this; omega)
    · exact hv _ _ (hF.cell (k := 1) rfl 0) (by simp only; omega) (by simp only; omega) (fun hb => by have := hS _ hb; simp only at this; omega)
    · rw [hCn]; exact hv _ _ (hF.cell (k := 0) rfl 0) (by simp only; omega) (by simp only; omega) (fun hb => by have := hS _ hb; simp only at this; omega)
    · obtain ⟨ad, e, hc, hb, hs⟩ := hit i (by omega)
      exact ⟨ad, e, hv _ _ ((hF.lowCell (by rw [addB]; exact hb)).trans hc) (by rw [addB]; omega) (by rw [addB]; omega) (by rw [addB]; exact hs)⟩
    · exact hM C W (fun ad v hc hlt hnS => hv ad v ((hF.lowCell hlt).trans hc) (by omega) (by omega) hnS) (some i)
  intro w' S' low size tape out os sub new row gvx
  have hK : Kept w S w' S' := ⟨fun b hb => (low b (by omega) (by omega)).trans (hk.low b hb), by omega, tape.trans hk.tape, out.trans hk.output, by rw [← hF.os]; exact os, sub, fun b hb => (new b hb).imp id fun hh => ⟨by omega, hh.2⟩⟩
  have hbox : w'.cell? ⟨w.heap.size + 3, 0, Option.none⟩ = some (.slice (some ⟨w.heap.size + 2, 0, Option.none⟩) n n) := by
    have : w₁.cell? ⟨w.heap.size + 3, 0, Option.none⟩ = some (.slice (some ⟨w.heap.size + 2, 0, Option.none⟩) n n) := hF.cell (k := 3) rfl 0
    rw [← this]; simp only [World.cell?, low (w.heap.size + 3) (by omega) (by omega)]
  have hz : ∀ i, i < n → w₁.cell? ⟨w.heap.size + 2, i, Option.none⟩ = some (.int .i64 0) := fun i hi => by
    rw [hF.cell (k := 2) rfl i]; exact made_get hi
  have hn2 : ∀ b, w.heap.size ≤ b → b < w.heap.size + 4 → ¬ S' b := fun b h1 h2 hb => by
    rcases new b hb with hb | ⟨hb, _⟩
    · have := hS b hb; omega
    · omega
  clear hF hk low tape out os sub new row hM hit
  have hF : AtRel w' w' := atRel_refl _
  refine Gets.silent 20 ?_
  walk_nrm
  repeat w_go at_rl
  refine Goes.stop (fun w₁ r₁ => ?_)
  replace hF := at_rl hF r₁
  clear r₁
  refine Gets.val (w.heap.size + 4) rfl rfl (by k_ne) fun w₂ r => ?_
  replace hF := at_rl hF r
  obtain ⟨dd, rfl⟩ := hF
  have hc : (w'.at dd).cell? ⟨w.heap.size + 3, 0, Option.none⟩ = some (.slice (some ⟨w.heap.size + 2, 0, Option.none⟩) n n) := hbox
  refine ⟨.slice (some ⟨w.heap.size + 2, 0, Option.none⟩) n n, w'.at dd, by simp [go_sem, execOp, hc], ?_, ?_⟩
  · intro e he; simp [go_sem, execOp, hc] at he; subst he; exact evL_plain _ _ (hn2 _ (by simp only; omega) (by simp only; omega)) (by simp only; omega)
  clear r hc
  have hF : AtRel w' (w'.at dd) := ⟨dd, rfl⟩
  refine Gets.silent 20 ?_
  walk_nrm
  repeat w_go at_rl
  u_leave1 Try.func11 at_rl hF
  refine Goes.stop (fun w₁ r₁ => ?_)
  replace hF := at_rl hF r₁
  clear r₁
  obtain ⟨gv, g1, g2, g3, g4⟩ := gvx
  obtain ⟨dd', rfl⟩ := hF
  have g4 : gv = n := by
    rcases g4 with g4 | ⟨_, _, g4⟩
    · exact g4
    · cases g4
  subst g4
  exact h _ _ (hK.rely ⟨dd', rfl⟩) (by show _ < w'.heap.size; omega) (hn2 _ (by omega) (by omega)) g2
noncomputable def body36 : Code := Try.f36.body.getD .skip
theorem info3f36 : (Try.prog.info? 3).map (fun i => (i.zero, i.size, i.bytes)) = some (some (.int .i64 0), 1, 8) := by kernel_rfl
set_option maxRecDepth 100000 in
set_option maxHeartbeats 16000000 in
/-- ████ Each: its entry, to hands' caller. ████ -/
theorem enter36 {w : World} {n ci : Nat} {a0 : Option Addr} {wk : Int} {fd : FuncId} {cap : Array Value} {φ : Int → Int} {l : Nat → Int} (hn : n < 17592186044416) (hS : ∀ b, S b → b < w.heap.size)
    (hit : ∀ i, i < n → ∃ ad, a0 = some ad ∧ w.cell? (ad.add i) = some (.int .i64 (l i)) ∧ ad.block < w.heap.size ∧ ¬ S ad.block) (hM : Fun S w (.func (.func fd) #[] cap) (fun z => .int .i64 (φ z)))
    (h : ∀ (w' : World) (S' : Nat → Prop), Kept w S w' S' → w.heap.size + 2 < w'.heap.size → ¬ S' (w.heap.size + 2) → (∀ i, i < n → w'.cell? ⟨w.heap.size + 2, i, Option.none⟩ = some (.int .i64 (φ (l i)))) → Gets (G (b₀.at (a₀.put ((ops₀[i₀]?).bind (·.dst)) (.slice (some ⟨w.heap.size + 2, 0, Option.none⟩) n n)) (.inRegion ops₀ rest₀ :: k₀)) cs) w' S' Q) :
    Gets (G ((base 36).at ⟨#[.slice a0 n ci, .int .i64 wk, .func (.func fd) #[] cap, undef, undef, undef, undef, undef, undef, undef, undef, undef, undef, undef, undef, undef, undef], []⟩ [.code body36]) (b₀.at a₀ (.inRegion ops₀ (i₀ :: rest₀) :: k₀) :: cs)) w S Q := by
  obtain ⟨i0, hi0, hz0, hz1, hz2⟩ := info_parts info3f36
  have hmk := fun w => run_make (P := Try.prog) w 42 3 i0 (.int .i64 0) Try.underlying42 hi0 hz0 .i64 .i64 (n : Int) (n : Int) (by omega) (by omega) (by rw [hz2]; omega) (by omega)
  have hme := fun w es => events_make (P := Try.prog) w 42 3 i0 (.int .i64 0) Try.underlying42 hi0 hz0 .i64 .i64 (n : Int) (n : Int) (by omega) (by omega) (by rw [hz2]; omega) (by omega) (by rw [hz2]; omega) es
  rw [hz1] at hmk
  simp only [Int.toNat_natCast, Nat.mul_one, show (.int .i64 0 : Value).cells = #[.int .i64 0] from rfl] at hmk
  have hF : Grew w w [] := .refl w
  generalize hw : w = wx at hF h hM hit hS ⊢
  subst hw
  refine Gets.silent 9 ?_
  simp only [body36, Try.f36, Option.getD_some]
  repeat w_go Grew.rely
  refine Goes.stop (fun w₁ r₁ => ?_)
  replace hF := hF.rely r₁
  clear r₁
  refine Gets.val 0 rfl rfl (by k_ne) fun w₁ r => ⟨.pointer (some ⟨w.heap.size, 0, Option.none⟩), w₁.alloc (.cells #[.slice a0 n ci] 42), by simp [go_sem, execOp, Act.eval, (hF.rely r).size], by simp [go_sem, execOp], ?_⟩
  replace hF := (hF.rely r).alloc (.cells #[.slice a0 n ci] 42)
  clear r
  refine Gets.silent 9 ?_
  walk_nrm
  repeat w_go Grew.rely
  refine Goes.stop (fun w₁ r₁ => ?_)
  replace hF := hF.rely r₁
  clear r₁
  refine Gets.val 0 rfl rfl (by k_ne) fun w₁ r => ⟨.pointer (some ⟨w.heap.size + 1, 0, Option.none⟩), w₁.alloc (.cells #[.func (.func fd) #[] cap] 43), by simp [go_sem, execOp, Act.eval, (hF.rely r).size], by simp [go_sem, execOp], ?_⟩
  replace hF := (hF.rely r).alloc (.cells #[.func (.func fd) #[] cap] 43)
  clear r
  refine Gets.silent 9 ?_
  walk_nrm
  repeat w_go Grew.rely
  refine Goes.stop (fun w₁ r₁ => ?_)
  replace hF := hF.rely r₁
  clear r₁
  refine Gets.val (w.heap.size + 4) rfl rfl (by k_ne) fun w₁ r => ?_
  replace hF := hF.rely r
  have hc : w₁.cell? ⟨w.heap.size, 0, Option.none⟩ = some (.slice a0 n ci) := hF.cell (k := 0) rfl 0
  refine ⟨.slice a0 n ci, w₁, by simp [go_sem, execOp, hc], ?_, ?_⟩
  · intro e he; simp [go_sem, execOp, hc] at he; subst he; exact evL_plain _ _ (fun hb => by have := hS _ hb; simp only at this; omega) (by simp only; omega)
  clear r hc
  refine Gets.silent 9 ?_
  walk_nrm
  repeat w_go Grew.rely
  refine Goes.stop (fun w₁ r₁ => ?_)
  replace hF := hF.rely r₁
  clear r₁
  refine Gets.val 0 rfl rfl (by k_ne) fun w₁ r => ⟨.slice (some ⟨w.heap.size + 2, 0, Option.none⟩) n n, w₁.alloc (.cells (madeCells #[.int .i64 0] n) 3), by simp [go_sem, execOp, Act.eval, hmk, (hF.rely r).size], by simp [go_sem, execOp, hme], ?_⟩
  replace hF := (hF.rely r).alloc (.cells (madeCells #[.int .i64 0] n) 3)
  clear r
  refine Gets.silent 9 ?_
  walk_nrm
  repeat w_go Grew.rely
  refine Goes.stop (fun w₁ r₁ => ?_)
  replace hF := hF.rely r₁
  clear r₁
  refine Gets.val 0 rfl rfl (by k_ne) fun w₁ r => ⟨.pointer (some ⟨w.heap.size + 3, 0, Option.none⟩), w₁.alloc (.cells #[.slice Option.none 0 0] 42), by simp [go_sem, execOp, Act.eval, (hF.rely r).size], by simp [go_sem, execOp], ?_⟩
  replace hF := (hF.rely r).alloc (.cells #[.slice Option.none 0 0] 42)
  clear r
  refine Gets.silent 9 ?_
  walk_nrm
  repeat w_go Grew.rely
  refine Goes.stop (fun w₁ r₁ => ?_)
  replace hF := hF.rely r₁
  clear r₁
  refine Gets.non (w.heap.size + 4) rfl rfl (by k_ne) fun w₁ r => ?_
  replace hF := hF.rely r
  have hc : w₁.cell? ⟨w.heap.size + 3, 0, Option.none⟩ = some (.slice Option.none 0 0) := hF.cell (k := 3) rfl 0
  have hz := hF.thaw (k := 3) rfl 0
  refine ⟨w₁.setCell ⟨w.heap.size + 3, 0, Option.none⟩ (.slice (some ⟨w.heap.size + 2, 0, Option.none⟩) n n), by simp [go_sem, execOp, hc, hz], ?_, ?_⟩
  · intro e he; simp [go_sem, execOp, ev_store_slice, storedEv, hc, hz] at he; subst he; exact evL_plain _ _ (fun hb => by have := hS _ hb; simp only at this; omega) (by simp only; omega)
  replace hF := hF.set (k := 3) rfl 0 (.slice (some ⟨w.heap.size + 2, 0, Option.none⟩) n n)
  clear r hc hz
  refine Gets.silent 9 ?_
  walk_nrm
  repeat w_go Grew.rely
  refine Goes.stop (fun w₁ r₁ => ?_)
  replace hF := hF.rely r₁
  clear r₁
  refine Gets.val (w.heap.size + 4) rfl rfl (by k_ne) fun w₁ r => ?_
  replace hF := hF.rely r
  have hc : w₁.cell? ⟨w.heap.size, 0, Option.none⟩ = some (.slice a0 n ci) := hF.cell (k := 0) rfl 0
  refine ⟨.slice a0 n ci, w₁, by simp [go_sem, execOp, hc], ?_, ?_⟩
  · intro e he; simp [go_sem, execOp, hc] at he; subst he; exact evL_plain _ _ (fun hb => by have := hS _ hb; simp only at this; omega) (by simp only; omega)
  clear r hc
  refine Gets.silent 20 ?_
  walk_nrm
  repeat w_go Grew.rely
  u_call Try.func28 nm28 Try.f28 Grew.rely hF
  refine Goes.stop (fun w₁ r₁ => ?_)
  replace hF := hF.rely r₁
  clear r₁
  have hk := hF.kept S
  have hsz := hF.size
  simp only [List.length_append, List.length_cons, List.length_nil, List.length_set, Nat.reduceAdd, Nat.zero_add] at hsz
  clear hmk hme hi0 hz0 hz1 hz2
  refine handsAll (w := w₁) (n := n) (wk := wk) (fd := 45) (cap := #[.pointer (some ⟨w.heap.size + 1, 0, Option.none⟩), .pointer (some ⟨w.heap.size, 0, Option.none⟩), .pointer (some ⟨w.heap.size + 3, 0, Option.none⟩)]) (Out := w.heap.size + 2) (ok := fun i => true) (val := fun i => .int .i64 (φ (l i))) (by omega) (fun b hb => by have := hS b hb; omega) (by omega) (fun hb => by have := hS _ hb; omega) ⟨_, _, _, (hF.get 2).trans rfl⟩ ?_ ?_
  · intro C W hCn hCok hCval hCout Ge hv hrow
    refine does45 Ge (a0 := a0) (ci := ci) (fd := fd) (cap := cap) (φ := φ) (l := l) ?_ ?_ ?_ (fun i hi => ?_) (fun i => ?_) (fun i _ => by rw [hCval]) (fun i _ => by rw [hCok]) ⟨madeCells #[.int .i64 0] n, 3, by rw [hCout, hrow]; exact (hF.get 2).trans rfl, by rw [size_madeCells, hCn]⟩
    · rw [hCout, hCn]; exact hv _ _ (hF.cell (k := 3) rfl 0) (by simp only; omega) (by simp only; omega) (fun hb => by have := hS _ hb; simp only at this; omega)
    · exact hv _ _ (hF.cell (k := 1) rfl 0) (by simp only; omega) (by simp only; omega) (fun hb => by have := hS _ hb; simp only at this; omega)
    · rw [hCn]; exact hv _ _ (hF.cell (k := 0) rfl 0) (by simp only; omega) (by simp only; omega) (fun hb => by have := hS _ hb; simp only at this; omega)
    · obtain ⟨ad, e, hc, hb, hs⟩ := hit i (by omega)
      exact ⟨ad, e, hv _ _ ((hF.lowCell (by rw [addB]; exact hb)).trans hc) (by rw [addB]; omega) (by rw [addB]; omega) (by rw [addB]; exact hs)⟩
    · exact hM C W (fun ad v hc hlt hnS => hv ad v ((hF.lowCell hlt).trans hc) (by omega) (by omega) hnS) (some i)
  intro w' S' low size tape out os sub new row gvx
  have hK : Kept w S w' S' := ⟨fun b hb => (low b (by omega) (by omega)).trans (hk.low b hb), by omega, tape.trans hk.tape, out.trans hk.output, by rw [← hF.os]; exact os, sub, fun b hb => (new b hb).imp id fun hh => ⟨by omega, hh.2⟩⟩
  have hbox : w'.cell? ⟨w.heap.size + 3, 0, Option.none⟩ = some (.slice (some ⟨w.heap.size + 2, 0, Option.none⟩) n n) := by
    have : w₁.cell? ⟨w.heap.size + 3, 0, Option.none⟩ = some (.slice (some ⟨w.heap.size + 2, 0, Option.none⟩) n n) := hF.cell (k := 3) rfl 0
    rw [← this]; simp only [World.cell?, low (w.heap.size + 3) (by omega) (by omega)]
  have hz : ∀ i, i < n → w₁.cell? ⟨w.heap.size + 2, i, Option.none⟩ = some (.int .i64 0) := fun i hi => by
    rw [hF.cell (k := 2) rfl i]; exact made_get hi
  have hn2 : ∀ b, w.heap.size ≤ b → b < w.heap.size + 4 → ¬ S' b := fun b h1 h2 hb => by
    rcases new b hb with hb | ⟨hb, _⟩
    · have := hS b hb; omega
    · omega
  clear hF hk low tape out os sub new row hM hit
  have hF : AtRel w' w' := atRel_refl _
  refine Gets.silent 20 ?_
  walk_nrm
  repeat w_go at_rl
  refine Goes.stop (fun w₁ r₁ => ?_)
  replace hF := at_rl hF r₁
  clear r₁
  refine Gets.val (w.heap.size + 4) rfl rfl (by k_ne) fun w₂ r => ?_
  replace hF := at_rl hF r
  obtain ⟨dd, rfl⟩ := hF
  have hc : (w'.at dd).cell? ⟨w.heap.size + 3, 0, Option.none⟩ = some (.slice (some ⟨w.heap.size + 2, 0, Option.none⟩) n n) := hbox
  refine ⟨.slice (some ⟨w.heap.size + 2, 0, Option.none⟩) n n, w'.at dd, by simp [go_sem, execOp, hc], ?_, ?_⟩
  · intro e he; simp [go_sem, execOp, hc] at he; subst he; exact evL_plain _ _ (hn2 _ (by simp only; omega) (by simp only; omega)) (by simp only; omega)
  clear r hc
  have hF : AtRel w' (w'.at dd) := ⟨dd, rfl⟩
  refine Gets.silent 20 ?_
  walk_nrm
  repeat w_go at_rl
  u_leave1 Try.func36 at_rl hF
  refine Goes.stop (fun w₁ r₁ => ?_)
  replace hF := at_rl hF r₁
  clear r₁
  obtain ⟨gv, g1, g2, g3, g4⟩ := gvx
  obtain ⟨dd', rfl⟩ := hF
  have g4 : gv = n := by
    rcases g4 with g4 | ⟨_, _, g4⟩
    · exact g4
    · cases g4
  subst g4
  exact h _ _ (hK.rely ⟨dd', rfl⟩) (by show _ < w'.heap.size; omega) (hn2 _ (by omega) (by omega)) g2
theorem info4f14 : (Try.prog.info? 4).map (fun i => (i.zero, i.size, i.bytes)) = some (some (.bool false), 1, 1) := by kernel_rfl
set_option maxRecDepth 100000 in
set_option maxHeartbeats 16000000 in
/-- ████ First: its entry, to hands' caller. ████ -/
theorem enter14 {w : World} {n ci : Nat} {a0 : Option Addr} {wk : Int} {fd : FuncId} {cap : Array Value} {φ : Int → Bool} {l : Nat → Int} (hn : n < 17592186044416) (hS : ∀ b, S b → b < w.heap.size)
    (hit : ∀ i, i < n → ∃ ad, a0 = some ad ∧ w.cell? (ad.add i) = some (.int .i64 (l i)) ∧ ad.block < w.heap.size ∧ ¬ S ad.block) (hM : Fun S w (.func (.func fd) #[] cap) (fun z => .bool (φ z)))
    (h : ∀ (w' : World) (S' : Nat → Prop), Kept w S w' S' → Gets (G (b₀.at (a₀.put ((ops₀[i₀]?).bind (·.dst)) (.int .i64 (firstZ (fun i => φ (l i)) 0 n))) (.inRegion ops₀ rest₀ :: k₀)) cs) w' S' Q) :
    Gets (G ((base 14).at ⟨#[.slice a0 n ci, .int .i64 wk, .func (.func fd) #[] cap, undef, undef, undef, undef, undef, undef, undef, undef, undef, undef, undef, undef, undef, undef, undef, undef, undef, undef, undef, undef, undef, undef, undef, undef, undef], []⟩ [.code body14]) (b₀.at a₀ (.inRegion ops₀ (i₀ :: rest₀) :: k₀) :: cs)) w S Q := by
  obtain ⟨i0, hi0, hz0, hz1, hz2⟩ := info_parts info4f14
  have hmk := fun w => run_make (P := Try.prog) w 51 4 i0 (.bool false) Try.underlying51 hi0 hz0 .i64 .i64 (n : Int) (n : Int) (by omega) (by omega) (by rw [hz2]; omega) (by omega)
  have hme := fun w es => events_make (P := Try.prog) w 51 4 i0 (.bool false) Try.underlying51 hi0 hz0 .i64 .i64 (n : Int) (n : Int) (by omega) (by omega) (by rw [hz2]; omega) (by omega) (by rw [hz2]; omega) es
  rw [hz1] at hmk
  simp only [Int.toNat_natCast, Nat.mul_one, show (.bool false : Value).cells = #[.bool false] from rfl] at hmk
  have hF : Grew w w [] := .refl w
  generalize hw : w = wx at hF h hM hit hS ⊢
  subst hw
  refine Gets.silent 9 ?_
  simp only [body14, Try.f14, Option.getD_some]
  repeat w_go Grew.rely
  refine Goes.stop (fun w₁ r₁ => ?_)
  replace hF := hF.rely r₁
  clear r₁
  refine Gets.val 0 rfl rfl (by k_ne) fun w₁ r => ⟨.pointer (some ⟨w.heap.size, 0, Option.none⟩), w₁.alloc (.cells #[.slice a0 n ci] 22), by simp [go_sem, execOp, Act.eval, (hF.rely r).size], by simp [go_sem, execOp], ?_⟩
  replace hF := (hF.rely r).alloc (.cells #[.slice a0 n ci] 22)
  clear r
  refine Gets.silent 9 ?_
  walk_nrm
  repeat w_go Grew.rely
  refine Goes.stop (fun w₁ r₁ => ?_)
  replace hF := hF.rely r₁
  clear r₁
  refine Gets.val 0 rfl rfl (by k_ne) fun w₁ r => ⟨.pointer (some ⟨w.heap.size + 1, 0, Option.none⟩), w₁.alloc (.cells #[.func (.func fd) #[] cap] 31), by simp [go_sem, execOp, Act.eval, (hF.rely r).size], by simp [go_sem, execOp], ?_⟩
  replace hF := (hF.rely r).alloc (.cells #[.func (.func fd) #[] cap] 31)
  clear r
  refine Gets.silent 9 ?_
  walk_nrm
  repeat w_go Grew.rely
  refine Goes.stop (fun w₁ r₁ => ?_)
  replace hF := hF.rely r₁
  clear r₁
  refine Gets.val (w.heap.size + 4) rfl rfl (by k_ne) fun w₁ r => ?_
  replace hF := hF.rely r
  have hc : w₁.cell? ⟨w.heap.size, 0, Option.none⟩ = some (.slice a0 n ci) := hF.cell (k := 0) rfl 0
  refine ⟨.slice a0 n ci, w₁, by simp [go_sem, execOp, hc], ?_, ?_⟩
  · intro e he; simp [go_sem, execOp, hc] at he; subst he; exact evL_plain _ _ (fun hb => by have := hS _ hb; simp only at this; omega) (by simp only; omega)
  clear r hc
  refine Gets.silent 9 ?_
  walk_nrm
  repeat w_go Grew.rely
  refine Goes.stop (fun w₁ r₁ => ?_)
  replace hF := hF.rely r₁
  clear r₁
  refine Gets.val 0 rfl rfl (by k_ne) fun w₁ r => ⟨.slice (some ⟨w.heap.size + 2, 0, Option.none⟩) n n, w₁.alloc (.cells (madeCells #[.bool false] n) 4), by simp [go_sem, execOp, Act.eval, hmk, (hF.rely r).size], by simp [go_sem, execOp, hme], ?_⟩
  replace hF := (hF.rely r).alloc (.cells (madeCells #[.bool false] n) 4)
  clear r
  refine Gets.silent 9 ?_
  walk_nrm
  repeat w_go Grew.rely
  refine Goes.stop (fun w₁ r₁ => ?_)
  replace hF := hF.rely r₁
  clear r₁
  refine Gets.val 0 rfl rfl (by k_ne) fun w₁ r => ⟨.pointer (some ⟨w.heap.size + 3, 0, Option.none⟩), w₁.alloc (.cells #[.slice Option.none 0 0] 51), by simp [go_sem, execOp, Act.eval, (hF.rely r).size], by simp [go_sem, execOp], ?_⟩
  replace hF := (hF.rely r).alloc (.cells #[.slice Option.none 0 0] 51)
  clear r
  refine Gets.silent 9 ?_
  walk_nrm
  repeat w_go Grew.rely
  refine Goes.stop (fun w₁ r₁ => ?_)
  replace hF := hF.rely r₁
  clear r₁
  refine Gets.non (w.heap.size + 4) rfl rfl (by k_ne) fun w₁ r => ?_
  replace hF := hF.rely r
  have hc : w₁.cell? ⟨w.heap.size + 3, 0, Option.none⟩ = some (.slice Option.none 0 0) := hF.cell (k := 3) rfl 0
  have hz := hF.thaw (k := 3) rfl 0
  refine ⟨w₁.setCell ⟨w.heap.size + 3, 0, Option.none⟩ (.slice (some ⟨w.heap.size + 2, 0, Option.none⟩) n n), by simp [go_sem, execOp, hc, hz], ?_, ?_⟩
  · intro e he; simp [go_sem, execOp, ev_store_slice, storedEv, hc, hz] at he; subst he; exact evL_plain _ _ (fun hb => by have := hS _ hb; simp only at this; omega) (by simp only; omega)
  replace hF := hF.set (k := 3) rfl 0 (.slice (some ⟨w.heap.size + 2, 0, Option.none⟩) n n)
  clear r hc hz
  refine Gets.silent 9 ?_
  walk_nrm
  repeat w_go Grew.rely
  refine Goes.stop (fun w₁ r₁ => ?_)
  replace hF := hF.rely r₁
  clear r₁
  refine Gets.val (w.heap.size + 4) rfl rfl (by k_ne) fun w₁ r => ?_
  replace hF := hF.rely r
  have hc : w₁.cell? ⟨w.heap.size, 0, Option.none⟩ = some (.slice a0 n ci) := hF.cell (k := 0) rfl 0
  refine ⟨.slice a0 n ci, w₁, by simp [go_sem, execOp, hc], ?_, ?_⟩
  · intro e he; simp [go_sem, execOp, hc] at he; subst he; exact evL_plain _ _ (fun hb => by have := hS _ hb; simp only at this; omega) (by simp only; omega)
  clear r hc
  refine Gets.silent 20 ?_
  walk_nrm
  repeat w_go Grew.rely
  u_call Try.func28 nm28 Try.f28 Grew.rely hF
  refine Goes.stop (fun w₁ r₁ => ?_)
  replace hF := hF.rely r₁
  clear r₁
  have hk := hF.kept S
  have hsz := hF.size
  simp only [List.length_append, List.length_cons, List.length_nil, List.length_set, Nat.reduceAdd, Nat.zero_add] at hsz
  clear hmk hme hi0 hz0 hz1 hz2
  refine handsAll (w := w₁) (n := n) (wk := wk) (fd := 32) (cap := #[.pointer (some ⟨w.heap.size + 1, 0, Option.none⟩), .pointer (some ⟨w.heap.size, 0, Option.none⟩), .pointer (some ⟨w.heap.size + 3, 0, Option.none⟩)]) (Out := w.heap.size + 2) (ok := fun i => !φ (l i)) (val := fun i => .bool (φ (l i))) (by omega) (fun b hb => by have := hS b hb; omega) (by omega) (fun hb => by have := hS _ hb; omega) ⟨_, _, _, (hF.get 2).trans rfl⟩ ?_ ?_
  · intro C W hCn hCok hCval hCout Ge hv hrow
    refine does32 Ge (a0 := a0) (ci := ci) (fd := fd) (cap := cap) (φ := φ) (l := l) ?_ ?_ ?_ (fun i hi => ?_) (fun i => ?_) (fun i _ => by rw [hCval]) (fun i _ => by rw [hCok]) ⟨madeCells #[.bool false] n, 4, by rw [hCout, hrow]; exact (hF.get 2).trans rfl, by rw [size_madeCells, hCn]⟩
    · rw [hCout, hCn]; exact hv _ _ (hF.cell (k := 3) rfl 0) (by simp only; omega) (by simp only; omega) (fun hb => by have := hS _ hb; simp only at this; omega)
    · exact hv _ _ (hF.cell (k := 1) rfl 0) (by simp only; omega) (by simp only; omega) (fun hb => by have := hS _ hb; simp only at this; omega)
    · rw [hCn]; exact hv _ _ (hF.cell (k := 0) rfl 0) (by simp only; omega) (by simp only; omega) (fun hb => by have := hS _ hb; simp only at this; omega)
    · obtain ⟨ad, e, hc, hb, hs⟩ := hit i (by omega)
      exact ⟨ad, e, hv _ _ ((hF.lowCell (by rw [addB]; exact hb)).trans hc) (by rw [addB]; omega) (by rw [addB]; omega) (by rw [addB]; exact hs)⟩
    · exact hM C W (fun ad v hc hlt hnS => hv ad v ((hF.lowCell hlt).trans hc) (by omega) (by omega) hnS) (some i)
  intro w' S' low size tape out os sub new row gvx
  have hK : Kept w S w' S' := ⟨fun b hb => (low b (by omega) (by omega)).trans (hk.low b hb), by omega, tape.trans hk.tape, out.trans hk.output, by rw [← hF.os]; exact os, sub, fun b hb => (new b hb).imp id fun hh => ⟨by omega, hh.2⟩⟩
  have hbox : w'.cell? ⟨w.heap.size + 3, 0, Option.none⟩ = some (.slice (some ⟨w.heap.size + 2, 0, Option.none⟩) n n) := by
    have : w₁.cell? ⟨w.heap.size + 3, 0, Option.none⟩ = some (.slice (some ⟨w.heap.size + 2, 0, Option.none⟩) n n) := hF.cell (k := 3) rfl 0
    rw [← this]; simp only [World.cell?, low (w.heap.size + 3) (by omega) (by omega)]
  have hz : ∀ i, i < n → w₁.cell? ⟨w.heap.size + 2, i, Option.none⟩ = some (.bool false) := fun i hi => by
    rw [hF.cell (k := 2) rfl i]; exact made_get hi
  have hn2 : ∀ b, w.heap.size ≤ b → b < w.heap.size + 4 → ¬ S' b := fun b h1 h2 hb => by
    rcases new b hb with hb | ⟨hb, _⟩
    · have := hS b hb; omega
    · omega
  clear hF hk low tape out os sub new row hM hit
  have hF : AtRel w' w' := atRel_refl _
  refine Gets.silent 20 ?_
  walk_nrm
  repeat w_go at_rl
  refine Goes.stop (fun w₁ r₁ => ?_)
  replace hF := at_rl hF r₁
  clear r₁
  refine Gets.val (w.heap.size + 4) rfl rfl (by k_ne) fun w₂ r => ?_
  replace hF := at_rl hF r
  obtain ⟨dd, rfl⟩ := hF
  have hc : (w'.at dd).cell? ⟨w.heap.size + 3, 0, Option.none⟩ = some (.slice (some ⟨w.heap.size + 2, 0, Option.none⟩) n n) := hbox
  refine ⟨.slice (some ⟨w.heap.size + 2, 0, Option.none⟩) n n, w'.at dd, by simp [go_sem, execOp, hc], ?_, ?_⟩
  · intro e he; simp [go_sem, execOp, hc] at he; subst he; exact evL_plain _ _ (hn2 _ (by simp only; omega) (by simp only; omega)) (by simp only; omega)
  clear r hc
  have hF : AtRel w' (w'.at dd) := ⟨dd, rfl⟩
  obtain ⟨gv, g1, g2, g3, g4⟩ := gvx
  have hy : ∀ i, i < n → w'.cell? ⟨w.heap.size + 2, i, Option.none⟩ = some (.bool (if i < gv then φ (l i) else false)) := fun i hi => by
    by_cases hg : i < gv
    · rw [if_pos hg]; exact g2 i hg
    · rw [if_neg hg, g3 i (by omega)]; exact hz i hi
  have hZ : firstZ (fun i => if i < gv then φ (l i) else false) 0 n = firstZ (fun i => φ (l i)) 0 n := by
    rcases g4 with g4 | ⟨i0, g5, g6⟩
    · exact firstZ_congr _ _ n 0 fun i hi1 hi2 => by rw [if_pos (by omega)]
    · exact firstZ_cut _ i0 gv g5 (by simpa using g6) n 0 (by omega) (by omega)
  refine Gets.silent 30 ?_
  walk_nrm
  repeat w_bar at_rl
  u_c stepG_loop at_rl hF
  refine Goes.stop (fun w₁ r₁ => ?_)
  replace hF := at_rl hF r₁
  clear r₁
  refine firstLoop (w' := w') (Out := w.heap.size + 2) (by omega) (by omega) (hn2 _ (by omega) (by omega)) hy (fun w₁ r => ?_) n 0 (by omega) rfl _ ⟨_, _, _, _, _, _, _, _, _, _, _, _, _, _, _, _, _, _, _, _, _, _, _, _, _, rfl⟩ _ hF
  obtain ⟨dd', rfl⟩ := r
  rw [hZ]
  exact h _ _ (hK.rely ⟨dd', rfl⟩)
end
end Go.Proofs.Ytpkiojchlficcaa.Crew

/- What is asked of each goroutine of the crew, stop by stop, by the automaton. -/
import Derived.Conc.MuStops
import Derived.Test.YtpkiojchlficcaaTrace
import Derived.Test.YtpkiojchlficcaaComm
namespace Go.Proofs.Ytpkiojchlficcaa.Crew
open Go Go.Conc
open Go.ConcM (OsLater)
open Go.ConcR (stA smA)

/-- The phase: the program, the places, the types of the Once and of the group, how many places are given, which of them let the workers go on, what each cell holds behind, below which block all lies. -/
structure Cf where
  P : Program
  tp : TP
  tO : TypeId
  tW : TypeId
  n : Nat
  ok : Nat → Bool
  val : Nat → Value
  B : Nat
def bz (b : Bool) : Int := if b then 1 else 0
def muZ (m : Wd) : Int := bz m.l + 2 * bz m.w + 4 * bz m.s + 8 * (m.n : Int)
def wgZ (c : Nat) (v : Bool) : Int := (c : Int) * 4294967296 + bz v
def onBlock (ty : TypeId) (s : Sh) : Obj := .cells #[.int .u32 (bz s.dn), .int .i32 (muZ s.mu), .int .u32 (s.ms : Int)] ty
def wgBlk (ty : TypeId) (s : Sh) : Obj := .cells #[.int .u64 (wgZ s.c s.wv), .int .u32 (s.ws : Int)] ty
def dnA (On : Nat) : Addr := ⟨On, 0, Option.none⟩
def muA (On : Nat) : Addr := ⟨On, 1, Option.none⟩
def msA (On : Nat) : Addr := ⟨On, 2, Option.none⟩
section
variable (C : Cf)
structure ShAt (w : World) (s : Sh) : Prop where
  on : w.heap[C.tp.On]? = some (onBlock C.tO s)
  wg : w.heap[C.tp.Wg]? = some (wgBlk C.tW s)
  pl : ∃ k, w.heap[C.tp.Pl]? = some (.chan 0 #[] s.pl k k false)
  st : w.heap[C.tp.St]? = some (.chan 0 #[] s.sc 0 0 false)
def Live (w : World) : Prop := ∃ s, ShAt C w s
def OutAt (w : World) (i : Nat) (v : Value) : Prop := w.cell? ⟨C.tp.Out, i, Option.none⟩ = some v
/-- One of the five blocks that turn in the phase. -/
def Five (b : Nat) : Prop := b = C.tp.On ∨ b = C.tp.Wg ∨ b = C.tp.Pl ∨ b = C.tp.St ∨ b = C.tp.Out
/-- The row that is written keeps its make, and the cell 'h'. -/
def RowKept (h : Nat → Prop) (w w₁ : World) : Prop :=
  ∀ cs t f, w.heap[C.tp.Out]? = some (.cells cs t f) → ∃ cs', w₁.heap[C.tp.Out]? = some (.cells cs' t f) ∧ cs'.size = cs.size ∧ ∀ k, h k → cs'[k]? = cs[k]?
/-- THE RELY of whoever holds 'h'. -/
structure RX (h : Option Nat) (w w₁ : World) : Prop where
  tape : w₁.tape = w.tape
  output : w₁.output = w.output
  size : w₁.heap.size = w.heap.size
  os : OsLater w.os w₁.os
  block : ∀ b, ¬ Five C b → w₁.heap[b]? = w.heap[b]?
  live : Live C w → Live C w₁
  row : RowKept C (fun k => h = some k) w w₁
/-- An entry of a step between stops. -/
def EvD (h : Option Nat) (e : Event) : Prop :=
  (∃ a, e = ⟨.cell a, false, false⟩ ∧ ¬ Five C a.block ∧ ¬ C.tp.Shun (.cell a) ∧ a.block < C.B) ∨ (∃ k wr, h = some k ∧ e = ⟨Cel C.tp k, wr, false⟩)
/-- THE GUARANTEE of a step between stops. -/
structure DX (h : Option Nat) (mt : Bool) (w w' : World) (es : Array Event) : Prop where
  tape : w'.tape = w.tape
  output : w'.output = w.output
  size : w'.heap.size = w.heap.size
  os : w'.os = w.os
  block : ∀ b, b ≠ C.tp.Out → w'.heap[b]? = w.heap[b]?
  row : RowKept C (fun k => h ≠ some k) w w'
  ev : ∀ e ∈ es, EvD C h e
  still : mt = true → es = #[]
/-- What a stop's step may do to the world. -/
structure Eff (w w' : World) : Prop where
  tape : w'.tape = w.tape
  output : w'.output = w.output
  size : w'.heap.size = w.heap.size
  os : OsLater w.os w'.os
  block : ∀ b, b ≠ C.tp.On → b ≠ C.tp.Wg → b ≠ C.tp.Pl → b ≠ C.tp.St → w'.heap[b]? = w.heap[b]?
/-- An entry of a stop's step. -/
def EvSy (e : Event) : Prop :=
  e.loc = .mark .disable ∨ e.loc = .mark .enable ∨ e = ⟨.mark (.acquire (muA C.tp.On)), false, true⟩ ∨ e = ⟨.mark (.releaseMerge (muA C.tp.On)), false, true⟩ ∨
    (∃ a wr, e = ⟨.cell a, wr, true⟩ ∧ (a.block = C.tp.On ∨ a.block = C.tp.Wg)) ∨ (∃ r wr, e = ⟨.obj r, wr, true⟩ ∧ (r = C.tp.Pl ∨ r = C.tp.St))
end
/-- How many of its 'disable's stand open. -/
def Th.deaf (T : Th) : Nat := match T.pc with
  | .l0 | .r0 | .sq | .c1 | .r1 | .c2 | .t1 | .s1 | .t2 | .r2 | .a1 | .r3 | .le | .u0 | .uc | .ux | .us | .ue | .d1 | .d2 | .d3 | .d4 | .quit => 1
  | _ => 0
/-- Behind its release-and-merge on the group. -/
def Th.mute (T : Th) : Bool := match T.pc with | .wk | .d1 | .d2 | .d3 | .d4 | .quit => true | _ => false
/-- Its step may let a waiting one go on. -/
def Th.wakes (T : Th) : Bool := match T.pc with | .us | .d4 | .cl => true | _ => false
def Mp.deaf : Mp → Nat
  | .k2 _ | .k3 _ | .k4 _ | .w1 | .w2 _ _ | .wm | .w3 | .w4 | .ke => 1
  | _ => 0
def Mp.wakes : Mp → Bool
  | .cp => true
  | _ => false
/-- No count is great. -/
structure Sh.Small (s : Sh) : Prop where
  n : s.mu.n ≤ 16
  ms : s.ms ≤ 16
  c : s.c ≤ 16
  ws : s.ws ≤ 16
section
variable (C : Cf)
/-- What a worker's stop lists. -/
def EvStopW (T T' : Th) (es : Array Event) : Prop :=
  if T.pc = .wr then es = #[⟨.mark (.releaseMerge (stA C.tp.Wg)), false, true⟩]
  else (∀ e ∈ es, EvSy C e) ∧ deafBehind T.deaf es = T'.deaf ∧ (T.mute = true → ∀ j e, es[j]? = some e → (MemAct.ofEvent e).touch? = Option.none ∨ ((∃ ad wr, e = ⟨.cell ad, wr, true⟩) ∧ 0 < deafBehind T.deaf (es.extract 0 j)))
/-- What the giver's stop lists. -/
def EvStopM (M M' : Mp) (es : Array Event) : Prop :=
  match M with
  | .k3 _ => es = #[⟨.mark (.read (smA C.tp.Wg)), false, true⟩]
  | .wm => es = #[⟨.mark (.write (smA C.tp.Wg)), false, true⟩]
  | .aq => es = #[⟨.mark (.acquire (stA C.tp.Wg)), false, true⟩]
  | _ => (∀ e ∈ es, EvSy C e) ∧ deafBehind M.deaf es = M'.deaf
abbrev GoesW (h : Option Nat) (mt : Bool) (Stop : Goroutine → World → Prop) (m : Nat) (g : Goroutine) (w : World) : Prop := Goes C.P false (RX C h) (DX C h mt) Stop m g w
abbrev GoesM (Stop : Goroutine → World → Prop) (m : Nat) (g : Goroutine) (w : World) : Prop := Goes C.P true (RX C Option.none) (DX C Option.none false) Stop m g w
/-- How a worker goes on behind a stop. -/
def AfterW (Nx : Th → Goroutine → World → Prop) (T' : Th) (g' : Goroutine) (w' : World) : Prop :=
  if T'.pc = .quit then ∃ q, QuitsD C.P q 1 g' else ∃ m, GoesW C Option.none T'.mute (Nx T') m g' w'
/-- The zero values of the two channels' elements. -/
def zI : Value := .int .i64 0
def zU : Value := .agg #[]
/-- A worker at its select. -/
def SelW (Nx : Th → Goroutine → World → Prop) (g : Goroutine) (w : World) : Prop :=
  ∃ g₂, stepG C.P false g w = .comm g₂ #[rcase C.tp.Pl zI, rcase C.tp.St zU] true .select w #[] ∧ g₂.frame = g.frame ∧ g₂.callers = g.callers ∧ g₂.dying = g.dying ∧
    (∀ i, i < C.n → ∀ w₁, RX C Option.none w w₁ → ∃ m, GoesW C (some i) false (fun g' w' => OutAt C w' i (C.val i) ∧ Nx (at_ (if C.ok i then .sel else .o1)) g' w') m (g₂.finishComm C.P #[rcase C.tp.Pl zI, rcase C.tp.St zU] .select 0 (.int .i64 (i : Int)) true) w₁) ∧
    (∀ w₁, RX C Option.none w w₁ → AfterW C Nx (at_ .wr) (g₂.finishComm C.P #[rcase C.tp.Pl zI, rcase C.tp.St zU] .select 0 zI false) w₁) ∧
    (∀ w₁, RX C Option.none w w₁ → AfterW C Nx (at_ .wr) (g₂.finishComm C.P #[rcase C.tp.Pl zI, rcase C.tp.St zU] .select 1 zU false) w₁)
/-- ████ THE LAW OF A WORKER's STOP. ████ -/
def StpW (Nx : Th → Goroutine → World → Prop) (T : Th) (g : Goroutine) (w : World) : Prop :=
  g.status = .running ∧ (T.pc = .sel → SelW C Nx g w) ∧
  (T.pc ≠ .sel → g.offers = Option.none ∧ (T.wakes = true → mayWake C.P g = true) ∧ ∀ s, ShAt C w s → s.Small →
    (wmv T s = [] → stepG C.P false g w = .go { g with status := .blocked } w #[]) ∧
    (wmv T s ≠ [] → ∃ r ∈ wmv T s, r.1.pc ≠ .bad → ∃ g' w' es, stepG C.P false g w = .go g' w' es ∧ ShAt C w' r.2 ∧ Eff C w w' ∧ EvStopW C T r.1 es ∧ AfterW C Nx r.1 g' w'))
def Wk : Nat → Th → Goroutine → World → Prop
  | 0, _, _, _ => True
  | k + 1, T, g, w => StpW C (Wk k) T g w
/-- How the giver goes on. -/
def AfterM (Nx : Mp → Goroutine → World → Prop) (M' : Mp) (g' : Goroutine) (w' : World) : Prop := ∃ m, GoesM C (Nx M') m g' w'
/-- The giver at its select. -/
def SelM (Nx : Mp → Goroutine → World → Prop) (i : Nat) (g : Goroutine) (w : World) : Prop :=
  ∃ g₂, stepG C.P true g w = .comm g₂ #[scase C.tp.Pl (.int .i64 (i : Int)) zI, rcase C.tp.St zU] true .select w #[] ∧ g₂.frame = g.frame ∧ g₂.callers = g.callers ∧ g₂.dying = g.dying ∧
    (∀ w₁, RX C Option.none w w₁ → AfterM C Nx (give C.n (i + 1)) (g₂.finishComm C.P #[scase C.tp.Pl (.int .i64 (i : Int)) zI, rcase C.tp.St zU] .select 0 undef false) w₁) ∧
    (∀ w₁, RX C Option.none w w₁ → AfterM C Nx .cp (g₂.finishComm C.P #[scase C.tp.Pl (.int .i64 (i : Int)) zI, rcase C.tp.St zU] .select 1 zU false) w₁)
/-- The giver at a go statement. -/
def GoM (N : Nat) (k : Nat) (Nx : Mp → Goroutine → World → Prop) (j : Nat) (g : Goroutine) (w : World) : Prop :=
  ∃ g' child, stepG C.P true g w = .spawn g' child w #[] ∧ child.status = .running ∧ AfterM C Nx (if j + 1 < N then .k1 (j + 1) else give C.n 0) g' w ∧ ∃ m, GoesW C Option.none false (Wk C k (at_ .sel)) m child w
/-- ████ THE LAW OF THE GIVER's STOP. ████ -/
def StpM (N : Nat) (k : Nat) (Anch : Goroutine → World → Prop) (Nx : Mp → Goroutine → World → Prop) (M : Mp) (g : Goroutine) (w : World) : Prop :=
  g.status = .running ∧
  match M with
  | .gs i => SelM C Nx i g w
  | .go j => GoM C N k Nx j g w
  | .ret => Anch g w
  | _ => g.offers = Option.none ∧ (M.wakes = true → mayWake C.P g = true) ∧ ∀ s, ShAt C w s → s.Small →
    (mmv M s = [] → stepG C.P true g w = .go { g with status := .blocked } w #[]) ∧
    (mmv M s ≠ [] → ∃ r ∈ mmv M s, r.1 ≠ .bad → ∃ g' w' es, stepG C.P true g w = .go g' w' es ∧ ShAt C w' r.2 ∧ Eff C w w' ∧ EvStopM C M r.1 es ∧ AfterM C Nx r.1 g' w')
def Mk (N : Nat) (Anch : Goroutine → World → Prop) : Nat → Mp → Goroutine → World → Prop
  | 0, _, _, _ => True
  | k + 1, M, g, w => StpM C N k Anch (Mk N Anch k) M g w
end
section
variable {C : Cf} {h : Option Nat} {w w₁ w₂ : World}
theorem RowKept.refl (h : Nat → Prop) (w : World) : RowKept C h w w := fun cs _ _ e => ⟨cs, e, rfl, fun _ _ => rfl⟩
theorem RowKept.trans {h : Nat → Prop} (a : RowKept C h w w₁) (b : RowKept C h w₁ w₂) : RowKept C h w w₂ := by
  intro cs t f e
  obtain ⟨cs', e', s', k'⟩ := a cs t f e
  obtain ⟨cs'', e'', s'', k''⟩ := b cs' t f e'
  exact ⟨cs'', e'', s''.trans s', fun k hk => (k'' k hk).trans (k' k hk)⟩
theorem RX.refl (h : Option Nat) (w : World) : RX C h w w := ⟨rfl, rfl, rfl, .refl _, fun _ _ => rfl, id, RowKept.refl _ w⟩
theorem RX.trans (a : RX C h w w₁) (b : RX C h w₁ w₂) : RX C h w w₂ :=
  ⟨b.tape.trans a.tape, b.output.trans a.output, b.size.trans a.size, a.os.trans b.os, fun k hk => (b.block k hk).trans (a.block k hk), fun l => b.live (a.live l), a.row.trans b.row⟩
theorem ShAt.at {s : Sh} (a : ShAt C w s) (d : Nat) : ShAt C (w.at d) s := ⟨a.1, a.2, a.3, a.4⟩
theorem RX.at (h : Option Nat) (w : World) (d : Nat) : RX C h w (w.at d) := ⟨rfl, rfl, rfl, .refl _, fun _ _ => rfl, fun ⟨s, hs⟩ => ⟨s, hs.at d⟩, RowKept.refl _ w⟩
theorem RX.weaken (a : RX C h w w₁) : RX C Option.none w w₁ := ⟨a.tape, a.output, a.size, a.os, a.block, a.live, fun cs t f e => by
  obtain ⟨cs', e', s', _⟩ := a.row cs t f e
  exact ⟨cs', e', s', fun k hk => by cases hk⟩⟩
theorem dx_of_dc0 {mt : Bool} {es : Array Event} (x : Go.ConcR.DC0 w w₁ es) : DX C h mt w w₁ es := by
  obtain ⟨rfl, rfl⟩ := x
  exact ⟨rfl, rfl, rfl, rfl, fun _ _ => rfl, RowKept.refl _ _, (fun e he => by simp at he), fun _ => rfl⟩
theorem ShAt.of_heap {s : Sh} (a : ShAt C w s) (e1 : w₁.heap[C.tp.On]? = w.heap[C.tp.On]?) (e2 : w₁.heap[C.tp.Wg]? = w.heap[C.tp.Wg]?) (e3 : w₁.heap[C.tp.Pl]? = w.heap[C.tp.Pl]?) (e4 : w₁.heap[C.tp.St]? = w.heap[C.tp.St]?) : ShAt C w₁ s :=
  ⟨e1.trans a.on, e2.trans a.wg, by rw [e3]; exact a.pl, e4.trans a.st⟩
/-- The row lies apart from the shared blocks. -/
structure Geo (C : Cf) : Prop where
  on : C.tp.Out ≠ C.tp.On
  wg : C.tp.Out ≠ C.tp.Wg
  pl : C.tp.Out ≠ C.tp.Pl
  st : C.tp.Out ≠ C.tp.St
  ow : C.tp.On ≠ C.tp.Wg
  op : C.tp.On ≠ C.tp.Pl
  os : C.tp.On ≠ C.tp.St
  wp : C.tp.Wg ≠ C.tp.Pl
  ws : C.tp.Wg ≠ C.tp.St
  ps : C.tp.Pl ≠ C.tp.St
theorem DX.shAt {mt : Bool} {es : Array Event} {s : Sh} (G : Geo C) (d : DX C h mt w w₁ es) (a : ShAt C w s) : ShAt C w₁ s :=
  a.of_heap (d.block _ G.on.symm) (d.block _ G.wg.symm) (d.block _ G.pl.symm) (d.block _ G.st.symm)
/-- What one's step between stops does, whoever holds another cell lets pass. -/
theorem DX.rx {mt : Bool} {es : Array Event} (G : Geo C) (d : DX C h mt w w₁ es) {h' : Option Nat} (hne : ∀ k, h' = some k → h ≠ some k) : RX C h' w w₁ :=
  ⟨d.tape, d.output, d.size, by rw [d.os]; exact .refl _, fun b hb => d.block b fun e => hb (.inr (.inr (.inr (.inr e)))), fun ⟨s, hs⟩ => ⟨s, d.shAt G hs⟩, fun cs t f e => by
    obtain ⟨cs', e', s', k'⟩ := d.row cs t f e
    exact ⟨cs', e', s', fun k hk => k' k (hne k hk)⟩⟩
theorem Eff.rx {s' : Sh} (G : Geo C) (e : Eff C w w₁) (a : ShAt C w₁ s') (h : Option Nat) : RX C h w w₁ :=
  ⟨e.tape, e.output, e.size, e.os, fun b hb => e.block b (fun x => hb (.inl x)) (fun x => hb (.inr (.inl x))) (fun x => hb (.inr (.inr (.inl x)))) (fun x => hb (.inr (.inr (.inr (.inl x))))), fun _ => ⟨s', a⟩, fun cs _ _ x => ⟨cs, (e.block _ G.on G.wg G.pl G.st).trans x, rfl, fun _ _ => rfl⟩⟩
theorem OutAt.rx {i : Nat} {v : Value} (o : OutAt C w i v) (r : RX C (some i) w w₁) : OutAt C w₁ i v := by
  unfold OutAt World.cell? at o ⊢
  cases hx : w.heap[C.tp.Out]? with
  | none => rw [hx] at o; cases o
  | some x =>
    rw [hx] at o
    cases x with
    | cells cs t f =>
      obtain ⟨cs', e', _, k'⟩ := r.row cs t f hx
      rw [e']
      simp only at o ⊢
      rw [k' i rfl]; exact o
    | _ => cases o
end
end Go.Proofs.Ytpkiojchlficcaa.Crew

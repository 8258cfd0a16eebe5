/- The walks' ground: the library's numbers, the entries of the model's that the text calls, the shared cells, what a stop's step lists, what a worker knows. -/
import Derived.Test.YtpkiojchlficcaaProg
import Derived.Test.YtpkiojchlficcaaChecked
import Derived.Test.YtpkiojchlficcaaMach
import Derived.Test.YtpkiojchlficcaaCap
import Derived.Conc.WgGenLoneE
import Derived.Conc.MuStep3
import Derived.Conc.MuWords
namespace Go.Proofs.Ytpkiojchlficcaa.Crew
open Go Go.Conc Go.ConcN Go.RowKit Go.Conc.Lib Go.ConcR.Gen
open Go.ConcM (OsLater goes_pad goes_le)
open Go.ConcR (KK wgBlock WgAt stA smA rd wr mk DC0)

abbrev lk : Go.Conc.Lib.WgLink := { add := 38, done := 40, wait := 44, relMerge := 46, disable := 47, enable := 48, inBubble := 49, associate := 50, fatal := 51, uOr := 52, uAdd := 53, raceRead := 54, uLoad := 55, uStore := 56, disassociate := 57, semrelease := 58, acquire := 61, isAssociated := 62, uCas := 63, raceWrite := 64, semacquire := 65, orU64 := 66, addU64 := 67, loadU64 := 68, storeU64 := 69, casU64 := 74, tWgP := 79, tUP := 81, tAssoc := 82, tWg := 75, tAU := 73, tU64 := 71, tUint := 86, tU32 := 61, tPU32 := 87, tPAU := 98, tPU64 := 100, tNoCopy := 59, tANoCopy := 60, tAlign64 := 70 }
theorem wgLib : Go.Conc.Lib.WgLib Try.prog lk :=
  ⟨Try.func38, Try.func40, Try.func44, Try.func46, Try.func47, Try.func48, Try.func49, Try.func50, Try.func51, Try.func52, Try.func53, Try.func54, Try.func55, Try.func56, Try.func57, Try.func58, Try.func61, Try.func62, Try.func63, Try.func64, Try.func65, Try.func66, Try.func67, Try.func68, Try.func69, Try.func74, Try.underlying79, Try.runUnderlying79, Try.sizeOf79, Try.isAgg79, Try.zeroValue79, Try.underlying81, Try.runUnderlying81, Try.sizeOf81, Try.isAgg81, Try.zeroValue81, Try.underlying82, Try.runUnderlying82, Try.sizeOf82, Try.isAgg82, Try.zeroValue82, Try.underlying75, Try.runUnderlying75, Try.sizeOf75, Try.isAgg75, Try.zeroValue75, Try.underlying73, Try.runUnderlying73, Try.sizeOf73, Try.isAgg73, Try.zeroValue73, Try.underlying71, Try.runUnderlying71, Try.sizeOf71, Try.isAgg71, Try.zeroValue71, Try.underlying86, Try.runUnderlying86, Try.sizeOf86, Try.isAgg86, Try.zeroValue86, Try.underlying61, Try.runUnderlying61, Try.sizeOf61, Try.isAgg61, Try.zeroValue61, Try.underlying87, Try.runUnderlying87, Try.sizeOf87, Try.isAgg87, Try.zeroValue87, Try.underlying98, Try.runUnderlying98, Try.sizeOf98, Try.isAgg98, Try.zeroValue98, Try.underlying100, Try.runUnderlying100, Try.sizeOf100, Try.isAgg100, Try.zeroValue100, Try.underlying0, Try.runUnderlying0, Try.sizeOf0, Try.isAgg0, Try.zeroValue0, Try.underlying3, Try.runUnderlying3, Try.sizeOf3, Try.isAgg3, Try.zeroValue3, Try.underlying4, Try.runUnderlying4, Try.sizeOf4, Try.isAgg4, Try.zeroValue4, Try.underlying9, Try.runUnderlying9, Try.sizeOf9, Try.isAgg9, Try.zeroValue9, Try.underlying20, Try.runUnderlying20, Try.sizeOf20, Try.isAgg20, Try.zeroValue20, Try.underlying21, Try.runUnderlying21, Try.sizeOf21, Try.isAgg21, Try.zeroValue21, (by kernel_rfl), (by kernel_rfl)⟩
instance : Go.ConcR.Payload := ⟨3⟩
theorem nm28 : (Try.f28.name == "runtime.NumGoroutine") = false := by kernel_rfl
theorem nm39 : (Try.f39.name == "runtime.NumGoroutine") = false := by kernel_rfl
theorem nm42 : (Try.f42.name == "runtime.NumGoroutine") = false := by kernel_rfl
theorem nm43 : (Try.f43.name == "runtime.NumGoroutine") = false := by kernel_rfl
theorem nm41 : (Try.f41.name == "runtime.NumGoroutine") = false := by kernel_rfl
theorem nm60 : (Try.f60.name == "runtime.NumGoroutine") = false := by kernel_rfl
theorem nm59 : (Try.f59.name == "runtime.NumGoroutine") = false := by kernel_rfl
theorem nm73 : (Try.f73.name == "runtime.NumGoroutine") = false := by kernel_rfl
theorem nm78 : (Try.f78.name == "runtime.NumGoroutine") = false := by kernel_rfl
theorem nm71 : (Try.f71.name == "runtime.NumGoroutine") = false := by kernel_rfl
theorem nm75 : (Try.f75.name == "runtime.NumGoroutine") = false := by kernel_rfl
theorem nm72 : (Try.f72.name == "runtime.NumGoroutine") = false := by kernel_rfl
theorem nm76 : (Try.f76.name == "runtime.NumGoroutine") = false := by kernel_rfl
theorem nm80 : (Try.f80.name == "runtime.NumGoroutine") = false := by kernel_rfl
theorem nm82 : (Try.f82.name == "runtime.NumGoroutine") = false := by kernel_rfl
theorem nm38 : (Try.f38.name == "runtime.NumGoroutine") = false := by kernel_rfl
theorem nm40 : (Try.f40.name == "runtime.NumGoroutine") = false := by kernel_rfl
theorem nm44 : (Try.f44.name == "runtime.NumGoroutine") = false := by kernel_rfl
theorem nm53 : (Try.f53.name == "runtime.NumGoroutine") = false := by kernel_rfl
theorem nm55 : (Try.f55.name == "runtime.NumGoroutine") = false := by kernel_rfl
theorem nm56 : (Try.f56.name == "runtime.NumGoroutine") = false := by kernel_rfl
theorem nm63 : (Try.f63.name == "runtime.NumGoroutine") = false := by kernel_rfl
theorem x79_n : (Try.f79.name == "runtime.NumGoroutine") = false := by kernel_rfl
theorem x79_b : Try.f79.body.isNone = true := by kernel_rfl
theorem x79_x : Extern.findNext Try.f79 = none := by kernel_rfl
theorem x79_f : Extern.find Try.f79 = some (Extern.Atomic.casT (.int .i32)) := by kernel_rfl
theorem x81_n : (Try.f81.name == "runtime.NumGoroutine") = false := by kernel_rfl
theorem x81_b : Try.f81.body.isNone = true := by kernel_rfl
theorem x81_x : Extern.findNext Try.f81 = none := by kernel_rfl
theorem x81_f : Extern.find Try.f81 = some (Extern.Atomic.update (Op.intArith .add) .i32 true) := by kernel_rfl
theorem x83_n : (Try.f83.name == "runtime.NumGoroutine") = false := by kernel_rfl
theorem x83_b : Try.f83.body.isNone = true := by kernel_rfl
theorem x83_x : Extern.findNext Try.f83 = none := by kernel_rfl
theorem x83_f : Extern.find Try.f83 = some (Extern.Sync.canSpin) := by kernel_rfl
theorem x86_n : (Try.f86.name == "runtime.NumGoroutine") = false := by kernel_rfl
theorem x86_b : Try.f86.body.isNone = true := by kernel_rfl
theorem x86_x : Extern.findNext Try.f86 = none := by kernel_rfl
theorem x86_f : Extern.find Try.f86 = some (Extern.OsHooks.nano) := by kernel_rfl
theorem x87_n : (Try.f87.name == "runtime.NumGoroutine") = false := by kernel_rfl
theorem x87_b : Try.f87.body.isNone = true := by kernel_rfl
theorem x87_x : Extern.findNext Try.f87 = none := by kernel_rfl
theorem x87_f : Extern.find Try.f87 = some (Extern.Sync.semacquire) := by kernel_rfl
theorem x89_n : (Try.f89.name == "runtime.NumGoroutine") = false := by kernel_rfl
theorem x89_b : Try.f89.body.isNone = true := by kernel_rfl
theorem x89_x : Extern.findNext Try.f89 = none := by kernel_rfl
theorem x89_f : Extern.find Try.f89 = some (Extern.Sync.semrelease) := by kernel_rfl
theorem x84_n : (Try.f84.name == "runtime.NumGoroutine") = false := by kernel_rfl
theorem x84_b : Try.f84.body.isNone = true := by kernel_rfl
theorem x84_x : Extern.findNext Try.f84 = none := by kernel_rfl
theorem x84_f : Extern.find Try.f84 = some (fun _ => pure (.tuple #[])) := by kernel_rfl
theorem x70_n : (Try.f70.name == "runtime.NumGoroutine") = false := by kernel_rfl
theorem x70_b : Try.f70.body.isNone = true := by kernel_rfl
theorem x70_x : Extern.findNext Try.f70 = none := by kernel_rfl
theorem x70_f : Extern.find Try.f70 = some (Extern.Atomic.loadT (.int .u32)) := by kernel_rfl
theorem x77_n : (Try.f77.name == "runtime.NumGoroutine") = false := by kernel_rfl
theorem x77_b : Try.f77.body.isNone = true := by kernel_rfl
theorem x77_x : Extern.findNext Try.f77 = none := by kernel_rfl
theorem x77_f : Extern.find Try.f77 = some (Extern.Atomic.storeT) := by kernel_rfl
theorem u110 : Try.prog.underlying 110 = some (.pointer 65) := Try.underlying110
theorem z65 : (Try.prog.info? 65).map (fun i => decide (i.size = 0)) = some false := by kernel_rfl
theorem q75 : (Try.prog.funcs[(base 75).fn]?).any (·.norace) = true := by kernel_rfl
theorem q76 : (Try.prog.funcs[(base 76).fn]?).any (·.norace) = true := by kernel_rfl
theorem q76d : (Try.prog.funcs[(baseD 76).fn]?).any (·.norace) = true := by kernel_rfl
theorem q80 : (Try.prog.funcs[(base 80).fn]?).any (·.norace) = true := by kernel_rfl
theorem q82 : (Try.prog.funcs[(base 82).fn]?).any (·.norace) = true := by kernel_rfl
theorem x86_q : Try.f86.norace = true := by kernel_rfl
section
variable {main : Bool} {b : Frame} {a : Act} {kk : List Item} {cs : List Frame} {w : World} {ops : Array Oper} {i : Nat} {rest : List Nat} {o : Oper}
/-- A plain load of an int32 in a function that is 'norace': nothing reaches the trace. -/
theorem stepG_loadQ {x : Operand} (ho : ops[i]? = some o) (hw : Region.wanted o (yielded ops a.tmps) = true) (hk : b.kind ≠ .early) (hop : o.op = .load 21 x)
    {ad : Addr} {v : Int} (hx : a.eval x = .pointer (some ad)) (hc : w.cell? ad = some (.int .i32 v)) (hq : (Try.prog.funcs[b.fn]?).any (·.norace) = true) :
    stepG Try.prog main (G (b.at a (.inRegion ops (i :: rest) :: kk)) cs) w = .go (G (b.at (a.put o.dst (.int .i32 v)) (.inRegion ops rest :: kk)) cs) w #[] := by
  have hr : (execOp a.eval o).run Try.prog w = .ok (.value (.int .i32 v)) w := by
    unfold execOp
    simp only [hop, hx]
    simp [go_sem, hc]
  have he : (execOp a.eval o).events Try.prog w #[] = #[⟨.cell ad, false, false⟩] := by
    unfold execOp
    simp only [hop, hx]
    simp [go_sem, hc]
  rw [stepG_value ho hw hk hr]
  unfold listed
  rw [he, seen_def, hq]
  simp [seenStep]
end

section
variable {C : Cf} {w w₁ : World} {s : Sh}
/-! ### the shared cells -/
theorem ShAt.dnC (h : ShAt C w s) : w.cell? (dnA C.tp.On) = some (.int .u32 (bz s.dn)) := by have := h.on; unfold onBlock at this; simp [World.cell?, dnA, this]
theorem ShAt.muC (h : ShAt C w s) : w.cell? (muA C.tp.On) = some (.int .i32 (muZ s.mu)) := by have := h.on; unfold onBlock at this; simp [World.cell?, muA, this]
theorem ShAt.msC (h : ShAt C w s) : w.cell? (msA C.tp.On) = some (.int .u32 (s.ms : Int)) := by have := h.on; unfold onBlock at this; simp [World.cell?, msA, this]
theorem ShAt.onThaw (h : ShAt C w s) (off : Nat) : w.frozen? ⟨C.tp.On, off, Option.none⟩ = false := by have := h.on; unfold onBlock at this; simp [World.frozen?, this]
theorem ShAt.wgC (h : ShAt C w s) : w.cell? (stA C.tp.Wg) = some (.int .u64 (wgZ s.c s.wv)) := by have := h.wg; unfold wgBlk at this; simp [World.cell?, stA, this]
theorem ShAt.wsC (h : ShAt C w s) : w.cell? (smA C.tp.Wg) = some (.int .u32 (s.ws : Int)) := by have := h.wg; unfold wgBlk at this; simp [World.cell?, smA, this]
theorem ShAt.wgThaw (h : ShAt C w s) (off : Nat) : w.frozen? ⟨C.tp.Wg, off, Option.none⟩ = false := by have := h.wg; unfold wgBlk at this; simp [World.frozen?, this]
theorem ShAt.setOn (G : Geo C) (h : ShAt C w s) {off : Nat} {v : Value} {s' : Sh} (e : ∀ o, (onBlock C.tO s' = o) → (w.setCell ⟨C.tp.On, off, Option.none⟩ v).heap[C.tp.On]? = some o) (hc : s'.c = s.c) (hv : s'.wv = s.wv) (hw : s'.ws = s.ws) (hp : s'.pl = s.pl) (ht : s'.sc = s.sc) : ShAt C (w.setCell ⟨C.tp.On, off, Option.none⟩ v) s' := by
  have A := aside_setCell w ⟨C.tp.On, off, Option.none⟩ v
  refine ⟨e _ rfl, ?_, ?_, ?_⟩
  · rw [A.block C.tp.Wg G.ow.symm, h.wg]; simp only [wgBlk, hc, hv, hw]
  · rw [A.block C.tp.Pl G.op.symm, hp]; exact h.pl
  · rw [A.block C.tp.St G.os.symm, ht]; exact h.st
theorem ShAt.setDn (G : Geo C) (h : ShAt C w s) (d : Bool) : ShAt C (w.setCell (dnA C.tp.On) (.int .u32 (bz d))) { s with dn := d } := by
  refine h.setOn G (fun o e => ?_) rfl rfl rfl rfl rfl
  subst e
  have := h.on; unfold onBlock at this
  rw [setCell_eq_setRow w C.tp.On 0 _ C.tO (0, 0) _ this, setRow_heap w C.tp.On _ _ C.tO _ this]
  simp [onBlock]
theorem ShAt.setMu (G : Geo C) (h : ShAt C w s) {m : Wd} {z : Int} (e : z = muZ m) : ShAt C (w.setCell (muA C.tp.On) (.int .i32 z)) { s with mu := m } := by
  subst e
  refine h.setOn G (fun o e => ?_) rfl rfl rfl rfl rfl
  subst e
  have := h.on; unfold onBlock at this
  rw [setCell_eq_setRow w C.tp.On 1 _ C.tO (0, 0) _ this, setRow_heap w C.tp.On _ _ C.tO _ this]
  simp [onBlock]
theorem ShAt.setMs (G : Geo C) (h : ShAt C w s) {n : Nat} {z : Int} (e : z = (n : Int)) : ShAt C (w.setCell (msA C.tp.On) (.int .u32 z)) { s with ms := n } := by
  subst e
  refine h.setOn G (fun o e => ?_) rfl rfl rfl rfl rfl
  subst e
  have := h.on; unfold onBlock at this
  rw [setCell_eq_setRow w C.tp.On 2 _ C.tO (0, 0) _ this, setRow_heap w C.tp.On _ _ C.tO _ this]
  simp [onBlock]
theorem ShAt.setWg (G : Geo C) (h : ShAt C w s) {c : Nat} {v : Bool} {z : Int} (e : z = wgZ c v) : ShAt C (w.setCell (stA C.tp.Wg) (.int .u64 z)) { s with c := c, wv := v } := by
  subst e
  have A := aside_setCell w (stA C.tp.Wg) (.int .u64 (wgZ c v))
  have := h.wg; unfold wgBlk at this
  refine ⟨(A.block C.tp.On G.ow).trans h.on, ?_, ?_, ?_⟩
  · rw [stA, setCell_eq_setRow w C.tp.Wg 0 _ C.tW (0, 0) _ this, setRow_heap w C.tp.Wg _ _ C.tW _ this]
    simp [wgBlk]
  · rw [A.block C.tp.Pl G.wp.symm]; exact h.pl
  · rw [A.block C.tp.St G.ws.symm]; exact h.st
theorem ShAt.setWs (G : Geo C) (h : ShAt C w s) {n : Nat} {z : Int} (e : z = (n : Int)) : ShAt C (w.setCell (smA C.tp.Wg) (.int .u32 z)) { s with ws := n } := by
  subst e
  have A := aside_setCell w (smA C.tp.Wg) (.int .u32 (n : Int))
  have := h.wg; unfold wgBlk at this
  refine ⟨(A.block C.tp.On G.ow).trans h.on, ?_, ?_, ?_⟩
  · rw [smA, setCell_eq_setRow w C.tp.Wg 1 _ C.tW (0, 0) _ this, setRow_heap w C.tp.Wg _ _ C.tW _ this]
    simp [wgBlk]
  · rw [A.block C.tp.Pl G.wp.symm]; exact h.pl
  · rw [A.block C.tp.St G.ws.symm]; exact h.st
theorem Eff.refl (w : World) : Eff C w w := ⟨rfl, rfl, rfl, .refl _, fun _ _ _ _ _ => rfl⟩
theorem Eff.set (a : Addr) (v : Value) (h : a.block = C.tp.On ∨ a.block = C.tp.Wg) : Eff C w (w.setCell a v) :=
  have A := aside_setCell w a v
  ⟨A.tape, A.output, A.size, by rw [A.os]; exact .refl _, fun k h1 h2 _ _ => A.block k (by rcases h with h | h <;> rw [h] <;> assumption)⟩
theorem Eff.later (w : World) : Eff C w w.later := ⟨rfl, rfl, rfl, ⟨w.tick, rfl⟩, fun _ _ _ _ _ => rfl⟩
theorem Eff.asked (w : World) : Eff C w w.asked := ⟨rfl, rfl, rfl, .refl _, fun _ _ _ _ _ => rfl⟩
theorem ShAt.later (h : ShAt C w s) : ShAt C w.later s := ⟨h.1, h.2, h.3, h.4⟩
theorem ShAt.asked (h : ShAt C w s) : ShAt C w.asked s := ⟨h.1, h.2, h.3, h.4⟩
/-- WHAT A GOROUTINE OF THE PHASE KNOWS, against a world that stood before. -/
structure KW (C : Cf) (W : World) (w : World) : Prop where
  live : Live C w
  rx : RX C Option.none W w
theorem KW.rely {W : World} {h : Option Nat} (k : KW C W w) (r : RX C h w w₁) : KW C W w₁ := ⟨r.live k.live, k.rx.trans r.weaken⟩
theorem KW.eff {W : World} {s' : Sh} (G : Geo C) (k : KW C W w) (e : Eff C w w₁) (a : ShAt C w₁ s') : KW C W w₁ := k.rely (e.rx G a Option.none)
theorem KW.muI {W : World} (k : KW C W w) : ∃ v : Int, w.cell? ⟨C.tp.On, 1, Option.none⟩ = some (.int .i32 v) := by
  obtain ⟨s, hs⟩ := k.live
  exact ⟨_, hs.muC⟩
theorem KW.mu {W : World} (k : KW C W w) : ∃ v : Value, w.cell? ⟨C.tp.On, 1, Option.none⟩ = some v := by
  obtain ⟨s, hs⟩ := k.live
  exact ⟨_, hs.muC⟩
theorem KW.wg {W : World} (k : KW C W w) : ∃ v : Value, w.cell? ⟨C.tp.Wg, 0, Option.none⟩ = some v := by
  obtain ⟨s, hs⟩ := k.live
  exact ⟨_, hs.wgC⟩
theorem KW.ws {W : World} (k : KW C W w) : ∃ v : Value, w.cell? ⟨C.tp.Wg, 1, Option.none⟩ = some v := by
  obtain ⟨s, hs⟩ := k.live
  exact ⟨_, hs.wsC⟩
end
/-! ### what a stop's step lists -/
section
variable {C : Cf}
/-- A list of book-keeping: d deep, d' deep behind it; touched cells lie deep. -/
def BookC (C : Cf) (d d' : Nat) (es : Array Event) : Prop := (∀ e ∈ es, EvSy C e) ∧ deafBehind d es = d' ∧ ∀ j e, es[j]? = some e → (MemAct.ofEvent e).touch? = Option.none ∨ ((∃ ad wr, e = ⟨.cell ad, wr, true⟩) ∧ 0 < deafBehind d (es.extract 0 j))
theorem bk_nil (d : Nat) : BookC C d d #[] := ⟨by simp, rfl, by simp⟩
theorem bk_dis (d : Nat) : BookC C d (d + 1) #[mk .disable] := ⟨by intro e he; simp at he; subst he; exact .inl rfl, rfl, fun j e he => .inl (by have := Array.mem_of_getElem? he; simp at this; subst this; rfl)⟩
theorem bk_en (d : Nat) : BookC C (d + 1) d #[mk .enable] := ⟨by intro e he; simp at he; subst he; exact .inr (.inl rfl), rfl, fun j e he => .inl (by have := Array.mem_of_getElem? he; simp at this; subst this; rfl)⟩
theorem sy_cell {a : Addr} (h : a.block = C.tp.On ∨ a.block = C.tp.Wg) (x : Bool) : EvSy C ⟨.cell a, x, true⟩ := .inr (.inr (.inr (.inr (.inl ⟨a, x, rfl, h⟩))))
theorem bk_one (d : Nat) (a : Addr) (x : Bool) (h : a.block = C.tp.On ∨ a.block = C.tp.Wg) : BookC C (d + 1) (d + 1) #[⟨.cell a, x, true⟩] := by
  refine ⟨by intro e he; simp at he; subst he; exact sy_cell h x, rfl, fun j e he => ?_⟩
  match j, he with
  | 0, he => simp at he; subst he; exact .inr ⟨⟨_, _, rfl⟩, by simp [deafBehind]⟩
  | j + 1, he => simp at he
theorem bk_rw (d : Nat) (a : Addr) (h : a.block = C.tp.On ∨ a.block = C.tp.Wg) : BookC C (d + 1) (d + 1) #[⟨.cell a, false, true⟩, ⟨.cell a, true, true⟩] := by
  refine ⟨by intro e he; simp at he; rcases he with rfl | rfl <;> exact sy_cell h _, rfl, fun j e he => ?_⟩
  match j, he with
  | 0, he => simp at he; subst he; exact .inr ⟨⟨_, _, rfl⟩, by simp [deafBehind]⟩
  | 1, he => simp at he; subst he; exact .inr ⟨⟨_, _, rfl⟩, by simp [deafBehind]⟩
  | j + 2, he => simp at he
theorem bk_sem (d : Nat) (a : Addr) (h : a.block = C.tp.On ∨ a.block = C.tp.Wg) : BookC C (d + 1) (d + 1) (semEvents a) := by
  refine ⟨?_, by simp [deafBehind, semEvents], fun j e he => ?_⟩
  · intro e he
    simp [semEvents] at he
    rcases he with rfl | rfl | rfl | rfl
    · exact .inl rfl
    · exact sy_cell h _
    · exact sy_cell h _
    · exact .inr (.inl rfl)
  · match j, he with
    | 0, he => simp [semEvents] at he; subst he; exact .inl rfl
    | 1, he => simp [semEvents] at he; subst he; exact .inr ⟨⟨_, _, rfl⟩, by simp [deafBehind, semEvents]⟩
    | 2, he => simp [semEvents] at he; subst he; exact .inr ⟨⟨_, _, rfl⟩, by simp [deafBehind, semEvents]⟩
    | 3, he => simp [semEvents] at he; subst he; exact .inl rfl
    | j + 4, he => simp [semEvents] at he
theorem bk_acq (d : Nat) : BookC C d d #[mk (.acquire (muA C.tp.On))] := ⟨by intro e he; simp at he; subst he; exact .inr (.inr (.inl rfl)), rfl, fun j e he => .inl (by have := Array.mem_of_getElem? he; simp at this; subst this; rfl)⟩
theorem bk_rel (d : Nat) : BookC C d d #[mk (.releaseMerge (muA C.tp.On))] := ⟨by intro e he; simp at he; subst he; exact .inr (.inr (.inr (.inl rfl))), rfl, fun j e he => .inl (by have := Array.mem_of_getElem? he; simp at this; subst this; rfl)⟩
theorem evW {T T' : Th} {es : Array Event} (h : T.pc ≠ .wr) (b : BookC C T.deaf T'.deaf es) : EvStopW C T T' es := by
  unfold EvStopW
  rw [if_neg h]
  exact ⟨b.1, b.2.1, fun _ => b.2.2⟩
/-- One that is not mute: shared cells may be touched at any depth. -/
theorem evW0 {T T' : Th} {es : Array Event} (h : T.pc ≠ .wr) (hm : T.mute = false) (b : (∀ e ∈ es, EvSy C e) ∧ deafBehind T.deaf es = T'.deaf) : EvStopW C T T' es := by
  unfold EvStopW
  rw [if_neg h]
  exact ⟨b.1, b.2, fun hm' => by rw [hm] at hm'; cases hm'⟩
/-- A STOP THAT IS NO SELECT: the ways on, said at once. -/
theorem stpW {Nx : Th → Goroutine → World → Prop} {T : Th} {g : Goroutine} {w : World} (hr : g.status = .running) (hs : T.pc ≠ .sel) (ho : g.offers = Option.none) (hm : T.wakes = true → mayWake C.P g = true)
    (h : ∀ s, ShAt C w s → s.Small → (wmv T s = [] → stepG C.P false g w = .go { g with status := .blocked } w #[]) ∧ (wmv T s ≠ [] → ∃ r ∈ wmv T s, r.1.pc ≠ .bad → ∃ g' w' es, stepG C.P false g w = .go g' w' es ∧ ShAt C w' r.2 ∧ Eff C w w' ∧ EvStopW C T r.1 es ∧ AfterW C Nx r.1 g' w')) : StpW C Nx T g w :=
  ⟨hr, fun e => absurd e hs, fun _ => ⟨ho, hm, h⟩⟩
/-- The silent stretch behind a stop. -/
theorem afterW {Nx : Th → Goroutine → World → Prop} {T' : Th} {g' : Goroutine} {w' : World} (hq : T'.pc ≠ .quit) (m : Nat) (h : Goes C.P false (RX C Option.none) DC0 (Nx T') m g' w') : AfterW C Nx T' g' w' := by
  unfold AfterW
  rw [if_neg hq]
  exact ⟨m, goes_mono (fun _ _ _ x => dx_of_dc0 x) (fun _ _ x => x) h⟩
/-- A silent stretch of a worker, to the stop 'T' at depth k. -/
abbrev GD [Cap] (C : Cf) (k : Nat) (T : Th) (m : Nat) (g : Goroutine) (w : World) : Prop := Goes Try.prog false (RX C Option.none) DC0 (WK C k T) m g w
/-- At a stop: what is known goes over; depth nought asks nothing. -/
theorem at_stop [Cap] {W : World} {k m : Nat} {T : Th} {g : Goroutine} {w : World} (hF : KW C W w) (h : ∀ k' w₁, k = k' + 1 → KW C W w₁ → StpW C (WK C k') T g w₁) : Goes Try.prog false (RX C Option.none) DC0 (WK C k T) m g w := by
  refine Goes.stop (fun w₁ r₁ => ?_)
  rcases k with _ | k
  · exact WK.zero
  · exact WK.of_stp (h k w₁ rfl (hF.rely r₁))
/-- A STOP THAT ALWAYS HAS A WAY ON. -/
theorem stpWay {Nx : Th → Goroutine → World → Prop} {T : Th} {g : Goroutine} {w : World} (hP : C.P = Try.prog) (hr : g.status = .running) (hs : T.pc ≠ .sel) (ho : g.offers = Option.none) (hm : T.wakes = true → mayWake Try.prog g = true)
    (h : ∀ s, ShAt C w s → s.Small → ∃ r ∈ wmv T s, r.1.pc ≠ .bad → ∃ g' w' es, stepG Try.prog false g w = .go g' w' es ∧ ShAt C w' r.2 ∧ Eff C w w' ∧ EvStopW C T r.1 es ∧ AfterW C Nx r.1 g' w') : StpW C Nx T g w :=
  stpW hr hs ho (by rw [hP]; exact hm) fun s a b => by
    obtain ⟨r, h1, h2⟩ := h s a b
    refine ⟨fun e => ?_, fun _ => ⟨r, h1, fun hb => ?_⟩⟩
    · rw [e] at h1; cases h1
    · rw [hP]; exact h2 hb
/-- The silent stretch behind a stop, of our program. -/
theorem afterT {Nx : Th → Goroutine → World → Prop} {T' : Th} {g' : Goroutine} {w' : World} (hP : C.P = Try.prog) (hq : T'.pc ≠ .quit) (m : Nat) (h : Goes Try.prog false (RX C Option.none) DC0 (Nx T') m g' w') : AfterW C Nx T' g' w' :=
  afterW hq m (by rw [hP]; exact h)
end
end Go.Proofs.Ytpkiojchlficcaa.Crew

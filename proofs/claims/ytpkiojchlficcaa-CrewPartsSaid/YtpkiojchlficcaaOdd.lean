/- The walks' ground, 2: an odd step within a stretch (a plain load; a call that writes the row): the stretch before it is silent. Loads of channels and functions; close; the select. -/
import Derived.Test.YtpkiojchlficcaaGround
import Derived.Conc.TokenWalk
set_option linter.unusedSimpArgs false
namespace Go.Proofs.Ytpkiojchlficcaa.Crew
open Go Go.Conc Go.ConcN Go.RowKit Go.Conc.Lib Go.ConcR.Gen
open Go.ConcM (OsLater goes_pad goes_le)
open Go.ConcR (KK wgBlock WgAt stA smA rd wr mk DC0)
section
variable {P : Program} {main : Bool} {R : World → World → Prop} {D D' : World → World → Array Event → Prop} {Stop : Goroutine → World → Prop}
/-- At an odd step: it lists and turns what D lets it, and goes on. -/
def OddAt (P : Program) (main : Bool) (R : World → World → Prop) (D : World → World → Array Event → Prop) (Stop : Goroutine → World → Prop) (M : Nat) (g : Goroutine) (w : World) : Prop :=
  g.status = .running ∧ ∃ g' w' es, stepG P main g w = .go g' w' es ∧ D w w' es ∧ Goes P main R D Stop M g' w'
/-- A silent stretch, an odd step, and on. -/
theorem goes_odd (hR : ∀ w, R w w) (hD : ∀ w w' es, D' w w' es → D w w' es) {M : Nat} : ∀ {m : Nat} {g : Goroutine} {w : World}, Goes P main R D' (OddAt P main R D Stop M) m g w → Goes P main R D Stop (m + M + 1) g w
  | 0, g, w, h => by
    have h : ∀ w₁, R w w₁ → OddAt P main R D Stop M g w₁ := h
    have e : 0 + M + 1 = M + 1 := by omega
    rw [e]
    refine .inr ⟨(h w (hR w)).1, fun w₁ r => ?_⟩
    obtain ⟨_, g', w', es, hs, hd, hg⟩ := h w₁ r
    rw [hs]
    exact ⟨hd, hg⟩
  | n + 1, g, w, h => by
    have e : n + 1 + M + 1 = (n + M + 1) + 1 := by omega
    rw [e]
    rcases h with h | ⟨hs, h⟩
    · refine .inr ⟨(h w (hR w)).1, fun w₁ r => ?_⟩
      obtain ⟨_, g', w', es, hs, hd, hg⟩ := h w₁ r
      rw [hs]
      exact ⟨hd, Go.ConcM.goes_le (by omega) hg⟩
    · refine .inr ⟨hs, fun w₁ r => ?_⟩
      have := h w₁ r
      revert this
      cases stepG P main g w₁ <;> simp only [GStep.goes, imp_self]
      exact fun ⟨d, x⟩ => ⟨hD _ _ _ d, goes_odd hR hD x⟩
end
section
variable {main : Bool} {b : Frame} {a : Act} {kk : List Item} {cs : List Frame} {w : World} {ops : Array Oper} {i : Nat} {rest : List Nat} {o : Oper}
theorem stepG_loadChan {x : Operand} (ty : TypeId) (hty : ty = 56 ∨ ty = 57) (ho : ops[i]? = some o) (hw : Region.wanted o (yielded ops a.tmps) = true) (hk : b.kind ≠ .early) (hop : o.op = .load ty x)
    {ad : Addr} {c : Option Nat} (hx : a.eval x = .pointer (some ad)) (hc : w.cell? ad = some (.chan c)) (hq : (Try.prog.funcs[b.fn]?).any (·.norace) = false) :
    stepG Try.prog main (G (b.at a (.inRegion ops (i :: rest) :: kk)) cs) w = .go (G (b.at (a.put o.dst (.chan c)) (.inRegion ops rest :: kk)) cs) w #[⟨.cell ad, false, false⟩] := by
  have hr : (execOp a.eval o).run Try.prog w = .ok (.value (.chan c)) w := by
    unfold execOp
    simp only [hop, hx]
    rcases hty with rfl | rfl <;> simp [go_sem, hc]
  have he : (execOp a.eval o).events Try.prog w #[] = #[⟨.cell ad, false, false⟩] := by
    unfold execOp
    simp only [hop, hx]
    rcases hty with rfl | rfl <;> simp [go_sem, hc]
  rw [stepG_value ho hw hk hr]
  unfold listed
  rw [he, seen_eq hq (by simp)]
theorem stepG_loadFn {x : Operand} (ho : ops[i]? = some o) (hw : Region.wanted o (yielded ops a.tmps) = true) (hk : b.kind ≠ .early) (hop : o.op = .load 49 x)
    {ad : Addr} {f : Fn} {p q : Array Value} (hx : a.eval x = .pointer (some ad)) (hc : w.cell? ad = some (.func f p q)) (hq : (Try.prog.funcs[b.fn]?).any (·.norace) = false) :
    stepG Try.prog main (G (b.at a (.inRegion ops (i :: rest) :: kk)) cs) w = .go (G (b.at (a.put o.dst (.func f p q)) (.inRegion ops rest :: kk)) cs) w #[⟨.cell ad, false, false⟩] := by
  have hr : (execOp a.eval o).run Try.prog w = .ok (.value (.func f p q)) w := by
    unfold execOp
    simp only [hop, hx]
    simp [go_sem, hc]
  have he : (execOp a.eval o).events Try.prog w #[] = #[⟨.cell ad, false, false⟩] := by
    unfold execOp
    simp only [hop, hx]
    simp [go_sem, hc]
  rw [stepG_value ho hw hk hr]
  unfold listed
  rw [he, seen_eq hq (by simp)]
theorem mayWake_close {P : Program} {x : Operand} {ats : Array TypeId} (ho : ops[i]? = some o) (hop : o.op = .call { callee := .builtin .close, args := #[x], argTypes := ats }) :
    mayWake P (G (b.at a (.inRegion ops (i :: rest) :: kk)) cs) = true := by
  unfold mayWake
  simp [G, Frame.at, ho, hop]
end
section
variable {C : Cf} {w : World} {s : Sh} {h : Option Nat}
/-- What a plain load of a variable lists. -/
theorem dx_load {mt : Bool} (a : Addr) (h1 : ¬ Five C a.block) (h2 : ¬ C.tp.Shun (.cell a)) (h3 : a.block < C.B) (hm : mt = false) : DX C h mt w w #[⟨.cell a, false, false⟩] :=
  ⟨rfl, rfl, rfl, rfl, fun _ _ => rfl, RowKept.refl _ _, (fun e he => by simp at he; subst he; exact .inl ⟨a, rfl, h1, h2, h3⟩), fun e => by rw [hm] at e; cases e⟩
theorem ShAt.shutSt (G : Geo C) (h : ShAt C w s) : ShAt C (w.setChan C.tp.St 0 #[] true 0 0 false) { s with sc := true } := by
  refine ⟨?_, ?_, ?_, ?_⟩
  · rw [show (w.setChan C.tp.St 0 #[] true 0 0 false).heap[C.tp.On]? = w.heap[C.tp.On]? from by simp [World.setChan, Array.getElem?_setIfInBounds_ne (Ne.symm G.os)]]; exact h.on
  · rw [show (w.setChan C.tp.St 0 #[] true 0 0 false).heap[C.tp.Wg]? = w.heap[C.tp.Wg]? from by simp [World.setChan, Array.getElem?_setIfInBounds_ne (Ne.symm G.ws)]]; exact h.wg
  · rw [show (w.setChan C.tp.St 0 #[] true 0 0 false).heap[C.tp.Pl]? = w.heap[C.tp.Pl]? from by simp [World.setChan, Array.getElem?_setIfInBounds_ne (Ne.symm G.ps)]]; exact h.pl
  · exact heap_setChan w C.tp.St 0 #[] true 0 0 false (Array.getElem?_eq_some_iff.1 h.st).1
theorem ShAt.shutPl (G : Geo C) (h : ShAt C w s) {k : Nat} (hk : w.heap[C.tp.Pl]? = some (.chan 0 #[] s.pl k k false)) : ShAt C (w.setChan C.tp.Pl 0 #[] true k k false) { s with pl := true } := by
  refine ⟨?_, ?_, ⟨k, ?_⟩, ?_⟩
  · rw [show (w.setChan C.tp.Pl 0 #[] true k k false).heap[C.tp.On]? = w.heap[C.tp.On]? from by simp [World.setChan, Array.getElem?_setIfInBounds_ne (Ne.symm G.op)]]; exact h.on
  · rw [show (w.setChan C.tp.Pl 0 #[] true k k false).heap[C.tp.Wg]? = w.heap[C.tp.Wg]? from by simp [World.setChan, Array.getElem?_setIfInBounds_ne (Ne.symm G.wp)]]; exact h.wg
  · exact heap_setChan w C.tp.Pl 0 #[] true k k false (Array.getElem?_eq_some_iff.1 hk).1
  · rw [show (w.setChan C.tp.Pl 0 #[] true k k false).heap[C.tp.St]? = w.heap[C.tp.St]? from by simp [World.setChan, Array.getElem?_setIfInBounds_ne G.ps]]; exact h.st
theorem Eff.setChan (c cap : Nat) (buf : Array Value) (x : Bool) (s r : Nat) (tm : Bool) (h : c = C.tp.Pl ∨ c = C.tp.St) : Eff C w (w.setChan c cap buf x s r tm) :=
  ⟨rfl, rfl, by simp [World.setChan], .refl _, fun b _ _ h3 h4 => by
    have hne : c ≠ b := by rcases h with rfl | rfl <;> intro e <;> simp_all
    simp [World.setChan, Array.getElem?_setIfInBounds_ne hne]⟩
theorem sy_close {c : Nat} (h : c = C.tp.Pl ∨ c = C.tp.St) : ∀ e ∈ closeEvents c, EvSy C e := by
  intro e he
  simp [closeEvents] at he
  rcases he with rfl | rfl <;> exact .inr (.inr (.inr (.inr (.inr ⟨c, _, rfl, h⟩))))
end
/-! ### the call of a function value; a region whose order is drawn -/
section
variable {P : Program} {main : Bool} {b : Frame} {a : Act} {k : List Item} {cs : List Frame} {w : World}
theorem run_callv {o : Oper} {x : Operand} {f : FuncId} {fn : Func} {cap : Array Value} {args : Array Operand} {ats : Array TypeId} (hop : o.op = .call { callee := .value x, args, argTypes := ats }) (hx : a.eval x = .func (.func f) #[] cap)
    (hf : P.funcs[f]? = some fn) (hname : (fn.name == "runtime.NumGoroutine") = false) (hb : fn.body.isNone = false) : (execOp a.eval o).run P w = .ok (.enter f (args.map a.eval ++ cap)) w := by
  have h1 : ¬ fn.name = "runtime.NumGoroutine" := by simpa using hname
  have h2 : ¬ fn.body = Option.none := by cases hx : fn.body <;> simp_all
  unfold execOp
  simp [hop, resolve, Deferred.ofValue, invoke, callFunc, hf, h1, h2, hx]
theorem events_callv {o : Oper} {x : Operand} {f : FuncId} {fn : Func} {cap : Array Value} {args : Array Operand} {ats : Array TypeId} (hop : o.op = .call { callee := .value x, args, argTypes := ats }) (hx : a.eval x = .func (.func f) #[] cap)
    (hf : P.funcs[f]? = some fn) (hname : (fn.name == "runtime.NumGoroutine") = false) (hb : fn.body.isNone = false) (es : Array Event) : (execOp a.eval o).events P w es = es := by
  have h1 : ¬ fn.name = "runtime.NumGoroutine" := by simpa using hname
  have h2 : ¬ fn.body = Option.none := by cases hx : fn.body <;> simp_all
  unfold execOp
  simp [hop, resolve, Deferred.ofValue, invoke, callFunc, hf, h1, h2, hx]
/-- THE CALL of a function value that bears captures. -/
theorem goes_callv {ops : Array Oper} {i : Nat} {rest : List Nat} {o : Oper} {K : Goroutine → World → Array Event → Prop} {x : Operand} {f : FuncId} {fn : Func} {cap : Array Value} {c : Code} {args : Array Operand} {ats : Array TypeId}
    (ho : ops[i]? = some o) (hw : Region.wanted o (yielded ops a.tmps) = true) (hk : b.kind ≠ .early) (hop : o.op = .call { callee := .value x, args, argTypes := ats }) (hx : a.eval x = .func (.func f) #[] cap)
    (hf : P.funcs[f]? = some fn) (hname : (fn.name == "runtime.NumGoroutine") = false) (hb : fn.body = some c)
    (h : K (G ((base f).at { tmps := (args.map a.eval ++ cap) ++ Array.replicate (fn.ntmps - (args.map a.eval ++ cap).size) undef, defers := [] } [.code c]) (b.at a (.inRegion ops (i :: rest) :: k) :: cs)) w #[]) :
    (stepG P main (G (b.at a (.inRegion ops (i :: rest) :: k)) cs) w).goes K := by
  have hb' : fn.body.isNone = false := by rw [hb]; rfl
  rw [stepG_enter ho hw hk (run_callv hop hx hf hname hb'), enter_at _ hf hb]
  have : listed P b.fn a o w = #[] := by unfold listed; rw [events_callv hop hx hf hname hb']; exact seen_none P _
  rw [this]
  exact h
/-- The step that draws a region's order. -/
theorem stepG_draw {ops : Array Oper} {id : Nat} :
    stepG P main (G (b.at a (.code (.region id ops true) :: k)) cs) w =
      .go (G (b.at a (.inRegion ops (Region.schedule (P.follows .mixedOrders) ops (w.tape w.drawn (.order b.fn id))) :: k)) cs) { w with drawn := w.drawn + 1 } #[] := by
  simp [G, stepG, stepG.exec, Frame.at, choose, Sem.run, Question.forced, Question.cut]
/-- Every order that the tape can pick. -/
def ready (md : Region.Mode) (ops : Array Oper) (listed : Array Bool) : List Nat :=
  (List.range ops.size).filter fun i => !listed.getD i true && ((ops[i]?).map (·.after.all fun e => !Region.binds md e || listed.getD e.on false)).getD false
def orders (md : Region.Mode) (ops : Array Oper) : Nat → Array Bool → List Nat → List (List Nat)
  | 0, _, acc => [acc.reverse]
  | fuel + 1, listed, acc => match ready md ops listed with
    | [] => [acc.reverse]
    | i :: is => (i :: is).flatMap fun j => orders md ops fuel (listed.setIfInBounds j true) (j :: acc)
theorem go_mem (md : Region.Mode) (ops : Array Oper) : ∀ (fuel t : Nat) (listed : Array Bool) (acc : List Nat), Region.linearise.go md ops fuel t listed acc ∈ orders md ops fuel listed acc
  | 0, _, _, _ => by simp [Region.linearise.go, orders]
  | fuel + 1, t, listed, acc => by
    simp only [Region.linearise.go, orders]
    change (match (ready md ops listed)[t % (ready md ops listed).length]? with
      | some i => Region.linearise.go md ops fuel (t / (ready md ops listed).length) (listed.setIfInBounds i true) (i :: acc)
      | Option.none => acc.reverse) ∈ _
    cases hr : ready md ops listed with
    | nil => simp
    | cons i is =>
      have hlt : t % (i :: is).length < (i :: is).length := Nat.mod_lt _ (by simp)
      rw [List.getElem?_eq_getElem hlt]
      simp only
      refine List.mem_flatMap.2 ⟨_, List.getElem_mem hlt, go_mem md ops fuel _ _ _⟩
theorem schedule_mem {mixed : Bool} {ops : Array Oper} (h : (mixed || !Region.departs ops) = true) (t : Nat) : Region.schedule mixed ops t ∈ orders .any ops ops.size (Array.replicate ops.size false) [] := by
  unfold Region.schedule
  rw [if_pos h]
  exact go_mem _ _ _ _ _ _
end
section
variable {C : Cf} {w : World} {h : Option Nat}
theorem dx_draw {mt : Bool} (d : Nat) : DX C h mt w { w with drawn := d } #[] := ⟨rfl, rfl, rfl, rfl, fun _ _ => rfl, RowKept.refl _ _, (fun e he => by simp at he), fun _ => rfl⟩
theorem KW.drew {W : World} (k : KW C W w) (d : Nat) : KW C W { w with drawn := d } := k.rely (RX.at Option.none w d)
end
section
variable {C : Cf}
/-- A stretch with one odd step. -/
theorem afterOdd {Nx : Th → Goroutine → World → Prop} {T' : Th} {g' : Goroutine} {w' : World} (hP : C.P = Try.prog) (hq : T'.pc ≠ .quit) (m M : Nat) (h : Goes Try.prog false (RX C Option.none) DC0 (OddAt Try.prog false (RX C Option.none) (DX C Option.none T'.mute) (Nx T') M) m g' w') : AfterW C Nx T' g' w' := by
  unfold AfterW
  rw [if_neg hq]
  exact ⟨m + M + 1, by rw [GoesW, hP]; exact goes_odd (fun w => RX.refl _ w) (fun _ _ _ x => dx_of_dc0 x) h⟩
/-- A silent stretch, an odd step, and on to the stop 'T'. -/
abbrev GO [Cap] (C : Cf) (k : Nat) (T : Th) (m M : Nat) (g : Goroutine) (w : World) : Prop := Goes Try.prog false (RX C Option.none) DC0 (OddAt Try.prog false (RX C Option.none) (DX C Option.none false) (WK C k T) M) m g w
end
end Go.Proofs.Ytpkiojchlficcaa.Crew

/- The crew's machine: the giver's step, but for the select: it walks, it waits, it passes a stop, it starts a worker. -/
import Derived.Test.YtpkiojchlficcaaStepW2
namespace Go.Proofs.Ytpkiojchlficcaa.Crew
open Go Go.Conc
open Go.ConcM (OsLater)
open Go.ConcN (RelBy)
open Go.ConcR (stA smA)
variable {C : Cf} {N : Nat} {Anch : Goroutine → World → Prop} {K B₀ : Nat} {t₀ : Trace} {w₀ : World}
variable {gs : Array Goroutine} {w : World} {sl : Option (Nat × Nat)} {G : GS} {own held : Nat → Option Nat} {φ : Nat → Nat} {t : Trace}
section
variable {M : Mp} {s : Sh} {r : Mp × Sh}
theorem mmv_nil (h : mmv M s = []) : (M = .w3 ∧ s.ws = 0) ∨ (∃ j, M = .go j) ∨ (∃ i, M = .gs i) ∨ M = .ret ∨ M = .bad := by
  cases M <;> simp only [mmv] at h
  case w3 =>
    split at h
    · exact .inl ⟨rfl, by assumption⟩
    · cases h
  case go j => exact .inr (.inl ⟨j, rfl⟩)
  case gs i => exact .inr (.inr (.inl ⟨i, rfl⟩))
  case ret => exact .inr (.inr (.inr (.inl rfl)))
  case bad => exact .inr (.inr (.inr (.inr rfl)))
  all_goals (exfalso; revert h; (repeat' split) <;> simp)
theorem mmv_stirs (hr : r ∈ mmv M s) : r.2.ms = s.ms ∧ r.2.sc = s.sc ∧ (s.pl = false → r.2.pl = true → M = .cp) ∧ (s.ws = 0 → r.2.ws = 0) := by
  cases M <;> simp only [mmv, List.not_mem_nil] at hr
  case cp => split at hr <;> simp at hr <;> subst hr <;> exact ⟨rfl, rfl, fun _ _ => rfl, id⟩
  case w3 => split at hr <;> simp at hr; subst hr; exact ⟨rfl, rfl, fun a b => absurd b (by simp [a]), fun a => by simp [a]⟩
  all_goals (
    have key : r.2.ms = s.ms ∧ r.2.sc = s.sc ∧ r.2.pl = s.pl ∧ r.2.ws = s.ws := by
      revert hr
      (repeat' split) <;> intro hr <;> simp at hr <;> subst hr <;> exact ⟨rfl, rfl, rfl, rfl⟩
    exact ⟨key.1, key.2.1, fun a b => absurd b (by rw [key.2.2.1, a]; simp), fun a => by rw [key.2.2.2, a]⟩)
theorem mmv_spawned {N : Nat} (hb : r.1 ≠ .bad) (hr : r ∈ mmv M s) : spawned N r.1 = spawned N M := by
  cases M <;> simp only [mmv, List.not_mem_nil] at hr
  case k2 j =>
    split at hr <;> simp at hr <;> subst hr
    · exact absurd rfl hb
    · simp only; split <;> rfl
  case w1 => simp at hr; subst hr; simp only; split <;> rfl
  case w2 c v =>
    split at hr
    · split at hr <;> simp at hr <;> subst hr
      · exact absurd rfl hb
      · rfl
    · simp at hr; subst hr; rfl
  case cp => split at hr <;> simp at hr <;> subst hr <;> first | exact absurd rfl hb | rfl
  case w4 => split at hr <;> simp at hr <;> subst hr <;> first | exact absurd rfl hb | rfl
  case w3 => split at hr <;> simp at hr; subst hr; rfl
  all_goals (simp at hr; subst hr; rfl)
end
theorem give_ne (n i : Nat) : give n i ≠ .bad := by rcases give_cases n i with ⟨_, e⟩ | ⟨_, e⟩ <;> rw [e] <;> simp
section
variable (F : Fixed C N K t₀ B₀) (hR : RowThere C w₀) (c : Ctx C N Anch K t₀ w₀ gs w G own held φ t)
include F hR c
/-- What the giver's step between stops, or at a stop, leaves: the trace apart. -/
theorem stepWalkM {g g' : Goroutine} (hi : gs[0]? = some g) {w' : World} {es : Array Event} {k n : Nat} (hk : rank N C.n G < k) (hφ : φ 0 = K * (n + 1) + 1) (hs : stepG C.P true g w = .go g' w' es) (hD : DX C Option.none false w w' es)
    (hG : GoesM C (Mk C N Anch k G.M) n g' w') :
    ∃ m' ops, runT C.P (crowd gs w sl) 0 = (.next m', ops) ∧ Adv C N Anch K t₀ w₀ gs G φ m' (t ++ ops) := by
  have hgb := F.gb
  have hlt : 0 < gs.size := (Array.getElem?_eq_some_iff.1 hi).1
  have hRw := hR.rx c.rx
  have hr0 : RX C Option.none w w' := hD.rx F.geo fun k e => by cases e
  have hsh := hD.shAt F.geo c.sh
  refine ⟨_, _, runT_crowd_go hi (show stepG C.P (0 == 0) g w = _ from hs), ?_⟩
  have hDf := Deaf_own t 0 g.frame.fn g.frame.place es
  rw [deaf_evD hD.ev] at hDf
  obtain ⟨φ', h1, h2⟩ := go_sits (K := K) F.gb c.sits (g := g) (g' := g') (w' := w') hi (fn := g.frame.fn) (pos := g.frame.place) (es := es) (G' := G) (held' := held) (fun _ => rfl) (fun _ _ => ⟨rfl, rfl⟩) rfl (Nat.le_refl _) hr0 (fun j' _ => hD.rx F.geo fun k e => by simp) hsh (Stirs.same _ _ _ _)
    (fun i hM => by have := c.ig.mok; simp only [hM, MOk] at this; exact this.2.2) (x := K * n + 1)
    ⟨fun _ => ⟨g', k, get_self (by simpa using hlt), hk, .walk hG⟩, fun h0 => by omega, fun j' hj' _ => by omega⟩
  have hK := c.sizeK F
  refine ⟨_, w', sl, G, own, held, φ', rfl, ⟨by simpa using c.size, c.ig, hsh, h1, fun l hl => ?_, by rw [hDf]; exact c.d0, ti_d F c.ti (.inl rfl) (fun i e => by cases e) hD.ev, c.hold, fun i hi => ?_, fun i hi => ?_, c.rx.trans hr0, fun j' hj' hm => ?_, c.apart.go (offers_running (by
    obtain ⟨k, rfl⟩ : ∃ k', k = k' + 1 := ⟨k - 1, by omega⟩
    exact goesM_running (fun _ _ y => y.1) hG))⟩, .inr ⟨rfl, ?_⟩⟩
  · rw [Deaf_events t (by simp at hl; omega)]; exact c.above l (by simpa using hl)
  · rcases c.done i hi with h | h
    · exact .inl h
    · right; unfold OutAt at h ⊢; rw [cell_kept hD.row hRw (by simp)]; exact h
  · obtain ⟨a, b⟩ := c.rest i hi
    refine ⟨a, ?_⟩
    rw [cell_kept hD.row hRw (i := i) (by simp)]
    exact b
  · obtain ⟨r, hr, hr0⟩ := c.rel j' hj' hm
    exact ⟨r, relOther (by omega) hr, hr0.1, fun e => (hr0.2 e).app _⟩
  · rw [hφ, Nat.mul_succ] at h2
    simp only [Array.size_setIfInBounds, Array.size_map] at h2 ⊢
    omega
omit hR in
/-- IT WAITS for the group. -/
theorem stepBlockM {g : Goroutine} (hi : gs[0]? = some g) {k : Nat} (hk : rank N C.n G < k + 1) (hM : G.M = .w3) (hws : G.s.ws = 0) (hφ : 0 < φ 0) (hst : ∀ w₁, RX C Option.none w w₁ → Mk C N Anch (k + 1) G.M g w₁) (hs : stepG C.P true g w = .go { g with status := .blocked } w #[]) :
    ∃ m' ops, runT C.P (crowd gs w sl) 0 = (.next m', ops) ∧ Adv C N Anch K t₀ w₀ gs G φ m' (t ++ ops) := by
  have hgb := F.gb
  have hlt : 0 < gs.size := (Array.getElem?_eq_some_iff.1 hi).1
  have hw : ¬ Wakes C.P g { g with status := .blocked } := fun h => h.2.1 rfl
  have hrun := runT_crowd_go (P := C.P) (sl := sl) hi (show stepG C.P (0 == 0) g w = _ from hs)
  rw [woken_none hw, Array.map_id, ofEvents_nil] at hrun
  have hW := hst w (RX.refl _ _)
  have hof : g.offers = Option.none := by
    have := hW.2; rw [hM] at this; exact this.1
  obtain ⟨h1, h2⟩ := set_sits (K := K) c.sits hlt (g' := { g with status := .blocked }) (x := 0)
    ⟨fun _ => ⟨_, k + 1, get_self hlt, hk, .blocked hM hws hW.1 hof hst⟩, fun h0 => by omega, fun j' hj' _ => by omega⟩
  refine ⟨_, _, hrun, _, w, sl, G, own, held, _, rfl, ⟨by simpa using c.size, c.ig, c.sh, by rw [Array.append_empty]; exact h1, fun l hl => ?_, by rw [Array.append_empty]; exact c.d0, by rw [Array.append_empty]; exact c.ti, c.hold, c.done, c.rest, c.rx, by rw [Array.append_empty]; exact c.rel, c.apart.set (offersAt_blocked hof)⟩, .inr ⟨rfl, by omega⟩⟩
  rw [Array.append_empty]; exact c.above l (by simpa using hl)
omit hR in
/-- IT PASSES A STOP. -/
theorem stepMoveM {g : Goroutine} (hi : gs[0]? = some g) {k : Nat} (hk : rank N C.n G < k + 1) (hW : StpM C N k Anch (Mk C N Anch k) G.M g w) (hne : mmv G.M G.s ≠ []) :
    ∃ m' ops, runT C.P (crowd gs w sl) 0 = (.next m', ops) ∧ Adv C N Anch K t₀ w₀ gs G φ m' (t ++ ops) := by
  have hgb := F.gb
  have hlt : 0 < gs.size := (Array.getElem?_eq_some_iff.1 hi).1
  have hW' : g.offers = Option.none ∧ (G.M.wakes = true → mayWake C.P g = true) ∧ ∀ s, ShAt C w s → s.Small →
    (mmv G.M s = [] → stepG C.P true g w = .go { g with status := .blocked } w #[]) ∧
    (mmv G.M s ≠ [] → ∃ r ∈ mmv G.M s, r.1 ≠ .bad → ∃ g' w' es, stepG C.P true g w = .go g' w' es ∧ ShAt C w' r.2 ∧ Eff C w w' ∧ EvStopM C G.M r.1 es ∧ AfterM C (Mk C N Anch k) r.1 g' w') := by
    have h := hW.2
    revert h hne
    cases G.M <;> intro hne h <;> first | exact h | exact absurd rfl hne
  obtain ⟨_, hwk, hstop⟩ := hW'
  obtain ⟨r, hr, hgo⟩ := (hstop G.s c.sh (c.ig.small F.n16)).2 hne
  have hstep : Step N C.n C.ok G { G with M := r.1, s := r.2 } := .main hr
  have hIG := c.ig.step hstep
  have hrk := hstep.down c.ig.each (fun j' e => by have := c.ig.mok; simp only [e, MOk] at this; exact this.1) (fun i e => by have := c.ig.mok; simp only [e, MOk] at this; exact ⟨this.1, this.2.1⟩)
  have hbad : r.1 ≠ .bad := fun e => by have := hIG.mok; simp only [e, MOk] at this
  obtain ⟨g', w', es, hs, hsh, heff, hev, m, hG⟩ := hgo hbad
  have hr0 : ∀ h, RX C h w w' := heff.rx F.geo hsh
  have hcell : ∀ i, w'.cell? ⟨C.tp.Out, i, Option.none⟩ = w.cell? ⟨C.tp.Out, i, Option.none⟩ := heap_row (heff.block _ F.geo.on F.geo.wg F.geo.pl F.geo.st)
  have hk0 : 0 < k := by omega
  have hrun' : g'.status = .running := by
    obtain ⟨k, rfl⟩ : ∃ k', k = k' + 1 := ⟨k - 1, by omega⟩
    exact goesM_running (fun _ _ y => y.1) hG
  have hws : G.M.wakes = true → Wakes C.P g g' := fun h => ⟨hwk h, by rw [hrun']; simp, by rw [hrun']; simp⟩
  obtain ⟨s1, s2, s3, s4⟩ := mmv_stirs hr
  have hstir : Stirs C.P g g' G.s r.2 := ⟨fun a b => absurd (s1.trans a) b, fun a b e => hws (by
    rcases e with e | e
    · simp [Mp.wakes, s3 a e]
    · rw [s2, b] at e; cases e), (fun a b => by rw [s2, a] at b; cases b), fun a b => absurd (s4 a) b⟩
  have hsp := mmv_spawned (N := N) hbad hr
  refine ⟨_, _, runT_crowd_go hi (show stepG C.P (0 == 0) g w = _ from hs), ?_⟩
  have hDf := Deaf_own t 0 g.frame.fn g.frame.place es
  have hdeaf : deafBehind (Deaf t 0) es = r.1.deaf := by
    rw [c.d0]
    revert hev hr
    cases e : G.M <;> intro hr hev <;> simp only [EvStopM] at hev <;> first
      | exact hev.2
      | (simp only [mmv] at hr; simp at hr; subst hr; rw [hev]; simp [Mp.deaf, deafBehind])
  rw [hdeaf] at hDf
  obtain ⟨φ', h1, h2⟩ := go_sits (K := K) F.gb c.sits (g := g) (g' := g') (w' := w') hi (fn := g.frame.fn) (pos := g.frame.place) (es := es) (G' := { G with M := r.1, s := r.2 }) (held' := held) (fun h => absurd rfl h) (fun _ _ => ⟨rfl, rfl⟩) hsp (Nat.le_of_lt hrk) (hr0 _) (fun j' _ => hr0 _) hsh hstir
    (fun i hM => by have := hIG.mok; simp only at hM; simp only [hM, MOk] at this; exact this.2.2) (x := K * m + 1)
    ⟨fun _ => ⟨g', k, get_self (by simpa using hlt), by omega, .walk hG⟩, fun h0 => by omega, fun j' hj' _ => by omega⟩
  have hti : TI C.tp C.B t₀ (t ++ MemOp.ofEvents 0 g.frame.fn g.frame.place es) own (spawned N G.M) := by
    have one : ∀ mk : Mark, (mk = .read (smA C.tp.Wg) ∨ mk = .write (smA C.tp.Wg) ∨ mk = .acquire (stA C.tp.Wg)) → TI C.tp C.B t₀ (t ++ MemOp.ofEvents 0 g.frame.fn g.frame.place #[⟨.mark mk, false, true⟩]) own (spawned N G.M) := by
      intro mk hmk
      refine c.ti.add F.past (sy_cel F.geo) (.inl rfl) (fun op hop => by obtain ⟨e, _, rfl⟩ := Go.Conc.mem_ofEvents hop; rfl) (fun op hop x hx => ?_) (fun op hop => ?_) (fun op hop => ?_)
      all_goals (
        obtain ⟨e, he, rfl⟩ := Go.Conc.mem_ofEvents hop
        simp at he
        subst he)
      · rcases hmk with rfl | rfl | rfl <;> simp [MemAct.ofEvent, MemAct.touch?] at hx <;> subst hx <;> exact .inr (.inl ⟨rfl, .inr rfl, rfl⟩)
      · rcases hmk with rfl | rfl | rfl <;> exact F.wg
      · rcases hmk with rfl | rfl | rfl <;> simp [MemAct.ofEvent]
    have all : ∀ M', EvStopM C M' r.1 es → TI C.tp C.B t₀ (t ++ MemOp.ofEvents 0 g.frame.fn g.frame.place es) own (spawned N G.M) := by
     intro M' hev
     cases M' <;> simp only [EvStopM] at hev
     case k3 => rw [hev]; exact one _ (.inl rfl)
     case wm => rw [hev]; exact one _ (.inr (.inl rfl))
     case aq => rw [hev]; exact one _ (.inr (.inr rfl))
     all_goals exact ti_sy F c.ti (.inl rfl) hev.1
    exact all _ hev
  refine ⟨_, w', sl, _, own, held, φ', rfl, ⟨by simpa [hsp] using c.size, hIG, hsh, h1, fun l hl => ?_, by rw [hDf], by simp only [hsp]; exact hti, fun j' i hh => by simp only [hsp]; exact c.hold j' i hh, fun i hi => ?_, fun i hi => ?_, c.rx.trans (hr0 _), fun j' hj' hm => ?_, c.apart.go (offers_running hrun')⟩, .inl hrk⟩
  · rw [Deaf_events t (by simp at hl; omega)]; exact c.above l (by simpa using hl)
  · rcases c.done i hi with h | h
    · exact .inl h
    · right; unfold OutAt at h ⊢; rw [hcell]; exact h
  · obtain ⟨a, b⟩ := c.rest i hi
    exact ⟨a, by rw [hcell]; exact b⟩
  · simp only [hsp] at hj'
    obtain ⟨r', hr', hr0'⟩ := c.rel j' hj' hm
    refine ⟨r', relOther (by omega) hr', hr0'.1, fun e => ?_⟩
    -- the giver has said that it acquires the group
    simp only at e
    have hMaq : G.M = .aq := by
      revert hr e
      generalize G.M = M'
      intro hr e
      cases M' <;> simp only [mmv, List.not_mem_nil] at hr
      case aq => rfl
      all_goals (exfalso; revert hr; (repeat' split) <;> intro hr <;> simp at hr <;> subst hr <;> first | (simp at e; done) | (simp only at e; split at e <;> simp at e))
    rw [hMaq] at hev
    simp only [EvStopM] at hev
    have hlt' : r' < t.size := lt_of_act? hr'.act
    have e1 : MemOp.ofEvents 0 g.frame.fn g.frame.place es = #[{ g := 0, fn := g.frame.fn, pos := g.frame.place, act := .mark (.acquire (stA C.tp.Wg)) }] := by rw [hev]; simp [MemOp.ofEvents, MemAct.ofEvent]
    rw [e1]
    exact ⟨t.size, hlt', by simp [Trace.act?], by simp [Trace.g?], 0, by simp [Trace.g?], by rw [deaf_old (Nat.le_refl _)]; have := c.d0; rw [hMaq] at this; exact this⟩
omit hR in
/-- IT STARTS A WORKER. -/
theorem stepSpawn {g : Goroutine} (hi : gs[0]? = some g) {k j : Nat} (hk : rank N C.n G < k + 1) (hM : G.M = .go j) (hW : GoM C N k (Mk C N Anch k) j g w) :
    ∃ m' ops, runT C.P (crowd gs w sl) 0 = (.next m', ops) ∧ Adv C N Anch K t₀ w₀ gs G φ m' (t ++ ops) := by
  have hgb := F.gb
  have hlt : 0 < gs.size := (Array.getElem?_eq_some_iff.1 hi).1
  have hmok := c.ig.mok
  simp only [hM, MOk] at hmok
  have hsize := c.size
  simp only [hM, spawned] at hsize
  obtain ⟨g', child, hs, hcr, ⟨m, hG⟩, mc, hGc⟩ := hW
  have hstep : Step N C.n C.ok G { G with M := if j + 1 < N then .k1 (j + 1) else give C.n 0, th := upd G.th j (at_ .sel) } := .spawn hM
  have hIG := c.ig.step hstep
  have hrk := hstep.down c.ig.each (fun j' e => by have := c.ig.mok; simp only [e, MOk] at this; exact this.1) (fun i e => by have := c.ig.mok; simp only [e, MOk] at this; exact ⟨this.1, this.2.1⟩)
  have hsp : spawned N (if j + 1 < N then Mp.k1 (j + 1) else give C.n 0) = j + 1 := by
    split
    · rfl
    · rcases give_cases C.n 0 with ⟨_, e⟩ | ⟨_, e⟩ <;> rw [e] <;> simp [spawned] <;> omega
  have hdf : (if j + 1 < N then Mp.k1 (j + 1) else give C.n 0).deaf = 0 := by
    split
    · rfl
    · rcases give_cases C.n 0 with ⟨_, e⟩ | ⟨_, e⟩ <;> rw [e] <;> rfl
  have hnpl : ∀ i, (if j + 1 < N then Mp.k1 (j + 1) else give C.n 0) = .gs i → G.s.pl = false := fun i e => hmok.2.2
  have hrun := runT_crowd_spawn (P := C.P) (sl := sl) hi (show stepG C.P (0 == 0) g w = _ from hs)
  rw [ofEvents_nil] at hrun
  refine ⟨_, _, hrun, ?_⟩
  have hops : ((#[] : Array MemOp).push { g := 0, fn := g.frame.fn, pos := g.frame.place, act := .go gs.size }).push { g := gs.size, fn := child.frame.fn, pos := g.frame.place, act := .start } = #[{ g := 0, fn := g.frame.fn, pos := g.frame.place, act := .go gs.size }, { g := gs.size, fn := child.frame.fn, pos := g.frame.place, act := .start }] := rfl
  rw [hops]
  generalize hx : ({ g := 0, fn := g.frame.fn, pos := g.frame.place, act := .go gs.size } : MemOp) = x
  generalize hy : ({ g := gs.size, fn := child.frame.fn, pos := g.frame.place, act := .start } : MemOp) = y
  have hx1 : x.g = 0 ∧ x.act = .go (C.tp.gb + j) := by subst hx; exact ⟨rfl, by rw [hsize]⟩
  have hy1 : y.g = C.tp.gb + j ∧ y.act = .start := by subst hy; exact ⟨hsize, rfl⟩
  have hD : ∀ l, Deaf (t ++ #[x, y]) l = Deaf t l := by
    intro l
    have := Deaf_append t l [x, y]
    rw [this]
    simp [deafStep, hx1.2, hy1.2]
  have hsz' : ((gs.setIfInBounds 0 g').push child).size = gs.size + 1 := by simp
  have old : ∀ l, l ≠ 0 → l < gs.size → ((gs.setIfInBounds 0 g').push child)[l]? = gs[l]? := by
    intro l h0 hl
    rw [Array.getElem?_push, if_neg (by simp; omega), Array.getElem?_setIfInBounds_ne (Ne.symm h0)]
  have hK := c.sizeK F
  refine ⟨_, w, sl, { G with M := if j + 1 < N then .k1 (j + 1) else give C.n 0, th := upd G.th j (at_ .sel) }, own, held, fun l => if l = 0 then K * m + 1 else if l = gs.size then K * mc + 1 else φ l, rfl, ⟨?_, hIG, c.sh, fun l hl => ?_, fun l hl => ?_, ?_, ?_, fun j' i hh => ?_, c.done, c.rest, c.rx, fun j' hj' hm => ?_, (c.apart.set (offers_running (by
    obtain ⟨k, rfl⟩ : ∃ k', k = k' + 1 := ⟨k - 1, by omega⟩
    exact goesM_running (fun _ _ y => y.1) hG))).push (offers_running hcr)⟩, .inl hrk⟩
  · simp only [hsp]; rw [hsz', hsize]; omega
  · rw [hsz'] at hl
    refine ⟨fun h0 => ?_, fun h0 hlg => ?_, fun j' hj' hjs => ?_⟩
    · subst h0
      simp only [if_true]
      refine ⟨g', k, ?_, by omega, .walk hG⟩
      rw [Array.getElem?_push, if_neg (by simp; omega)]
      exact get_self hlt
    · have hl' : l < gs.size := by omega
      simp only [if_neg (show l ≠ 0 by omega), if_neg (show l ≠ gs.size by omega)]
      obtain ⟨a, q, ha, hq, hQ⟩ := (c.sits l hl').old h0 hlg
      exact ⟨a, q, by rw [old l (by omega) hl']; exact ha, hq, by rw [hD]; exact hQ⟩
    · subst hj'
      simp only [hsp] at hjs
      simp only [if_neg (show C.tp.gb + j' ≠ 0 by omega)]
      by_cases e : j' = j
      · subst e
        have hnone : held j' = Option.none := by
          cases hh : held j' with
          | none => rfl
          | some i => have := (c.hold j' i hh).2.2; simp only [hM, spawned] at this; omega
        refine ⟨child, k, Option.none, (at_ .sel).deaf, ?_, by omega, hnone.symm, ?_, ?_⟩
        · rw [Array.getElem?_push, if_pos (by simp [hsize])]
        · rw [hD, c.above _ (by omega)]; rfl
        · simp only [upd_same, if_pos hsize.symm]
          exact .walk (by simp) (goes_mono (fun _ _ _ x => x) (fun _ _ y => ⟨(fun i e => by cases e), y⟩) hGc)
      · have hl' : C.tp.gb + j' < gs.size := by omega
        obtain ⟨a, k', h, d, ha, hk', hh, hd, hWs⟩ := (c.sits _ hl').work j' rfl (by simp only [hM, spawned]; omega)
        simp only [upd_ne _ _ e, if_neg (show C.tp.gb + j' ≠ gs.size by omega)]
        exact ⟨a, k', h, d, by rw [old _ (by omega) hl']; exact ha, by omega, hh, by rw [hD]; exact hd, hWs⟩
  · rw [hD]; exact c.above l (by rw [hsz'] at hl; omega)
  · rw [hD, c.d0, hM, hdf]; rfl
  · simp only [hsp]
    have hti := c.ti
    simp only [hM, spawned] at hti
    exact hti.spawn hx1 hy1 (by rw [c.d0, hM]; rfl) (c.above _ (by omega))
  · obtain ⟨a, b, d⟩ := c.hold j' i hh
    simp only [hM, spawned] at d
    exact ⟨a, b, by simp only [hsp]; omega⟩
  · simp only [hsp] at hj'
    by_cases e : j' = j
    · subst e; simp only [upd_same] at hm; cases hm
    · simp only [upd_ne _ _ e] at hm
      obtain ⟨r, hr, hr0⟩ := c.rel j' (by simp only [hM, spawned]; omega) hm
      exact ⟨r, relBy_none hr (fun op hop => by
        simp at hop
        rcases hop with rfl | rfl
        · rw [hx1.2]; rfl
        · rw [hy1.2]; rfl), hr0.1, fun e => by
          simp only at e
          split at e
          · cases e
          · exact absurd e (give_ret _ _)⟩
end
end Go.Proofs.Ytpkiojchlficcaa.Crew

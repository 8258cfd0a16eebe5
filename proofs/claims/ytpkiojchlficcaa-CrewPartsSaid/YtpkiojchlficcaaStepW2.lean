/- The crew's machine: a worker's step, but for the selects: it walks, it waits, it passes a stop, it leaves. -/
import Derived.Test.YtpkiojchlficcaaStepW
namespace Go.Proofs.Ytpkiojchlficcaa.Crew
open Go Go.Conc
open Go.ConcM (OsLater)
open Go.ConcN (RelBy)
open Go.ConcR (stA smA)
theorem norel_mute {e : Event} (h : e.mute = true) (a : Addr) : MemAct.ofEvent e ≠ .mark (.release a) := by
  obtain ⟨loc, wr, sy⟩ := e
  cases loc <;> simp_all [Event.mute]
  rename_i m
  cases m <;> simp_all [MemAct.ofEvent]
theorem goes_mono {P : Program} {main : Bool} {R : World → World → Prop} {D D' : World → World → Array Event → Prop} {Stop Stop' : Goroutine → World → Prop} (hD : ∀ w w' es, D w w' es → D' w w' es) (hS : ∀ g w, Stop g w → Stop' g w) :
    ∀ {n : Nat} {g : Goroutine} {w : World}, Goes P main R D Stop n g w → Goes P main R D' Stop' n g w
  | 0, _, _, h => fun w₁ r => hS _ _ (h w₁ r)
  | n + 1, g, w, h => by
    rcases h with h | ⟨hs, h⟩
    · exact .inl fun w₁ r => hS _ _ (h w₁ r)
    · refine .inr ⟨hs, fun w₁ r => ?_⟩
      have := h w₁ r
      revert this
      cases stepG P main g w₁ <;> simp only [GStep.goes, imp_self]
      exact fun ⟨d, x⟩ => ⟨hD _ _ _ d, goes_mono hD hS x⟩
/-- The machine goes on: the rank falls, or the fuel. -/
def Adv (C : Cf) (N : Nat) (Anch : Goroutine → World → Prop) (K : Nat) (t₀ : Trace) (w₀ : World) (gs : Array Goroutine) (G : GS) (φ : Nat → Nat) (m' : Machine) (T' : Trace) : Prop :=
  ∃ gs' w' sl' G' own' held' φ', m' = crowd gs' w' sl' ∧ Ctx C N Anch K t₀ w₀ gs' w' G' own' held' φ' T' ∧ (rank N C.n G' < rank N C.n G ∨ (rank N C.n G' = rank N C.n G ∧ sm gs'.size φ' < sm gs.size φ))
variable {C : Cf} {N : Nat} {Anch : Goroutine → World → Prop} {K B₀ : Nat} {t₀ : Trace} {w₀ : World}
variable {gs : Array Goroutine} {w : World} {sl : Option (Nat × Nat)} {G : GS} {own held : Nat → Option Nat} {φ : Nat → Nat} {t : Trace}
/-- The row that is written is a row of cells. -/
def RowThere (C : Cf) (w : World) : Prop := ∃ cs ty f, w.heap[C.tp.Out]? = some (.cells cs ty f)
theorem cell_kept {w w' : World} {h : Nat → Prop} (r : RowKept C h w w') (hb : RowThere C w) {i : Nat} (hi : h i) : w'.cell? ⟨C.tp.Out, i, Option.none⟩ = w.cell? ⟨C.tp.Out, i, Option.none⟩ := by
  obtain ⟨cs, ty, f, e⟩ := hb
  obtain ⟨cs', e', _, k⟩ := r cs ty f e
  simp only [World.cell?, e, e']
  exact k i hi
theorem RowThere.rx {w w' : World} {h : Option Nat} (x : RowThere C w) (r : RX C h w w') : RowThere C w' := by
  obtain ⟨cs, ty, f, e⟩ := x
  obtain ⟨cs', e', _, _⟩ := r.row cs ty f e
  exact ⟨cs', ty, f, e'⟩
theorem heap_row {w w' : World} (e : w'.heap[C.tp.Out]? = w.heap[C.tp.Out]?) (i : Nat) : w'.cell? ⟨C.tp.Out, i, Option.none⟩ = w.cell? ⟨C.tp.Out, i, Option.none⟩ := by simp only [World.cell?, e]
theorem beq_zero_false {i : Nat} (h : 0 < i) : (i == 0) = false := by simp; omega
section
variable (F : Fixed C N K t₀ B₀) (hR : RowThere C w₀) (c : Ctx C N Anch K t₀ w₀ gs w G own held φ t)
include F c
theorem Ctx.sizeK : gs.size + 2 ≤ K := by
  have := c.size; have := spawned_le c.ig; have := F.kk; omega
omit F in
theorem Ctx.heldApart {j j' : Nat} (hne : j' ≠ j) : ∀ k, held j' = some k → held j ≠ some k := by
  intro k h1 h2
  have a := (c.hold j' k h1).1
  have b := (c.hold j k h2).1
  rw [a] at b
  exact hne (Option.some.inj b)
omit F c in
/-- Somebody's release stands behind a step of another's. -/
theorem relOther {i : Nat} {fn : FuncId} {pos : String} {es : Array Event} {j r : Nat} (hne : i ≠ C.tp.gb + j) (h : RelBy (stA C.tp.Wg) t (C.tp.gb + j) r) : RelBy (stA C.tp.Wg) (t ++ MemOp.ofEvents i fn pos es) (C.tp.gb + j) r :=
  Go.ConcN.RelBy.appOther h (fun op hop => by obtain ⟨e, _, rfl⟩ := Go.Conc.mem_ofEvents hop; rfl) hne
include hR in
/-- IT WALKS ON, between stops. -/
theorem stepWalkW {j : Nat} (hj : j < spawned N G.M) {g g' : Goroutine} (hi : gs[C.tp.gb + j]? = some g) {w' : World} {es : Array Event} {k n : Nat} (hk : rank N C.n G < k) (hq : (G.th j).pc ≠ .quit)
    (hd : (G.th j).deaf = Deaf t (C.tp.gb + j)) (hφ : φ (C.tp.gb + j) = K * (n + 1) + 1) (hs : stepG C.P false g w = .go g' w' es) (hD : DX C (held j) (G.th j).mute w w' es)
    (hG : GoesW C (held j) (G.th j).mute (fun g w => (∀ i, held j = some i → OutAt C w i (C.val i)) ∧ Wk C k (G.th j) g w) n g' w') :
    ∃ m' ops, runT C.P (crowd gs w sl) (C.tp.gb + j) = (.next m', ops) ∧ Adv C N Anch K t₀ w₀ gs G φ m' (t ++ ops) := by
  have hgb := F.gb
  have hlt : C.tp.gb + j < gs.size := (Array.getElem?_eq_some_iff.1 hi).1
  have hRw := hR.rx c.rx
  have hr0 : RX C Option.none w w' := hD.rx F.geo fun k e => by cases e
  have hrj : ∀ j', C.tp.gb + j ≠ C.tp.gb + j' → RX C (held j') w w' := fun j' hne => hD.rx F.geo (c.heldApart (by omega))
  have hsh := hD.shAt F.geo c.sh
  have hown : ∀ i, held j = some i → ∃ j', C.tp.gb + j = C.tp.gb + j' ∧ own i = some j' := fun i e => ⟨j, rfl, (c.hold j i e).1⟩
  refine ⟨_, _, runT_crowd_go hi (by rw [beq_zero_false (by omega)]; exact hs), ?_⟩
  have hDf := Deaf_own t (C.tp.gb + j) g.frame.fn g.frame.place es
  rw [deaf_evD hD.ev] at hDf
  obtain ⟨φ', h1, h2⟩ := go_sits (K := K) F.gb c.sits (g := g) (g' := g') (w' := w') hi (fn := g.frame.fn) (pos := g.frame.place) (es := es) (G' := G) (held' := held) (fun _ => rfl) (fun _ _ => ⟨rfl, rfl⟩) rfl (Nat.le_refl _) hr0 hrj hsh (Stirs.same _ _ _ _)
    (fun i hM => by have := c.ig.mok; simp only [hM, MOk] at this; exact this.2.2) (x := K * n + 1)
    ⟨fun h0 => by omega, fun _ h0 => by omega, fun j' hj' _ => by
      obtain rfl : j' = j := by omega
      exact ⟨g', k, held j', (G.th j').deaf, get_self (by simpa using hlt), hk, rfl, by rw [hDf]; exact hd, .walk hq hG⟩⟩
  have hK := c.sizeK F
  refine ⟨_, w', sl, G, own, held, φ', rfl, ⟨by simpa using c.size, c.ig, hsh, h1, fun l hl => ?_, ?_, ti_d F c.ti (.inr ⟨j, hj, rfl⟩) hown hD.ev, c.hold, fun i hi => ?_, fun i hi => ?_, c.rx.trans hr0, fun j' hj' hm => ?_, c.apart.go (offers_running (by
    obtain ⟨k, rfl⟩ : ∃ k', k = k' + 1 := ⟨k - 1, by omega⟩
    exact goesW_running (fun _ _ y => y.2.1) hG))⟩, .inr ⟨rfl, ?_⟩⟩
  · rw [Deaf_events t (by simp at hl; omega)]; exact c.above l (by simpa using hl)
  · rw [Deaf_events t (by omega)]; exact c.d0
  · rcases c.done i hi with h | h
    · exact .inl h
    · by_cases hh : held j = some i
      · exact .inl ⟨j, hh⟩
      · right; unfold OutAt at h ⊢; rw [cell_kept hD.row hRw hh]; exact h
  · obtain ⟨a, b⟩ := c.rest i hi
    refine ⟨a, ?_⟩
    rw [cell_kept hD.row hRw (i := i) (fun e => by have := (c.hold j i e).1; rw [a] at this; cases this)]
    exact b
  · obtain ⟨r, hr, hr0⟩ := c.rel j' hj' hm
    refine ⟨r, ?_, hr0.1, fun e => (hr0.2 e).app _⟩
    by_cases hjj : j' = j
    · subst hjj
      rw [hD.still hm]
      have : MemOp.ofEvents (C.tp.gb + j') g.frame.fn g.frame.place #[] = #[] := by simp [MemOp.ofEvents]
      rw [this, Array.append_empty]; exact hr
    · exact relOther (by omega) hr
  · rw [hφ, Nat.mul_succ] at h2
    simp only [Array.size_setIfInBounds, Array.size_map] at h2 ⊢
    omega
omit F c in
theorem ofEvents_nil (i : Nat) (fn : FuncId) (pos : String) : MemOp.ofEvents i fn pos #[] = #[] := by simp [MemOp.ofEvents]
omit F c in
theorem woken_none {P : Program} {g g' : Goroutine} {w' : World} (h : ¬ Wakes P g g') : woken P g g' w' = id := by
  funext o
  rcases woken_cases P g g' o w' with ⟨x, _⟩ | x
  · exact absurd x h
  · exact x
omit F c in
/-- Number i alone is laid anew. -/
theorem set_sits (hsize : ∀ l, l < gs.size → Sits C N Anch K gs w G held t l (φ l)) {i : Nat} (hlt : i < gs.size) {g' : Goroutine} {x : Nat} (mine : Sits C N Anch K (gs.setIfInBounds i g') w G held t i x) :
    (∀ l, l < (gs.setIfInBounds i g').size → Sits C N Anch K (gs.setIfInBounds i g') w G held t l (upd φ i x l)) ∧ sm (gs.setIfInBounds i g').size (upd φ i x) + φ i = sm gs.size φ + x := by
  have hsz : (gs.setIfInBounds i g').size = gs.size := by simp
  rw [hsz]
  refine ⟨fun l hl => ?_, sm_upd φ x (fun y => y) hlt⟩
  by_cases hli : l = i
  · subst hli; rw [upd_same]; exact mine
  · rw [upd_ne _ _ hli]
    have hS := hsize l hl
    have e : (gs.setIfInBounds i g')[l]? = gs[l]? := Array.getElem?_setIfInBounds_ne (Ne.symm hli)
    exact ⟨fun h0 => by subst h0; rw [e]; exact hS.main rfl, fun a b => by rw [e]; exact hS.old a b, fun j a b => by rw [e]; exact hS.work j a b⟩
/-- IT WAITS at the mutex's semaphore. -/
theorem stepBlockW {j : Nat} (hj : j < spawned N G.M) {g : Goroutine} (hi : gs[C.tp.gb + j]? = some g) {k : Nat} (hk : rank N C.n G < k) (hp : (G.th j).pc = .s1) (hms : G.s.ms = 0) (hd : (G.th j).deaf = Deaf t (C.tp.gb + j)) (hφ : 0 < φ (C.tp.gb + j))
    (hst : ∀ w₁, RX C (held j) w w₁ → (∀ i, held j = some i → OutAt C w₁ i (C.val i)) ∧ Wk C k (G.th j) g w₁) (hs : stepG C.P false g w = .go { g with status := .blocked } w #[]) :
    ∃ m' ops, runT C.P (crowd gs w sl) (C.tp.gb + j) = (.next m', ops) ∧ Adv C N Anch K t₀ w₀ gs G φ m' (t ++ ops) := by
  have hgb := F.gb
  have hlt : C.tp.gb + j < gs.size := (Array.getElem?_eq_some_iff.1 hi).1
  have hw : ¬ Wakes C.P g { g with status := .blocked } := fun h => h.2.1 rfl
  have hrun := runT_crowd_go (P := C.P) (sl := sl) hi (by rw [beq_zero_false (by omega)]; exact hs)
  rw [woken_none hw, Array.map_id, ofEvents_nil] at hrun
  obtain ⟨k, rfl⟩ : ∃ k', k = k' + 1 := ⟨k - 1, by omega⟩
  obtain ⟨hout, hW⟩ := hst w (RX.refl _ _)
  have hof : g.offers = Option.none := (hW.2.2 (by rw [hp]; simp)).1
  obtain ⟨h1, h2⟩ := set_sits (K := K) c.sits hlt (g' := { g with status := .blocked }) (x := 0)
    ⟨fun h0 => by omega, fun _ h0 => by omega, fun j' hj' _ => by
      obtain rfl : j' = j := by omega
      exact ⟨_, k + 1, held j', _, get_self hlt, hk, rfl, hd, .blocked hp hms hW.1 hof hst⟩⟩
  refine ⟨_, _, hrun, _, w, sl, G, own, held, _, rfl, ⟨by simpa using c.size, c.ig, c.sh, by rw [Array.append_empty]; exact h1, fun l hl => ?_, by rw [Array.append_empty]; exact c.d0, by rw [Array.append_empty]; exact c.ti, c.hold, c.done, c.rest, c.rx, by rw [Array.append_empty]; exact c.rel, c.apart.set (offersAt_blocked hof)⟩, .inr ⟨rfl, by omega⟩⟩
  rw [Array.append_empty]; exact c.above l (by simpa using hl)
include hR in
/-- IT PASSES A STOP. -/
theorem stepMoveW {j : Nat} (hj : j < spawned N G.M) {g : Goroutine} (hi : gs[C.tp.gb + j]? = some g) {k : Nat} (hk : rank N C.n G < k + 1) (hp : (G.th j).pc ≠ .sel) (hq : (G.th j).pc ≠ .quit) (hd : (G.th j).deaf = Deaf t (C.tp.gb + j))
    (hout : ∀ i, held j = some i → OutAt C w i (C.val i)) (hW : StpW C (Wk C k) (G.th j) g w) (hne : wmv (G.th j) G.s ≠ []) :
    ∃ m' ops, runT C.P (crowd gs w sl) (C.tp.gb + j) = (.next m', ops) ∧ Adv C N Anch K t₀ w₀ gs G φ m' (t ++ ops) := by
  have hgb := F.gb
  have hlt : C.tp.gb + j < gs.size := (Array.getElem?_eq_some_iff.1 hi).1
  have hjN : j < N := Nat.lt_of_lt_of_le hj (spawned_le c.ig)
  have hRw := hR.rx c.rx
  obtain ⟨_, hwk, hstop⟩ := hW.2.2 hp
  obtain ⟨r, hr, hgo⟩ := (hstop G.s c.sh (c.ig.small F.n16)).2 hne
  have hstep : Step N C.n C.ok G { G with th := upd G.th j r.1, s := r.2 } := .work hjN hr
  have hIG := c.ig.step hstep
  have hrk := hstep.down c.ig.each (fun j' e => by have := c.ig.mok; simp only [e, MOk] at this; exact this.1) (fun i e => by have := c.ig.mok; simp only [e, MOk] at this; exact ⟨this.1, this.2.1⟩)
  have hme : ThOk r.1 r.2 := by have := hIG.each j hjN; simpa only [upd_same] using this
  obtain ⟨g', w', es, hs, hsh, heff, hev, haft⟩ := hgo (fun e => by rw [ThOk] at hme; simp only [e] at hme)
  have hr0 : ∀ h, RX C h w w' := heff.rx F.geo hsh
  have hcell : ∀ i, w'.cell? ⟨C.tp.Out, i, Option.none⟩ = w.cell? ⟨C.tp.Out, i, Option.none⟩ := heap_row (heff.block _ F.geo.on F.geo.wg F.geo.pl F.geo.st)
  have hk0 : 0 < k := by omega
  -- it runs on
  have hrun' : g'.status = .running ∨ g'.status = .finished := by
    unfold AfterW at haft
    split at haft
    · obtain ⟨q, hQ⟩ := haft; exact hQ.status
    · obtain ⟨m, hG⟩ := haft
      obtain ⟨k, rfl⟩ : ∃ k', k = k' + 1 := ⟨k - 1, by omega⟩
      exact .inl (goesW_running (fun _ _ y => y.1) hG)
  have hws : (G.th j).wakes = true → Wakes C.P g g' := fun h => ⟨hwk h, by rcases hrun' with e | e <;> rw [e] <;> simp, by rcases hrun' with e | e <;> rw [e] <;> simp⟩
  obtain ⟨s1, s2, s3, s4⟩ := wmv_stirs hr
  have hstir : Stirs C.P g g' G.s r.2 := ⟨fun a b => hws (by simp [Th.wakes, s1 a b]), fun a b e => hws (by rw [s2, a] at e; simp [Th.wakes, s3 b (by simpa using e)]), fun a b => hws (by simp [Th.wakes, s3 a b]), fun a b => hws (by simp [Th.wakes, s4 a b])⟩
  refine ⟨_, _, runT_crowd_go hi (by rw [beq_zero_false (by omega)]; exact hs), ?_⟩
  have hDf := Deaf_own t (C.tp.gb + j) g.frame.fn g.frame.place es
  have hdeaf : deafBehind (Deaf t (C.tp.gb + j)) es = r.1.deaf := by
    rw [← hd]
    unfold EvStopW at hev
    split at hev
    · rename_i e
      obtain ⟨e1, e2⟩ : r.1 = at_ .wk ∧ r.2 = G.s := by
        have hr' := hr
        unfold wmv at hr'
        simp only [e] at hr'
        simp at hr'
        rw [hr']; exact ⟨rfl, rfl⟩
      rw [hev, e1]
      simp [Th.deaf, e, deafBehind]
    · exact hev.2.1
  rw [hdeaf] at hDf
  -- its new situation
  obtain ⟨x, hmine⟩ : ∃ x, WSit C K k r.1 r.2 Option.none x r.1.deaf g' w' := by
    unfold AfterW at haft
    split at haft
    · rename_i e
      obtain ⟨q, hQ⟩ := haft
      refine ⟨K * q, .quit e ?_⟩
      have : r.1.deaf = 1 := by simp [Th.deaf, e]
      rw [this]; exact hQ
    · rename_i e
      obtain ⟨m, hG⟩ := haft
      exact ⟨K * m + 1, .walk e (goes_mono (fun _ _ _ x => x) (fun _ _ y => ⟨(fun i e => by cases e), y⟩) hG)⟩
  have hth : ∀ j', C.tp.gb + j ≠ C.tp.gb + j' → upd G.th j r.1 j' = G.th j' ∧ upd held j Option.none j' = held j' := fun j' h => ⟨upd_ne _ _ (by omega), upd_ne _ _ (by omega)⟩
  obtain ⟨φ', h1, h2⟩ := go_sits (K := K) F.gb c.sits (g := g) (g' := g') (w' := w') hi (fn := g.frame.fn) (pos := g.frame.place) (es := es) (G' := { G with th := upd G.th j r.1, s := r.2 }) (held' := upd held j Option.none) (fun _ => rfl) hth rfl (Nat.le_of_lt hrk) (hr0 _) (fun j' _ => hr0 _) hsh hstir
    (fun i hM => by have := hIG.mok; simp only at hM; simp only [hM, MOk] at this; exact this.2.2) (x := x)
    ⟨fun h0 => by omega, fun _ h0 => by omega, fun j' hj' _ => by
      obtain rfl : j' = j := by omega
      refine ⟨g', k, Option.none, r.1.deaf, get_self (by simpa using hlt), by omega, by simp only [upd_same], by rw [hDf], ?_⟩
      simp only [upd_same]; exact hmine⟩
  have hg : C.tp.gb + j = 0 ∨ ∃ j', j' < spawned N G.M ∧ C.tp.gb + j = C.tp.gb + j' := .inr ⟨j, hj, rfl⟩
  have hti : TI C.tp C.B t₀ (t ++ MemOp.ofEvents (C.tp.gb + j) g.frame.fn g.frame.place es) own (spawned N G.M) := by
    unfold EvStopW at hev
    split at hev
    · rw [hev]
      refine c.ti.add F.past (sy_cel F.geo) hg (fun op hop => by obtain ⟨e, _, rfl⟩ := Go.Conc.mem_ofEvents hop; rfl) (fun op hop x hx => ?_) (fun op hop => ?_) (fun op hop => ?_)
      all_goals (
        obtain ⟨e, he, rfl⟩ := Go.Conc.mem_ofEvents hop
        simp at he
        subst he)
      · simp [MemAct.ofEvent, MemAct.touch?] at hx
      · exact F.wg
      · simp [MemAct.ofEvent]
    · exact ti_sy F c.ti hg hev.1
  refine ⟨_, w', sl, _, own, upd held j Option.none, φ', rfl, ⟨by simpa using c.size, hIG, hsh, h1, fun l hl => ?_, ?_, hti, fun j' i hh => ?_, fun i hi => ?_, fun i hi => ?_, c.rx.trans (hr0 _), fun j' hj' hm => ?_, c.apart.go fun r b => offersAt_of_not_blocked (by rcases hrun' with e | e <;> rw [e] <;> simp) r b⟩, .inl hrk⟩
  · rw [Deaf_events t (by simp at hl; omega)]; exact c.above l (by simpa using hl)
  · rw [Deaf_events t (by omega)]; exact c.d0
  · by_cases e : j' = j
    · subst e; rw [upd_same] at hh; cases hh
    · rw [upd_ne _ _ e] at hh; exact c.hold j' i hh
  · rcases c.done i hi with ⟨j', h⟩ | h
    · by_cases e : j' = j
      · subst e; right; have := hout i h; unfold OutAt at this ⊢; rw [hcell]; exact this
      · exact .inl ⟨j', by rw [upd_ne _ _ e]; exact h⟩
    · right; unfold OutAt at h ⊢; rw [hcell]; exact h
  · obtain ⟨a, b⟩ := c.rest i hi
    exact ⟨a, by rw [hcell]; exact b⟩
  · simp only at hm
    by_cases e : j' = j
    · subst e
      rw [upd_same] at hm
      rcases mute_turn hr hm with h | h
      · obtain ⟨r', hr', hr0'⟩ := c.rel j' hj h
        refine ⟨r', ?_, hr0'.1, fun e => (hr0'.2 e).app _⟩
        refine Go.ConcN.RelBy.appOwn hr' _ _ _ fun i e he => ?_
        unfold EvStopW at hev
        rw [if_neg (by intro hx; simp [Th.mute, hx] at h)] at hev
        rw [← hd]
        exact hev.2.2 h i e he
      · unfold EvStopW at hev
        rw [if_pos h] at hev
        rw [hev]
        refine ⟨t.size, Go.ConcN.RelBy.new (by rw [← hd]; simp [Th.deaf, h]) _ _, c.ti.le, fun e => absurd (c.ig.gone (.inr (.inr e)) hjN) hq⟩
    · rw [upd_ne _ _ e] at hm
      obtain ⟨r', hr', hr0'⟩ := c.rel j' hj' hm
      exact ⟨r', relOther (by omega) hr', hr0'.1, fun e => (hr0'.2 e).app _⟩
/-- IT LEAVES. -/
theorem stepQuitW {j : Nat} (hj : j < spawned N G.M) {g : Goroutine} (hi : gs[C.tp.gb + j]? = some g) {k : Nat} (hk : rank N C.n G < k) {q : Nat} (hq : (G.th j).pc = .quit) (hh : held j = Option.none) (hφ : φ (C.tp.gb + j) = K * q) (hQ : QuitsD C.P q (Deaf t (C.tp.gb + j)) g) (hrun : g.status = .running) :
    ∃ m' ops, runT C.P (crowd gs w sl) (C.tp.gb + j) = (.next m', ops) ∧ Adv C N Anch K t₀ w₀ gs G φ m' (t ++ ops) := by
  have hgb := F.gb
  have hlt : C.tp.gb + j < gs.size := (Array.getElem?_eq_some_iff.1 hi).1
  cases q with
  | zero => rw [hQ.1] at hrun; cases hrun
  | succ q =>
    rcases hQ with ⟨hf, _⟩ | ⟨_, g', es, hm, hst, hQ'⟩
    · rw [hf] at hrun; cases hrun
    refine ⟨_, _, runT_crowd_go hi (by rw [beq_zero_false (by omega)]; exact hst w), ?_⟩
    have hDf := Deaf_own t (C.tp.gb + j) g.frame.fn g.frame.place es
    obtain ⟨φ', h1, h2⟩ := go_sits (K := K) F.gb c.sits (g := g) (g' := g') (w' := w) hi (fn := g.frame.fn) (pos := g.frame.place) (es := es) (G' := G) (held' := held) (fun _ => rfl) (fun _ _ => ⟨rfl, rfl⟩) rfl (Nat.le_refl _) (RX.refl _ _) (fun _ _ => RX.refl _ _) c.sh (Stirs.same _ _ _ _)
      (fun i hM => by have := c.ig.mok; simp only [hM, MOk] at this; exact this.2.2) (x := K * q)
      ⟨fun h0 => by omega, fun _ h0 => by omega, fun j' hj' _ => by
        obtain rfl : j' = j := by omega
        exact ⟨g', k, Option.none, _, get_self (by simpa using hlt), hk, hh.symm, rfl, .quit hq (by rw [hDf]; exact hQ')⟩⟩
    have hK := c.sizeK F
    have hx : ∀ op ∈ MemOp.ofEvents (C.tp.gb + j) g.frame.fn g.frame.place es, op.act.touch? = Option.none := fun op hop => by obtain ⟨e, he, rfl⟩ := Go.Conc.mem_ofEvents hop; exact touch_mute (hm e he)
    refine ⟨_, w, sl, G, own, held, φ', rfl, ⟨by simpa using c.size, c.ig, c.sh, h1, fun l hl => ?_, ?_, c.ti.none hx (fun op hop => by obtain ⟨e, he, rfl⟩ := Go.Conc.mem_ofEvents hop; exact low_mute (hm e he) _) (fun op hop => ?_), c.hold, c.done, c.rest, c.rx, fun j' hj' hmu => ?_, c.apart.go (quits_offers hQ')⟩, .inr ⟨rfl, ?_⟩⟩
    · rw [Deaf_events t (by simp at hl; omega)]; exact c.above l (by simpa using hl)
    · rw [Deaf_events t (by omega)]; exact c.d0
    · obtain ⟨e, he, rfl⟩ := Go.Conc.mem_ofEvents hop
      exact norel_mute (hm e he) _
    · obtain ⟨r, hr, hr0⟩ := c.rel j' hj' hmu
      exact ⟨r, relBy_none hr hx, hr0.1, fun e => (hr0.2 e).app _⟩
    · rw [hφ, Nat.mul_succ] at h2
      simp only [Array.size_setIfInBounds, Array.size_map] at h2 ⊢
      omega
/-- AN ELDER CALL's GOROUTINE LEAVES. -/
theorem stepOld {i : Nat} (h0 : 0 < i) (hig : i < C.tp.gb) {g : Goroutine} (hi : gs[i]? = some g) (hrun : g.status = .running) :
    ∃ m' ops, runT C.P (crowd gs w sl) i = (.next m', ops) ∧ Adv C N Anch K t₀ w₀ gs G φ m' (t ++ ops) := by
  have hlt : i < gs.size := (Array.getElem?_eq_some_iff.1 hi).1
  obtain ⟨a, q, ha, hφ, hQ⟩ := (c.sits i hlt).old h0 hig
  obtain rfl : a = g := Option.some.inj (ha.symm.trans hi)
  cases q with
  | zero => rw [hQ.1] at hrun; cases hrun
  | succ q =>
    rcases hQ with ⟨hf, _⟩ | ⟨_, g', es, hm, hst, hQ'⟩
    · rw [hf] at hrun; cases hrun
    refine ⟨_, _, runT_crowd_go hi (by rw [beq_zero_false (by omega)]; exact hst w), ?_⟩
    have hDf := Deaf_own t i a.frame.fn a.frame.place es
    obtain ⟨φ', h1, h2⟩ := go_sits (K := K) F.gb c.sits (g := a) (g' := g') (w' := w) hi (fn := a.frame.fn) (pos := a.frame.place) (es := es) (G' := G) (held' := held) (fun _ => rfl) (fun _ _ => ⟨rfl, rfl⟩) rfl (Nat.le_refl _) (RX.refl _ _) (fun _ _ => RX.refl _ _) c.sh (Stirs.same _ _ _ _)
      (fun i hM => by have := c.ig.mok; simp only [hM, MOk] at this; exact this.2.2) (x := K * q)
      ⟨fun h0 => by omega, fun _ _ => ⟨g', q, get_self (by simpa using hlt), rfl, by rw [hDf]; exact hQ'⟩, fun j' hj' _ => by omega⟩
    have hK := c.sizeK F
    have hx : ∀ op ∈ MemOp.ofEvents i a.frame.fn a.frame.place es, op.act.touch? = Option.none := fun op hop => by obtain ⟨e, he, rfl⟩ := Go.Conc.mem_ofEvents hop; exact touch_mute (hm e he)
    refine ⟨_, w, sl, G, own, held, φ', rfl, ⟨by simpa using c.size, c.ig, c.sh, h1, fun l hl => ?_, ?_, c.ti.none hx (fun op hop => by obtain ⟨e, he, rfl⟩ := Go.Conc.mem_ofEvents hop; exact low_mute (hm e he) _) (fun op hop => ?_), c.hold, c.done, c.rest, c.rx, fun j' hj' hmu => ?_, c.apart.go (quits_offers hQ')⟩, .inr ⟨rfl, ?_⟩⟩
    · rw [Deaf_events t (by simp at hl; omega)]; exact c.above l (by simpa using hl)
    · rw [Deaf_events t (by omega)]; exact c.d0
    · obtain ⟨e, he, rfl⟩ := Go.Conc.mem_ofEvents hop
      exact norel_mute (hm e he) _
    · obtain ⟨r, hr, hr0⟩ := c.rel j' hj' hmu
      exact ⟨r, relBy_none hr hx, hr0.1, fun e => (hr0.2 e).app _⟩
    · rw [hφ, Nat.mul_succ] at h2
      simp only [Array.size_setIfInBounds, Array.size_map] at h2 ⊢
      omega
end
end Go.Proofs.Ytpkiojchlficcaa.Crew

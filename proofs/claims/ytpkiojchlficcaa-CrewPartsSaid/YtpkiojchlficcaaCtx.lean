/- The crew's machine: the whole; what a step of one leaves of the others. -/
import Derived.Test.YtpkiojchlficcaaSit
namespace Go.Proofs.Ytpkiojchlficcaa.Crew
open Go Go.Conc
open Go.ConcM (OsLater)
open Go.ConcN (RelBy)
open Go.ConcR (stA smA)
section
variable (C : Cf) (N : Nat) (Anch : Goroutine → World → Prop) (K : Nat) (t₀ : Trace) (w₀ : World)
/-- Where number l stands, with which fuel. -/
structure Sits (gs : Array Goroutine) (w : World) (G : GS) (held : Nat → Option Nat) (t : Trace) (l φ : Nat) : Prop where
  main : l = 0 → ∃ g k, gs[0]? = some g ∧ rank N C.n G < k ∧ MSit C N K Anch k G.M G.s φ g w
  old : 0 < l → l < C.tp.gb → ∃ g q, gs[l]? = some g ∧ φ = K * q ∧ QuitsD C.P q (Deaf t l) g
  work : ∀ j, l = C.tp.gb + j → j < spawned N G.M → ∃ g k h d, gs[l]? = some g ∧ rank N C.n G < k ∧ h = held j ∧ d = Deaf t l ∧ WSit C K k (G.th j) G.s h φ d g w
/-- Behind place r of the trace goroutine 0 has said, heard, that it acquires the group. -/
def Acq (t : Trace) (r : Nat) : Prop := ∃ q, r < q ∧ t.act? q = some (.mark (.acquire (stA C.tp.Wg))) ∧ t.g? q = some 0 ∧ t.heard q
/-- Nobody is parked at a receive of places while the giver is parked at a send. -/
def Apart (gs : Array Goroutine) : Prop := ∀ (g : Goroutine) (l : Nat) (g' : Goroutine), gs[0]? = some g → l ≠ 0 → gs[l]? = some g' → offersAt g C.tp.Pl true ≠ [] → offersAt g' C.tp.Pl false = []
structure Ctx (gs : Array Goroutine) (w : World) (G : GS) (own held : Nat → Option Nat) (φ : Nat → Nat) (t : Trace) : Prop where
  size : gs.size = C.tp.gb + spawned N G.M
  ig : IG N C.n C.ok G
  sh : ShAt C w G.s
  sits : ∀ l, l < gs.size → Sits C N Anch K gs w G held t l (φ l)
  above : ∀ l, gs.size ≤ l → Deaf t l = 0
  d0 : Deaf t 0 = G.M.deaf
  ti : TI C.tp C.B t₀ t own (spawned N G.M)
  hold : ∀ j i, held j = some i → own i = some j ∧ i < G.gv ∧ j < spawned N G.M
  done : ∀ i, i < G.gv → (∃ j, held j = some i) ∨ OutAt C w i (C.val i)
  rest : ∀ i, G.gv ≤ i → own i = Option.none ∧ w.cell? ⟨C.tp.Out, i, Option.none⟩ = w₀.cell? ⟨C.tp.Out, i, Option.none⟩
  rx : RX C Option.none w₀ w
  rel : ∀ j, j < spawned N G.M → (G.th j).mute = true → ∃ r, RelBy (stA C.tp.Wg) t (C.tp.gb + j) r ∧ t₀.size ≤ r ∧ (G.M = .ret → Acq C t r)
  apart : Apart C gs
/-- What holds of the phase's places all along. -/
structure Fixed (B₀ : Nat) : Prop where
  geo : Geo C
  gb : 0 < C.tp.gb
  n0 : 0 < N
  n16 : N ≤ 16
  kk : C.tp.gb + N + 2 ≤ K
  past : Past C.tp.Shun B₀ t₀
  bl : B₀ ≤ C.B
  on : C.tp.On < C.B
  wg : C.tp.Wg < C.B
  pl : C.tp.Pl < C.B
  st : C.tp.St < C.B
  out : C.tp.Out < C.B
  shun : ∀ k, ¬ C.tp.Shun (Cel C.tp k)
end
variable {C : Cf} {N : Nat} {Anch : Goroutine → World → Prop} {K B₀ : Nat} {t₀ : Trace} {w₀ : World}
variable {gs : Array Goroutine} {w : World} {sl : Option (Nat × Nat)} {G : GS} {own held : Nat → Option Nat} {φ : Nat → Nat} {t : Trace}
theorem choose_fuel {Q : Nat → Nat → Prop} {n : Nat} {b : Nat → Nat} (h : ∀ l, l < n → ∃ x, Q l x ∧ x ≤ b l) : ∃ φ' : Nat → Nat, (∀ l, l < n → Q l (φ' l)) ∧ sm n φ' ≤ sm n b := by
  refine ⟨fun l => if hl : l < n then Classical.choose (h l hl) else 0, fun l hl => ?_, sm_mono fun l hl => ?_⟩
  · simp only [dif_pos hl]; exact (Classical.choose_spec (h l hl)).1
  · simp only [dif_pos hl]; exact (Classical.choose_spec (h l hl)).2
theorem sm_succ (n : Nat) (f : Nat → Nat) : sm n (fun l => f l + 1) = sm n f + n := by
  induction n with
  | zero => rfl
  | succ n ih => simp only [sm, ih]; omega
theorem get_go {gs : Array Goroutine} {i : Nat} {g g' x : Goroutine} {w' : World} {P : Program} {l : Nat} (hne : l ≠ i) (hx : gs[l]? = some x) : ((gs.map (woken P g g' w')).setIfInBounds i g')[l]? = some (woken P g g' w' x) := by
  rw [Array.getElem?_setIfInBounds_ne (Ne.symm hne), Array.getElem?_map, hx]; rfl
theorem get_self {gs : Array Goroutine} {i : Nat} {g : Goroutine} (hlt : i < gs.size) : (gs.setIfInBounds i g)[i]? = some g := by
  rw [Array.getElem?_setIfInBounds_self_of_lt hlt]
theorem Deaf_events (t : Trace) {g l : Nat} (h : g ≠ l) (fn : FuncId) (pos : String) (es : Array Event) : Deaf (t ++ MemOp.ofEvents g fn pos es) l = Deaf t l :=
  Deaf_other t h _ fun op hop => by obtain ⟨e, _, rfl⟩ := Go.Conc.mem_ofEvents hop; rfl
/-- A '.go' STEP OF NUMBER i: the others. -/
theorem go_sits (hgb : 0 < C.tp.gb) (hsize : ∀ l, l < gs.size → Sits C N Anch K gs w G held t l (φ l)) {i : Nat} {g g' : Goroutine} {w' : World} (hi : gs[i]? = some g) {fn : FuncId} {pos : String} {es : Array Event} {G' : GS} {held' : Nat → Option Nat}
    (hM : i ≠ 0 → G'.M = G.M) (hth : ∀ j, i ≠ C.tp.gb + j → G'.th j = G.th j ∧ held' j = held j) (hsp : spawned N G'.M = spawned N G.M) (hr : rank N C.n G' ≤ rank N C.n G)
    (hr0 : RX C Option.none w w') (hrx : ∀ j, i ≠ C.tp.gb + j → RX C (held j) w w') (hs : ShAt C w' G'.s) (st : Stirs C.P g g' G.s G'.s) (hpl : ∀ k, G'.M = .gs k → G'.s.pl = false) {x : Nat}
    (mine : Sits C N Anch K ((gs.map (woken C.P g g' w')).setIfInBounds i g') w' G' held' (t ++ MemOp.ofEvents i fn pos es) i x) :
    ∃ φ', (∀ l, l < ((gs.map (woken C.P g g' w')).setIfInBounds i g').size → Sits C N Anch K ((gs.map (woken C.P g g' w')).setIfInBounds i g') w' G' held' (t ++ MemOp.ofEvents i fn pos es) l (φ' l)) ∧
      sm ((gs.map (woken C.P g g' w')).setIfInBounds i g').size φ' + φ i ≤ sm gs.size φ + x + gs.size := by
  have hlt : i < gs.size := (Array.getElem?_eq_some_iff.1 hi).1
  have hsz : ((gs.map (woken C.P g g' w')).setIfInBounds i g').size = gs.size := by simp
  rw [hsz]
  obtain ⟨φ', h1, h2⟩ := choose_fuel (n := gs.size) (b := fun l => upd φ i x l + 1) (Q := fun l y => Sits C N Anch K ((gs.map (woken C.P g g' w')).setIfInBounds i g') w' G' held' (t ++ MemOp.ofEvents i fn pos es) l y) (fun l hl => by
    by_cases hli : l = i
    · subst hli
      exact ⟨x, mine, by rw [upd_same]; omega⟩
    · simp only [upd_ne _ _ hli]
      have hS := hsize l hl
      have hD := Deaf_events t (g := i) (l := l) (Ne.symm hli) fn pos es
      rcases Nat.eq_zero_or_pos l with rfl | hpos
      · obtain ⟨a, k, ha, hk, hm⟩ := hS.main rfl
        have hM' := hM (Ne.symm hli)
        obtain ⟨y, hy, hm'⟩ := hm.other (g := g) (g' := g') (by omega) (fun k hk => hpl k (hM'.trans hk)) hr0 hs st
        exact ⟨y, ⟨fun _ => ⟨_, k, get_go hli ha, by omega, by rw [hM']; exact hm'⟩, fun h0 => by omega, fun j hj => by omega⟩, hy⟩
      · rcases Nat.lt_or_ge l C.tp.gb with hlg | hge
        · obtain ⟨a, q, ha, hq, hQ⟩ := hS.old hpos hlg
          refine ⟨φ l, ⟨fun h0 => by omega, fun _ _ => ⟨_, q, get_go hli ha, hq, ?_⟩, fun j hj => by omega⟩, by omega⟩
          rw [woken_quitsD hQ, hD]; exact hQ
        · obtain ⟨j, rfl⟩ : ∃ j, l = C.tp.gb + j := ⟨l - C.tp.gb, by omega⟩
          by_cases hjs : j < spawned N G.M
          · obtain ⟨a, k, h, d, ha, hk, hh, hd, hW⟩ := hS.work j rfl hjs
            have hij : i ≠ C.tp.gb + j := fun e => hli e.symm
            obtain ⟨e1, e2⟩ := hth j hij
            obtain ⟨y, hy, hW'⟩ := hW.other (g := g) (g' := g') (by omega) (by rw [hh]; exact hrx j hij) hs st
            refine ⟨y, ⟨fun h0 => by omega, fun _ h0 => by omega, fun j' hj' _ => ?_⟩, hy⟩
            obtain rfl : j' = j := by omega
            exact ⟨_, k, h, d, get_go hli ha, by omega, by rw [e2]; exact hh, by rw [hD]; exact hd, by rw [e1]; exact hW'⟩
          · refine ⟨0, ⟨fun h0 => by omega, fun _ h0 => by omega, fun j' hj' hjs' => ?_⟩, by omega⟩
            obtain rfl : j' = j := by omega
            rw [hsp] at hjs'; exact absurd hjs' hjs)
  refine ⟨φ', h1, ?_⟩
  have e : sm gs.size (upd φ i x) + φ i = sm gs.size φ + x := sm_upd φ x (fun y => y) hlt
  have e2 : sm gs.size (fun l => upd φ i x l + 1) = sm gs.size (upd φ i x) + gs.size := sm_succ _ _
  have h2' : sm gs.size φ' ≤ sm gs.size (fun l => upd φ i x l + 1) := h2
  omega
theorem Apart.of (h : Apart C gs) {gs' : Array Goroutine} (hp : ∀ (l : Nat) (x' : Goroutine), gs'[l]? = some x' → (∀ r b, offersAt x' r b = []) ∨ ∃ x : Goroutine, gs[l]? = some x ∧ ∀ r b, offersAt x' r b ≠ [] → offersAt x r b ≠ []) : Apart C gs' := by
  intro g l g' h0 hl h1 ho
  rcases hp 0 g h0 with e | ⟨x, hx, ex⟩
  · exact absurd (e _ _) ho
  · rcases hp l g' h1 with e | ⟨y, hy, ey⟩
    · exact e _ _
    · apply Classical.byContradiction
      intro hne
      exact ey _ _ hne (h x l y hx hl hy (ex _ _ ho))
theorem offersAt_again {o : Goroutine} {w : World} {r : Nat} {b : Bool} (h : offersAt (o.again w) r b ≠ []) : offersAt o r b ≠ [] := by
  cases hs : o.status with
  | blocked =>
    cases ho : o.offers with
    | none => simp [Goroutine.again, hs, ho, offersAt] at h
    | some x =>
      obtain ⟨cs, sh⟩ := x
      simp only [Goroutine.again, hs, ho] at h
      split at h
      · simp [offersAt] at h
      · exact h
  | waiting => simp [Goroutine.again, hs, offersAt] at h
  | running => simpa [Goroutine.again, hs] using h
  | sleeping till => simpa [Goroutine.again, hs] using h
  | parked => simpa [Goroutine.again, hs] using h
  | finished => simpa [Goroutine.again, hs] using h
theorem offersAt_woken {P : Program} {g g' o : Goroutine} {w : World} {r : Nat} {b : Bool} (h : offersAt (woken P g g' w o) r b ≠ []) : offersAt o r b ≠ [] := by
  rcases woken_cases P g g' o w with ⟨_, e⟩ | e
  · rw [e] at h; exact offersAt_again h
  · rw [e] at h; exact h
theorem Apart.go (h : Apart C gs) {i : Nat} {g g' : Goroutine} {w' : World} {P : Program} (hg : ∀ r b, offersAt g' r b = []) : Apart C ((gs.map (woken P g g' w')).setIfInBounds i g') := by
  refine h.of fun l x' hx => ?_
  by_cases e : i = l
  · subst e
    by_cases hlt : i < (gs.map (woken P g g' w')).size
    · rw [Array.getElem?_setIfInBounds_self_of_lt hlt] at hx
      cases hx; exact .inl hg
    · rw [Array.getElem?_eq_none (by simpa using hlt)] at hx; cases hx
  · rw [Array.getElem?_setIfInBounds_ne e, Array.getElem?_map] at hx
    obtain ⟨x, hx', rfl⟩ := Option.map_eq_some_iff.1 hx
    exact .inr ⟨x, hx', fun r b => offersAt_woken⟩
theorem Apart.set (h : Apart C gs) {i : Nat} {g' : Goroutine} (hg : ∀ r b, offersAt g' r b = []) : Apart C (gs.setIfInBounds i g') := by
  refine h.of fun l x' hx => ?_
  by_cases e : i = l
  · subst e
    by_cases hlt : i < gs.size
    · rw [Array.getElem?_setIfInBounds_self_of_lt hlt] at hx
      cases hx; exact .inl hg
    · rw [Array.getElem?_eq_none (by simpa using hlt)] at hx; cases hx
  · rw [Array.getElem?_setIfInBounds_ne e] at hx
    exact .inr ⟨x', hx, fun _ _ => id⟩
theorem Apart.push (h : Apart C gs) {g' : Goroutine} (hg : ∀ r b, offersAt g' r b = []) : Apart C (gs.push g') := by
  refine h.of fun l x' hx => ?_
  rw [Array.getElem?_push] at hx
  split at hx
  · cases hx; exact .inl hg
  · exact .inr ⟨x', hx, fun _ _ => id⟩
theorem offers_running {g : Goroutine} (h : g.status = .running) (r : Nat) (b : Bool) : offersAt g r b = [] := offersAt_of_not_blocked (by rw [h]; simp) r b
theorem offersAt_none {g : Goroutine} (h : g.offers = Option.none) (r : Nat) (b : Bool) : offersAt g r b = [] := by
  unfold offersAt
  rw [h]
  cases g.status <;> rfl
theorem offersAt_blocked {g : Goroutine} (h : g.offers = Option.none) (r : Nat) (b : Bool) : offersAt { g with status := .blocked } r b = [] := offersAt_none (g := { g with status := .blocked }) h r b
theorem quits_offers {P : Program} {q d : Nat} {g : Goroutine} (h : QuitsD P q d g) (r : Nat) (b : Bool) : offersAt g r b = [] :=
  offersAt_of_not_blocked (by rcases h.status with e | e <;> rw [e] <;> simp) r b
theorem Acq.app {r : Nat} (h : Acq C t r) (u : Trace) : Acq C (t ++ u) r := by
  obtain ⟨q, h1, h2, h3, h4⟩ := h
  have hlt := lt_of_act? h2
  exact ⟨q, h1, by rw [act?_old hlt]; exact h2, by rw [g?_old hlt]; exact h3, (heard_old hlt).2 h4⟩
theorem give_ret (n i : Nat) : give n i ≠ .ret := by rcases give_cases n i with ⟨_, e⟩ | ⟨_, e⟩ <;> rw [e] <;> simp
end Go.Proofs.Ytpkiojchlficcaa.Crew

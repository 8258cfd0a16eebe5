/- The crew's machine: a worker's step, but for the selects. -/
import Derived.Test.YtpkiojchlficcaaCtx
namespace Go.Proofs.Ytpkiojchlficcaa.Crew
open Go Go.Conc
open Go.ConcM (OsLater)
open Go.ConcN (RelBy)
open Go.ConcR (stA smA)
variable {C : Cf} {N : Nat} {Anch : Goroutine → World → Prop} {K B₀ : Nat} {t₀ : Trace} {w₀ : World}
variable {gs : Array Goroutine} {w : World} {sl : Option (Nat × Nat)} {G : GS} {own held : Nat → Option Nat} {φ : Nat → Nat} {t : Trace}
/-! ### counts are small -/
theorem slp_jw (T : Th) : slp T + jw T ≤ 1 := by
  obtain ⟨pc, old, aw, sv, it⟩ := T
  cases pc <;> simp [slp, jw]
theorem IG.small {n : Nat} {ok : Nat → Bool} (h : IG N n ok G) (hN : N ≤ 16) : G.s.Small := by
  have hm := h.mok
  have l1 : (sm N fun j => slp (G.th j) + jw (G.th j)) ≤ 1 * N := sm_le fun i _ => slp_jw _
  rw [sm_add] at l1
  have b1 := b2n_le G.s.mu.w
  have hms : G.s.ms ≤ 1 ∧ G.s.mu.n ≤ N := by
    cases hs : G.s.mu.s
    · have := h.mu.norm hs; have := h.mu.wait1 hs; omega
    · have := (h.mu.star hs).2.2.1; have := h.mu.wait2 hs; omega
  have hadd : added N G.M ≤ N := by
    cases e : G.M <;> simp only [e, MOk, added] at hm ⊢ <;> omega
  have hc := h.cnt
  have hws : G.s.ws ≤ 1 := by
    cases hw : waits G.M
    · have := (h.wg4 hw).2.1; omega
    · have := (h.wg3 hw).1; omega
  exact ⟨by omega, by omega, by omega, by omega⟩
/-! ### which of a worker's stops does what -/
section
variable {T : Th} {s : Sh} {r : Th × Sh}
theorem wmv_nil (h : wmv T s = []) : (T.pc = .s1 ∧ s.ms = 0) ∨ T.pc = .off ∨ T.pc = .sel ∨ T.pc = .quit ∨ T.pc = .bad := by
  obtain ⟨pc, old, aw, sv, it⟩ := T
  cases pc <;> simp only [wmv] at h
  case s1 =>
    split at h
    · exact .inl ⟨rfl, by assumption⟩
    · cases h
  case off => exact .inr (.inl rfl)
  case sel => exact .inr (.inr (.inl rfl))
  case quit => exact .inr (.inr (.inr (.inl rfl)))
  case bad => exact .inr (.inr (.inr (.inr rfl)))
  all_goals (exfalso; revert h; (repeat' split) <;> simp)
theorem wmv_stirs (hr : r ∈ wmv T s) : (s.ms = 0 → r.2.ms ≠ 0 → T.pc = .us) ∧ r.2.pl = s.pl ∧ (s.sc = false → r.2.sc = true → T.pc = .cl) ∧ (s.ws = 0 → r.2.ws ≠ 0 → T.pc = .d4) := by
  obtain ⟨pc, old, aw, sv, it⟩ := T
  cases pc <;> simp only [wmv, List.not_mem_nil] at hr
  case us => simp at hr; subst hr; exact ⟨fun _ _ => rfl, rfl, fun a b => absurd b (by simp [a]), fun a b => absurd a b⟩
  case d4 => simp at hr; subst hr; exact ⟨fun a b => absurd a b, rfl, fun a b => absurd b (by simp [a]), fun _ _ => rfl⟩
  case cl =>
    split at hr <;> simp at hr <;> subst hr
    · exact ⟨fun a b => absurd a b, rfl, fun a b => absurd b (by simp [a]), fun a b => absurd a b⟩
    · exact ⟨fun a b => absurd a b, rfl, fun _ _ => rfl, fun a b => absurd a b⟩
  case s1 => split at hr <;> simp at hr; subst hr; exact ⟨fun a b => absurd b (by simp [a]), rfl, fun a b => absurd b (by simp [a]), fun a b => absurd a b⟩
  all_goals (
    have key : r.2.ms = s.ms ∧ r.2.pl = s.pl ∧ r.2.sc = s.sc ∧ r.2.ws = s.ws := by
      revert hr
      (repeat' split) <;> intro hr <;> simp at hr <;> first | (subst hr; exact ⟨rfl, rfl, rfl, rfl⟩) | (rcases hr with rfl | rfl <;> exact ⟨rfl, rfl, rfl, rfl⟩) | (rcases hr with rfl | ⟨_, rfl⟩ <;> exact ⟨rfl, rfl, rfl, rfl⟩)
    exact ⟨fun a b => absurd a (by rw [← key.1]; exact b), key.2.1, fun a b => absurd b (by rw [key.2.2.1, a]; simp), fun a b => absurd a (by rw [← key.2.2.2]; exact b)⟩)
theorem uck_mute (m : Wd) : (uck m).mute = false := by unfold uck; split <;> rfl
theorem hd_mute (T : Th) : (hd T).mute = false := by rcases hd_pc T with h | h | h <;> simp [Th.mute, h]
theorem toC2_mute (T : Th) : (toC2 T).mute = false := by rcases toC2_pc T with h | h <;> simp [Th.mute, h]
theorem mute_turn (hr : r ∈ wmv T s) (hm : r.1.mute = true) : T.mute = true ∨ T.pc = .wr := by
  obtain ⟨pc, old, aw, sv, it⟩ := T
  cases pc <;> simp only [wmv, List.not_mem_nil] at hr
  case wr => exact .inr rfl
  case wk => exact .inl rfl
  case d1 => exact .inl rfl
  case d2 => exact .inl rfl
  case d3 => exact .inl rfl
  case d4 => exact .inl rfl
  all_goals exfalso
  case r0 => simp at hr; subst hr; simp [hd_mute] at hm
  case r1 => simp at hr; subst hr; simp [hd_mute] at hm
  case r3 => simp at hr; subst hr; simp [hd_mute] at hm
  case ux => simp at hr; subst hr; simp [uck_mute] at hm
  case sq =>
    simp at hr
    rcases hr with rfl | ⟨_, rfl⟩
    · simp [toC2_mute] at hm
    · by_cases hx : aw = false ∧ old.w = false ∧ ¬ old.n = 0 <;> simp [Th.mute, hx] at hm
  case s1 => split at hr <;> simp at hr; subst hr; cases sv <;> simp [Th.mute] at hm
  case r2 =>
    split at hr
    · split at hr <;> simp at hr <;> subst hr <;> simp [Th.mute] at hm
    · simp at hr; subst hr; simp [hd_mute] at hm
  case u0 =>
    split at hr <;> simp at hr <;> subst hr
    · simp [Th.mute] at hm
    · simp only at hm
      split at hm
      · simp [Th.mute] at hm
      · simp [uck_mute] at hm
  all_goals (revert hr; (repeat' split) <;> intro hr <;> simp at hr <;> first | (subst hr; simp [Th.mute] at hm) | (rcases hr with rfl | rfl <;> simp [Th.mute] at hm))
end
/-! ### the trace -/
section
variable {B : Nat} {sp : Nat}
theorem sy_cel (F : Geo C) (k : Nat) : ¬ Sy C.tp (Cel C.tp k) := by
  rintro (h | h)
  · exact F.on h
  · exact F.wg h
theorem okT_evSy {e : Event} (h : EvSy C e) {mine : Nat → Prop} {said : Prop} {x : Touch} (hx : (MemAct.ofEvent e).touch? = some x) : OkT C.tp mine said x := by
  rcases h with h | h | rfl | rfl | ⟨a, wr, rfl, ha⟩ | ⟨r, wr, rfl, hr⟩
  · obtain ⟨l, a, b⟩ := e; simp only at h; subst h; simp [MemAct.ofEvent, MemAct.touch?] at hx
  · obtain ⟨l, a, b⟩ := e; simp only at h; subst h; simp [MemAct.ofEvent, MemAct.touch?] at hx
  · simp [MemAct.ofEvent, MemAct.touch?] at hx
  · simp [MemAct.ofEvent, MemAct.touch?] at hx
  · have : x = ⟨.cell a, wr, .atomic⟩ := by cases wr <;> simp [MemAct.ofEvent, MemAct.touch?] at hx <;> exact hx.symm
    subst this; exact .inl ⟨ha, rfl⟩
  · cases wr
    · have : x = ⟨.obj r, false, .atomic⟩ := by simp [MemAct.ofEvent, MemAct.touch?] at hx; exact hx.symm
      subst this; exact .inl ⟨hr, rfl⟩
    · simp [MemAct.ofEvent, MemAct.touch?] at hx
theorem low_evSy (F : Fixed C N K t₀ B₀) {e : Event} (h : EvSy C e) : (MemAct.ofEvent e).low C.B := by
  rcases h with h | h | rfl | rfl | ⟨a, wr, rfl, ha⟩ | ⟨r, wr, rfl, hr⟩
  · obtain ⟨l, a, b⟩ := e; simp only at h; subst h; simp [MemAct.ofEvent, MemAct.low]
  · obtain ⟨l, a, b⟩ := e; simp only at h; subst h; simp [MemAct.ofEvent, MemAct.low]
  · exact F.on
  · exact F.on
  · have : a.block < C.B := by rcases ha with h | h <;> rw [h]; exact F.on; exact F.wg
    cases wr <;> exact this
  · have : r < C.B := by rcases hr with h | h <;> rw [h]; exact F.pl; exact F.st
    cases wr <;> exact this
theorem norel_evSy {e : Event} (h : EvSy C e) (a : Addr) : MemAct.ofEvent e ≠ .mark (.release a) := by
  rcases h with h | h | rfl | rfl | ⟨a, wr, rfl, ha⟩ | ⟨r, wr, rfl, hr⟩
  · obtain ⟨l, a, b⟩ := e; simp only at h; subst h; simp [MemAct.ofEvent]
  · obtain ⟨l, a, b⟩ := e; simp only at h; subst h; simp [MemAct.ofEvent]
  · simp [MemAct.ofEvent]
  · simp [MemAct.ofEvent]
  · cases wr <;> simp [MemAct.ofEvent]
  · cases wr <;> simp [MemAct.ofEvent]
theorem ti_sy (F : Fixed C N K t₀ B₀) (h : TI C.tp C.B t₀ t own sp) {g : Nat} (hg : g = 0 ∨ ∃ j, j < sp ∧ g = C.tp.gb + j) {fn : FuncId} {pos : String} {es : Array Event} (he : ∀ e ∈ es, EvSy C e) : TI C.tp C.B t₀ (t ++ MemOp.ofEvents g fn pos es) own sp :=
  h.add F.past (sy_cel F.geo) hg (fun op hop => by obtain ⟨e, _, rfl⟩ := Go.Conc.mem_ofEvents hop; rfl) (fun op hop x hx => by obtain ⟨e, h1, rfl⟩ := Go.Conc.mem_ofEvents hop; exact okT_evSy (he e h1) hx)
    (fun op hop => by obtain ⟨e, h1, rfl⟩ := Go.Conc.mem_ofEvents hop; exact low_evSy F (he e h1)) (fun op hop => by obtain ⟨e, h1, rfl⟩ := Go.Conc.mem_ofEvents hop; exact norel_evSy (he e h1) _)
theorem ti_d (F : Fixed C N K t₀ B₀) (h : TI C.tp C.B t₀ t own sp) {g : Nat} (hg : g = 0 ∨ ∃ j, j < sp ∧ g = C.tp.gb + j) {hh : Option Nat} (hown : ∀ i, hh = some i → ∃ j, g = C.tp.gb + j ∧ own i = some j) {fn : FuncId} {pos : String} {es : Array Event} (he : ∀ e ∈ es, EvD C hh e) :
    TI C.tp C.B t₀ (t ++ MemOp.ofEvents g fn pos es) own sp := by
  have kind : ∀ e ∈ es, ∃ a wr, e = ⟨.cell a, wr, false⟩ ∧ a.block < C.B := by
    intro e h1
    rcases he e h1 with ⟨a, rfl, _, _, hb⟩ | ⟨k, wr, _, rfl⟩
    · exact ⟨a, false, rfl, hb⟩
    · exact ⟨_, wr, rfl, F.out⟩
  refine h.add F.past (sy_cel F.geo) hg (fun op hop => by obtain ⟨e, _, rfl⟩ := Go.Conc.mem_ofEvents hop; rfl) (fun op hop x hx => ?_) (fun op hop => ?_) (fun op hop => ?_)
  · obtain ⟨e, h1, rfl⟩ := Go.Conc.mem_ofEvents hop
    rcases he e h1 with ⟨a, rfl, hf, hs, _⟩ | ⟨k, wr, hk, rfl⟩
    · have : x = ⟨.cell a, false, .plain⟩ := by simp [MemAct.ofEvent, MemAct.touch?] at hx; exact hx.symm
      subst this
      refine .inr (.inr (.inl ⟨rfl, rfl, ?_, ?_, hs⟩))
      · rintro (h | h)
        · exact hf (.inl h)
        · exact hf (.inr (.inl h))
      · intro k e
        simp only [Cel, Loc.cell.injEq] at e
        exact hf (.inr (.inr (.inr (.inr (by rw [e])))))
    · have : x = ⟨Cel C.tp k, wr, .plain⟩ := by cases wr <;> simp [MemAct.ofEvent, MemAct.touch?, Cel] at hx <;> exact hx.symm
      subst this
      obtain ⟨j, h1, h2⟩ := hown k hk
      exact .inr (.inr (.inr ⟨k, ⟨j, h1, h2⟩, rfl, rfl, F.shun k, sy_cel F.geo k⟩))
  · obtain ⟨e, h1, rfl⟩ := Go.Conc.mem_ofEvents hop
    obtain ⟨a, wr, rfl, hb⟩ := kind e h1
    cases wr <;> exact hb
  · obtain ⟨e, h1, rfl⟩ := Go.Conc.mem_ofEvents hop
    obtain ⟨a, wr, rfl, hb⟩ := kind e h1
    cases wr <;> simp [MemAct.ofEvent]
theorem deaf_evD {h : Option Nat} {es : Array Event} (he : ∀ e ∈ es, EvD C h e) (d : Nat) : deafBehind d es = d :=
  deafBehind_still (fun e h1 => by
    rcases he e h1 with ⟨a, rfl, _⟩ | ⟨k, wr, _, rfl⟩
    · exact ⟨by simp, by simp⟩
    · exact ⟨by simp [Cel], by simp [Cel]⟩) d
/-- Operations that touch nothing leave a release where it stands. -/
theorem relBy_none {a : Addr} {u : Trace} {k r : Nat} (h : RelBy a t k r) (hu : ∀ op ∈ u, op.act.touch? = Option.none) : RelBy a (t ++ u) k r := by
  refine h.app fun i hi _ hc => ?_
  obtain ⟨x, hx, _⟩ := hc
  obtain ⟨op, hop, hox⟩ := touch_of hx
  rcases getElem?_append_cases hop with ⟨hlt, _⟩ | ⟨_, hopu⟩
  · omega
  · rw [hu op hopu] at hox; cases hox
end
end Go.Proofs.Ytpkiojchlficcaa.Crew

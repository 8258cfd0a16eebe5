/- The automaton's invariant, on: the giver's steps, the start; somebody can always go on; behind the giver's Wait all workers have gone. -/
import Derived.Test.YtpkiojchlficcaaInv
namespace Go.Proofs.Ytpkiojchlficcaa.Crew
variable {N n : Nat} {ok : Nat → Bool} {G : GS}
/-- The group's counter is a worker's that is no more than there. -/
theorem IG.main (h : IG N n ok G) {r : Mp × Sh} (hr : r ∈ mmv G.M G.s) : IG N n ok { G with M := r.1, s := r.2 } := by
  have hm := h.mok
  have hcnt := h.cnt
  have no23 : waits G.M = false → ∀ j, j < N → (G.th j).pc ≠ .d2 ∧ (G.th j).pc ≠ .d3 := by
    intro hw j hj
    have h0 := (h.wg4 hw).2.2.2
    have := le_sm (f := fun k => d23 (G.th k)) hj
    constructor
    · intro e; have a1 : d23 (G.th j) = 1 := by simp [d23, e]
      omega
    · intro e; have a1 : d23 (G.th j) = 1 := by simp [d23, e]
      omega
  -- what of the group turns
  have key : ∀ (M' : Mp) (s' : Sh), s'.mu = G.s.mu → s'.ms = G.s.ms → s'.dn = G.s.dn → s'.sc = G.s.sc → (G.s.pl = true → s'.pl = true) → (waits G.M = true → (∀ j, j < N → d23 (G.th j) = 1 → s'.c = G.s.c ∧ s'.wv = G.s.wv)) →
      s'.c + (sm N fun j => fin (G.th j)) = added N M' →
      (waits M' = true → b2n s'.wv + (sm N fun j => d4c (G.th j)) + s'.ws = 1 ∧ (s'.wv = false → s'.c = 0 ∧ (sm N fun j => d23 (G.th j)) = 0) ∧ (sm N fun j => d23 (G.th j)) ≤ 1 ∧ (s'.wv = true → 0 < s'.c ∨ 1 ≤ sm N fun j => d23 (G.th j))) →
      (waits M' = false → s'.wv = false ∧ s'.ws = 0 ∧ (sm N fun j => d4c (G.th j)) = 0 ∧ (sm N fun j => d23 (G.th j)) = 0) → spawned N M' = spawned N G.M → MOk N n s' G.gv M' → IG N n ok { G with M := M', s := s' } := by
    intro M' s' e1 e2 e3 e4 e5 e6 e7 e8 e9 e10 e11
    refine ⟨by simp only [e1, e2]; exact h.mu, by simp only [e1]; exact h.wake, fun j hj => ?_, by simp only [e3, e4]; exact h.once1, by simp only [e4]; exact h.once2, e7, e8, e9, by simp only [e10]; exact h.off, by simp only [e10]; exact h.on, e11⟩
    have hj' := h.each j hj
    have hpl : (G.s.pl = true ∨ G.s.sc = true) → (s'.pl = true ∨ s'.sc = true) := fun x => x.elim (fun y => .inl (e5 y)) fun y => .inr (e4.trans y)
    show ThOk (G.th j) s'
    unfold ThOk at hj' ⊢
    cases hp : (G.th j).pc <;> simp only [hp] at hj' ⊢ <;> try exact hj'
    case a1 => rw [e1]; exact hj'
    case cl => rw [e4]; exact hj'
    case d2 =>
      cases hw : waits G.M
      · exact absurd hp (no23 hw j hj).1
      · obtain ⟨x, y⟩ := e6 hw j hj (by simp [d23, hp]); rw [x, y]; exact ⟨hj'.1, hj'.2.1, hpl hj'.2.2⟩
    case d3 =>
      cases hw : waits G.M
      · exact absurd hp (no23 hw j hj).2
      · obtain ⟨x, y⟩ := e6 hw j hj (by simp [d23, hp]); rw [x, y]; exact ⟨hj'.1, hj'.2.1, hpl hj'.2.2⟩
    all_goals exact hpl hj'
  have w3 := h.wg3
  have w4 := h.wg4
  cases e : G.M <;> simp only [e, mmv, List.not_mem_nil] at hr <;> simp only [e, MOk] at hm <;> simp only [e, added] at hcnt <;> simp only [e, waits] at w3 w4
  case k1 j =>
    simp at hr; subst hr
    exact key _ _ rfl rfl rfl rfl id (fun hw => by simp [e, waits] at hw) hcnt (fun hw => by simp [waits] at hw) (fun _ => w4 trivial) (by simp [e, spawned]) hm
  case k2 j =>
    have hwv := (w4 trivial).1
    simp [hwv] at hr; subst hr
    by_cases hc : G.s.c = 0
    · simp only [hc, if_true] at hcnt ⊢
      exact key _ _ rfl rfl rfl rfl id (fun hw => by simp [e, waits] at hw) (by simp only [added]; omega) (fun hw => by simp [waits] at hw) (fun _ => ⟨rfl, (w4 trivial).2⟩) (by simp [e, spawned]) hm
    · simp only [hc, if_false] at ⊢
      exact key _ _ rfl rfl rfl rfl id (fun hw => by simp [e, waits] at hw) (by simp only [added]; omega) (fun hw => by simp [waits] at hw) (fun _ => ⟨rfl, (w4 trivial).2⟩) (by simp [e, spawned]) hm
  case k3 j =>
    simp at hr; subst hr
    exact key _ _ rfl rfl rfl rfl id (fun hw => by simp [e, waits] at hw) hcnt (fun hw => by simp [waits] at hw) (fun _ => w4 trivial) (by simp [e, spawned]) hm
  case k4 j =>
    simp at hr; subst hr
    exact key _ _ rfl rfl rfl rfl id (fun hw => by simp [e, waits] at hw) hcnt (fun hw => by simp [waits] at hw) (fun _ => w4 trivial) (by simp [e, spawned]) hm
  case cp =>
    simp [hm.2.2] at hr; subst hr
    exact key _ _ rfl rfl rfl rfl (fun _ => rfl) (fun hw => by simp [e, waits] at hw) hcnt (fun hw => by simp [waits] at hw) (fun _ => w4 trivial) (by simp [e, spawned]) ⟨hm.1, hm.2.1, rfl⟩
  case w0 =>
    simp at hr; subst hr
    exact key _ _ rfl rfl rfl rfl id (fun hw => by simp [e, waits] at hw) hcnt (fun hw => by simp [waits] at hw) (fun _ => w4 trivial) (by simp [e, spawned]) hm
  case w1 =>
    simp at hr; subst hr
    by_cases hc : G.s.c = 0
    · simp only [hc, if_true]
      exact key _ _ rfl rfl rfl rfl id (fun hw => by simp [e, waits] at hw) hcnt (fun hw => by simp [waits] at hw) (fun _ => w4 trivial) (by simp [e, spawned]) ⟨hm.1, hm.2.1, hm.2.2, hc⟩
    · simp only [hc, if_false]
      exact key _ _ rfl rfl rfl rfl id (fun hw => by simp [e, waits] at hw) hcnt (fun hw => by simp [waits] at hw) (fun _ => w4 trivial) (by simp [e, spawned]) ⟨hm.1, hm.2.1, hm.2.2, (w4 trivial).1, by omega⟩
  case w2 c v =>
    obtain ⟨m1, m2, m3, rfl, m5⟩ := hm
    split at hr
    · rename_i hx
      simp at hr; subst hr
      obtain ⟨x1, x2, x3, x4⟩ := w4 trivial
      exact key _ _ rfl rfl rfl rfl id (fun hw => by simp [e, waits] at hw) hcnt (fun _ => ⟨by simp only [b2n, if_true]; omega, by simp, by omega, fun _ => .inl (by simp only; omega)⟩) (fun hw => by simp [waits] at hw) (by simp [e, spawned]) ⟨m1, m2, m3⟩
    · simp at hr; subst hr
      exact key _ _ rfl rfl rfl rfl id (fun hw => by simp [e, waits] at hw) hcnt (fun hw => by simp [waits] at hw) (fun _ => w4 trivial) (by simp [e, spawned]) ⟨m1, m2, m3⟩
  case wm =>
    simp at hr; subst hr
    exact key _ _ rfl rfl rfl rfl id (fun _ _ _ _ => ⟨rfl, rfl⟩) hcnt (fun _ => w3 trivial) (fun hw => by simp [waits] at hw) (by simp [e, spawned]) hm
  case w3 =>
    split at hr <;> simp at hr
    subst hr
    obtain ⟨x1, x2, x3, x4⟩ := w3 trivial
    have hwv : G.s.wv = false := by
      cases hv : G.s.wv
      · rfl
      · simp [hv, b2n] at x1; omega
    obtain ⟨y1, y2⟩ := x2 hwv
    simp [hwv, b2n] at x1
    exact key _ _ rfl rfl rfl rfl id (fun _ _ _ _ => ⟨rfl, rfl⟩) hcnt (fun hw => by simp [waits] at hw) (fun _ => ⟨hwv, by simp only; omega, by omega, y2⟩) (by simp [e, spawned]) ⟨hm.1, hm.2.1, hm.2.2, y1⟩
  case w4 =>
    have hwv := (w4 trivial).1
    simp [hm.2.2.2, hwv] at hr; subst hr
    exact key _ _ rfl rfl rfl rfl id (fun hw => by simp [e, waits] at hw) hcnt (fun hw => by simp [waits] at hw) (fun _ => w4 trivial) (by simp [e, spawned]) hm
  case ke =>
    simp at hr; subst hr
    exact key _ _ rfl rfl rfl rfl id (fun hw => by simp [e, waits] at hw) hcnt (fun hw => by simp [waits] at hw) (fun _ => w4 trivial) (by simp [e, spawned]) hm
  case aq =>
    simp at hr; subst hr
    exact key _ _ rfl rfl rfl rfl id (fun hw => by simp [e, waits] at hw) hcnt (fun hw => by simp [waits] at hw) (fun _ => w4 trivial) (by simp [e, spawned]) hm
/-- A worker that counts for nothing is laid anew as one that counts for nothing. -/
def Zero (T : Th) : Prop := own T = 0 ∧ pend T = 0 ∧ jw T = 0 ∧ awk T = 0 ∧ slp T = 0 ∧ stc T = 0 ∧ fin T = 0 ∧ d23 T = 0 ∧ d4c T = 0 ∧ T.pc ≠ .uc
theorem zero_sel {T : Th} (h : T.pc = .off ∨ T.pc = .sel ∨ T.pc = .o1 ∨ T.pc = .wr) : Zero T := by
  rcases h with h | h | h | h <;> simp [Zero, own, pend, jw, awk, slp, stc, fin, d23, d4c, h]
theorem IG.swap (h : IG N n ok G) {j : Nat} (hj : j < N) {U : Th} (hz : Zero (G.th j)) (hz' : Zero U) (hk : ThOk U G.s) {M' : Mp} {gv' : Nat} (ho2 : inOnce U = true → ∃ i, i < gv' ∧ ok i = false) (hgv : G.gv ≤ gv')
    (hadd : added N M' = added N G.M) (hwt : waits M' = waits G.M) (hoff : ∀ k, spawned N M' ≤ k → k ≠ j ∧ spawned N G.M ≤ k) (hon : U.pc ≠ .off) (hon' : ∀ k, k < spawned N M' → k ≠ j → k < spawned N G.M) (hmok : MOk N n G.s gv' M') :
    IG N n ok { M := M', th := upd G.th j U, s := G.s, gv := gv' } := by
  obtain ⟨z1, z2, z3, z4, z5, z6, z7, z8, z9, z10⟩ := hz
  obtain ⟨y1, y2, y3, y4, y5, y6, y7, y8, y9, y10⟩ := hz'
  have same : ∀ φ : Th → Nat, φ (G.th j) = 0 → φ U = 0 → (sm N fun k => φ (upd G.th j U k)) = sm N fun k => φ (G.th k) := by
    intro φ h1 h2
    have := sm_upd G.th U φ hj
    omega
  refine ⟨?_, ?_, ?_, ?_, ?_, ?_, ?_, ?_, ?_, ?_, hmok⟩
  · simp only [same own z1 y1, same pend z2 y2, same jw z3 y3, same awk z4 y4, same slp z5 y5]; exact h.mu
  · intro a b c d
    obtain ⟨k, hk, k1, k2⟩ := h.wake a b c d
    have hne : k ≠ j := by rintro rfl; exact z10 k1
    exact ⟨k, hk, by simp only [upd_ne _ _ hne]; exact k1, by simp only [upd_ne _ _ hne]; exact k2⟩
  · intro k hk'
    by_cases hkj : k = j
    · subst hkj; simp only [upd_same]; exact hk
    · simp only [upd_ne _ _ hkj]; exact h.each k hk'
  · simp only [same stc z6 y6]; exact h.once1
  · rintro (hs | ⟨k, hk', hi⟩)
    · obtain ⟨i, hi, hi'⟩ := h.once2 (.inl hs); exact ⟨i, by simp only; omega, hi'⟩
    · by_cases hkj : k = j
      · subst hkj; simp only [upd_same] at hi; exact ho2 hi
      · simp only [upd_ne _ _ hkj] at hi
        obtain ⟨i, hi, hi'⟩ := h.once2 (.inr ⟨k, hk', hi⟩); exact ⟨i, by simp only; omega, hi'⟩
  · simp only [same fin z7 y7, hadd]; exact h.cnt
  · simp only [same d23 z8 y8, same d4c z9 y9, hwt]; exact h.wg3
  · simp only [same d23 z8 y8, same d4c z9 y9, hwt]; exact h.wg4
  · intro k hk'
    obtain ⟨a, b⟩ := hoff k hk'
    simp only [upd_ne _ _ a]; exact h.off k b
  · intro k hk'
    by_cases hkj : k = j
    · subst hkj; simp only [upd_same]; exact hon
    · simp only [upd_ne _ _ hkj]; exact h.on k (hon' k hk' hkj)
theorem give_cases (n i : Nat) : (i < n ∧ Crew.give n i = .gs i) ∨ (n ≤ i ∧ Crew.give n i = .cp) := by
  unfold Crew.give; split
  · exact .inl ⟨by assumption, rfl⟩
  · exact .inr ⟨by omega, rfl⟩
theorem IG.step (h : IG N n ok G) {G' : GS} (hs : Step N n ok G G') : IG N n ok G' := by
  cases hs with
  | work hj hr => exact h.work hj hr
  | main hr => exact h.main hr
  | @spawn j hM =>
    have hm := h.mok
    simp only [hM, MOk] at hm
    have hz : Zero (G.th j) := by rw [h.off j (by simp [hM, spawned])]; exact zero_sel (.inl rfl)
    by_cases hl : j + 1 < N
    · simp only [hl, if_true]
      exact h.swap (U := at_ .sel) hm.1 hz (zero_sel (.inr (.inl rfl))) trivial (fun hi => by simp [inOnce] at hi) (Nat.le_refl _) (by simp [hM, added]) (by simp [hM, waits]) (fun k hk => by simp only [hM, spawned] at hk ⊢; omega) (by simp) (fun k hk hne => by simp only [hM, spawned] at hk ⊢; omega) ⟨hl, hm.2⟩
    · simp only [hl, if_false]
      have e : j + 1 = N := by omega
      rcases give_cases n 0 with ⟨h0, e0⟩ | ⟨h0, e0⟩
      · rw [e0]
        exact h.swap (U := at_ .sel) hm.1 hz (zero_sel (.inr (.inl rfl))) trivial (fun hi => by simp [inOnce] at hi) (Nat.le_refl _) (by simp [hM, added, e]) (by simp [hM, waits]) (fun k hk => by simp only [hM, spawned] at hk ⊢; omega) (by simp) (fun k hk hne => by simp only [hM, spawned] at hk ⊢; omega) ⟨hm.2.1, h0, hm.2.2⟩
      · rw [e0]
        exact h.swap (U := at_ .sel) hm.1 hz (zero_sel (.inr (.inl rfl))) trivial (fun hi => by simp [inOnce] at hi) (Nat.le_refl _) (by simp [hM, added, e]) (by simp [hM, waits]) (fun k hk => by simp only [hM, spawned] at hk ⊢; omega) (by simp) (fun k hk hne => by simp only [hM, spawned] at hk ⊢; omega) ⟨by omega, .inl (by omega), hm.2.2⟩
  | @give i j hM hj hp =>
    have hm := h.mok
    simp only [hM, MOk] at hm
    have hz : Zero (G.th j) := zero_sel (.inr (.inl hp))
    have hz' : Zero (at_ (if ok i then .sel else .o1)) := zero_sel (by split <;> simp)
    have hk : ThOk (at_ (if ok i then .sel else .o1)) G.s := by split <;> trivial
    have ho : inOnce (at_ (if ok i then .sel else .o1)) = true → ∃ k, k < i + 1 ∧ ok k = false := by
      intro hi
      cases hok : ok i
      · exact ⟨i, by omega, hok⟩
      · simp [hok, inOnce] at hi
    have hon : (at_ (if ok i then Pc.sel else Pc.o1)).pc ≠ .off := by simp only; split <;> simp
    rcases give_cases n (i + 1) with ⟨h0, e0⟩ | ⟨h0, e0⟩
    · rw [e0]
      exact h.swap hj hz hz' hk ho (by omega) (by simp [hM, added]) (by simp [hM, waits]) (fun k hk => by simp only [hM, spawned] at hk ⊢; omega) hon (fun k hk hne => by simp only [hM, spawned] at hk ⊢; omega) ⟨rfl, h0, hm.2.2⟩
    · rw [e0]
      exact h.swap hj hz hz' hk ho (by omega) (by simp [hM, added]) (by simp [hM, waits]) (fun k hk => by simp only [hM, spawned] at hk ⊢; omega) hon (fun k hk hne => by simp only [hM, spawned] at hk ⊢; omega) ⟨by omega, .inl (by omega), hm.2.2⟩
  | @shut j hj hp hc =>
    have hjs : j < spawned N G.M := by
      rcases Nat.lt_or_ge j (spawned N G.M) with hlt | hge
      · exact hlt
      · rw [h.off j hge] at hp; cases hp
    exact h.swap (U := at_ .wr) hj (zero_sel (.inr (.inl hp))) (zero_sel (.inr (.inr (.inr rfl)))) hc (fun hi => by simp [inOnce] at hi) (Nat.le_refl _) rfl rfl (fun k hk => ⟨by omega, hk⟩) (by simp) (fun k hk _ => hk) h.mok
  | @stop i hM hc =>
    have hm := h.mok
    simp only [hM, MOk] at hm
    have w4 := h.wg4
    refine ⟨h.mu, h.wake, h.each, h.once1, h.once2, ?_, ?_, ?_, ?_, ?_, ⟨by simp only; omega, .inr hc, hm.2.2⟩⟩
    · have := h.cnt; simpa [hM, added] using this
    · intro hw; simp [waits] at hw
    · intro _; exact w4 (by simp [hM, waits])
    · have := h.off; simpa [hM, spawned] using this
    · have := h.on; simpa [hM, spawned] using this
theorem IG.start (hN : 0 < N) : IG N n ok GS.start := by
  have z : ∀ φ : Th → Nat, φ (at_ .off) = 0 → (sm N fun j => φ (GS.start.th j)) = 0 := fun φ h => sm_zero fun i _ => h
  refine ⟨?_, by simp [GS.start], fun _ _ => trivial, by simp [GS.start], ?_, ?_, by simp [GS.start, waits], fun _ => ⟨rfl, rfl, z d4c rfl, z d23 rfl⟩, fun _ _ => rfl, fun j hj => by simp [GS.start, spawned] at hj, ⟨hN, rfl, rfl⟩⟩
  · rw [z own rfl, z pend rfl, z jw rfl, z awk rfl, z slp rfl]
    exact ⟨rfl, fun _ => rfl, by simp [GS.start], fun _ => rfl, by simp [GS.start]⟩
  · rintro (h | ⟨j, _, h⟩)
    · simp [GS.start] at h
    · simp [GS.start, inOnce] at h
  · rw [z fin rfl]; rfl
/-- SOMEBODY CAN ALWAYS GO ON. -/
theorem IG.not_stuck (hN : 0 < N) (h : IG N n ok G) {parked : Nat → Prop} (hw : ∀ j, j < N → ((G.th j).pc = .sel ∧ G.s.pl = false ∧ G.s.sc = false ∧ parked j) ∨ ((G.th j).pc = .s1 ∧ G.s.ms = 0) ∨ (G.th j).pc = .quit ∨ (G.th j).pc = .off)
    (hm : (∃ i, G.M = .gs i ∧ G.s.sc = false ∧ ∀ j, j < N → ¬ parked j) ∨ (G.M = .w3 ∧ G.s.ws = 0)) : False := by
  have hmok := h.mok
  have zero : ∀ φ : Th → Nat, (∀ T : Th, (T.pc = .sel ∨ T.pc = .s1 ∨ T.pc = .quit ∨ T.pc = .off) → φ T = 0) → (sm N fun j => φ (G.th j)) = 0 := by
    intro φ hφ
    refine sm_zero fun j hj => hφ _ ?_
    rcases hw j hj with x | x | x | x
    · exact .inl x.1
    · exact .inr (.inl x.1)
    · exact .inr (.inr (.inl x))
    · exact .inr (.inr (.inr x))
  -- nobody sleeps at the mutex
  have nos1 : ∀ j, j < N → (G.th j).pc ≠ .s1 := by
    intro j hj e
    have hms : G.s.ms = 0 := by
      rcases hw j hj with x | x | x | x
      · rw [x.1] at e; cases e
      · exact x.2
      · rw [x] at e; cases e
      · rw [x] at e; cases e
    have z1 := zero own (by rintro T (h | h | h | h) <;> simp [own, h])
    have z2 := zero pend (by rintro T (h | h | h | h) <;> simp [pend, h])
    have z3 := zero jw (by rintro T (h | h | h | h) <;> simp [jw, h])
    have z4 := zero awk (by rintro T (h | h | h | h) <;> simp [awk, h])
    have hl := le_sm (f := fun k => slp (G.th k)) hj
    simp only [slp, e] at hl
    have hmu := h.mu
    rw [z1, z2, z3, z4, hms] at hmu
    cases hs : G.s.mu.s
    · have a1 := hmu.norm hs
      have a2 := hmu.wait1 hs
      have a3 := hmu.own
      have hw0 : G.s.mu.w = false := by
        cases hh : G.s.mu.w
        · rfl
        · rw [hh] at a1; simp [b2n] at a1
      have hl0 : G.s.mu.l = false := by
        cases hh : G.s.mu.l
        · rfl
        · rw [hh] at a3; simp [b2n] at a3
      obtain ⟨k, hk, k1, _⟩ := h.wake hl0 hw0 hs (by simp only [slp] at a2; omega)
      rcases hw k hk with x | x | x | x
      · rw [x.1] at k1; cases k1
      · rw [x.1] at k1; cases k1
      · rw [x] at k1; cases k1
      · rw [x] at k1; cases k1
    · have := (hmu.star hs).2.2.1; omega
  have hsp : spawned N G.M = N := by rcases hm with ⟨i, e, _⟩ | ⟨e, _⟩ <;> rw [e] <;> rfl
  have all : ∀ j, j < N → ((G.th j).pc = .sel ∧ G.s.pl = false ∧ G.s.sc = false ∧ parked j) ∨ (G.th j).pc = .quit := by
    intro j hj
    rcases hw j hj with x | x | x | x
    · exact .inl x
    · exact absurd x.1 (nos1 j hj)
    · exact .inr x
    · exact absurd x (h.on j (by rw [hsp]; exact hj))
  rcases hm with ⟨i, e, hsc, hp⟩ | ⟨e, hws⟩
  · simp only [e, MOk] at hmok
    rcases all 0 hN with x | x
    · exact hp 0 hN x.2.2.2
    · have := h.each 0 hN
      simp only [ThOk, x, hmok.2.2, hsc] at this
      rcases this with h | h <;> cases h
  · simp only [e, MOk] at hmok
    have q : ∀ j, j < N → (G.th j).pc = .quit := by
      intro j hj
      rcases all j hj with x | x
      · rw [hmok.2.2] at x; cases x.2.1
      · exact x
    have f1 : (sm N fun j => fin (G.th j)) = N := sm_ind (p := N) (fun j hj => by simp [fin, q j hj]) (fun j hj => by rw [h.off j (by rw [hsp]; exact hj)]; rfl) (Nat.le_refl _)
    have hc := h.cnt
    simp only [e, added] at hc
    obtain ⟨x1, x2, x3, x4⟩ := h.wg3 (by simp [e, waits])
    have z4 : (sm N fun j => d4c (G.th j)) = 0 := sm_zero fun j hj => by simp [d4c, q j hj]
    have z5 : (sm N fun j => d23 (G.th j)) = 0 := sm_zero fun j hj => by simp [d23, q j hj]
    have hwv : G.s.wv = true := by
      cases hv : G.s.wv
      · simp [hv, b2n] at x1; omega
      · rfl
    rcases x4 hwv with y | y <;> omega
/-- BEHIND THE WAIT ALL HAVE GONE. -/
theorem IG.gone (h : IG N n ok G) (hM : G.M = .ke ∨ G.M = .aq ∨ G.M = .ret) {j : Nat} (hj : j < N) : (G.th j).pc = .quit := by
  have hmok := h.mok
  have hsp : spawned N G.M = N := by rcases hM with e | e | e <;> rw [e] <;> rfl
  have hc : G.s.c = 0 := by rcases hM with e | e | e <;> simp only [e, MOk] at hmok <;> exact hmok.2.2.2
  obtain ⟨_, _, w3, w4⟩ := h.wg4 (by rcases hM with e | e | e <;> simp [e, waits])
  have hon := h.on j (by rw [hsp]; exact hj)
  have l1 := le_sm (f := fun k => d4c (G.th k)) hj
  have l2 := le_sm (f := fun k => d23 (G.th k)) hj
  have hf : fin (G.th j) ≠ 0 := fun e => by have := h.counted hj hon e; omega
  rw [w3] at l1
  rw [w4] at l2
  cases hp : (G.th j).pc <;> simp [fin, d23, d4c, hp] at hf l1 l2 ⊢
end Go.Proofs.Ytpkiojchlficcaa.Crew

/- The automaton's invariant: kept by every step; under it somebody can always go on; behind the giver's Wait all workers have gone. -/
import Derived.Test.YtpkiojchlficcaaMutex
namespace Go.Proofs.Ytpkiojchlficcaa.Crew

/-- Behind the Once's first look, ahead of its last step. -/
def inOnce (T : Th) : Bool := match T.pc with
  | .off | .sel | .wr | .wk | .d1 | .d2 | .d3 | .d4 | .quit => false
  | _ => true
def added (N : Nat) (M : Mp) : Nat := match M with
  | .k1 j | .k2 j => j
  | .k3 j | .k4 j | .go j => j + 1
  | _ => N
def spawned (N : Nat) (M : Mp) : Nat := match M with
  | .k1 j | .k2 j | .k3 j | .k4 j | .go j => j
  | _ => N
def waits (M : Mp) : Bool := match M with | .wm | .w3 => true | _ => false
def MOk (N n : Nat) (s : Sh) (gv : Nat) (M : Mp) : Prop :=
  match M with
  | .k1 j | .k2 j | .k3 j | .k4 j | .go j => j < N ∧ gv = 0 ∧ s.pl = false
  | .gs i => gv = i ∧ i < n ∧ s.pl = false
  | .cp => gv ≤ n ∧ (gv = n ∨ s.sc = true) ∧ s.pl = false
  | .w2 c v => gv ≤ n ∧ (gv = n ∨ s.sc = true) ∧ s.pl = true ∧ v = false ∧ 0 < c
  | .w4 | .ke | .aq | .ret => gv ≤ n ∧ (gv = n ∨ s.sc = true) ∧ s.pl = true ∧ s.c = 0
  | .bad => False
  | _ => gv ≤ n ∧ (gv = n ∨ s.sc = true) ∧ s.pl = true
structure IG (N n : Nat) (ok : Nat → Bool) (G : GS) : Prop where
  mu : MuC G.s.mu G.s.ms (sm N fun j => own (G.th j)) (sm N fun j => pend (G.th j)) (sm N fun j => jw (G.th j)) (sm N fun j => awk (G.th j)) (sm N fun j => slp (G.th j))
  wake : G.s.mu.l = false → G.s.mu.w = false → G.s.mu.s = false → 0 < G.s.mu.n → ∃ j, j < N ∧ (G.th j).pc = .uc ∧ (G.th j).old = G.s.mu
  each : ∀ j, j < N → ThOk (G.th j) G.s
  once1 : G.s.sc = true → G.s.dn = true ∨ 1 ≤ sm N fun j => stc (G.th j)
  once2 : (G.s.sc = true ∨ ∃ j, j < N ∧ inOnce (G.th j) = true) → ∃ i, i < G.gv ∧ ok i = false
  cnt : G.s.c + (sm N fun j => fin (G.th j)) = added N G.M
  wg3 : waits G.M = true → b2n G.s.wv + (sm N fun j => d4c (G.th j)) + G.s.ws = 1 ∧ (G.s.wv = false → G.s.c = 0 ∧ (sm N fun j => d23 (G.th j)) = 0) ∧ (sm N fun j => d23 (G.th j)) ≤ 1 ∧ (G.s.wv = true → 0 < G.s.c ∨ 1 ≤ sm N fun j => d23 (G.th j))
  wg4 : waits G.M = false → G.s.wv = false ∧ G.s.ws = 0 ∧ (sm N fun j => d4c (G.th j)) = 0 ∧ (sm N fun j => d23 (G.th j)) = 0
  off : ∀ j, spawned N G.M ≤ j → G.th j = at_ .off
  on : ∀ j, j < spawned N G.M → (G.th j).pc ≠ .off
  mok : MOk N n G.s G.gv G.M
def act (T : Th) : Nat := match T.pc with | .off => 0 | _ => 1
theorem sm_ind {f : Nat → Nat} {p : Nat} (h1 : ∀ j, j < p → f j = 1) (h0 : ∀ j, p ≤ j → f j = 0) : ∀ {N : Nat}, p ≤ N → sm N f = p
  | 0, h => by simp [sm]; omega
  | N + 1, h => by
    rcases Nat.lt_or_ge N p with hlt | hge
    · obtain rfl : p = N + 1 := by omega
      have e : sm N f = N := by
        have : ∀ M, M ≤ N → sm M f = M := by
          intro M
          induction M with
          | zero => intro _; rfl
          | succ M ih => intro hM; simp only [sm, ih (by omega), h1 M (by omega)]
        exact this N (Nat.le_refl _)
      simp only [sm, e, h1 N (by omega)]
    · simp only [sm, sm_ind h1 h0 hge, h0 N hge]
      omega
section
variable {N n : Nat} {ok : Nat → Bool} {G : GS}
theorem spawned_le (h : IG N n ok G) : spawned N G.M ≤ N := by
  have := h.mok
  cases e : G.M <;> simp only [e, MOk, spawned] at * <;> omega
theorem spawned_added (N : Nat) (M : Mp) : spawned N M ≤ added N M := by cases M <;> simp [spawned, added]
theorem IG.act (h : IG N n ok G) : (sm N fun j => act (G.th j)) = spawned N G.M := by
  refine sm_ind (fun j hj => ?_) (fun j hj => by rw [h.off j hj]; rfl) (spawned_le h)
  have := h.on j hj
  unfold Crew.act
  split
  · contradiction
  · rfl
theorem fin_le (T : Th) : fin T ≤ Crew.act T := by unfold fin Crew.act; split <;> simp_all
/-- Whoever is there and has not ended is still counted. -/
theorem IG.counted (h : IG N n ok G) {j : Nat} (hj : j < N) (h1 : (G.th j).pc ≠ .off) (h2 : fin (G.th j) = 0) : 0 < G.s.c := by
  have hs := spawned_added N G.M
  have ha := h.act
  have hc := h.cnt
  have e : (sm N fun j => fin (G.th j)) + (sm N fun j => Crew.act (G.th j) - fin (G.th j)) = sm N fun j => Crew.act (G.th j) := by
    rw [← sm_add]
    exact sm_congr fun i _ => by have := fin_le (G.th i); omega
  have hp := le_sm (f := fun j => Crew.act (G.th j) - fin (G.th j)) hj
  have : Crew.act (G.th j) = 1 := by unfold Crew.act; split <;> simp_all
  simp only [this, h2] at hp
  omega
/-! ### one worker's step -/
section
variable {T U : Th} {s : Sh} {r : Th × Sh}
/-- Which step turns the mutex's word. -/
theorem mu_turn (hT : ThOk T s) (hr : r ∈ wmv T s) : r.2.mu = s.mu ∨ (r.2.mu.l = true ∨ r.2.mu.w = true ∨ r.2.mu.s = true) ∨ (T.pc = .u0 ∧ r.2.mu = { s.mu with l := false } ∧ (s.mu.s = false → r.1 = uck { s.mu with l := false })) := by
  obtain ⟨pc, old, aw, sv, it⟩ := T
  cases pc <;> simp only [wmv, List.not_mem_nil] at hr
  case l0 => split at hr <;> simp at hr <;> subst hr <;> simp
  case c1 => split at hr <;> simp at hr <;> subst hr <;> simp
  case c2 =>
    split at hr
    · split at hr <;> simp at hr
      · rename_i hx; subst hr; simp [nwd, hx]
      · rename_i hx
        have : (nwd ⟨.c2, old, aw, sv, it⟩).l = true ∨ (nwd ⟨.c2, old, aw, sv, it⟩).s = true := by
          simp only [nwd]
          cases hl : old.l <;> cases hs : old.s <;> simp_all
        rcases hr with rfl | rfl
        · exact .inr (.inl (this.elim .inl fun h => .inr (.inr h)))
        · exact .inr (.inl (this.elim .inl fun h => .inr (.inr h)))
    · simp at hr; subst hr; simp
  case a1 => split at hr <;> simp at hr <;> subst hr <;> simp
  case u0 =>
    split at hr <;> simp at hr <;> subst hr
    · simp
    · right; right
      exact ⟨rfl, rfl, fun hs => by show (if s.mu.s = true then _ else _) = _; rw [if_neg (by simp [hs])]⟩
  case uc => split at hr <;> simp at hr <;> subst hr <;> simp
  case o1 => split at hr <;> simp at hr <;> subst hr <;> simp
  case sq => simp at hr; rcases hr with rfl | ⟨_, rfl⟩ <;> simp
  case s1 => split at hr <;> simp at hr; subst hr; simp
  case t2 => simp at hr; rcases hr with rfl | rfl <;> simp
  case r2 =>
    split at hr
    · split at hr <;> simp at hr <;> subst hr <;> simp
    · simp at hr; subst hr; simp
  case o2 => split at hr <;> simp at hr <;> subst hr <;> simp
  case cl => split at hr <;> simp at hr <;> subst hr <;> simp
  case d1 => split at hr <;> simp at hr <;> subst hr <;> simp
  case d2 => split at hr <;> simp at hr <;> subst hr <;> simp
  all_goals (simp at hr; subst hr; simp)
/-- In hunger, one having been handed the lock, the word only grows. -/
theorem mu_hungry (hT : ThOk T s) (hr : r ∈ wmv T s) (hs : s.mu.s = true) (h0 : own T = 0) (h1 : jw T = 0) : r.2.mu.s = true ∧ s.mu.n ≤ r.2.mu.n := by
  obtain ⟨pc, old, aw, sv, it⟩ := T
  cases pc <;> simp only [wmv, List.not_mem_nil] at hr
  case l0 =>
    split at hr <;> simp at hr <;> subst hr
    · rename_i e; rw [e] at hs; cases hs
    · exact ⟨hs, Nat.le_refl _⟩
  case c1 =>
    split at hr <;> simp at hr <;> subst hr
    · rename_i e; rw [e] at hs; have := hT.2.2.2.2.1; simp_all
    · exact ⟨hs, Nat.le_refl _⟩
  case c2 =>
    split at hr
    · rename_i e
      rw [e] at hs ⊢
      split at hr <;> simp at hr
      · rename_i hx; simp_all
      · rcases hr with rfl | rfl <;> (simp only [nwd]; simp [hs])
    · simp at hr; subst hr; exact ⟨hs, Nat.le_refl _⟩
  case a1 => exact absurd h1 (by simp [jw])
  case u0 => exact absurd h0 (by simp [own])
  case uc =>
    split at hr <;> simp at hr <;> subst hr
    · rename_i e; rw [e] at hs; have := hT.2.2.1; simp_all
    · exact ⟨hs, Nat.le_refl _⟩
  case o1 => split at hr <;> simp at hr <;> subst hr <;> exact ⟨hs, Nat.le_refl _⟩
  case sq => simp at hr; rcases hr with rfl | ⟨_, rfl⟩ <;> exact ⟨hs, Nat.le_refl _⟩
  case s1 => split at hr <;> simp at hr; subst hr; exact ⟨hs, Nat.le_refl _⟩
  case t2 => simp at hr; rcases hr with rfl | rfl <;> exact ⟨hs, Nat.le_refl _⟩
  case r2 =>
    rw [if_pos hs] at hr
    split at hr <;> simp at hr <;> subst hr <;> exact ⟨hs, Nat.le_refl _⟩
  case o2 => split at hr <;> simp at hr <;> subst hr <;> exact ⟨hs, Nat.le_refl _⟩
  case cl => split at hr <;> simp at hr <;> subst hr <;> exact ⟨hs, Nat.le_refl _⟩
  case d1 => split at hr <;> simp at hr <;> subst hr <;> exact ⟨hs, Nat.le_refl _⟩
  case d2 => split at hr <;> simp at hr <;> subst hr <;> exact ⟨hs, Nat.le_refl _⟩
  all_goals (simp at hr; subst hr; exact ⟨hs, Nat.le_refl _⟩)
/-- Of the flags and of the group: which step turns them. -/
def Plain (T : Th) (s : Sh) (r : Th × Sh) : Prop :=
  r.2.c = s.c ∧ r.2.wv = s.wv ∧ r.2.ws = s.ws ∧ r.2.sc = s.sc ∧ r.2.dn = s.dn ∧ r.2.pl = s.pl ∧ fin r.1 = 0 ∧ fin T = 0 ∧ d23 r.1 = 0 ∧ d23 T = 0 ∧ d4c r.1 = 0 ∧ d4c T = 0 ∧ stc r.1 = 0 ∧ stc T = 0 ∧ (inOnce r.1 = true → inOnce T = true)
theorem plain_of {T U : Th} {s s' : Sh} (h1 : s'.c = s.c) (h2 : s'.wv = s.wv) (h3 : s'.ws = s.ws) (h4 : s'.sc = s.sc) (h5 : s'.dn = s.dn) (h6 : s'.pl = s.pl)
    (hU : U.pc = .sel ∨ (inOnce T = true ∧ fin U = 0 ∧ d23 U = 0 ∧ d4c U = 0 ∧ stc U = 0)) (hT : fin T = 0 ∧ d23 T = 0 ∧ d4c T = 0 ∧ stc T = 0) : Plain T s (U, s') := by
  obtain ⟨t1, t2, t3, t4⟩ := hT
  rcases hU with hU | ⟨u0, u1, u2, u3, u4⟩
  · exact ⟨h1, h2, h3, h4, h5, h6, by simp [fin, hU], t1, by simp [d23, hU], t2, by simp [d4c, hU], t3, by simp [stc, hU], t4, by simp [inOnce, hU]⟩
  · exact ⟨h1, h2, h3, h4, h5, h6, u1, t1, u2, t2, u3, t3, u4, t4, fun _ => u0⟩
theorem uck_pc (m : Wd) : (uck m).pc = .ue ∨ (uck m).pc = .uc := by unfold uck; split <;> simp
theorem zero_of {U : Th} (h : U.pc = .ue ∨ U.pc = .uc ∨ U.pc = .sq ∨ U.pc = .c2 ∨ U.pc = .us ∨ U.pc = .r2 ∨ U.pc = .t2 ∨ U.pc = .c1 ∨ U.pc = .r1 ∨ U.pc = .bad) : fin U = 0 ∧ d23 U = 0 ∧ d4c U = 0 ∧ stc U = 0 := by
  rcases h with h | h | h | h | h | h | h | h | h | h <;> simp [fin, d23, d4c, stc, h]
theorem hd_pc (T : Th) : (hd T).pc = .sq ∨ (hd T).pc = .c2 ∨ (hd T).pc = .bad := by
  unfold hd toC2
  split
  · simp
  · split <;> simp
theorem toC2_pc (T : Th) : (toC2 T).pc = .c2 ∨ (toC2 T).pc = .bad := by unfold toC2; split <;> simp
theorem rest_turn (hc : T.pc = .d1 → s.c ≠ 0) (hT : ThOk T s) (hr : r ∈ wmv T s) :
    Plain T s r ∨ (T.pc = .cl ∧ r = (at_ .st, { s with sc := true })) ∨ (T.pc = .st ∧ r = (at_ .ur, { s with dn := true })) ∨
      (T.pc = .d1 ∧ r = (if s.c = 1 ∧ s.wv = true then at_ .d2 else at_ .quit, { s with c := s.c - 1 })) ∨ (T.pc = .d2 ∧ r = (at_ .d3, s)) ∨
      (T.pc = .d3 ∧ r = (at_ .d4, { s with c := 0, wv := false })) ∨ (T.pc = .d4 ∧ r = (at_ .quit, { s with ws := s.ws + 1 })) := by
  obtain ⟨pc, old, aw, sv, it⟩ := T
  have hz : ∀ U : Th, (hd U).pc = .sq ∨ (hd U).pc = .c2 ∨ (hd U).pc = .bad → fin (hd U) = 0 ∧ d23 (hd U) = 0 ∧ d4c (hd U) = 0 ∧ stc (hd U) = 0 := fun U h => zero_of (by rcases h with h | h | h <;> simp [h])
  cases pc <;> simp only [wmv, List.not_mem_nil] at hr
  case cl =>
    have : s.sc = false := hT
    simp [this] at hr; exact .inr (.inl ⟨rfl, hr⟩)
  case st => simp at hr; exact .inr (.inr (.inl ⟨rfl, hr⟩))
  case d1 => have := hc rfl; simp [this] at hr; exact .inr (.inr (.inr (.inl ⟨rfl, hr⟩)))
  case d2 =>
    have h1 := hT.1; have h2 := hT.2.1
    simp [h1, h2] at hr; exact .inr (.inr (.inr (.inr (.inl ⟨rfl, hr⟩))))
  case d3 => simp at hr; exact .inr (.inr (.inr (.inr (.inr (.inl ⟨rfl, hr⟩)))))
  case d4 => simp at hr; exact .inr (.inr (.inr (.inr (.inr (.inr ⟨rfl, hr⟩)))))
  all_goals left
  case o1 => split at hr <;> simp at hr <;> subst hr <;> exact plain_of rfl rfl rfl rfl rfl rfl (by simp [inOnce, fin, d23, d4c, stc]) ⟨rfl, rfl, rfl, rfl⟩
  case l0 => split at hr <;> simp at hr <;> subst hr <;> exact plain_of rfl rfl rfl rfl rfl rfl (by simp [inOnce, fin, d23, d4c, stc]) ⟨rfl, rfl, rfl, rfl⟩
  case r0 => simp at hr; subst hr; exact plain_of rfl rfl rfl rfl rfl rfl (.inr ⟨rfl, hz _ (hd_pc _)⟩) ⟨rfl, rfl, rfl, rfl⟩
  case r1 => simp at hr; subst hr; exact plain_of rfl rfl rfl rfl rfl rfl (.inr ⟨rfl, hz _ (hd_pc _)⟩) ⟨rfl, rfl, rfl, rfl⟩
  case r3 => simp at hr; subst hr; exact plain_of rfl rfl rfl rfl rfl rfl (.inr ⟨rfl, hz _ (hd_pc _)⟩) ⟨rfl, rfl, rfl, rfl⟩
  case sq =>
    simp at hr
    rcases hr with rfl | ⟨_, rfl⟩
    · exact plain_of rfl rfl rfl rfl rfl rfl (.inr ⟨rfl, zero_of (by rcases toC2_pc ⟨.sq, old, aw, sv, it⟩ with h | h <;> simp [h])⟩) ⟨rfl, rfl, rfl, rfl⟩
    · exact plain_of rfl rfl rfl rfl rfl rfl (.inr ⟨rfl, zero_of (by split <;> simp)⟩) ⟨rfl, rfl, rfl, rfl⟩
  case c1 => split at hr <;> simp at hr <;> subst hr <;> exact plain_of rfl rfl rfl rfl rfl rfl (by simp [inOnce, fin, d23, d4c, stc]) ⟨rfl, rfl, rfl, rfl⟩
  case c2 =>
    split at hr
    · split at hr <;> simp at hr
      · subst hr; exact plain_of rfl rfl rfl rfl rfl rfl (by simp [inOnce, fin, d23, d4c, stc]) ⟨rfl, rfl, rfl, rfl⟩
      · rcases hr with rfl | rfl <;> exact plain_of rfl rfl rfl rfl rfl rfl (by simp [inOnce, fin, d23, d4c, stc]) ⟨rfl, rfl, rfl, rfl⟩
    · simp at hr; subst hr; exact plain_of rfl rfl rfl rfl rfl rfl (by simp [inOnce, fin, d23, d4c, stc]) ⟨rfl, rfl, rfl, rfl⟩
  case s1 =>
    split at hr <;> simp at hr
    subst hr
    exact plain_of rfl rfl rfl rfl rfl rfl (.inr ⟨rfl, zero_of (by split <;> simp)⟩) ⟨rfl, rfl, rfl, rfl⟩
  case t2 => simp at hr; rcases hr with rfl | rfl <;> exact plain_of rfl rfl rfl rfl rfl rfl (by simp [inOnce, fin, d23, d4c, stc]) ⟨rfl, rfl, rfl, rfl⟩
  case r2 =>
    split at hr
    · split at hr <;> simp at hr <;> subst hr <;> exact plain_of rfl rfl rfl rfl rfl rfl (by simp [inOnce, fin, d23, d4c, stc]) ⟨rfl, rfl, rfl, rfl⟩
    · simp at hr; subst hr; exact plain_of rfl rfl rfl rfl rfl rfl (.inr ⟨rfl, hz _ (hd_pc _)⟩) ⟨rfl, rfl, rfl, rfl⟩
  case a1 => split at hr <;> simp at hr <;> subst hr <;> exact plain_of rfl rfl rfl rfl rfl rfl (by simp [inOnce, fin, d23, d4c, stc]) ⟨rfl, rfl, rfl, rfl⟩
  case o2 => split at hr <;> simp at hr <;> subst hr <;> exact plain_of rfl rfl rfl rfl rfl rfl (by simp [inOnce, fin, d23, d4c, stc]) ⟨rfl, rfl, rfl, rfl⟩
  case u0 =>
    split at hr <;> simp at hr <;> subst hr
    · exact plain_of rfl rfl rfl rfl rfl rfl (by simp [inOnce, fin, d23, d4c, stc]) ⟨rfl, rfl, rfl, rfl⟩
    · exact plain_of rfl rfl rfl rfl rfl rfl (.inr ⟨rfl, zero_of (by
        split
        · simp
        · rcases uck_pc { s.mu with l := false } with h | h <;> simp [h])⟩) ⟨rfl, rfl, rfl, rfl⟩
  case uc => split at hr <;> simp at hr <;> subst hr <;> exact plain_of rfl rfl rfl rfl rfl rfl (by simp [inOnce, fin, d23, d4c, stc]) ⟨rfl, rfl, rfl, rfl⟩
  case ux => simp at hr; subst hr; exact plain_of rfl rfl rfl rfl rfl rfl (.inr ⟨rfl, zero_of (by rcases uck_pc s.mu with h | h <;> simp [h])⟩) ⟨rfl, rfl, rfl, rfl⟩
  case wr => simp at hr; subst hr; exact ⟨rfl, rfl, rfl, rfl, rfl, rfl, rfl, rfl, rfl, rfl, rfl, rfl, rfl, rfl, fun h => absurd h (by simp [inOnce])⟩
  case wk => simp at hr; subst hr; exact ⟨rfl, rfl, rfl, rfl, rfl, rfl, rfl, rfl, rfl, rfl, rfl, rfl, rfl, rfl, fun h => absurd h (by simp [inOnce])⟩
  all_goals (simp at hr; subst hr; first | exact plain_of rfl rfl rfl rfl rfl rfl (by simp [inOnce, fin, d23, d4c, stc]) ⟨rfl, rfl, rfl, rfl⟩ | exact ⟨rfl, rfl, rfl, rfl, rfl, rfl, rfl, rfl, rfl, rfl, rfl, rfl, rfl, rfl, fun h => absurd h (by simp [inOnce])⟩)
theorem pc_on (hr : r ∈ wmv T s) : T.pc ≠ .off ∧ r.1.pc ≠ .off := by
  obtain ⟨pc, old, aw, sv, it⟩ := T
  have hq : ∀ U : Th, (hd U).pc ≠ .off := fun U => by rcases hd_pc U with h | h | h <;> simp [h]
  have hu : ∀ m : Wd, (uck m).pc ≠ .off := fun m => by rcases uck_pc m with h | h <;> simp [h]
  have ht : ∀ U : Th, (toC2 U).pc ≠ .off := fun U => by rcases toC2_pc U with h | h <;> simp [h]
  cases pc <;> simp only [wmv, List.not_mem_nil] at hr
  all_goals refine ⟨by simp, ?_⟩
  case sq =>
    simp at hr
    rcases hr with rfl | ⟨_, rfl⟩
    · exact ht _
    · split <;> simp
  case c2 =>
    split at hr
    · split at hr <;> simp at hr
      · subst hr; simp
      · rcases hr with rfl | rfl <;> simp
    · simp at hr; subst hr; simp
  case s1 =>
    split at hr <;> simp at hr
    subst hr; split <;> simp
  case t2 => simp at hr; rcases hr with rfl | rfl <;> simp
  case r2 =>
    split at hr
    · split at hr <;> simp at hr <;> subst hr <;> simp
    · simp at hr; subst hr; exact hq _
  case u0 =>
    split at hr <;> simp at hr <;> subst hr
    · simp
    · split
      · simp
      · exact hu _
  case d1 =>
    split at hr <;> simp at hr <;> subst hr
    · simp
    · split <;> simp
  case o1 => split at hr <;> simp at hr <;> subst hr <;> simp
  case l0 => split at hr <;> simp at hr <;> subst hr <;> simp
  case c1 => split at hr <;> simp at hr <;> subst hr <;> simp
  case a1 => split at hr <;> simp at hr <;> subst hr <;> simp
  case o2 => split at hr <;> simp at hr <;> subst hr <;> simp
  case cl => split at hr <;> simp at hr <;> subst hr <;> simp
  case uc => split at hr <;> simp at hr <;> subst hr <;> simp
  case d2 => split at hr <;> simp at hr <;> subst hr <;> simp
  all_goals (simp at hr; subst hr; first | exact hq _ | exact hu _ | simp)
/-- The others stand as they stood. -/
theorem other_ok (hU : ThOk U s) (hT : ThOk T s) (hc : T.pc = .d1 → s.c ≠ 0) (hr : r ∈ wmv T s) (h1 : jw U = 1 → s.mu.s = true → own T = 0 ∧ jw T = 0) (h2 : U.pc = .cl → T.pc ≠ .cl) (h3 : d23 U = 1 → T.pc ≠ .d3) : ThOk U r.2 := by
  have hp : (s.pl = true ∨ s.sc = true) → (r.2.pl = true ∨ r.2.sc = true) := by
    rcases rest_turn hc hT hr with ⟨_, _, _, e4, _, e6, _⟩ | ⟨_, rfl⟩ | ⟨_, rfl⟩ | ⟨_, rfl⟩ | ⟨_, rfl⟩ | ⟨_, rfl⟩ | ⟨_, rfl⟩
    · rw [e4, e6]; exact id
    all_goals (intro h; first | exact h | exact .inr rfl)
  have hd : d23 U = 1 → s.c = 0 → s.wv = true → r.2.c = 0 ∧ r.2.wv = true := by
    intro hu h0 hw
    rcases rest_turn hc hT hr with ⟨e1, e2, _⟩ | ⟨_, rfl⟩ | ⟨_, rfl⟩ | ⟨hh, rfl⟩ | ⟨_, rfl⟩ | ⟨hh, rfl⟩ | ⟨_, rfl⟩
    · rw [e1, e2]; exact ⟨h0, hw⟩
    · exact ⟨h0, hw⟩
    · exact ⟨h0, hw⟩
    · exact absurd h0 (hc hh)
    · exact ⟨h0, hw⟩
    · exact absurd hh (h3 hu)
    · exact ⟨h0, hw⟩
  obtain ⟨pc, old, aw, sv, it⟩ := U
  cases pc <;> try exact hU
  case a1 =>
    obtain ⟨t1, t2, t3⟩ := hU
    obtain ⟨k1, k2⟩ := h1 rfl t1
    obtain ⟨m1, m2⟩ := mu_hungry hT hr t1 k1 k2
    exact ⟨m1, Nat.le_trans t2 m2, t3⟩
  case cl =>
    have hU' : s.sc = false := hU
    show r.2.sc = false
    rcases rest_turn hc hT hr with ⟨_, _, _, e4, _⟩ | ⟨hh, rfl⟩ | ⟨_, rfl⟩ | ⟨_, rfl⟩ | ⟨_, rfl⟩ | ⟨_, rfl⟩ | ⟨_, rfl⟩
    · rw [e4]; exact hU'
    · exact absurd hh (h2 rfl)
    all_goals exact hU'
  case d2 => exact ⟨(hd rfl hU.1 hU.2.1).1, (hd rfl hU.1 hU.2.1).2, hp hU.2.2⟩
  case d3 => exact ⟨(hd rfl hU.1 hU.2.1).1, (hd rfl hU.1 hU.2.1).2, hp hU.2.2⟩
  case wr => exact hp hU
  case wk => exact hp hU
  case d1 => exact hp hU
  case d4 => exact hp hU
  case quit => exact hp hU
end
theorem own_le (T : Th) : own T ≤ 1 := by unfold own; split <;> omega
theorem b2n_le (b : Bool) : b2n b ≤ 1 := by cases b <;> simp [b2n]
theorem stc_own (T : Th) : stc T ≤ own T := by unfold stc own; split <;> simp_all
/-- ████ A WORKER's STEP KEEPS THE INVARIANT. ████ -/
theorem IG.work (h : IG N n ok G) {j : Nat} {r : Th × Sh} (hj : j < N) (hr : r ∈ wmv (G.th j) G.s) : IG N n ok { G with th := upd G.th j r.1, s := r.2 } := by
  obtain ⟨hon, hon'⟩ := pc_on hr
  have hT := h.each j hj
  have hjs : j < spawned N G.M := by
    rcases Nat.lt_or_ge j (spawned N G.M) with hlt | hge
    · exact hlt
    · rw [h.off j hge] at hon; exact absurd rfl hon
  have hc : (G.th j).pc = .d1 → G.s.c ≠ 0 := fun e => by
    have := h.counted hj hon (by simp [fin, e]); omega
  have hown1 : (sm N fun k => own (G.th k)) ≤ 1 := by rw [h.mu.own]; exact b2n_le _
  have hsc : (G.th j).pc = .o2 → G.s.dn = false → G.s.sc = false := by
    intro e hd
    cases hs : G.s.sc
    · rfl
    · exfalso
      rcases h.once1 hs with h1 | h1
      · rw [hd] at h1; cases h1
      · obtain ⟨k, hk, hk'⟩ := sm_pos h1
        have hne : j ≠ k := by rintro rfl; simp [stc, e] at hk'
        have := sm_two (f := fun k => own (G.th k)) hj hk hne
        have h2 := stc_own (G.th k)
        have : own (G.th j) = 1 := by simp [own, e]
        omega
  have e1 := sm_upd G.th r.1 own hj
  have e2 := sm_upd G.th r.1 pend hj
  have e3 := sm_upd G.th r.1 jw hj
  have e4 := sm_upd G.th r.1 awk hj
  have e5 := sm_upd G.th r.1 slp hj
  have e6 := sm_upd G.th r.1 stc hj
  have e7 := sm_upd G.th r.1 fin hj
  have e8 := sm_upd G.th r.1 d23 hj
  have e9 := sm_upd G.th r.1 d4c hj
  have l1 := le_sm (f := fun k => own (G.th k)) hj
  have l2 := le_sm (f := fun k => pend (G.th k)) hj
  have l3 := le_sm (f := fun k => jw (G.th k)) hj
  have l4 := le_sm (f := fun k => awk (G.th k)) hj
  have l5 := le_sm (f := fun k => slp (G.th k)) hj
  have l7 := le_sm (f := fun k => fin (G.th k)) hj
  have l8 := le_sm (f := fun k => d23 (G.th k)) hj
  have l9 := le_sm (f := fun k => d4c (G.th k)) hj
  obtain ⟨hmu, hme⟩ := mu_work hT hsc hc hr h.mu l1 l2 l3 l4 l5 e1 e2 e3 e4 e5
  have hrest := rest_turn hc hT hr
  have hd23 : d23 (G.th j) = 1 → (sm N fun k => d23 (G.th k)) ≤ 1 := by
    intro hd
    cases hw : waits G.M
    · have := (h.wg4 hw).2.2.2; omega
    · exact (h.wg3 hw).2.2.1
  refine ⟨hmu, ?_, ?_, ?_, ?_, ?_, ?_, ?_, ?_, ?_, ?_⟩
  · -- who will be woken
    intro hl hw hs hn
    simp only at hl hw hs hn
    rcases mu_turn hT hr with e | e | ⟨ep, e, e'⟩
    · rw [e] at hl hw hs hn
      obtain ⟨k, hk, k1, k2⟩ := h.wake hl hw hs hn
      by_cases hkj : k = j
      · subst hkj
        exfalso
        -- it would have gone through
        have : r.2.mu ≠ G.s.mu := by
          generalize hTT : G.th k = T at hr k1 k2
          obtain ⟨pc, old, aw, sv, it⟩ := T
          simp only at k1 k2
          subst k1
          simp only [wmv, k2, if_true] at hr
          simp at hr
          subst hr
          intro e
          have := congrArg Wd.w e
          simp only at this
          rw [hw] at this; cases this
        exact this e
      · exact ⟨k, hk, by simp only [upd_ne _ _ hkj]; exact k1, by simp only [upd_ne _ _ hkj]; rw [e]; exact k2⟩
    · exfalso
      rcases e with e | e | e
      · rw [hl] at e; cases e
      · rw [hw] at e; cases e
      · rw [hs] at e; cases e
    · have hs0 : G.s.mu.s = false := by rw [e] at hs; exact hs
      refine ⟨j, hj, ?_⟩
      simp only [upd_same]
      rw [e' hs0]
      rw [e] at hl hw hs hn ⊢
      unfold uck
      rw [if_neg (by simp only at hl hw hs hn ⊢; simp [hw, hs]; omega)]
      exact ⟨rfl, rfl⟩
  · -- each
    intro k hk
    by_cases hkj : k = j
    · subst hkj; simp only [upd_same]; exact hme
    · simp only [upd_ne _ _ hkj]
      have hne : k ≠ j := hkj
      refine other_ok (h.each k hk) hT hc hr (fun hjw hs => ?_) (fun e e' => ?_) (fun hd e => ?_)
      · have hst := (h.mu.star hs).2.2.1
        have t1 := sm_two (f := fun k => jw (G.th k)) hk hj hne
        omega
      · have t1 := sm_two (f := fun k => own (G.th k)) hk hj hne
        have a1 : own (G.th k) = 1 := by simp [own, e]
        have a2 : own (G.th j) = 1 := by simp [own, e']
        omega
      · have t1 := sm_two (f := fun k => d23 (G.th k)) hk hj hne
        have : d23 (G.th j) = 1 := by simp [d23, e]
        have := hd23 this
        omega
  · -- once1
    intro hs
    simp only at hs ⊢
    rcases hrest with ⟨_, _, _, r4, r5, _, _, _, _, _, _, _, r13, r14, _⟩ | ⟨ep, rfl⟩ | ⟨_, rfl⟩ | ⟨ep, rfl⟩ | ⟨ep, rfl⟩ | ⟨ep, rfl⟩ | ⟨ep, rfl⟩
    · rw [r4] at hs
      rcases h.once1 hs with k | k
      · exact .inl (r5.trans k)
      · right; omega
    · right
      have : stc (at_ .st) = 1 := rfl
      have s0 : stc (G.th j) = 0 := by simp [stc, ep]
      simp only at e6 ⊢
      omega
    · exact .inl rfl
    all_goals (
      rcases h.once1 hs with k | k
      · exact .inl k
      · right
        have s0 : stc (G.th j) = 0 := by simp [stc, ep]
        simp only at e6 ⊢
        omega)
  · -- once2
    intro hx
    refine h.once2 ?_
    rcases hx with hs | ⟨k, hk, hk'⟩
    · simp only at hs
      rcases hrest with ⟨_, _, _, r4, _⟩ | ⟨ep, rfl⟩ | ⟨_, rfl⟩ | ⟨_, rfl⟩ | ⟨_, rfl⟩ | ⟨_, rfl⟩ | ⟨_, rfl⟩
      · rw [r4] at hs; exact .inl hs
      · exact .inr ⟨j, hj, by simp [inOnce, ep]⟩
      all_goals exact .inl hs
    · simp only at hk'
      by_cases hkj : k = j
      · subst hkj
        simp only [upd_same] at hk'
        rcases hrest with ⟨_, _, _, _, _, _, _, _, _, _, _, _, _, _, r15⟩ | ⟨ep, rfl⟩ | ⟨ep, rfl⟩ | ⟨ep, rfl⟩ | ⟨ep, rfl⟩ | ⟨ep, rfl⟩ | ⟨ep, rfl⟩
        · exact .inr ⟨k, hk, r15 hk'⟩
        · exact .inr ⟨k, hk, by simp [inOnce, ep]⟩
        · exact .inr ⟨k, hk, by simp [inOnce, ep]⟩
        · exfalso; simp only at hk'; split at hk' <;> simp [inOnce] at hk'
        · simp [inOnce] at hk'
        · simp [inOnce] at hk'
        · simp [inOnce] at hk'
      · simp only [upd_ne _ _ hkj] at hk'; exact .inr ⟨k, hk, hk'⟩
  · -- cnt
    have hcnt := h.cnt
    show r.2.c + (sm N fun a => fin (upd G.th j r.1 a)) = added N G.M
    rcases hrest with ⟨r1, _, _, _, _, _, r7, r8, _⟩ | ⟨ep, rfl⟩ | ⟨ep, rfl⟩ | ⟨ep, rfl⟩ | ⟨ep, rfl⟩ | ⟨ep, rfl⟩ | ⟨ep, rfl⟩
    · rw [r1]; omega
    · have f0 : fin (G.th j) = 0 := by simp [fin, ep]
      have f1 : fin (at_ .st) = 0 := rfl
      simp only at e7 ⊢; omega
    · have f0 : fin (G.th j) = 0 := by simp [fin, ep]
      have f1 : fin (at_ .ur) = 0 := rfl
      simp only at e7 ⊢; omega
    · have := hc ep
      have f0 : fin (G.th j) = 0 := by simp [fin, ep]
      have f1 : fin (if G.s.c = 1 ∧ G.s.wv = true then at_ .d2 else at_ .quit) = 1 := by split <;> rfl
      simp only at e7 ⊢; omega
    · have f0 : fin (G.th j) = 1 := by simp [fin, ep]
      have f1 : fin (at_ .d3) = 1 := rfl
      simp only at e7 ⊢; omega
    · have f0 : fin (G.th j) = 1 := by simp [fin, ep]
      have f1 : fin (at_ .d4) = 1 := rfl
      have : G.s.c = 0 := by have := hT; simp only [ThOk, ep] at this; exact this.1
      simp only at e7 ⊢; omega
    · have f0 : fin (G.th j) = 1 := by simp [fin, ep]
      have f1 : fin (at_ .quit) = 1 := rfl
      simp only at e7 ⊢; omega
  · -- wg3
    intro hw
    have hw' : waits G.M = true := hw
    obtain ⟨k1, k2, k3, k4⟩ := h.wg3 hw'
    simp only
    rcases hrest with ⟨r1, r2, r3, _, _, _, r7, r8, r9, r10, r11, r12, _⟩ | ⟨ep, rfl⟩ | ⟨ep, rfl⟩ | ⟨ep, rfl⟩ | ⟨ep, rfl⟩ | ⟨ep, rfl⟩ | ⟨ep, rfl⟩
    · rw [r1, r2, r3]
      have x8 : (sm N fun k => d23 (upd G.th j r.1 k)) = sm N fun k => d23 (G.th k) := by omega
      have x9 : (sm N fun k => d4c (upd G.th j r.1 k)) = sm N fun k => d4c (G.th k) := by omega
      rw [x8, x9]; exact ⟨k1, k2, k3, k4⟩
    · have x8 : (sm N fun k => d23 (upd G.th j (at_ .st) k)) = sm N fun k => d23 (G.th k) := by
        have f0 : d23 (G.th j) = 0 := by simp [d23, ep]
        have f1 : d23 (at_ .st) = 0 := rfl
        simp only at e8; omega
      have x9 : (sm N fun k => d4c (upd G.th j (at_ .st) k)) = sm N fun k => d4c (G.th k) := by
        have f0 : d4c (G.th j) = 0 := by simp [d4c, ep]
        have f1 : d4c (at_ .st) = 0 := rfl
        simp only at e9; omega
      rw [x8, x9]; exact ⟨k1, k2, k3, k4⟩
    · have x8 : (sm N fun k => d23 (upd G.th j (at_ .ur) k)) = sm N fun k => d23 (G.th k) := by
        have f0 : d23 (G.th j) = 0 := by simp [d23, ep]
        have f1 : d23 (at_ .ur) = 0 := rfl
        simp only at e8; omega
      have x9 : (sm N fun k => d4c (upd G.th j (at_ .ur) k)) = sm N fun k => d4c (G.th k) := by
        have f0 : d4c (G.th j) = 0 := by simp [d4c, ep]
        have f1 : d4c (at_ .ur) = 0 := rfl
        simp only at e9; omega
      rw [x8, x9]; exact ⟨k1, k2, k3, k4⟩
    · have hc' := hc ep
      have z8 : d23 (G.th j) = 0 := by simp [d23, ep]
      have z9 : d4c (G.th j) = 0 := by simp [d4c, ep]
      have s0 : (sm N fun k => d23 (G.th k)) = 0 := sm_zero fun k hk => by
        have hk2 := h.each k hk
        unfold d23
        split
        · rename_i e; simp only [ThOk, e] at hk2; exact absurd hk2.1 hc'
        · rename_i e; simp only [ThOk, e] at hk2; exact absurd hk2.1 hc'
        · rfl
      have hwv : G.s.wv = true := by
        cases hv : G.s.wv
        · exact absurd (k2 hv).1 hc'
        · rfl
      by_cases h1 : G.s.c = 1
      · simp only [h1, hwv, and_self, if_true] at e8 e9 ⊢
        have y8 : d23 (at_ .d2) = 1 := rfl
        have y9 : d4c (at_ .d2) = 0 := rfl
        simp only [hwv] at k1
        refine ⟨by omega, by simp, by omega, fun _ => .inr (by omega)⟩
      · simp only [h1, false_and, if_false] at e8 e9 ⊢
        have y8 : d23 (at_ .quit) = 0 := rfl
        have y9 : d4c (at_ .quit) = 0 := rfl
        refine ⟨by omega, fun hv => absurd (hwv.symm.trans hv) (by simp), by omega, fun _ => .inl (by omega)⟩
    · have x8 : (sm N fun k => d23 (upd G.th j (at_ .d3) k)) = sm N fun k => d23 (G.th k) := by
        have f0 : d23 (G.th j) = 1 := by simp [d23, ep]
        have f1 : d23 (at_ .d3) = 1 := rfl
        simp only at e8; omega
      have x9 : (sm N fun k => d4c (upd G.th j (at_ .d3) k)) = sm N fun k => d4c (G.th k) := by
        have f0 : d4c (G.th j) = 0 := by simp [d4c, ep]
        have f1 : d4c (at_ .d3) = 0 := rfl
        simp only at e9; omega
      rw [x8, x9]; exact ⟨k1, k2, k3, k4⟩
    · have z8 : d23 (G.th j) = 1 := by simp [d23, ep]
      have z9 : d4c (G.th j) = 0 := by simp [d4c, ep]
      have y8 : d23 (at_ .d4) = 0 := rfl
      have y9 : d4c (at_ .d4) = 1 := rfl
      have hwv : G.s.wv = true := by have := hT; simp only [ThOk, ep] at this; exact this.2.1
      simp only [hwv, b2n, if_true] at k1
      simp only at e8 e9 ⊢
      refine ⟨by simp [b2n]; omega, fun _ => ⟨trivial, by omega⟩, by omega, by simp⟩
    · have z8 : d23 (G.th j) = 0 := by simp [d23, ep]
      have z9 : d4c (G.th j) = 1 := by simp [d4c, ep]
      have y8 : d23 (at_ .quit) = 0 := rfl
      have y9 : d4c (at_ .quit) = 0 := rfl
      simp only at e8 e9
      have x8 : (sm N fun k => d23 (upd G.th j (at_ .quit) k)) = sm N fun k => d23 (G.th k) := by omega
      simp only
      rw [x8]
      exact ⟨by omega, k2, k3, k4⟩
  · -- wg4
    intro hw
    have hw' : waits G.M = false := hw
    obtain ⟨k1, k2, k3, k4⟩ := h.wg4 hw'
    simp only
    have z8 : d23 (G.th j) = 0 := by omega
    have z9 : d4c (G.th j) = 0 := by omega
    rcases hrest with ⟨r1, r2, r3, _, _, _, r7, r8, r9, r10, r11, r12, _⟩ | ⟨ep, rfl⟩ | ⟨ep, rfl⟩ | ⟨ep, rfl⟩ | ⟨ep, rfl⟩ | ⟨ep, rfl⟩ | ⟨ep, rfl⟩
    · rw [r2, r3]; exact ⟨k1, k2, by omega, by omega⟩
    · have y8 : d23 (at_ .st) = 0 := rfl
      have y9 : d4c (at_ .st) = 0 := rfl
      exact ⟨k1, k2, by simp only at e9 ⊢; omega, by simp only at e8 ⊢; omega⟩
    · have y8 : d23 (at_ .ur) = 0 := rfl
      have y9 : d4c (at_ .ur) = 0 := rfl
      exact ⟨k1, k2, by simp only at e9 ⊢; omega, by simp only at e8 ⊢; omega⟩
    · simp only [k1, Bool.false_eq_true, and_false, if_false] at e8 e9 ⊢
      have y8 : d23 (at_ .quit) = 0 := rfl
      have y9 : d4c (at_ .quit) = 0 := rfl
      exact ⟨trivial, k2, by omega, by omega⟩
    · simp [d23, ep] at z8
    · simp [d23, ep] at z8
    · simp [d4c, ep] at z9
  · -- off
    intro k hk
    have hk' : spawned N G.M ≤ k := hk
    have hne : k ≠ j := by omega
    simp only [upd_ne _ _ hne]
    exact h.off k hk'
  · -- on
    intro k hk
    have hk' : k < spawned N G.M := hk
    by_cases hkj : k = j
    · subst hkj; simp only [upd_same]; exact hon'
    · simp only [upd_ne _ _ hkj]; exact h.on k hk'
  · -- the giver
    have hm := h.mok
    show MOk N n r.2 G.gv G.M
    have hpl : r.2.pl = G.s.pl := by
      rcases hrest with ⟨_, _, _, _, _, r6, _⟩ | ⟨_, rfl⟩ | ⟨_, rfl⟩ | ⟨_, rfl⟩ | ⟨_, rfl⟩ | ⟨_, rfl⟩ | ⟨_, rfl⟩ <;> first | exact r6 | rfl
    have hscm : G.s.sc = true → r.2.sc = true := by
      rcases hrest with ⟨_, _, _, r4, _⟩ | ⟨_, rfl⟩ | ⟨_, rfl⟩ | ⟨_, rfl⟩ | ⟨_, rfl⟩ | ⟨_, rfl⟩ | ⟨_, rfl⟩
      · rw [r4]; exact id
      · exact fun _ => rfl
      all_goals exact id
    have hcm : G.s.c = 0 → r.2.c = 0 := by
      rcases hrest with ⟨r1, _⟩ | ⟨_, rfl⟩ | ⟨_, rfl⟩ | ⟨ep, rfl⟩ | ⟨_, rfl⟩ | ⟨_, rfl⟩ | ⟨_, rfl⟩
      · rw [r1]; exact id
      · exact id
      · exact id
      · exact fun e => absurd e (hc ep)
      · exact id
      · exact fun _ => rfl
      · exact id
    cases e : G.M <;> simp only [e, MOk] at hm ⊢ <;> try (rw [hpl])
    all_goals first
      | exact hm
      | exact ⟨hm.1, hm.2.1.imp id hscm, hm.2.2⟩
      | exact ⟨hm.1, hm.2.1.imp id hscm, hm.2.2.1, hcm hm.2.2.2⟩
end
end Go.Proofs.Ytpkiojchlficcaa.Crew

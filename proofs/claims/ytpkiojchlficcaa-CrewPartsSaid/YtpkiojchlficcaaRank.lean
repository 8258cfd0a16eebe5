/- The automaton's rank: every step lowers it, where each worker stands as it may. -/
import Derived.Test.YtpkiojchlficcaaAuto
namespace Go.Proofs.Ytpkiojchlficcaa.Crew

/-- What is known of where one worker stands. -/
def ThOk (T : Th) (s : Sh) : Prop :=
  match T.pc with
  | .sq => T.old.l = true ∧ T.old.s = false ∧ (T.aw = true → T.old.w = true) ∧ (T.sv = true → T.aw = true)
  | .c1 => T.aw = false ∧ T.sv = false ∧ T.it < 4 ∧ T.old.l = true ∧ T.old.s = false ∧ T.old.w = false
  | .r1 => T.it < 4 ∧ (T.sv = true → T.aw = true)
  | .c2 => (T.aw = true → T.old.w = true ∧ T.old.s = false) ∧ (T.sv = true → T.aw = true)
  | .r3 => T.sv = true → T.aw = true
  | .a1 => s.mu.s = true ∧ T.old.n ≤ s.mu.n ∧ 1 ≤ T.old.n
  | .uc => T.old.l = false ∧ T.old.w = false ∧ T.old.s = false ∧ 0 < T.old.n
  | .cl => s.sc = false
  | .d2 | .d3 => s.c = 0 ∧ s.wv = true ∧ (s.pl = true ∨ s.sc = true)
  | .wr | .wk | .d1 | .d4 | .quit => s.pl = true ∨ s.sc = true
  | .bad => False
  | _ => True
def bW (T : Th) : Nat :=
  match T.pc with
  | .off => 0 | .sel => 50 | .o1 => 88 | .ld => 87 | .l0 => 86 | .r0 => 85
  | .sq | .c1 | .r1 | .c2 | .r3 => if T.aw then 83 else 84
  | .t1 => 82 | .s1 => 81 | .t2 => 85 | .r2 => 84 | .a1 => 83 | .le => 80 | .la => 79 | .o2 => 78 | .cl => 77 | .st => 76 | .ur => 75 | .ud => 74 | .u0 => 73 | .uc | .ux => 72 | .us => 71 | .ue => 60
  | .wr => 40 | .wk => 39 | .d1 => 38 | .d2 => 37 | .d3 => 36 | .d4 => 35 | .quit => 0 | .bad => 0
def stale (a b : Wd) (k : Nat) : Nat := if a = b then 0 else k
def lW (m : Wd) (T : Th) : Nat :=
  match T.pc with
  | .sq => 8 * (4 - T.it) + 3 + stale T.old m 40
  | .c1 => 8 * (4 - T.it) + 2
  | .r1 => 8 * (4 - T.it) + 1
  | .c2 => 2 + stale T.old m 40
  | .r3 => 41
  | .uc => 1 + stale T.old m 3
  | .ux => 3
  | _ => 0
theorem stale_self (a : Wd) (k : Nat) : stale a a k = 0 := by simp [stale]
theorem stale_le (a b : Wd) (k : Nat) : stale a b k ≤ k := by unfold stale; split <;> omega
theorem lW_le (m : Wd) (T : Th) : lW m T ≤ 75 := by
  have := stale_le T.old m 40
  have := stale_le T.old m 3
  unfold lW; split <;> omega
def bM (N : Nat) (M : Mp) : Nat :=
  match M with
  | .k1 j => (N - j) * 60 + 24 | .k2 j => (N - j) * 60 + 23 | .k3 j => (N - j) * 60 + 22 | .k4 j => (N - j) * 60 + 21 | .go j => (N - j) * 60 + 20
  | .gs _ => 20 | .cp => 19 | .w0 => 18 | .w1 => 17 | .w2 _ _ => 17 | .wm => 16 | .w3 => 15 | .w4 => 14 | .ke => 13 | .aq => 12 | .ret => 0 | .bad => 0
def lM (s : Sh) (M : Mp) : Nat :=
  match M with
  | .w1 => 3
  | .w2 c v => if s.c = c ∧ s.wv = v then 1 else 4
  | _ => 0
theorem lM_le (s : Sh) (M : Mp) : lM s M ≤ 4 := by unfold lM; split <;> (try split) <;> omega
def pot (N n : Nat) (G : GS) : Nat := sm N (fun j => bW (G.th j)) + bM N G.M + 10 * G.s.ms + 100 * (n - G.gv)
def loc (N : Nat) (G : GS) : Nat := sm N (fun j => lW G.s.mu (G.th j)) + lM G.s G.M
def rank (N n : Nat) (G : GS) : Nat := (75 * N + 5) * pot N n G + loc N G
theorem loc_lt (N : Nat) (G : GS) : loc N G < 75 * N + 5 := by
  have h1 : sm N (fun j => lW G.s.mu (G.th j)) ≤ 75 * N := sm_le fun i _ => lW_le _ _
  have := lM_le G.s G.M
  unfold loc; omega
theorem rank_lt {N n : Nat} {G G' : GS} (h : pot N n G' < pot N n G ∨ (pot N n G' = pot N n G ∧ loc N G' < loc N G)) : rank N n G' < rank N n G := by
  unfold rank
  rcases h with h | ⟨h, h'⟩
  · have := loc_lt N G'
    have e : (75 * N + 5) * pot N n G' + (75 * N + 5) ≤ (75 * N + 5) * pot N n G := by
      rw [← Nat.mul_succ]; exact Nat.mul_le_mul_left _ h
    omega
  · rw [h]; omega
theorem hd_b (T : Th) : bW (hd T) ≤ (if T.aw then 83 else 84) := by
  unfold hd toC2
  split
  · simp [bW]
  · split <;> simp [bW]
theorem hd_l (T : Th) : lW T.old (hd T) ≤ 8 * (4 - T.it) + 3 := by
  unfold hd toC2
  split
  · simp [lW, stale_self]
  · split <;> simp [lW, stale_self]
/-- One worker's step. -/
theorem work_down {T : Th} {s : Sh} (h : ThOk T s) {r : Th × Sh} (hr : r ∈ wmv T s) :
    (bW r.1 + 10 * r.2.ms < bW T + 10 * s.ms) ∨ (bW r.1 + 10 * r.2.ms ≤ bW T + 10 * s.ms ∧ r.2.mu = s.mu ∧ r.2.c = s.c ∧ r.2.wv = s.wv ∧ lW s.mu r.1 < lW s.mu T) := by
  obtain ⟨pc, old, aw, sv, it⟩ := T
  cases pc <;> simp only [wmv, List.not_mem_nil] at hr
  case o1 => split at hr <;> simp at hr <;> subst hr <;> simp [bW]
  case ld => simp at hr; subst hr; simp [bW]
  case l0 => split at hr <;> simp at hr <;> subst hr <;> simp [bW]
  case r0 =>
    simp at hr; subst hr
    left
    have := hd_b { pc := .r0, old := s.mu }
    simp only [Bool.false_eq_true, if_false] at this
    have e0 : bW ⟨.r0, old, aw, sv, it⟩ = 85 := rfl
    simp only; omega
  case sq =>
    simp at hr
    have ht : lW s.mu (toC2 ⟨.sq, old, aw, sv, it⟩) ≤ 2 + stale old s.mu 40 := by unfold toC2; split <;> simp [lW]
    have hb : bW (toC2 ⟨.sq, old, aw, sv, it⟩) ≤ (if aw then 83 else 84) := by unfold toC2; split <;> simp [bW]
    rcases hr with rfl | hr
    · right
      have e0 : bW ⟨.sq, old, aw, sv, it⟩ = (if aw then 83 else 84) := rfl
      have e1 : lW s.mu ⟨.sq, old, aw, sv, it⟩ = 8 * (4 - it) + 3 + stale old s.mu 40 := rfl
      exact ⟨by simp only; omega, rfl, rfl, rfl, by simp only; omega⟩
    · obtain ⟨h4, rfl⟩ := hr
      right
      refine ⟨?_, rfl, rfl, rfl, ?_⟩
      · split <;> simp [bW]
      · split <;> simp [lW] <;> omega
  case c1 =>
    simp only [ThOk] at h
    split at hr <;> simp at hr <;> subst hr
    · left; simp [bW, h.1]
    · right; exact ⟨by simp [bW], rfl, rfl, rfl, by simp [lW]⟩
  case r1 =>
    simp only [ThOk] at h
    simp at hr; subst hr
    right
    have h1 := hd_b ⟨.r1, s.mu, aw, sv, it + 1⟩
    have h2 := hd_l ⟨.r1, s.mu, aw, sv, it + 1⟩
    have e0 : bW ⟨.r1, old, aw, sv, it⟩ = (if aw then 83 else 84) := rfl
    have e1 : lW s.mu ⟨.r1, old, aw, sv, it⟩ = 8 * (4 - it) + 1 := rfl
    exact ⟨by simp only at h1 ⊢; omega, rfl, rfl, rfl, by simp only at h2 ⊢; omega⟩
  case c2 =>
    split at hr
    · split at hr <;> simp at hr
      · subst hr; left; simp only [bW]; split <;> omega
      · rcases hr with rfl | rfl <;> (left; simp only [bW]; split <;> omega)
    · simp at hr; subst hr
      right
      rename_i hne
      have hst : stale old s.mu 40 = 40 := by unfold stale; rw [if_neg]; exact fun e => hne e.symm
      refine ⟨by simp [bW], rfl, rfl, rfl, ?_⟩
      simp only [lW, hst]; omega
  case t1 => simp at hr; subst hr; simp [bW]
  case s1 =>
    split at hr <;> simp at hr
    subst hr
    left
    simp only
    split <;> simp [bW] <;> omega
  case t2 => simp at hr; rcases hr with rfl | rfl <;> simp [bW]
  case r2 =>
    split at hr
    · split at hr <;> simp at hr <;> subst hr <;> simp [bW]
    · simp at hr; subst hr
      left
      have := hd_b ⟨.r2, s.mu, true, sv, 0⟩
      simp only [if_true] at this
      have e0 : bW ⟨.r2, old, aw, sv, it⟩ = 84 := rfl
      simp only; omega
  case a1 => split at hr <;> simp at hr <;> subst hr <;> simp [bW]
  case r3 =>
    simp at hr; subst hr
    right
    have h1 := hd_b ⟨.r3, s.mu, aw, sv, it⟩
    have h2 := hd_l ⟨.r3, s.mu, aw, sv, it⟩
    have e0 : bW ⟨.r3, old, aw, sv, it⟩ = (if aw then 83 else 84) := rfl
    have e1 : lW s.mu ⟨.r3, old, aw, sv, it⟩ = 41 := rfl
    exact ⟨by simp only at h1 ⊢; omega, rfl, rfl, rfl, by simp only at h2 ⊢; omega⟩
  case o2 => split at hr <;> simp at hr <;> subst hr <;> simp [bW]
  case cl => split at hr <;> simp at hr <;> subst hr <;> simp [bW]
  case u0 =>
    split at hr <;> simp at hr <;> subst hr
    · simp [bW]
    · left; unfold uck; split
      · simp [bW]
      · split <;> simp [bW]
  case uc =>
    split at hr <;> simp at hr <;> subst hr
    · simp [bW]
    · right
      rename_i hne
      have hst : stale old s.mu 3 = 3 := by unfold stale; rw [if_neg]; exact fun e => hne e.symm
      refine ⟨by simp [bW], rfl, rfl, rfl, ?_⟩
      simp only [lW, hst]; omega
  case ux =>
    simp at hr; subst hr
    unfold uck
    split
    · simp [bW]
    · right; exact ⟨by simp [bW], rfl, rfl, rfl, by simp [lW, stale_self]⟩
  case d1 =>
    split at hr <;> simp at hr <;> subst hr
    · simp [bW]
    · left; simp only; split <;> simp [bW]
  case d2 => split at hr <;> simp at hr <;> subst hr <;> simp [bW]
  case us => simp at hr; subst hr; left; simp [bW]; omega
  case d4 => simp at hr; subst hr; simp [bW]
  all_goals (simp at hr; subst hr; simp [bW])
theorem main_down (N : Nat) {M : Mp} {s : Sh} {r : Mp × Sh} (hr : r ∈ mmv M s) :
    r.2.mu = s.mu ∧ r.2.ms = s.ms ∧ ((bM N r.1 < bM N M) ∨ (bM N r.1 ≤ bM N M ∧ r.2.c = s.c ∧ r.2.wv = s.wv ∧ lM s r.1 < lM s M)) := by
  cases M <;> simp only [mmv, List.not_mem_nil] at hr
  case k2 =>
    split at hr <;> simp at hr <;> subst hr
    · simp [bM]
    · refine ⟨rfl, rfl, .inl ?_⟩; simp only; split <;> simp [bM]
  case cp => split at hr <;> simp at hr <;> subst hr <;> simp [bM]
  case w1 =>
    simp at hr; subst hr
    refine ⟨rfl, rfl, ?_⟩
    simp only
    split
    · simp [bM]
    · right; exact ⟨by simp [bM], by simp [lM]⟩
  case w2 c v =>
    split at hr
    · split at hr <;> simp at hr <;> subst hr <;> simp [bM]
    · rename_i hne
      simp at hr; subst hr
      have e0 : lM s (.w2 c v) = 4 := by simp only [lM]; rw [if_neg hne]
      have e1 : lM s .w1 = 3 := rfl
      exact ⟨rfl, rfl, .inr ⟨Nat.le_refl _, rfl, rfl, by rw [e0, e1]; omega⟩⟩
  case w3 => split at hr <;> simp at hr <;> subst hr <;> simp [bM]
  case w4 => split at hr <;> simp at hr <;> subst hr <;> simp [bM]
  all_goals (simp at hr; subst hr; simp [bM])
theorem bM_give (N n i : Nat) : bM N (give n i) ≤ 20 := by unfold give; split <;> simp [bM]
/-- EVERY STEP LOWERS THE RANK. -/
theorem Step.down {N n : Nat} {ok : Nat → Bool} {G G' : GS} (hok : ∀ j, j < N → ThOk (G.th j) G.s) (hoff : ∀ j, G.M = .go j → j < N) (hg : ∀ i, G.M = .gs i → G.gv = i ∧ i < n) (h : Step N n ok G G') : rank N n G' < rank N n G := by
  apply rank_lt
  cases h with
  | @work j r hj hr =>
    have e := sm_upd G.th r.1 bW hj
    rcases work_down (hok j hj) hr with h | ⟨h1, h2, h3, h4, h5⟩
    · left; simp only [pot]; omega
    · have e2 := sm_upd G.th r.1 (lW G.s.mu) hj
      have e3 : lM r.2 G.M = lM G.s G.M := by unfold lM; rw [h3, h4]
      rcases Nat.lt_or_ge (bW r.1 + 10 * r.2.ms) (bW (G.th j) + 10 * G.s.ms) with hlt | hge
      · left; simp only [pot]; omega
      · right
        refine ⟨by simp only [pot]; omega, ?_⟩
        simp only [loc, h2, e3]; omega
  | @main r hr =>
    obtain ⟨h1, h2, h⟩ := main_down N hr
    rcases h with h | ⟨h3, h4, h5, h6⟩
    · left; simp only [pot, h2]; omega
    · rcases Nat.lt_or_ge (bM N r.1) (bM N G.M) with hlt | hge
      · left; simp only [pot, h2]; omega
      · right
        have e3 : lM r.2 r.1 = lM G.s r.1 := by unfold lM; rw [h4, h5]
        refine ⟨by simp only [pot, h2]; omega, ?_⟩
        simp only [loc, h1, e3]; omega
  | @spawn j hM =>
    have hj := hoff j hM
    have e := sm_upd G.th (at_ .sel) bW hj
    have e1 : bW (at_ .sel) = 50 := rfl
    left
    simp only [pot, hM]
    have e2 : bM N (.go j) = (N - j) * 60 + 20 := rfl
    have e3 : bM N (if j + 1 < N then .k1 (j + 1) else Crew.give n 0) + 50 < bM N (.go j) := by
      split
      · simp only [bM]; omega
      · have := bM_give N n 0; rw [e2]; omega
    omega
  | @give i j hM hj hs =>
    have e := sm_upd G.th (at_ (if ok i then .sel else .o1)) bW hj
    have e1 : bW (at_ (if ok i then Pc.sel else .o1)) ≤ 88 := by split <;> simp [bW]
    have e2 : bW (G.th j) = 50 := by simp only [bW, hs]
    have e3 := bM_give N n (i + 1)
    obtain ⟨h1, h2⟩ := hg i hM
    left
    have e4 : bM N (.gs i) = 20 := rfl
    simp only [pot, hM]; omega
  | @shut j hj hs _ =>
    have e := sm_upd G.th (at_ .wr) bW hj
    have e1 : bW (at_ .wr) = 40 := rfl
    have e2 : bW (G.th j) = 50 := by simp only [bW, hs]
    left; simp only [pot]; omega
  | @stop i hM _ => left; simp only [pot, hM, bM]; omega
end Go.Proofs.Ytpkiojchlficcaa.Crew

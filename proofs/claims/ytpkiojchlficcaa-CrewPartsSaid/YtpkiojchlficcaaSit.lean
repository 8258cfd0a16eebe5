/- The crew's machine: where each goroutine stands; what another's step does to it. -/
import Derived.Test.YtpkiojchlficcaaSpec
namespace Go.Proofs.Ytpkiojchlficcaa.Crew
open Go Go.Conc
open Go.ConcM (OsLater)
open Go.ConcR (stA smA)
variable {C : Cf} {N K : Nat} {Anch : Goroutine → World → Prop}
theorem rxTrans (h : Option Nat) : ∀ a b c, RX C h a b → RX C h b c → RX C h a c := fun _ _ _ x y => x.trans y
/-- Parked at its select: a worker; the giver. -/
abbrev pkW (C : Cf) (g₂ : Goroutine) : Goroutine := Go.Conc.parked g₂ #[rcase C.tp.Pl zI, rcase C.tp.St zU] .select
abbrev pkM (C : Cf) (i : Nat) (g₂ : Goroutine) : Goroutine := Go.Conc.parked g₂ #[scase C.tp.Pl (.int .i64 (i : Int)) zI, rcase C.tp.St zU] .select
/-- A worker's situation: what it holds, its fuel, how deaf it is. -/
inductive WSit (C : Cf) (K k : Nat) (T : Th) (s : Sh) : Option Nat → Nat → Nat → Goroutine → World → Prop
  | walk {h : Option Nat} {n : Nat} {g : Goroutine} {w : World} : T.pc ≠ .quit → GoesW C h T.mute (fun g w => (∀ i, h = some i → OutAt C w i (C.val i)) ∧ Wk C k T g w) n g w → WSit C K k T s h (K * n + 1) T.deaf g w
  | parked {h : Option Nat} {g₀ g₂ : Goroutine} {w : World} : T.pc = .sel → s.pl = false → s.sc = false → (∀ w₁, RX C h w w₁ → (∀ i, h = some i → OutAt C w₁ i (C.val i)) ∧ Wk C k T g₀ w₁) → g₂.frame = g₀.frame → g₂.callers = g₀.callers → g₂.dying = g₀.dying →
      WSit C K k T s h 0 T.deaf (pkW C g₂) w
  | blocked {h : Option Nat} {g₀ : Goroutine} {w : World} : T.pc = .s1 → s.ms = 0 → g₀.status = .running → g₀.offers = Option.none → (∀ w₁, RX C h w w₁ → (∀ i, h = some i → OutAt C w₁ i (C.val i)) ∧ Wk C k T g₀ w₁) → WSit C K k T s h 0 T.deaf { g₀ with status := .blocked } w
  | quit {q d : Nat} {g : Goroutine} {w : World} : T.pc = .quit → QuitsD C.P q d g → WSit C K k T s Option.none (K * q) d g w
/-- The giver's. -/
inductive MSit (C : Cf) (N K : Nat) (Anch : Goroutine → World → Prop) (k : Nat) (M : Mp) (s : Sh) : Nat → Goroutine → World → Prop
  | walk {n : Nat} {g : Goroutine} {w : World} : GoesM C (Mk C N Anch k M) n g w → MSit C N K Anch k M s (K * n + 1) g w
  | parked {i : Nat} {g₀ g₂ : Goroutine} {w : World} : M = .gs i → s.sc = false → (∀ w₁, RX C Option.none w w₁ → Mk C N Anch k M g₀ w₁) → g₂.frame = g₀.frame → g₂.callers = g₀.callers → g₂.dying = g₀.dying →
      MSit C N K Anch k M s 0 (pkM C i g₂) w
  | blocked {g₀ : Goroutine} {w : World} : M = .w3 → s.ws = 0 → g₀.status = .running → g₀.offers = Option.none → (∀ w₁, RX C Option.none w w₁ → Mk C N Anch k M g₀ w₁) → MSit C N K Anch k M s 0 { g₀ with status := .blocked } w
/-! ### what a stop at a select asks of the record: its frames alone -/
theorem selW_congr {Nx : Th → Goroutine → World → Prop} {g g' : Goroutine} {w : World} (h1 : g'.frame = g.frame) (h2 : g'.callers = g.callers) (h3 : g'.dying = g.dying) (h : SelW C Nx g w) : SelW C Nx g' w := by
  obtain ⟨g₂, e, f1, f2, f3, a, b, c⟩ := h
  exact ⟨g₂, by rw [stepG_same h1 h2 h3]; exact e, f1.trans h1.symm, f2.trans h2.symm, f3.trans h3.symm, a, b, c⟩
theorem wk_sel {k : Nat} {T : Th} {g g' : Goroutine} {w : World} (hT : T.pc = .sel) (h0 : g'.status = .running) (h1 : g'.frame = g.frame) (h2 : g'.callers = g.callers) (h3 : g'.dying = g.dying) (h : Wk C k T g w) : Wk C k T g' w := by
  cases k with
  | zero => trivial
  | succ k => exact ⟨h0, fun e => selW_congr h1 h2 h3 (h.2.1 e), fun e => absurd hT e⟩
theorem selM_congr {Nx : Mp → Goroutine → World → Prop} {i : Nat} {g g' : Goroutine} {w : World} (h1 : g'.frame = g.frame) (h2 : g'.callers = g.callers) (h3 : g'.dying = g.dying) (h : SelM C Nx i g w) : SelM C Nx i g' w := by
  obtain ⟨g₂, e, f1, f2, f3, a, b⟩ := h
  exact ⟨g₂, by rw [stepG_same h1 h2 h3]; exact e, f1.trans h1.symm, f2.trans h2.symm, f3.trans h3.symm, a, b⟩
theorem mk_sel {k i : Nat} {g g' : Goroutine} {w : World} (h0 : g'.status = .running) (h1 : g'.frame = g.frame) (h2 : g'.callers = g.callers) (h3 : g'.dying = g.dying) (h : Mk C N Anch k (.gs i) g w) : Mk C N Anch k (.gs i) g' w := by
  cases k with
  | zero => trivial
  | succ k => exact ⟨h0, selM_congr h1 h2 h3 h.2⟩
theorem finish_congr {g g' : Goroutine} (h1 : g'.frame = g.frame) (h2 : g'.callers = g.callers) (h3 : g'.dying = g.dying) (cs : Array CommCase) (sh : CommShape) (k : Int) (v : Value) (ok : Bool) : g'.finishComm C.P cs sh k v ok = g.finishComm C.P cs sh k v ok := by
  unfold Goroutine.finishComm
  cases g; cases g'
  simp only at h1 h2 h3 ⊢
  subst h1; subst h2; subst h3
  rfl
/-! ### the rely carries each over -/
section
variable {k : Nat} {T : Th} {s : Sh} {h : Option Nat} {φ d : Nat} {g : Goroutine} {w w' : World}
theorem WSit.rely (x : WSit C K k T s h φ d g w) (r : RX C h w w') : WSit C K k T s h φ d g w' := by
  cases x with
  | walk h0 h1 => exact .walk h0 (Goes.rely (rxTrans _) h1 r)
  | parked h0 h1 h2 h3 h4 h5 h6 => exact .parked h0 h1 h2 (fun w₁ r₁ => h3 w₁ (r.trans r₁)) h4 h5 h6
  | blocked h0 h1 h2 h3 h4 => exact .blocked h0 h1 h2 h3 (fun w₁ r₁ => h4 w₁ (r.trans r₁))
  | quit h0 h1 => exact .quit h0 h1
theorem MSit.rely {M : Mp} (x : MSit C N K Anch k M s φ g w) (r : RX C Option.none w w') : MSit C N K Anch k M s φ g w' := by
  cases x with
  | walk h1 => exact .walk (Goes.rely (rxTrans _) h1 r)
  | parked h0 h2 h3 h4 h5 h6 => exact .parked h0 h2 (fun w₁ r₁ => h3 w₁ (r.trans r₁)) h4 h5 h6
  | blocked h0 h1 h2 h3 h4 => exact .blocked h0 h1 h2 h3 (fun w₁ r₁ => h4 w₁ (r.trans r₁))
theorem goesW_running {mt : Bool} {Stop : Goroutine → World → Prop} (hs : ∀ g w, Stop g w → g.status = .running) {n : Nat} (x : GoesW C h mt Stop n g w) : g.status = .running := by
  cases n with
  | zero => exact hs g w (x w (RX.refl _ _))
  | succ n => exact x.elim (fun y => hs g w (y w (RX.refl _ _))) fun y => y.1
theorem goesM_running {Stop : Goroutine → World → Prop} (hs : ∀ g w, Stop g w → g.status = .running) {n : Nat} (x : GoesM C Stop n g w) : g.status = .running := by
  cases n with
  | zero => exact hs g w (x w (RX.refl _ _))
  | succ n => exact x.elim (fun y => hs g w (y w (RX.refl _ _))) fun y => y.1
/-- A worker that is walking runs; depth nought is excluded by the rank. -/
theorem WSit.kind (hk : 0 < k) (x : WSit C K k T s h φ d g w) : g.status = .running ∨ (g.status = .blocked ∧ ((T.pc = .sel ∧ s.pl = false ∧ s.sc = false ∧ ∃ g₂, g = pkW C g₂) ∨ (T.pc = .s1 ∧ s.ms = 0))) ∨ (g.status = .finished ∧ T.pc = .quit) := by
  obtain ⟨k, rfl⟩ : ∃ k', k = k' + 1 := ⟨k - 1, by omega⟩
  cases x with
  | walk h0 h1 => exact .inl (goesW_running (fun _ _ y => y.2.1) h1)
  | parked h0 h1 h2 => exact .inr (.inl ⟨rfl, .inl ⟨h0, h1, h2, _, rfl⟩⟩)
  | blocked h0 h1 => exact .inr (.inl ⟨rfl, .inr ⟨h0, h1⟩⟩)
  | quit h0 h1 => exact h1.status.elim .inl fun y => .inr (.inr ⟨y, h0⟩)
theorem MSit.kind {M : Mp} (hk : 0 < k) (x : MSit C N K Anch k M s φ g w) : g.status = .running ∨ (g.status = .blocked ∧ ((∃ i, M = .gs i ∧ s.sc = false ∧ ∃ g₂, g = pkM C i g₂) ∨ (M = .w3 ∧ s.ws = 0))) := by
  obtain ⟨k, rfl⟩ : ∃ k', k = k' + 1 := ⟨k - 1, by omega⟩
  cases x with
  | walk h1 => exact .inl (goesM_running (fun _ _ y => y.1) h1)
  | parked h0 h1 => exact .inr ⟨rfl, .inl ⟨_, h0, h1, _, rfl⟩⟩
  | blocked h0 h1 => exact .inr ⟨rfl, .inr ⟨h0, h1⟩⟩
end
/-- The step of 'g' to 'g'' may let others try again. -/
def Wakes (P : Program) (g g' : Goroutine) : Prop := mayWake P g = true ∧ g'.status ≠ .blocked ∧ g'.status ≠ .waiting
theorem woken_yes {P : Program} {g g' o : Goroutine} {w : World} (h : Wakes P g g') : woken P g g' w o = o.again w := by
  unfold woken
  rw [if_pos]
  simp [h.1, h.2.1, h.2.2]
theorem woken_cases (P : Program) (g g' o : Goroutine) (w : World) : (Wakes P g g' ∧ woken P g g' w o = o.again w) ∨ woken P g g' w o = o := by
  by_cases h : Wakes P g g'
  · exact .inl ⟨h, woken_yes h⟩
  · right
    unfold woken
    rw [if_neg]
    intro hx
    simp at hx
    exact h ⟨hx.1.1, hx.1.2, hx.2⟩
section
variable {k : Nat} {T : Th} {s s' : Sh} {h : Option Nat} {φ d : Nat} {o g g' : Goroutine} {w w' : World}
/-- What another's step asks of those who wait. -/
structure Stirs (P : Program) (g g' : Goroutine) (s s' : Sh) : Prop where
  ms : s.ms = 0 → s'.ms ≠ 0 → Wakes P g g'
  ch : s.pl = false → s.sc = false → (s'.pl = true ∨ s'.sc = true) → Wakes P g g'
  sc : s.sc = false → s'.sc = true → Wakes P g g'
  ws : s.ws = 0 → s'.ws ≠ 0 → Wakes P g g'
theorem Stirs.same (P : Program) (g g' : Goroutine) (s : Sh) : Stirs P g g' s s := ⟨fun a b => absurd a b, fun a b c => absurd c (by simp [a, b]), fun a b => absurd b (by simp [a]), fun a b => absurd a b⟩
theorem again_pkW {g₂ : Goroutine} (hs : ShAt C w' s') : (pkW C g₂).again w' = if s'.pl || s'.sc then { pkW C g₂ with status := .running } else pkW C g₂ := by
  obtain ⟨k, hp⟩ := hs.pl
  have hst := hs.st
  cases hpl : s'.pl <;> cases hsc : s'.sc <;> rw [hpl] at hp <;> rw [hsc] at hst <;> simp [Goroutine.again, Go.Conc.parked, rcase, hp, hst]
theorem again_pkM {g₂ : Goroutine} {i : Nat} (hs : ShAt C w' s') : (pkM C i g₂).again w' = if s'.pl || s'.sc then { pkM C i g₂ with status := .running } else pkM C i g₂ := by
  obtain ⟨k, hp⟩ := hs.pl
  have hst := hs.st
  cases hpl : s'.pl <;> cases hsc : s'.sc <;> rw [hpl] at hp <;> rw [hsc] at hst <;> simp [Goroutine.again, Go.Conc.parked, rcase, scase, hp, hst]
theorem again_blocked {g₀ : Goroutine} (h1 : g₀.status = .running) (h2 : g₀.offers = Option.none) : ({ g₀ with status := .blocked } : Goroutine).again w = g₀ := by
  cases g₀
  simp only at h1 h2
  subst h1; subst h2
  rfl
/-- ANOTHER's STEP: it stands as it stood, or is let try again. -/
theorem WSit.other (hk : 0 < k) (x : WSit C K k T s h φ d o w) (r : RX C h w w') (hs : ShAt C w' s') (st : Stirs C.P g g' s s') : ∃ φ', φ' ≤ φ + 1 ∧ WSit C K k T s' h φ' d (woken C.P g g' w' o) w' := by
  cases x with
  | @walk h n _ _ h0 h1 =>
    have hrun := goesW_running (C := C) (by
      obtain ⟨k, rfl⟩ : ∃ k', k = k' + 1 := ⟨k - 1, by omega⟩
      exact fun _ _ y => y.2.1) h1
    rw [woken_run hrun]
    exact ⟨_, Nat.le_succ _, .walk h0 (Goes.rely (rxTrans _) h1 r)⟩
  | @parked h g₀ g₂ _ h0 h1 h2 h3 h4 h5 h6 =>
    have keep : s'.pl = false → s'.sc = false → WSit C K k T s' h 0 T.deaf (pkW C g₂) w' := fun a b => .parked h0 a b (fun w₁ r₁ => h3 w₁ (r.trans r₁)) h4 h5 h6
    by_cases hc : s'.pl = true ∨ s'.sc = true
    · have hw := st.ch h1 h2 hc
      rw [woken_yes hw, again_pkW hs, if_pos (by simpa using hc)]
      refine ⟨1, by omega, .walk (n := 0) (by rw [h0]; simp) fun w₁ r₁ => ⟨(h3 w₁ (r.trans r₁)).1, wk_sel (g := g₀) h0 rfl h4 h5 h6 (h3 w₁ (r.trans r₁)).2⟩⟩
    · have ha : s'.pl = false := by cases e : s'.pl <;> simp_all
      have hb : s'.sc = false := by cases e : s'.sc <;> simp_all
      rcases woken_cases C.P g g' (pkW C g₂) w' with ⟨_, e⟩ | e
      · rw [e, again_pkW hs, if_neg (by simp [ha, hb])]
        exact ⟨0, by omega, keep ha hb⟩
      · rw [e]; exact ⟨0, by omega, keep ha hb⟩
  | @blocked h g₀ _ h0 h1 h2 h3 h4 =>
    rcases woken_cases C.P g g' { g₀ with status := .blocked } w' with ⟨_, e⟩ | e
    · rw [e, again_blocked h2 h3]
      exact ⟨1, by omega, .walk (n := 0) (by rw [h0]; simp) fun w₁ r₁ => h4 w₁ (r.trans r₁)⟩
    · by_cases hm : s'.ms = 0
      · rw [e]; exact ⟨0, by omega, .blocked h0 hm h2 h3 fun w₁ r₁ => h4 w₁ (r.trans r₁)⟩
      · rw [woken_yes (st.ms h1 hm), again_blocked h2 h3]
        exact ⟨1, by omega, .walk (n := 0) (by rw [h0]; simp) fun w₁ r₁ => h4 w₁ (r.trans r₁)⟩
  | quit h0 h1 =>
    rw [woken_quitsD h1]
    exact ⟨_, Nat.le_succ _, .quit h0 h1⟩
theorem MSit.other {M : Mp} (hk : 0 < k) (hpl : ∀ i, M = .gs i → s'.pl = false) (x : MSit C N K Anch k M s φ o w) (r : RX C Option.none w w') (hs : ShAt C w' s') (st : Stirs C.P g g' s s') : ∃ φ', φ' ≤ φ + 1 ∧ MSit C N K Anch k M s' φ' (woken C.P g g' w' o) w' := by
  cases x with
  | @walk n _ _ h1 =>
    have hrun := goesM_running (C := C) (by
      obtain ⟨k, rfl⟩ : ∃ k', k = k' + 1 := ⟨k - 1, by omega⟩
      exact fun _ _ y => y.1) h1
    rw [woken_run hrun]
    exact ⟨_, Nat.le_succ _, .walk (Goes.rely (rxTrans _) h1 r)⟩
  | @parked i g₀ g₂ _ h0 h2 h3 h4 h5 h6 =>
    subst h0
    have hp := hpl i rfl
    have keep : s'.sc = false → MSit C N K Anch k (.gs i) s' 0 (pkM C i g₂) w' := fun b => .parked rfl b (fun w₁ r₁ => h3 w₁ (r.trans r₁)) h4 h5 h6
    cases hc : s'.sc
    · rcases woken_cases C.P g g' (pkM C i g₂) w' with ⟨_, e⟩ | e
      · rw [e, again_pkM hs, if_neg (by simp [hp, hc])]
        exact ⟨0, by omega, keep hc⟩
      · rw [e]; exact ⟨0, by omega, keep hc⟩
    · rw [woken_yes (st.sc h2 hc), again_pkM hs, if_pos (by simp [hc])]
      exact ⟨1, by omega, .walk (n := 0) fun w₁ r₁ => mk_sel (g := g₀) rfl h4 h5 h6 (h3 w₁ (r.trans r₁))⟩
  | @blocked g₀ _ h0 h1 h2 h3 h4 =>
    rcases woken_cases C.P g g' { g₀ with status := .blocked } w' with ⟨_, e⟩ | e
    · rw [e, again_blocked h2 h3]
      exact ⟨1, by omega, .walk (n := 0) fun w₁ r₁ => h4 w₁ (r.trans r₁)⟩
    · by_cases hm : s'.ws = 0
      · rw [e]; exact ⟨0, by omega, .blocked h0 hm h2 h3 fun w₁ r₁ => h4 w₁ (r.trans r₁)⟩
      · rw [woken_yes (st.ws h1 hm), again_blocked h2 h3]
        exact ⟨1, by omega, .walk (n := 0) fun w₁ r₁ => h4 w₁ (r.trans r₁)⟩
/-- A step that wakes nobody and leaves what the waiting ones wait for. -/
theorem WSit.stays (x : WSit C K k T s h φ d o w) (r : RX C h w w') (h1 : s'.ms = s.ms) (h2 : s'.pl = s.pl) (h3 : s'.sc = s.sc) : WSit C K k T s' h φ d o w' := by
  cases x.rely r with
  | walk a b => exact .walk a b
  | parked a b c e f g i => exact .parked a (h2.trans b) (h3.trans c) e f g i
  | blocked a b c e f => exact .blocked a (h1.trans b) c e f
  | quit a b => exact .quit a b
theorem MSit.stays {M : Mp} (x : MSit C N K Anch k M s φ o w) (r : RX C Option.none w w') (h1 : s'.ws = s.ws) (h3 : s'.sc = s.sc) : MSit C N K Anch k M s' φ o w' := by
  cases x.rely r with
  | walk b => exact .walk b
  | parked a c e f g i => exact .parked a (h3.trans c) e f g i
  | blocked a b c e f => exact .blocked a (h1.trans b) c e f
end
end Go.Proofs.Ytpkiojchlficcaa.Crew

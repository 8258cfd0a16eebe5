/- The crew as an abstract automaton: one giver and N workers, two channels, a Once with its Mutex, a WaitGroup. Plain Lean: no program in sight. -/
namespace Go.Proofs.Ytpkiojchlficcaa.Crew

/-- A sum over the first N. -/
def sm : Nat → (Nat → Nat) → Nat
  | 0, _ => 0
  | j + 1, f => sm j f + f j
def upd {α : Type} (f : Nat → α) (i : Nat) (x : α) : Nat → α := fun a => if a = i then x else f a
theorem upd_same {α : Type} (f : Nat → α) (i : Nat) (x : α) : upd f i x i = x := by simp [upd]
theorem upd_ne {α : Type} (f : Nat → α) {i a : Nat} (x : α) (h : a ≠ i) : upd f i x a = f a := by simp [upd, h]
theorem sm_congr {f g : Nat → Nat} : ∀ {j : Nat}, (∀ i, i < j → f i = g i) → sm j f = sm j g
  | 0, _ => rfl
  | j + 1, h => by rw [sm, sm, sm_congr (fun i hi => h i (by omega)), h j (by omega)]
theorem sm_upd {α : Type} (f : Nat → α) (x : α) (φ : α → Nat) {i : Nat} : ∀ {j : Nat}, i < j → sm j (fun a => φ (upd f i x a)) + φ (f i) = sm j (fun a => φ (f a)) + φ x
  | j + 1, h => by
    rcases Nat.lt_or_ge i j with hlt | hge
    · have := sm_upd f x φ hlt
      simp only [sm, upd_ne f x (show j ≠ i by omega)]
      omega
    · obtain rfl : i = j := by omega
      simp only [sm, upd_same]
      rw [sm_congr (g := fun a => φ (f a)) (fun a ha => by rw [upd_ne f x (by omega)])]
      omega
theorem le_sm {f : Nat → Nat} {i : Nat} : ∀ {j : Nat}, i < j → f i ≤ sm j f
  | j + 1, h => by
    rcases Nat.lt_or_ge i j with hlt | hge
    · have := le_sm (f := f) hlt; simp only [sm]; omega
    · obtain rfl : i = j := by omega
      simp only [sm]; omega
theorem sm_le {f : Nat → Nat} {c : Nat} : ∀ {j : Nat}, (∀ i, i < j → f i ≤ c) → sm j f ≤ c * j
  | 0, _ => by simp [sm]
  | j + 1, h => by
    have := sm_le (f := f) (c := c) (j := j) fun i hi => h i (by omega)
    have := h j (by omega)
    simp only [sm, Nat.mul_add, Nat.mul_one]; omega
theorem sm_zero {f : Nat → Nat} {j : Nat} (h : ∀ i, i < j → f i = 0) : sm j f = 0 := by
  have := sm_le (f := f) (c := 0) (j := j) fun i hi => by rw [h i hi]; exact Nat.le_refl 0
  omega
theorem sm_mono {f g : Nat → Nat} : ∀ {j : Nat}, (∀ i, i < j → f i ≤ g i) → sm j f ≤ sm j g
  | 0, _ => Nat.le_refl 0
  | j + 1, h => by
    have := sm_mono (j := j) fun i hi => h i (by omega)
    have := h j (by omega)
    simp only [sm]; omega
theorem sm_add {f g : Nat → Nat} : ∀ {j : Nat}, sm j (fun a => f a + g a) = sm j f + sm j g
  | 0 => rfl
  | j + 1 => by simp only [sm, sm_add (j := j)]; omega
theorem sm_pos {f : Nat → Nat} : ∀ {j : Nat}, 0 < sm j f → ∃ i, i < j ∧ 0 < f i
  | 0, h => by simp [sm] at h
  | j + 1, h => by
    rcases Nat.eq_zero_or_pos (f j) with hz | hp
    · simp only [sm, hz] at h
      obtain ⟨i, hi, h'⟩ := sm_pos (j := j) (by omega)
      exact ⟨i, by omega, h'⟩
    · exact ⟨j, by omega, hp⟩
theorem sm_two {f : Nat → Nat} {i k : Nat} : ∀ {j : Nat}, i < j → k < j → i ≠ k → f i + f k ≤ sm j f
  | j + 1, hi, hk, hne => by
    rcases Nat.lt_or_ge i j with h1 | h1 <;> rcases Nat.lt_or_ge k j with h2 | h2
    · have := sm_two (f := f) h1 h2 hne; simp only [sm]; omega
    · obtain rfl : k = j := by omega
      have := le_sm (f := f) h1; simp only [sm]; omega
    · obtain rfl : i = j := by omega
      have := le_sm (f := f) h2; simp only [sm]; omega
    · omega

/-- The mutex's word: locked, woken, starving, how many wait. -/
structure Wd where
  l : Bool := false
  w : Bool := false
  s : Bool := false
  n : Nat := 0
  deriving DecidableEq, Repr
inductive Pc where
  | off | sel | o1 | ld | l0 | r0 | sq | c1 | r1 | c2 | t1 | s1 | t2 | r2 | a1 | r3 | le | la | o2 | cl | st | ur | ud | u0 | uc | ux | us | ue | wr | wk | d1 | d2 | d3 | d4 | quit | bad
  deriving DecidableEq, Repr
/-- Where a worker stands: the next stop, and lockSlow's locals. -/
structure Th where
  pc : Pc := .off
  old : Wd := {}
  aw : Bool := false
  sv : Bool := false
  it : Nat := 0
  deriving DecidableEq, Repr
/-- What is shared: the mutex's word and semaphore; the Once's flag; whether the places, the word to stop are closed; the group's counter, waiter, semaphore. -/
structure Sh where
  mu : Wd := {}
  ms : Nat := 0
  dn : Bool := false
  pl : Bool := false
  sc : Bool := false
  c : Nat := 0
  wv : Bool := false
  ws : Nat := 0
  deriving DecidableEq, Repr
/-- Where the giver stands. -/
inductive Mp where
  | k1 (j : Nat) | k2 (j : Nat) | k3 (j : Nat) | k4 (j : Nat) | go (j : Nat) | gs (i : Nat) | cp | w0 | w1 | w2 (c : Nat) (v : Bool) | wm | w3 | w4 | ke | aq | ret | bad
  deriving DecidableEq, Repr
abbrev at_ (p : Pc) : Th := { pc := p }
def toC2 (T : Th) : Th := if T.aw && !T.old.w then { T with pc := .bad } else { T with pc := .c2 }
/-- lockSlow's loop head, to the next stop. -/
def hd (T : Th) : Th := if T.old.l && !T.old.s then { T with pc := .sq } else toC2 T
/-- The word that lockSlow would lay. -/
def nwd (T : Th) : Wd :=
  { l := T.old.l || !T.old.s, w := T.old.w && !T.aw, s := T.old.s || (T.sv && T.old.l), n := if T.old.l || T.old.s then T.old.n + 1 else T.old.n }
/-- unlockSlow's loop head. -/
def uck (m : Wd) : Th := if m.n = 0 ∨ m.l = true ∨ m.w = true ∨ m.s = true then at_ .ue else { pc := .uc, old := m }
def wmv (T : Th) (s : Sh) : List (Th × Sh) :=
  match T.pc with
  | .o1 => if s.dn then [(at_ .sel, s)] else [(at_ .ld, s)]
  | .ld => [(at_ .l0, s)]
  | .l0 => if s.mu = {} then [(at_ .le, { s with mu := { l := true } })] else [(at_ .r0, s)]
  | .r0 => [(hd { pc := .r0, old := s.mu }, s)]
  | .sq => (toC2 T, s) :: (if T.it < 4 then [({ T with pc := if T.aw = false ∧ T.old.w = false ∧ T.old.n ≠ 0 then .c1 else .r1 }, s)] else [])
  | .c1 => if s.mu = T.old then [({ T with pc := .r1, aw := true }, { s with mu := { s.mu with w := true } })] else [({ T with pc := .r1 }, s)]
  | .r1 => [(hd { T with old := s.mu, it := T.it + 1 }, s)]
  | .c2 => if s.mu = T.old then (if T.old.l = false ∧ T.old.s = false then [(at_ .le, { s with mu := nwd T })] else [({ T with pc := .t1 }, { s with mu := nwd T }), ({ T with pc := .s1 }, { s with mu := nwd T })]) else [({ T with pc := .r3 }, s)]
  | .t1 => [({ T with pc := .s1 }, s)]
  | .s1 => if s.ms = 0 then [] else [({ T with pc := if T.sv then .r2 else .t2 }, { s with ms := s.ms - 1 })]
  | .t2 => [({ T with pc := .r2 }, s), ({ T with pc := .r2, sv := true }, s)]
  | .r2 => if s.mu.s then (if s.mu.l = true ∨ s.mu.w = true ∨ s.mu.n = 0 then [(at_ .bad, s)] else [({ T with pc := .a1, old := s.mu }, s)]) else [(hd { T with old := s.mu, aw := true, it := 0 }, s)]
  | .a1 => if s.mu.l = true ∨ s.mu.n = 0 ∨ s.mu.s = false then [(at_ .bad, s)] else [(at_ .le, { s with mu := { l := true, w := s.mu.w, s := T.sv && T.old.n != 1, n := s.mu.n - 1 } })]
  | .r3 => [(hd { T with old := s.mu }, s)]
  | .le => [(at_ .la, s)]
  | .la => [(at_ .o2, s)]
  | .o2 => if s.dn then [(at_ .ur, s)] else [(at_ .cl, s)]
  | .cl => if s.sc then [(at_ .bad, s)] else [(at_ .st, { s with sc := true })]
  | .st => [(at_ .ur, { s with dn := true })]
  | .ur => [(at_ .ud, s)]
  | .ud => [(at_ .u0, s)]
  | .u0 => if s.mu.l = false then [(at_ .bad, s)] else [(if s.mu.s then at_ .us else uck { s.mu with l := false }, { s with mu := { s.mu with l := false } })]
  | .uc => if s.mu = T.old then [(at_ .us, { s with mu := { s.mu with n := s.mu.n - 1, w := true } })] else [(at_ .ux, s)]
  | .ux => [(uck s.mu, s)]
  | .us => [(at_ .ue, { s with ms := s.ms + 1 })]
  | .ue => [(at_ .sel, s)]
  | .wr => [(at_ .wk, s)]
  | .wk => [(at_ .d1, s)]
  | .d1 => if s.c = 0 then [(at_ .bad, s)] else [(if s.c = 1 ∧ s.wv = true then at_ .d2 else at_ .quit, { s with c := s.c - 1 })]
  | .d2 => if s.c = 0 ∧ s.wv = true then [(at_ .d3, s)] else [(at_ .bad, s)]
  | .d3 => [(at_ .d4, { s with c := 0, wv := false })]
  | .d4 => [(at_ .quit, { s with ws := s.ws + 1 })]
  | _ => []
/-- To the first place, or to the end. -/
def give (n i : Nat) : Mp := if i < n then .gs i else .cp
def mmv (M : Mp) (s : Sh) : List (Mp × Sh) :=
  match M with
  | .k1 j => [(.k2 j, s)]
  | .k2 j => if s.wv then [(.bad, s)] else [(if s.c = 0 then .k3 j else .k4 j, { s with c := s.c + 1 })]
  | .k3 j => [(.k4 j, s)]
  | .k4 j => [(.go j, s)]
  | .cp => if s.pl then [(.bad, s)] else [(.w0, { s with pl := true })]
  | .w0 => [(.w1, s)]
  | .w1 => [(if s.c = 0 then .ke else .w2 s.c s.wv, s)]
  | .w2 c v => if s.c = c ∧ s.wv = v then (if v then [(.bad, s)] else [(.wm, { s with wv := true })]) else [(.w1, s)]
  | .wm => [(.w3, s)]
  | .w3 => if s.ws = 0 then [] else [(.w4, { s with ws := s.ws - 1 })]
  | .w4 => if s.c = 0 ∧ s.wv = false then [(.ke, s)] else [(.bad, s)]
  | .ke => [(.aq, s)]
  | .aq => [(.ret, s)]
  | _ => []
structure GS where
  M : Mp
  th : Nat → Th
  s : Sh
  gv : Nat
inductive Step (N n : Nat) (ok : Nat → Bool) : GS → GS → Prop
  | work {G : GS} {j : Nat} {r : Th × Sh} : j < N → r ∈ wmv (G.th j) G.s → Step N n ok G { G with th := upd G.th j r.1, s := r.2 }
  | main {G : GS} {r : Mp × Sh} : r ∈ mmv G.M G.s → Step N n ok G { G with M := r.1, s := r.2 }
  | spawn {G : GS} {j : Nat} : G.M = .go j → Step N n ok G { G with M := if j + 1 < N then .k1 (j + 1) else give n 0, th := upd G.th j (at_ .sel) }
  | give {G : GS} {i j : Nat} : G.M = .gs i → j < N → (G.th j).pc = .sel → Step N n ok G { G with M := give n (i + 1), gv := i + 1, th := upd G.th j (at_ (if ok i then .sel else .o1)) }
  | shut {G : GS} {j : Nat} : j < N → (G.th j).pc = .sel → (G.s.pl = true ∨ G.s.sc = true) → Step N n ok G { G with th := upd G.th j (at_ .wr) }
  | stop {G : GS} {i : Nat} : G.M = .gs i → G.s.sc = true → Step N n ok G { G with M := .cp }
def GS.start : GS := { M := .k1 0, th := fun _ => at_ .off, s := {}, gv := 0 }
end Go.Proofs.Ytpkiojchlficcaa.Crew

/- The automaton's mutex: what holds of its word, its semaphore and of who stands where is kept by every worker's step. -/
import Derived.Test.YtpkiojchlficcaaRank
namespace Go.Proofs.Ytpkiojchlficcaa.Crew

def own (T : Th) : Nat := match T.pc with | .le | .la | .o2 | .cl | .st | .ur | .ud | .u0 => 1 | _ => 0
def pend (T : Th) : Nat := match T.pc with | .us => 1 | _ => 0
def jw (T : Th) : Nat := match T.pc with | .t2 | .r2 | .a1 => 1 | _ => 0
def awk (T : Th) : Nat := match T.pc with | .sq | .c1 | .r1 | .c2 | .r3 => if T.aw then 1 else 0 | _ => 0
def slp (T : Th) : Nat := match T.pc with | .t1 | .s1 => 1 | _ => 0
def stc (T : Th) : Nat := match T.pc with | .st => 1 | _ => 0
def fin (T : Th) : Nat := match T.pc with | .d2 | .d3 | .d4 | .quit => 1 | _ => 0
def d23 (T : Th) : Nat := match T.pc with | .d2 | .d3 => 1 | _ => 0
def d4c (T : Th) : Nat := match T.pc with | .d4 => 1 | _ => 0
def b2n (b : Bool) : Nat := if b then 1 else 0
/-- The mutex's word, its semaphore; how many own, are about to raise the semaphore, have taken it, are awake, sleep. -/
structure MuC (m : Wd) (ms o p j a l : Nat) : Prop where
  own : o = b2n m.l
  norm : m.s = false → p + j + a + ms = b2n m.w
  star : m.s = true → m.w = false ∧ a = 0 ∧ o + p + j + ms = 1 ∧ 1 ≤ m.n
  wait1 : m.s = false → l = m.n + ms + p
  wait2 : m.s = true → l + j = m.n
theorem muC_congr {m : Wd} {ms o p j a l o' p' j' a' l' : Nat} (h : MuC m ms o p j a l) (e1 : o' = o) (e2 : p' = p) (e3 : j' = j) (e4 : a' = a) (e5 : l' = l) : MuC m ms o' p' j' a' l' := by subst e1; subst e2; subst e3; subst e4; subst e5; exact h
section
variable {T : Th} {s : Sh} {r : Th × Sh} {o p j a l o' p' j' a' l' : Nat}
theorem toC2_ok (T : Th) (s : Sh) (h1 : T.aw = true → T.old.w = true ∧ T.old.s = false) (h2 : T.sv = true → T.aw = true) :
    toC2 T = { T with pc := .c2 } ∧ ThOk (toC2 T) s := by
  unfold toC2
  have : ¬ (T.aw && !T.old.w) = true := by
    cases ha : T.aw
    · simp
    · simp [(h1 ha).1]
  rw [if_neg this]
  exact ⟨rfl, h1, h2⟩
theorem hd_ok (T : Th) (s : Sh) (h1 : T.aw = true → T.old.w = true ∧ T.old.s = false) (h2 : T.sv = true → T.aw = true) :
    (hd T = { T with pc := .sq } ∨ hd T = { T with pc := .c2 }) ∧ ThOk (hd T) s := by
  unfold hd
  split
  · rename_i h
    simp only [Bool.and_eq_true, Bool.not_eq_true'] at h
    exact ⟨.inl rfl, h.1, h.2, fun ha => (h1 ha).1, h2⟩
  · obtain ⟨e, k⟩ := toC2_ok T s h1 h2
    exact ⟨.inr e, k⟩
theorem hd_cnt (T : Th) (h : hd T = { T with pc := .sq } ∨ hd T = { T with pc := .c2 }) : own (hd T) = 0 ∧ pend (hd T) = 0 ∧ jw (hd T) = 0 ∧ awk (hd T) = (if T.aw then 1 else 0) ∧ slp (hd T) = 0 := by
  rcases h with h | h <;> rw [h] <;> simp [own, pend, jw, awk, slp]
theorem uck_cnt (m : Wd) : own (uck m) = 0 ∧ pend (uck m) = 0 ∧ jw (uck m) = 0 ∧ awk (uck m) = 0 ∧ slp (uck m) = 0 := by
  unfold uck; split <;> simp [own, pend, jw, awk, slp]
theorem uck_ok (m : Wd) (s : Sh) : ThOk (uck m) s := by
  unfold uck
  split
  · trivial
  · rename_i h
    simp only [not_or, Bool.not_eq_true] at h
    exact ⟨h.2.1, h.2.2.1, h.2.2.2, Nat.pos_of_ne_zero h.1⟩
theorem queue_keeps {m : Wd} {aw sv : Bool} {it ms o p j a l o' p' j' a' l' : Nat} (h : MuC m ms o p j a l) (hf : ¬ (m.l = false ∧ m.s = false)) (ha : (if aw then 1 else 0) ≤ a)
    (hT1 : aw = true → m.w = true ∧ m.s = false) (hT2 : sv = true → aw = true) (eo : o' = o) (ep : p' = p) (ej : j' = j) (ea : a' + (if aw then 1 else 0) = a) (el : l' = l + 1) :
    MuC (nwd ⟨.c2, m, aw, sv, it⟩) ms o' p' j' a' l' := by
  subst eo; subst ep; subst ej; subst el
  obtain ⟨ml, mw, mss, mn⟩ := m
  obtain ⟨h1, h2, h3, h4, h5⟩ := h
  cases mss
  · have hl1 : ml = true := by cases ml <;> simp_all
    subst hl1
    have hn := h2 rfl
    have hw := h4 rfl
    clear h2 h3 h4 h5
    simp only [nwd]
    cases aw
    · have hsv : sv = false := by cases sv <;> simp_all
      subst hsv
      simp at ea
      subst ea
      refine ⟨by simpa using h1, fun _ => ?_, by simp, fun _ => ?_, by simp⟩
      · simpa using hn
      · simp at hw ⊢; omega
    · have hmw := (hT1 rfl).1
      simp only at hmw
      subst hmw
      simp [b2n] at hn ea h1 ha
      cases sv
      · refine ⟨by simpa [b2n] using h1, fun _ => ?_, by simp, fun _ => ?_, by simp⟩
        · simp [b2n]; omega
        · simp at hw ⊢; omega
      · refine ⟨by simpa [b2n] using h1, by simp, fun _ => ⟨by simp, by omega, by omega, by simp⟩, by simp, fun _ => ?_⟩
        simp at hw ⊢; omega
  · have haw : aw = false := by
      cases aw
      · rfl
      · have := (hT1 rfl).2; simp at this
    subst haw
    have hsv : sv = false := by cases sv <;> simp_all
    subst hsv
    obtain ⟨k1, k2, k3, k4⟩ := h3 rfl
    have k5 := h5 rfl
    simp only at k1 k4 k5
    subst k1
    simp at ea
    subst ea
    simp only [nwd]
    refine ⟨by simpa using h1, by simp, fun _ => ⟨by simp, k2, k3, ?_⟩, by simp, fun _ => ?_⟩
    · simp
    · simp; omega
set_option maxHeartbeats 1000000 in
theorem mu_work (hT : ThOk T s) (hsc : T.pc = .o2 → s.dn = false → s.sc = false) (hc : T.pc = .d1 → s.c ≠ 0) (hr : r ∈ wmv T s) (h : MuC s.mu s.ms o p j a l)
    (ho : own T ≤ o) (hp : pend T ≤ p) (hj : jw T ≤ j) (ha : awk T ≤ a) (hl : slp T ≤ l)
    (eo : o' + own T = o + own r.1) (ep : p' + pend T = p + pend r.1) (ej : j' + jw T = j + jw r.1) (ea : a' + awk T = a + awk r.1) (el : l' + slp T = l + slp r.1) :
    MuC r.2.mu r.2.ms o' p' j' a' l' ∧ ThOk r.1 r.2 := by
  obtain ⟨pc, old, aw, sv, it⟩ := T
  obtain ⟨mu, ms, dn, pl, sc, c, wv, ws⟩ := s
  change MuC mu ms o p j a l at h
  cases pc <;> simp only [wmv, List.not_mem_nil] at hr
  case o1 => split at hr <;> simp at hr <;> subst hr <;> simp [own, pend, jw, awk, slp] at * <;> exact ⟨muC_congr h eo ep ej ea el, trivial⟩
  case ld => simp at hr; subst hr; simp [own, pend, jw, awk, slp] at *; exact ⟨muC_congr h eo ep ej ea el, trivial⟩
  case l0 =>
    split at hr <;> simp at hr <;> subst hr <;> simp [own, pend, jw, awk, slp] at *
    · rename_i e
      subst e
      refine ⟨⟨?_, fun _ => ?_, by simp, fun _ => ?_, by simp⟩, trivial⟩
      · have := h.own; simp [b2n] at this ⊢; omega
      · have := h.norm rfl; simp [b2n] at this ⊢; omega
      · have := h.wait1 rfl; simp at this ⊢; omega
    · exact ⟨muC_congr h eo ep ej ea el, trivial⟩
  case r0 =>
    simp at hr; subst hr
    obtain ⟨e, k⟩ := hd_ok { pc := .r0, old := mu } ⟨mu, ms, dn, pl, sc, c, wv, ws⟩ (by simp) (by simp)
    obtain ⟨c1, c2, c3, c4, c5⟩ := hd_cnt _ e
    simp only [c1, c2, c3, c4, c5] at eo ep ej ea el
    simp [own, pend, jw, awk, slp] at eo ep ej ea el
    exact ⟨muC_congr h eo ep ej ea el, k⟩
  case sq =>
    simp only [ThOk] at hT
    simp at hr
    rcases hr with rfl | ⟨h4, rfl⟩
    · obtain ⟨e, k⟩ := toC2_ok ⟨.sq, old, aw, sv, it⟩ ⟨mu, ms, dn, pl, sc, c, wv, ws⟩ (fun x => ⟨hT.2.2.1 x, hT.2.1⟩) hT.2.2.2
      simp only [e] at eo ep ej ea el
      simp [own, pend, jw, awk, slp] at eo ep ej ea el
      exact ⟨muC_congr h eo ep ej ea el, k⟩
    · have k : own ⟨if aw = false ∧ old.w = false ∧ old.n ≠ 0 then .c1 else .r1, old, aw, sv, it⟩ = 0 ∧ pend ⟨if aw = false ∧ old.w = false ∧ old.n ≠ 0 then .c1 else .r1, old, aw, sv, it⟩ = 0 ∧ jw ⟨if aw = false ∧ old.w = false ∧ old.n ≠ 0 then .c1 else .r1, old, aw, sv, it⟩ = 0 ∧ awk ⟨if aw = false ∧ old.w = false ∧ old.n ≠ 0 then .c1 else .r1, old, aw, sv, it⟩ = (if aw then 1 else 0) ∧ slp ⟨if aw = false ∧ old.w = false ∧ old.n ≠ 0 then .c1 else .r1, old, aw, sv, it⟩ = 0 := by
        split <;> simp [own, pend, jw, awk, slp]
      simp only [k] at eo ep ej ea el
      simp [own, pend, jw, awk, slp] at eo ep ej ea el
      refine ⟨muC_congr h eo ep ej ea el, ?_⟩
      by_cases hx : aw = false ∧ old.w = false ∧ ¬ old.n = 0
      · rw [if_pos hx]
        have hs : sv = false := by
          cases hsv : sv
          · rfl
          · have := hT.2.2.2 hsv; simp only [hx.1] at this; cases this
        exact ⟨hx.1, hs, h4, hT.1, hT.2.1, hx.2.1⟩
      · rw [if_neg hx]; exact ⟨h4, hT.2.2.2⟩
  case c1 =>
    simp only [ThOk] at hT
    obtain ⟨rfl, rfl, h4, t1, t2, t3⟩ := hT
    split at hr <;> simp at hr <;> subst hr <;> simp [own, pend, jw, awk, slp] at *
    · rename_i e
      subst e
      refine ⟨⟨?_, fun _ => ?_, fun e => ?_, fun _ => ?_, fun e => ?_⟩, h4, by simp⟩
      · have := h.own; simpa [eo] using this
      · have := h.norm t2; simp [b2n, t3] at this ⊢; omega
      · simp [t2] at e
      · have := h.wait1 t2; simp at this ⊢; omega
      · simp [t2] at e
    · exact ⟨muC_congr h eo ep ej ea el, h4, by simp⟩
  case r1 =>
    simp only [ThOk] at hT
    simp at hr; subst hr
    have hw : aw = true → mu.w = true ∧ mu.s = false := by
      rintro rfl
      simp [awk] at ha
      cases hs : mu.s
      · have := h.norm hs
        refine ⟨?_, rfl⟩
        cases hww : mu.w
        · simp [hww, b2n] at this; omega
        · rfl
      · have := (h.star hs).2.1; omega
    obtain ⟨e, k⟩ := hd_ok ⟨.r1, mu, aw, sv, it + 1⟩ ⟨mu, ms, dn, pl, sc, c, wv, ws⟩ hw hT.2
    obtain ⟨c1, c2, c3, c4, c5⟩ := hd_cnt _ e
    simp only [c1, c2, c3, c4, c5] at eo ep ej ea el
    simp [own, pend, jw, awk, slp] at eo ep ej ea el
    exact ⟨muC_congr h eo ep ej ea el, k⟩
  case c2 =>
    simp only [ThOk] at hT
    split at hr
    · rename_i e
      subst e
      split at hr
      · rename_i hf
        simp at hr; subst hr
        simp [own, pend, jw, awk, slp] at *
        have hn := h.norm hf.2
        have ho' := h.own
        have hw := h.wait1 hf.2
        refine ⟨⟨?_, fun _ => ?_, fun e => ?_, fun _ => ?_, fun e => ?_⟩, trivial⟩
        · simp [nwd, b2n, hf] at ho' ⊢; omega
        · cases aw
          · simp [nwd, b2n] at hn ea ⊢; simp [ep, ej, ea, hn]
          · have := (hT.1 rfl).1
            simp [nwd, b2n, this] at hn ea ⊢; omega
        · simp [nwd, hf] at e
        · simp [nwd, hf] at hw ⊢; omega
        · simp [nwd, hf] at e
      · rename_i hf
        simp at hr
        have key := fun e1 e2 e3 e4 e5 => queue_keeps (o' := o') (p' := p') (j' := j') (a' := a') (l' := l') (it := it) h hf ha hT.1 hT.2 e1 e2 e3 e4 e5
        rcases hr with rfl | rfl <;> simp [own, pend, jw, slp] at eo ep ej el <;> simp only [awk] at ea <;> exact ⟨key eo ep ej (by simpa using ea) (by omega), trivial⟩
    · simp at hr; subst hr
      simp [own, pend, jw, awk, slp] at *
      exact ⟨muC_congr h eo ep ej ea el, hT.2⟩
  case t1 => simp at hr; subst hr; simp [own, pend, jw, awk, slp] at *; exact ⟨muC_congr h eo ep ej ea el, trivial⟩
  case s1 =>
    split at hr <;> simp at hr
    rename_i h0
    subst hr
    have k : own ⟨if sv = true then .r2 else .t2, old, aw, sv, it⟩ = 0 ∧ pend ⟨if sv = true then .r2 else .t2, old, aw, sv, it⟩ = 0 ∧ jw ⟨if sv = true then .r2 else .t2, old, aw, sv, it⟩ = 1 ∧ awk ⟨if sv = true then .r2 else .t2, old, aw, sv, it⟩ = 0 ∧ slp ⟨if sv = true then .r2 else .t2, old, aw, sv, it⟩ = 0 := by
      split <;> simp [own, pend, jw, awk, slp]
    simp only [k] at eo ep ej ea el
    simp [own, pend, jw, awk, slp] at eo ep ej ea el hl
    refine ⟨⟨?_, fun hs => ?_, fun hs => ?_, fun hs => ?_, fun hs => ?_⟩, ?_⟩
    · have := h.own; simp only; omega
    · have := h.norm hs; simp only; omega
    · obtain ⟨a1, a2, a3, a4⟩ := h.star hs; exact ⟨a1, by omega, by simp only at a3 ⊢; omega, a4⟩
    · have := h.wait1 hs; simp only at this ⊢; omega
    · have := h.wait2 hs; simp only at this ⊢; omega
    · split <;> trivial
  case t2 => simp at hr; rcases hr with rfl | rfl <;> simp [own, pend, jw, awk, slp] at * <;> exact ⟨muC_congr h eo ep ej ea el, trivial⟩
  case r2 =>
    simp [jw] at hj
    split at hr
    · rename_i hs
      obtain ⟨a1, a2, a3, a4⟩ := h.star hs
      split at hr
      · rename_i hx
        exfalso
        simp only [a1] at hx
        rcases hx with hx | hx | hx
        · have := h.own; simp [b2n, hx] at this; omega
        · cases hx
        · omega
      · simp at hr; subst hr
        simp [own, pend, jw, awk, slp] at *
        exact ⟨muC_congr h eo ep ej ea el, hs, Nat.le_refl _, a4⟩
    · rename_i hs
      simp at hr; subst hr
      simp only [Bool.not_eq_true] at hs
      have hn := h.norm hs
      have hw : mu.w = true := by
        cases hww : mu.w
        · simp [b2n, hww] at hn; omega
        · rfl
      obtain ⟨e, k⟩ := hd_ok ⟨.r2, mu, true, sv, 0⟩ ⟨mu, ms, dn, pl, sc, c, wv, ws⟩ (fun _ => ⟨hw, hs⟩) (fun _ => rfl)
      obtain ⟨c1, c2, c3, c4, c5⟩ := hd_cnt _ e
      simp only [c1, c2, c3, c4, c5] at eo ep ej ea el
      simp [own, pend, jw, awk, slp] at eo ep ej ea el
      refine ⟨⟨by rw [eo]; exact h.own, fun _ => by simp only at ea hn ⊢; omega, fun e => by simp [hs] at e, fun _ => ?_, fun e => by simp [hs] at e⟩, k⟩
      have := h.wait1 hs; simp only at this ⊢; omega
  case a1 =>
    obtain ⟨t1, t2, t3⟩ := hT
    change mu.s = true at t1
    change old.n ≤ mu.n at t2
    change 1 ≤ old.n at t3
    simp [jw] at hj
    obtain ⟨a1, a2, a3, a4⟩ := h.star t1
    have hl0 : mu.l = false := by
      cases hll : mu.l
      · rfl
      · have := h.own; simp [b2n, hll] at this; omega
    have ho := h.own
    have hw2 := h.wait2 t1
    simp [b2n, hl0] at ho
    split at hr
    · rename_i hx
      exfalso
      simp only [hl0, t1] at hx
      rcases hx with hx | hx | hx
      · cases hx
      · omega
      · cases hx
    · simp at hr; subst hr
      simp [own, pend, jw, awk, slp] at *
      refine ⟨⟨?_, fun hs => ?_, fun hs => ⟨a1, by omega, by omega, ?_⟩, fun hs => ?_, fun hs => ?_⟩, trivial⟩
      · simp [b2n]; omega
      · simp only at hs ⊢; simp [a1, b2n]; omega
      · simp only [Bool.and_eq_true, bne_iff_ne] at hs ⊢; omega
      · simp only at hs ⊢; omega
      · simp only at hs ⊢; omega
  case r3 =>
    simp only [ThOk] at hT
    simp at hr; subst hr
    have hw : aw = true → mu.w = true ∧ mu.s = false := by
      rintro rfl
      simp [awk] at ha
      cases hs : mu.s
      · have := h.norm hs
        refine ⟨?_, rfl⟩
        cases hww : mu.w
        · simp [hww, b2n] at this; omega
        · rfl
      · have := (h.star hs).2.1; omega
    obtain ⟨e, k⟩ := hd_ok ⟨.r3, mu, aw, sv, it⟩ ⟨mu, ms, dn, pl, sc, c, wv, ws⟩ hw hT
    obtain ⟨c1, c2, c3, c4, c5⟩ := hd_cnt _ e
    simp only [c1, c2, c3, c4, c5] at eo ep ej ea el
    simp [own, pend, jw, awk, slp] at eo ep ej ea el
    exact ⟨muC_congr h eo ep ej ea el, k⟩
  case o2 =>
    split at hr <;> simp at hr <;> subst hr <;> simp [own, pend, jw, awk, slp] at *
    · exact ⟨muC_congr h eo ep ej ea el, trivial⟩
    · rename_i hd
      exact ⟨muC_congr h eo ep ej ea el, hsc hd⟩
  case cl =>
    change sc = false at hT
    subst hT
    simp at hr
    subst hr
    simp [own, pend, jw, awk, slp] at *
    exact ⟨muC_congr h eo ep ej ea el, trivial⟩
  case u0 =>
    simp [own] at ho
    have h1 := h.own
    have hl1 : mu.l = true := by
      cases hll : mu.l
      · simp [b2n, hll] at h1; omega
      · rfl
    simp [hl1] at hr
    subst hr
    simp [hl1, b2n] at h1
    have h2 := h.norm
    have h3 := h.star
    have h4 := h.wait1
    have h5 := h.wait2
    cases hs : mu.s
    · simp only [hs, Bool.false_eq_true, ↓reduceIte] at eo ep ej ea el ⊢
      obtain ⟨c1, c2, c3, c4, c5⟩ := uck_cnt { mu with l := false }
      simp only [hs] at c1 c2 c3 c4 c5
      simp only [c1, c2, c3, c4, c5] at eo ep ej ea el
      simp [own, pend, jw, awk, slp] at eo ep ej ea el
      refine ⟨⟨?_, fun _ => ?_, by simp, fun _ => ?_, by simp⟩, ?_⟩
      · simp [b2n]; omega
      · have := h2 hs; simp only; rw [ep, ej, ea]; exact this
      · have := h4 hs; simp only; omega
      · exact uck_ok _ _
    · simp only [hs, ↓reduceIte] at eo ep ej ea el ⊢
      simp [own, pend, jw, awk, slp] at eo ep ej ea el
      obtain ⟨a1, a2, a3, a4⟩ := h3 hs
      have := h5 hs
      refine ⟨⟨?_, by simp, fun _ => ⟨a1, by omega, by omega, a4⟩, by simp, fun _ => ?_⟩, trivial⟩
      · simp [b2n]; omega
      · simp only; omega
  case uc =>
    obtain ⟨t1, t2, t3, t4⟩ := hT
    change old.l = false at t1
    change old.w = false at t2
    change old.s = false at t3
    change 0 < old.n at t4
    split at hr <;> simp at hr <;> subst hr <;> simp [own, pend, jw, awk, slp] at *
    · rename_i e
      subst e
      have h1 := h.own
      have h2 := h.norm t3
      have h4 := h.wait1 t3
      simp [t2, b2n] at h2
      refine ⟨⟨?_, fun _ => ?_, fun e => by simp [t3] at e, fun _ => ?_, fun e => by simp [t3] at e⟩, trivial⟩
      · simp only; omega
      · simp [b2n]; omega
      · simp only; omega
    · exact ⟨muC_congr h eo ep ej ea el, trivial⟩
  case ux =>
    simp at hr; subst hr
    obtain ⟨c1, c2, c3, c4, c5⟩ := uck_cnt mu
    simp only [c1, c2, c3, c4, c5] at eo ep ej ea el
    simp [own, pend, jw, awk, slp] at eo ep ej ea el
    exact ⟨muC_congr h eo ep ej ea el, uck_ok _ _⟩
  case us =>
    simp at hr; subst hr
    simp [own, pend, jw, awk, slp] at *
    refine ⟨⟨?_, fun hs => ?_, fun hs => ?_, fun hs => ?_, fun hs => ?_⟩, trivial⟩
    · have := h.own; omega
    · have := h.norm hs; omega
    · obtain ⟨a1, a2, a3, a4⟩ := h.star hs; exact ⟨a1, by omega, by omega, a4⟩
    · have := h.wait1 hs; omega
    · have := h.wait2 hs; omega
  case d1 =>
    have hc' := hc rfl
    change c ≠ 0 at hc'
    simp [hc'] at hr
    subst hr
    by_cases hx : c = 1 ∧ wv = true
    · simp [hx, own, pend, jw, awk, slp] at *
      exact ⟨muC_congr h eo ep ej ea el, rfl, rfl, hT⟩
    · simp [hx, own, pend, jw, awk, slp] at *
      exact ⟨muC_congr h eo ep ej ea el, hT⟩
  case d2 =>
    obtain ⟨t1, t2, t3⟩ := hT
    change c = 0 at t1
    change wv = true at t2
    simp [t1, t2] at hr; subst hr
    simp [own, pend, jw, awk, slp] at *
    exact ⟨muC_congr h eo ep ej ea el, rfl, rfl, t3⟩
  case d3 =>
    obtain ⟨t1, t2, t3⟩ := hT
    simp at hr; subst hr
    simp [own, pend, jw, awk, slp] at *
    exact ⟨muC_congr h eo ep ej ea el, t3⟩
  case d4 =>
    simp at hr; subst hr
    simp [own, pend, jw, awk, slp] at *
    exact ⟨muC_congr h eo ep ej ea el, hT⟩
  case wr => simp at hr; subst hr; simp [own, pend, jw, awk, slp] at *; exact ⟨muC_congr h eo ep ej ea el, hT⟩
  case wk => simp at hr; subst hr; simp [own, pend, jw, awk, slp] at *; exact ⟨muC_congr h eo ep ej ea el, hT⟩
  all_goals (simp at hr; subst hr; simp [own, pend, jw, awk, slp] at *; exact ⟨muC_congr h eo ep ej ea el, trivial⟩)
end
end Go.Proofs.Ytpkiojchlficcaa.Crew

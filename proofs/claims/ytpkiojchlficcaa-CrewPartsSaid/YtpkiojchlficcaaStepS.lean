/- The crew's machine: the steps at the selects. -/
import Derived.Test.YtpkiojchlficcaaStepM
namespace Go.Proofs.Ytpkiojchlficcaa.Crew
open Go Go.Conc
open Go.ConcM (OsLater)
open Go.ConcN (RelBy)
open Go.ConcR (stA smA)
variable {C : Cf} {N : Nat} {Anch : Goroutine → World → Prop} {K B₀ : Nat} {t₀ : Trace} {w₀ : World}
variable {gs : Array Goroutine} {w : World} {sl : Option (Nat × Nat)} {G : GS} {own held : Nat → Option Nat} {φ : Nat → Nat} {t : Trace}
/-! ### who offers what -/
section
variable {k : Nat} {T : Th} {s : Sh} {h : Option Nat} {x d : Nat} {g : Goroutine}
theorem WSit.sends (hk : 0 < k) (y : WSit C K k T s h x d g w) (r : Nat) : offersAt g r true = [] := by
  obtain ⟨k, rfl⟩ : ∃ k', k = k' + 1 := ⟨k - 1, by omega⟩
  cases y with
  | walk h0 h1 => exact offersAt_of_not_blocked (by rw [goesW_running (fun _ _ y => y.2.1) h1]; simp) _ _
  | parked => exact offersAt_parked_sends (by simp [rcase]) r
  | blocked _ _ _ h3 => exact offersAt_blocked h3 _ _
  | quit _ h1 => exact offersAt_of_not_blocked (by rcases h1.status with e | e <;> rw [e] <;> simp) _ _
theorem WSit.recvs (hk : 0 < k) (y : WSit C K k T s h x d g w) {m : Nat} (hps : C.tp.Pl ≠ C.tp.St) (hm : m ∈ offersAt g C.tp.Pl false) : m = 0 ∧ T.pc = .sel ∧ ∃ g₀ g₂, g = pkW C g₂ ∧ (∀ w₁, RX C h w w₁ → (∀ i, h = some i → OutAt C w₁ i (C.val i)) ∧ Wk C k T g₀ w₁) ∧ g₂.frame = g₀.frame ∧ g₂.callers = g₀.callers ∧ g₂.dying = g₀.dying := by
  obtain ⟨k, rfl⟩ : ∃ k', k = k' + 1 := ⟨k - 1, by omega⟩
  cases y with
  | walk h0 h1 => rw [offersAt_of_not_blocked (by rw [goesW_running (fun _ _ y => y.2.1) h1]; simp)] at hm; cases hm
  | @parked _ g₀ g₂ _ h0 _ _ h3 h4 h5 h6 =>
    have e : offersAt (pkW C g₂) C.tp.Pl false = [0] := by simp [offersAt, Go.Conc.parked, rcase, Ne.symm hps]
    rw [e] at hm
    exact ⟨by simpa using hm, h0, g₀, g₂, rfl, h3, h4, h5, h6⟩
  | blocked _ _ _ h3 => rw [offersAt_blocked h3] at hm; cases hm
  | quit _ h1 => rw [offersAt_of_not_blocked (by rcases h1.status with e | e <;> rw [e] <;> simp)] at hm; cases hm
theorem WSit.deaf (y : WSit C K k T s h x d g w) (hq : T.pc ≠ .quit) : T.deaf = d := by
  cases y with
  | walk => rfl
  | parked => rfl
  | blocked => rfl
  | quit e _ => exact absurd e hq
theorem MSit.sendsSt {M : Mp} (hk : 0 < k) (y : MSit C N K Anch k M s x g w) (hps : C.tp.Pl ≠ C.tp.St) : offersAt g C.tp.St true = [] := by
  obtain ⟨k, rfl⟩ : ∃ k', k = k' + 1 := ⟨k - 1, by omega⟩
  cases y with
  | walk h1 => exact offersAt_of_not_blocked (by rw [goesM_running (fun _ _ y => y.1) h1]; simp) _ _
  | parked => simp [offersAt, Go.Conc.parked, rcase, scase, hps]
  | blocked _ _ _ h3 => exact offersAt_blocked h3 _ _
theorem MSit.sendsPl {M : Mp} (hk : 0 < k) (y : MSit C N K Anch k M s x g w) : offersAt g C.tp.Pl true = [] ∨ (offersAt g C.tp.Pl true = [0] ∧ ∃ i g₀ g₂, M = .gs i ∧ s.sc = false ∧ g = pkM C i g₂ ∧ (∀ w₁, RX C Option.none w w₁ → Mk C N Anch k M g₀ w₁) ∧ g₂.frame = g₀.frame ∧ g₂.callers = g₀.callers ∧ g₂.dying = g₀.dying) := by
  obtain ⟨k, rfl⟩ : ∃ k', k = k' + 1 := ⟨k - 1, by omega⟩
  cases y with
  | walk h1 => exact .inl (offersAt_of_not_blocked (by rw [goesM_running (fun _ _ y => y.1) h1]; simp) _ _)
  | @parked i g₀ g₂ _ h0 h1 h3 h4 h5 h6 => exact .inr ⟨by simp [offersAt, Go.Conc.parked, rcase, scase], i, g₀, g₂, h0, h1, rfl, h3, h4, h5, h6⟩
  | blocked _ _ _ h3 => exact .inl (offersAt_blocked h3 _ _)
end
section
variable (F : Fixed C N K t₀ B₀) (c : Ctx C N Anch K t₀ w₀ gs w G own held φ t)
include F c
/-- Every goroutine is one of the three. -/
theorem Ctx.cases {l : Nat} {g : Goroutine} (hl : gs[l]? = some g) : (l = 0 ∧ ∃ k, rank N C.n G < k ∧ MSit C N K Anch k G.M G.s (φ 0) g w) ∨ (0 < l ∧ l < C.tp.gb ∧ ∃ q, φ l = K * q ∧ QuitsD C.P q (Deaf t l) g) ∨
    (∃ j, l = C.tp.gb + j ∧ j < spawned N G.M ∧ ∃ k h d, rank N C.n G < k ∧ h = held j ∧ d = Deaf t l ∧ WSit C K k (G.th j) G.s h (φ l) d g w) := by
  have hgb := F.gb
  have hlt : l < gs.size := (Array.getElem?_eq_some_iff.1 hl).1
  have hS := c.sits l hlt
  rcases Nat.eq_zero_or_pos l with rfl | hpos
  · obtain ⟨a, k, ha, hk, hm⟩ := hS.main rfl
    obtain rfl : a = g := Option.some.inj (ha.symm.trans hl)
    exact .inl ⟨rfl, k, hk, hm⟩
  · rcases Nat.lt_or_ge l C.tp.gb with h1 | h1
    · obtain ⟨a, q, ha, hq, hQ⟩ := hS.old hpos h1
      obtain rfl : a = g := Option.some.inj (ha.symm.trans hl)
      exact .inr (.inl ⟨hpos, h1, q, hq, hQ⟩)
    · have hsz := c.size
      obtain ⟨j, rfl⟩ : ∃ j, l = C.tp.gb + j := ⟨l - C.tp.gb, by omega⟩
      obtain ⟨a, k, h, d, ha, hk, hh, hd, hW⟩ := hS.work j rfl (by omega)
      obtain rfl : a = g := Option.some.inj (ha.symm.trans hl)
      exact .inr (.inr ⟨j, rfl, by omega, k, h, d, hk, hh, hd, hW⟩)
/-- Nobody offers a send on the channel of the word to stop. -/
theorem Ctx.noSendSt (i : Nat) : partners (gs.setIfInBounds i ph) C.tp.St true = [] := by
  refine partners_nil fun l g hl => ?_
  rcases getElem?_stand gs i l g hl with ⟨_, rfl⟩ | ⟨_, hl'⟩
  · rfl
  · rcases c.cases F hl' with ⟨_, k, hk, hm⟩ | ⟨_, _, q, _, hQ⟩ | ⟨j, _, _, k, h, d, hk, _, _, hW⟩
    · exact hm.sendsSt (by omega) F.geo.ps
    · exact quits_offers hQ _ _
    · exact hW.sends (by omega) _
/-- The giver alone offers places. -/
theorem Ctx.sendPl {i : Nat} (hi : i ≠ 0) {g : Goroutine} (h0 : gs[0]? = some g) : partners (gs.setIfInBounds i ph) C.tp.Pl true = (offersAt g C.tp.Pl true).map fun k => (0, k) := by
  refine partners_one (stand_get (Ne.symm hi) h0) fun l x hl hx => ?_
  rcases getElem?_stand gs i l x hx with ⟨_, rfl⟩ | ⟨_, hl'⟩
  · rfl
  · rcases c.cases F hl' with ⟨e, _⟩ | ⟨_, _, q, _, hQ⟩ | ⟨j, _, _, k, h, d, hk, _, _, hW⟩
    · exact absurd e hl
    · exact quits_offers hQ _ _
    · exact hW.sends (by omega) _
omit F c in
theorem choose_any {Q : Nat → Nat → Prop} {n : Nat} (h : ∀ l, l < n → ∃ x, Q l x) : ∃ φ' : Nat → Nat, ∀ l, l < n → Q l (φ' l) :=
  ⟨fun l => if hl : l < n then Classical.choose (h l hl) else 0, fun l hl => by simp only [dif_pos hl]; exact Classical.choose_spec (h l hl)⟩
omit F c in
/-- Some are laid anew, the others stand: nobody is let try again. -/
theorem stay_sits (hsize : ∀ l, l < gs.size → Sits C N Anch K gs w G held t l (φ l)) {gs' : Array Goroutine} (hsz : gs'.size = gs.size) {w' : World} {G' : GS} {held' : Nat → Option Nat} {t' : Trace} (ch : Nat → Prop)
    (mine : ∀ l, ch l → l < gs.size → ∃ x, Sits C N Anch K gs' w' G' held' t' l x) (ho : ∀ l, ¬ ch l → gs'[l]? = gs[l]?) (hD : ∀ l, ¬ ch l → Deaf t' l = Deaf t l) (hM : ¬ ch 0 → G'.M = G.M) (hth : ∀ j', ¬ ch (C.tp.gb + j') → G'.th j' = G.th j' ∧ held' j' = held j')
    (hs : G'.s = G.s) (hsp : spawned N G'.M = spawned N G.M) (hr : rank N C.n G' ≤ rank N C.n G) (hrx : ∀ h, RX C h w w') : ∃ φ' : Nat → Nat, ∀ l, l < gs'.size → Sits C N Anch K gs' w' G' held' t' l (φ' l) := by
  rw [hsz]
  refine choose_any fun l hl => ?_
  by_cases hc : ch l
  · exact mine l hc hl
  · have hS := hsize l hl
    refine ⟨φ l, fun h0 => ?_, fun h0 h1 => ?_, fun j hj hjs => ?_⟩
    · subst h0
      obtain ⟨a, k, ha, hk, hm⟩ := hS.main rfl
      exact ⟨a, k, by rw [ho 0 hc]; exact ha, by omega, by rw [hM hc]; exact hm.stays (hrx _) (by rw [hs]) (by rw [hs])⟩
    · obtain ⟨a, q, ha, hq, hQ⟩ := hS.old h0 h1
      exact ⟨a, q, by rw [ho l hc]; exact ha, hq, by rw [hD l hc]; exact hQ⟩
    · subst hj
      obtain ⟨e1, e2⟩ := hth j hc
      obtain ⟨a, k, h, d, ha, hk, hh, hd, hW⟩ := hS.work j rfl (by rw [← hsp]; exact hjs)
      exact ⟨a, k, h, d, by rw [ho _ hc]; exact ha, by omega, by rw [e2]; exact hh, by rw [hD _ hc]; exact hd, by rw [e1]; exact hW.stays (hrx _) (by rw [hs]) (by rw [hs]) (by rw [hs])⟩
/-- Operations that touch nothing and say nothing. -/
def Idle (C : Cf) (u : Trace) : Prop := ∀ op ∈ u, op.act.touch? = Option.none ∧ op.act.low C.B ∧ ∀ m, op.act ≠ .mark m
omit F c in
theorem Idle.deaf {u : Trace} (h : Idle C u) (t : Trace) (l : Nat) : Deaf (t ++ u) l = Deaf t l := by
  obtain ⟨us⟩ := u
  rw [Deaf_append]
  induction us generalizing t with
  | nil => rfl
  | cons y us ih =>
    have e : deafStep l (Deaf t l) y = Deaf t l := by
      unfold deafStep
      split
      · rename_i e; exact absurd e ((h y (by simp)).2.2 _)
      · rename_i e; exact absurd e ((h y (by simp)).2.2 _)
      · rfl
    rw [List.foldl_cons, e]
    have h' : Idle C us.toArray := fun op hop => h op (by simp at hop ⊢; exact .inr hop)
    exact ih t h'
omit F c in
theorem Idle.ti {u : Trace} {sp : Nat} (h : Idle C u) (x : TI C.tp C.B t₀ t own sp) : TI C.tp C.B t₀ (t ++ u) own sp :=
  x.none (fun op hop => (h op hop).1) (fun op hop => (h op hop).2.1) (fun op hop => (h op hop).2.2 _)
omit F c in
theorem rx_chan (g : Geo C) {pl : Bool} {cnt : Nat} {s : Sh} (hs : ShAt C w s) (hp : s.pl = pl) (d : Nat) (h : Option Nat) : RX C h w ((w.at d).setChan C.tp.Pl 0 #[] pl (cnt + 1) (cnt + 1) false) ∧ ShAt C ((w.at d).setChan C.tp.Pl 0 #[] pl (cnt + 1) (cnt + 1) false) s ∧
    ((w.at d).setChan C.tp.Pl 0 #[] pl (cnt + 1) (cnt + 1) false).heap[C.tp.Out]? = w.heap[C.tp.Out]? := by
  obtain ⟨n, hpl⟩ := hs.pl
  have hlt : C.tp.Pl < w.heap.size := (Array.getElem?_eq_some_iff.1 hpl).1
  have other : ∀ b, b ≠ C.tp.Pl → ((w.at d).setChan C.tp.Pl 0 #[] pl (cnt + 1) (cnt + 1) false).heap[b]? = w.heap[b]? := fun b hb => by
    simp only [World.setChan]; rw [Array.getElem?_setIfInBounds_ne (Ne.symm hb)]; rfl
  have hsh : ShAt C ((w.at d).setChan C.tp.Pl 0 #[] pl (cnt + 1) (cnt + 1) false) s := ⟨(other _ g.op).trans hs.on, (other _ g.wp).trans hs.wg, ⟨cnt + 1, by
    simp only [World.setChan]; rw [Array.getElem?_setIfInBounds_self_of_lt (show C.tp.Pl < (w.at d).heap.size from hlt), hp]⟩, (other _ g.ps.symm).trans hs.st⟩
  refine ⟨⟨rfl, rfl, by simp [World.setChan, World.at], .refl _, fun b hb => other b fun e => hb (.inr (.inr (.inl e))), fun _ => ⟨s, hsh⟩, fun cs ty f e => ⟨cs, (other _ g.pl).trans e, rfl, fun _ _ => rfl⟩⟩, hsh, other _ g.pl⟩
/-- A PLACE IS GIVEN. -/
theorem meet {i0 j : Nat} (hM : G.M = .gs i0) (hj : j < spawned N G.M) (hp : (G.th j).pc = .sel) (hd : (G.th j).deaf = Deaf t (C.tp.gb + j)) (hout : ∀ i, held j = some i → OutAt C w i (C.val i)) {k1 k2 : Nat} (hk1 : rank N C.n G < k1 + 1) (hk2 : rank N C.n G < k2 + 1)
    {gs' : Array Goroutine} {gm gw : Goroutine} (hsz : gs'.size = gs.size) (h0 : gs'[0]? = some gm) (h1 : gs'[C.tp.gb + j]? = some gw) (ho : ∀ l, l ≠ 0 → l ≠ C.tp.gb + j → gs'[l]? = gs[l]?) {w' : World} (hrx : ∀ h, RX C h w w') (hsh : ShAt C w' G.s) (hrow : w'.heap[C.tp.Out]? = w.heap[C.tp.Out]?)
    (hAm : AfterM C (Mk C N Anch k1) (give C.n (i0 + 1)) gm w') (hAw : ∃ m, GoesW C (some i0) false (fun g' w' => OutAt C w' i0 (C.val i0) ∧ Wk C k2 (at_ (if C.ok i0 then .sel else .o1)) g' w') m gw w') {u : Trace} (hu : Idle C u) (hap : Apart C gs') : Adv C N Anch K t₀ w₀ gs G φ (crowd gs' w' sl) (t ++ u) := by
  have hgb := F.gb
  have hjN : j < N := Nat.lt_of_lt_of_le hj (spawned_le c.ig)
  have hmok := c.ig.mok
  simp only [hM, MOk] at hmok
  have hstep : Step N C.n C.ok G { G with M := give C.n (i0 + 1), gv := i0 + 1, th := upd G.th j (at_ (if C.ok i0 then .sel else .o1)) } := .give hM hjN hp
  have hIG := c.ig.step hstep
  have hrk := hstep.down c.ig.each (fun j' e => by have := c.ig.mok; simp only [e, MOk] at this; exact this.1) (fun i e => by have := c.ig.mok; simp only [e, MOk] at this; exact ⟨this.1, this.2.1⟩)
  have hsp : spawned N (give C.n (i0 + 1)) = spawned N G.M := by rw [hM]; rcases give_cases C.n (i0 + 1) with ⟨_, e⟩ | ⟨_, e⟩ <;> rw [e] <;> rfl
  have hdf : (give C.n (i0 + 1)).deaf = 0 := by rcases give_cases C.n (i0 + 1) with ⟨_, e⟩ | ⟨_, e⟩ <;> rw [e] <;> rfl
  have hDf : ∀ l, Deaf (t ++ u) l = Deaf t l := fun l => hu.deaf t l
  have hT : (at_ (if C.ok i0 then Pc.sel else Pc.o1)).mute = false := by split <;> rfl
  have hTd : (at_ (if C.ok i0 then Pc.sel else Pc.o1)).deaf = 0 := by split <;> rfl
  have hTq : (at_ (if C.ok i0 then Pc.sel else Pc.o1)).pc ≠ .quit := by simp only; split <;> simp
  have hi0 : own i0 = Option.none := (c.rest i0 (by omega)).1
  have hcell : ∀ i, w'.cell? ⟨C.tp.Out, i, Option.none⟩ = w.cell? ⟨C.tp.Out, i, Option.none⟩ := heap_row hrow
  obtain ⟨m, hGm⟩ := hAm
  obtain ⟨mw, hGw⟩ := hAw
  obtain ⟨φ', h⟩ := stay_sits (C := C) (N := N) (Anch := Anch) (K := K) c.sits (gs' := gs') hsz (w' := w') (G' := { G with M := give C.n (i0 + 1), gv := i0 + 1, th := upd G.th j (at_ (if C.ok i0 then .sel else .o1)) }) (held' := upd held j (some i0)) (t' := t ++ u) (fun l => l = 0 ∨ l = C.tp.gb + j)
    (fun l hl _ => by
      rcases hl with rfl | rfl
      · exact ⟨K * m + 1, fun _ => ⟨gm, k1, h0, by omega, .walk hGm⟩, fun h => by omega, fun j' hj' _ => by omega⟩
      · refine ⟨K * mw + 1, fun h => by omega, fun _ h => by omega, fun j' hj' _ => ?_⟩
        obtain rfl : j' = j := by omega
        refine ⟨gw, k2, some i0, (at_ (if C.ok i0 then Pc.sel else Pc.o1)).deaf, h1, by omega, by rw [upd_same], ?_, ?_⟩
        · rw [hDf, ← hd, hTd]; simp [Th.deaf, hp]
        · simp only [upd_same]
          refine .walk hTq ?_
          rw [hT]
          exact goes_mono (fun _ _ _ x => x) (fun _ _ y => ⟨(fun i e => by cases e; exact y.1), y.2⟩) hGw)
    (fun l hl => ho l (fun e => hl (.inl e)) (fun e => hl (.inr e))) (fun l _ => hDf l) (fun h => absurd (.inl rfl) h) (fun j' hj' => by
      have : j' ≠ j := fun e => hj' (.inr (by rw [e]))
      exact ⟨upd_ne _ _ this, upd_ne _ _ this⟩) rfl hsp (Nat.le_of_lt hrk) hrx
  refine ⟨gs', w', sl, _, upd own i0 (some j), upd held j (some i0), φ', rfl, ⟨by simp only [hsp]; rw [hsz]; exact c.size, hIG, hsh, h, fun l hl => by rw [hDf]; exact c.above l (by omega), by rw [hDf, c.d0, hM, hdf]; rfl, by simp only [hsp]; exact hu.ti (c.ti.grow hi0), fun j' i hh => ?_, fun i hi => ?_, fun i hi => ?_, c.rx.trans (hrx _), fun j' hj' hm => ?_, hap⟩, .inl hrk⟩
  · simp only [hsp]
    by_cases e : j' = j
    · subst e
      rw [upd_same] at hh
      cases hh
      exact ⟨upd_same _ _ _, Nat.lt_succ_self _, hj⟩
    · rw [upd_ne _ _ e] at hh
      obtain ⟨a, b, d⟩ := c.hold j' i hh
      have hne : i ≠ i0 := by rintro rfl; rw [hi0] at a; cases a
      exact ⟨by rw [upd_ne _ _ hne]; exact a, (by show i < i0 + 1; omega), d⟩
  · by_cases e : i = i0
    · subst e; exact .inl ⟨j, upd_same _ _ _⟩
    · rcases c.done i (by have hi' : i < i0 + 1 := hi; omega) with ⟨j', h'⟩ | h'
      · by_cases e' : j' = j
        · subst e'; right; have := hout i h'; unfold OutAt at this ⊢; rw [hcell]; exact this
        · exact .inl ⟨j', by rw [upd_ne _ _ e']; exact h'⟩
      · right; unfold OutAt at h' ⊢; rw [hcell]; exact h'
  · obtain ⟨a, b⟩ := c.rest i (by have hi' : i0 + 1 ≤ i := hi; omega)
    exact ⟨by rw [upd_ne _ _ (by have hi' : i0 + 1 ≤ i := hi; omega)]; exact a, by rw [hcell]; exact b⟩
  · simp only [hsp] at hj'
    simp only at hm
    by_cases e : j' = j
    · subst e; rw [upd_same, hT] at hm; cases hm
    · rw [upd_ne _ _ e] at hm
      obtain ⟨r, hr, hr0⟩ := c.rel j' hj' hm
      exact ⟨r, relBy_none hr (fun op hop => (hu op hop).1), hr0.1, fun e => absurd e (give_ret _ _)⟩
/-- A WORKER AT ITS SELECT. -/
theorem stepSelW {j : Nat} (hj : j < spawned N G.M) {g : Goroutine} (hi : gs[C.tp.gb + j]? = some g) {k : Nat} (hk : rank N C.n G < k + 1) (hp : (G.th j).pc = .sel) (hd : (G.th j).deaf = Deaf t (C.tp.gb + j)) (hφ : 0 < φ (C.tp.gb + j))
    (hst : ∀ w₁, RX C (held j) w w₁ → (∀ i, held j = some i → OutAt C w₁ i (C.val i)) ∧ Wk C (k + 1) (G.th j) g w₁) :
    ∃ m' ops, runT C.P (crowd gs w sl) (C.tp.gb + j) = (.next m', ops) ∧ Adv C N Anch K t₀ w₀ gs G φ m' (t ++ ops) := by
  have hgb := F.gb
  have hne0 : C.tp.gb + j ≠ 0 := by omega
  have hlt : C.tp.gb + j < gs.size := (Array.getElem?_eq_some_iff.1 hi).1
  have hjN : j < N := Nat.lt_of_lt_of_le hj (spawned_le c.ig)
  have hmok := c.ig.mok
  obtain ⟨hout, hW⟩ := hst w (RX.refl _ _)
  obtain ⟨g₂, hcomm, f1, f2, f3, cRecv, cShut0, cShut1⟩ := hW.2.1 hp
  obtain ⟨cnt, hPl⟩ := c.sh.pl
  obtain ⟨g0, k0, h0, hk0, hm0⟩ := (c.sits 0 (by omega)).main rfl
  have hsend := c.sendPl F hne0 h0
  have hcase : partners (gs.setIfInBounds (C.tp.gb + j) ph) C.tp.Pl true = [] ∨ ∃ j' gj v zj c1, partners (gs.setIfInBounds (C.tp.gb + j) ph) C.tp.Pl true = [(j', 0)] ∧ j' ≠ C.tp.gb + j ∧ gs[j']? = some (Go.Conc.parked gj #[scase C.tp.Pl v zj, c1] .select) := by
    rcases hm0.sendsPl (by omega) with e | ⟨e, i, g₀', g₂', _, _, rfl, _⟩
    · left; rw [hsend, e]; rfl
    · right; exact ⟨0, g₂', _, zI, rcase C.tp.St zU, by rw [hsend, e]; rfl, Ne.symm hne0, h0⟩
  -- whoever has been shut goes its way
  have shut : ∀ (gn : Goroutine) (d : Nat) (u : Trace), (G.s.pl = true ∨ G.s.sc = true) → AfterW C (Wk C k) (at_ .wr) gn (w.at d) → Idle C u → Adv C N Anch K t₀ w₀ gs G φ (crowd (gs.setIfInBounds (C.tp.gb + j) gn) (w.at d) sl) (t ++ u) := by
    intro gn d u hc haft hu
    have hstep : Step N C.n C.ok G { G with th := upd G.th j (at_ .wr) } := .shut hjN hp hc
    have hIG := c.ig.step hstep
    have hrk := hstep.down c.ig.each (fun j' e => by have := c.ig.mok; simp only [e, MOk] at this; exact this.1) (fun i e => by have := c.ig.mok; simp only [e, MOk] at this; exact ⟨this.1, this.2.1⟩)
    obtain ⟨m, hG⟩ : ∃ m, GoesW C Option.none false (Wk C k (at_ .wr)) m gn (w.at d) := by
      unfold AfterW at haft; rw [if_neg (by simp)] at haft; exact haft
    have hDf : ∀ l, Deaf (t ++ u) l = Deaf t l := fun l => hu.deaf t l
    obtain ⟨φ', h1⟩ := stay_sits (C := C) (N := N) (Anch := Anch) (K := K) c.sits (gs' := gs.setIfInBounds (C.tp.gb + j) gn) (by simp) (w' := w.at d) (G' := { G with th := upd G.th j (at_ .wr) }) (held' := upd held j Option.none) (t' := t ++ u) (fun l => l = C.tp.gb + j)
      (fun l hl _ => by
        subst hl
        refine ⟨K * m + 1, fun h => by omega, fun _ h => by omega, fun j' hj' _ => ?_⟩
        obtain rfl : j' = j := by omega
        refine ⟨gn, k, Option.none, (at_ .wr).deaf, get_self hlt, by omega, by rw [upd_same], ?_, ?_⟩
        · rw [hDf, ← hd]; simp [Th.deaf, hp]
        · simp only [upd_same]; exact .walk (by simp) (goes_mono (fun _ _ _ x => x) (fun _ _ y => ⟨(fun i e => by cases e), y⟩) hG))
      (fun l hl => Array.getElem?_setIfInBounds_ne (Ne.symm hl)) (fun l _ => hDf l) (fun _ => rfl) (fun j' hj' => ⟨upd_ne _ _ (by omega), upd_ne _ _ (by omega)⟩) rfl rfl (Nat.le_of_lt hrk) (fun h => RX.at h w d)
    refine ⟨_, w.at d, sl, _, own, upd held j Option.none, φ', rfl, ⟨by simpa using c.size, hIG, c.sh.at d, h1, fun l hl => by rw [hDf]; exact c.above l (by simpa using hl), by rw [hDf]; exact c.d0, hu.ti c.ti, fun j' i hh => ?_, fun i hi => ?_, c.rest, c.rx.trans (RX.at _ w d), fun j' hj' hm => ?_, c.apart.set (offers_running (by
      obtain ⟨k, rfl⟩ : ∃ k', k = k' + 1 := ⟨k - 1, by omega⟩
      exact goesW_running (fun _ _ y => y.1) hG))⟩, .inl hrk⟩
    · by_cases e : j' = j
      · subst e; rw [upd_same] at hh; cases hh
      · rw [upd_ne _ _ e] at hh; exact c.hold j' i hh
    · rcases c.done i hi with ⟨j', h⟩ | h
      · by_cases e : j' = j
        · subst e; exact .inr (hout i h)
        · exact .inl ⟨j', by rw [upd_ne _ _ e]; exact h⟩
      · exact .inr h
    · simp only at hm
      by_cases e : j' = j
      · subst e; rw [upd_same] at hm; cases hm
      · rw [upd_ne _ _ e] at hm
        obtain ⟨r, hr, hr0⟩ := c.rel j' hj' hm
        exact ⟨r, relBy_none hr (fun op hop => (hu op hop).1), hr0.1, fun e => (hr0.2 e).app _⟩
  have hcomm' : stepG C.P (C.tp.gb + j == 0) g w = .comm g₂ #[rcase C.tp.Pl zI, rcase C.tp.St zU] true .select w #[] := by rw [beq_zero_false (by omega)]; exact hcomm
  rcases sel_worker (P := C.P) (sl := sl) hi hcomm' hPl c.sh.st (c.noSendSt F _) hcase with ⟨hpl, hsc, hpn, hrun⟩ | ⟨j', gj, v, zj, c1, d, hj'ne, hj', hrun⟩ | ⟨hpl, d, hrun⟩ | ⟨hsc, d, hrun⟩
  · -- IT PARKS
    obtain ⟨h1, h2⟩ := set_sits (K := K) c.sits hlt (g' := pkW C g₂) (x := 0)
      ⟨fun h => by omega, fun _ h => by omega, fun j' hj' _ => by
        obtain rfl : j' = j := by omega
        exact ⟨_, k + 1, held j', _, get_self hlt, hk, rfl, hd, .parked hp hpl hsc hst f1 f2 f3⟩⟩
    refine ⟨_, _, hrun, _, w, sl, G, own, held, _, rfl, ⟨by simpa using c.size, c.ig, c.sh, by rw [Array.append_empty]; exact h1, fun l hl => ?_, by rw [Array.append_empty]; exact c.d0, by rw [Array.append_empty]; exact c.ti, c.hold, c.done, c.rest, c.rx, by rw [Array.append_empty]; exact c.rel, fun a l a' ha _ _ ho => by
      rw [Array.getElem?_setIfInBounds_ne hne0, h0] at ha
      cases ha
      rw [hsend, List.map_eq_nil_iff] at hpn
      exact absurd hpn ho⟩, .inr ⟨rfl, by simp only [Array.size_setIfInBounds] at h2 ⊢; omega⟩⟩
    rw [Array.append_empty]; exact c.above l (by simpa using hl)
  · -- IT MEETS THE GIVER
    rcases c.cases F hj' with ⟨rfl, k1, hk1, hm⟩ | ⟨_, _, q, _, hQ⟩ | ⟨jj, rfl, _, kk, hh, dd, hkk, _, _, hWW⟩
    · rcases hm.sendsPl (by omega) with e | ⟨_, i0, g₀', g₂', hM, hsc, e, hMk, q1, q2, q3⟩
      · simp [offersAt, Go.Conc.parked, scase] at e
      · have e' : gj.frame = g₂'.frame ∧ gj.callers = g₂'.callers ∧ gj.dying = g₂'.dying ∧ v = .int .i64 (i0 : Int) ∧ zj = zI ∧ c1 = rcase C.tp.St zU := by
          simp only [pkM, Go.Conc.parked, Goroutine.mk.injEq, Option.some.injEq, Prod.mk.injEq, scase] at e
          obtain ⟨a, b, _, d', x, _⟩ := e
          simp only [Array.mk.injEq, List.cons.injEq, CommCase.mk.injEq, Option.some.injEq, and_true] at x
          exact ⟨a, b, d', x.1.2.1, x.1.2.2, x.2⟩
        obtain ⟨a1, a2, a3, rfl, rfl, rfl⟩ := e'
        obtain ⟨k1, rfl⟩ : ∃ k', k1 = k' + 1 := ⟨k1 - 1, by omega⟩
        have hmk := hMk w (RX.refl _ _)
        rw [hM] at hmk
        obtain ⟨g₃, _, b1, b2, b3, cSent, _⟩ := hmk.2
        have hpl : G.s.pl = false := by have := c.ig.mok; simp only [hM, MOk] at this; exact this.2.2
        obtain ⟨rx1, rx2, rx3⟩ := rx_chan (pl := G.s.pl) (cnt := cnt) F.geo c.sh rfl d Option.none
        have hfin : gj.finishComm C.P #[scase C.tp.Pl (.int .i64 (i0 : Int)) zI, rcase C.tp.St zU] .select 0 undef false = g₃.finishComm C.P #[scase C.tp.Pl (.int .i64 (i0 : Int)) zI, rcase C.tp.St zU] .select 0 undef false :=
          finish_congr (a1.trans (q1.trans b1.symm)) (a2.trans (q2.trans b2.symm)) (a3.trans (q3.trans b3.symm)) _ _ _ _ _
        refine ⟨_, _, hrun, meet F c hM hj hp hd hout hk1 hk (gs' := _) (by simp) (gm := _) (by
          rw [Array.getElem?_setIfInBounds_ne hne0]; exact get_self (by omega)) (gw := _) (get_self (by simpa using hlt)) (fun l h0' h1' => by
          rw [Array.getElem?_setIfInBounds_ne (Ne.symm h1'), Array.getElem?_setIfInBounds_ne (Ne.symm h0')]) (fun h => (rx_chan (pl := G.s.pl) (cnt := cnt) F.geo c.sh rfl d h).1) rx2 rx3 (by rw [hfin]; exact cSent _ rx1)
          (cRecv i0 (by have := c.ig.mok; simp only [hM, MOk] at this; exact this.2.1) _ rx1) (fun op hop => ?_) ((c.apart.set (offers_running rfl)).set (offers_running rfl))⟩
        simp at hop
        rcases hop with rfl | rfl | rfl | rfl <;> exact ⟨rfl, F.pl, by simp⟩
    · have := quits_offers hQ C.tp.Pl true
      simp [offersAt, Go.Conc.parked, scase] at this
    · have := hWW.sends (by omega) C.tp.Pl
      simp [offersAt, Go.Conc.parked, scase] at this
  · exact ⟨_, _, hrun, shut _ d _ (.inl hpl) (cShut0 _ (RX.at _ w d)) (fun op hop => by simp at hop; subst hop; exact ⟨rfl, F.pl, by simp⟩)⟩
  · exact ⟨_, _, hrun, shut _ d _ (.inr hsc) (cShut1 _ (RX.at _ w d)) (fun op hop => by simp at hop; subst hop; exact ⟨rfl, F.st, by simp⟩)⟩
/-- THE GIVER AT ITS SELECT. -/
theorem stepSelM {g : Goroutine} (hi : gs[0]? = some g) {k i : Nat} (hk : rank N C.n G < k + 1) (hM : G.M = .gs i) (hφ : 0 < φ 0) (hst : ∀ w₁, RX C Option.none w w₁ → Mk C N Anch (k + 1) G.M g w₁) :
    ∃ m' ops, runT C.P (crowd gs w sl) 0 = (.next m', ops) ∧ Adv C N Anch K t₀ w₀ gs G φ m' (t ++ ops) := by
  have hgb := F.gb
  have hlt : 0 < gs.size := (Array.getElem?_eq_some_iff.1 hi).1
  have hmok := c.ig.mok
  simp only [hM, MOk] at hmok
  have hW := hst w (RX.refl _ _)
  rw [hM] at hW
  obtain ⟨g₂, hcomm, f1, f2, f3, cSent, cStop⟩ := hW.2
  obtain ⟨cnt, hPl⟩ := c.sh.pl
  rw [hmok.2.2] at hPl
  have hall : ∀ j' k', (j', k') ∈ partners (gs.setIfInBounds 0 ph) C.tp.Pl false → k' = 0 ∧ j' ≠ 0 ∧ ∃ gj zj c1, gs[j']? = some (Go.Conc.parked gj #[rcase C.tp.Pl zj, c1] .select) := by
    intro j' k' hm
    obtain ⟨x, hx, hx'⟩ := mem_partners.1 hm
    rcases getElem?_stand gs 0 j' x hx with ⟨_, rfl⟩ | ⟨hne, hl'⟩
    · rw [offersAt_ph] at hx'; cases hx'
    · rcases c.cases F hl' with ⟨e, _⟩ | ⟨_, _, q, _, hQ⟩ | ⟨j, _, _, kk, h, d, hkk, _, _, hWW⟩
      · exact absurd e hne
      · rw [quits_offers hQ] at hx'; cases hx'
      · obtain ⟨e0, _, g₀', g₂', rfl, _⟩ := hWW.recvs (by omega) F.geo.ps hx'
        exact ⟨e0, hne, g₂', zI, rcase C.tp.St zU, hl'⟩
  have hcomm' : stepG C.P (0 == 0) g w = .comm g₂ #[scase C.tp.Pl (.int .i64 (i : Int)) zI, rcase C.tp.St zU] true .select w #[] := hcomm
  rcases sel_giver (P := C.P) (sl := sl) hi hcomm' hPl c.sh.st (c.noSendSt F _) hall with ⟨hsc, hpn, hrun⟩ | ⟨j', gj, zj, c1, d, hj'ne, hj', hrun⟩ | ⟨hsc, d, hrun⟩
  · -- IT PARKS
    obtain ⟨h1, h2⟩ := set_sits (K := K) c.sits hlt (g' := pkM C i g₂) (x := 0)
      ⟨fun _ => ⟨_, k + 1, get_self hlt, hk, .parked hM hsc hst f1 f2 f3⟩, fun h => by omega, fun j' hj' _ => by omega⟩
    refine ⟨_, _, hrun, _, w, sl, G, own, held, _, rfl, ⟨by simpa using c.size, c.ig, c.sh, by rw [Array.append_empty]; exact h1, fun l hl => ?_, by rw [Array.append_empty]; exact c.d0, by rw [Array.append_empty]; exact c.ti, c.hold, c.done, c.rest, c.rx, by rw [Array.append_empty]; exact c.rel, fun a l a' _ hl ha' _ => by
      rw [Array.getElem?_setIfInBounds_ne (Ne.symm hl)] at ha'
      apply List.eq_nil_iff_forall_not_mem.2
      intro m hm
      have := mem_partners.2 ⟨a', stand_get (i := 0) hl ha', hm⟩
      rw [hpn] at this; cases this⟩, .inr ⟨rfl, by simp only [Array.size_setIfInBounds] at h2 ⊢; omega⟩⟩
    rw [Array.append_empty]; exact c.above l (by simpa using hl)
  · -- IT MEETS A WORKER
    rcases c.cases F hj' with ⟨e, _⟩ | ⟨_, _, q, _, hQ⟩ | ⟨j, rfl, hj, kk, hh, dd, hkk, ehh, edd, hWW⟩
    · exact absurd e hj'ne
    · have := quits_offers hQ C.tp.Pl false
      simp [offersAt, Go.Conc.parked, rcase] at this
    · have hoff : 0 ∈ offersAt (Go.Conc.parked gj #[rcase C.tp.Pl zj, c1] .select) C.tp.Pl false := by simp [offersAt, Go.Conc.parked, rcase, List.zipIdx, List.filter_cons]
      obtain ⟨_, hp, g₀', g₂', e, hWk, q1, q2, q3⟩ := hWW.recvs (by omega) F.geo.ps hoff
      have hdeaf : (G.th j).deaf = Deaf t (C.tp.gb + j) := by rw [← edd]; exact hWW.deaf (by rw [hp]; simp)
      have e' : gj.frame = g₂'.frame ∧ gj.callers = g₂'.callers ∧ gj.dying = g₂'.dying ∧ zj = zI ∧ c1 = rcase C.tp.St zU := by
        simp only [pkW, Go.Conc.parked, Goroutine.mk.injEq, Option.some.injEq, Prod.mk.injEq, rcase] at e
        obtain ⟨a, b, _, d', x, _⟩ := e
        simp only [Array.mk.injEq, List.cons.injEq, CommCase.mk.injEq, and_true] at x
        exact ⟨a, b, d', x.1.2.2, x.2⟩
      obtain ⟨a1, a2, a3, rfl, rfl⟩ := e'
      obtain ⟨kk, rfl⟩ : ∃ k', kk = k' + 1 := ⟨kk - 1, by omega⟩
      subst ehh
      obtain ⟨hout, hwk⟩ := hWk w (RX.refl _ _)
      obtain ⟨g₃, _, b1, b2, b3, cRecv, _, _⟩ := hwk.2.1 hp
      obtain ⟨rx1, rx2, rx3⟩ := rx_chan (pl := false) (cnt := cnt) F.geo c.sh hmok.2.2 d Option.none
      have hfin : gj.finishComm C.P #[rcase C.tp.Pl zI, rcase C.tp.St zU] .select 0 (.int .i64 (i : Int)) true = g₃.finishComm C.P #[rcase C.tp.Pl zI, rcase C.tp.St zU] .select 0 (.int .i64 (i : Int)) true :=
        finish_congr (a1.trans (q1.trans b1.symm)) (a2.trans (q2.trans b2.symm)) (a3.trans (q3.trans b3.symm)) _ _ _ _ _
      have hltj : C.tp.gb + j < gs.size := (Array.getElem?_eq_some_iff.1 hj').1
      refine ⟨_, _, hrun, meet F c hM hj hp hdeaf hout hk hkk (gs' := _) (by simp) (gm := _) (get_self (by simpa using hlt)) (gw := _) (by
        rw [Array.getElem?_setIfInBounds_ne (Ne.symm hj'ne)]; exact get_self hltj) (fun l h0' h1' => by
        rw [Array.getElem?_setIfInBounds_ne (Ne.symm h0'), Array.getElem?_setIfInBounds_ne (Ne.symm h1')]) (fun h => (rx_chan (pl := false) (cnt := cnt) F.geo c.sh hmok.2.2 d h).1) rx2 rx3 (cSent _ rx1)
        (by rw [hfin]; exact cRecv i hmok.2.1 _ rx1) (fun op hop => ?_) ((c.apart.set (offers_running rfl)).set (offers_running rfl))⟩
      simp at hop
      rcases hop with rfl | rfl | rfl | rfl <;> exact ⟨rfl, F.pl, by simp⟩
  · -- IT IS TOLD TO STOP
    have hstep : Step N C.n C.ok G { G with M := .cp } := .stop hM hsc
    have hIG := c.ig.step hstep
    have hrk := hstep.down c.ig.each (fun j' e => by have := c.ig.mok; simp only [e, MOk] at this; exact this.1) (fun i e => by have := c.ig.mok; simp only [e, MOk] at this; exact ⟨this.1, this.2.1⟩)
    have hu : Idle C #[{ g := 0, fn := g₂.frame.fn, pos := g₂.frame.place, act := .recvClosed C.tp.St }] := fun op hop => by simp at hop; subst hop; exact ⟨rfl, F.st, by simp⟩
    have hDf : ∀ l, Deaf (t ++ #[{ g := 0, fn := g₂.frame.fn, pos := g₂.frame.place, act := .recvClosed C.tp.St }]) l = Deaf t l := fun l => hu.deaf t l
    have hsp : spawned N Mp.cp = spawned N G.M := by rw [hM]; rfl
    obtain ⟨m, hG⟩ := cStop _ (RX.at Option.none w d)
    obtain ⟨φ', h⟩ := stay_sits (C := C) (N := N) (Anch := Anch) (K := K) c.sits (gs' := gs.setIfInBounds 0 (g₂.finishComm C.P #[scase C.tp.Pl (.int .i64 (i : Int)) zI, rcase C.tp.St zU] .select 1 zU false)) (by simp) (w' := w.at d) (G' := { G with M := .cp }) (held' := held) (t' := t ++ #[{ g := 0, fn := g₂.frame.fn, pos := g₂.frame.place, act := .recvClosed C.tp.St }]) (fun l => l = 0)
      (fun l hl _ => by subst hl; exact ⟨K * m + 1, fun _ => ⟨_, k, get_self hlt, by omega, .walk hG⟩, fun h => by omega, fun j' hj' _ => by omega⟩)
      (fun l hl => Array.getElem?_setIfInBounds_ne (Ne.symm hl)) (fun l _ => hDf l) (fun h => absurd rfl h) (fun _ _ => ⟨rfl, rfl⟩) rfl hsp (Nat.le_of_lt hrk) (fun h => RX.at h w d)
    refine ⟨_, _, hrun, _, w.at d, sl, _, own, held, φ', rfl, ⟨by simp only [hsp]; simpa using c.size, hIG, c.sh.at d, h, fun l hl => by rw [hDf]; exact c.above l (by simpa using hl), by rw [hDf, c.d0, hM]; rfl, by simp only [hsp]; exact hu.ti c.ti, fun j' i' hh => by simp only [hsp]; exact c.hold j' i' hh, c.done, c.rest, c.rx.trans (RX.at _ w d), fun j' hj' hm => ?_, c.apart.set (offers_running rfl)⟩, .inl hrk⟩
    simp only [hsp] at hj'
    obtain ⟨r, hr, hr0⟩ := c.rel j' hj' hm
    exact ⟨r, relBy_none hr (fun op hop => (hu op hop).1), hr0.1, fun e => by cases e⟩
end
end Go.Proofs.Ytpkiojchlficcaa.Crew

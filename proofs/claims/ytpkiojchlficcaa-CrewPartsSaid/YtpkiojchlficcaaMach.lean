/- ████ THE THEOREM OF THE MACHINE: from a frame in which the giver stands ahead of its first Add, on whatever tape, to a frame behind its Wait. ████ -/
import Derived.Test.YtpkiojchlficcaaStepS
namespace Go.Proofs.Ytpkiojchlficcaa.Crew
open Go Go.Conc
open Go.ConcM (OsLater)
open Go.ConcN (RelBy)
open Go.ConcR (stA smA)
variable {C : Cf} {N : Nat} {Anch : Goroutine → World → Prop} {K B₀ : Nat} {t₀ : Trace} {w₀ : World}
variable {gs : Array Goroutine} {w : World} {sl : Option (Nat × Nat)} {G : GS} {own held : Nat → Option Nat} {φ : Nat → Nat} {t : Trace}
theorem Ctx.at (c : Ctx C N Anch K t₀ w₀ gs w G own held φ t) (d : Nat) : Ctx C N Anch K t₀ w₀ gs (w.at d) G own held φ t := by
  refine ⟨c.size, c.ig, c.sh.at d, fun l hl => ?_, c.above, c.d0, c.ti, c.hold, c.done, c.rest, c.rx.trans (RX.at _ w d), c.rel, c.apart⟩
  have hS := c.sits l hl
  refine ⟨fun h0 => ?_, hS.old, fun j hj hjs => ?_⟩
  · obtain ⟨g, k, hg, hk, hm⟩ := hS.main h0
    exact ⟨g, k, hg, hk, hm.rely (RX.at _ w d)⟩
  · obtain ⟨g, k, h, dd, hg, hk, hh, hd, hW⟩ := hS.work j hj hjs
    exact ⟨g, k, h, dd, hg, hk, hh, hd, hW.rely (RX.at _ w d)⟩
/-- The giver has come to its anchor. -/
def Got (C : Cf) (Anch : Goroutine → World → Prop) (gs : Array Goroutine) (w : World) (G : GS) : Prop :=
  G.M = .ret ∧ ∃ g, gs[0]? = some g ∧ g.status = .running ∧ ∀ w₁, RX C Option.none w w₁ → Anch g w₁
section
variable (F : Fixed C N K t₀ B₀) (hR : RowThere C w₀) (c : Ctx C N Anch K t₀ w₀ gs w G own held φ t)
include F hR c
/-- ONE STEP OF THE MACHINE. -/
theorem advance : Got C Anch gs w G ∨ ∃ m' ops, stepT C.P (crowd gs w sl) = (.next m', ops) ∧ Adv C N Anch K t₀ w₀ gs G φ m' (t ++ ops) := by
  have hgb := F.gb
  have hsz := c.size
  -- the giver
  obtain ⟨gm, km, hgm, hkm, hmm⟩ := (c.sits 0 (by omega)).main rfl
  obtain ⟨km, rfl⟩ : ∃ k', km = k' + 1 := ⟨km - 1, by omega⟩
  by_cases hacq : G.M = .ret ∧ ∀ w₁, RX C Option.none w w₁ → Mk C N Anch (km + 1) G.M gm w₁
  · left
    obtain ⟨hM, h⟩ := hacq
    rw [hM] at h
    exact ⟨hM, gm, hgm, (h w (RX.refl _ _)).1, fun w₁ r => (h w₁ r).2⟩
  right
  -- all are awake
  have haw : ∀ g ∈ gs, awake g := by
    intro g hg
    obtain ⟨l, hl, rfl⟩ := Array.mem_iff_getElem.1 hg
    have hl' : gs[l]? = some gs[l] := Array.getElem?_eq_getElem hl
    intro tt e
    rcases c.cases F hl' with ⟨_, k, hk, hm⟩ | ⟨_, _, q, _, hQ⟩ | ⟨j, _, _, k, h, d, hk, _, _, hW⟩
    · rcases hm.kind (by omega) with h | ⟨h, _⟩ <;> rw [h] at e <;> cases e
    · rcases hQ.status with h | h <;> rw [h] at e <;> cases e
    · rcases hW.kind (by omega) with h | ⟨h, _⟩ | ⟨h, _⟩ <;> rw [h] at e <;> cases e
  -- somebody runs
  have hsome : ∃ (i : Nat) (g : Goroutine), gs[i]? = some g ∧ g.status = .running := by
    apply Classical.byContradiction
    intro hno
    have hnr : ∀ (i : Nat) (g : Goroutine), gs[i]? = some g → g.status ≠ .running := fun i g h e => hno ⟨i, g, h, e⟩
    refine c.ig.not_stuck F.n0 (parked := fun j => ∃ g₂, gs[C.tp.gb + j]? = some (pkW C g₂)) (fun j hj => ?_) ?_
    · by_cases hjs : j < spawned N G.M
      · obtain ⟨g, k, h, d, hg, hk, _, _, hW⟩ := (c.sits (C.tp.gb + j) (by omega)).work j rfl hjs
        rcases hW.kind (by omega) with e | ⟨_, ⟨e1, e2, e3, g₂, rfl⟩ | e⟩ | ⟨_, e⟩
        · exact absurd e (hnr _ _ hg)
        · exact .inl ⟨e1, e2, e3, g₂, hg⟩
        · exact .inr (.inl e)
        · exact .inr (.inr (.inl e))
      · exact .inr (.inr (.inr (by rw [c.ig.off j (by omega)])))
    · rcases hmm.kind (by omega) with e | ⟨_, ⟨i, e1, e2, g₂, rfl⟩ | e⟩
      · exact absurd e (hnr _ _ hgm)
      · refine .inl ⟨i, e1, e2, fun j _ => ?_⟩
        rintro ⟨g₂', h⟩
        have h1 : offersAt (pkM C i g₂) C.tp.Pl true ≠ [] := by simp [offersAt, Go.Conc.parked, scase, rcase]
        have h2 : offersAt (pkW C g₂') C.tp.Pl false = [0] := by simp [offersAt, Go.Conc.parked, rcase, Ne.symm F.geo.ps]
        have := c.apart _ _ _ hgm (by omega) h h1
        rw [h2] at this; cases this
      · exact .inr e
  obtain ⟨i, g, d, sl', hi, hrun, hst⟩ := crowd_pick (P := C.P) (w := w) (sl := sl) haw hsome
  have c' := c.at d
  have fin : (∃ m' ops, runT C.P (crowd gs (w.at d) sl') i = (.next m', ops) ∧ Adv C N Anch K t₀ w₀ gs G φ m' (t ++ ops)) → ∃ m' ops, stepT C.P (crowd gs w sl) = (.next m', ops) ∧ Adv C N Anch K t₀ w₀ gs G φ m' (t ++ ops) := by
    rintro ⟨m', ops, h1, h2⟩; exact ⟨m', ops, hst.trans h1, h2⟩
  apply fin
  rcases c'.cases F hi with ⟨rfl, k, hk, hm⟩ | ⟨h0, hig, q, _, hQ⟩ | ⟨j, rfl, hj, k, h, dd, hk, hh, hd, hW⟩
  · -- the giver
    obtain rfl : gm = g := Option.some.inj (hgm.symm.trans hi)
    obtain ⟨k, rfl⟩ : ∃ k', k = k' + 1 := ⟨k - 1, by omega⟩
    generalize hφ : φ 0 = x at hm
    -- at a stop
    have stop : (∀ w₁, RX C Option.none (w.at d) w₁ → Mk C N Anch (k + 1) G.M gm w₁) → 0 < φ 0 → ∃ m' ops, runT C.P (crowd gs (w.at d) sl') 0 = (.next m', ops) ∧ Adv C N Anch K t₀ w₀ gs G φ m' (t ++ ops) := by
      intro hstop hpos
      have hW := hstop (w.at d) (RX.refl _ _)
      cases hM : G.M with
      | gs i => exact stepSelM F c' hi hk hM hpos hstop
      | go j => rw [hM] at hW; exact stepSpawn F c' hi hk hM hW.2
      | ret =>
        exfalso
        -- then it had come to its anchor
        apply hacq
        refine ⟨hM, fun w₁ r => ?_⟩
        have := hstop w₁ ?_
        · rw [hM] at this ⊢; exact ⟨this.1, this.2⟩
        · exact ⟨r.tape, r.output, r.size, r.os, r.block, fun ⟨s, hs⟩ => r.live ⟨s, ⟨hs.1, hs.2, hs.3, hs.4⟩⟩, r.row⟩
      | _ =>
        by_cases hn : mmv G.M G.s = []
        · rcases mmv_nil hn with ⟨e1, e2⟩ | ⟨_, e⟩ | ⟨_, e⟩ | e | e
          · refine stepBlockM F c' hi hk e1 e2 hpos hstop ?_
            rw [e1] at hW
            exact (hW.2.2.2 G.s c'.sh (c.ig.small F.n16)).1 (by rw [← e1]; exact hn)
          · rw [hM] at e; cases e
          · rw [hM] at e; cases e
          · rw [hM] at e; cases e
          · have := c.ig.mok; simp only [e, MOk] at this
        · exact stepMoveM F c' hi hk hW hn
    cases hm with
    | @walk n _ _ hG =>
      cases n with
      | zero => exact stop hG (by omega)
      | succ n =>
        rcases hG with hG | ⟨_, hG⟩
        · exact stop hG (by omega)
        · have hs := hG (w.at d) (RX.refl _ _)
          cases hgo : stepG C.P true gm (w.at d) with
          | go g' w' es =>
            rw [hgo, goes_go] at hs
            exact stepWalkM F hR c' hi hk hφ hgo hs.1 hs.2
          | _ => rw [hgo] at hs; exact hs.elim
    | parked => cases hrun
    | blocked => cases hrun
  · exact stepOld F c' h0 hig hi hrun
  · -- a worker
    obtain ⟨k, rfl⟩ : ∃ k', k = k' + 1 := ⟨k - 1, by omega⟩
    generalize hφ : φ (C.tp.gb + j) = x at hW
    subst hh
    have stop : (G.th j).pc ≠ .quit → (G.th j).deaf = Deaf t (C.tp.gb + j) → (∀ w₁, RX C (held j) (w.at d) w₁ → (∀ i, held j = some i → OutAt C w₁ i (C.val i)) ∧ Wk C (k + 1) (G.th j) g w₁) → 0 < φ (C.tp.gb + j) →
        ∃ m' ops, runT C.P (crowd gs (w.at d) sl') (C.tp.gb + j) = (.next m', ops) ∧ Adv C N Anch K t₀ w₀ gs G φ m' (t ++ ops) := by
      intro hq hdd hstop hpos
      obtain ⟨hout, hWk⟩ := hstop (w.at d) (RX.refl _ _)
      by_cases hp : (G.th j).pc = .sel
      · exact stepSelW F c' hj hi hk hp hdd hpos hstop
      · by_cases hn : wmv (G.th j) G.s = []
        · rcases wmv_nil hn with ⟨e1, e2⟩ | e | e | e | e
          · exact stepBlockW F c' hj hi hk e1 e2 hdd hpos hstop ((hWk.2.2 hp).2.2 G.s c'.sh (c.ig.small F.n16) |>.1 hn)
          · exact absurd e (c.ig.on j hj)
          · exact absurd e hp
          · exact absurd e hq
          · have := c.ig.each j (Nat.lt_of_lt_of_le hj (spawned_le c.ig)); simp only [ThOk, e] at this
        · exact stepMoveW F hR c' hj hi hk hp hq hdd hout hWk hn
    generalize hhj : held j = hh at hW
    cases hW with
    | @walk h n _ _ hq hG =>
      subst hhj
      cases n with
      | zero => exact stop hq hd hG (by omega)
      | succ n =>
        rcases hG with hG | ⟨_, hG⟩
        · exact stop hq hd hG (by omega)
        · have hs := hG (w.at d) (RX.refl _ _)
          cases hgo : stepG C.P false g (w.at d) with
          | go g' w' es =>
            rw [hgo, goes_go] at hs
            exact stepWalkW F hR c' hj hi hk hq hd hφ hgo hs.1 hs.2
          | _ => rw [hgo] at hs; exact hs.elim
    | parked => cases hrun
    | blocked => cases hrun
    | quit hq hQ => exact stepQuitW F c' hj hi hk hq hhj hφ (by rw [← hd]; exact hQ) hrun
end
/-- The machine comes to the anchor. -/
theorem arrives (F : Fixed C N K t₀ B₀) (hR : RowThere C w₀) : ∀ (μ : Nat × Nat) (gs : Array Goroutine) (w : World) (sl : Option (Nat × Nat)) (G : GS) (own held : Nat → Option Nat) (φ : Nat → Nat) (t : Trace),
    (rank N C.n G, sm gs.size φ) = μ → Ctx C N Anch K t₀ w₀ gs w G own held φ t →
    ∃ n gs' w' sl' G' own' held' φ' t', runNT C.P n (crowd gs w sl) t = (.next (crowd gs' w' sl'), t') ∧ Ctx C N Anch K t₀ w₀ gs' w' G' own' held' φ' t' ∧ Got C Anch gs' w' G' := by
  intro μ
  induction μ using (Prod.instWellFoundedRelation (ha := Nat.lt_wfRel) (hb := Nat.lt_wfRel)).wf.induction with
  | _ μ ih =>
    intro gs w sl G own held φ t hμ c
    rcases advance F hR c (sl := sl) with h | ⟨m', ops, hs, gs', w', sl', G', own', held', φ', rfl, c', hlt⟩
    · exact ⟨0, gs, w, sl, G, own, held, φ, t, rfl, c, h⟩
    · obtain ⟨n, gs'', w'', sl'', G'', own'', held'', φ'', t'', h1, h2, h3⟩ := ih (rank N C.n G', sm gs'.size φ') (by
        subst hμ
        rcases hlt with h | ⟨h, h'⟩
        · exact Prod.Lex.left _ _ h
        · rw [h]; exact Prod.Lex.right _ h') gs' w' sl' G' own' held' φ' (t ++ ops) rfl c'
      exact ⟨n + 1, gs'', w'', sl'', G'', own'', held'', φ'', t'', by simp only [runNT, hs]; exact h1, h2, h3⟩
/-- ████ A PHASE OF THE CREW. ████ -/
theorem crew_phase {gs₀ : Array Goroutine} {g₀ : Goroutine} {q : Nat → Nat} {sl : Option (Nat × Nat)} (geo : Geo C) (hgb : C.tp.gb = gs₀.size) (hN : 0 < N) (hN16 : N ≤ 16) (h0 : gs₀[0]? = some g₀) (hL : Leavers C.P t₀ gs₀ q) (hP : Past C.tp.Shun B₀ t₀) (hB : B₀ ≤ C.B)
    (hon : C.tp.On < C.B) (hwg : C.tp.Wg < C.B) (hpl : C.tp.Pl < C.B) (hst : C.tp.St < C.B) (hout : C.tp.Out < C.B) (hsh : ∀ k, ¬ C.tp.Shun (Cel C.tp k)) (hR : RowThere C w₀) (hs : ShAt C w₀ {})
    (hg : ∀ k, ∃ m, GoesM C (Mk C N Anch k (.k1 0)) m g₀ w₀) :
    ∃ n gs' g' w' sl' t' q', runNT C.P n (crowd gs₀ w₀ sl) t₀ = (.next (crowd gs' w' sl'), t') ∧ gs'.size = gs₀.size + N ∧ gs'[0]? = some g' ∧ g'.status = .running ∧ Anch g' w' ∧ Leavers C.P t' gs' q' ∧ Past (fun l => C.tp.Shun l ∨ Sy C.tp l) C.B t' ∧ RX C Option.none w₀ w' ∧
      ∃ gv, gv ≤ C.n ∧ (∀ i, i < gv → OutAt C w' i (C.val i)) ∧ (∀ i, gv ≤ i → w'.cell? ⟨C.tp.Out, i, Option.none⟩ = w₀.cell? ⟨C.tp.Out, i, Option.none⟩) ∧ (gv = C.n ∨ ∃ i, i < gv ∧ C.ok i = false) := by
  have hpos : 0 < gs₀.size := (Array.getElem?_eq_some_iff.1 h0).1
  have F : Fixed C N (gs₀.size + N + 2) t₀ B₀ := ⟨geo, by omega, hN, hN16, by omega, hP, hB, hon, hwg, hpl, hst, hout, hsh⟩
  obtain ⟨m, hG⟩ := hg (rank N C.n GS.start + 1)
  have hsz : gs₀.size = C.tp.gb + spawned N GS.start.M := by rw [hgb]; rfl
  obtain ⟨φ, hφ⟩ := choose_any (n := gs₀.size) (Q := fun l x => Sits C N Anch (gs₀.size + N + 2) gs₀ w₀ GS.start (fun _ => Option.none) t₀ l x) (fun l hl => by
    rcases Nat.eq_zero_or_pos l with rfl | hp
    · exact ⟨_, fun _ => ⟨g₀, _, h0, Nat.lt_succ_self _, .walk hG⟩, fun h => by omega, fun j hj hjs => by omega⟩
    · refine ⟨(gs₀.size + N + 2) * q l, fun h => by omega, fun _ _ => ⟨gs₀[l], q l, Array.getElem?_eq_getElem hl, rfl, hL.old l _ hp (Array.getElem?_eq_getElem hl)⟩, fun j hj hjs => ?_⟩
      exact absurd hjs (Nat.not_lt_zero j))
  have hapart : Apart C gs₀ := by
    intro g l g' hg0 hl hg' _
    exact quits_offers (hL.old l g' (by omega) hg') _ _
  have c : Ctx C N Anch (gs₀.size + N + 2) t₀ w₀ gs₀ w₀ GS.start (fun _ => Option.none) (fun _ => Option.none) φ t₀ :=
    ⟨hsz, IG.start hN, hs, hφ, hL.above, hP.hears, TI.init hP hB _, (fun _ _ h => by cases h), fun i hi => absurd hi (Nat.not_lt_zero i), fun i _ => ⟨rfl, rfl⟩, RX.refl _ _, fun j hj => absurd hj (Nat.not_lt_zero j), hapart⟩
  obtain ⟨n, gs', w', sl', G, own, held, φ', t', hrun, c', hM, g', hg', hrn, han⟩ := arrives F hR _ gs₀ w₀ sl GS.start (fun _ => Option.none) (fun _ => Option.none) φ t₀ rfl c
  have hsp : spawned N G.M = N := by rw [hM]; rfl
  have hgone : ∀ j, j < N → (G.th j).pc = .quit := fun j hj => c'.ig.gone (.inr (.inr hM)) hj
  have hsz' := c'.size
  rw [hsp] at hsz'
  have hmok := c'.ig.mok
  simp only [hM, MOk] at hmok
  -- all others only leave
  have hq : ∀ l, ∃ x, 0 < l → ∀ g, gs'[l]? = some g → QuitsD C.P x (Deaf t' l) g := by
    intro l
    by_cases hl : ∃ g, gs'[l]? = some g
    · obtain ⟨g, hl⟩ := hl
      rcases c'.cases F hl with ⟨rfl, _⟩ | ⟨_, _, x, _, hQ⟩ | ⟨j, rfl, hj, k, h, d, hk, hh, hd, hW⟩
      · exact ⟨0, fun h => absurd h (by omega)⟩
      · exact ⟨x, fun _ g' hg' => by rw [hl] at hg'; cases hg'; exact hQ⟩
      · have hqj := hgone j (by omega)
        generalize φ' (C.tp.gb + j) = y at hW
        cases hW with
        | walk h0 => exact absurd hqj h0
        | parked h0 => rw [hqj] at h0; cases h0
        | blocked h0 => rw [hqj] at h0; cases h0
        | @quit x _ _ _ _ hQ => exact ⟨x, fun _ g' hg' => by rw [hl] at hg'; cases hg'; rw [← hd]; exact hQ⟩
    · exact ⟨0, fun _ g hg => absurd ⟨g, hg⟩ hl⟩
  refine ⟨n, gs', g', w', sl', t', fun l => Classical.choose (hq l), hrun, by omega, hg', hrn, han w' (RX.refl _ _), ⟨fun l g hl hg => Classical.choose_spec (hq l) hl g hg, c'.above⟩, ?_, c'.rx, G.gv, hmok.1, fun i hi => ?_, fun i hi => (c'.rest i hi).2, ?_⟩
  · have hti := c'.ti
    rw [hsp] at hti
    refine hti.past hP (by rw [c'.d0, hM]; rfl) fun j hj => ?_
    obtain ⟨r, h1, h2, h3⟩ := c'.rel j (by omega) (by simp [Th.mute, hgone j hj])
    exact ⟨r, h1, h2, h3 hM⟩
  · rcases c'.done i hi with ⟨j, hh⟩ | h
    · exfalso
      have hjs := (c'.hold j i hh).2.2
      obtain ⟨g, k, h, d, hg, hk, hh', hd, hW⟩ := (c'.sits (C.tp.gb + j) (by omega)).work j rfl hjs
      have hqj := hgone j (by omega)
      generalize φ' (C.tp.gb + j) = y at hW
      cases hW with
      | walk h0 => exact absurd hqj h0
      | parked h0 => rw [hqj] at h0; cases h0
      | blocked h0 => rw [hqj] at h0; cases h0
      | quit => rw [hh] at hh'; cases hh'
    · exact h
  · rcases hmok.2.1 with h | h
    · exact .inl h
    · exact .inr (c'.ig.once2 (.inl h))
end Go.Proofs.Ytpkiojchlficcaa.Crew

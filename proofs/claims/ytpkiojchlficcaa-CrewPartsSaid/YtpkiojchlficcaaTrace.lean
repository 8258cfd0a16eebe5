/- The trace's law for a phase of the crew: behind a prefix that is past, one giver and its workers, each with the places that it was given. -/
import Derived.Conc.Beside
import Derived.Conc.CrowdBase
import Derived.Test.YtpkiojchlficcaaInv2
namespace Go.Proofs.Ytpkiojchlficcaa.Crew
open Go Go.Conc
open Go.ConcN (fork_knows RelBy)
open Go.ConcR (stA smA)

/-- The phase's places: the Once's block, the group's, the two channels', the row that is written; the first worker's number; what is shunned. -/
structure TP where
  On : Nat
  Wg : Nat
  Pl : Nat
  St : Nat
  Out : Nat
  gb : Nat
  Shun : Loc → Prop
def Sy (p : TP) : Loc → Prop
  | .cell a => a.block = p.On ∨ a.block = p.Wg
  | .obj r => r = p.Pl ∨ r = p.St
  | _ => False
def Cel (p : TP) (k : Nat) : Loc := .cell ⟨p.Out, k, none⟩
/-- What g may touch: the shared places, atomically; a place that nobody writes; a cell that it was given. -/
def OkT (p : TP) (mine : Nat → Prop) (said : Prop) (x : Touch) : Prop :=
  (Sy p x.loc ∧ x.kind = .atomic) ∨ (said ∧ Sy p x.loc ∧ x.kind = .said) ∨ (x.write = false ∧ x.kind = .plain ∧ ¬ Sy p x.loc ∧ (∀ k, x.loc ≠ Cel p k) ∧ ¬ p.Shun x.loc) ∨
    (∃ k, mine k ∧ x.loc = Cel p k ∧ x.kind = .plain ∧ ¬ p.Shun x.loc ∧ ¬ Sy p x.loc)
structure TI (p : TP) (B : Nat) (t₀ T : Trace) (own : Nat → Option Nat) (sp : Nat) : Prop where
  ext : ∃ U, T = t₀ ++ U
  clean : ∀ said, ¬ Race said T
  low : ∀ op ∈ T, op.act.low B
  sy : ∀ i a, t₀.size ≤ i → touchAt T i = some a → Sy p a.loc → a.kind ≠ .plain ∧ (a.kind = .said → T.g? i = some 0)
  ro : ∀ i a, t₀.size ≤ i → touchAt T i = some a → ¬ Sy p a.loc → (∀ k, a.loc ≠ Cel p k) → a.write = false
  cel : ∀ i a k, t₀.size ≤ i → touchAt T i = some a → a.loc = Cel p k → ∃ j, own k = some j ∧ T.g? i = some (p.gb + j)
  ato : ∀ i a, t₀.size ≤ i → touchAt T i = some a → a.kind = .atomic → Sy p a.loc
  knows : ∀ j, j < sp → ∀ i, i < t₀.size → Knows t₀ 0 i → Knows T (p.gb + j) i
  gs : ∀ i g a, t₀.size ≤ i → T.g? i = some g → touchAt T i = some a → g = 0 ∨ ∃ j, j < sp ∧ g = p.gb + j
  norel : ∀ i, t₀.size ≤ i → T.act? i ≠ some (.mark (.release (stA p.Wg)))
section
variable {p : TP} {B B₀ : Nat} {t₀ T u : Trace} {own : Nat → Option Nat} {sp : Nat}
theorem TI.init (hP : Past p.Shun B₀ t₀) (hB : B₀ ≤ B) (own : Nat → Option Nat) : TI p B t₀ t₀ own 0 := by
  have no : ∀ i a, t₀.size ≤ i → touchAt t₀ i = some a → False := fun i a hi ha => by
    obtain ⟨x, hx, _⟩ := touch_of ha
    have := lt_size_of_getElem? hx; omega
  exact ⟨⟨#[], by simp⟩, hP.clean, fun op hop => MemAct.low_mono hB (hP.seen op hop), fun i a hi ha => (no i a hi ha).elim, fun i a hi ha => (no i a hi ha).elim, fun i a k hi ha => (no i a hi ha).elim, fun i a hi ha => (no i a hi ha).elim,
    fun j hj => by omega, fun i g a hi _ ha => (no i a hi ha).elim, fun i hi e => by have := lt_of_act? e; omega⟩
theorem TI.le (h : TI p B t₀ T own sp) : t₀.size ≤ T.size := by obtain ⟨U, rfl⟩ := h.ext; simp
theorem g?_of {t : Trace} {i : Nat} {op : MemOp} (h : t[i]? = some op) : t.g? i = some op.g := by simp [Trace.g?, h]
/-- All that goroutine 0 knew ahead of the phase whoever is in it knows. -/
theorem TI.knowsAll (h : TI p B t₀ T own sp) {g : Nat} (hg : g = 0 ∨ ∃ j, j < sp ∧ g = p.gb + j) {i : Nat} (hi : i < t₀.size) (hk : Knows t₀ 0 i) : Knows T g i := by
  rcases hg with rfl | ⟨j, hj, rfl⟩
  · obtain ⟨U, rfl⟩ := h.ext
    exact hk.app U
  · exact h.knows j hj i hi hk
/-- An operation of whoever is in the phase conflicts with nothing that it does not know. -/
theorem TI.okK (hP : Past p.Shun B₀ t₀) (h : TI p B t₀ T own sp) {g : Nat} (hg : g = 0 ∨ ∃ j, j < sp ∧ g = p.gb + j) {b : Touch} (hb : OkT p (fun k => ∃ j, g = p.gb + j ∧ own k = some j) (g = 0) b)
    {said : Bool} {i : Nat} {a : Touch} (ha : touchAt T i = some a) (hc : a.conflicts said b) : Knows T g i := by
  obtain ⟨hloc, hmem, hwr, hkind⟩ := hc
  have hlt : i < T.size := by obtain ⟨x, hx, _⟩ := touch_of ha; exact lt_size_of_getElem? hx
  rcases Nat.lt_or_ge i t₀.size with hi | hi
  · -- ahead of the phase
    have ha₀ : touchAt t₀ i = some a := by obtain ⟨U, rfl⟩ := h.ext; rw [← touchAt_old (u := U) hi]; exact ha
    rcases hP.known i a ha₀ hmem with hk | ⟨hs, hka⟩
    · exact h.knowsAll hg hi hk
    · exfalso
      rw [hka] at hkind
      rcases hb with ⟨_, hbk⟩ | ⟨_, _, hbk⟩ | ⟨_, hbk, _, _, hns⟩ | ⟨k, _, _, hbk, hns, _⟩
      · rw [hbk] at hkind; rcases hkind with x | x | ⟨_, x, _⟩ <;> cases x
      · rw [hbk] at hkind; rcases hkind with x | x | ⟨_, x, _⟩ <;> cases x
      · exact hns (hloc ▸ hs)
      · exact hns (hloc ▸ hs)
  · rcases hb with ⟨hsy, hbk⟩ | ⟨hg0, hsy, hbk⟩ | ⟨hbw, hbk, hnsy, hnc, _⟩ | ⟨k, ⟨j, hgj, hown⟩, hbl, _, _, _⟩
    · exfalso
      obtain ⟨h1, h2⟩ := h.sy i a hi ha (hloc ▸ hsy)
      rw [hbk] at hkind
      rcases hkind with x | x | ⟨_, _, x⟩
      · exact h1 x
      · cases x
      · cases x
    · obtain ⟨h1, h2⟩ := h.sy i a hi ha (hloc ▸ hsy)
      rw [hbk] at hkind
      rcases hkind with x | x | ⟨_, x, _⟩
      · exact absurd x h1
      · cases x
      · obtain ⟨op, hop, hop'⟩ := Option.map_eq_some_iff.1 (h2 x)
        have := knows_own hop
        rw [hop'] at this
        rw [hg0]; exact this
    · exfalso
      have := h.ro i a hi ha (hloc ▸ hnsy) (fun k => hloc ▸ hnc k)
      rw [this, hbw] at hwr
      rcases hwr with x | x <;> cases x
    · obtain ⟨j', h1, h2⟩ := h.cel i a k hi ha (hloc.trans hbl)
      rw [hown] at h1
      cases h1
      obtain ⟨op, hop, hop'⟩ := Option.map_eq_some_iff.1 h2
      have := knows_own hop
      rw [hop', ← hgj] at this
      exact this
/-- ████ WHOEVER IS IN THE PHASE GOES ON. ████ -/
theorem TI.add (hP : Past p.Shun B₀ t₀) (hS : ∀ k, ¬ Sy p (Cel p k)) (h : TI p B t₀ T own sp) {g : Nat} (hg : g = 0 ∨ ∃ j, j < sp ∧ g = p.gb + j) (hu : ∀ op ∈ u, op.g = g)
    (hx : ∀ op ∈ u, ∀ x, op.act.touch? = some x → OkT p (fun k => ∃ j, g = p.gb + j ∧ own k = some j) (g = 0) x) (hl : ∀ op ∈ u, op.act.low B) (hr : ∀ op ∈ u, op.act ≠ .mark (.release (stA p.Wg))) : TI p B t₀ (T ++ u) own sp := by
  have new : ∀ i a, touchAt (T ++ u) i = some a → (i < T.size ∧ touchAt T i = some a) ∨ (T.size ≤ i ∧ (T ++ u).g? i = some g ∧ OkT p (fun k => ∃ j, g = p.gb + j ∧ own k = some j) (g = 0) a) := by
    intro i a ha
    obtain ⟨x, hx', hxa⟩ := touch_of ha
    rcases getElem?_append_cases hx' with ⟨hi, hx''⟩ | ⟨hi, hxu⟩
    · exact .inl ⟨hi, by rw [touchAt_of hx'']; exact hxa⟩
    · exact .inr ⟨hi, by rw [g?_of hx', hu x hxu], hx x hxu a hxa⟩
  have hle := h.le
  refine ⟨?_, fun said => noRace_append (h.clean said) hu fun i a ha op hop b hb hc => h.okK hP hg (hx op hop b hb) ha hc, seen_app h.low hl, fun i a hi ha hs => ?_, fun i a hi ha hs hc => ?_, fun i a k hi ha hl => ?_, fun i a hi ha hk => ?_, fun j hj i hi hk => (h.knows j hj i hi hk).app u, fun i g' a hi hgi ha => ?_, fun i hi e => ?_⟩
  · obtain ⟨U, rfl⟩ := h.ext; exact ⟨U ++ u, by rw [Array.append_assoc]⟩
  · rcases new i a ha with ⟨hlt, ha'⟩ | ⟨_, hgi, ho⟩
    · rw [g?_old hlt]; exact h.sy i a hi ha' hs
    · rcases ho with ⟨_, hk⟩ | ⟨h0, _, hk⟩ | ⟨_, _, hn, _⟩ | ⟨_, _, _, _, _, hn⟩
      · rw [hk]; exact ⟨by simp, by simp⟩
      · rw [hk]; exact ⟨by simp, fun _ => by rw [hgi, h0]⟩
      · exact absurd hs hn
      · exact absurd hs hn
  · rcases new i a ha with ⟨_, ha'⟩ | ⟨_, _, ho⟩
    · exact h.ro i a hi ha' hs hc
    · rcases ho with ⟨hn, _⟩ | ⟨_, hn, _⟩ | ⟨hw, _⟩ | ⟨k, _, hk, _⟩
      · exact absurd hn hs
      · exact absurd hn hs
      · exact hw
      · exact absurd hk (hc k)
  · rcases new i a ha with ⟨hlt, ha'⟩ | ⟨_, hgi, ho⟩
    · rw [g?_old hlt]; exact h.cel i a k hi ha' hl
    · rcases ho with ⟨hn, hk⟩ | ⟨_, hn, hk⟩ | ⟨_, _, _, hc, _⟩ | ⟨k', ⟨j, hj, hown⟩, hk', _⟩
      · exact absurd (hl ▸ hn) (hS k)
      · exact absurd (hl ▸ hn) (hS k)
      · exact absurd hl (hc k)
      · have : k = k' := by
          have := hl.symm.trans hk'
          simp only [Cel, Loc.cell.injEq, Addr.mk.injEq] at this
          exact this.2.1
        subst this
        exact ⟨j, hown, by rw [hgi, hj]⟩
  · rcases new i a ha with ⟨_, ha'⟩ | ⟨_, _, ho⟩
    · exact h.ato i a hi ha' hk
    · rcases ho with ⟨hn, _⟩ | ⟨_, hn, _⟩ | ⟨_, hn, _⟩ | ⟨_, _, _, hn, _⟩
      · exact hn
      · exact hn
      · rw [hn] at hk; cases hk
      · rw [hn] at hk; cases hk
  · rcases new i a ha with ⟨hlt, ha'⟩ | ⟨_, hgi', _⟩
    · rw [g?_old hlt] at hgi; exact h.gs i g' a hi hgi ha'
    · have : g' = g := Option.some.inj (hgi.symm.trans hgi')
      rw [this]; exact hg
  · rcases Nat.lt_or_ge i T.size with hlt | hge
    · rw [act?_old hlt] at e; exact h.norel i hi e
    · obtain ⟨op, hop, hoa⟩ := Option.map_eq_some_iff.1 e
      rcases getElem?_append_cases hop with ⟨hi', _⟩ | ⟨_, hou⟩
      · omega
      · exact hr op hou hoa
/-- Operations that touch nothing, whoever's they are. -/
theorem TI.none (h : TI p B t₀ T own sp) (hx : ∀ op ∈ u, op.act.touch? = none) (hl : ∀ op ∈ u, op.act.low B) (hr : ∀ op ∈ u, op.act ≠ .mark (.release (stA p.Wg))) : TI p B t₀ (T ++ u) own sp := by
  have old : ∀ i a, touchAt (T ++ u) i = some a → i < T.size ∧ touchAt T i = some a := by
    intro i a ha
    obtain ⟨x, hx', hxa⟩ := touch_of ha
    rcases getElem?_append_cases hx' with ⟨hi, hx''⟩ | ⟨_, hxu⟩
    · exact ⟨hi, by rw [touchAt_of hx'']; exact hxa⟩
    · rw [hx x hxu] at hxa; cases hxa
  have hle := h.le
  refine ⟨?_, fun said => ?_, seen_app h.low hl, fun i a hi ha hs => ?_, fun i a hi ha => h.ro i a hi (old i a ha).2, fun i a k hi ha hl => ?_, fun i a hi ha => h.ato i a hi (old i a ha).2, fun j hj i hi hk => (h.knows j hj i hi hk).app u, fun i g a hi hg ha => ?_, fun i hi e => ?_⟩
  · obtain ⟨U, rfl⟩ := h.ext; exact ⟨U ++ u, by rw [Array.append_assoc]⟩
  · rintro ⟨i, j, hij, ⟨a, b, ha, hb, hc⟩, n1, n2⟩
    exact h.clean said ⟨i, j, hij, ⟨a, b, (old i a ha).2, (old j b hb).2, hc⟩, fun e => n1 (hb_app u e), fun e => n2 (hb_app u e)⟩
  · obtain ⟨h1, h2⟩ := old i a ha
    rw [g?_old h1]; exact h.sy i a hi h2 hs
  · obtain ⟨h1, h2⟩ := old i a ha
    rw [g?_old h1]; exact h.cel i a k hi h2 hl
  · obtain ⟨h1, h2⟩ := old i a ha
    rw [g?_old h1] at hg; exact h.gs i g a hi hg h2
  · rcases Nat.lt_or_ge i T.size with hlt | hge
    · rw [act?_old hlt] at e; exact h.norel i hi e
    · obtain ⟨op, hop, hoa⟩ := Option.map_eq_some_iff.1 e
      rcases getElem?_append_cases hop with ⟨hi', _⟩ | ⟨_, hou⟩
      · omega
      · exact hr op hou hoa
/-- A worker is started: it knows what goroutine 0 knew. -/
theorem TI.spawn (h : TI p B t₀ T own sp) {x y : MemOp} (hx : x.g = 0 ∧ x.act = .go (p.gb + sp)) (hy : y.g = p.gb + sp ∧ y.act = .start) (h0 : Deaf T 0 = 0) (hk : Deaf T (p.gb + sp) = 0) : TI p B t₀ (T ++ #[x, y]) own (sp + 1) := by
  have two : ∀ op ∈ #[x, y], op.act = .go (p.gb + sp) ∨ op.act = .start := by
    intro op hop
    simp at hop
    rcases hop with rfl | rfl
    · exact .inl hx.2
    · exact .inr hy.2
  have k := h.none (u := #[x, y]) (fun op hop => by rcases two op hop with e | e <;> rw [e] <;> rfl) (fun op hop => by rcases two op hop with e | e <;> rw [e] <;> trivial) (fun op hop => by rcases two op hop with e | e <;> rw [e] <;> simp)
  refine ⟨k.ext, k.clean, k.low, k.sy, k.ro, k.cel, k.ato, fun j hj i hi hkn => ?_, fun i g a hi hg ha => ?_, k.norel⟩
  · rcases Nat.lt_or_ge j sp with hlt | hge
    · exact k.knows j hlt i hi hkn
    · obtain rfl : j = sp := by omega
      refine fork_knows hx hy h0 hk ?_
      obtain ⟨U, rfl⟩ := h.ext
      exact hkn.app U
  · rcases k.gs i g a hi hg ha with h1 | ⟨j, hj, h1⟩
    · exact .inl h1
    · exact .inr ⟨j, by omega, h1⟩
/-- A cell is given away. -/
theorem TI.grow (h : TI p B t₀ T own sp) {k j : Nat} (hk : own k = Option.none) : TI p B t₀ T (upd own k (some j)) sp := by
  refine ⟨h.ext, h.clean, h.low, h.sy, h.ro, fun i a k' hi ha hl => ?_, h.ato, h.knows, h.gs, h.norel⟩
  obtain ⟨j', h1, h2⟩ := h.cel i a k' hi ha hl
  have hne : k' ≠ k := by rintro rfl; rw [hk] at h1; cases h1
  exact ⟨j', by rw [upd_ne _ _ hne]; exact h1, h2⟩
/-- ████ BEHIND THE WAIT ALL IS PAST. ████ -/
theorem TI.past (hP : Past p.Shun B₀ t₀) (h : TI p B t₀ T own sp) (h0 : Deaf T 0 = 0)
    (all : ∀ j, j < sp → ∃ r, RelBy (stA p.Wg) T (p.gb + j) r ∧ t₀.size ≤ r ∧ ∃ q, r < q ∧ T.act? q = some (.mark (.acquire (stA p.Wg))) ∧ T.g? q = some 0 ∧ T.heard q) : Past (fun l => p.Shun l ∨ Sy p l) B T := by
  have edge : ∀ j, j < sp → ∃ r q, RelBy (stA p.Wg) T (p.gb + j) r ∧ HappensBefore T r q ∧ T.g? q = some 0 ∧ Knows T 0 q := by
    intro j hj
    obtain ⟨r, hr, hr0, q, hrq, hq, hg, hh⟩ := all j hj
    refine ⟨r, q, hr, .single (.inr ⟨.marked hrq (.inr hr.act) hq (fun k hk _ => h.norel k (by omega)), hr.heard, hh⟩), hg, ?_⟩
    obtain ⟨op, hop, hop'⟩ := Option.map_eq_some_iff.1 hg
    have := knows_own hop
    rwa [hop'] at this
  refine ⟨h.clean, fun i a ha hm => ?_, fun i g hgi hne hc => ?_, h0, h.low⟩
  · have hlt : i < T.size := by obtain ⟨x, hx, _⟩ := touch_of ha; exact lt_size_of_getElem? hx
    rcases Nat.lt_or_ge i t₀.size with hi | hi
    · have ha₀ : touchAt t₀ i = some a := by obtain ⟨U, rfl⟩ := h.ext; rw [← touchAt_old (u := U) hi]; exact ha
      rcases hP.known i a ha₀ hm with hk | ⟨hs, hk⟩
      · exact .inl (h.knowsAll (.inl rfl) hi hk)
      · exact .inr ⟨.inl hs, hk⟩
    · have hgi : T.g? i = some T[i].g := g?_of (Array.getElem?_eq_getElem hlt)
      rcases h.gs i _ a hi hgi ha with e | ⟨j, hj, e⟩
      · have := knows_own (Array.getElem?_eq_getElem hlt)
        rw [e] at this; exact .inl this
      · obtain ⟨r, q, hr, hb, hg, hqk⟩ := edge j hj
        rcases Nat.lt_or_ge r i with hri | hri
        · have hnc := hr.after i hri (by rw [hgi, e])
          right
          have hka : a.kind = .atomic := by
            cases hk : a.kind
            · exact absurd ⟨a, ha, hm, .inl (by rw [hk]; simp)⟩ hnc
            · rfl
            · exact absurd ⟨a, ha, hm, .inl (by rw [hk]; simp)⟩ hnc
          exact ⟨.inr (h.ato i a hi ha hka), hka⟩
        · left
          refine Knows.of_before ?_ hqk
          rcases Nat.lt_or_ge i r with hir | hir
          · exact .inr (.trans (.single (.inl ⟨hir, p.gb + j, by rw [hgi, e], hr.g⟩)) hb)
          · obtain rfl : i = r := by omega
            exact .inr hb
  · have hlt : i < T.size := by
      unfold Trace.g? at hgi
      obtain ⟨z, hz, _⟩ := Option.map_eq_some_iff.1 hgi
      exact lt_size_of_getElem? hz
    rcases Nat.lt_or_ge i t₀.size with hi | hi
    · obtain ⟨U, rfl⟩ := h.ext
      obtain ⟨j, hj, hb⟩ := hP.over i g (by rw [← g?_old (u := U) hi]; exact hgi) hne ((counts_old hi).1 hc)
      have hjl : j < t₀.size := by
        unfold Trace.g? at hj
        obtain ⟨z, hz, _⟩ := Option.map_eq_some_iff.1 hj
        exact lt_size_of_getElem? hz
      exact ⟨j, by rw [g?_old hjl]; exact hj, hb_app U hb⟩
    · obtain ⟨a, ha, _⟩ := id hc
      rcases h.gs i g a hi hgi ha with e | ⟨j, hj, e⟩
      · exact absurd e hne
      · obtain ⟨r, q, hr, hb, hg, hqk⟩ := edge j hj
        have hle : i ≤ r := Nat.le_of_not_lt fun hlt' => hr.after i hlt' (by rw [hgi, e]) hc
        refine ⟨q, hg, ?_⟩
        rcases Nat.lt_or_ge i r with hir | hir
        · exact .trans (.single (.inl ⟨hir, p.gb + j, by rw [hgi, e], hr.g⟩)) hb
        · obtain rfl : i = r := by omega
          exact hb
end
end Go.Proofs.Ytpkiojchlficcaa.Crew

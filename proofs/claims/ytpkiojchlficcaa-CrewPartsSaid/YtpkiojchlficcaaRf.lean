/- The walks: the document's Each: it appends. -/
import Derived.Test.YtpkiojchlficcaaEq
import Derived.Laws.AppendOwn
import Derived.Conc.AppendEvents3
set_option linter.unusedSimpArgs false
namespace Go.Proofs.Ytpkiojchlficcaa.Crew
open Go Go.Conc Go.ConcN Go.RowKit Go.Conc.Lib Go.ConcR.Gen
open Go.ConcM (OsLater goes_pad goes_le)
open Go.ConcR (KK wgBlock WgAt stA smA rd wr mk DC0)
/-- WHAT IS HELD while a slice of one's own grows: all elder stands; v is the slice; it holds xs. -/
structure RO (w w' : World) (S : Nat → Prop) (v : Value) (xs : List Value) : Prop where
  k : Kept w S w' S
  o : w'.ownsRow w.heap.size 2 1 v xs.length xs
structure RO1 (w w' : World) (S : Nat → Prop) (v : Value) (xs : List Value) (g : Nat) (x : Value) : Prop where
  r : RO w w' S v xs
  c : w'.cell? ⟨g, 0, Option.none⟩ = some x
  lo : w.heap.size ≤ g
  hi : g < w'.heap.size
section
variable {w w' w₁ : World} {S : Nat → Prop} {v : Value} {xs : List Value}
theorem RO.rely (h : RO w w' S v xs) (r : AtRel w' w₁) : RO w w₁ S v xs := by obtain ⟨d, rfl⟩ := r; exact ⟨h.k.rely ⟨d, rfl⟩, h.o⟩
theorem RO1.rely {g : Nat} {x : Value} (h : RO1 w w' S v xs g x) (r : AtRel w' w₁) : RO1 w w₁ S v xs g x := by obtain ⟨d, rfl⟩ := r; exact ⟨h.r.rely ⟨d, rfl⟩, h.c, h.lo, h.hi⟩
theorem RO.nil (w : World) (S : Nat → Prop) : RO w w S (.slice Option.none 0 0) [] := ⟨Kept.refl _ _, World.ownsRow_nil _ _ _ _⟩
theorem Kept.alloc (h : Kept w S w' S) (o : Obj) : Kept w S (w'.alloc o) S := h.trans ((Grew.refl w').alloc o |>.kept S)
theorem RO.alloc (h : RO w w' S v xs) (x : Int) : RO1 w (w'.alloc (.cells #[.int .i64 x] 2)) S v xs w'.heap.size (.int .i64 x) :=
  ⟨⟨h.k.alloc _, h.o.alloc _⟩, by simp, h.k.size, by simp⟩
theorem RO1.grown {g : Nat} {x v' : Value} (h : RO1 w w' S v xs g x) (hg : w'.grownBy w₁ v.ownBlock) (ho : w₁.ownsRow w.heap.size 2 1 v' (xs.length + 1) (xs ++ [x])) : RO w w₁ S v' (xs ++ [x]) := by
  refine ⟨⟨fun b hb => ?_, Nat.le_trans h.r.k.size hg.size, hg.tape.trans h.r.k.tape, hg.output.trans h.r.k.output, by rw [hg.os]; exact h.r.k.os, fun _ hb => hb, fun _ hb => .inl hb⟩, by rw [List.length_append]; exact ho⟩
  rw [hg.block b (Nat.lt_of_lt_of_le hb h.r.k.size) fun e => by have := (h.r.o.lt b e.symm).1; omega]
  exact h.r.k.low b hb
/-- It may be read. -/
theorem RO.ints {n : Nat} {f : Nat → Int} (h : RO w w' S v ((List.range n).map fun i => .int .i64 (f i))) (hS : ∀ b, S b → b < w.heap.size) : ∃ a c, v = .slice a n c ∧ Ints S w' a n f := by
  have hl : ((List.range n).map fun i => Value.int .i64 (f i)).length = n := by simp
  rcases h.o.2 with ⟨e, h0⟩ | ⟨g, cap, cur, e, hb, hg, _, _, _, _⟩
  · rw [hl] at h0
    subst h0
    exact ⟨Option.none, 0, e, fun i hi => absurd hi (by omega)⟩
  · rw [hl] at e
    refine ⟨_, _, e, fun i hi => ⟨_, rfl, h.o.cells (g := g) (by rw [e]; rfl) i _ (by simp [hi]), ?_, fun hs => by have := hS g hs; omega⟩⟩
    exact (Array.getElem?_eq_some_iff.1 hg).1
end
theorem run_append_op {P : Program} {o : Oper} {a : Act} {w w' : World} {v xv v' : Value} (s x : Operand) (t : TypeId) (ho : o.op = .call { callee := .builtin .append, args := #[s, x], argTypes := #[t, t] }) (hs : a.eval s = v) (hx : a.eval x = xv)
    (hr : (Builtin.append_ #[t, t] o.type #[v, xv]).run P w = .ok v' w') : (execOp a.eval o).run P w = .ok (.value v') w' := by
  unfold execOp
  simp only [ho, resolve, invoke, builtin, Sem.run_bind, Sem.run_pure, Result.andThen_ok, List.map_toArray, List.map_cons, List.map_nil, hs, hx, hr]
theorem ev_append_op {P : Program} {o : Oper} {a : Act} {w : World} {v xv : Value} (s x : Operand) (t : TypeId) (ho : o.op = .call { callee := .builtin .append, args := #[s, x], argTypes := #[t, t] }) (hs : a.eval s = v) (hx : a.eval x = xv) (es : Array Event) :
    (execOp a.eval o).events P w es = (Builtin.append_ #[t, t] o.type #[v, xv]).events P w es := by
  unfold execOp
  simp only [ho, resolve, invoke, builtin, Sem.events_bind, Sem.run_pure, Sem.events_pure, Result.evThen_ok, List.map_toArray, List.map_cons, List.map_nil, hs, hx]
  cases (Builtin.append_ #[t, t] o.type #[v, xv]).run P w <;> rfl
theorem evL_any {S : Nat → Prop} {B : Nat} {e : Event} {ad : Addr} (h : e.loc = .cell ad) (hS : ¬ S ad.block) (hB : ad.block < B) : EvL (ShB S) B e := by
  obtain ⟨loc, wr, sy⟩ := e
  subst h
  refine ⟨fun x hx hs => ?_, by simp, by simp, hB⟩
  have : x.loc = .cell ad := by
    simp only [MemAct.ofEvent, MemAct.touch?, Option.some.injEq] at hx
    rw [← hx]
  rw [this] at hs
  exact absurd hs hS
theorem evL_neutral {S : Nat → Prop} {B : Nat} {m : Mark} (h : Conc.Neutral m) : EvL (ShB S) B ⟨.mark m, false, true⟩ := by
  unfold Conc.Neutral at h
  subst h
  exact ⟨fun x hx => by simp [MemAct.ofEvent, MemAct.touch?] at hx, by simp, by simp, trivial⟩
theorem info2 : (Try.prog.info? 2).map (fun i => (i.zero, i.size, i.bytes)) = some (some (.int .i64 0), 1, 8) := by kernel_rfl
section
variable {S : Nat → Prop} {Q : Goroutine → World → (Nat → Prop) → Prop} {b₀ : Frame} {a₀ : Act} {ops₀ : Array Oper} {i₀ : Nat} {rest₀ : List Nat} {k₀ : List Item} {cs : List Frame}
noncomputable def body13 : Code := Try.f13.body.getD .skip
noncomputable def LL13 : Code := (findLoop39 body13).getD .skip
noncomputable def END13 : Code := (s1' (s1' (s1' body13)))
def outL (kd : Int) (f : Nat → Int) (i : Nat) : List Value := (List.range i).map fun j => .int .i64 (doesZ kd (f j))
theorem outL_succ (kd : Int) (f : Nat → Int) (i : Nat) : outL kd f (i + 1) = outL kd f i ++ [.int .i64 (doesZ kd (f i))] := by simp [outL, List.range_succ]
theorem outL_len (kd : Int) (f : Nat → Int) (i : Nat) : (outL kd f i).length = i := by simp [outL]
/-- AT Each's LOOP HEAD. -/
def IsE13 (a : Option Addr) (n c : Nat) (kd : Int) (v : Value) (zi : Int) (b₀ : Frame) (a₀ : Act) (ops₀ : Array Oper) (i₀ : Nat) (rest₀ : List Nat) (k₀ : List Item) (cs : List Frame) (g : Goroutine) : Prop :=
  ∃ j2 j3 j4 j7 j8 j9 j10 j11 j12 j13 j14 j15 j16 j17 j18 j19 j20 j21 j22 : Value, g = G ((base 13).at ⟨#[.slice a n c, .int .u8 kd, j2, j3, j4, v, .int .i64 zi, j7, j8, j9, j10, j11, j12, j13, j14, j15, j16, j17, j18, j19, j20, j21, j22], []⟩ [.code LL13, .inLoop LL13, .inBlock 0, .code END13]) (b₀.at a₀ (.inRegion ops₀ (i₀ :: rest₀) :: k₀) :: cs)
set_option maxRecDepth 100000 in
set_option maxHeartbeats 16000000 in
theorem eachLoop13 {w : World} {n c : Nat} {a : Option Addr} {f : Nat → Int} {kd : Int} (hn : n < 17592186044416) (hS : ∀ b, S b → b < w.heap.size) (h1 : Ints S w a n f) (hQ : ∀ w₁ v, RO w w₁ S v (outL kd f n) → Gets (G (b₀.at (a₀.put ((ops₀[i₀]?).bind (·.dst)) (v)) (.inRegion ops₀ rest₀ :: k₀)) cs) w₁ S Q) :
    ∀ r i, i + r = n → ∀ v g, IsE13 a n c kd v (i : Int) b₀ a₀ ops₀ i₀ rest₀ k₀ cs g → ∀ w₁, RO w w₁ S v (outL kd f i) → Gets g w₁ S Q := by
  intro r
  induction r with
  | zero =>
    rintro i hi v g ⟨j2, j3, j4, j7, j8, j9, j10, j11, j12, j13, j14, j15, j16, j17, j18, j19, j20, j21, j22, rfl⟩ w₁ hF
    have hi' : ¬ i < n := by omega
    obtain rfl : i = n := by omega
    clear h1 hi
    refine Gets.silent 40 ?_
    simp only [LL13, END13, body13, findLoop39, s0', s1', Try.f13, Option.getD_some]
    repeat w_go RO.rely
    u_leave1 Try.func13 RO.rely hF
    exact Goes.stop (fun w₁ r₁ => hQ _ _ (hF.rely r₁))
  | succ r ih =>
    rintro i hi v g ⟨j2, j3, j4, j7, j8, j9, j10, j11, j12, j13, j14, j15, j16, j17, j18, j19, j20, j21, j22, rfl⟩ w₁ hF
    have hi' : i < n := by omega
    obtain ⟨ad, rfl, x1, x2, x3⟩ := h1 i hi'
    refine Gets.silent 40 ?_
    simp only [LL13, END13, body13, findLoop39, s0', s1', Try.f13, Option.getD_some]
    repeat w_go RO.rely
    refine Goes.stop (fun w₁ r₁ => ?_)
    replace hF := RO.rely hF r₁
    clear r₁
    refine Gets.val w.heap.size rfl rfl (by k_ne) fun w₂ r => ?_
    replace hF := hF.rely r
    have hc : w₂.cell? (ad.add i) = some (.int .i64 (f i)) := (hF.k.cell (by rw [addB]; exact x2)).trans x1
    refine ⟨.int .i64 (f i), w₂, by simp [go_sem, execOp, Act.eval, hc], ?_, ?_⟩
    · intro ev hev; simp [go_sem, execOp, Act.eval, hc] at hev; subst hev; exact evL_plain _ _ (by rw [addB]; exact x3) (by rw [addB]; exact x2)
    clear hc r
    refine Gets.silent 100 ?_
    walk_nrm
    repeat w_go RO.rely
    u_call Try.func31 nm31 Try.f31 RO.rely hF
    refine goes_le (show 20 + 60 ≤ _ by omega) (does31 (R := AtRel) (F := fun w₁ => RO w w₁ S v (outL kd f i)) RO.rely (m := 20) kd (f i) (fun w₂ hF => ?_) _ hF)
    walk_nrm
    repeat w_go RO.rely
    refine Goes.stop (fun w₁ r₁ => ?_)
    replace hF := RO.rely hF r₁
    clear r₁
    refine Gets.val 0 rfl rfl (by k_ne) fun w₃ r => ⟨.slice (some ⟨w₃.heap.size, 0, Option.none⟩) 1 1, w₃.alloc (.cells #[.int .i64 (doesZ kd (f i))] 2), by simp [go_sem, execOp, Act.eval], by simp [go_sem, execOp, Act.eval], ?_⟩
    replace hF := (hF.rely r).alloc (doesZ kd (f i))
    walk_nrm
    generalize w₃.heap.size = g1 at hF ⊢
    generalize w₃.alloc (.cells #[.int .i64 (doesZ kd (f i))] 2) = w₄ at hF ⊢
    clear r
    -- append
    obtain ⟨i0, hi0, hz0, hz1, hz2⟩ := info_parts info2
    refine Gets.val w₄.heap.size rfl rfl (by k_ne) fun w₅ r => ?_
    have hs5 : w₅.heap.size = w₄.heap.size := by obtain ⟨dd, rfl⟩ := r; rfl
    replace hF := hF.rely r
    have hnews : ∀ j u, [Value.int .i64 (doesZ kd (f i))][j]? = some u → w₅.cell? ((⟨g1, 0, Option.none⟩ : Addr).add j) = some u := fun j u hu => by
      match j, hu with
      | 0, hu => cases hu; exact hF.c
    have hone : ∀ u ∈ [Value.int .i64 (doesZ kd (f i))], u.oneCell' = true := fun u hu => by simp at hu; subst hu; rfl
    have hmax : (outL kd f i).length + 1 ≤ maxLen := by rw [outL_len]; simp only [maxLen]; omega
    have hby : ((outL kd f i).length + 1) * 8 ≤ 140737488355328 := by rw [outL_len]; omega
    obtain ⟨v', w₆, hr, hown, hgr, _⟩ := run_append_own (P := Try.prog) w₅ w.heap.size 22 22 2 i0 (.int .i64 0) 1 8 Try.underlying22 hi0 hz0 hz1 hz2 rfl (by omega) v _ (outL kd f i) hF.r.o ⟨g1, 0, Option.none⟩ 1 1 [.int .i64 (doesZ kd (f i))] rfl hnews hone hmax hby hF.r.k.size
    have hev := events_append_where (P := Try.prog) w₅ w.heap.size 22 22 2 i0 (.int .i64 0) 1 8 Try.underlying22 hi0 hz0 hz1 hz2 v _ (outL kd f i) hF.r.o ⟨g1, 0, Option.none⟩ 1 1 [.int .i64 (doesZ kd (f i))] rfl hnews hone hmax hby
    refine ⟨v', w₆, run_append_op (.tmp 13) (.tmp 20) 22 rfl rfl rfl hr, ?_, ?_⟩
    · intro ev hv
      rw [ev_append_op (.tmp 13) (.tmp 20) 22 rfl rfl rfl] at hv
      rcases hev ev hv with ⟨ad', h1, h2⟩ | ⟨m, rfl, hm⟩
      · refine evL_any h1 ?_ ?_
        · rcases h2 with ⟨_, h2⟩ | h2
          · rw [h2]; exact fun hs => by have := hS _ hs; have := hF.lo; simp only at *; omega
          · exact fun hs => by have := hS _ hs; have := (hF.r.o.lt _ h2.symm).1; omega
        · rw [← hs5]
          rcases h2 with ⟨_, h2⟩ | h2
          · rw [h2]; exact hF.hi
          · exact (hF.r.o.lt _ h2.symm).2
      · exact evL_neutral hm
    have hF := hF.grown hgr hown
    rw [← outL_succ] at hF
    have hI := ih (i + 1) (by omega) v'
    obtain ⟨zi', hz'⟩ : ∃ z : Int, Hide (((i + 1 : Nat) : Int) = z) := ⟨_, hide rfl⟩
    rw [show ((i + 1 : Nat) : Int) = zi' from hz'] at hI
    have e2 : IntKind.i64.wrap ((i : Int) + 1) = zi' := by
      have h1 : ((i + 1 : Nat) : Int) = zi' := hz'
      rw [IntKind.wrap_i64]; omega
    clear ih h1 hQ hz' x1 x2 x3 hi hi' hev hown hgr hr hmax hby hnews hone r hs5
    generalize doesZ kd (f i) = fi
    generalize outL kd f (i + 1) = xs at hF hI
    generalize (i : Int) = zi at e2 ⊢
    refine Gets.silent 40 ?_
    walk_nrm
    repeat w_nl RO.rely
    u_c stepG_inLoop RO.rely hF
    exact Goes.stop (fun w₁ r₁ => hI _ ⟨_, _, _, _, _, _, _, _, _, _, _, _, _, _, _, _, _, _, _, rfl⟩ _ (hF.rely r₁))
set_option maxRecDepth 100000 in
set_option maxHeartbeats 16000000 in
/-- ████ THE DOCUMENT's Each. ████ -/
theorem refEach {w : World} {n c : Nat} {a : Option Addr} {f : Nat → Int} {kd : Int} (hn : n < 17592186044416) (hS : ∀ b, S b → b < w.heap.size) (h1 : Ints S w a n f)
    (hQ : ∀ w₁ a' c', Kept w S w₁ S → Ints S w₁ a' n (fun i => doesZ kd (f i)) → Gets (G (b₀.at (a₀.put ((ops₀[i₀]?).bind (·.dst)) (.slice a' n c')) (.inRegion ops₀ rest₀ :: k₀)) cs) w₁ S Q) :
    Gets (G ((base 13).at ⟨#[.slice a n c, .int .u8 kd, undef, undef, undef, undef, undef, undef, undef, undef, undef, undef, undef, undef, undef, undef, undef, undef, undef, undef, undef, undef, undef], []⟩ [.code body13]) (b₀.at a₀ (.inRegion ops₀ (i₀ :: rest₀) :: k₀) :: cs)) w S Q := by
  have hF : RO w w S (.slice Option.none 0 0) [] := RO.nil w S
  have hL := eachLoop13 (c := c) (kd := kd) (b₀ := b₀) (a₀ := a₀) (ops₀ := ops₀) (i₀ := i₀) (rest₀ := rest₀) (k₀ := k₀) (cs := cs) hn hS h1 (fun w₁ v h => by
    obtain ⟨a', c', rfl, hi⟩ := RO.ints h hS
    exact hQ w₁ a' c' h.k hi) n 0 (by omega) (.slice Option.none 0 0)
  clear h1 hQ
  refine Gets.silent 60 ?_
  simp only [body13, Try.f13, Option.getD_some]
  repeat w_bar RO.rely
  u_c stepG_loop RO.rely hF
  exact Goes.stop (fun w₁ r₁ => hL _ ⟨_, _, _, _, _, _, _, _, _, _, _, _, _, _, _, _, _, _, _, rfl⟩ _ (hF.rely r₁))
end
end Go.Proofs.Ytpkiojchlficcaa.Crew

/- The walks: slices.Grow, slices.Concat of two. -/
import Derived.Test.YtpkiojchlficcaaWo
import Derived.Lib.AppendZeros
set_option linter.unusedSimpArgs false
namespace Go.Proofs.Ytpkiojchlficcaa.Crew
open Go Go.Conc Go.ConcN Go.RowKit Go.Conc.Lib Go.ConcR.Gen
open Go.ConcM (OsLater goes_pad goes_le)
open Go.ConcR (KK wgBlock WgAt stA smA rd wr mk DC0)
section
variable {S : Nat → Prop} {w w₁ : World} {v x : Value} {xs : List Value}
def intsL (f : Nat → Int) (m : Nat) : List Value := (List.range m).map fun i => .int .i64 (f i)
/-- Nothing is appended: nothing happens. -/
theorem run_append_zero {P : Program} (w : World) (base e : Nat) (t ty : TypeId) (i : TypeInfo) (ht : P.underlying t = some (.slice e)) (hi : P.info? e = some i) (h : w.ownsRow base e 1 v xs.length xs) (a : Option Addr) (c : Nat) :
    (Builtin.append_ #[t, t] ty #[v, .slice a 0 c]).run P w = .ok v w := by
  rcases h.2 with ⟨rfl, _⟩ | ⟨g, cap, cur, rfl, hb, hg, hc, _, _, _⟩
  · cases a <;> simp [Builtin.append_, run_underlying ht, sizeOf, typeInfo, hi, Builtin.lenOf, Builtin.firstCells, loadCells, loadCellsFrom]
  · cases a <;> simp [Builtin.append_, run_underlying ht, sizeOf, typeInfo, hi, Builtin.lenOf, Builtin.firstCells, loadCells, loadCellsFrom, hc, storeCells]
theorem ev_append_zero {P : Program} (w : World) (base e : Nat) (t ty : TypeId) (i : TypeInfo) (ht : P.underlying t = some (.slice e)) (hi : P.info? e = some i) (h : w.ownsRow base e 1 v xs.length xs) (a : Option Addr) (c : Nat) (es : Array Event) :
    (Builtin.append_ #[t, t] ty #[v, .slice a 0 c]).events P w es = es := by
  rcases h.2 with ⟨rfl, _⟩ | ⟨g, cap, cur, rfl, hb, hg, hc, _, _, _⟩
  · cases a <;> simp [Builtin.append_, run_underlying ht, sizeOf, typeInfo, hi, Builtin.lenOf, Builtin.firstCells, loadCells, loadCellsFrom]
  · cases a <;> simp [Builtin.append_, run_underlying ht, sizeOf, typeInfo, hi, Builtin.lenOf, Builtin.firstCells, loadCells, loadCellsFrom, hc, storeCells]
end
section
variable {S : Nat → Prop} {Q : Goroutine → World → (Nat → Prop) → Prop} {b : Frame} {a : Act} {k : List Item} {cs : List Frame} {w w₁ : World} {ops : Array Oper} {i : Nat} {rest : List Nat} {o : Oper} {v : Value} {xs : List Value}
/-- ████ append(s, t...). ████ -/
theorem Gets.append {m c : Nat} {a' : Option Addr} {f : Nat → Int} (s x : Operand) (hF : RO w w₁ S v xs) (hS : ∀ b, S b → b < w.heap.size) (hx : Ints S w₁ a' m f) (hlen : xs.length + m < 17592186044416)
    (ho : ops[i]? = some o) (hop : o.op = .call { callee := .builtin .append, args := #[s, x], argTypes := #[22, 22] }) (hw : Region.wanted o (yielded ops a.tmps) = true) (hk : b.kind ≠ .early) (hs : a.eval s = v) (hx' : a.eval x = .slice a' m c)
    (h : ∀ w₂ v', RO w w₂ S v' (xs ++ intsL f m) → Gets (G (b.at (a.put o.dst v') (.inRegion ops rest :: k)) cs) w₂ S Q) :
    Gets (G (b.at a (.inRegion ops (i :: rest) :: k)) cs) w₁ S Q := by
  obtain ⟨i0, hi0, hz0, hz1, hz2⟩ := info_parts info2
  refine Gets.val w₁.heap.size ho hw hk fun w₂ r => ?_
  have hs2 : w₂.heap.size = w₁.heap.size := by obtain ⟨dd, rfl⟩ := r; rfl
  replace hF := hF.rely r
  replace hx := hx.rely r
  by_cases hm : m = 0
  · subst hm
    refine ⟨v, w₂, run_append_op s x 22 hop hs hx' (run_append_zero w₂ w.heap.size 2 22 _ i0 Try.underlying22 hi0 hF.o a' c), ?_, ?_⟩
    · intro ev hev
      rw [ev_append_op s x 22 hop hs hx', ev_append_zero w₂ w.heap.size 2 22 _ i0 Try.underlying22 hi0 hF.o a' c] at hev
      simp at hev
    · exact h _ _ (by simpa [intsL] using hF)
  · obtain ⟨ad, rfl, _, hb, hnS⟩ := hx 0 (by omega)
    have hnews : ∀ j u, (intsL f m)[j]? = some u → w₂.cell? (ad.add j) = some u := fun j u hu => by
      simp only [intsL, List.getElem?_map, Option.map_eq_some_iff] at hu
      obtain ⟨j', hj', rfl⟩ := hu
      obtain ⟨hlt, rfl⟩ := List.getElem?_eq_some_iff.1 hj'
      simp only [List.length_range] at hlt
      simp only [List.getElem_range]
      obtain ⟨ad', e, x1, _⟩ := hx j hlt
      cases e
      exact x1
    have hone : ∀ u ∈ intsL f m, u.oneCell' = true := fun u hu => by
      simp only [intsL, List.mem_map] at hu
      obtain ⟨_, _, rfl⟩ := hu
      rfl
    have hll : (intsL f m).length = m * 1 := by simp [intsL]
    have hmax : xs.length + m ≤ maxLen := by simp only [maxLen]; omega
    have hby : (xs.length + m) * 8 ≤ 140737488355328 := by omega
    obtain ⟨v', w₃, hr, hown, hgr, _⟩ := run_append_own (P := Try.prog) w₂ w.heap.size 22 o.type 2 i0 (.int .i64 0) 1 8 Try.underlying22 hi0 hz0 hz1 hz2 rfl (by omega) v _ xs hF.o ad m c _ hll hnews hone hmax hby hF.k.size
    have hev := events_append_where (P := Try.prog) w₂ w.heap.size 22 o.type 2 i0 (.int .i64 0) 1 8 Try.underlying22 hi0 hz0 hz1 hz2 v _ xs hF.o ad m c _ hll hnews hone hmax hby
    refine ⟨v', w₃, run_append_op s x 22 hop hs hx' hr, ?_, h _ _ ⟨⟨fun b hb => ?_, Nat.le_trans hF.k.size hgr.size, hgr.tape.trans hF.k.tape, hgr.output.trans hF.k.output, by rw [hgr.os]; exact hF.k.os, fun _ hb => hb, fun _ hb => .inl hb⟩, ?_⟩⟩
    · intro ev hv
      rw [ev_append_op s x 22 hop hs hx'] at hv
      rcases hev ev hv with ⟨ad', h1, h2⟩ | ⟨m, rfl, hm⟩
      · refine evL_any h1 ?_ ?_
        · rcases h2 with ⟨_, h2⟩ | h2
          · rw [h2]; exact hnS
          · exact fun hs => by have := hS _ hs; have := (hF.o.lt _ h2.symm).1; omega
        · rw [← hs2]
          rcases h2 with ⟨_, h2⟩ | h2
          · rw [h2]; exact hb
          · exact (hF.o.lt _ h2.symm).2
      · exact evL_neutral hm
    · rw [hgr.block b (Nat.lt_of_lt_of_le hb hF.k.size) fun e => by have := (hF.o.lt b e.symm).1; omega]
      exact hF.k.low b hb
    · rw [List.length_append, hll, Nat.mul_one]; exact hown
end
section
variable {S : Nat → Prop} {Q : Goroutine → World → (Nat → Prop) → Prop} {b₀ : Frame} {a₀ : Act} {ops₀ : Array Oper} {i₀ : Nat} {rest₀ : List Nat} {k₀ : List Item} {cs : List Frame}
noncomputable def body37 : Code := Try.f37.body.getD .skip
theorem nm37 : (Try.f37.name == "runtime.NumGoroutine") = false := by kernel_rfl
/-- What an append of n zeros to nothing lists. -/
theorem ev_append_zeros (w : World) (n : Nat) (ty : TypeId) (h0 : 0 < n) (hn : n < 17592186044416) : ∀ ev ∈ (Builtin.append_ #[22, 3] ty #[.slice Option.none 0 0, .int .i64 n]).events Try.prog w #[], ∃ m, ev = ⟨.mark m, false, true⟩ ∧ Conc.Neutral m := by
  obtain ⟨i0, hi0, hz0, hz1, hz2⟩ := info_parts info2
  intro ev hev
  have hn' : n ≠ 0 := by omega
  have hw : IntKind.i64.wrap (n : Int) = n := by rw [IntKind.wrap_i64]; omega
  have h63' : ¬ (9223372036854775807 < (n : Int)) := by omega
  have h48' : ¬ (281474976710656 < Builtin.nextslicecap n 0 * 8) := by rw [nextslicecap_zero h0]; omega
  have h48i : ¬ (281474976710656 < (n : Int) * 8) := by omega
  have hneg : ¬ ((n : Int) < 0) := by omega
  simp [Builtin.append_, run_underlying Try.underlying22, run_underlying Try.underlying3, sizeOf, typeInfo, zeroValue, hi0, hz0, hz1, hz2, asInt, asIntOf, hw, hn', hneg, h63', h48', h48i, Question.forced, run_firstCells_none, newRow, Builtin.firstCells] at hev
  exact (Conc.events_askRoom _ _ _ ev hev).resolve_left (by simp)
theorem run_cap_nil (w : World) : (Builtin.cap_ #[22] 3 #[.slice Option.none 0 0]).run Try.prog w = .ok (.int .i64 0) w := by simp [Builtin.cap_, run_underlying Try.underlying22, goInt]
theorem ev_cap_nil (w : World) (es : Array Event) : (Builtin.cap_ #[22] 3 #[.slice Option.none 0 0]).events Try.prog w es = es := by simp [Builtin.cap_, run_underlying Try.underlying22]
theorem run_slice_none (w : World) : (Instr.sliceAt 22 (.slice Option.none 0 0) Option.none (some (.int .i64 0)) Option.none).run Try.prog w = .ok (.slice Option.none 0 0) w := by
  obtain ⟨i0, hi0, hz0, hz1, hz2⟩ := info_parts info2
  simp [Instr.sliceAt, Instr.slice, Instr.sliceBounds, Instr.sliceBound, asIntOf, run_underlying Try.underlying22, sizeOf, typeInfo, hi0]
theorem ev_slice_none (w : World) (es : Array Event) : (Instr.sliceAt 22 (.slice Option.none 0 0) Option.none (some (.int .i64 0)) Option.none).events Try.prog w es = es := by
  obtain ⟨i0, hi0, hz0, hz1, hz2⟩ := info_parts info2
  simp [Instr.sliceAt, Instr.slice, Instr.sliceBounds, Instr.sliceBound, asIntOf, run_underlying Try.underlying22, sizeOf, typeInfo, hi0]
theorem run_slice_some (w : World) (g n c : Nat) : (Instr.sliceAt 22 (.slice (some ⟨g, 0, Option.none⟩) n c) Option.none (some (.int .i64 0)) Option.none).run Try.prog w = .ok (.slice (some ⟨g, 0, Option.none⟩) 0 c) w := by
  obtain ⟨i0, hi0, hz0, hz1, hz2⟩ := info_parts info2
  simp [Instr.sliceAt, Instr.slice, Instr.sliceBounds, Instr.sliceBound, asIntOf, run_underlying Try.underlying22, sizeOf, typeInfo, hi0, Addr.add_lit]
theorem ev_slice_some (w : World) (g n c : Nat) (es : Array Event) : (Instr.sliceAt 22 (.slice (some ⟨g, 0, Option.none⟩) n c) Option.none (some (.int .i64 0)) Option.none).events Try.prog w es = es := by
  obtain ⟨i0, hi0, hz0, hz1, hz2⟩ := info_parts info2
  simp [Instr.sliceAt, Instr.slice, Instr.sliceBounds, Instr.sliceBound, asIntOf, run_underlying Try.underlying22, sizeOf, typeInfo, hi0, Addr.add_lit]
theorem run_append_op2 {P : Program} {o : Oper} {a : Act} {w w' : World} {v xv v' : Value} (s x : Operand) (t t2 : TypeId) (ho : o.op = .call { callee := .builtin .append, args := #[s, x], argTypes := #[t, t2] }) (hs : a.eval s = v) (hx : a.eval x = xv)
    (hr : (Builtin.append_ #[t, t2] o.type #[v, xv]).run P w = .ok v' w') : (execOp a.eval o).run P w = .ok (.value v') w' := by
  unfold execOp
  simp only [ho, resolve, invoke, builtin, Sem.run_bind, Sem.run_pure, Result.andThen_ok, List.map_toArray, List.map_cons, List.map_nil, hs, hx, hr]
theorem ev_append_op2 {P : Program} {o : Oper} {a : Act} {w : World} {v xv : Value} (s x : Operand) (t t2 : TypeId) (ho : o.op = .call { callee := .builtin .append, args := #[s, x], argTypes := #[t, t2] }) (hs : a.eval s = v) (hx : a.eval x = xv) (es : Array Event) :
    (execOp a.eval o).events P w es = (Builtin.append_ #[t, t2] o.type #[v, xv]).events P w es := by
  unfold execOp
  simp only [ho, resolve, invoke, builtin, Sem.events_bind, Sem.run_pure, Sem.events_pure, Result.evThen_ok, List.map_toArray, List.map_cons, List.map_nil, hs, hx]
  cases (Builtin.append_ #[t, t2] o.type #[v, xv]).run P w <;> rfl
set_option maxRecDepth 100000 in
set_option maxHeartbeats 16000000 in
/-- ████ slices.Grow, OF NOTHING. ████ -/
theorem growGets {w : World} {n : Nat} (hn : n < 17592186044416) (h : ∀ w' v, RO w w' S v [] → Gets (G (b₀.at (a₀.put ((ops₀[i₀]?).bind (·.dst)) (v)) (.inRegion ops₀ rest₀ :: k₀)) cs) w' S Q) :
    Gets (G ((base 37).at ⟨#[.slice Option.none 0 0, .int .i64 (n : Int), undef, undef, undef, undef, undef, undef, undef, undef, undef, undef, undef, undef, undef, undef, undef, undef, undef, undef, undef, undef, undef, undef, undef, undef, undef], []⟩ [.code body37]) (b₀.at a₀ (.inRegion ops₀ (i₀ :: rest₀) :: k₀) :: cs)) w S Q := by
  have ez : IntKind.i64.wrap 0 = 0 := by decide
  have rc := fun w => run_cap_nil w
  have ec := fun w es => ev_cap_nil w es
  have rs := fun w => run_slice_none w
  have es := fun w es => ev_slice_none w es
  have rt := fun w g n c => run_slice_some w g n c
  have et := fun w g n c es => ev_slice_some w g n c es
  rcases Nat.eq_zero_or_pos n with rfl | h0
  · have hF := atRel_refl w
    refine Gets.silent 80 ?_
    simp only [body37, Try.f37, Option.getD_some, Int.natCast_zero]
    repeat w_go at_rl
    u_leave1 Try.func37 at_rl hF
    exact Goes.stop (fun w₁ r₁ => h _ _ ((RO.nil w S).rely (at_rl hF r₁)))
  have en : IntKind.i64.wrap (n : Int) = n := by rw [IntKind.wrap_i64]; omega
  have d0 : decide ((n : Int) < 0) = false := by rw [decide_eq_false_iff_not]; omega
  have d1 : decide ((0 : Int) < (n : Int)) = true := by rw [decide_eq_true_iff]; omega
  obtain ⟨i0, hi0, hz0, hz1, hz2⟩ := info_parts info2
  have hF := atRel_refl w
  refine Gets.silent 80 ?_
  simp only [body37, Try.f37, Option.getD_some]
  repeat w_go at_rl
  refine Goes.stop (fun w₁ r₁ => ?_)
  replace hF := at_rl hF r₁
  clear r₁
  refine Gets.val 0 rfl rfl (by k_ne) fun w₃ r => ?_
  replace hF := at_rl hF r
  have hr := Go.Lib.run_append_nil_zeros (P := Try.prog) w₃ 22 3 22 2 i0 (.int .i64 0) .i64 .i64 Try.underlying22 Try.underlying3 hi0 hz0 n h0 (by omega) (by omega) (by rw [hz2]; omega)
  have hev := ev_append_zeros w₃ n 22 h0 hn
  have hge := grownCap_ge w₃ n 0 2
  have hcm : grownCap w₃ n 0 2 ≤ maxLen := grownCap_le_maxLen w₃ n 0 2 (by simp only [maxLen]; omega)
  have hK : Kept w S w₃ S := (Kept.refl w S).rely hF
  have hR : RO w (w₃.drew.alloc (.cells (Builtin.zeroCells (Value.int .i64 0).cells n ++ Builtin.zeroCells (Value.int .i64 0).cells (grownCap w₃ n 0 2 - n)) 2)) S (.slice (some ⟨w₃.heap.size, 0, Option.none⟩) 0 (grownCap w₃ n 0 2)) [] :=
    ⟨(hK.rely ⟨_, rfl⟩).alloc _, World.ownsRow_made w₃.drew _ _ hK.size hcm (by
      have hz : (Value.int .i64 0).cells.size = 1 := rfl
      rw [Array.size_append, size_zeroCells, size_zeroCells, hz]; omega)⟩
  refine ⟨_, _, run_append_op2 (.tmp 20) (.tmp 21) 22 3 rfl rfl rfl hr, ?_, ?_⟩
  · intro ev hv
    rw [ev_append_op2 (.tmp 20) (.tmp 21) 22 3 rfl rfl rfl] at hv
    obtain ⟨m, rfl, hm⟩ := hev ev hv
    exact evL_neutral hm
  generalize w₃.drew.alloc _ = w₄ at hR ⊢
  generalize w₃.heap.size = g at hR ⊢
  generalize grownCap w₃ n 0 2 = c at hR ⊢
  clear hev hr hK hge hcm hF r
  have hF := atRel_refl w₄
  refine Gets.silent 60 ?_
  walk_nrm
  repeat w_go at_rl
  u_leave1 Try.func37 at_rl hF
  exact Goes.stop (fun w₁ r₁ => h _ _ (hR.rely (at_rl hF r₁)))
end
section
variable {S : Nat → Prop} {Q : Goroutine → World → (Nat → Prop) → Prop} {b₀ : Frame} {a₀ : Act} {ops₀ : Array Oper} {i₀ : Nat} {rest₀ : List Nat} {k₀ : List Item} {cs : List Frame}
theorem Kept.back {w w' w'' : World} {v : Value} (h : Kept w S w' S) (hR : RO w' w'' S v []) : RO w w'' S v [] := by
  refine ⟨h.trans hR.k, hR.o.1, ?_⟩
  rcases hR.o.2 with h' | ⟨g, cap, cur, e, hb, x⟩
  · exact .inl h'
  · exact .inr ⟨g, cap, cur, e, Nat.le_trans h.size hb, x⟩
/-- One behind the other. -/
def catZ (f1 f2 : Nat → Int) (n1 : Nat) (i : Nat) : Int := if i < n1 then f1 i else f2 (i - n1)
theorem intsL_cat (f1 f2 : Nat → Int) (n1 n2 : Nat) : [] ++ intsL f1 n1 ++ intsL f2 n2 = (List.range (n1 + n2)).map fun i => Value.int .i64 (catZ f1 f2 n1 i) := by
  rw [List.range_add, List.map_append, List.map_map, List.nil_append, intsL, intsL]
  congr 1
  · refine List.map_congr_left fun i hi => ?_
    rw [catZ, if_pos (List.mem_range.1 hi)]
  · refine List.map_congr_left fun i _ => ?_
    simp only [Function.comp, catZ]
    rw [if_neg (by omega), Nat.add_sub_cancel_left]
noncomputable def body27 : Code := Try.f27.body.getD .skip
theorem nm27 : (Try.f27.name == "runtime.NumGoroutine") = false := by kernel_rfl
set_option maxRecDepth 100000 in
set_option maxHeartbeats 16000000 in
/-- ████ slices.Concat, OF TWO. ████ -/
theorem concatGets {w : World} {g n1 n2 c1 c2 : Nat} {a1 a2 : Option Addr} {f1 f2 : Nat → Int} (hn : n1 + n2 < 17592186044416) (hS : ∀ b, S b → b < w.heap.size) (hg : g < w.heap.size) (hgS : ¬ S g)
    (k1 : w.cell? ⟨g, 0, Option.none⟩ = some (.slice a1 n1 c1)) (k2 : w.cell? ⟨g, 1, Option.none⟩ = some (.slice a2 n2 c2)) (h1 : Ints S w a1 n1 f1) (h2 : Ints S w a2 n2 f2)
    (hQ : ∀ w' a' c', Kept w S w' S → Ints S w' a' (n1 + n2) (catZ f1 f2 n1) → Gets (G (b₀.at (a₀.put ((ops₀[i₀]?).bind (·.dst)) (.slice a' (n1 + n2) c')) (.inRegion ops₀ rest₀ :: k₀)) cs) w' S Q) :
    Gets (G ((base 27).at ⟨#[.slice (some ⟨g, 0, Option.none⟩) 2 2, undef, undef, undef, undef, undef, undef, undef, undef, undef, undef, undef, undef, undef, undef, undef, undef, undef, undef, undef, undef, undef, undef, undef, undef, undef, undef, undef, undef, undef, undef, undef, undef, undef, undef, undef], []⟩ [.code body27]) (b₀.at a₀ (.inRegion ops₀ (i₀ :: rest₀) :: k₀) :: cs)) w S Q := by
  have hfin : ∀ w' v, RO w w' S v ([] ++ intsL f1 n1 ++ intsL f2 n2) → Gets (G (b₀.at (a₀.put ((ops₀[i₀]?).bind (·.dst)) (v)) (.inRegion ops₀ rest₀ :: k₀)) cs) w' S Q := fun w' v hR => by
    rw [intsL_cat] at hR
    obtain ⟨a', c', rfl, hi⟩ := RO.ints hR hS
    exact hQ w' a' c' hR.k hi
  clear hQ
  obtain ⟨N, hN⟩ : ∃ N, Hide (n1 + n2 = N) := ⟨_, hide rfl⟩
  have s0 : IntKind.i64.wrap 0 = 0 := by decide
  have s1 : IntKind.i64.wrap 1 = 1 := by decide
  have s2 : IntKind.i64.wrap 2 = 2 := by decide
  have t1 : IntKind.i64.wrap (n1 : Int) = n1 := by rw [IntKind.wrap_i64]; omega
  have t2 : IntKind.i64.wrap ((n1 : Int) + (n2 : Int)) = (N : Int) := by
    have hh : n1 + n2 = N := hN
    rw [IntKind.wrap_i64]; omega
  have d1 : decide ((n1 : Int) < 0) = false := by rw [decide_eq_false_iff_not]; omega
  have d2 : decide ((N : Int) < 0) = false := by rw [decide_eq_false_iff_not]; omega
  have hF := RO.nil w S
  refine Gets.silent 40 ?_
  simp only [body27, Try.f27, Option.getD_some]
  repeat w_go RO.rely
  refine Goes.stop (fun w₁ r₁ => ?_)
  replace hF := hF.rely r₁
  clear r₁
  refine Gets.val w.heap.size rfl rfl (by k_ne) fun w₂ r => ?_
  replace hF := hF.rely r
  have hc : w₂.cell? ⟨g, 0, Option.none⟩ = some (.slice a1 n1 c1) := (hF.k.cell hg).trans k1
  refine ⟨.slice a1 n1 c1, w₂, by simp [go_sem, execOp, Act.eval, hc], ?_, ?_⟩
  · intro ev hev; simp [go_sem, execOp, Act.eval, hc] at hev; subst hev; exact evL_plain _ _ hgS hg
  clear hc r
  refine Gets.silent 60 ?_
  walk_nrm
  repeat w_go RO.rely
  refine Goes.stop (fun w₁ r₁ => ?_)
  replace hF := hF.rely r₁
  clear r₁
  refine Gets.val w.heap.size rfl rfl (by k_ne) fun w₂ r => ?_
  replace hF := hF.rely r
  have hc : w₂.cell? ⟨g, 1, Option.none⟩ = some (.slice a2 n2 c2) := (hF.k.cell hg).trans k2
  refine ⟨.slice a2 n2 c2, w₂, by simp [go_sem, execOp, Act.eval, hc], ?_, ?_⟩
  · intro ev hev; simp [go_sem, execOp, Act.eval, hc] at hev; subst hev; exact evL_plain _ _ hgS hg
  clear hc r
  refine Gets.silent 60 ?_
  walk_nrm
  repeat w_go RO.rely
  u_call Try.func37 nm37 Try.f37 RO.rely hF
  refine Goes.stop (fun w₁ r₁ => ?_)
  replace hF := hF.rely r₁
  clear r₁
  refine growGets (n := N) (by have hh : n1 + n2 = N := hN; omega) fun w₃ v hR => ?_
  replace hF := hF.k.back hR
  clear hR
  refine Gets.silent 60 ?_
  walk_nrm
  repeat w_go RO.rely
  refine Goes.stop (fun w₁ r₁ => ?_)
  replace hF := hF.rely r₁
  clear r₁
  refine Gets.val w.heap.size rfl rfl (by k_ne) fun w₂ r => ?_
  replace hF := hF.rely r
  have hc : w₂.cell? ⟨g, 0, Option.none⟩ = some (.slice a1 n1 c1) := (hF.k.cell hg).trans k1
  refine ⟨.slice a1 n1 c1, w₂, by simp [go_sem, execOp, Act.eval, hc], ?_, ?_⟩
  · intro ev hev; simp [go_sem, execOp, Act.eval, hc] at hev; subst hev; exact evL_plain _ _ hgS hg
  clear hc r
  refine Gets.silent 20 ?_
  walk_nrm
  repeat w_go RO.rely
  refine Goes.stop (fun w₁ r₁ => ?_)
  replace hF := hF.rely r₁
  clear r₁
  refine Gets.append (.tmp 31) (.tmp 32) hF hS (h1.kept hF.k) (by simp only [List.length_nil]; omega) rfl rfl rfl (by k_ne) rfl rfl fun w₄ v' hR => ?_
  replace hF := hR
  clear hR
  refine Gets.silent 60 ?_
  walk_nrm
  repeat w_go RO.rely
  refine Goes.stop (fun w₁ r₁ => ?_)
  replace hF := hF.rely r₁
  clear r₁
  refine Gets.val w.heap.size rfl rfl (by k_ne) fun w₂ r => ?_
  replace hF := hF.rely r
  have hc : w₂.cell? ⟨g, 1, Option.none⟩ = some (.slice a2 n2 c2) := (hF.k.cell hg).trans k2
  refine ⟨.slice a2 n2 c2, w₂, by simp [go_sem, execOp, Act.eval, hc], ?_, ?_⟩
  · intro ev hev; simp [go_sem, execOp, Act.eval, hc] at hev; subst hev; exact evL_plain _ _ hgS hg
  clear hc r
  refine Gets.silent 20 ?_
  walk_nrm
  repeat w_go RO.rely
  refine Goes.stop (fun w₁ r₁ => ?_)
  replace hF := hF.rely r₁
  clear r₁
  refine Gets.append (.tmp 31) (.tmp 32) hF hS (h2.kept hF.k) (by simp [intsL]; omega) rfl rfl rfl (by k_ne) rfl rfl fun w₅ v'' hR => ?_
  replace hF := hR
  clear hR
  clear h1 h2
  refine Gets.silent 60 ?_
  walk_nrm
  repeat w_go RO.rely
  u_leave1 Try.func27 RO.rely hF
  exact Goes.stop (fun w₁ r₁ => hfin _ _ (hF.rely r₁))
end
end Go.Proofs.Ytpkiojchlficcaa.Crew

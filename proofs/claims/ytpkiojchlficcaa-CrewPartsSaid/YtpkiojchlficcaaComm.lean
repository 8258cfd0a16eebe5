/- A select of two cases in a machine of many goroutines: a worker's (places, the word to stop), the giver's (a place to give, the word to stop): all that may come of it. -/
import Derived.Conc.CrowdSel
set_option linter.unusedSimpArgs false
namespace Go.Proofs.Ytpkiojchlficcaa.Crew
open Go Go.Conc
section
variable {P : Program} {gs : Array Goroutine} {w : World} {sl : Option (Nat × Nat)} {i : Nat} {g g₂ : Goroutine} {Pl St s r s' r' : Nat} {pl sc : Bool} {z0 z1 : Value}
theorem cut_lt (w : World) (q : Question) (n : Nat) (hq : q = .select n ∨ ∃ what, q = .extern what n) (hn : 0 < n) : q.cut (w.tape w.drawn q) < n := by
  rcases hq with rfl | ⟨what, rfl⟩
  · exact Nat.mod_lt _ hn
  · simp only [Question.cut]; rw [if_neg (by omega)]; exact Nat.mod_lt _ hn
/-- A WORKER COMES TO ITS SELECT. -/
theorem sel_worker (hi : gs[i]? = some g) (h : stepG P (i == 0) g w = .comm g₂ #[rcase Pl z0, rcase St z1] true .select w #[])
    (hPl : w.heap[Pl]? = some (.chan 0 #[] pl s r false)) (hSt : w.heap[St]? = some (.chan 0 #[] sc s' r' false))
    (hp1 : partners (gs.setIfInBounds i ph) St true = [])
    (hp0 : partners (gs.setIfInBounds i ph) Pl true = [] ∨ ∃ j gj v zj c1, partners (gs.setIfInBounds i ph) Pl true = [(j, 0)] ∧ j ≠ i ∧ gs[j]? = some (parked gj #[scase Pl v zj, c1] .select)) :
    (pl = false ∧ sc = false ∧ partners (gs.setIfInBounds i ph) Pl true = [] ∧ runT P (crowd gs w sl) i = (.next (crowd (gs.setIfInBounds i (parked g₂ #[rcase Pl z0, rcase St z1] .select)) w sl), #[])) ∨
    (∃ j gj v zj c1 d, j ≠ i ∧ gs[j]? = some (parked gj #[scase Pl v zj, c1] .select) ∧
      runT P (crowd gs w sl) i = (.next (crowd ((gs.setIfInBounds j (gj.finishComm P #[scase Pl v zj, c1] .select 0 undef false)).setIfInBounds i (g₂.finishComm P #[rcase Pl z0, rcase St z1] .select 0 v true)) ((w.at d).setChan Pl 0 #[] pl (s + 1) (r + 1) false) sl),
        #[{ g := j, fn := gj.frame.fn, pos := gj.frame.place, act := .send Pl s }, { g := i, fn := g₂.frame.fn, pos := g₂.frame.place, act := .recv Pl r 0 },
          { g := j, fn := gj.frame.fn, pos := gj.frame.place, act := .sendDone Pl s }, { g := i, fn := g₂.frame.fn, pos := g₂.frame.place, act := .recvDone Pl r }])) ∨
    (pl = true ∧ ∃ d, runT P (crowd gs w sl) i = (.next (crowd (gs.setIfInBounds i (g₂.finishComm P #[rcase Pl z0, rcase St z1] .select 0 z0 false)) (w.at d) sl), #[{ g := i, fn := g₂.frame.fn, pos := g₂.frame.place, act := .recvClosed Pl }])) ∨
    (sc = true ∧ ∃ d, runT P (crowd gs w sl) i = (.next (crowd (gs.setIfInBounds i (g₂.finishComm P #[rcase Pl z0, rcase St z1] .select 1 z1 false)) (w.at d) sl), #[{ g := i, fn := g₂.frame.fn, pos := g₂.frame.place, act := .recvClosed St }])) := by
  have hrun := runT_crowd_comm (P := P) (sl := sl) hi h
  have hnil : MemOp.ofEvents i g.frame.fn g.frame.place #[] = #[] := by simp [MemOp.ofEvents]
  rw [hnil, Array.empty_append] at hrun
  rw [hrun]
  have w1 : ways w (gs.setIfInBounds i ph) (rcase St z1) = if sc then [.closed] else [] := by simp [ways, rcase, hSt, hp1]
  rcases hp0 with hp0 | ⟨j, gj, v, zj, c1, hp0, hij, hj⟩
  · have w0 : ways w (gs.setIfInBounds i ph) (rcase Pl z0) = if pl then [.closed] else [] := by simp [ways, rcase, hPl, hp0]
    cases pl <;> cases sc
    · left
      refine ⟨rfl, rfl, hp0, ?_⟩
      have := crowd_waits (P := P) (sl := sl) hi h (by
        intro cc hcc
        simp at hcc
        rcases hcc with rfl | rfl
        · exact ways_recv_none hPl hp0
        · exact ways_recv_none hSt hp1)
      rw [hrun, hnil] at this
      exact this
    · right; right; right
      refine ⟨rfl, w.drawn, ?_⟩
      simp only [rcase] at w0 w1 ⊢
      simp [communicate, w0, w1, choose, Sem.run, Question.forced, bind, Sem.bind, pure, crowd, hPl, hSt, World.at]
    · right; right; left
      refine ⟨rfl, w.drawn, ?_⟩
      simp only [rcase] at w0 w1 ⊢
      simp [communicate, w0, w1, choose, Sem.run, Question.forced, bind, Sem.bind, pure, crowd, hPl, hSt, World.at]
    · have hlt := cut_lt w (.select 2) 2 (.inl rfl) (by omega)
      rcases Nat.lt_or_ge ((Question.select 2).cut (w.tape w.drawn (.select 2))) 1 with h0 | h1
      · have e : (Question.select 2).cut (w.tape w.drawn (.select 2)) = 0 := by omega
        right; right; left
        refine ⟨rfl, w.drawn + 1, ?_⟩
        simp only [rcase] at w0 w1 ⊢
        simp [communicate, w0, w1, choose, Sem.run, Question.forced, bind, Sem.bind, pure, crowd, hPl, hSt, World.at, e]
      · have e : (Question.select 2).cut (w.tape w.drawn (.select 2)) = 1 := by omega
        right; right; right
        refine ⟨rfl, w.drawn + 1, ?_⟩
        simp only [rcase] at w0 w1 ⊢
        simp [communicate, w0, w1, choose, Sem.run, Question.forced, bind, Sem.bind, pure, crowd, hPl, hSt, World.at, e]
  · have hj' := stand_get (i := i) hij hj
    have hfp := finishPartner_at P (gs.setIfInBounds i ph) hj' (cs := #[scase Pl v zj, c1]) (sh := .select) rfl 0 undef
    have hgd : (gs.setIfInBounds i ph).getD j default = parked gj #[scase Pl v zj, c1] .select := by rw [Array.getD_eq_getD_getElem?, hj']; rfl
    have hov : offeredValue (gs.setIfInBounds i ph) j 0 = v := by simp [offeredValue, hj', parked, scase]
    have w0 : ways w (gs.setIfInBounds i ph) (rcase Pl z0) = [.partner j 0] := by simp [ways, rcase, hPl, hp0]
    cases sc
    · right; left
      refine ⟨j, gj, v, zj, c1, w.drawn, hij, hj, ?_⟩
      simp only [rcase] at w0 w1 ⊢
      simp [communicate, w0, w1, choose, Sem.run, Question.forced, bind, Sem.bind, pure, crowd, hPl, hSt, World.at, World.setChan, hfp, hgd, hov, set_stand2, finishComm_parked, scase, parked]
      rfl
    · have hlt := cut_lt w (.select 2) 2 (.inl rfl) (by omega)
      rcases Nat.lt_or_ge ((Question.select 2).cut (w.tape w.drawn (.select 2))) 1 with h0 | h1
      · have e : (Question.select 2).cut (w.tape w.drawn (.select 2)) = 0 := by omega
        right; left
        refine ⟨j, gj, v, zj, c1, w.drawn + 1, hij, hj, ?_⟩
        simp only [rcase] at w0 w1 ⊢
        simp [communicate, w0, w1, choose, Sem.run, Question.forced, bind, Sem.bind, pure, crowd, hPl, hSt, World.at, World.setChan, hfp, hgd, hov, set_stand2, finishComm_parked, scase, parked, e]
        rfl
      · have e : (Question.select 2).cut (w.tape w.drawn (.select 2)) = 1 := by omega
        right; right; right
        refine ⟨rfl, w.drawn + 1, ?_⟩
        simp only [rcase] at w0 w1 ⊢
        simp [communicate, w0, w1, choose, Sem.run, Question.forced, bind, Sem.bind, pure, crowd, hPl, hSt, World.at, e]
/-- THE GIVER COMES TO ITS SELECT. -/
theorem sel_giver {v z : Value} (hi : gs[i]? = some g) (h : stepG P (i == 0) g w = .comm g₂ #[scase Pl v z, rcase St z1] true .select w #[])
    (hPl : w.heap[Pl]? = some (.chan 0 #[] false s r false)) (hSt : w.heap[St]? = some (.chan 0 #[] sc s' r' false))
    (hp1 : partners (gs.setIfInBounds i ph) St true = [])
    (hall : ∀ j k, (j, k) ∈ partners (gs.setIfInBounds i ph) Pl false → k = 0 ∧ j ≠ i ∧ ∃ gj zj c1, gs[j]? = some (parked gj #[rcase Pl zj, c1] .select)) :
    (sc = false ∧ partners (gs.setIfInBounds i ph) Pl false = [] ∧ runT P (crowd gs w sl) i = (.next (crowd (gs.setIfInBounds i (parked g₂ #[scase Pl v z, rcase St z1] .select)) w sl), #[])) ∨
    (∃ j gj zj c1 d, j ≠ i ∧ gs[j]? = some (parked gj #[rcase Pl zj, c1] .select) ∧
      runT P (crowd gs w sl) i = (.next (crowd ((gs.setIfInBounds j (gj.finishComm P #[rcase Pl zj, c1] .select 0 v true)).setIfInBounds i (g₂.finishComm P #[scase Pl v z, rcase St z1] .select 0 undef false)) ((w.at d).setChan Pl 0 #[] false (s + 1) (r + 1) false) sl),
        #[{ g := i, fn := g₂.frame.fn, pos := g₂.frame.place, act := .send Pl s }, { g := j, fn := gj.frame.fn, pos := gj.frame.place, act := .recv Pl r 0 },
          { g := i, fn := g₂.frame.fn, pos := g₂.frame.place, act := .sendDone Pl s }, { g := j, fn := gj.frame.fn, pos := gj.frame.place, act := .recvDone Pl r }])) ∨
    (sc = true ∧ ∃ d, runT P (crowd gs w sl) i = (.next (crowd (gs.setIfInBounds i (g₂.finishComm P #[scase Pl v z, rcase St z1] .select 1 z1 false)) (w.at d) sl), #[{ g := i, fn := g₂.frame.fn, pos := g₂.frame.place, act := .recvClosed St }])) := by
  have hrun := runT_crowd_comm (P := P) (sl := sl) hi h
  have hnil : MemOp.ofEvents i g.frame.fn g.frame.place #[] = #[] := by simp [MemOp.ofEvents]
  rw [hnil, Array.empty_append] at hrun
  rw [hrun]
  have w1 : ways w (gs.setIfInBounds i ph) (rcase St z1) = if sc then [.closed] else [] := by simp [ways, rcase, hSt, hp1]
  generalize hps : partners (gs.setIfInBounds i ph) Pl false = ps at hall
  by_cases hne : ps = []
  · subst hne
    have w0 : ways w (gs.setIfInBounds i ph) (scase Pl v z) = [] := by simp [ways, scase, hPl, hps]
    cases sc
    · left
      refine ⟨rfl, rfl, ?_⟩
      have := crowd_waits (P := P) (sl := sl) hi h (by
        intro cc hcc
        simp at hcc
        rcases hcc with rfl | rfl
        · exact ways_send_none hPl (Nat.zero_le _) hps
        · exact ways_recv_none hSt hp1)
      rw [hrun, hnil] at this
      exact this
    · right; right
      refine ⟨rfl, w.drawn, ?_⟩
      simp only [rcase, scase] at w0 w1 ⊢
      simp [communicate, w0, w1, choose, Sem.run, Question.forced, bind, Sem.bind, pure, crowd, hPl, hSt, World.at]
  · have w0 : ways w (gs.setIfInBounds i ph) (scase Pl v z) = ps.map fun (h, k) => Way.partner h k := by
      simp only [ways, scase, hPl, hps]
      cases ps with
      | nil => exact absurd rfl hne
      | cons p ps => simp
    have hwne : (ps.map fun (h, k) => Way.partner h k).isEmpty = false := by cases ps with
      | nil => exact absurd rfl hne
      | cons p ps => rfl
    have hlen : 0 < ps.length := List.length_pos_iff.2 hne
    -- which partner, from whatever world
    have meets : ∀ w₀ : World, ∃ b d j, ps[b]? = some (j, 0) ∧ j ≠ i ∧ (∃ gj zj c1, gs[j]? = some (parked gj #[rcase Pl zj, c1] .select)) ∧
        ((ps.length = 1 ∧ b = 0 ∧ d = w₀.drawn) ∨ (¬ ps.length = 1 ∧ (Question.extern "which waiting goroutine is the partner" ps.length).cut (w₀.tape w₀.drawn (.extern "which waiting goroutine is the partner" ps.length)) = b ∧ d = w₀.drawn + 1)) := by
      intro w₀
      by_cases hf : ps.length = 1
      · obtain ⟨⟨j, k⟩, hjk⟩ : ∃ p, ps[0]? = some p := ⟨ps[0], List.getElem?_eq_getElem hlen⟩
        obtain ⟨rfl, hij, hj⟩ := hall j k (List.mem_of_getElem? hjk)
        exact ⟨0, w₀.drawn, j, hjk, hij, hj, .inl ⟨hf, rfl, rfl⟩⟩
      · have hlt := cut_lt w₀ (.extern "which waiting goroutine is the partner" ps.length) ps.length (.inr ⟨_, rfl⟩) hlen
        obtain ⟨⟨j, k⟩, hjk⟩ : ∃ p, ps[_]? = some p := ⟨ps[_], List.getElem?_eq_getElem hlt⟩
        obtain ⟨rfl, hij, hj⟩ := hall j k (List.mem_of_getElem? hjk)
        exact ⟨_, w₀.drawn + 1, j, hjk, hij, hj, .inr ⟨hf, rfl, rfl⟩⟩
    have fin : ∀ j gj zj c1, gs[j]? = some (parked gj #[rcase Pl zj, c1] .select) → j ≠ i →
        finishPartner P (gs.setIfInBounds i ph) j 0 v = (gs.setIfInBounds i ph).setIfInBounds j ((parked gj #[rcase Pl zj, c1] .select).finishComm P #[rcase Pl zj, c1] .select 0 v true) ∧ (gs.setIfInBounds i ph).getD j default = parked gj #[rcase Pl zj, c1] .select := by
      intro j gj zj c1 hj hij
      have hj' := stand_get (i := i) hij hj
      exact ⟨finishPartner_at P (gs.setIfInBounds i ph) hj' (cs := #[rcase Pl zj, c1]) (sh := .select) rfl 0 v, by rw [Array.getD_eq_getD_getElem?, hj']; rfl⟩
    cases sc
    · obtain ⟨b, d, j, hjk, hij, ⟨gj, zj, c1, hj⟩, hb⟩ := meets w
      obtain ⟨hfp, hgd⟩ := fin j gj zj c1 hj hij
      have hgm := getD_map_partner ps b (j, 0) hjk
      right; left
      refine ⟨j, gj, zj, c1, d, hij, hj, ?_⟩
      have hj' := stand_get (i := i) hij hj
      rcases hb with ⟨hf, rfl, rfl⟩ | ⟨hf, hb, rfl⟩
      · have e0 : ps[0]'hlen = (j, 0) := (List.getElem?_eq_some_iff.1 hjk).2
        simp only [rcase, scase] at w0 w1 hfp hgd hj hj' ⊢
        simp [communicate, w0, w1, hwne, hf, choose, Sem.run, Question.forced, bind, Sem.bind, pure, crowd, hPl, hSt, World.at, World.setChan, hgm, hjk, e0, hfp, hgd, hj', set_stand2, parked]
        rfl
      · simp only [rcase, scase] at w0 w1 hfp hgd hj hj' ⊢
        simp [communicate, w0, w1, hwne, hf, hb, choose, Sem.run, Question.forced, bind, Sem.bind, pure, crowd, hPl, hSt, World.at, World.setChan, hgm, hjk, hfp, hgd, hj', set_stand2, parked]
        rfl
    · have hlt := cut_lt w (.select 2) 2 (.inl rfl) (by omega)
      rcases Nat.lt_or_ge ((Question.select 2).cut (w.tape w.drawn (.select 2))) 1 with h0 | h1
      · have e : (Question.select 2).cut (w.tape w.drawn (.select 2)) = 0 := by omega
        obtain ⟨b, d, j, hjk, hij, ⟨gj, zj, c1, hj⟩, hb⟩ := meets (w.at (w.drawn + 1))
        obtain ⟨hfp, hgd⟩ := fin j gj zj c1 hj hij
        have hgm := getD_map_partner ps b (j, 0) hjk
        right; left
        refine ⟨j, gj, zj, c1, d, hij, hj, ?_⟩
        have hj' := stand_get (i := i) hij hj
        rcases hb with ⟨hf, rfl, rfl⟩ | ⟨hf, hb, rfl⟩
        · have e0 : ps[0]'hlen = (j, 0) := (List.getElem?_eq_some_iff.1 hjk).2
          simp only [rcase, scase] at w0 w1 hfp hgd hj hj' ⊢
          simp [communicate, w0, w1, hwne, hf, e, choose, Sem.run, Question.forced, bind, Sem.bind, pure, crowd, hPl, hSt, World.at, World.setChan, hgm, hjk, e0, hfp, hgd, hj', set_stand2, parked]
          rfl
        · simp only [World.at] at hb
          simp only [rcase, scase] at w0 w1 hfp hgd hj hj' ⊢
          simp [communicate, w0, w1, hwne, hf, hb, e, choose, Sem.run, Question.forced, bind, Sem.bind, pure, crowd, hPl, hSt, World.at, World.setChan, hgm, hjk, hfp, hgd, hj', set_stand2, parked]
          rfl
      · have e : (Question.select 2).cut (w.tape w.drawn (.select 2)) = 1 := by omega
        right; right
        refine ⟨rfl, w.drawn + 1, ?_⟩
        simp only [rcase, scase] at w0 w1 ⊢
        simp [communicate, w0, w1, hwne, choose, Sem.run, Question.forced, bind, Sem.bind, pure, crowd, hPl, hSt, World.at, e]
end
end Go.Proofs.Ytpkiojchlficcaa.Crew

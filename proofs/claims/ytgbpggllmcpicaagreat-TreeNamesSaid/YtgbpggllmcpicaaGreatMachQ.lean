/- MACHINE X, PART Q: functions, rounds, ranges over functions, operations that call. -/
import Derived.Test.YtgbpggllmcpicaaGreatMachP
import Derived.RangeFuncNested
namespace Go.Xm
open Go Go.Cr Go.RowKit

section
variable {P : Program} {N : Ns} {μ : Mu} {H : Tr Bk} {nx n : Nat} {w : World} {t : Tr V}

theorem tupX_rel : ∀ {vs : List V} {us : List Value}, V.rels μ vs us → (tupX vs).rel μ (if h : us.toArray.size = 1 then us.toArray[0] else .tuple us.toArray)
  | [], us, h => by simp only [V.rels] at h; subst h; exact ⟨[], rfl, rfl⟩
  | [v], us, h => by
    obtain ⟨u, r, rfl, h1, h2⟩ := h
    simp only [V.rels] at h2; subst h2
    simpa [tupX] using h1
  | v :: v' :: l, us, h => by
    have hl := rels_length _ _ h
    rw [dif_neg (by simp [hl])]
    exact ⟨us, rfl, h⟩

/-! ### A function -/
theorem funcX_sound [Tab P] {code : CodeX} (hcode : CodeOK P code) {k : FuncId} {fn : Func} (hk : P.funcs[k]? = some fn) {args : List V} {us : List Value} {v : V} {H' : Tr Bk} {nx' : Nat}
    (h : funcX P code fn args H nx = some (v, H', nx')) (hi : Inv N μ H nx w) (ha : V.rels μ args us) : (∃ c, fn.body = some c) ∧ CallsIn Fence.wide 0 P k us.toArray w (Ret N μ w v H' nx') := by
  unfold funcX at h
  split at h
  · rename_i c hb hle
    refine ⟨⟨c, hb⟩, ?_⟩
    split at h
    · rename_i e st hrun
      split at h
      · rename_i H1 he hm
        split at h
        · rename_i vs hret
          cases h
          refine callsIn_of_wp_marks hk hb trivial ?_ rfl
          refine wpIn_mono (hcode fn.ntmps none c _ e st hrun N μ w { tmps := us.toArray ++ Array.replicate (fn.ntmps - us.toArray.size) undef, defers := [] } none ⟨Slots.enter ha (Nat.ble_eq.mp hle), rfl, hi⟩ rfl) ?_
          rintro e' a' w' ⟨rfl, μ', hx, hst, hkp⟩
          have key : LeavesInM Fence.wide 0 P fn a'.tmps (Ret N μ w (tupX vs) H' st.nx) a'.defers .returning w' := by
            refine marks_leave st.df a'.defers st.H H' w' hst.dfs hst.inv hm fun w'' hi'' hk'' => ?_
            obtain ⟨us', g1, g2⟩ := retX_sound hst.slots hi'' _ vs hret
            refine ⟨(if h : us'.toArray.size = 1 then us'.toArray[0] else .tuple us'.toArray), ?_, _, rfl, μ', hx, hi'', hkp.trans hk'', tupX_rel g2⟩
            rw [results_rv, show fn.results = fn.results.toList.toArray by simp]
            simp only [Sem.run_bind, List.mapM_toArray, Sem.run_map, g1, Result.andThen, Sem.run_pure]
          cases e' <;> first | exact key | cases he
        · cases h
      · cases h
    · cases h
  · cases h

/-! ### A round -/
theorem callsIn_fr {r : Option Nat} {k : FuncId} {args : Array Value} {R : Ending → World → Prop} (h : CallsIn Fence.wide 0 P k args w R) : CallsIn (Fr r) 0 P k args w R := h
theorem roundIn_fr {r : Option Nat} {l : Nat} {k : FuncId} {args : Array Value} {x y : Code} {R : Ending → World → Prop} (h : RoundIn Fence.wide 0 P l k args x y w R) : RoundIn (Fr r) 0 P l k args x y w R := h

/-- The record of a loop is laid anew. -/
theorem Inv.loop (h : Inv N μ H nx w) {b : Nat} {l : Lp} {p : Pl} {r : Loop} (hb : H.get b = some (.loop l)) (hp : μ b = some p) (hr : Bk.rel μ p (.loop l) (.loop r)) (st : LoopState) (pe : Option Code) :
    Inv N μ (H.put b (some (.loop { l with st := st, pend := pe }))) nx (w.putObj p.r (.loop { r with state := st, pending := pe })) ∧ Keep N w (w.putObj p.r (.loop { r with state := st, pending := pe })) := by
  obtain ⟨p', o, g1, g2, g3⟩ := h.blk b _ hb
  rw [hp] at g1; cases g1
  have hlt : p.r < w.heap.size := (Array.getElem?_eq_some_iff.1 g2).1
  obtain ⟨r', e0, e1, e2, e3, e4, e5, e6, q, e7, e8⟩ := hr
  cases e0
  exact h.write hb rfl hp (bk' := .loop { l with st := st, pend := pe }) (o := .loop { r with state := st, pending := pe }) ⟨_, rfl, rfl, rfl, e3, e4, e5, e6, q, e7, e8⟩
    (World.putObj_heap_same hlt) (fun r hr => World.putObj_heap_other hr) World.putObj_size rfl rfl rfl
theorem Inv.getLoop (h : Inv N μ H nx w) {b : Nat} {l : Lp} (hb : H.get b = some (.loop l)) : ∃ p r, μ b = some p ∧ w.heap[p.r]? = some (.loop r) ∧ Bk.rel μ p (.loop l) (.loop r) ∧
    r.state = l.st ∧ r.pending = l.pend ∧ Slots μ l.n l.t r.tmps ∧ r.params = l.params ∧ r.assign = l.assign ∧ r.body = l.body := by
  obtain ⟨p, o, g1, g2, g3⟩ := h.blk b _ hb
  obtain ⟨r, e0, e1⟩ := g3
  subst e0
  exact ⟨p, r, g1, g2, ⟨r, rfl, e1⟩, e1.1, e1.2.1, e1.2.2.1, e1.2.2.2.1, e1.2.2.2.2.1, e1.2.2.2.2.2.1⟩
theorem zip_arr (ps : Array Tmp) (us : List Value) (tmps : Array Value) : (ps.zip us.toArray).foldl (fun tmps (x : Tmp × Value) => tmps.setIfInBounds x.1 x.2) tmps = (ps.toList.zip us).foldl (fun tmps x => tmps.setIfInBounds x.1 x.2) tmps := by
  rw [← Array.foldl_toList]; simp

theorem roundX_sound {code : CodeX} (hcode : CodeOK P code) {b : Nat} {p : Pl} {args : List V} {us : List Value} {v : V} {H' : Tr Bk} {nx' : Nat}
    (h : roundX code b args H nx = some (v, H', nx')) (hi : Inv N μ H nx w) (hp : μ b = some p) (ha : V.rels μ args us) :
    ∃ nxt, (Instr.yield p.r us.toArray).run P w = .ok nxt w ∧ NextOK P w (Ret N μ w v H' nx') nxt := by
  unfold roundX at h
  split at h
  · rename_i l hb
    obtain ⟨p0, r, h1, h2, h3, h4, h5, h6, h7, h8, h9⟩ := hi.getLoop hb
    rw [hp] at h1; cases h1
    split at h
    · rename_i t hput
      split at h
      · rename_i st1 hr1
        split at h
        · rename_i r1 hb1
          split at h
          · rename_i hst1
            split at h
            · rename_i e st2 hr2
              split at h
              · rename_i r2 j hb2 hj
                cases h
                obtain ⟨hlen, hsl⟩ := putsX_slots _ _ _ _ _ _ h6 ha hput
                refine ⟨_, run_yield h2 (by simp [h7, hlen]), ?_⟩
                show RoundIn Fence.wide 0 P p.r r.fn _ r.assign r.body w _
                rw [h8, h9, h7]
                refine roundIn_of_wpIn trivial ?_
                have hz := zip_arr l.params us r.tmps
                have hact : ({ tmps := (l.params.zip us.toArray).foldl (fun tmps (x : Tmp × Value) => tmps.setIfInBounds x.1 x.2) r.tmps, defers := [] } : Act) = { tmps := (l.params.toList.zip us).foldl (fun tmps x => tmps.setIfInBounds x.1 x.2) r.tmps, defers := [] } := by rw [hz]
                refine (congrArg (fun a => Code.wpIn _ _ _ _ _ a _) hact).mpr ?_
                refine wpIn_mono (hcode l.n (some b) l.assign _ _ st1 hr1 N μ w { tmps := (l.params.toList.zip us).foldl (fun tmps x => tmps.setIfInBounds x.1 x.2) r.tmps, defers := [] } (some p.r) ⟨hsl, rfl, hi⟩ ⟨p, hp, rfl⟩) ?_
                rintro e1 a1 w1 ⟨rfl, μ1, hx1, hs1, hk1⟩
                obtain ⟨p1, q1, g1, g2, g3, g4, _⟩ := hs1.inv.getLoop hb1
                rw [hx1 _ _ hp] at g1; cases g1
                refine ⟨_, run_beginRound g2 (g4.trans hst1), ?_⟩
                have hbusy := hs1.inv.loop hb1 (hx1 _ _ hp) g3 .busy r1.pend
                have hpe : q1.pending = r1.pend := by obtain ⟨_, e0, _, e2, _⟩ := g3; cases e0; exact e2
                rw [← hpe] at hbusy
                obtain ⟨hi2, hk2⟩ := hbusy
                have e9 : ({ r1 with st := .busy, pend := q1.pending } : Lp) = { r1 with st := .busy } := by rw [hpe]
                rw [e9] at hi2
                refine wpIn_mono (hcode l.n (some b) l.body _ e st2 hr2 N μ1 _ a1 (some p.r) ⟨hs1.slots, hs1.dfs, hi2⟩ ⟨p, hx1 _ _ hp, rfl⟩) ?_
                rintro e3 a2 w2 ⟨rfl, μ2, hx2, hs2, hk3⟩
                obtain ⟨p2, q2, f1, f2, f3, _⟩ := hs2.inv.getLoop hb2
                rw [hx2 _ _ (hx1 _ _ hp)] at f1; cases f1
                have fin : ∃ v w', (Instr.endRound p.r j).run P w2 = .ok v w' ∧ Ret N μ w (.val (.bool j.isNone)) (st2.H.put b (some (.loop { r2 with st := if j.isNone then .ready else .done, pend := j }))) st2.nx (.returned v) w' := by
                  obtain ⟨hi4, hk4⟩ := hs2.inv.loop hb2 (hx2 _ _ (hx1 _ _ hp)) f3 (if j.isNone then .ready else .done) j
                  exact ⟨_, _, run_endRound j f2, _, rfl, μ2, hx1.trans hx2, hi4, hk1.trans (hk2.trans (hk3.trans hk4)), rfl⟩
                cases e3 <;> simp only [jumpOf, Option.some.injEq, reduceCtorEq] at hj <;> subst hj <;> exact fin
              · cases h
            · cases h
          · cases h
        · cases h
      · cases h
    · cases h
  · cases h
end
end Go.Xm

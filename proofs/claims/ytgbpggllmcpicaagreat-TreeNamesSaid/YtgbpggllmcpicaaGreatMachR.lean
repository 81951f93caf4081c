/- MACHINE X, PART R: operations that call; ranges over functions; every piece of code. -/
import Derived.Test.YtgbpggllmcpicaaGreatMachQ
import Derived.Sort.LoopGhostIn
namespace Go.Xm
open Go Go.Cr Go.RowKit

section
variable {P : Program} {N : Ns} {μ : Mu} {H : Tr Bk} {nx n : Nat} {w : World} {t : Tr V}

theorem callOp_ok {call : CallX} (hc : CallOK P call) {r : Option Nat} {f : Option V} {args : Option (List V)} {o : Oper} {a : Act} {out : Out} {uf : Value} {us : List Value}
    (hd : ∀ c, o.op ≠ .defer c) (hrun : (execOp a.eval o).run P w = ((Deferred.ofValue uf us.toArray).run P w).andThen fun d w => (invoke d.target d.args).run P w)
    (hf : ∀ v, f = some v → v.rel μ uf) (ha : ∀ vs, args = some vs → V.rels μ vs us) (hi : Inv N μ H nx w) (hs : callOp call f args H nx = some out) {K : Act → World → Prop} {Q : Exit → Act → World → Prop} (hK : Then N μ w o a K out) :
    o.wpIn (Fr r) 0 P a w K Q := by
  unfold callOp at hs
  split at hs
  · rename_i fv vs
    split at hs
    · rename_i v H' nx' hcall
      cases hs
      obtain ⟨d, nxt, h1, h2, h3, _⟩ := hc fv vs H nx v H' nx' hcall N μ w uf us hi (hf _ rfl) (ha _ rfl)
      refine ⟨fun _ _ => trivial, ?_⟩
      rw [Oper.semAt_eq _ _ _ hd, hrun, h1]
      simp only [Result.andThen, h2]
      cases nxt with
      | enter k as =>
        refine ⟨fun h => (by cases h), callsIn_fr (CallsIn.mono h3 ?_)⟩
        rintro e w' ⟨u, rfl, μ', g1, g2, g3, g4⟩
        exact hK u w' μ' g1 g2 g3 g4
      | round l k tmps x y =>
        refine ⟨fun h => (by cases h), roundIn_fr (RoundIn.mono h3 ?_)⟩
        rintro e w' ⟨u, rfl, μ', g1, g2, g3, g4⟩
        exact hK u w' μ' g1 g2 g3 g4
      | _ => exact h3.elim
    · cases hs
  · cases hs

theorem stepC_ok [Tab P] {call : CallX} (hc : CallOK P call) (r : Option Nat) : StepOK P (Fr r) (stepC P call) := by
  intro ev a N μ H nx w o out hev hi hs K Q hK
  have plain : (∀ c, o.op ≠ .defer c) → opX P ev H nx o = some out → o.wpIn (Fr r) 0 P a w K Q := fun hd h => Does.then rfl hd (opX_sound hev (fun _ => rfl) hi h) hK
  unfold stepC at hs
  split at hs
  · rename_i c hop
    have hd : ∀ c, o.op ≠ .defer c := fun c' e => by rw [hop] at e; cases e
    split at hs
    · rename_i f hcal
      refine callOp_ok hc (uf := a.eval f) (us := c.args.toList.map a.eval) hd ?_ (fun v hv => hev f v hv) (fun vs hv => evalL_rel hev _ _ hv) hi hs hK
      simp only [execOp, hop, resolve, hcal, Sem.run_bind]
      rw [show (List.map a.eval c.args.toList).toArray = c.args.map a.eval by rw [← Array.toList_map, Array.toArray_toList]]
    · exact plain hd hs
    · rename_i x m hcal
      refine callOp_ok hc (uf := .func (.method m) #[] #[]) (us := (x :: c.args.toList).map a.eval) hd ?_ (fun v hv => by cases hv; exact ⟨[], [], rfl, rfl, rfl⟩) (fun vs hv => evalL_rel hev _ _ hv) hi hs hK
      have e : (#[a.eval x] ++ Array.map a.eval c.args) = (a.eval x :: List.map a.eval c.args.toList).toArray := by apply Array.ext'; simp
      simp [execOp, hop, resolve, hcal, Sem.run_bind, Deferred.ofValue, Sem.run_pure, Result.andThen, e]
  · cases hs
  · rename_i hnc hnd
    exact plain (fun c e => hnd c e) hs

theorem rangeGo_inv {ih : Ex} {ro : Option Nat} {f : Option V} {ps : Array Tmp} {assign body : Code} {t : Tr V} {d : Nat} {df : List Nat} {H : Tr Bk} {nx : Nat} {e : Exit} {st' : St} (h : rangeGo ih n ro f ps assign body t d df H nx = some (e, st')) :
    ∃ k a1 a2, f = some (.fn (.func k) a1 a2) ∧ ∃ v H3 nx3 l, ih.call (.fn (.func k) a1 a2) [.yield nx] (H.put nx (some (.loop ⟨.ready, none, t, n, ps, assign, body, d⟩))) (nx + 1) = some (v, H3, nx3) ∧
        H3.get nx = some (.loop l) ∧ l.st ≠ .busy ∧
        ((l.pend = none ∧ e = .normal ∧ st' = ⟨t, df, H3.put nx (some (.loop { l with st := .exhausted })), nx3⟩) ∨
         (∃ c, l.pend = some c ∧ ih.code n ro c ⟨t, df, H3.put nx (some (.loop { l with st := .exhausted })), nx3⟩ = some (e, st'))) := by
  unfold rangeGo at h
  split at h
  · rename_i k a1 a2
    refine ⟨k, a1, a2, rfl, ?_⟩
    split at h
    · rename_i v H3 nx3 hc
      split at h
      · rename_i l hl
        refine ⟨v, H3, nx3, l, hc, hl, ?_⟩
        split at h
        · cases h
        · rename_i hb
          refine ⟨hb, ?_⟩
          split at h
          · rename_i hp; cases h; exact .inl ⟨hp, rfl, rfl⟩
          · rename_i c hp; exact .inr ⟨c, hp, h⟩
      · cases h
    · cases h
  · cases h
/-! ### A range over a function -/
theorem rangeX_sound {ih : Ex} (hc : CallOK P ih.call) (hcode : CodeOK P ih.code) {ro : Option Nat} {r : Option Nat} {f : Option V} {ps : Array Tmp} {assign body : Code} {st st' : St} {e : Exit} {a : Act} {g : Operand}
    (h : rangeX ih n ro f ps assign body st = some (e, st')) (hf : ∀ v, f = some v → v.rel μ (a.eval g)) (hst : StR N μ n st a w) (hro : Ro μ ro r) :
    (Code.rangeFunc g ps assign body).wpIn (Fr r) 0 P (fun e' a' w' => e' = e ∧ ∃ μ', Ext μ μ' ∧ StR N μ' n st' a' w' ∧ Keep N w w') a w := by
  refine wpIn_rangeFunc fun fn _ => ?_
  -- what is alike at an outermost loop and at an inner one
  have main : ∀ (d : Nat) (df : List Nat) (H : Tr Bk) (nx : Nat) (μ1 : Mu) (w1 : World) (pd : Pl) (mark : List Deferred),
      (∃ k a1 a2, f = some (.fn (.func k) a1 a2) ∧ ∃ v H3 nx3 l, ih.call (.fn (.func k) a1 a2) [.yield nx] (H.put nx (some (.loop ⟨.ready, none, st.t, n, ps, assign, body, d⟩))) (nx + 1) = some (v, H3, nx3) ∧
        H3.get nx = some (.loop l) ∧ l.st ≠ .busy ∧
        ((l.pend = none ∧ e = .normal ∧ st' = ⟨st.t, df, H3.put nx (some (.loop { l with st := .exhausted })), nx3⟩) ∨
         (∃ c, l.pend = some c ∧ ih.code n ro c ⟨st.t, df, H3.put nx (some (.loop { l with st := .exhausted })), nx3⟩ = some (e, st')))) →
      Ext μ μ1 → Inv N μ1 H nx w1 → Keep N w w1 → μ1 d = some pd → Dfs μ1 df (mark ++ a.defers) →
      ∃ (dd : Deferred) (w₁' : World) (f' : FuncId) (args : Array Value) (w₂ : World),
        (resolve a.eval (rangeCall g w1.heap.size) 0).run P (w1.alloc (.loop { state := .ready, pending := none, fn, tmps := a.tmps, params := ps, assign, body, defers := pd.r })) = .ok dd w₁' ∧
        (∀ f', Target.leads P w₁' dd.target dd.args = some f' → (Fr r).fn f') ∧ (invoke dd.target dd.args).run P w₁' = .ok (.enter f' args) w₂ ∧ ((Fr r).depth.isSome = true → 1 ≤ 0) ∧
        CallsIn (Fr r) (0 - 1) P f' args w₂ (rangePost (Fr r) 0 P w1.heap.size (fun e' a' w' => e' = e ∧ ∃ μ', Ext μ μ' ∧ StR N μ' n st' a' w' ∧ Keep N w w') { a with defers := mark ++ a.defers }) := by
    rintro d df H nx μ1 w1 pd mark ⟨k, a1, a2, rfl, v, H3, nx3, l, hcall, hl, hbusy, hpend⟩ hx hi hk hd hdf
    obtain ⟨μ2, ⟨hx2, _⟩, hn, hi2, hk2⟩ := hi.alloc (.loop ⟨.ready, none, st.t, n, ps, assign, body, d⟩) (.loop { state := .ready, pending := none, fn, tmps := a.tmps, params := ps, assign, body, defers := pd.r }) 0 0
      (fun μ' h1 h2 => ⟨_, rfl, rfl, rfl, (hst.slots.ext hx).ext h1, rfl, rfl, rfl, pd, h1 _ _ hd, rfl⟩)
    obtain ⟨dd, nxt, h1, h2, h3, h4⟩ := hc _ _ _ _ v H3 nx3 hcall N μ2 _ (a.eval g) [.func (.yield w1.heap.size) #[] #[]] hi2 (V.rel_ext (hx.trans hx2) _ _ (hf _ rfl)) ⟨_, [], rfl, ⟨_, hn, rfl⟩, rfl⟩
    obtain ⟨j, as, rfl⟩ := h4 k a1 a2 rfl
    refine ⟨dd, _, j, as, _, ?_, fun _ _ => trivial, h2, fun h => (by cases h), callsIn_fr (CallsIn.mono h3 ?_)⟩
    · have hy : a.eval (Operand.const (Value.func (Fn.yield w1.heap.size) #[] #[])) = Value.func (Fn.yield w1.heap.size) #[] #[] := rfl
      simp only [resolve]
      simpa [hy] using h1
    · rintro e' w' ⟨u, rfl, μ3, hx3, hi3, hk3, hv⟩
      obtain ⟨p, q, g1, g2, g3, g4, g5, _⟩ := hi3.getLoop hl
      rw [hx3 _ _ hn] at g1; cases g1
      refine ⟨_, _, run_endLoop g2 (by rw [g4]; exact hbusy), ?_⟩
      have hend := hi3.loop hl (hx3 _ _ hn) g3 .exhausted q.pending
      have e9 : ({ l with st := .exhausted, pend := q.pending } : Lp) = { l with st := .exhausted } := by rw [g5]
      rw [e9] at hend
      obtain ⟨hi4, hk4⟩ := hend
      have hst4 : StR N μ3 n ⟨st.t, df, H3.put nx (some (.loop { l with st := .exhausted })), nx3⟩ { a with defers := mark ++ a.defers } (w'.putObj w1.heap.size (.loop { q with state := .exhausted, pending := q.pending })) :=
        ⟨((hst.slots.ext hx).ext hx2).ext hx3, Dfs.ext (hx2.trans hx3) _ _ hdf, hi4⟩
      have hkk := ((hk.trans hk2).trans hk3).trans hk4
      have hxx := (hx.trans hx2).trans hx3
      rcases hpend with ⟨hp, rfl, rfl⟩ | ⟨c, hp, hrun⟩
      · rw [g5, hp]
        rw [g5, hp] at hst4 hkk
        exact ⟨rfl, μ3, hxx, hst4, hkk⟩
      · have hro' : Ro μ3 ro r := by
          cases ro with
          | none => exact hro
          | some b => obtain ⟨p, e1, e2⟩ := hro; exact ⟨p, hxx _ _ e1, e2⟩
        rw [g5, hp]
        rw [g5, hp] at hst4 hkk
        rw [hp] at hrun
        have := hcode n ro c _ e st' hrun N μ3 _ _ r hst4 hro'
        refine wpIn_mono this ?_
        rintro e5 a5 w5 ⟨rfl, μ5, f1, f2, f3⟩
        exact ⟨rfl, μ5, hxx.trans f1, f2, hkk.trans f3⟩
  unfold rangeX at h
  split at h
  · obtain rfl : r = none := hro
    obtain ⟨μ1, ⟨hx1, _⟩, hn1, hi1, hk1⟩ := hst.inv.alloc .defd (.deferred (some [])) 0 0 (fun _ _ _ => rfl)
    obtain ⟨dd, w₁', f', args, w₂, g1, g2, g3, g4, g5⟩ := main st.nx (st.nx :: st.df) _ (st.nx + 1) μ1 _ _ [{ target := .collected w.heap.size, args := #[] }] (rangeGo_inv h) hx1 hi1 hk1 hn1 ⟨_, a.defers, rfl, hn1, Dfs.ext hx1 _ _ hst.dfs⟩
    have hsz : ({ w with heap := w.heap.push (.deferred (some [])) } : World).heap.size = w.heap.size + 1 := by simp
    rw [hsz] at g1 g5
    exact ⟨_, _, _, dd, w₁', f', args, w₂, run_enterLoop_outer fn a.tmps ps assign body, g1, g2, g3, g4, g5⟩
  · rename_i b
    split at h
    · rename_i l hl
      obtain ⟨pb, hpb, rfl⟩ := hro
      obtain ⟨p, q, e1, e2, e3, _⟩ := hst.inv.getLoop hl
      rw [hpb] at e1; cases e1
      obtain ⟨q', e4, _, _, _, _, _, _, pd, e5, e6⟩ := e3
      cases e4
      obtain ⟨dd, w₁', f', args, w₂, g1, g2, g3, g4, g5⟩ := main l.d st.df st.H st.nx μ w pd [] (rangeGo_inv h) (Ext.refl μ) hst.inv (Keep.refl N w) e5 hst.dfs
      refine ⟨_, _, _, dd, w₁', f', args, w₂, run_enterLoop_inner e2 fn a.tmps ps assign body, ?_, g2, g3, g4, g5⟩
      rw [e6]; exact g1
    · cases h
end
end Go.Xm

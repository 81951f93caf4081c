/- MACHINE X, PART S: every call and every piece of code. -/
import Derived.Test.YtgbpggllmcpicaaGreatMachR
namespace Go.Xm
open Go Go.Cr Go.RowKit

section
variable {P : Program} {N : Ns} {μ : Mu} {H : Tr Bk} {nx n : Nat} {w : World} {t : Tr V}

theorem run_callFunc' {k : FuncId} {fn : Func} (h1 : P.funcs[k]? = some fn) (h2 : (fn.name == "runtime.NumGoroutine") = false) (h3 : ∃ c, fn.body = some c) (as : Array Value) : (callFunc k as).run P w = .ok (.enter k as) w := by
  obtain ⟨c, h3⟩ := h3
  unfold callFunc
  simp only [Sem.run_bind, run_program, Result.andThen, h1, h2, h3]
  rfl
theorem enterX_ok [Tab P] [FTab P] {ih : Ex} (hcode : CodeOK P ih.code) {k : FuncId} {args : List V} {us : List Value} {v : V} {H' : Tr Bk} {nx' : Nat} (h : enterX P ih k args H nx = some (v, H', nx')) (hi : Inv N μ H nx w) (ha : V.rels μ args us) :
    (∀ as, (callFunc k as).run P w = .ok (.enter k as) w) ∧ CallsIn Fence.wide 0 P k us.toArray w (Ret N μ w v H' nx') := by
  unfold enterX at h
  split at h
  · rename_i fn hfn
    obtain ⟨h1, h2⟩ := FTab.ok k fn hfn
    obtain ⟨h3, h4⟩ := funcX_sound hcode h1 h hi ha
    exact ⟨fun as => run_callFunc' h1 h2 h3 as, h4⟩
  · cases h
theorem plainStep_ok [Tab P] [FTab P] [MTab P] {ih : Ex} (hcode : CodeOK P ih.code) : CallOK P (plainStep P ih) := by
  intro f args H nx v H' nx' h N μ w uf us hi hf ha
  unfold plainStep at h
  split at h
  · rename_i k first cap
    obtain ⟨cs, ds, rfl, h1, h2⟩ := hf
    obtain ⟨g1, g2⟩ := enterX_ok hcode h hi (rels_append _ _ _ _ (rels_append _ _ _ _ h1 ha) h2)
    refine ⟨_, _, rfl, g1 _, ?_, fun _ _ _ _ => ⟨_, _, rfl⟩⟩
    have : (cs.toArray ++ us.toArray ++ ds.toArray) = (cs ++ us ++ ds).toArray := by simp
    rw [this]; exact g2
  · rename_i m first
    obtain ⟨cs, ds, rfl, h1, h2⟩ := hf
    simp only [V.rels] at h2
    subst h2
    have hall := rels_append _ _ _ _ h1 ha
    split at h
    · rename_i t v l hfa
      rw [hfa] at hall
      obtain ⟨u, r, hcu, ⟨v', rfl, hv⟩, hr⟩ := hall
      split at h
      · rename_i k hk
        obtain ⟨g1, g2⟩ := enterX_ok hcode h hi (us := v' :: r) ⟨v', r, rfl, hv, hr⟩
        refine ⟨_, .enter k (v' :: r).toArray, rfl, ?_, g2, fun _ _ _ e => by cases e⟩
        have hm := MTab.ok t m k hk v' w
        have e0 : cs.toArray ++ us.toArray = (Value.iface t v' :: r).toArray := by simp [hcu]
        have e : (#[v'] ++ ((Value.iface t v' :: r).toArray).extract 1 ((Value.iface t v' :: r).toArray).size) = (v' :: r).toArray := by apply Array.ext'; simp
        simp only [e0]
        simp [invoke, callMethod, Sem.run_bind, run_program, Result.andThen, hm, g1]
      · cases h
    · cases h
  · rename_i b
    obtain ⟨p, hp, rfl⟩ := hf
    obtain ⟨nxt, h1, h2⟩ := roundX_sound hcode h hi hp ha
    refine ⟨_, nxt, rfl, ?_, h2, fun _ _ _ e => by cases e⟩
    simpa [invoke] using h1
  · cases h
theorem callStep_ok [Tab P] [FTab P] [MTab P] {orc : CallX} (ho : CallOK P orc) {ih : Ex} (hcode : CodeOK P ih.code) : CallOK P (callStep P orc ih) := by
  intro f args H nx v H' nx' h N μ w uf us hi hf ha
  unfold callStep at h
  split at h
  · rename_i r hr
    cases h
    exact ho _ _ _ _ _ _ _ hr N μ w uf us hi hf ha
  · exact plainStep_ok hcode _ _ _ _ _ _ _ h N μ w uf us hi hf ha

theorem StR.drew {st : St} {a : Act} (h : StR N μ n st a w) : StR N μ n st a { w with drawn := w.drawn + 1 } := ⟨h.slots, h.dfs, h.inv.same rfl⟩

/-- Every piece of code, a loop apart. -/
theorem codeStep_ok [Tab P] {draw : DrawX} (hm : P.follows .mixedOrders = true) (hd : DrawOK P draw) {ih : Ex} (hc : CallOK P ih.call) (hcode : CodeOK P ih.code)
    {ro : Option Nat} {c : Code} (hnl : ∀ x, c ≠ .loop x) {st st' : St} {e : Exit} (h : codeStep P draw ih n ro c st = some (e, st')) {a : Act} {r : Option Nat} (hst : StR N μ n st a w) (hro : Ro μ ro r) :
    c.wpIn (Fr r) 0 P (fun e' a' w' => e' = e ∧ ∃ μ', Ext μ μ' ∧ StR N μ' n st' a' w' ∧ Keep N w w') a w := by
  have stay : ∀ e0, some (e0, st) = some (e, st') → e0 = e ∧ ∃ μ', Ext μ μ' ∧ StR N μ' n st' a w ∧ Keep N w w := fun e0 h => by
    cases h; exact ⟨rfl, μ, Ext.refl μ, hst, Keep.refl N w⟩
  have hro' : ∀ μ', Ext μ μ' → Ro μ' ro r := fun μ' hx => by
    cases ro with
    | none => exact hro
    | some b => obtain ⟨p, e1, e2⟩ := hro; exact ⟨p, hx _ _ e1, e2⟩
  unfold codeStep at h
  split at h
  · exact wpIn_skip (stay _ h)
  · exact wpIn_ret (stay _ h)
  · exact wpIn_exit (stay _ h)
  · rename_i x y
    refine wpIn_seq ?_
    split at h
    · rename_i st1 h1
      refine wpIn_mono (hcode n ro x st _ st1 h1 N μ w a r hst hro) ?_
      rintro e1 a1 w1 ⟨rfl, μ1, hx1, hs1, hk1⟩
      refine wpIn_mono (hcode n ro y st1 _ st' h N μ1 w1 a1 r hs1 (hro' _ hx1)) ?_
      rintro e2 a2 w2 ⟨rfl, μ2, hx2, hs2, hk2⟩
      exact ⟨rfl, μ2, hx1.trans hx2, hs2, hk1.trans hk2⟩
    · rename_i hne
      refine wpIn_mono (hcode n ro x st _ st' h N μ w a r hst hro) ?_
      rintro e1 a1 w1 ⟨rfl, h1⟩
      cases e1 with
      | normal => exact absurd h (hne _)
      | _ => exact ⟨rfl, h1⟩
  · rename_i cc x y
    split at h
    · rename_i hb
      exact wpIn_cond_true (evalX_rel hst.slots _ _ hb) (hcode n ro x st _ st' h N μ w a r hst hro)
    · rename_i hb
      exact wpIn_cond_false (evalX_rel hst.slots _ _ hb) (hcode n ro y st _ st' h N μ w a r hst hro)
    · cases h
  · rename_i i x
    refine wpIn_block ?_
    split at h
    · rename_i j st1 h1
      refine wpIn_mono (hcode n ro x st _ st1 h1 N μ w a r hst hro) ?_
      rintro e1 a1 w1 ⟨rfl, h2⟩
      simp only [Exit.inBlock]
      split at h
      · rename_i hj
        cases h
        rw [if_pos (Nat.eq_of_beq_eq_true hj)]
        exact ⟨rfl, h2⟩
      · rename_i hj
        cases h
        rw [if_neg (Nat.ne_of_beq_eq_false hj)]
        exact ⟨rfl, h2⟩
    · rename_i hne
      refine wpIn_mono (hcode n ro x st _ st' h N μ w a r hst hro) ?_
      rintro e1 a1 w1 ⟨rfl, h1⟩
      cases e1 with
      | exit j => exact absurd h (hne _ _)
      | _ => exact ⟨rfl, h1⟩
  · exact absurd rfl (hnl _)
  · rename_i ops
    split at h
    · rename_i t H nx hr
      cases h
      refine wpIn_region_list ?_
      refine regionX_sound rfl (stepC_ok hc r) ops.toList st.t st.H st.nx μ a w _ hr hst.slots hst.inv ?_
      intro a' w' μ' hx hs hdd hi hk
      exact ⟨rfl, μ', hx, ⟨hs, by rw [hdd]; exact Dfs.ext hx _ _ hst.dfs, hi⟩, hk⟩
    · cases h
  · rename_i ops
    split at h
    · rename_i t H nx hr
      cases h
      refine wpIn_region_any hm ?_
      have hst2 := hst.drew
      refine hd ih.call hc r n ops st.t st.H st.nx _ hr N μ a _ _ hst2.slots hst2.inv ?_
      intro a' w' μ' hx hs hdd hi hk
      exact ⟨rfl, μ', hx, ⟨hs, by rw [hdd]; exact Dfs.ext hx _ _ hst.dfs, hi⟩, Keep.trans (a := w) (b := { w with drawn := w.drawn + 1 }) ⟨rfl, rfl, rfl, Nat.le_refl _, fun _ _ => rfl⟩ hk⟩
    · cases h
  · rename_i f ps assign body
    exact rangeX_sound hc hcode h (fun v hv => evalX_rel hst.slots _ _ hv) hst hro
  · cases h

theorem exec_code_loop [Tab P] [FTab P] [MTab P] {orc : CallX} {draw : DrawX} {m : Nat} {ro : Option Nat} {x : Code} {st : St} :
    (exec P orc draw (m + 1)).code n ro (.loop x) st = (match (exec P orc draw m).code n ro x st with
      | some (.normal, st') => (exec P orc draw m).code n ro (.loop x) st'
      | r => r) := rfl

theorem exec_ok [Tab P] [FTab P] [MTab P] {orc : CallX} {draw : DrawX} (hm : P.follows .mixedOrders = true) (ho : CallOK P orc) (hd : DrawOK P draw) : ∀ m, CallOK P (exec P orc draw m).call ∧ CodeOK P (exec P orc draw m).code := by
  intro m
  induction m using Nat.strongRecOn with
  | _ m IH =>
    cases m with
    | zero => exact ⟨fun _ _ _ _ _ _ _ h => (by cases h), fun _ _ _ _ _ _ h => (by cases h)⟩
    | succ m =>
      obtain ⟨hc, hcode⟩ := IH m (Nat.lt_succ_self m)
      refine ⟨callStep_ok ho hcode, fun n ro c st e st' h N μ w a r hst hro => ?_⟩
      by_cases hl : ∃ x, c = .loop x
      · obtain ⟨x, rfl⟩ := hl
        refine wpIn_loop_ghost (fun j a' w' => j ≤ m + 1 ∧ ∃ st1 μ1, (exec P orc draw j).code n ro (.loop x) st1 = some (e, st') ∧ Ext μ μ1 ∧ StR N μ1 n st1 a' w' ∧ Keep N w w') (m + 1) ⟨Nat.le_refl _, st, μ, h, Ext.refl μ, hst, Keep.refl N w⟩ ?_
        rintro j a1 w1 ⟨hj, st1, μ1, h1, hx1, hs1, hk1⟩
        cases j with
        | zero => cases h1
        | succ j =>
          obtain ⟨_, hcj⟩ := IH j (by omega)
          have hro1 : Ro μ1 ro r := by
            cases ro with
            | none => exact hro
            | some b => obtain ⟨p, e1, e2⟩ := hro; exact ⟨p, hx1 _ _ e1, e2⟩
          rw [exec_code_loop] at h1
          split at h1
          · rename_i st2 h2
            refine wpIn_mono (hcj n ro x st1 _ st2 h2 N μ1 w1 a1 r hs1 hro1) ?_
            rintro e2 a2 w2 ⟨rfl, μ2, hx2, hs2, hk2⟩
            exact ⟨j, Nat.lt_succ_self j, by omega, st2, μ2, h1, hx1.trans hx2, hs2, hk1.trans hk2⟩
          · rename_i hne
            refine wpIn_mono (hcj n ro x st1 _ st' h1 N μ1 w1 a1 r hs1 hro1) ?_
            rintro e2 a2 w2 ⟨rfl, μ2, hx2, hs2, hk2⟩
            cases e2 with
            | normal => exact absurd h1 (hne _)
            | _ => exact ⟨rfl, μ2, hx1.trans hx2, hs2, hk1.trans hk2⟩
      · exact codeStep_ok hm hd hc hcode (fun x hx => hl ⟨x, hx⟩) h hst hro
end
end Go.Xm

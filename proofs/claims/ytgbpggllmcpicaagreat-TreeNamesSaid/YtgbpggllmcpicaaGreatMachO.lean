/- MACHINE X, PART O: a run tells a call of data; such calls as an oracle. -/
import Derived.Test.YtgbpggllmcpicaaGreatMachM
namespace Go.Xm
open Go Go.Cr Go.RowKit

mutual
noncomputable def sameD : DV → DV → Bool
  | .val a, .val b => sameVal a b
  | .agg l, .agg l' => sameDs l l'
  | .tup l, .tup l' => sameDs l l'
  | .slice k n l, .slice k' n' l' => match Nat.beq k k', Nat.beq n n' with
    | true, true => sameDs l l'
    | _, _ => false
  | _, _ => false
noncomputable def sameDs : List DV → List DV → Bool
  | [], [] => true
  | d :: l, d' :: l' => match sameD d d' with
    | true => sameDs l l'
    | false => false
  | _, _ => false
end
mutual
theorem sameD_eq : ∀ (d d' : DV), sameD d d' = true → d = d'
  | .val a, d', h => by cases d' <;> simp only [sameD, Bool.false_eq_true] at h; rw [sameVal_eq h]
  | .agg l, d', h => by cases d' <;> simp only [sameD, Bool.false_eq_true] at h; rw [sameDs_eq _ _ h]
  | .tup l, d', h => by cases d' <;> simp only [sameD, Bool.false_eq_true] at h; rw [sameDs_eq _ _ h]
  | .slice k n l, d', h => by
    cases d' <;> simp only [sameD, Bool.false_eq_true] at h
    split at h
    · rename_i h1 h2; rw [Nat.eq_of_beq_eq_true h1, Nat.eq_of_beq_eq_true h2, sameDs_eq _ _ h]
    · cases h
theorem sameDs_eq : ∀ (l l' : List DV), sameDs l l' = true → l = l'
  | [], l', h => by cases l' <;> simp [sameDs] at h; rfl
  | d :: l, l', h => by
    cases l' with
    | nil => simp [sameDs] at h
    | cons d' l' =>
      simp only [sameDs] at h
      split at h
      · rename_i h1; rw [sameD_eq _ _ h1, sameDs_eq _ _ h]
      · cases h
end
noncomputable def runD (P : Program) [Tab P] [FTab P] [MTab P] (orc : CallX) (m : Nat) (f : FuncId) (args : List DV) : Option DV := match loadDs args .nil 0 with
  | (vs, H, nx) => match FTab.get P f with
    | some fn => match fn.body with
      | some _ => match (exec P orc (drawX P) m).call (.fn (.func f) [] []) vs H nx with
        | some (v, H', _) => match readF 30 H' v with
          | some (d, _) => some d
          | none => none
        | none => none
      | none => none
    | none => none
noncomputable def runB (P : Program) [Tab P] [FTab P] [MTab P] (orc : CallX) (m : Nat) (f : FuncId) (args : List DV) (res : DV) : Bool := match runD P orc m f args with
  | some d => sameD d res
  | none => false

section
variable {P : Program} {N : Ns} {μ : Mu} {H : Tr Bk} {nx : Nat} {w : World}
/-- A RUN TELLS A CALL. -/
theorem PureD.of_run [Tab P] [FTab P] [MTab P] {orc : CallX} {m : Nat} {f : FuncId} {args : List DV} {res : DV} (hm : P.follows .mixedOrders = true) (ho : CallOK P orc) (h : runB P orc m f args res = true) : PureD P f args res := by
  unfold runB at h
  split at h
  · rename_i d hd
    have hd' := sameD_eq _ _ h
    subst hd'
    unfold runD at hd
    split at hd
    rename_i vs H nx hl
    split at hd
    · rename_i fn hfn
      split at hd
      · rename_i c hc
        split at hd
        · rename_i v H' nx' hrun
          split at hd
          · rename_i d' R hrd
            cases hd
            obtain ⟨e1, e2⟩ := FTab.ok f fn hfn
            refine ⟨⟨fn, e1, e2, c, hc⟩, fun ok w us hok hden => ?_⟩
            let N : Ns := ⟨fun r => r < w.heap.size, fun r => r < w.heap.size ∧ ¬ ok r, fun _ h => h.1⟩
            have h0 : Inv N (fun _ => none) .nil 0 w := ⟨fun r hr => hr, fun b bk hb => (by rw [Tr.get_nil] at hb; cases hb), fun b b' bk bk' p p' _ hb => (by rw [Tr.get_nil] at hb; cases hb), fun b bk p hb => (by rw [Tr.get_nil] at hb; cases hb), fun b bk p hb => (by rw [Tr.get_nil] at hb; cases hb), fun _ _ => rfl⟩
            have hr0 : Room ok N (fun _ => none) .nil := ⟨fun r hr hh => hh.2 hr, fun b bk p hb => (by rw [Tr.get_nil] at hb; cases hb)⟩
            obtain ⟨μ1, _, h1, _, h3⟩ := loadDs_ok args h0 hr0 hden
            rw [hl] at h1 h3
            obtain ⟨dd, nxt, g1, g2, g3, _⟩ := (exec_ok hm ho drawX_ok m).1 _ _ _ _ _ _ _ hrun N μ1 w (.func (.func f) #[] #[]) us h1 ⟨[], [], rfl, rfl, rfl⟩ h3
            have hdd : dd = { target := .fn (.func f) #[], args := us.toArray } := by
              simp only [Deferred.ofValue, Sem.run_pure, Result.ok.injEq] at g1
              rw [← g1.1]; simp
            subst hdd
            have hnxt : nxt = .enter f us.toArray := by
              have := run_callFunc' (w := w) e1 e2 ⟨c, hc⟩ us.toArray
              simp only [invoke, Array.append_empty, this, Result.ok.injEq] at g2
              exact g2.1.symm
            subst hnxt
            refine callsIn_wide.1 (CallsIn.mono g3 ?_)
            rintro e w' ⟨u, rfl, μ', f1, f2, f3, f4⟩
            refine ⟨u, rfl, readF_ok f2 30 v d R u hrd f4 fun r ⟨b, p, _, ⟨m, k, e, cells, hb⟩, hp, hpr⟩ => ?_, ⟨f3.os, f3.tape, f3.output, f3.size, fun r hr => f3.block r hr⟩⟩
            subst hpr
            have := f2.hid b _ p hb hp
            rcases Nat.lt_or_ge p.r w.heap.size with g | g
            · exact .inl (Classical.byContradiction fun hn => this ⟨g, hn⟩)
            · exact .inr g
          · cases hd
        · cases hd
      · cases hd
    · cases hd
  · cases h

/-! ### The oracle -/
noncomputable def demote : List Nat → Tr Bk → Tr Bk
  | [], H => H
  | b :: R, H => match H.get b with
    | some (.row true k e cells) => demote R (H.put b (some (.row false k e cells)))
    | _ => demote R H
theorem demote_get : ∀ (R : List Nat) (H : Tr Bk) (b : Nat) (bk : Bk), (demote R H).get b = some bk → ∃ bk', H.get b = some bk' ∧ (bk = bk' ∨ ∃ m k e cells, bk' = .row m k e cells ∧ bk = .row false k e cells) ∧ (bk.wr = true → bk'.wr = true ∧ (b ∈ R → ∀ m k e cells, bk' ≠ .row m k e cells))
  | [], H, b, bk, h => ⟨bk, h, .inl rfl, fun h => ⟨h, fun h => by cases h⟩⟩
  | x :: R, H, b, bk, h => by
    simp only [demote] at h
    split at h
    · rename_i k e cells hx
      obtain ⟨bk', h1, h2, h3⟩ := demote_get R _ b bk h
      rw [Tr.get_put] at h1
      by_cases ex : b = x
      · subst ex
        rw [if_pos rfl] at h1; cases h1
        refine ⟨_, hx, .inr ⟨true, k, e, cells, rfl, ?_⟩, fun hw => by cases (h3 hw).1⟩
        rcases h2 with rfl | ⟨m, k', e', c', h4, h5⟩
        · rfl
        · cases h4; exact h5
      · rw [if_neg ex] at h1
        exact ⟨bk', h1, h2, fun hw => ⟨(h3 hw).1, fun hb => (h3 hw).2 ((List.mem_cons.1 hb).resolve_left ex)⟩⟩
    · rename_i hx
      obtain ⟨bk', h1, h2, h3⟩ := demote_get R H b bk h
      refine ⟨bk', h1, h2, fun hw => ⟨(h3 hw).1, fun hb m k e cells hbk => ?_⟩⟩
      rcases List.mem_cons.1 hb with rfl | hb
      · subst hbk
        cases m with
        | true => exact hx k e cells h1
        | false => cases (h3 hw).1
      · exact (h3 hw).2 hb m k e cells hbk
theorem Inv.demote (h : Inv N μ H nx w) (R : List Nat) : Inv N μ (demote R H) nx w := by
  refine ⟨h.low, fun b bk hb => ?_, fun b b' bk bk' p p' hbb h1 hm h2 e1 e2 => ?_, fun b bk p hb hm hp => ?_, fun b bk p hb hp => ?_, h.fresh⟩
  · obtain ⟨bk0, g1, g2, _⟩ := demote_get R H b bk hb
    obtain ⟨p, o, f1, f2, f3⟩ := h.blk b bk0 g1
    refine ⟨p, o, f1, f2, ?_⟩
    rcases g2 with rfl | ⟨m, k, e, cells, rfl, rfl⟩
    · exact f3
    · obtain ⟨cur, e', fz, a1, a2, a3, a4, a5⟩ := f3
      exact ⟨cur, e', fz, a1, (fun e => by cases e), a3, a4, a5⟩
  · obtain ⟨bk0, g1, _, g3⟩ := demote_get R H b bk h1
    obtain ⟨bk0', g1', _, _⟩ := demote_get R H b' bk' h2
    exact h.sep b b' bk0 bk0' p p' hbb g1 (g3 hm).1 g1' e1 e2
  · obtain ⟨bk0, g1, _, g3⟩ := demote_get R H b bk hb
    exact h.own b bk0 p g1 (g3 hm).1 hp
  · obtain ⟨bk0, g1, _, _⟩ := demote_get R H b bk hb
    exact h.hid b bk0 p g1 hp
mutual
noncomputable def plainD : DV → Bool
  | .val _ => true
  | .agg l => plainDs l
  | .tup l => plainDs l
  | .slice _ _ _ => false
noncomputable def plainDs : List DV → Bool
  | [] => true
  | d :: l => match plainD d with
    | true => plainDs l
    | false => false
end
mutual
theorem plain_load {ok : Nat → Prop} : ∀ (d : DV) (H : Tr Bk) (nx : Nat) (u : Value), plainD d = true → d.den ok w u → (loadD d H nx).2 = (H, nx) ∧ (loadD d H nx).1.rel μ u
  | .val _, H, nx, u, _, h => ⟨rfl, h⟩
  | .agg l, H, nx, u, hp, ⟨cs, e, h⟩ => by
    obtain ⟨h1, h2⟩ := plain_loads l H nx cs (by simpa [plainD] using hp) h
    exact ⟨h1, cs, e, h2⟩
  | .tup l, H, nx, u, hp, ⟨cs, e, h⟩ => by
    obtain ⟨h1, h2⟩ := plain_loads l H nx cs (by simpa [plainD] using hp) h
    exact ⟨h1, cs, e, h2⟩
  | .slice _ _ _, _, _, _, hp, _ => by simp [plainD] at hp
theorem plain_loads {ok : Nat → Prop} : ∀ (l : List DV) (H : Tr Bk) (nx : Nat) (us : List Value), plainDs l = true → DV.dens ok w l us → (loadDs l H nx).2 = (H, nx) ∧ V.rels μ (loadDs l H nx).1 us
  | [], H, nx, us, _, h => ⟨rfl, h⟩
  | d :: l, H, nx, us, hp, ⟨u, r, e, h1, h2⟩ => by
    simp only [plainDs] at hp
    split at hp
    · rename_i hp1
      obtain ⟨g1, g2⟩ := plain_load d H nx u hp1 h1
      obtain ⟨f1, f2⟩ := plain_loads l (loadD d H nx).2.1 (loadD d H nx).2.2 r hp h2
      refine ⟨?_, u, r, e, g2, f2⟩
      show (loadDs l (loadD d H nx).2.1 (loadD d H nx).2.2).2 = _
      rw [f1, g1]
    · cases hp
end
noncomputable def findE (ds : List DV) : List (List DV × DV) → Option DV
  | [] => none
  | e :: l => match sameDs ds e.1 with
    | true => some e.2
    | false => findE ds l
noncomputable def orcM (es : Tr (List (List DV × DV))) : CallX := fun f args H nx => match f with
  | .fn (.func k) [] [] => match es.get k with
    | some l => match readL (readF 20 H) args with
      | some (ds, R) => match findE ds l with
        | some r => match plainD r with
          | true => some ((loadD r H nx).1, H, nx)
          | false => match loadD r (demote R H) nx with
            | (v, H', nx') => some (v, H', nx')
        | none => none
      | none => none
    | none => none
  | _ => none
theorem findE_mem {ds : List DV} {r : DV} : ∀ (l : List (List DV × DV)), findE ds l = some r → (ds, r) ∈ l
  | [], h => by cases h
  | e :: l, h => by
    simp only [findE] at h
    split at h
    · rename_i hs
      cases h
      rw [sameDs_eq _ _ hs]; exact List.mem_cons_self
    · exact List.mem_cons_of_mem _ (findE_mem l h)
theorem orcM_ok {es : Tr (List (List DV × DV))} (hes : ∀ k l, es.get k = some l → ∀ e, e ∈ l → PureD P k e.1 e.2) : CallOK P (orcM es) := by
  intro f args H nx v H' nx' h N μ w uf us hi hf ha
  unfold orcM at h
  split at h
  · rename_i k
    obtain ⟨cs, ds0, rfl, hc1, hc2⟩ := hf
    simp only [V.rels] at hc1 hc2
    subst hc1; subst hc2
    split at h
    · rename_i l hl
      split at h
      · rename_i ds R hrd
        split at h
        · rename_i r hfe
          have hpure := hes k l hl _ (findE_mem l hfe)
          obtain ⟨fn, e1, e2, e3⟩ := hpure.ex
          have hokl : ∀ r, okR μ H R r → r < w.heap.size := fun r ⟨b, p, _, ⟨_, _, _, _, hb⟩, hp, hpr⟩ => by
            obtain ⟨p', o, g1, g2, _⟩ := hi.blk b _ hb
            rw [hp] at g1; cases g1
            subst hpr
            exact (Array.getElem?_eq_some_iff.1 g2).1
          have hden := (readL_ok (w := w) (ok := okR μ H R) (fun v d R' u h1 h2 h3 => readF_ok hi (ok := okR μ H R) 20 v d R' u h1 h2 h3) args ds R us hrd ha fun _ h => h).1
          have hcalls := hpure.run (okR μ H R) w us hokl hden
          refine ⟨_, .enter k us.toArray, rfl, ?_, callsIn_wide.2 (Calls.mono hcalls ?_), fun _ _ _ _ => ⟨_, _, rfl⟩⟩
          · have := run_callFunc' (w := w) e1 e2 e3 us.toArray
            simpa [invoke] using this
          · rintro e w' ⟨u, rfl, hu, hk⟩
            have hi' : Inv N μ H nx w' := hi.grow hk.size hk.block
            have hkeep : Keep N w w' := ⟨hk.os, hk.tape, hk.output, hk.size, fun r hr => hk.block r (hi.low r hr)⟩
            split at h
            · rename_i hp
              obtain ⟨_, g2⟩ := plain_load (μ := μ) r H nx u hp hu
              cases h
              exact ⟨u, rfl, μ, Ext.refl μ, hi', hkeep, g2⟩
            · have hroom : Room (fun r => okR μ H R r ∨ w.heap.size ≤ r) N μ (demote R H) := by
                refine ⟨fun r hr hh => ?_, fun b bk p hb hm hp hr => ?_⟩
                · rcases hr with ⟨b, p, _, ⟨_, _, _, _, hb⟩, hp, rfl⟩ | hr
                  · exact hi.hid b _ p hb hp hh
                  · exact absurd (hi.low r (N.sub r hh)) (by omega)
                · obtain ⟨bk0, g1, _, g3⟩ := demote_get R H b bk hb
                  obtain ⟨g4, g5⟩ := g3 hm
                  rcases hr with ⟨b0, p0, hb0, ⟨m, kk, ee, cells, hg⟩, hp0, hpr⟩ | hr
                  · by_cases e : b = b0
                    · subst e
                      rw [hg] at g1; cases g1
                      exact g5 hb0 _ _ _ _ rfl
                    · exact hi.sep b b0 bk0 _ p p0 e g1 g4 hg hp hp0 hpr.symm
                  · obtain ⟨p', o, f1, f2, _⟩ := hi.blk b bk0 g1
                    rw [hp] at f1; cases f1
                    have := (Array.getElem?_eq_some_iff.1 f2).1
                    omega
              obtain ⟨μ', g1, g2, _, g4⟩ := loadD_ok r (hi'.demote R) hroom hu
              cases h
              exact ⟨u, rfl, μ', g1, g2, hkeep, g4⟩
        · cases h
      · cases h
    · cases h
  · cases h
end
end Go.Xm

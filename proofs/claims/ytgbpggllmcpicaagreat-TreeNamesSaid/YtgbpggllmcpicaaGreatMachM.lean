/- MACHINE X, PART M: what is known already: calls whose arguments and results are data (DV). -/
import Derived.Test.YtgbpggllmcpicaaGreatMachZ
namespace Go.Xm
open Go Go.Cr Go.RowKit

/-- Data: a slice has k cells an element, n elements (one at least), its cells in a row. -/
inductive DV where
  | val (v : Value)
  | agg (l : List DV)
  | tup (l : List DV)
  | slice (k n : Nat) (l : List DV)
mutual
def DV.den (ok : Nat → Prop) (w : World) : DV → Value → Prop
  | .val v, u => u = v
  | .agg l, u => ∃ cs : List Value, u = .agg cs.toArray ∧ DV.dens ok w l cs
  | .tup l, u => ∃ cs : List Value, u = .tuple cs.toArray ∧ DV.dens ok w l cs
  | .slice k n l, u => ∃ r o cp cur e fz, u = .slice (some ⟨r, o, none⟩) n cp ∧ n ≤ cp ∧ cp ≤ maxLen ∧ ok r ∧ w.heap[r]? = some (.cells cur e fz) ∧ l.length = n * k ∧ DV.dens ok w l ((cur.toList.drop o).take (n * k))
def DV.dens (ok : Nat → Prop) (w : World) : List DV → List Value → Prop
  | [], us => us = []
  | d :: l, us => ∃ u r, us = u :: r ∧ DV.den ok w d u ∧ DV.dens ok w l r
end
mutual
theorem DV.den_mono {ok ok' : Nat → Prop} {w w' : World} (h : ∀ r, ok r → ok' r ∧ w'.heap[r]? = w.heap[r]?) : ∀ (d : DV) (u : Value), d.den ok w u → d.den ok' w' u
  | .val _, _, h1 => h1
  | .agg l, _, ⟨cs, e, h1⟩ => ⟨cs, e, DV.dens_mono h l cs h1⟩
  | .tup l, _, ⟨cs, e, h1⟩ => ⟨cs, e, DV.dens_mono h l cs h1⟩
  | .slice k n l, _, ⟨r, o, cp, cur, e, fz, h1, h2, h3, h4, h5, h7, h8⟩ => ⟨r, o, cp, cur, e, fz, h1, h2, h3, (h r h4).1, by rw [(h r h4).2]; exact h5, h7, DV.dens_mono h l _ h8⟩
theorem DV.dens_mono {ok ok' : Nat → Prop} {w w' : World} (h : ∀ r, ok r → ok' r ∧ w'.heap[r]? = w.heap[r]?) : ∀ (l : List DV) (us : List Value), DV.dens ok w l us → DV.dens ok' w' l us
  | [], _, h1 => h1
  | d :: l, _, ⟨u, r, e, h1, h2⟩ => ⟨u, r, e, DV.den_mono h d u h1, DV.dens_mono h l r h2⟩
end
theorem DV.dens_length {ok : Nat → Prop} {w : World} : ∀ (l : List DV) (us : List Value), DV.dens ok w l us → us.length = l.length
  | [], us, h => by simp only [DV.dens] at h; subst h; rfl
  | _ :: l, _, ⟨_, r, e, _, h⟩ => by subst e; simp [DV.dens_length l r h]
structure PureD (P : Program) (f : FuncId) (args : List DV) (res : DV) : Prop where
  ex : ∃ fn, P.funcs[f]? = some fn ∧ (fn.name == "runtime.NumGoroutine") = false ∧ ∃ c, fn.body = some c
  run : ∀ (ok : Nat → Prop) (w : World) (us : List Value), (∀ r, ok r → r < w.heap.size) → DV.dens ok w args us →
    Calls P f us.toArray w fun e w' => ∃ u, e = .returned u ∧ res.den (fun r => ok r ∨ w.heap.size ≤ r) w' u ∧ Keep (Ns.all w.heap.size) w w'

/-! ### Data laid into the machine's memory -/
mutual
noncomputable def loadD : DV → Tr Bk → Nat → V × Tr Bk × Nat
  | .val v, H, nx => (.val v, H, nx)
  | .agg l, H, nx => match loadDs l H nx with
    | (vs, H', nx') => (.agg vs, H', nx')
  | .tup l, H, nx => match loadDs l H nx with
    | (vs, H', nx') => (.tup vs, H', nx')
  | .slice k n l, H, nx => match loadDs l H nx with
    | (vs, H', nx') => (.slice nx' 0 n none, H'.put nx' (some (.row false k 0 vs)), nx' + 1)
noncomputable def loadDs : List DV → Tr Bk → Nat → List V × Tr Bk × Nat
  | [], H, nx => ([], H, nx)
  | d :: l, H, nx => match loadD d H nx with
    | (v, H', nx') => match loadDs l H' nx' with
      | (vs, H2, nx2) => (v :: vs, H2, nx2)
end
/-- May blocks of the 'ok' kind come in, to be read? -/
structure Room (ok : Nat → Prop) (N : Ns) (μ : Mu) (H : Tr Bk) : Prop where
  hid : ∀ r, ok r → ¬ N.hid r
  wr : ∀ b bk p, H.get b = some bk → bk.wr = true → μ b = some p → ¬ ok p.r
section
variable {P : Program} {N : Ns} {μ : Mu} {H : Tr Bk} {nx : Nat} {w : World} {ok : Nat → Prop}
theorem Inv.lay (h : Inv N μ H nx w) (hr : Room ok N μ H) {r o k cp : Nat} {cur : Array Value} {e : TypeId} {fz : Nat × Nat} {vs : List V} (hok : ok r) (hh : w.heap[r]? = some (.cells cur e fz)) (hl : vs.length ≤ cp * k) (hv : V.rels μ vs ((cur.toList.drop o).take vs.length)) :
    ∃ μ', Ext μ μ' ∧ μ' nx = some ⟨r, o, cp * k, k⟩ ∧ Inv N μ' (H.put nx (some (.row false k 0 vs))) (nx + 1) w ∧ Room ok N μ' (H.put nx (some (.row false k 0 vs))) := by
  let μ' : Mu := fun b => if b = nx then some ⟨r, o, cp * k, k⟩ else μ b
  have hn : μ' nx = some ⟨r, o, cp * k, k⟩ := by simp [μ']
  have hne : ∀ b, b ≠ nx → μ' b = μ b := fun b hb => by simp [μ', hb]
  have hx : Ext μ μ' := fun b p e => by
    have : b ≠ nx := fun eb => by rw [eb, h.fresh nx (Nat.le_refl _)] at e; cases e
    rw [hne b this]; exact e
  have get : ∀ b bk, (H.put nx (some (.row false k 0 vs))).get b = some bk → (b = nx ∧ bk = .row false k 0 vs) ∨ (b ≠ nx ∧ H.get b = some bk ∧ μ' b = μ b) := fun b bk hb => by
    rw [Tr.get_put] at hb
    by_cases e : b = nx
    · rw [if_pos e] at hb; cases hb; exact .inl ⟨e, rfl⟩
    · rw [if_neg e] at hb; exact .inr ⟨e, hb, hne b e⟩
  refine ⟨μ', hx, hn, ⟨h.low, fun b bk hb => ?_, fun b b' bk1 bk2 p p' hbb h1 hm h2 e1 e2 => ?_, fun b bk p hb hm hp => ?_, fun b bk p hb hp => ?_, fun b hb => ?_⟩, ⟨hr.hid, fun b bk p hb hm hp => ?_⟩⟩
  · rcases get b bk hb with ⟨rfl, rfl⟩ | ⟨_, g1, g2⟩
    · exact ⟨_, _, hn, hh, cur, e, fz, rfl, (fun e => by cases e), rfl, hl, V.rels_ext hx _ _ hv⟩
    · obtain ⟨p, o', g3, g4, g5⟩ := h.blk b bk g1
      exact ⟨p, o', hx _ _ g3, g4, Bk.rel_ext hx g5⟩
  · rcases get b bk1 h1 with ⟨rfl, rfl⟩ | ⟨_, g1, g2⟩
    · cases hm
    · rcases get b' bk2 h2 with ⟨rfl, rfl⟩ | ⟨_, g3, g4⟩
      · rw [hn] at e2; cases e2
        exact fun e => hr.wr b bk1 p g1 hm (g2 ▸ e1) (e ▸ hok)
      · exact h.sep b b' bk1 bk2 p p' hbb g1 hm g3 (g2 ▸ e1) (g4 ▸ e2)
  · rcases get b bk hb with ⟨rfl, rfl⟩ | ⟨_, g1, g2⟩
    · cases hm
    · exact h.own b bk p g1 hm (g2 ▸ hp)
  · rcases get b bk hb with ⟨rfl, rfl⟩ | ⟨_, g1, g2⟩
    · rw [hn] at hp; cases hp; exact hr.hid r hok
    · exact h.hid b bk p g1 (g2 ▸ hp)
  · rw [hne b (by omega)]; exact h.fresh b (by omega)
  · rcases get b bk hb with ⟨rfl, rfl⟩ | ⟨_, g1, g2⟩
    · cases hm
    · exact hr.wr b bk p g1 hm (g2 ▸ hp)
mutual
theorem loadD_ok : ∀ (d : DV) {μ : Mu} {H : Tr Bk} {nx : Nat} {u : Value}, Inv N μ H nx w → Room ok N μ H → d.den ok w u →
    ∃ μ', Ext μ μ' ∧ Inv N μ' (loadD d H nx).2.1 (loadD d H nx).2.2 w ∧ Room ok N μ' (loadD d H nx).2.1 ∧ (loadD d H nx).1.rel μ' u
  | .val v, μ, H, nx, u, h, hr, hd => ⟨μ, Ext.refl μ, h, hr, hd⟩
  | .agg l, μ, H, nx, u, h, hr, ⟨cs, e, hd⟩ => by
    obtain ⟨μ', h1, h2, h3, h4⟩ := loadDs_ok l h hr hd
    exact ⟨μ', h1, h2, h3, cs, e, h4⟩
  | .tup l, μ, H, nx, u, h, hr, ⟨cs, e, hd⟩ => by
    obtain ⟨μ', h1, h2, h3, h4⟩ := loadDs_ok l h hr hd
    exact ⟨μ', h1, h2, h3, cs, e, h4⟩
  | .slice k n l, μ, H, nx, u, h, hr, ⟨r, o, cp, cur, e, fz, h1, h2, h3, h4, h5, h7, h8⟩ => by
    obtain ⟨μ', g1, g2, g3, g4⟩ := loadDs_ok l h hr h8
    have hlen := rels_length _ _ g4
    have hlen2 : (loadDs l H nx).1.length = n * k := by
      have := DV.dens_length l _ h8
      omega
    obtain ⟨μ2, f1, f2, f3, f4⟩ := g2.lay g3 (r := r) (o := o) (k := k) (cp := cp) (vs := (loadDs l H nx).1) h4 h5 (by rw [hlen2]; exact Nat.mul_le_mul_right k h2) (by rw [hlen2]; exact g4)
    exact ⟨μ2, g1.trans f1, f3, f4, ⟨r, o, cp * k, k⟩, some ⟨r, o, none⟩ |>.get rfl, cp, f2, by simpa using h1, h2, h3, .inl ⟨rfl, by simp⟩, fun c hc => (by cases hc), fun _ => by simp⟩
theorem loadDs_ok : ∀ (l : List DV) {μ : Mu} {H : Tr Bk} {nx : Nat} {us : List Value}, Inv N μ H nx w → Room ok N μ H → DV.dens ok w l us →
    ∃ μ', Ext μ μ' ∧ Inv N μ' (loadDs l H nx).2.1 (loadDs l H nx).2.2 w ∧ Room ok N μ' (loadDs l H nx).2.1 ∧ V.rels μ' (loadDs l H nx).1 us
  | [], μ, H, nx, us, h, hr, hd => ⟨μ, Ext.refl μ, h, hr, hd⟩
  | d :: l, μ, H, nx, us, h, hr, ⟨u, r, e, h1, h2⟩ => by
    obtain ⟨μ1, g1, g2, g3, g4⟩ := loadD_ok d h hr h1
    obtain ⟨μ2, f1, f2, f3, f4⟩ := loadDs_ok l g2 g3 h2
    exact ⟨μ2, g1.trans f1, f2, f3, u, r, e, V.rel_ext f1 _ _ g4, f4⟩
end
end

/-! ### Data read out of the machine's memory, and the blocks met on the way -/
noncomputable def readF (fuel : Nat) : Tr Bk → V → Option (DV × List Nat) :=
  Nat.rec (motive := fun _ => Tr Bk → V → Option (DV × List Nat)) (fun _ _ => none)
    (fun _ ih H v => match v with
      | .val u => some (.val u, [])
      | .agg l => match List.rec (motive := fun _ => Option (List DV × List Nat)) (some ([], [])) (fun x _ r => match ih H x, r with | some (d, a), some (ds, b) => some (d :: ds, a ++ b) | _, _ => none) l with
        | some (ds, R) => some (.agg ds, R)
        | none => none
      | .tup l => match List.rec (motive := fun _ => Option (List DV × List Nat)) (some ([], [])) (fun x _ r => match ih H x, r with | some (d, a), some (ds, b) => some (d :: ds, a ++ b) | _, _ => none) l with
        | some (ds, R) => some (.tup ds, R)
        | none => none
      | .slice b off n _ => match H.get b with
        | some (.row _ k _ cells) => match Nat.beq ((cells.drop off).take (n * k)).length (n * k) with
          | true => match List.rec (motive := fun _ => Option (List DV × List Nat)) (some ([], [])) (fun x _ r => match ih H x, r with | some (d, a), some (ds, b) => some (d :: ds, a ++ b) | _, _ => none) ((cells.drop off).take (n * k)) with
            | some (ds, R) => some (.slice k n ds, b :: R)
            | none => none
          | _ => none
        | _ => none
      | _ => none) fuel
noncomputable def readL (ih : V → Option (DV × List Nat)) : List V → Option (List DV × List Nat)
  | [] => some ([], [])
  | x :: l => match ih x, readL ih l with
    | some (d, a), some (ds, b) => some (d :: ds, a ++ b)
    | _, _ => none
theorem readL_rec (ih : V → Option (DV × List Nat)) : ∀ l : List V, List.rec (motive := fun _ => Option (List DV × List Nat)) (some ([], [])) (fun x _ r => match ih x, r with | some (d, a), some (ds, b) => some (d :: ds, a ++ b) | _, _ => none) l = readL ih l
  | [] => rfl
  | x :: l => by simp only [readL]; rw [← readL_rec ih l]
section
variable {P : Program} {N : Ns} {μ : Mu} {H : Tr Bk} {nx : Nat} {w : World}
/-- The blocks of some numbers. -/
def okR (μ : Mu) (H : Tr Bk) (R : List Nat) (r : Nat) : Prop := ∃ b p, b ∈ R ∧ (∃ m k e cells, H.get b = some (.row m k e cells)) ∧ μ b = some p ∧ p.r = r
theorem readL_ok {ih : V → Option (DV × List Nat)} {ok : Nat → Prop} (hih : ∀ v d R u, ih v = some (d, R) → v.rel μ u → (∀ r, okR μ H R r → ok r) → d.den ok w u) :
    ∀ (l : List V) (ds : List DV) (R : List Nat) (us : List Value), readL ih l = some (ds, R) → V.rels μ l us → (∀ r, okR μ H R r → ok r) → DV.dens ok w ds us ∧ ds.length = l.length
  | [], ds, R, us, h, hv, _ => by simp only [readL, Option.some.injEq, Prod.mk.injEq] at h; obtain ⟨rfl, rfl⟩ := h; exact ⟨hv, rfl⟩
  | x :: l, ds, R, us, h, ⟨u, r, e, h1, h2⟩, hR => by
    simp only [readL] at h
    split at h
    · rename_i d a ds' b hd hl
      cases h
      obtain ⟨g1, g2⟩ := readL_ok hih l ds' b r hl h2 fun r ⟨n, p, h3, h4⟩ => hR r ⟨n, p, List.mem_append_right _ h3, h4⟩
      exact ⟨⟨u, r, e, hih x d a u hd h1 fun r ⟨n, p, h3, h4⟩ => hR r ⟨n, p, List.mem_append_left _ h3, h4⟩, g1⟩, by simp [g2]⟩
    · cases h
theorem readF_ok (h : Inv N μ H nx w) {ok : Nat → Prop} : ∀ (fuel : Nat) (v : V) (d : DV) (R : List Nat) (u : Value), readF fuel H v = some (d, R) → v.rel μ u → (∀ r, okR μ H R r → ok r) → d.den ok w u
  | 0, v, d, R, u, hr, _, _ => by cases hr
  | f + 1, v, d, R, u, hr, hv, hR => by
    have hih := fun v d R u h1 h2 h3 => readF_ok h (ok := ok) f v d R u h1 h2 h3
    cases v with
    | val x => cases hr; exact hv
    | agg l =>
      have hr : (match List.rec (motive := fun _ => Option (List DV × List Nat)) (some ([], [])) (fun x _ r => match readF f H x, r with | some (d, a), some (ds, b) => some (d :: ds, a ++ b) | _, _ => none) l with
        | some (ds, R) => some (DV.agg ds, R)
        | none => none) = some (d, R) := hr
      rw [readL_rec (readF f H)] at hr
      split at hr
      · rename_i ds R' hl
        cases hr
        obtain ⟨cs, e, h1⟩ := hv
        exact ⟨cs, e, (readL_ok hih l ds _ cs hl h1 hR).1⟩
      · cases hr
    | tup l =>
      have hr : (match List.rec (motive := fun _ => Option (List DV × List Nat)) (some ([], [])) (fun x _ r => match readF f H x, r with | some (d, a), some (ds, b) => some (d :: ds, a ++ b) | _, _ => none) l with
        | some (ds, R) => some (DV.tup ds, R)
        | none => none) = some (d, R) := hr
      rw [readL_rec (readF f H)] at hr
      split at hr
      · rename_i ds R' hl
        cases hr
        obtain ⟨cs, e, h1⟩ := hv
        exact ⟨cs, e, (readL_ok hih l ds _ cs hl h1 hR).1⟩
      · cases hr
    | slice b off n c =>
      have hr : (match H.get b with
        | some (.row _ k _ cells) => match Nat.beq ((cells.drop off).take (n * k)).length (n * k) with
          | true => match List.rec (motive := fun _ => Option (List DV × List Nat)) (some ([], [])) (fun x _ r => match readF f H x, r with | some (d, a), some (ds, b) => some (d :: ds, a ++ b) | _, _ => none) ((cells.drop off).take (n * k)) with
            | some (ds, R) => some (DV.slice k n ds, b :: R)
            | none => none
          | _ => none
        | _ => none) = some (d, R) := hr
      split at hr
      · rename_i m k e cells hb
        split at hr
        · rename_i hl
          rw [readL_rec (readF f H)] at hr
          split at hr
          · rename_i ds R' hds
            cases hr
            obtain ⟨p, a, cp, h1, h2, h3, h4, h5, h6⟩ := hv
            obtain ⟨p', cur, e', fz, g1, g2, g3, g4, g5, g6⟩ := row_cells h hb
            rw [h1] at g1; cases g1
            have hl' := Nat.eq_of_beq_eq_true hl
            obtain ⟨o', ha, h7⟩ : ∃ o', a = ⟨p.r, o', none⟩ ∧ (n = 0 ∨ o' = p.o + off) := by
              rcases h5 with ⟨rfl, _⟩ | ⟨hz, o', rfl⟩
              · exact ⟨_, rfl, .inr rfl⟩
              · exact ⟨o', rfl, .inl (by omega)⟩
            subst ha
            have hrel := rels_take _ _ (n * k) (rels_drop _ _ off g6)
            have hsub : (((cur.toList.drop p.o).take cells.length).drop off).take (n * k) = (cur.toList.drop o').take (n * k) := by
              by_cases hn0 : n = 0
              · subst hn0; simp
              obtain rfl := h7.resolve_left hn0
              have hlen : off + n * k ≤ cells.length ∨ n * k = 0 := by
                simp at hl'
                omega
              rw [List.drop_take, List.take_take, List.drop_drop]
              rcases hlen with g | g
              · rw [Nat.min_eq_left (by omega)]
              · rw [g]; simp
            rw [hsub] at hrel
            obtain ⟨f1, f2⟩ := readL_ok hih _ ds R' _ hds hrel fun r ⟨n, p, h3, h4⟩ => hR r ⟨n, p, List.mem_cons_of_mem _ h3, h4⟩
            exact ⟨p.r, o', cp, cur, e', fz, h2, h3, h4, hR p.r ⟨b, p, List.mem_cons_self, ⟨m, k, e, cells, hb⟩, h1, rfl⟩, g2, by rw [f2, hl'], f1⟩
          · cases hr
        · cases hr
      · cases hr
    | _ => cases hr
end
end Go.Xm

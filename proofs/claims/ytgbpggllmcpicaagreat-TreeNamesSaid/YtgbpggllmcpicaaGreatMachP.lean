/- MACHINE X, PART P: the machine tells the truth, if the regions that draw do, and what is known already. -/
import Derived.Test.YtgbpggllmcpicaaGreatMachL
import Derived.RangeFuncRecord
namespace Go.Xm
open Go Go.Cr Go.RowKit

section
variable {P : Program} {N : Ns} {μ : Mu} {H : Tr Bk} {nx n : Nat} {w : World} {t : Tr V}

/-! ### Slots -/
theorem listT_get : ∀ (l : List V) (k : Nat) (t : Tr V) (i : Nat) (v : V), (listT l k t).get i = some v → (k ≤ i ∧ l[i - k]? = some v) ∨ (t.get i = some v ∧ (i < k ∨ k + l.length ≤ i))
  | [], k, t, i, v, h => .inr ⟨h, by simp; omega⟩
  | x :: l, k, t, i, v, h => by
    rcases listT_get l (k + 1) _ i v h with ⟨h1, h2⟩ | ⟨h1, h2⟩
    · refine .inl ⟨by omega, ?_⟩
      obtain ⟨j, rfl⟩ : ∃ j, i = k + 1 + j := ⟨i - (k + 1), by omega⟩
      rw [show k + 1 + j - k = j + 1 by omega, List.getElem?_cons_succ]
      rwa [show k + 1 + j - (k + 1) = j by omega] at h2
    · rw [Tr.get_put] at h1
      by_cases e : i = k
      · subst e; rw [if_pos rfl] at h1; cases h1; exact .inl ⟨Nat.le_refl _, by simp⟩
      · rw [if_neg e] at h1; exact .inr ⟨h1, by simp; omega⟩
theorem Slots.enter {args : List V} {us : List Value} (ha : V.rels μ args us) (hn : args.length ≤ n) : Slots μ n (listT args 0 .nil) (us.toArray ++ Array.replicate (n - us.toArray.size) undef) := by
  have hl := rels_length args us ha
  refine ⟨by simp; omega, fun i v hv => ?_⟩
  rcases listT_get args 0 .nil i v hv with ⟨_, h2⟩ | ⟨h1, _⟩
  · rw [Nat.sub_zero] at h2
    obtain ⟨u, h3, h4⟩ := rels_get args us i v ha h2
    have hi : i < us.length := (List.getElem?_eq_some_iff.1 h3).1
    have : (us.toArray ++ Array.replicate (n - us.toArray.size) undef).getD i undef = u := by
      rw [Array.getD_eq_getD_getElem?, Array.getElem?_append_left (by simpa using hi)]
      simp [h3]
    rw [this]; exact h4
  · rw [Tr.get_nil] at h1; cases h1
theorem putsX_slots : ∀ (ps : List Tmp) (vs : List V) (us : List Value) (t t' : Tr V) (tmps : Array Value), Slots μ n t tmps → V.rels μ vs us → putsX n ps vs t = some t' →
    us.length = ps.length ∧ Slots μ n t' ((ps.zip us).foldl (fun tmps x => tmps.setIfInBounds x.1 x.2) tmps)
  | [], [], us, t, t', tmps, h, hv, hp => by
    simp only [V.rels] at hv; subst hv; simp only [putsX, Option.some.injEq] at hp; subst hp; exact ⟨rfl, h⟩
  | [], _ :: _, us, t, t', tmps, h, hv, hp => by simp [putsX] at hp
  | _ :: _, [], us, t, t', tmps, h, hv, hp => by simp [putsX] at hp
  | s :: l, v :: vs, us, t, t', tmps, h, hv, hp => by
    obtain ⟨u, r, rfl, h1, h2⟩ := hv
    simp only [putsX] at hp
    split at hp
    · rename_i hb
      have hs : Slots μ n (t.put s (some v)) (tmps.setIfInBounds s u) := by
        have := Slots.put (a := ⟨tmps, []⟩) h (Nat.blt_eq.mp hb) h1
        simpa [Act.put] using this
      obtain ⟨h3, h4⟩ := putsX_slots l vs r _ t' _ hs h2 hp
      exact ⟨by simp [h3], by simpa using h4⟩
    · cases hp

/-! ### A block that is given up -/
theorem Inv.spoil (h : Inv N μ H nx w) {b : Nat} {bk : Bk} {p : Pl} {w' : World} (hb : H.get b = some bk) (hm : bk.wr = true) (hp : μ b = some p)
    (hoth : ∀ r, r ≠ p.r → w'.heap[r]? = w.heap[r]?) (hsz : w'.heap.size = w.heap.size) (h1 : w'.os = w.os) (h2 : w'.tape = w.tape) (h3 : w'.output = w.output) :
    Inv N μ (H.put b none) nx w' ∧ Keep N w w' := by
  have hnN := h.own b bk p hb hm hp
  have key : ∀ c ck, (H.put b none).get c = some ck → c ≠ b ∧ H.get c = some ck := fun c ck hc => by
    rw [Tr.get_put] at hc
    by_cases e : c = b
    · rw [if_pos e] at hc; cases hc
    · rw [if_neg e] at hc; exact ⟨e, hc⟩
  refine ⟨⟨fun r hr => by rw [hsz]; exact h.low r hr, fun c ck hc => ?_, fun c c' ck ck' q q' hcc e1 hm1 e2 => h.sep c c' ck ck' q q' hcc (key _ _ e1).2 hm1 (key _ _ e2).2, fun c ck q hc => h.own c ck q (key _ _ hc).2, fun c ck q hc => h.hid c ck q (key _ _ hc).2, h.fresh⟩, ⟨h1, h2, h3, by omega, fun r hr => hoth r fun e => hnN (e ▸ hr)⟩⟩
  obtain ⟨e, hc⟩ := key c ck hc
  obtain ⟨q, o', g1, g2, g3⟩ := h.blk c ck hc
  exact ⟨q, o', g1, by rw [hoth q.r (fun er => h.sep b c bk ck p q (Ne.symm e) hb hm hc hp g1 er.symm)]; exact g2, g3⟩

theorem Dfs.ext {μ μ' : Mu} (h : Ext μ μ') : ∀ (ds : List Nat) (l : List Deferred), Dfs μ ds l → Dfs μ' ds l
  | [], _, hl => hl
  | _ :: ds, _, ⟨p, r, e, h1, h2⟩ => ⟨p, r, e, h _ _ h1, Dfs.ext h ds r h2⟩
theorem marks_leave {fn : Func} {tmps : Array Value} {R : Ending → World → Prop} : ∀ (ds : List Nat) (l : List Deferred) (H H' : Tr Bk) (w : World), Dfs μ ds l → Inv N μ H nx w → marksX ds H = some H' →
    (∀ w', Inv N μ H' nx w' → Keep N w w' → ∃ v, (results fn tmps).run P w' = .ok v w' ∧ R (.returned v) w') → LeavesInM Fence.wide 0 P fn tmps R l .returning w
  | [], l, H, H', w, hd, hi, hm, hr => by
    simp only [Dfs] at hd; subst hd
    simp only [marksX, Option.some.injEq] at hm; subst hm
    exact hr w hi (Keep.refl N w)
  | d :: ds, l, H, H', w, ⟨p, r, e, hp, hd⟩, hi, hm, hr => by
    subst e
    simp only [marksX] at hm
    split at hm
    · rename_i hb
      obtain ⟨p', o, g1, g2, g3⟩ := hi.blk d _ hb
      rw [hp] at g1; cases g1
      simp only [Bk.rel] at g3; subst g3
      obtain ⟨hi', hk'⟩ := hi.spoil (w' := w.putObj p.r (.deferred none)) hb rfl hp (fun r hr => World.putObj_heap_other hr) World.putObj_size rfl rfl rfl
      refine ⟨by simp, .inl ⟨p.r, _, rfl, run_takeDeferred g2, ?_⟩⟩
      exact marks_leave ds r _ H' _ hd hi' hm fun w' h1 h2 => hr w' h1 (hk'.trans h2)
    · cases hm

/-! ### Results -/
theorem loadX_run [Tab P] {ρ : Operand → Value} {x : Operand} {T : TypeId} {td : TD} {sz by' : Nat} {z : Option Value} {dst : Option Tmp} {ty : TypeId} {pos : String} {af : Array Edge} {g : Option (Nat × Bool)} (h : Inv N μ H nx w) {v r : V} (hv : v.rel μ (ρ x)) (ht : Tab.look P T = some ⟨td, sz, by', z⟩) (hl : loadX H td.isAgg sz v = some r) :
    ∃ u, (execOp ρ ⟨dst, .load T x, ty, pos, af, g⟩).run P w = .ok (.value u) w ∧ r.rel μ u := by
  unfold loadX at hl
  split at hl
  · rename_i b off
    split at hl
    · rename_i m k e cells hb
      obtain ⟨p0, h1, h2⟩ := hv
      obtain ⟨p, cur, e', fz, g1, g2, g3, g4, g5, g6⟩ := row_cells h hb
      rw [h1] at g1; cases g1
      split at hl
      · rename_i ha
        split at hl
        · rename_i hq
          cases hl
          have hq := Nat.eq_of_beq_eq_true hq
          have hrel := rels_take _ _ sz (rels_drop _ _ off g6)
          refine ⟨(.agg (List.take sz (List.drop off (List.take cells.length (List.drop p0.o cur.toList)))).toArray), ?_, ⟨_, rfl, hrel⟩⟩
          refine run_load_cells w h2 ht _ (by rw [rels_length _ _ hrel, hq]) (fun j u hu => ?_) (by rw [ha]; rfl)
          rw [cell_heap g2]
          rw [List.getElem?_take] at hu
          split at hu
          · rw [List.getElem?_drop, List.getElem?_take] at hu
            split at hu
            · rw [List.getElem?_drop] at hu
              rw [← Array.getElem?_toList, Nat.add_assoc]; exact hu
            · cases hu
          · cases hu
        · cases hl
      · rename_i ha
        split at hl
        · rename_i hs
          have hs := Nat.eq_of_beq_eq_true hs
          obtain ⟨u, hu, hru⟩ := rels_get _ _ off r g6 hl
          refine ⟨u, ?_, hru⟩
          refine run_load_cells w h2 ht [u] (by rw [hs]; rfl) (fun j u' hu' => ?_) (by rw [ha]; rfl)
          cases j with
          | zero =>
            simp only [List.getElem?_cons_zero, Option.some.injEq] at hu'
            subst hu'
            rw [List.getElem?_take] at hu
            split at hu
            · rw [List.getElem?_drop] at hu
              rw [cell_heap g2, ← Array.getElem?_toList]; simpa using hu
            · cases hu
          | succ j => simp at hu'
        · cases hl
    · cases hl
  · cases hl

/-! ### Stores -/
theorem retX_sound [Tab P] {tmps : Array Value} (hs : Slots μ n t tmps) (hi : Inv N μ H nx w) : ∀ (rs : List ResultVar) (vs : List V), retX P t H rs = some vs →
    ∃ us, (rs.mapM (rvSem tmps)).run P w = .ok us w ∧ V.rels μ vs us
  | [], vs, h => by simp only [retX, Option.some.injEq] at h; subst h; exact ⟨[], rfl, rfl⟩
  | .tmp s :: l, vs, h => by
    simp only [retX] at h
    split at h
    · rename_i v q h1 h2
      cases h
      obtain ⟨us, g1, g2⟩ := retX_sound hs hi l q h2
      refine ⟨_ :: us, ?_, _, us, rfl, hs.get s v h1, g2⟩
      simp only [List.mapM_cons, Sem.run_bind, rvSem, Sem.run_pure, Result.andThen, g1]
    · cases h
  | .cell s T :: l, vs, h => by
    simp only [retX] at h
    split at h
    · rename_i p r q h1 h2 h3
      split at h
      · rename_i v hv
        cases h
        obtain ⟨us, g1, g2⟩ := retX_sound hs hi l q h3
        obtain ⟨td, sz, by', z⟩ := r
        obtain ⟨u, e1, e5⟩ := loadX_run (ρ := fun _ => tmps.getD s undef) (x := .tmp s) (dst := none) (ty := 0) (pos := "") (af := #[]) (g := none) hi (hs.get s p h1) h2 hv
        have hp : ∃ b off, p = .ptr b off := by
          cases p <;> simp [loadX] at hv
          exact ⟨_, _, rfl⟩
        obtain ⟨b, off, rfl⟩ := hp
        obtain ⟨pl, _, hpv⟩ := hs.get s _ h1
        have hw : (loadVar T ⟨pl.r, pl.o + off, none⟩).run P w = .ok u w := by
          simp only [execOp, hpv, Instr.loadAt, Instr.sureAddr, Sem.run_bind, Sem.run_pure, Result.andThen] at e1
          generalize Sem.run P (loadVar T { block := pl.r, off := pl.o + off, spot := none }) w = y at e1 ⊢
          cases y with
          | ok a b => simp only [Result.ok.injEq, Next.value.injEq] at e1; rw [e1.1, e1.2]
          | halt a b => cases e1
        refine ⟨u :: us, ?_, _, us, rfl, e5, g2⟩
        have ha : (rvSem tmps (.cell s T)).run P w = .ok u w := by
          simp only [rvSem, Sem.run_bind, hpv, asAddr, Sem.run_pure, Result.andThen, hw]
        simp only [List.mapM_cons, Sem.run_bind, ha, Result.andThen, g1, Sem.run_pure]
      · cases h
    · cases h
end
end Go.Xm

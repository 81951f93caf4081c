/- MACHINE X, PART K: a map's entry taken and stored; ranges over maps, where no choice is left. -/
import Derived.Test.YtgbpggllmcpicaaGreatMachI
namespace Go.Xm
open Go Go.Cr Go.RowKit

noncomputable def mapEntryX (H : Tr Bk) (fd : Find) (zv : Value) (m : V) (k : Value) : Option (V × Tr Bk) :=
  match m with
  | .map b => match H.get b with
    | some (.map c bs es) => match fd es 0 with
      | some none => some (.tup [V.ofConst zv, .val (.int .i64 (.ofNat c))], H.put b (some (.map (c + 1) (bs ++ [c]) (es ++ [(k, V.ofConst zv)]))))
      | some (some (i, v)) => match bs[i]? with
        | some born => some (.tup [v, .val (.int .i64 (.ofNat born))], H.put b (some (.map c bs (es.set i (k, v)))))
        | none => none
      | none => none
    | _ => none
  | _ => none
noncomputable def idxB (n : Nat) : List Nat → Nat → Option Nat
  | [], _ => none
  | b :: l, i => match Nat.beq b n with
    | true => some i
    | false => idxB n l (i + 1)
noncomputable def entryStoreX (H : Tr Bk) (m st v : V) : Option (Tr Bk) :=
  match m, st with
  | .map b, .val (.int _ (.ofNat n)) => match H.get b with
    | some (.map c bs es) => match idxB n bs 0 with
      | some i => match es[i]? with
        | some (k, _) => some (H.put b (some (.map c bs (es.set i (k, v)))))
        | none => none
      | none => none
    | _ => none
  | _, _ => none
noncomputable def deleteX (H : Tr Bk) (fd : Find) (m : V) : Option (Tr Bk) :=
  match m with
  | .map b => match H.get b with
    | some (.map c bs es) => match fd es 0 with
      | some none => some H
      | some (some (i, _)) => some (H.put b (some (.map c (bs.eraseIdx i) (es.eraseIdx i))))
      | none => none
    | _ => none
  | _ => none
noncomputable def clearMX (H : Tr Bk) (m : V) : Option (Tr Bk) :=
  match m with
  | .map b => match H.get b with
    | some (.map c _ _) => some (H.put b (some (.map c [] [])))
    | _ => none
  | _ => none
noncomputable def rangeMX (H : Tr Bk) (nx : Nat) (m : V) : Option (V × Tr Bk × Nat) := match m with
  | .map b => match H.get b with
    | some (.map c _ _) => some (.ptr nx 0, H.put nx (some (.iter b c [] c)), nx + 1)
    | _ => none
  | _ => none
noncomputable def hasB (n : Nat) : List Nat → Bool
  | [] => false
  | b :: l => match Nat.beq b n with
    | true => true
    | false => hasB n l
/-- The places of the entries that have not been seen. -/
noncomputable def leftB (seen : List Nat) : List Nat → Nat → List (Nat × Nat)
  | [], _ => []
  | b :: l, i => match hasB b seen with
    | true => leftB seen l (i + 1)
    | false => (i, b) :: leftB seen l (i + 1)
noncomputable def nextMX (H : Tr Bk) (it : V) : Option (V × Tr Bk) := match it with
  | .ptr r 0 => match H.get r with
    | some (.iter m since seen last) => match H.get m with
      | some (.map c bs es) => match leftB seen bs 0 with
        | [] => match seen with
          | [] => some (.tup [.val (.bool false)], H)
          | s :: _ => match Nat.blt s last, hasB s bs with
            | true, true => some (.tup [.val (.bool false)], H)
            | _, _ => none
        | [(i, born)] => match seen, Nat.blt born since, es[i]? with
          | [], true, some (k, v) => some (.tup [.val (.bool true), V.ofConst k, v], H.put r (some (.iter m since [born] c)))
          | _, _, _ => none
        | _ => none
      | _ => none
    | _ => none
  | _ => none
noncomputable def entryMX (H : Tr Bk) (it : V) : Option V := match it with
  | .ptr r 0 => match H.get r with
    | some (.iter m _ [born] last) => match H.get m with
      | some (.map c bs es) => match Nat.beq c last, idxB born bs 0 with
        | true, some i => match es[i]? with
          | some (k, v) => some (.tup [V.ofConst k, v])
          | none => none
        | _, _ => none
      | _ => none
    | _ => none
  | _ => none

section
variable {P : Program} {N : Ns} {μ : Mu} {H : Tr Bk} {nx : Nat} {w : World} {ρ : Operand → Value}
variable {ty : TypeId} {pos : String} {af : Array Edge} {g : Option (Nat × Bool)} {x y : Operand} {T T' : TypeId} {sz by' sz' by'' : Nat} {z z' : Option Value} {td td' : TD} {dst : Option Tmp}
theorem idxB_find : ∀ (l : List MapEntry) (n i j : Nat), idxB n (l.map (·.born)) i = some j → ∃ d, j = i + d ∧ (∃ e, l[d]? = some e ∧ e.born = n) ∧ l.findIdx? (fun e => (e.born : Int) == (n : Int)) = some d ∧ l.find? (fun e => e.born == n) = l[d]?
  | [], n, i, j, h => by simp [idxB] at h
  | e :: l, n, i, j, h => by
    simp only [List.map_cons, idxB] at h
    split at h
    · rename_i hb
      have hb := Nat.eq_of_beq_eq_true hb
      cases h
      refine ⟨0, rfl, ⟨e, rfl, hb⟩, ?_, ?_⟩
      · simp [List.findIdx?_cons, hb]
      · simp [hb]
    · rename_i hb
      have hb : ¬ e.born = n := Nat.ne_of_beq_eq_false hb
      obtain ⟨d, rfl, ⟨e', h1, h2⟩, h3, h4⟩ := idxB_find l n (i + 1) j h
      refine ⟨d + 1, by omega, ⟨e', by simpa using h1, h2⟩, ?_, ?_⟩
      · rw [List.findIdx?_cons]
        have : ((e.born : Int) == (n : Int)) = false := by simp; omega
        simp [this, h3]
      · rw [List.find?_cons]
        have : (e.born == n) = false := by simpa using hb
        simp [this, h4]
theorem mapEntryX_sound [Tab P] (h : Inv N μ H nx w) {m r : V} {k : Value} {kk e : Nat} {fd : Find} {zv : Value} {H' : Tr Bk} (hm : m.rel μ (ρ x)) (hk : ρ y = k) (ht : Tab.look P T = some ⟨.map kk e, sz, by', z⟩) (hfd : FindOK P kk k fd)
    {tde : TD} {sze bye : Nat} (he : Tab.look P e = some ⟨tde, sze, bye, some zv⟩) (hl : mapEntryX H fd zv m k = some (r, H')) : Does P N μ nx w (execOp ρ ⟨dst, .mapEntry T x y, ty, pos, af, g⟩) (some r, H', nx) := by
  have hck := fun e => hfd.ck w e
  unfold mapEntryX at hl
  split at hl
  · rename_i b
    split at hl
    · rename_i clock bs es hb
      obtain ⟨p, h1, h2⟩ := hm
      obtain ⟨p', o, g1, g2, l, rfl, g3, g4, g5⟩ := h.blk b _ hb
      rw [h1] at g1; cases g1
      have hlt := (Array.getElem?_eq_some_iff.1 g2).1
      have write : ∀ (es' : List (Value × V)) (l' : List MapEntry) (c' : Nat) (bs' : List Nat), l'.map (·.key) = es'.map (·.1) → V.rels μ (es'.map (·.2)) (l'.map (·.val)) → l'.map (·.born) = bs' → Inv N μ (H.put b (some (.map c' bs' es'))) nx (w.putObj p.r (.map l'.toArray c')) ∧ Keep N w (w.putObj p.r (.map l'.toArray c')) := fun es' l' c' bs' e1 e2 e3 =>
        h.write (bk' := .map c' bs' es') hb rfl h1 ⟨l', rfl, e1, e2, e3⟩ (World.putObj_heap_same hlt) (fun r hr => World.putObj_heap_other hr) World.putObj_size rfl rfl rfl
      have hll : l.length = es.length := by have := congrArg List.length g3; simpa using this
      split at hl
      · rename_i hf
        cases hl
        have hfk := hfd.none es l g3 hf w
        obtain ⟨i1, i2⟩ := write (es ++ [(k, V.ofConst zv)]) (l ++ [{ key := k, val := zv, born := clock }]) (clock + 1) (bs ++ [clock]) (by simp [g3]) (by
          rw [List.map_append, List.map_append]
          exact rels_append _ _ _ _ g4 ⟨_, _, rfl, ofConst_rel zv, rfl⟩) (by simp [g5])
        refine ⟨.tuple #[zv, .int .i64 clock], _, μ, ?_, ExtN.refl μ, i1, i2, [zv, .int .i64 clock], rfl, _, _, rfl, ofConst_rel zv, _, _, rfl, rfl, rfl⟩
        simp [execOp, Instr.mapEntry, run_underlying (Tab.map ht), h2, hk, run_getObj_m g2, hck, hfk, run_setObj_m _ g2, Tab.zeroOf w he, goInt]
      · rename_i i v0 hf
        split at hl
        · rename_i born hborn
          cases hl
          obtain ⟨u, e', k1, k2, k4, k5⟩ := hfd.some μ es l _ _ g3 g4 hf
          have hfk := k1 w
          have hlt' : i < l.length := (List.getElem?_eq_some_iff.1 k4).1
          have hbe : e'.born = born := by
            rw [← g5] at hborn
            simpa [k4] using hborn
          have hev : e'.val = u := k5.1.symm
          obtain ⟨i1, i2⟩ := write (es.set i (k, v0)) (l.modify i fun e => { e with key := k }) clock bs (by
            refine List.ext_getElem? fun j => ?_
            have := congrArg (·[j]?) g3
            simp only [List.getElem?_map, List.getElem?_modify, List.getElem?_set] at this ⊢
            by_cases e : i = j
            · subst e; simp [hlt', ← hll]
            · simp [e, this]) (by
            have : (l.modify i fun e => { e with key := k }).map (·.val) = (l.map (·.val)).set i u := by
              refine List.ext_getElem? fun j => ?_
              simp only [List.getElem?_map, List.getElem?_modify, List.getElem?_set]
              by_cases e : i = j
              · subst e
                have hl0 := (List.getElem?_eq_some_iff.1 k4).2
                simp [hlt', hl0, hev]
              · simp [e]
            rw [this, List.map_set]
            exact rels_set g4 k2) (by
            rw [← g5]
            refine List.ext_getElem? fun j => ?_
            simp only [List.getElem?_map, List.getElem?_modify]
            by_cases e : i = j
            · subst e; simp [hlt']
            · simp [e])
          refine ⟨.tuple #[u, .int .i64 born], _, μ, ?_, ExtN.refl μ, i1, i2, [u, .int .i64 born], rfl, _, _, rfl, k2, _, _, rfl, rfl, rfl⟩
          have hkey : (Instr.keyThatStays e'.key k).run P w = .ok k w := by simp [Instr.keyThatStays, k5.2]
          simp [execOp, Instr.mapEntry, run_underlying (Tab.map ht), h2, hk, run_getObj_m g2, hck, hfk, k4, hkey, run_setObj_m _ g2, hbe, goInt]
        · cases hl
      · cases hl
    · cases hl
  · cases hl
theorem rels_erase {l : List V} {us : List Value} (h : V.rels μ l us) (i : Nat) : V.rels μ (l.eraseIdx i) (us.eraseIdx i) := by
  rw [List.eraseIdx_eq_take_drop_succ, List.eraseIdx_eq_take_drop_succ]
  exact rels_append _ _ _ _ (rels_take _ _ i h) (rels_drop _ _ (i + 1) h)
theorem map_eraseIdx' {α β : Type} (f : α → β) (l : List α) (i : Nat) : (l.eraseIdx i).map f = (l.map f).eraseIdx i := by
  rw [List.eraseIdx_eq_take_drop_succ, List.eraseIdx_eq_take_drop_succ, List.map_append, List.map_take, List.map_drop]
theorem deleteX_sound [Tab P] (h : Inv N μ H nx w) {m : V} {k : Value} {kk e : Nat} {fd : Find} {H' : Tr Bk} (hm : m.rel μ (ρ x)) (hk : ρ y = k) (ht : Tab.look P T = some ⟨.map kk e, sz, by', z⟩) (hfd : FindOK P kk k fd)
    (hl : deleteX H fd m = some H') : Does P N μ nx w (execOp ρ ⟨dst, .call ⟨.builtin .delete, #[x, y], #[T, T']⟩, ty, pos, af, g⟩) (some (.tup []), H', nx) := by
  have run : ∀ (w' : World), (Builtin.delete_ #[T, T'] ty #[ρ x, ρ y]).run P w = .ok (.tuple #[]) w' → (execOp ρ ⟨dst, .call ⟨.builtin .delete, #[x, y], #[T, T']⟩, ty, pos, af, g⟩).run P w = .ok (.value (.tuple #[])) w' := fun w' hr => by
    have := run_call_builtin ρ dst .delete #[x, y] #[T, T'] (ty := ty) (pos := pos) (af := af) (g := g)
    rw [this]
    simp only [builtin, Sem.run_bind]
    simp [hr, Result.andThen, Sem.run_pure]
  have hck := fun e => hfd.ck w e
  unfold deleteX at hl
  split at hl
  · rename_i b
    split at hl
    · rename_i clock bs es hb
      obtain ⟨p, h1, h2⟩ := hm
      obtain ⟨p', o, g1, g2, l, rfl, g3, g4, g5⟩ := h.blk b _ hb
      rw [h1] at g1; cases g1
      have hlt := (Array.getElem?_eq_some_iff.1 g2).1
      split at hl
      · rename_i hf
        cases hl
        have hfk := hfd.none es l g3 hf w
        obtain ⟨i1, i2⟩ := h.write (bk' := .map clock bs es) (w' := w.putObj p.r (.map l.toArray clock)) hb rfl h1 ⟨l, rfl, g3, g4, g5⟩ (World.putObj_heap_same hlt) (fun r hr => World.putObj_heap_other hr) World.putObj_size rfl rfl rfl
        have i1' : Inv N μ H nx (w.putObj p.r (.map l.toArray clock)) := by
          refine ⟨i1.low, fun c ck hc => i1.blk c ck ?_, fun c c' ck ck' q q' hcc e1 hm1 e2 => i1.sep c c' ck ck' q q' hcc ?_ hm1 ?_, fun c ck q hc => i1.own c ck q ?_, fun c ck q hc => i1.hid c ck q ?_, i1.fresh⟩ <;> (rw [Tr.get_put]; split <;> (try subst_vars) <;> simp_all)
        refine ⟨.tuple #[], _, μ, run _ ?_, ExtN.refl μ, i1', i2, [], rfl, rfl⟩
        simp [Builtin.delete_, run_underlying (Tab.map ht), h2, hk, run_getObj_m g2, hck, hfk, run_setObj_m _ g2]
      · rename_i i v0 hf
        cases hl
        obtain ⟨u, e', k1, k2, k4, k5⟩ := hfd.some μ es l _ _ g3 g4 hf
        have hfk := k1 w
        have hlt' : i < l.length := (List.getElem?_eq_some_iff.1 k4).1
        obtain ⟨i1, i2⟩ := h.write (bk' := .map clock (bs.eraseIdx i) (es.eraseIdx i)) (w' := w.putObj p.r (.map (l.eraseIdx i).toArray clock)) hb rfl h1 ⟨l.eraseIdx i, rfl, by rw [map_eraseIdx', map_eraseIdx', g3], by rw [map_eraseIdx', map_eraseIdx']; exact rels_erase g4 i, by rw [map_eraseIdx', g5]⟩ (World.putObj_heap_same hlt) (fun r hr => World.putObj_heap_other hr) World.putObj_size rfl rfl rfl
        refine ⟨.tuple #[], _, μ, run _ ?_, ExtN.refl μ, i1, i2, [], rfl, rfl⟩
        simp [Builtin.delete_, run_underlying (Tab.map ht), h2, hk, run_getObj_m g2, hck, hfk, run_setObj_m _ g2, Array.eraseIdxIfInBounds, hlt']
      · cases hl
    · cases hl
  · cases hl
theorem clearMX_sound [Tab P] (h : Inv N μ H nx w) {m : V} {kk e : Nat} {H' : Tr Bk} (hm : m.rel μ (ρ x)) (ht : Tab.look P T = some ⟨.map kk e, sz, by', z⟩)
    (hl : clearMX H m = some H') : Does P N μ nx w (execOp ρ ⟨dst, .call ⟨.builtin .clear, #[x], #[T]⟩, ty, pos, af, g⟩) (some (.tup []), H', nx) := by
  have run : ∀ (w' : World), (Builtin.clear_ #[T] ty #[ρ x]).run P w = .ok (.tuple #[]) w' → (execOp ρ ⟨dst, .call ⟨.builtin .clear, #[x], #[T]⟩, ty, pos, af, g⟩).run P w = .ok (.value (.tuple #[])) w' := fun w' hr => by
    have := run_call_builtin ρ dst .clear #[x] #[T] (ty := ty) (pos := pos) (af := af) (g := g)
    rw [this]
    simp only [builtin, Sem.run_bind]
    simp [hr, Result.andThen, Sem.run_pure]
  unfold clearMX at hl
  split at hl
  · rename_i b
    split at hl
    · rename_i clock bs es hb
      cases hl
      obtain ⟨p, h1, h2⟩ := hm
      obtain ⟨p', o, g1, g2, l, rfl, g3, g4, g5⟩ := h.blk b _ hb
      rw [h1] at g1; cases g1
      have hlt := (Array.getElem?_eq_some_iff.1 g2).1
      obtain ⟨i1, i2⟩ := h.write (bk' := .map clock [] []) (w' := w.putObj p.r (.map #[] clock)) hb rfl h1 ⟨[], rfl, rfl, rfl, rfl⟩ (World.putObj_heap_same hlt) (fun r hr => World.putObj_heap_other hr) World.putObj_size rfl rfl rfl
      refine ⟨.tuple #[], _, μ, run _ ?_, ExtN.refl μ, i1, i2, [], rfl, rfl⟩
      simp [Builtin.clear_, run_underlying (Tab.map ht), h2, run_getObj_m g2, run_setObj_m _ g2]
    · cases hl
  · cases hl
theorem run_getObj_i {r : Nat} {m : Option Nat} {s : Nat} {seen : Array Nat} {l : Nat} (h : w.heap[r]? = some (.mapIter m s seen l)) : (getObj r).run P w = .ok (.mapIter m s seen l) w := by simp [getObj, Sem.run, h]
theorem run_setObj_i {r : Nat} {m : Option Nat} {s : Nat} {seen : Array Nat} {l : Nat} (o : Obj) (h : w.heap[r]? = some (.mapIter m s seen l)) : (setObj r o).run P w = .ok () (w.putObj r o) := by simp [setObj, Sem.run, h, World.putObj]
theorem entryStoreX_sound [Tab P] (h : Inv N μ H nx w) {m st v : V} {x3 : Operand} {H' : Tr Bk} (hm : m.rel μ (ρ x)) (hs : st.rel μ (ρ y)) (hv : v.rel μ (ρ x3)) (hl : entryStoreX H m st v = some H') : Does P N μ nx w (execOp ρ ⟨dst, .entryStore T x y x3, ty, pos, af, g⟩) (none, H', nx) := by
  unfold entryStoreX at hl
  split at hl
  · rename_i b kk n
    split at hl
    · rename_i clock bs es hb
      split at hl
      · rename_i i hi
        split at hl
        · rename_i k v0 he
          cases hl
          obtain ⟨p, h1, h2⟩ := hm
          obtain ⟨p', o, g1, g2, l, rfl, g3, g4, g5⟩ := h.blk b _ hb
          rw [h1] at g1; cases g1
          have hlt := (Array.getElem?_eq_some_iff.1 g2).1
          have hst : ρ y = .int kk (n : Int) := hs
          rw [← g5] at hi
          obtain ⟨d, e1, ⟨e', e2, e3⟩, e4, _⟩ := idxB_find l n 0 i hi
          rw [Nat.zero_add] at e1
          subst e1
          have hlt' : i < l.length := (List.getElem?_eq_some_iff.1 e2).1
          have hll : l.length = es.length := by have := congrArg List.length g3; simpa using this
          have hkey : e'.key = k := by
            have := congrArg (·[i]?) g3
            simpa [e2, he] using this
          obtain ⟨i1, i2⟩ := h.write (bk' := .map clock bs (es.set i (k, v))) (o := .map (l.modify i fun e => { e with val := ρ x3 }).toArray clock) (w' := w.putObj p.r (.map (l.modify i fun e => { e with val := ρ x3 }).toArray clock)) hb rfl h1 ⟨_, rfl, by
            refine List.ext_getElem? fun j => ?_
            have := congrArg (·[j]?) g3
            simp only [List.getElem?_map, List.getElem?_modify, List.getElem?_set] at this ⊢
            by_cases e : i = j
            · subst e
              have hl0 := (List.getElem?_eq_some_iff.1 e2).2
              simp [← hll, hlt', hl0, hkey]
            · simp [e, this], by
            have : (l.modify i fun e => { e with val := ρ x3 }).map (·.val) = (l.map (·.val)).set i (ρ x3) := by
              refine List.ext_getElem? fun j => ?_
              simp only [List.getElem?_map, List.getElem?_modify, List.getElem?_set]
              by_cases e : i = j
              · subst e; simp [hlt']
              · simp [e]
            rw [this, List.map_set]
            exact rels_set g4 hv, by
            rw [← g5]
            refine List.ext_getElem? fun j => ?_
            simp only [List.getElem?_map, List.getElem?_modify]
            by_cases e : i = j
            · subst e; simp [hlt']
            · simp [e]⟩ (World.putObj_heap_same hlt) (fun r hr => World.putObj_heap_other hr) World.putObj_size rfl rfl rfl
          refine ⟨_, μ, ?_, ExtN.refl μ, i1, i2⟩
          simp [execOp, Instr.entryStore, h2, hst, run_getObj_m g2, asInt, asIntOf, e4, run_setObj_m _ g2]
        · cases hl
      · cases hl
    · cases hl
  · cases hl
theorem rangeMX_sound [Tab P] (h : Inv N μ H nx w) {m : V} {r : V × Tr Bk × Nat} (hm : m.rel μ (ρ x)) {kk e : Nat} (ht : Tab.look P T = some ⟨.map kk e, sz, by', z⟩) (hl : rangeMX H nx m = some r) : Does P N μ nx w (execOp ρ ⟨dst, .range T x, ty, pos, af, g⟩) (some r.1, r.2.1, r.2.2) := by
  unfold rangeMX at hl
  split at hl
  · rename_i b
    split at hl
    · rename_i clock bs es hb
      cases hl
      obtain ⟨p, h1, h2⟩ := hm
      obtain ⟨p', o, g1, g2, l, rfl, g3, g4, g5⟩ := h.blk b _ hb
      rw [h1] at g1; cases g1
      obtain ⟨μ', k1, k2, k3, k4⟩ := h.alloc (.iter b clock [] clock) (.mapIter (some p.r) clock #[] clock) 0 0 fun μ' hx _ => ⟨rfl, p, hx _ _ h1, rfl⟩
      refine ⟨.pointer (some ⟨w.heap.size, 0, none⟩), _, μ', ?_, k1, k3, k4, _, k2, rfl⟩
      simp [execOp, Instr.range, run_underlying (Tab.map ht), h2, run_getObj_m g2]
    · cases hl
  · cases hl
theorem entryMX_sound [Tab P] (h : Inv N μ H nx w) {it r : V} (hm : it.rel μ (ρ x)) (hl : entryMX H it = some r) : Does P N μ nx w (execOp ρ ⟨dst, .entry x, ty, pos, af, g⟩) (some r, H, nx) := by
  unfold entryMX at hl
  split at hl
  · rename_i b
    split at hl
    · rename_i m since born last hb
      split at hl
      · rename_i clock bs es hbm
        split at hl
        · rename_i i hc hi
          split at hl
          · rename_i k v he
            cases hl
            have hc := Nat.eq_of_beq_eq_true hc
            subst hc
            obtain ⟨p, h1, h2⟩ := hm
            obtain ⟨p', o, g1, g2, hp0, pm, gm, rfl⟩ := h.blk b _ hb
            rw [h1] at g1; cases g1
            rw [hp0] at h2
            obtain ⟨pm', o2, f1, f2, l, rfl, f3, f4, f5⟩ := h.blk m _ hbm
            rw [gm] at f1; cases f1
            rw [← f5] at hi
            obtain ⟨d, e1, ⟨e', e2, e3⟩, _, e4⟩ := idxB_find l born 0 i hi
            rw [Nat.zero_add] at e1
            subst e1
            have hkey : e'.key = k := by
              have := congrArg (·[i]?) f3
              simpa [e2, he] using this
            obtain ⟨u, hu, hru⟩ := rels_get _ _ i v f4 (by simp [he])
            have hval : e'.val = u := by simpa [e2] using hu
            rw [e2] at e4
            refine Does.value h (.tuple #[e'.key, e'.val]) ?_ ⟨[e'.key, e'.val], rfl, _, _, rfl, (by rw [hkey]; exact ofConst_rel k), _, _, rfl, (by rw [hval]; exact hru), rfl⟩
            simp [execOp, Instr.entry, h2, run_getObj_i g2, run_getObj_m f2, e4]
          · cases hl
        · cases hl
      · cases hl
    · cases hl
  · cases hl
theorem hasB_eq (n : Nat) : ∀ l : List Nat, hasB n l = l.contains n
  | [] => rfl
  | b :: l => by
    simp only [hasB]
    split
    · rename_i hb; rw [Nat.eq_of_beq_eq_true hb]; simp
    · rename_i hb
      rw [hasB_eq n l]
      have : ¬ b = n := Nat.ne_of_beq_eq_false hb
      simp [List.contains_cons, Ne.symm this]
theorem leftB_filter (seen : List Nat) : ∀ (l : List MapEntry) (i : Nat), (leftB seen (l.map (·.born)) i).map (fun x => (l[x.1 - i]?, x.2)) = (l.filter fun e => !seen.contains e.born).map (fun e => (some e, e.born)) ∧ ∀ x, x ∈ leftB seen (l.map (·.born)) i → i ≤ x.1
  | [], i => ⟨rfl, fun x h => by cases h⟩
  | e :: l, i => by
    obtain ⟨h1, h2⟩ := leftB_filter seen l (i + 1)
    have step : (leftB seen (l.map (·.born)) (i + 1)).map (fun x => ((e :: l)[x.1 - i]?, x.2)) = (leftB seen (l.map (·.born)) (i + 1)).map (fun x => (l[x.1 - (i + 1)]?, x.2)) := by
      refine List.map_congr_left fun x hx => ?_
      have := h2 x hx
      rw [show x.1 - i = (x.1 - (i + 1)) + 1 by omega]
      simp
    simp only [List.map_cons, leftB]
    cases hb : hasB e.born seen with
    | true =>
      rw [hasB_eq] at hb
      simp only
      refine ⟨?_, fun x hx => Nat.le_of_succ_le (h2 x hx)⟩
      rw [step, h1, List.filter_cons, hb]; simp
    | false =>
      rw [hasB_eq] at hb
      simp only
      refine ⟨?_, fun x hx => ?_⟩
      · rw [List.map_cons, step, h1, List.filter_cons, hb]; simp
      · rcases List.mem_cons.1 hx with rfl | hx
        · exact Nat.le_refl _
        · exact Nat.le_of_succ_le (h2 x hx)
theorem nextMX_sound [Tab P] (h : Inv N μ H nx w) {it r : V} {H' : Tr Bk} (hm : it.rel μ (ρ x)) (hl : nextMX H it = some (r, H')) : Does P N μ nx w (execOp ρ ⟨dst, .next x false, ty, pos, af, g⟩) (some r, H', nx) := by
  unfold nextMX at hl
  split at hl
  · rename_i b
    split at hl
    · rename_i m since seen last hb
      split at hl
      · rename_i clock bs es hbm
        obtain ⟨p, h1, h2⟩ := hm
        obtain ⟨p', o, g1, g2, hp0, pm, gm, rfl⟩ := h.blk b _ hb
        rw [h1] at g1; cases g1
        rw [hp0] at h2
        obtain ⟨pm', o2, f1, f2, l, rfl, f3, f4, f5⟩ := h.blk m _ hbm
        rw [gm] at f1; cases f1
        have hfil := (leftB_filter seen l 0).1
        rw [f5] at hfil
        split at hl
        · rename_i hleft
          rw [hleft] at hfil
          have hnil : (l.filter fun e => !seen.contains e.born) = [] := by simpa using hfil.symm
          have hnil2 : (l.toArray.filter fun e => !seen.toArray.contains e.born) = #[] := by
            have : (l.toArray.filter fun e => !seen.toArray.contains e.born) = (l.filter fun e => !seen.contains e.born).toArray := by simp
            rw [this, hnil]
          have over : (!seen.toArray.isEmpty && !l.toArray.isEmpty && l.toArray.all fun e => decide (e.born ≥ last)) = false → r = .tup [.val (.bool false)] → H' = H → Does P N μ nx w (execOp ρ ⟨dst, .next x false, ty, pos, af, g⟩) (some r, H', nx) := fun hc hr hH => by
            subst hr hH
            refine Does.value h (.tuple #[.bool false]) ?_ ⟨[.bool false], rfl, _, _, rfl, rfl, rfl⟩
            have hall : ∀ a ∈ l, a.born ∈ seen := fun a ha => by
              have := List.filter_eq_nil_iff.1 hnil a ha
              simpa using this
            have hq1 : (l.toArray.filter fun e => !seen.toArray.contains e.born) = #[] := hnil2
            have hq2 : (#[] : Array MapEntry).filter (fun e => decide (e.born < since)) = #[] := rfl
            have hq3 : (#[] : Array MapEntry).filter (fun e => decide (e.born ≥ since)) = #[] := rfl
            have step := run_getObj_i (P := P) (w := w) g2
            have step2 := run_getObj_m (P := P) (w := w) f2
            simp only [execOp, h2, Instr.next, Sem.run_bind, step, step2, Result.andThen, hc, hnil2]
            simp [choose, Sem.run, Question.forced]
          split at hl
          · cases hl
            exact over (by simp) rfl rfl
          · rename_i s rest
            split at hl
            · rename_i hs1 hs2
              cases hl
              refine over ?_ rfl rfl
              rw [hasB_eq] at hs2
              have hs1 := Nat.blt_eq.mp hs1
              rw [← f5] at hs2
              simp only [List.contains_eq_mem, List.mem_map, decide_eq_true_eq] at hs2
              obtain ⟨e, he, hes⟩ := hs2
              have : (l.toArray.all fun e => decide (e.born ≥ last)) = false := by
                simp only [List.all_toArray, List.all_eq_false]
                exact ⟨e, he, by simp; omega⟩
              rw [this]; simp
            · cases hl
        · rename_i i born hleft
          split at hl
          · rename_i k v hs1 hs2
            cases hl
            have hs1 := Nat.blt_eq.mp hs1
            rw [hleft] at hfil
            simp only [List.map_cons, List.map_nil, Nat.sub_zero] at hfil
            obtain ⟨e', hfe, hle⟩ : ∃ e', (l.filter fun e => !([] : List Nat).contains e.born) = [e'] ∧ l[i]? = some e' ∧ e'.born = born := by
              cases hq : (l.filter fun e => !([] : List Nat).contains e.born) with
              | nil => rw [hq] at hfil; cases hfil
              | cons e' t =>
                rw [hq] at hfil
                simp only [List.map_cons, List.cons.injEq, Prod.mk.injEq] at hfil
                cases t with
                | nil => exact ⟨e', rfl, hfil.1.1, hfil.1.2.symm⟩
                | cons _ _ => simp at hfil
            obtain ⟨hle, hbe⟩ := hle
            have hl1 : l = [e'] := by rw [← hfe]; exact (List.filter_eq_self.2 (fun a _ => by simp)).symm
            have hkey : e'.key = k := by
              have := congrArg (·[i]?) f3
              simpa [hle, hs2] using this
            obtain ⟨u, hu, hru⟩ := rels_get _ _ i v f4 (by simp [hs2])
            have hval : e'.val = u := by simpa [hle] using hu
            have hlt := (Array.getElem?_eq_some_iff.1 g2).1
            obtain ⟨i1, i2⟩ := h.write (bk' := .iter m since [born] clock) (o := .mapIter (some pm.r) since #[born] clock) (w' := w.putObj p.r (.mapIter (some pm.r) since #[born] clock)) hb rfl h1 ⟨hp0, pm, gm, rfl⟩ (World.putObj_heap_same hlt) (fun r hr => World.putObj_heap_other hr) World.putObj_size rfl rfl rfl
            refine ⟨.tuple #[.bool true, e'.key, e'.val], _, μ, ?_, ExtN.refl μ, i1, i2, [.bool true, e'.key, e'.val], rfl, _, _, rfl, rfl, _, _, rfl, (by rw [hkey]; exact ofConst_rel k), _, _, rfl, (by rw [hval]; exact hru), rfl⟩
            subst hl1
            subst hbe
            have hset := run_setObj_i (P := P) (.mapIter (some pm.r) since #[e'.born] clock) g2
            simp [execOp, Instr.next, h2, Sem.run_bind, run_getObj_i g2, Result.andThen, run_getObj_m f2, Question.forced, hs1, Nat.not_le.2 hs1, hset]
          · cases hl
        · cases hl
      · cases hl
    · cases hl
  · cases hl
end
end Go.Xm

/- MACHINE X, PART G: maps; clear. -/
import Derived.Test.YtgbpggllmcpicaaGreatMachF
import Derived.RangeFuncRecord
namespace Go.Xm
open Go Go.Cr Go.RowKit
section
variable {P : Program} {N : Ns} {μ : Mu} {H : Tr Bk} {nx : Nat} {w : World} {s : Sem Next}
variable {ty : TypeId} {pos : String} {af : Array Edge} {g : Option (Nat × Bool)} {x y : Operand} {T T' : TypeId} {sz by' sz' by'' : Nat} {z z' : Option Value} {td td' : TD} {ρ : Operand → Value} {dst : Option Tmp}

theorem run_getObj_m {r : Nat} {es : Array MapEntry} {c : Nat} (h : w.heap[r]? = some (.map es c)) : (getObj r).run P w = .ok (.map es c) w := by simp [getObj, Sem.run, h]
theorem run_setObj_m {r : Nat} {es : Array MapEntry} {c : Nat} (o : Obj) (h : w.heap[r]? = some (.map es c)) : (setObj r o).run P w = .ok () (w.putObj r o) := by simp [setObj, Sem.run, h, World.putObj]

noncomputable def keyKind : TD → Option TypeDesc
  | .int k => some (.int k)
  | .string => some .string
  | .bool => some .bool
  | _ => none
theorem keyKind_of {d : TypeDesc} {kd : TypeDesc} (h : keyKind (TD.of d) = some kd) : d = kd := by
  cases d <;> simp [TD.of, keyKind] at h ⊢ <;> exact h
theorem checkKey_plain {kd : TypeDesc} (hu : P.underlying T = some kd) (hk : ∃ td, keyKind td = some kd) (e : Bool) (v : Value) : (Instr.checkKey e 10000 T v).run P w = .ok () w := by
  obtain ⟨td, hk⟩ := hk
  have key : ∀ q9, (Instr.checkKey e (q9 + 1) T v).run P w = .ok () w := fun q9 => by
    cases td <;> simp only [keyKind, Option.some.injEq, reduceCtorEq] at hk
    all_goals (subst hk; simp [Instr.checkKey, run_underlying hu])
  exact key 9999
noncomputable def findX (kind : TypeDesc) (k : Value) : List (Value × V) → Nat → Option (Option (Nat × V))
  | [], _ => some none
  | (k', v) :: es, i => match Instr.sameNow kind k k' with
    | some true => some (some (i, v))
    | some false => findX kind k es (i + 1)
    | none => none
theorem findX_none {kind : TypeDesc} {k : Value} : ∀ (es : List (Value × V)) (l : List MapEntry) (i : Nat), l.map (·.key) = es.map (·.1) → findX kind k es i = some none → Instr.findNow kind k l i = some none
  | [], [], _, _, _ => rfl
  | [], _ :: _, _, h, _ => by simp at h
  | _ :: _, [], _, h, _ => by simp at h
  | (k', v) :: es, e :: l, i, h, hf => by
    simp only [List.map_cons, List.cons.injEq] at h
    simp only [findX] at hf
    simp only [Instr.findNow, h.1]
    cases hs : Instr.sameNow kind k k' with
    | none => rw [hs] at hf; cases hf
    | some b => cases b with
      | true => rw [hs] at hf; cases hf
      | false => rw [hs] at hf; simp only; exact findX_none es l (i + 1) h.2 hf
theorem findX_some {kind : TypeDesc} {k : Value} {j : Nat} {v : V} : ∀ (es : List (Value × V)) (l : List MapEntry) (i : Nat), l.map (·.key) = es.map (·.1) → V.rels μ (es.map (·.2)) (l.map (·.val)) → findX kind k es i = some (some (j, v)) →
    ∃ u e, Instr.findNow kind k l i = some (some (j, u)) ∧ v.rel μ u ∧ i ≤ j ∧ l[j - i]? = some e ∧ Instr.sameNow kind k e.key = some true
  | [], [], _, _, _, h => by cases h
  | [], _ :: _, _, h, _, _ => by simp at h
  | _ :: _, [], _, h, _, _ => by simp at h
  | (k', v') :: es, e :: l, i, h, hr, hf => by
    simp only [List.map_cons, List.cons.injEq] at h
    obtain ⟨u, r, e1, h1, h2⟩ := hr
    simp only [List.map_cons, List.cons.injEq] at e1
    simp only [findX] at hf
    simp only [Instr.findNow, h.1]
    cases hs : Instr.sameNow kind k k' with
    | none => rw [hs] at hf; cases hf
    | some b => cases b with
      | true =>
        rw [hs] at hf; cases hf
        exact ⟨e.val, e, rfl, by rw [e1.1]; exact h1, Nat.le_refl _, by simp, by rw [h.1]; exact hs⟩
      | false =>
        rw [hs] at hf; simp only
        obtain ⟨u', e', g1, g2, g3, g4, g5⟩ := findX_some es l (i + 1) h.2 (by rw [e1.2]; exact h2) hf
        exact ⟨u', e', g1, g2, by omega, by rw [show j - i = (j - (i + 1)) + 1 by omega]; simpa using g4, g5⟩
theorem run_findKey {kd : TypeDesc} {k : Value} {es : List MapEntry} {r : Option (Nat × Value)} (hu : P.underlying T = some kd) (h : Instr.findNow kd k es 0 = some r) : (Instr.findKey T k es).run P w = .ok r w := by
  simp [Instr.findKey, run_underlying hu, h]

/-! ### make, len -/
theorem makeMapX_sound [Tab P] (h : Inv N μ H nx w) : Does P N μ nx w (execOp ρ ⟨dst, .makeMap T none, ty, pos, af, g⟩) (some (.map nx), H.put nx (some (.map [])), nx + 1) := by
  obtain ⟨μ', h1, h2, h3, h4⟩ := h.alloc (.map []) (.map #[] 0) 0 0 fun μ' hx _ => ⟨[], 0, rfl, rfl, rfl⟩
  exact ⟨.map (some w.heap.size), _, μ', by simp [execOp, Instr.makeMap], h1, h3, h4, _, h2, rfl⟩
theorem makeMapHintX_sound [Tab P] (h : Inv N μ H nx w) {k : IntKind} {n : Int} {kk e : Nat} (hx : ρ x = .int k n) (ht : Tab.look P T = some ⟨.map kk e, sz, by', z⟩) : Does P N μ nx w (execOp ρ ⟨dst, .makeMap T (some x), ty, pos, af, g⟩) (some (.map nx), H.put nx (some (.map [])), nx + 1) := by
  obtain ⟨μ', h1, h2, h3, h4⟩ := h.alloc (.map []) (.map #[] 0) 0 0 fun μ' hx _ => ⟨[], 0, rfl, rfl, rfl⟩
  refine ⟨.map (some w.heap.size), _, μ', ?_, h1, h3, h4, _, h2, rfl⟩
  simp [execOp, Instr.makeMap, hx, run_underlying (Tab.map ht), asInt, asIntOf]

/-! ### Look-ups -/
noncomputable def lookupX (H : Tr Bk) (kd : TypeDesc) (zv : Value) (ok : Bool) (m : V) (k : Value) : Option V :=
  let fin (r : Option (Nat × V)) : V := match r, ok with
    | some (_, v), true => .tup [v, .val (.bool true)]
    | some (_, v), false => v
    | none, true => .tup [V.ofConst zv, .val (.bool false)]
    | none, false => V.ofConst zv
  match m with
  | .map b => match H.get b with
    | some (.map es) => match findX kd k es 0 with
      | some r => some (fin r)
      | none => none
    | _ => none
  | .val (.map none) => some (fin none)
  | _ => none
theorem lookupX_sound [Tab P] (h : Inv N μ H nx w) {m r : V} {k : Value} {kk e : Nat} {kd : TypeDesc} {zv : Value} {ok : Bool} (hm : m.rel μ (ρ x)) (hk : ρ y = k) (ht : Tab.look P T = some ⟨.map kk e, sz, by', z⟩) (hkk : Tab.look P kk = some ⟨td, sz', by'', z'⟩) (hkd : keyKind td = some kd)
    {sz2 by2 : Nat} (he : Tab.look P e = some ⟨td', sz2, by2, some zv⟩) (hl : lookupX H kd zv ok m k = some r) : Does P N μ nx w (execOp ρ ⟨dst, .lookup T x y ok, ty, pos, af, g⟩) (some r, H, nx) := by
  obtain ⟨d, hd1, hd2⟩ := Tab.und hkk
  have hdk : d = kd := keyKind_of (by rw [hd2]; exact hkd)
  subst hdk
  have hck : ∀ e v, (Instr.checkKey e 10000 kk v).run P w = .ok () w := fun e v => checkKey_plain hd1 ⟨td, hkd⟩ e v
  unfold lookupX at hl
  split at hl
  · rename_i b
    split at hl
    · rename_i es hb
      obtain ⟨p, h1, h2⟩ := hm
      obtain ⟨p', o, g1, g2, l, clock, rfl, g3, g4⟩ := h.blk b _ hb
      rw [h1] at g1; cases g1
      split at hl
      · rename_i r' hf
        cases hl
        cases r' with
        | none =>
          have hfn := findX_none es l 0 g3 hf
          have hfk := run_findKey (w := w) hd1 hfn
          cases ok with
          | true =>
            refine Does.value h (.tuple #[zv, .bool false]) ?_ ⟨[zv, .bool false], rfl, _, _, rfl, ofConst_rel zv, _, _, rfl, rfl, rfl⟩
            simp [execOp, Instr.lookup, run_underlying (Tab.map ht), h2, hk, run_getObj_m g2, hck, hfk, Tab.zeroOf w he]
          | false =>
            refine Does.value h zv ?_ (ofConst_rel zv)
            simp [execOp, Instr.lookup, run_underlying (Tab.map ht), h2, hk, run_getObj_m g2, hck, hfk, Tab.zeroOf w he]
        | some q =>
          obtain ⟨j, v⟩ := q
          obtain ⟨u, e', k1, k2, _⟩ := findX_some es l 0 g3 g4 hf
          have hfk := run_findKey (w := w) hd1 k1
          cases ok with
          | true =>
            refine Does.value h (.tuple #[u, .bool true]) ?_ ⟨[u, .bool true], rfl, _, _, rfl, k2, _, _, rfl, rfl, rfl⟩
            simp [execOp, Instr.lookup, run_underlying (Tab.map ht), h2, hk, run_getObj_m g2, hck, hfk]
          | false =>
            refine Does.value h u ?_ k2
            simp [execOp, Instr.lookup, run_underlying (Tab.map ht), h2, hk, run_getObj_m g2, hck, hfk]
      · cases hl
    · cases hl
  · cases hl
    have h2 : ρ x = .map none := hm
    have hfk := run_findKey (P := P) (w := w) (k := k) (es := []) hd1 rfl
    cases ok with
    | true =>
      refine Does.value h (.tuple #[zv, .bool false]) ?_ ⟨[zv, .bool false], rfl, _, _, rfl, ofConst_rel zv, _, _, rfl, rfl, rfl⟩
      simp [execOp, Instr.lookup, run_underlying (Tab.map ht), h2, hk, hck, hfk, Tab.zeroOf w he]
    | false =>
      refine Does.value h zv ?_ (ofConst_rel zv)
      simp [execOp, Instr.lookup, run_underlying (Tab.map ht), h2, hk, hck, hfk, Tab.zeroOf w he]
  · cases hl

/-! ### Updates -/
theorem ba_eq {a b : ByteArray} (h : (a == b) = true) : a = b := by
  cases a; cases b
  have h : ByteArray.beq _ _ = true := h
  simp [ByteArray.beq] at h
  simp [h]
theorem ba_refl (a : ByteArray) : (a == a) = true := by
  cases a
  show ByteArray.beq _ _ = true
  simp [ByteArray.beq]
theorem same_bits {kd : TypeDesc} {a b : Value} (h : Instr.sameNow kd a b = some true) : Instr.sameBits 10000 b a = true := by
  unfold Instr.sameNow at h
  split at h
  · split at h
    · rename_i hk
      subst hk
      simp only [Option.some.injEq] at h
      have := eq_of_beq h
      subst this
      simp [Instr.sameBits]
    · cases h
  · simp only [Option.some.injEq] at h
    have := ba_eq h
    subst this
    show (_ == _) = true
    exact ba_refl _
  · simp only [Option.some.injEq] at h
    have := eq_of_beq h
    subst this
    simp [Instr.sameBits]
  · cases h
noncomputable def mapUpdateX (H : Tr Bk) (kd : TypeDesc) (m : V) (k : Value) (v : V) : Option (Tr Bk) :=
  match m with
  | .map b => match H.get b with
    | some (.map es) => match findX kd k es 0 with
      | some none => some (H.put b (some (.map (es ++ [(k, v)]))))
      | some (some (i, _)) => some (H.put b (some (.map (es.set i (k, v)))))
      | none => none
    | _ => none
  | _ => none
theorem mapUpdateX_sound [Tab P] (h : Inv N μ H nx w) {m v : V} {k : Value} {x3 : Operand} {kk e : Nat} {kd : TypeDesc} {H' : Tr Bk} (hm : m.rel μ (ρ x)) (hk : ρ y = k) (hv : v.rel μ (ρ x3)) (ht : Tab.look P T = some ⟨.map kk e, sz, by', z⟩) (hkk : Tab.look P kk = some ⟨td, sz', by'', z'⟩) (hkd : keyKind td = some kd)
    (hl : mapUpdateX H kd m k v = some H') : Does P N μ nx w (execOp ρ ⟨dst, .mapUpdate T x y x3, ty, pos, af, g⟩) (none, H', nx) := by
  obtain ⟨d, hd1, hd2⟩ := Tab.und hkk
  have hdk : d = kd := keyKind_of (by rw [hd2]; exact hkd)
  subst hdk
  have hck : ∀ e v, (Instr.checkKey e 10000 kk v).run P w = .ok () w := fun e v => checkKey_plain hd1 ⟨td, hkd⟩ e v
  unfold mapUpdateX at hl
  split at hl
  · rename_i b
    split at hl
    · rename_i es hb
      obtain ⟨p, h1, h2⟩ := hm
      obtain ⟨p', o, g1, g2, l, clock, rfl, g3, g4⟩ := h.blk b _ hb
      rw [h1] at g1; cases g1
      have hlt := (Array.getElem?_eq_some_iff.1 g2).1
      have write : ∀ (es' : List (Value × V)) (l' : List MapEntry) (c' : Nat), l'.map (·.key) = es'.map (·.1) → V.rels μ (es'.map (·.2)) (l'.map (·.val)) → Inv N μ (H.put b (some (.map es'))) nx (w.putObj p.r (.map l'.toArray c')) ∧ Keep N w (w.putObj p.r (.map l'.toArray c')) := fun es' l' c' e1 e2 =>
        h.write (bk' := .map es') hb rfl h1 ⟨l', c', rfl, e1, e2⟩ (World.putObj_heap_same hlt) (fun r hr => World.putObj_heap_other hr) World.putObj_size rfl rfl rfl
      have hll : l.length = es.length := by have := congrArg List.length g3; simpa using this
      split at hl
      · rename_i hf
        cases hl
        have hfk := run_findKey (w := w) hd1 (findX_none es l 0 g3 hf)
        obtain ⟨i1, i2⟩ := write (es ++ [(k, v)]) (l ++ [{ key := k, val := ρ x3, born := clock }]) (clock + 1) (by simp [g3]) (by
          rw [List.map_append, List.map_append]
          exact rels_append _ _ _ _ g4 ⟨_, _, rfl, hv, rfl⟩)
        refine ⟨_, μ, ?_, ExtN.refl μ, i1, i2⟩
        simp [execOp, Instr.mapUpdate, run_underlying (Tab.map ht), h2, hk, run_getObj_m g2, hck, hfk, run_setObj_m _ g2]
      · rename_i i v0 hf
        cases hl
        obtain ⟨u, e', k1, k2, k3, k4, k5⟩ := findX_some es l 0 g3 g4 hf
        have hfk := run_findKey (w := w) hd1 k1
        simp only [Nat.sub_zero] at k4
        have hlt' : i < l.length := (List.getElem?_eq_some_iff.1 k4).1
        obtain ⟨i1, i2⟩ := write (es.set i (k, v)) (l.modify i fun e => { e with key := k, val := ρ x3 }) clock (by
          refine List.ext_getElem? fun j => ?_
          have := congrArg (·[j]?) g3
          simp only [List.getElem?_map, List.getElem?_modify, List.getElem?_set] at this ⊢
          by_cases e : i = j
          · subst e; simp [hlt', ← hll]
          · simp [e, this]) (by
          have : (l.modify i fun e => { e with key := k, val := ρ x3 }).map (·.val) = (l.map (·.val)).set i (ρ x3) := by
            refine List.ext_getElem? fun j => ?_
            simp only [List.getElem?_map, List.getElem?_modify, List.getElem?_set]
            by_cases e : i = j
            · subst e; simp [hlt']
            · simp [e]
          rw [this, List.map_set]
          exact rels_set g4 hv)
        refine ⟨_, μ, ?_, ExtN.refl μ, i1, i2⟩
        have hkey : (Instr.keyThatStays e'.key k).run P w = .ok k w := by simp [Instr.keyThatStays, same_bits k5]
        have hget : ((l.toArray[i]?).map (·.key)).getD k = e'.key := by simp [k4]
        simp [execOp, Instr.mapUpdate, run_underlying (Tab.map ht), h2, hk, run_getObj_m g2, hck, hfk, k4, hkey, run_setObj_m _ g2]
      · cases hl
    · cases hl
  · cases hl
/-! ### Arrays as values -/
noncomputable def buildArrX (ev : Operand → Option V) (k : Nat) (zv : Value) (l : List (Nat × Operand)) : Option V :=
  match partsX ev l with
  | some ps => match fillX (fun i => some (i * k, k)) (zeroX zv) ps with
    | some out => some (.agg out)
    | none => none
  | none => none
theorem tdOf_array {d : TypeDesc} {m e : Nat} (h : TD.of d = .array m e) : d = .array m e := by
  cases d <;> simp [TD.of] at h ⊢; exact h
theorem buildArrX_sound [Tab P] {ev : Operand → Option V} (hev : ∀ x v, ev x = some v → v.rel μ (ρ x)) (h : Inv N μ H nx w) {parts : Array (Nat × Operand)} {m e : Nat} {zv : Value} {r : V} (ht : Tab.look P T = some ⟨.array m e, sz, by', some zv⟩) (he : Tab.look P e = some ⟨td, sz', by'', z'⟩) (hl : buildArrX ev sz' zv parts.toList = some r) :
    Does P N μ nx w (execOp ρ ⟨dst, .build T parts, ty, pos, af, g⟩) (some r, H, nx) := by
  unfold buildArrX at hl
  split at hl
  · rename_i ps hps
    split at hl
    · rename_i out hf
      cases hl
      obtain ⟨h1, h2⟩ := partsX_rel hev _ ps hps
      obtain ⟨d, hd1, hd2⟩ := Tab.und ht
      have := tdOf_array hd2
      subst this
      obtain ⟨r, g1, g2⟩ := fillX_rel (μ := μ) (fun i => some (i * sz', sz')) ps _ _ out zv.cells hf h1 h2 (rels_val _)
      refine Does.value h (.agg r) ?_ ⟨r.toList, by simp, g2⟩
      simp only [execOp, Sem.run_bind, Instr.build, Tab.zeroOf w ht, run_underlying hd1, Result.andThen, Tab.sizeOf w he]
      rw [show (Array.map (fun x => match x with | (i, x) => (i, ρ x)) parts).toList = parts.toList.map fun p => (p.1, ρ p.2) from by simp]
      rw [g1]
      rfl
    · cases hl
  · cases hl
noncomputable def indexArrX (agg : Bool) (k m : Nat) : V → V → Option V
  | v, .val (.int _ (.ofNat i)) => match Nat.blt i m with
    | true => fieldX agg k (i * k) v
    | false => none
  | _, _ => none
theorem indexArrX_sound [Tab P] (h : Inv N μ H nx w) {v i r : V} (hv : v.rel μ (ρ x)) (hi : i.rel μ (ρ y)) {m e : Nat} (ht : Tab.look P T = some ⟨.array m e, sz, by', z⟩) (he : Tab.look P e = some ⟨td, sz', by'', z'⟩) (hl : indexArrX td.isAgg sz' m v i = some r) :
    Does P N μ nx w (execOp ρ ⟨dst, .index T x y, ty, pos, af, g⟩) (some r, H, nx) := by
  unfold indexArrX at hl
  split at hl
  · rename_i k j
    split at hl
    · rename_i hlt
      have hlt := Nat.blt_eq.mp hlt
      have hy : ρ y = .int k (j : Int) := hi
      obtain ⟨d, hd1, hd2⟩ := Tab.und ht
      have := tdOf_array hd2
      subst this
      have hcond : (0 : Int) ≤ (j : Int) ∧ (j : Int) < (m : Int) := ⟨by omega, by omega⟩
      unfold fieldX at hl
      split at hl
      · obtain ⟨cs, h1, h2⟩ := hv
        split at hl
        · rename_i ha
          split at hl
          · cases hl
            refine Does.value h (.agg (cs.toArray.extract (j * sz') (j * sz' + sz'))) ?_ ⟨(cs.drop (j * sz')).take sz', ?_, rels_take _ _ _ (rels_drop _ _ _ h2)⟩
            · simp only [execOp, h1, hy, Instr.index, Sem.run_bind, run_underlying hd1, Result.andThen, asIntOf, Sem.run_pure, Sem.run_ite, if_pos hcond, Tab.sizeOf w he, Int.toNat_natCast, part, Tab.isAgg w he, ha]
              simp [Tab.sizeOf w he]
            · congr 1
              apply Array.ext'
              simp [List.extract_eq_take_drop]
          · cases hl
        · rename_i ha
          obtain ⟨u, hu, hru⟩ := rels_get _ _ _ _ h2 hl
          refine Does.value h u ?_ hru
          simp only [execOp, h1, hy, Instr.index, Sem.run_bind, run_underlying hd1, Result.andThen, asIntOf, Sem.run_pure, Sem.run_ite, if_pos hcond, Tab.sizeOf w he, Int.toNat_natCast, part, Tab.isAgg w he, ha]
          simp [hu]
      · cases hl
    · cases hl
  · cases hl
end
end Go.Xm

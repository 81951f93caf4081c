/- MACHINE X, PART G: maps; clear. -/
import Derived.Test.YtgbpggllmcpicaaGreatMachF
import Derived.RangeFuncRecord
import Derived.Laws.StructEq
namespace Go.Xm
open Go Go.Cr Go.RowKit
section
variable {P : Program} {N : Ns} {μ : Mu} {H : Tr Bk} {nx : Nat} {w : World} {s : Sem Next}
variable {ty : TypeId} {pos : String} {af : Array Edge} {g : Option (Nat × Bool)} {x y : Operand} {T T' : TypeId} {sz by' sz' by'' : Nat} {z z' : Option Value} {td td' : TD} {ρ : Operand → Value} {dst : Option Tmp}

theorem run_getObj_m {r : Nat} {es : Array MapEntry} {c : Nat} (h : w.heap[r]? = some (.map es c)) : (getObj r).run P w = .ok (.map es c) w := by simp [getObj, Sem.run, h]
theorem run_setObj_m {r : Nat} {es : Array MapEntry} {c : Nat} (o : Obj) (h : w.heap[r]? = some (.map es c)) : (setObj r o).run P w = .ok () (w.putObj r o) := by simp [setObj, Sem.run, h, World.putObj]

noncomputable def keyKind : TD → Option TypeDesc
  | .int k => some (.int k)
  | .string => some .string
  | .bool => some .bool
  | _ => none
theorem keyKind_of {d : TypeDesc} {kd : TypeDesc} (h : keyKind (TD.of d) = some kd) : d = kd := by
  cases d <;> simp [TD.of, keyKind] at h ⊢ <;> exact h
theorem checkKey_plain {kd : TypeDesc} (hu : P.underlying T = some kd) (hk : ∃ td, keyKind td = some kd) (e : Bool) (v : Value) : (Instr.checkKey e 10000 T v).run P w = .ok () w := by
  obtain ⟨td, hk⟩ := hk
  have key : ∀ q9, (Instr.checkKey e (q9 + 1) T v).run P w = .ok () w := fun q9 => by
    cases td <;> simp only [keyKind, Option.some.injEq, reduceCtorEq] at hk
    all_goals (subst hk; simp [Instr.checkKey, run_underlying hu])
  exact key 9999
noncomputable def findX (kind : TypeDesc) (k : Value) : List (Value × V) → Nat → Option (Option (Nat × V))
  | [], _ => some none
  | (k', v) :: es, i => match Instr.sameNow kind k k' with
    | some true => some (some (i, v))
    | some false => findX kind k es (i + 1)
    | none => none
theorem findX_none {kind : TypeDesc} {k : Value} : ∀ (es : List (Value × V)) (l : List MapEntry) (i : Nat), l.map (·.key) = es.map (·.1) → findX kind k es i = some none → Instr.findNow kind k l i = some none
  | [], [], _, _, _ => rfl
  | [], _ :: _, _, h, _ => by simp at h
  | _ :: _, [], _, h, _ => by simp at h
  | (k', v) :: es, e :: l, i, h, hf => by
    simp only [List.map_cons, List.cons.injEq] at h
    simp only [findX] at hf
    simp only [Instr.findNow, h.1]
    cases hs : Instr.sameNow kind k k' with
    | none => rw [hs] at hf; cases hf
    | some b => cases b with
      | true => rw [hs] at hf; cases hf
      | false => rw [hs] at hf; simp only; exact findX_none es l (i + 1) h.2 hf
theorem findX_some {kind : TypeDesc} {k : Value} {j : Nat} {v : V} : ∀ (es : List (Value × V)) (l : List MapEntry) (i : Nat), l.map (·.key) = es.map (·.1) → V.rels μ (es.map (·.2)) (l.map (·.val)) → findX kind k es i = some (some (j, v)) →
    ∃ u e, Instr.findNow kind k l i = some (some (j, u)) ∧ v.rel μ u ∧ i ≤ j ∧ l[j - i]? = some e ∧ Instr.sameNow kind k e.key = some true ∧ u = e.val
  | [], [], _, _, _, h => by cases h
  | [], _ :: _, _, h, _, _ => by simp at h
  | _ :: _, [], _, h, _, _ => by simp at h
  | (k', v') :: es, e :: l, i, h, hr, hf => by
    simp only [List.map_cons, List.cons.injEq] at h
    obtain ⟨u, r, e1, h1, h2⟩ := hr
    simp only [List.map_cons, List.cons.injEq] at e1
    simp only [findX] at hf
    simp only [Instr.findNow, h.1]
    cases hs : Instr.sameNow kind k k' with
    | none => rw [hs] at hf; cases hf
    | some b => cases b with
      | true =>
        rw [hs] at hf; cases hf
        exact ⟨e.val, e, rfl, by rw [e1.1]; exact h1, Nat.le_refl _, by simp, by rw [h.1]; exact hs, rfl⟩
      | false =>
        rw [hs] at hf; simp only
        obtain ⟨u', e', g1, g2, g3, g4, g5⟩ := findX_some es l (i + 1) h.2 (by rw [e1.2]; exact h2) hf
        exact ⟨u', e', g1, g2, by omega, by rw [show j - i = (j - (i + 1)) + 1 by omega]; simpa using g4, g5⟩
theorem run_findKey {kd : TypeDesc} {k : Value} {es : List MapEntry} {r : Option (Nat × Value)} (hu : P.underlying T = some kd) (h : Instr.findNow kd k es 0 = some r) : (Instr.findKey T k es).run P w = .ok r w := by
  simp [Instr.findKey, run_underlying hu, h]

theorem ba_eq {a b : ByteArray} (h : (a == b) = true) : a = b := by
  cases a; cases b
  have h : ByteArray.beq _ _ = true := h
  simp [ByteArray.beq] at h
  simp [h]
theorem ba_refl (a : ByteArray) : (a == a) = true := by
  cases a
  show ByteArray.beq _ _ = true
  simp [ByteArray.beq]
theorem same_bits {kd : TypeDesc} {a b : Value} (h : Instr.sameNow kd a b = some true) : Instr.sameBits 10000 b a = true := by
  unfold Instr.sameNow at h
  split at h
  · split at h
    · rename_i hk
      subst hk
      simp only [Option.some.injEq] at h
      have := eq_of_beq h
      subst this
      simp [Instr.sameBits]
    · cases h
  · simp only [Option.some.injEq] at h
    have := ba_eq h
    subst this
    show (_ == _) = true
    exact ba_refl _
  · simp only [Option.some.injEq] at h
    have := eq_of_beq h
    subst this
    simp [Instr.sameBits]
  · cases h
abbrev Find := List (Value × V) → Nat → Option (Option (Nat × V))
/-- What is asked of a search by a key of some type. -/
structure FindOK (P : Program) (kk : TypeId) (k : Value) (fd : Find) : Prop where
  ck : ∀ (w : World) (e : Bool), (Instr.checkKey e 10000 kk k).run P w = .ok () w
  nil : ∀ (w : World), (Instr.findKey kk k []).run P w = .ok none w
  none : ∀ (es : List (Value × V)) (l : List MapEntry), l.map (·.key) = es.map (·.1) → fd es 0 = some none → ∀ (w : World), (Instr.findKey kk k l).run P w = .ok none w
  some : ∀ (μ : Mu) (es : List (Value × V)) (l : List MapEntry) (j : Nat) (v : V), l.map (·.key) = es.map (·.1) → V.rels μ (es.map (·.2)) (l.map (·.val)) → fd es 0 = some (some (j, v)) →
    ∃ u e, (∀ (w : World), (Instr.findKey kk k l).run P w = .ok (some (j, u)) w) ∧ v.rel μ u ∧ l[j]? = some e ∧ u = e.val ∧ Instr.sameBits 10000 e.key k = true
theorem findX_ok [Tab P] {kk : Nat} {kd : TypeDesc} {k : Value} (hkk : Tab.look P kk = some ⟨td, sz', by'', z'⟩) (hkd : keyKind td = some kd) : FindOK P kk k (findX kd k) := by
  obtain ⟨d, hd1, hd2⟩ := Tab.und hkk
  have hdk : d = kd := keyKind_of (by rw [hd2]; exact hkd)
  subst hdk
  refine ⟨fun w e => checkKey_plain hd1 ⟨td, hkd⟩ e k, fun w => run_findKey hd1 rfl, fun es l h hf w => run_findKey hd1 (findX_none es l 0 h hf), fun μ es l j v h hr hf => ?_⟩
  obtain ⟨u, e', k1, k2, k3, k4, k5⟩ := findX_some es l 0 h hr hf
  exact ⟨u, e', fun w => run_findKey hd1 k1, k2, by simpa using k4, k5.2, same_bits k5.1⟩

/-! ### Keys of two ints -/
noncomputable def pairKind : TD → Option Nat
  | .array 2 e => some e
  | _ => none
noncomputable def findP (ik : IntKind) (a b : Int) : Find
  | [], _ => some none
  | (.agg ⟨[.int k1 a', .int k2 b']⟩, v) :: es, i => match decide (k1 = ik), decide (k2 = ik) with
    | true, true => match a == a' with
      | true => match b == b' with
        | true => some (some (i, v))
        | false => findP ik a b es (i + 1)
      | false => findP ik a b es (i + 1)
    | _, _ => none
  | _, _ => none
section
variable {e kk : Nat} {ik : IntKind} {a b : Int}
theorem run_part_int (hg : (isAgg e).run P w = .ok false w) (cs : Array Value) (off : Nat) (v : Value) (h : cs[off]? = some v) : (part e cs off).run P w = .ok v w := by
  simp [part, hg, h]
theorem pair_ck (h1 : P.underlying kk = some (.array 2 e)) (h2 : P.underlying e = some (.int ik)) (hg : (isAgg e).run P w = .ok false w) (hs : (sizeOf e).run P w = .ok 1 w) (em : Bool) (n : Nat) :
    (Instr.checkKey em (n + 2) kk (.agg #[.int ik a, .int ik b])).run P w = .ok () w := by
  have p0 := run_part_int (P := P) (w := w) hg #[.int ik a, .int ik b] 0 (.int ik a) rfl
  have p1 := run_part_int (P := P) (w := w) hg #[.int ik a, .int ik b] 1 (.int ik b) rfl
  have c : ∀ v, (Instr.checkKey em (n + 1) e (.int ik v)).run P w = .ok () w := fun v => by simp [Instr.checkKey, run_underlying h2]
  have hr : List.range' 0 2 1 = [0, 1] := rfl
  unfold Instr.checkKey
  simp [run_underlying h1, Std.Legacy.Range.forIn_eq_forIn_range', Std.Legacy.Range.size, hs, hr, List.forIn_cons, List.forIn_nil, p0, p1, c]
theorem pair_eq (h1 : P.underlying kk = some (.array 2 e)) (h2 : P.underlying e = some (.int ik)) (hg : (isAgg e).run P w = .ok false w) (hs : (sizeOf e).run P w = .ok 1 w) (a' b' : Int) :
    (Op.equal kk (.agg #[.int ik a, .int ik b]) (.agg #[.int ik a', .int ik b'])).run P w = .ok (a == a' && b == b') w := by
  have p0 := run_part_int (P := P) (w := w) hg #[.int ik a, .int ik b] 0 (.int ik a) rfl
  have p1 := run_part_int (P := P) (w := w) hg #[.int ik a, .int ik b] 1 (.int ik b) rfl
  have p0' := run_part_int (P := P) (w := w) hg #[.int ik a', .int ik b'] 0 (.int ik a') rfl
  have p1' := run_part_int (P := P) (w := w) hg #[.int ik a', .int ik b'] 1 (.int ik b') rfl
  have c : ∀ u v, (Op.equalIn (9998 + 1) e (.int ik u) (.int ik v)).run P w = .ok (u == v) w := fun u v => run_equalIn_int w 9998 e ik ik u v h2
  have hr : List.range' 0 2 1 = [0, 1] := rfl
  show (Op.equalIn ((9998 + 1) + 1) kk _ _).run P w = _
  generalize 9998 + 1 = d9 at c ⊢
  unfold Op.equalIn
  cases ha : (a == a') <;> cases hb : (b == b') <;>
    simp [run_underlying h1, Std.Legacy.Range.forIn_eq_forIn_range', Std.Legacy.Range.size, hs, hr, List.forIn_cons, List.forIn_nil, p0, p1, p0', p1', c, ha, hb]
end
section
variable {e kk : Nat} {ik : IntKind} {a b : Int}
theorem findP_cons {k' : Value} {v : V} {es : List (Value × V)} {i : Nat} {r : Option (Nat × V)} (h : findP ik a b ((k', v) :: es) i = some r) :
    ∃ a' b', k' = .agg #[.int ik a', .int ik b'] ∧ ((a == a' && b == b') = true ∧ r = some (i, v) ∨ (a == a' && b == b') = false ∧ findP ik a b es (i + 1) = some r) := by
  unfold findP at h
  split at h
  · rename_i heq; cases heq
  · rename_i k1 a' k2 b' v' es' i' heq
    cases heq
    split at h
    · rename_i h1 h2
      have h1 := of_decide_eq_true h1
      have h2 := of_decide_eq_true h2
      rw [h1, h2]
      refine ⟨_, _, rfl, ?_⟩
      split at h
      · rename_i ha
        split at h
        · rename_i hb; cases h; exact .inl ⟨by rw [ha, hb]; rfl, rfl⟩
        · rename_i hb; exact .inr ⟨by rw [ha, hb]; rfl, h⟩
      · rename_i ha; exact .inr ⟨by rw [ha]; rfl, h⟩
    · cases h
  · cases h
theorem askP_none (h1 : P.underlying kk = some (.array 2 e)) (h2 : P.underlying e = some (.int ik)) (hg : ∀ w, (isAgg e).run P w = .ok false w) (hs : ∀ w, (sizeOf e).run P w = .ok 1 w) (w : World) :
    ∀ (es : List (Value × V)) (l : List MapEntry) (i : Nat), l.map (·.key) = es.map (·.1) → findP ik a b es i = some none → (Instr.findAsking kk (.agg #[.int ik a, .int ik b]) l i).run P w = .ok none w
  | [], [], i, _, _ => by simp [Instr.findAsking]
  | [], _ :: _, _, h, _ => by simp at h
  | _ :: _, [], _, h, _ => by simp at h
  | (k', v) :: es, x :: l, i, h, hf => by
    simp only [List.map_cons, List.cons.injEq] at h
    obtain ⟨a', b', hk, hc⟩ := findP_cons hf
    have he := pair_eq (w := w) (a := a) (b := b) h1 h2 (hg w) (hs w) a' b'
    rcases hc with ⟨_, hr⟩ | ⟨hq, hf'⟩
    · cases hr
    · rw [hq] at he
      have ih := askP_none h1 h2 hg hs w es l (i + 1) h.2 hf'
      simp [Instr.findAsking, h.1, hk, he, ih]
theorem askP_some (h1 : P.underlying kk = some (.array 2 e)) (h2 : P.underlying e = some (.int ik)) (hg : ∀ w, (isAgg e).run P w = .ok false w) (hs : ∀ w, (sizeOf e).run P w = .ok 1 w) {μ : Mu} {j : Nat} {v : V} :
    ∀ (es : List (Value × V)) (l : List MapEntry) (i : Nat), l.map (·.key) = es.map (·.1) → V.rels μ (es.map (·.2)) (l.map (·.val)) → findP ik a b es i = some (some (j, v)) →
    ∃ u e', (∀ w : World, (Instr.findAsking kk (.agg #[.int ik a, .int ik b]) l i).run P w = .ok (some (j, u)) w) ∧ v.rel μ u ∧ i ≤ j ∧ l[j - i]? = some e' ∧ u = e'.val ∧ e'.key = .agg #[.int ik a, .int ik b]
  | [], [], i, _, _, hf => by simp [findP] at hf
  | [], _ :: _, _, h, _, _ => by simp at h
  | _ :: _, [], _, h, _, _ => by simp at h
  | (k', v') :: es, x :: l, i, h, hr, hf => by
    simp only [List.map_cons, List.cons.injEq] at h
    obtain ⟨u, r, e1, g1, g2⟩ := hr
    simp only [List.map_cons, List.cons.injEq] at e1
    obtain ⟨a', b', hk, hc⟩ := findP_cons hf
    have he := fun w : World => pair_eq (w := w) (a := a) (b := b) h1 h2 (hg w) (hs w) a' b'
    rcases hc with ⟨hq, hr⟩ | ⟨hq, hf'⟩
    · cases hr
      rw [hq] at he
      simp only [Bool.and_eq_true, beq_iff_eq] at hq
      obtain ⟨rfl, rfl⟩ := hq
      exact ⟨x.val, x, fun w => by simp [Instr.findAsking, h.1, hk, he w], by rw [e1.1]; exact g1, Nat.le_refl _, by simp, rfl, by rw [h.1, hk]⟩
    · rw [hq] at he
      obtain ⟨u', e', k1, k2, k3, k4, k5, k6⟩ := askP_some h1 h2 hg hs es l (i + 1) h.2 (by rw [e1.2]; exact g2) hf'
      exact ⟨u', e', fun w => by simp [Instr.findAsking, h.1, hk, he w, k1 w], k2, by omega, by rw [show j - i = (j - (i + 1)) + 1 by omega]; simpa using k4, k5, k6⟩
theorem findP_ok (h1 : P.underlying kk = some (.array 2 e)) (h2 : P.underlying e = some (.int ik)) (hg : ∀ w, (isAgg e).run P w = .ok false w) (hs : ∀ w, (sizeOf e).run P w = .ok 1 w) : FindOK P kk (.agg #[.int ik a, .int ik b]) (findP ik a b) := by
  have now : ∀ (l : List MapEntry) (r : Option (Nat × Value)) (w : World), (Instr.findAsking kk (.agg #[.int ik a, .int ik b]) l 0).run P w = .ok r w → (Instr.findKey kk (.agg #[.int ik a, .int ik b]) l).run P w = .ok r w := fun l r w h => by
    cases l with
    | nil =>
      simp [Instr.findAsking] at h
      subst h
      simp [Instr.findKey, run_underlying h1, Instr.findNow]
    | cons x l =>
      have : Instr.findNow (.array 2 e) (.agg #[.int ik a, .int ik b]) (x :: l) 0 = none := by simp [Instr.findNow, Instr.sameNow]
      simp only [Instr.findKey, Sem.run_bind, run_underlying h1, Result.andThen, this]
      exact h
  refine ⟨fun w em => pair_ck h1 h2 (hg w) (hs w) em 9998, fun w => now [] none w (by simp [Instr.findAsking]), fun es l h hf w => now _ _ w (askP_none h1 h2 hg hs w es l 0 h hf), fun μ es l j v h hr hf => ?_⟩
  obtain ⟨u, e', k1, k2, _, k4, k5, k6⟩ := askP_some h1 h2 hg hs es l 0 h hr hf
  exact ⟨u, e', fun w => now _ _ w (k1 w), k2, by simpa using k4, k5, by rw [k6]; simp [Instr.sameBits]⟩
end
/-- The search by a key. -/
noncomputable def finder (P : Program) [Tab P] (kk : Nat) (kv : V) : Option (Value × Find) := match Tab.look P kk with
  | some rk => match kv with
    | .val k => match keyKind rk.td with
      | some kd => some (k, findX kd k)
      | none => none
    | .agg [.val (.int k1 a), .val (.int k2 b)] => match pairKind rk.td with
      | some e => match Tab.look P e with
        | some ⟨.int ik, 1, _, _⟩ => match decide (k1 = ik), decide (k2 = ik) with
          | true, true => some (.agg ⟨[.int ik a, .int ik b]⟩, findP ik a b)
          | _, _ => none
        | _ => none
      | none => none
    | _ => none
  | none => none
theorem finder_ok [Tab P] {kk : Nat} {kv : V} {r : Value × Find} {u : Value} (h : finder P kk kv = some r) (hv : kv.rel μ u) : u = r.1 ∧ FindOK P kk r.1 r.2 := by
  unfold finder at h
  split at h
  · rename_i rk hk
    obtain ⟨td, sz, by', z⟩ := rk
    split at h
    · rename_i k
      split at h
      · rename_i kd hkd
        cases h
        exact ⟨hv, findX_ok hk hkd⟩
      · cases h
    · rename_i k1 a k2 b
      split at h
      · rename_i e he
        have htd : td = .array 2 e := by
          simp only at he
          unfold pairKind at he
          split at he
          · cases he; rfl
          · cases he
        subst htd
        split at h
        · rename_i ik _ _ hte
          split at h
          · rename_i g1 g2
            have g1 := of_decide_eq_true g1
            have g2 := of_decide_eq_true g2
            rw [g1, g2] at hv
            cases h
            obtain ⟨cs, rfl, u1, r1, rfl, e1, u2, r2, rfl, e2, e3⟩ := hv
            have e3 : r2 = [] := e3
            have e1 : u1 = .int ik a := e1
            have e2 : u2 = .int ik b := e2
            subst e1; subst e2; subst e3
            obtain ⟨d, hd1, hd2⟩ := Tab.und hk
            have hd : d = .array 2 e := by
              cases d <;> simp [TD.of] at hd2 ⊢
              exact hd2
            subst hd
            exact ⟨rfl, findP_ok hd1 (Tab.int hte) (fun w => Tab.isAgg w hte) (fun w => Tab.sizeOf w hte)⟩
          · cases h
        · cases h
      · cases h
    · cases h
  · cases h
/-! ### make, len -/
theorem makeMapX_sound [Tab P] (h : Inv N μ H nx w) : Does P N μ nx w (execOp ρ ⟨dst, .makeMap T none, ty, pos, af, g⟩) (some (.map nx), H.put nx (some (.map 0 [] [])), nx + 1) := by
  obtain ⟨μ', h1, h2, h3, h4⟩ := h.alloc (.map 0 [] []) (.map #[] 0) 0 0 fun μ' hx _ => ⟨[], rfl, rfl, rfl, rfl⟩
  exact ⟨.map (some w.heap.size), _, μ', by simp [execOp, Instr.makeMap], h1, h3, h4, _, h2, rfl⟩
theorem makeMapHintX_sound [Tab P] (h : Inv N μ H nx w) {k : IntKind} {n : Int} {kk e : Nat} (hx : ρ x = .int k n) (ht : Tab.look P T = some ⟨.map kk e, sz, by', z⟩) : Does P N μ nx w (execOp ρ ⟨dst, .makeMap T (some x), ty, pos, af, g⟩) (some (.map nx), H.put nx (some (.map 0 [] [])), nx + 1) := by
  obtain ⟨μ', h1, h2, h3, h4⟩ := h.alloc (.map 0 [] []) (.map #[] 0) 0 0 fun μ' hx _ => ⟨[], rfl, rfl, rfl, rfl⟩
  refine ⟨.map (some w.heap.size), _, μ', ?_, h1, h3, h4, _, h2, rfl⟩
  simp [execOp, Instr.makeMap, hx, run_underlying (Tab.map ht), asInt, asIntOf]

/-! ### Look-ups -/
noncomputable def lookupX (H : Tr Bk) (fd : Find) (zv : Value) (ok : Bool) (m : V) : Option V :=
  let fin (r : Option (Nat × V)) : V := match r, ok with
    | some (_, v), true => .tup [v, .val (.bool true)]
    | some (_, v), false => v
    | none, true => .tup [V.ofConst zv, .val (.bool false)]
    | none, false => V.ofConst zv
  match m with
  | .map b => match H.get b with
    | some (.map _ _ es) => match fd es 0 with
      | some r => some (fin r)
      | none => none
    | _ => none
  | .val (.map none) => some (fin none)
  | _ => none
theorem lookupX_sound [Tab P] (h : Inv N μ H nx w) {m r : V} {k : Value} {kk e : Nat} {fd : Find} {zv : Value} {ok : Bool} (hm : m.rel μ (ρ x)) (hk : ρ y = k) (ht : Tab.look P T = some ⟨.map kk e, sz, by', z⟩) (hfd : FindOK P kk k fd)
    {sz2 by2 : Nat} (he : Tab.look P e = some ⟨td', sz2, by2, some zv⟩) (hl : lookupX H fd zv ok m = some r) : Does P N μ nx w (execOp ρ ⟨dst, .lookup T x y ok, ty, pos, af, g⟩) (some r, H, nx) := by
  have hck := fun e => hfd.ck w e
  unfold lookupX at hl
  split at hl
  · rename_i b
    split at hl
    · rename_i clock bs es hb
      obtain ⟨p, h1, h2⟩ := hm
      obtain ⟨p', o, g1, g2, l, rfl, g3, g4, g5⟩ := h.blk b _ hb
      rw [h1] at g1; cases g1
      split at hl
      · rename_i r' hf
        cases hl
        cases r' with
        | none =>
          have hfk := hfd.none es l g3 hf w
          cases ok with
          | true =>
            refine Does.value h (.tuple #[zv, .bool false]) ?_ ⟨[zv, .bool false], rfl, _, _, rfl, ofConst_rel zv, _, _, rfl, rfl, rfl⟩
            simp [execOp, Instr.lookup, run_underlying (Tab.map ht), h2, hk, run_getObj_m g2, hck, hfk, Tab.zeroOf w he]
          | false =>
            refine Does.value h zv ?_ (ofConst_rel zv)
            simp [execOp, Instr.lookup, run_underlying (Tab.map ht), h2, hk, run_getObj_m g2, hck, hfk, Tab.zeroOf w he]
        | some q =>
          obtain ⟨j, v⟩ := q
          obtain ⟨u, e', k1, k2, _⟩ := hfd.some μ es l j v g3 g4 hf
          have hfk := k1 w
          cases ok with
          | true =>
            refine Does.value h (.tuple #[u, .bool true]) ?_ ⟨[u, .bool true], rfl, _, _, rfl, k2, _, _, rfl, rfl, rfl⟩
            simp [execOp, Instr.lookup, run_underlying (Tab.map ht), h2, hk, run_getObj_m g2, hck, hfk]
          | false =>
            refine Does.value h u ?_ k2
            simp [execOp, Instr.lookup, run_underlying (Tab.map ht), h2, hk, run_getObj_m g2, hck, hfk]
      · cases hl
    · cases hl
  · cases hl
    have h2 : ρ x = .map none := hm
    have hfk := hfd.nil w
    cases ok with
    | true =>
      refine Does.value h (.tuple #[zv, .bool false]) ?_ ⟨[zv, .bool false], rfl, _, _, rfl, ofConst_rel zv, _, _, rfl, rfl, rfl⟩
      simp [execOp, Instr.lookup, run_underlying (Tab.map ht), h2, hk, hck, hfk, Tab.zeroOf w he]
    | false =>
      refine Does.value h zv ?_ (ofConst_rel zv)
      simp [execOp, Instr.lookup, run_underlying (Tab.map ht), h2, hk, hck, hfk, Tab.zeroOf w he]
  · cases hl

/-! ### Updates -/
noncomputable def mapUpdateX (H : Tr Bk) (fd : Find) (m : V) (k : Value) (v : V) : Option (Tr Bk) :=
  match m with
  | .map b => match H.get b with
    | some (.map c bs es) => match fd es 0 with
      | some none => some (H.put b (some (.map (c + 1) (bs ++ [c]) (es ++ [(k, v)]))))
      | some (some (i, _)) => some (H.put b (some (.map c bs (es.set i (k, v)))))
      | none => none
    | _ => none
  | _ => none
theorem mapUpdateX_sound [Tab P] (h : Inv N μ H nx w) {m v : V} {k : Value} {x3 : Operand} {kk e : Nat} {fd : Find} {H' : Tr Bk} (hm : m.rel μ (ρ x)) (hk : ρ y = k) (hv : v.rel μ (ρ x3)) (ht : Tab.look P T = some ⟨.map kk e, sz, by', z⟩) (hfd : FindOK P kk k fd)
    (hl : mapUpdateX H fd m k v = some H') : Does P N μ nx w (execOp ρ ⟨dst, .mapUpdate T x y x3, ty, pos, af, g⟩) (none, H', nx) := by
  have hck := fun e => hfd.ck w e
  unfold mapUpdateX at hl
  split at hl
  · rename_i b
    split at hl
    · rename_i clock bs es hb
      obtain ⟨p, h1, h2⟩ := hm
      obtain ⟨p', o, g1, g2, l, rfl, g3, g4, g5⟩ := h.blk b _ hb
      rw [h1] at g1; cases g1
      have hlt := (Array.getElem?_eq_some_iff.1 g2).1
      have write : ∀ (es' : List (Value × V)) (l' : List MapEntry) (c' : Nat) (bs' : List Nat), l'.map (·.key) = es'.map (·.1) → V.rels μ (es'.map (·.2)) (l'.map (·.val)) → l'.map (·.born) = bs' → Inv N μ (H.put b (some (.map c' bs' es'))) nx (w.putObj p.r (.map l'.toArray c')) ∧ Keep N w (w.putObj p.r (.map l'.toArray c')) := fun es' l' c' bs' e1 e2 e3 =>
        h.write (bk' := .map c' bs' es') hb rfl h1 ⟨l', rfl, e1, e2, e3⟩ (World.putObj_heap_same hlt) (fun r hr => World.putObj_heap_other hr) World.putObj_size rfl rfl rfl
      have hll : l.length = es.length := by have := congrArg List.length g3; simpa using this
      split at hl
      · rename_i hf
        cases hl
        have hfk := hfd.none es l g3 hf w
        obtain ⟨i1, i2⟩ := write (es ++ [(k, v)]) (l ++ [{ key := k, val := ρ x3, born := clock }]) (clock + 1) (bs ++ [clock]) (by simp [g3]) (by
          rw [List.map_append, List.map_append]
          exact rels_append _ _ _ _ g4 ⟨_, _, rfl, hv, rfl⟩) (by simp [g5])
        refine ⟨_, μ, ?_, ExtN.refl μ, i1, i2⟩
        simp [execOp, Instr.mapUpdate, run_underlying (Tab.map ht), h2, hk, run_getObj_m g2, hck, hfk, run_setObj_m _ g2]
      · rename_i i v0 hf
        cases hl
        obtain ⟨u, e', k1, k2, k4, k5⟩ := hfd.some μ es l _ _ g3 g4 hf
        have hfk := k1 w
        have hlt' : i < l.length := (List.getElem?_eq_some_iff.1 k4).1
        obtain ⟨i1, i2⟩ := write (es.set i (k, v)) (l.modify i fun e => { e with key := k, val := ρ x3 }) clock bs (by
          refine List.ext_getElem? fun j => ?_
          have := congrArg (·[j]?) g3
          simp only [List.getElem?_map, List.getElem?_modify, List.getElem?_set] at this ⊢
          by_cases e : i = j
          · subst e; simp [hlt', ← hll]
          · simp [e, this]) (by
          have : (l.modify i fun e => { e with key := k, val := ρ x3 }).map (·.val) = (l.map (·.val)).set i (ρ x3) := by
            refine List.ext_getElem? fun j => ?_
            simp only [List.getElem?_map, List.getElem?_modify, List.getElem?_set]
            by_cases e : i = j
            · subst e; simp [hlt']
            · simp [e]
          rw [this, List.map_set]
          exact rels_set g4 hv) (by
          rw [← g5]
          refine List.ext_getElem? fun j => ?_
          simp only [List.getElem?_map, List.getElem?_modify]
          by_cases e : i = j
          · subst e; simp [hlt']
          · simp [e])
        refine ⟨_, μ, ?_, ExtN.refl μ, i1, i2⟩
        have hkey : (Instr.keyThatStays e'.key k).run P w = .ok k w := by simp [Instr.keyThatStays, k5.2]
        have hget : ((l.toArray[i]?).map (·.key)).getD k = e'.key := by simp [k4]
        simp [execOp, Instr.mapUpdate, run_underlying (Tab.map ht), h2, hk, run_getObj_m g2, hck, hfk, k4, hkey, run_setObj_m _ g2]
      · cases hl
    · cases hl
  · cases hl
/-! ### Arrays as values -/
noncomputable def buildArrX (ev : Operand → Option V) (k : Nat) (zv : Value) (l : List (Nat × Operand)) : Option V :=
  match partsX ev l with
  | some ps => match fillX (fun i => some (i * k, k)) (zeroX zv) ps with
    | some out => some (.agg out)
    | none => none
  | none => none
theorem tdOf_array {d : TypeDesc} {m e : Nat} (h : TD.of d = .array m e) : d = .array m e := by
  cases d <;> simp [TD.of] at h ⊢; exact h
theorem buildArrX_sound [Tab P] {ev : Operand → Option V} (hev : ∀ x v, ev x = some v → v.rel μ (ρ x)) (h : Inv N μ H nx w) {parts : Array (Nat × Operand)} {m e : Nat} {zv : Value} {r : V} (ht : Tab.look P T = some ⟨.array m e, sz, by', some zv⟩) (he : Tab.look P e = some ⟨td, sz', by'', z'⟩) (hl : buildArrX ev sz' zv parts.toList = some r) :
    Does P N μ nx w (execOp ρ ⟨dst, .build T parts, ty, pos, af, g⟩) (some r, H, nx) := by
  unfold buildArrX at hl
  split at hl
  · rename_i ps hps
    split at hl
    · rename_i out hf
      cases hl
      obtain ⟨h1, h2⟩ := partsX_rel hev _ ps hps
      obtain ⟨d, hd1, hd2⟩ := Tab.und ht
      have := tdOf_array hd2
      subst this
      obtain ⟨r, g1, g2⟩ := fillX_rel (μ := μ) (fun i => some (i * sz', sz')) ps _ _ out zv.cells hf h1 h2 (rels_val _)
      refine Does.value h (.agg r) ?_ ⟨r.toList, by simp, g2⟩
      simp only [execOp, Sem.run_bind, Instr.build, Tab.zeroOf w ht, run_underlying hd1, Result.andThen, Tab.sizeOf w he]
      rw [show (Array.map (fun x => match x with | (i, x) => (i, ρ x)) parts).toList = parts.toList.map fun p => (p.1, ρ p.2) from by simp]
      rw [g1]
      rfl
    · cases hl
  · cases hl
noncomputable def indexArrX (agg : Bool) (k m : Nat) : V → V → Option V
  | v, .val (.int _ (.ofNat i)) => match Nat.blt i m with
    | true => fieldX agg k (i * k) v
    | false => none
  | _, _ => none
theorem indexArrX_sound [Tab P] (h : Inv N μ H nx w) {v i r : V} (hv : v.rel μ (ρ x)) (hi : i.rel μ (ρ y)) {m e : Nat} (ht : Tab.look P T = some ⟨.array m e, sz, by', z⟩) (he : Tab.look P e = some ⟨td, sz', by'', z'⟩) (hl : indexArrX td.isAgg sz' m v i = some r) :
    Does P N μ nx w (execOp ρ ⟨dst, .index T x y, ty, pos, af, g⟩) (some r, H, nx) := by
  unfold indexArrX at hl
  split at hl
  · rename_i k j
    split at hl
    · rename_i hlt
      have hlt := Nat.blt_eq.mp hlt
      have hy : ρ y = .int k (j : Int) := hi
      obtain ⟨d, hd1, hd2⟩ := Tab.und ht
      have := tdOf_array hd2
      subst this
      have hcond : (0 : Int) ≤ (j : Int) ∧ (j : Int) < (m : Int) := ⟨by omega, by omega⟩
      unfold fieldX at hl
      split at hl
      · obtain ⟨cs, h1, h2⟩ := hv
        split at hl
        · rename_i ha
          split at hl
          · cases hl
            refine Does.value h (.agg (cs.toArray.extract (j * sz') (j * sz' + sz'))) ?_ ⟨(cs.drop (j * sz')).take sz', ?_, rels_take _ _ _ (rels_drop _ _ _ h2)⟩
            · simp only [execOp, h1, hy, Instr.index, Sem.run_bind, run_underlying hd1, Result.andThen, asIntOf, Sem.run_pure, Sem.run_ite, if_pos hcond, Tab.sizeOf w he, Int.toNat_natCast, part, Tab.isAgg w he, ha]
              simp [Tab.sizeOf w he]
            · congr 1
              apply Array.ext'
              simp [List.extract_eq_take_drop]
          · cases hl
        · rename_i ha
          obtain ⟨u, hu, hru⟩ := rels_get _ _ _ _ h2 hl
          refine Does.value h u ?_ hru
          simp only [execOp, h1, hy, Instr.index, Sem.run_bind, run_underlying hd1, Result.andThen, asIntOf, Sem.run_pure, Sem.run_ite, if_pos hcond, Tab.sizeOf w he, Int.toNat_natCast, part, Tab.isAgg w he, ha]
          simp [hu]
      · cases hl
    · cases hl
  · cases hl
end
end Go.Xm

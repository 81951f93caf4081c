/- THE OWN LAYER, PART K: the ways out; slices of parts; append onto what is nil or full; rows begun, frozen; comparisons with nil; strings. -/
import Derived.Test.YtgbpggllmcpicaaGreatCoreJ
namespace Go.Cr
open Go Go.RowKit

section
variable {σ : Sg} {K : Sg → Prop} {Q : Exit → Sg → Prop} {i id : Nat}
theorem QS.n (h : K σ) : QS K Q .normal σ := h
theorem QS.r (h : Q .ret σ) : QS K Q .ret σ := h
theorem QS.e (h : Q (.exit i) σ) : QS K Q (.exit i) σ := h
theorem QB.n (h : Q .normal σ) : QB id Q .normal σ := h
theorem QB.r (h : Q .ret σ) : QB id Q .ret σ := h
theorem QB.hit (hi : Nat.beq i id = true) (h : Q .normal σ) : QB id Q (.exit i) σ := by simp only [QB, hi, cond_true]; exact h
theorem QB.miss (hi : Nat.beq i id = false) (h : Q (.exit i) σ) : QB id Q (.exit i) σ := by simp only [QB, hi, cond_false]; exact h
end

section
variable {n : Nat} {c : Cx n} {σ : Sg} {ρ : Nat → R} {a : Act} {w : World}
variable {P : Program} {s : Nat} {ty : TypeId} {pos : String} {af : Array Edge} {g : Option (Nat × Bool)} {x y : Operand} {T T' : TypeId} {k k' : IntKind} {m m' : Int}
variable {sz by' sz' by'' : Nat} {z z' : Option Value} {td : TD}

/-! ### '[]T{a, b, ..}' -/
theorem fill_all {ok : Nat → Prop} (size : Nat) (place : Nat → Option (Nat × Nat)) (hp : ∀ i, place i = some (i * size, size)) : ∀ (ys : List I) (vs : List Value) (j : Nat) (cells : Array Value), I.dens ok w ys vs → (∀ i ∈ ys, i.ncells = size) → (j + ys.length) * size ≤ cells.size →
    ∃ r news, Instr.fill place cells ((vs.zipIdx j).map fun p => (p.2, p.1)) = some r ∧ r.size = cells.size ∧ I.flat ok w ys size news ∧ (∀ t, t < j * size → r[t]? = cells[t]?) ∧ (∀ t v, news[t]? = some v → r[j * size + t]? = some v)
  | [], vs, j, cells, hd, _, _ => by
    simp only [I.dens] at hd; subst hd
    exact ⟨cells, [], rfl, rfl, rfl, fun _ _ => rfl, fun t v h => by simp at h⟩
  | y :: ys, _, j, cells, ⟨v, vs, rfl, h1, h2⟩, hn, hle => by
    have hy : v.cells.size = size := by rw [den_ncells h1]; exact hn y (by simp)
    simp only [List.length_cons] at hle
    have hle3 : (j + 1 + ys.length) * size = j * size + size + ys.length * size := by rw [Nat.add_mul, Nat.add_mul]; omega
    have hle2 : j * size + size + ys.length * size ≤ cells.size := by
      have e : (j + (ys.length + 1)) * size = j * size + size + ys.length * size := by
        rw [Nat.add_mul, Nat.add_mul]; omega
      rw [e] at hle; exact hle
    have hget := fill_get (j * size) v.cells.toList 0 cells (by simp; omega)
    have e1 : v.cells.zipIdx.foldl (fun cs (p : Value × Nat) => cs.setIfInBounds (j * size + p.2) p.1) cells = (v.cells.toList.zipIdx 0).foldl (fun cs (p : Value × Nat) => cs.setIfInBounds (j * size + p.2) p.1) cells := by
      rw [← Array.foldl_toList, Array.toList_zipIdx]
    have hsize : (v.cells.zipIdx.foldl (fun cs (p : Value × Nat) => cs.setIfInBounds (j * size + p.2) p.1) cells).size = cells.size := by
      have hlen := congrArg List.length (fill_one (j * size) v.cells.toList cells (by simp; omega))
      rw [← e1, Array.length_toList] at hlen
      rw [hlen]
      simp; omega
    obtain ⟨r, news, g1, g2, g3, g4, g5⟩ := fill_all size place hp ys vs (j + 1) (v.cells.zipIdx.foldl (fun cs (p : Value × Nat) => cs.setIfInBounds (j * size + p.2) p.1) cells) h2 (fun i hi => hn i (by simp [hi])) (by rw [hsize]; omega)
    have hj1 : (j + 1) * size = j * size + size := by rw [Nat.add_mul]; omega
    refine ⟨r, v.cells.toList ++ news, ?_, by rw [g2, hsize], ⟨v, news, rfl, hy, h1, g3⟩, fun t ht => ?_, fun t u hu => ?_⟩
    · have hcond : (decide (v.cells.size ≠ size) || decide (j * size + v.cells.size > cells.size)) = false := by simp; omega
      simp only [List.zipIdx_cons, List.map_cons, Instr.fill, hp]
      rw [hcond]
      exact g1
    · rw [g4 t (by omega), e1, hget t, if_pos (by omega)]
    · rcases Nat.lt_or_ge t size with ht | ht
      · rw [List.getElem?_append_left (by simp; omega)] at hu
        rw [g4 _ (by omega), e1, hget, if_neg (by omega), if_pos (by simp; omega)]
        rw [← hu]; congr 1; omega
      · rw [List.getElem?_append_right (by simp; omega)] at hu
        have := g5 _ u hu
        rw [← this]; congr 1; simp; omega
/-- The operands of a literal, in their order. -/
def parts (σ : Sg) : List (Nat × Operand) → Nat → Option (List I)
  | [], _ => some []
  | (i, x) :: l, j => bif Nat.beq i j then (match σ.opd x with
      | some d => match d.immOf, parts σ l (j + 1) with
        | some y, some q => some (y :: q)
        | _, _ => none
      | none => none) else none
theorem parts_den (hr : RelR c σ ρ a w) : ∀ (l : List (Nat × Operand)) (j : Nat) (ys : List I), parts σ l j = some ys → ∃ vs, (l.map fun p => (p.1, a.eval p.2)) = ((vs.zipIdx j).map fun p => (p.2, p.1)) ∧ I.dens (okB c σ.blk ρ w) w ys vs
  | [], j, ys, h => by simp only [parts, Option.some.injEq] at h; subst h; exact ⟨[], rfl, rfl⟩
  | (i, x) :: l, j, ys, h => by
    simp only [parts] at h
    cases hb : Nat.beq i j with
    | false => rw [hb] at h; simp at h
    | true =>
      rw [hb] at h
      simp only [cond_true] at h
      have := nbeq hb
      subst this
      split at h
      · rename_i d hd
        split at h
        · rename_i y q hy hq
          simp only [Option.some.injEq] at h
          subst h
          obtain ⟨vs, h1, h2⟩ := parts_den hr l (i + 1) q hq
          exact ⟨a.eval x :: vs, by simp [h1], a.eval x, vs, rfl, immOf_den hy (hr.opd hd), h2⟩
        · simp at h
      · simp at h
theorem run_buildSlice [Tab P] {e q : Nat} {l : List (Nat × Operand)} {ys : List I} {zv : Value} (hr : RelR c σ ρ a w) (ht : Tab.look P T = some ⟨.slice e, sz, by', z⟩) (he : Tab.look P e = some ⟨td, sz', by'', some zv⟩) (hzs : zv.cells.size = sz') (hp : parts σ l 0 = some ys) (hlen : ys.length = q) (hn : ∀ i ∈ ys, i.ncells = sz') (hq : q * sz' ≤ 16777216) :
    ∃ r news, (execOp a.eval ⟨some s, .buildSlice T q l.toArray, ty, pos, af, g⟩).run P w = .ok (.value (.slice (some ⟨w.heap.size, 0, none⟩) q q)) (w.alloc (.cells r e)) ∧ r.size = q * sz' ∧ I.flat (okB c σ.blk ρ w) w ys sz' news ∧ ∀ (t : Nat) v, news[t]? = some v → r[t]? = some v := by
  obtain ⟨vs, h1, h2⟩ := parts_den hr l 0 ys hp
  have hmc : ∀ (zc : Array Value), ((Array.range (q * sz')).map (zc[· % zc.size]!)).size = q * sz' := fun zc => by simp
  have key : ∀ (zc : Array Value), ∃ r news, Instr.fill (fun i => some (i * sz', sz')) ((Array.range (q * sz')).map (zc[· % zc.size]!)) ((l.map fun p => (p.1, a.eval p.2))) = some r ∧ r.size = q * sz' ∧ I.flat (okB c σ.blk ρ w) w ys sz' news ∧ ∀ (t : Nat) v, news[t]? = some v → r[t]? = some v := fun zc => by
    obtain ⟨r, news, g1, g2, g3, _, g5⟩ := fill_all (w := w) sz' (fun i => some (i * sz', sz')) (fun _ => rfl) ys vs 0 ((Array.range (q * sz')).map (zc[· % zc.size]!)) h2 hn (by rw [hmc, hlen]; simp)
    refine ⟨r, news, by rw [h1]; exact g1, by rw [g2, hmc], g3, fun t v hv => ?_⟩
    have := g5 t v hv
    simpa using this
  have e2 : (Array.map (fun x => match x with | (i, x) => (i, a.eval x)) l.toArray).toList = l.map fun p => (p.1, a.eval p.2) := by simp
  have hnb : ¬ (q * sz' > 2 ^ 24) := by omega
  by_cases hz : q * sz' = 0
  · obtain ⟨r, news, g1, g2, g3, g4⟩ := key #[]
    refine ⟨r, news, ?_, g2, g3, g4⟩
    simp only [execOp, Sem.run_bind, Instr.buildSlice, run_underlying (Tab.slice ht), Result.andThen, Tab.sizeOf w he, Sem.run_ite, if_neg hnb, if_pos hz, Sem.run_pure, e2, g1]
    simp [newRow]
  · obtain ⟨r, news, g1, g2, g3, g4⟩ := key zv.cells
    refine ⟨r, news, ?_, g2, g3, g4⟩
    simp only [execOp, Sem.run_bind, Instr.buildSlice, run_underlying (Tab.slice ht), Result.andThen, Tab.sizeOf w he, Sem.run_ite, if_neg hnb, if_neg hz, Tab.zeroOf w he, Sem.run_pure, e2, g1]
    simp [newRow]
/-- Data that nobody writes. -/
theorem r_buildSlice [Tab P] {e q : Nat} {l : List (Nat × Operand)} {ys : List I} {zv : Value} (ht : Tab.look P T = some ⟨.slice e, sz, by', z⟩) (he : Tab.look P e = some ⟨td, sz', by'', some zv⟩) (hzs : Nat.beq zv.cells.size sz' = true) (hp : parts σ l 0 = some ys) (hlen : Nat.beq ys.length q = true) (hn : ∀ i ∈ ys, i.ncells = sz') (hq : Nat.ble (q * sz') 16777216 = true) (hz0 : Nat.blt 0 sz' = true) (hs : Nat.blt s n = true) :
    Spec P c ⟨some s, .buildSlice T q l.toArray, ty, pos, af, g⟩ σ (.set s (.full ys) σ) := Spec.of fun ρ a w hr => by
  have hlen := nbeq hlen
  have hq := Nat.le_of_ble_eq_true hq
  obtain ⟨r, news, h1, h2, h3, h4⟩ := run_buildSlice (s := s) (ty := ty) (pos := pos) (af := af) (g := g) hr ht he (nbeq hzs) hp hlen hn hq
  have hb : Below w.heap.size w (w.alloc (.cells r e)) := (Below.refl _ _).alloc (Nat.le_refl _) _
  have hk : Keeps (okB c σ.blk ρ w) w (okB c σ.blk ρ (w.alloc (.cells r e))) (w.alloc (.cells r e)) := fun b ⟨g1, g2, g3⟩ => ⟨⟨by simp; omega, g2, g3⟩, heap_cell (Below.heap_alloc w _ b g1)⟩
  refine ⟨_, _, h1, _, (hr.below hb).put (Nat.blt_eq.mp hs) ?_⟩
  refine ⟨⟨_, q, by rw [hlen], by omega, ?_, .inr ⟨w.heap.size, 0, sz', rfl, ⟨by simp, fun hm => ?_, fun k x r' cap hx hR e => ?_⟩, ?_⟩⟩, _, by rw [hlen]⟩
  · unfold maxLen
    have : q ≤ q * sz' := Nat.le_mul_of_pos_right q (Nat.blt_eq.mp hz0)
    omega
  · have := c.hM _ hm; have := hr.kept.size; omega
  · have := (hr.live k x r' cap hx hR).1; omega
  · exact flat_row ys 0 news (flat_mono hk _ _ h3) fun j v hv => by
      simp only [Nat.zero_add, World.cell?_alloc_new]; exact h4 j v hv
end
end Go.Cr

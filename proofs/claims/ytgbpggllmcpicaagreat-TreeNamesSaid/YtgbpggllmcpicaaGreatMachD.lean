/- MACHINE X, PART D: new blocks: variables, aggregates, slices built, make. -/
import Derived.Test.YtgbpggllmcpicaaGreatMachC
namespace Go.Xm
open Go Go.Cr Go.RowKit
section
variable {P : Program} {N : Ns} {μ : Mu} {H : Tr Bk} {nx : Nat} {w : World} {s : Sem Next}
variable {ty : TypeId} {pos : String} {af : Array Edge} {g : Option (Nat × Bool)} {x y : Operand} {T T' : TypeId} {sz by' sz' by'' : Nat} {z z' : Option Value} {td td' : TD} {ρ : Operand → Value} {dst : Option Tmp}

theorem Inv.newRow (h : Inv N μ H nx w) (k e size : Nat) (cells : List V) (cur : Array Value) (hs : cur.size = size) (hl : cells.length ≤ size) (hc : V.rels μ cells (cur.toList.take cells.length)) :
    ∃ μ', ExtN nx μ μ' ∧ μ' nx = some ⟨w.heap.size, 0, size, k⟩ ∧ Inv N μ' (H.put nx (some (.row true k e cells))) (nx + 1) (w.alloc (.cells cur e)) ∧ Keep N w (w.alloc (.cells cur e)) :=
  h.alloc (.row true k e cells) (.cells cur e) size k fun μ' hx _ => ⟨cur, e, (0, 0), rfl, fun _ => ⟨rfl, rfl, by show cur.size = 0 + size; omega⟩, rfl, hl, by simpa using V.rels_ext hx _ _ hc⟩

/-! ### Variables -/
noncomputable def zeroX (zv : Value) : List V := zv.cells.toList.map .val
theorem allocX_sound [Tab P] (h : Inv N μ H nx w) {zv : Value} (ht : Tab.look P T = some ⟨td, sz, by', some zv⟩) :
    Does P N μ nx w (execOp ρ ⟨dst, .alloc T, ty, pos, af, g⟩) (some (.ptr nx 0), H.put nx (some (.row true (zeroX zv).length T (zeroX zv))), nx + 1) := by
  obtain ⟨μ', h1, h2, h3, h4⟩ := h.newRow (zeroX zv).length T zv.cells.size (zeroX zv) zv.cells rfl (by simp [zeroX]) (by rw [show (zeroX zv).length = zv.cells.toList.length by simp [zeroX], List.take_length]; exact rels_val _)
  refine ⟨.pointer (some ⟨w.heap.size, 0, none⟩), _, μ', ?_, h1, h3, h4, _, h2, rfl⟩
  simp [execOp, Instr.alloc, newVar, newRow, Tab.zeroOf w ht]
theorem boxX_sound (h : Inv N μ H nx w) {v : V} (hv : v.rel μ (ρ x)) (ho : ones v.cells = true) :
    Does P N μ nx w (execOp ρ ⟨dst, .box T x, ty, pos, af, g⟩) (some (.ptr nx 0), H.put nx (some (.row true v.cells.length T v.cells)), nx + 1) := by
  obtain ⟨k1, _⟩ := vcells_rel ho hv
  have hl := rels_length _ _ k1
  obtain ⟨μ', h1, h2, h3, h4⟩ := h.newRow v.cells.length T (ρ x).cells.size v.cells (ρ x).cells rfl (by rw [← hl]; simp) (by rw [← hl, List.take_length]; exact k1)
  refine ⟨.pointer (some ⟨w.heap.size, 0, none⟩), _, μ', ?_, h1, h3, h4, _, h2, rfl⟩
  simp [execOp, Instr.box, newVar, newRow]

/-! ### Aggregates -/
noncomputable def partsX (ev : Operand → Option V) : List (Nat × Operand) → Option (List (Nat × V))
  | [] => some []
  | (i, x) :: l => match ev x, partsX ev l with
    | some v, some q => some ((i, v) :: q)
    | _, _ => none
theorem partsX_rel {ev : Operand → Option V} (hev : ∀ x v, ev x = some v → v.rel μ (ρ x)) : ∀ (l : List (Nat × Operand)) (ps : List (Nat × V)), partsX ev l = some ps →
    (l.map fun p => (p.1, ρ p.2)).map (·.1) = ps.map (·.1) ∧ V.rels μ (ps.map (·.2)) ((l.map fun p => (p.1, ρ p.2)).map (·.2))
  | [], ps, h => by cases h; exact ⟨rfl, rfl⟩
  | (i, x) :: l, ps, h => by
    simp only [partsX] at h
    split at h
    · rename_i v q hv hq
      cases h
      obtain ⟨h1, h2⟩ := partsX_rel hev l q hq
      exact ⟨by simpa using h1, _, _, rfl, hev x v hv, h2⟩
    · cases h
noncomputable def fillX (place : Nat → Option (Nat × Nat)) : List V → List (Nat × V) → Option (List V)
  | cells, [] => some cells
  | cells, (i, v) :: rest => match place i with
    | some (off, size) => match Nat.beq v.cells.length size, Nat.ble (off + size) cells.length, ones v.cells with
      | true, true, true => fillX place (cells.take off ++ v.cells ++ cells.drop (off + size)) rest
      | _, _, _ => none
    | none => none
theorem fillX_rel (place : Nat → Option (Nat × Nat)) : ∀ (parts : List (Nat × V)) (ps : List (Nat × Value)) (cells out : List V) (cs : Array Value),
    fillX place cells parts = some out → ps.map (·.1) = parts.map (·.1) → V.rels μ (parts.map (·.2)) (ps.map (·.2)) → V.rels μ cells cs.toList →
    ∃ r, Instr.fill place cs ps = some r ∧ V.rels μ out r.toList
  | [], [], cells, out, cs, h, _, _, hc => by cases h; exact ⟨cs, rfl, hc⟩
  | [], _ :: _, _, _, _, _, he, _, _ => by simp at he
  | _ :: _, [], _, _, _, _, he, _, _ => by simp at he
  | (i, d) :: parts, (i', v) :: ps, cells, out, cs, h, he, hv, hc => by
    simp only [List.map_cons, List.cons.injEq] at he
    obtain ⟨rfl, he⟩ := he
    obtain ⟨v', r', e, h1, h2⟩ := hv
    simp only [List.map_cons, List.cons.injEq] at e
    obtain ⟨rfl, rfl⟩ := e
    simp only [fillX] at h
    split at h
    · rename_i off size hf
      split at h
      · rename_i b1 b2 b3
        have b1 := Nat.eq_of_beq_eq_true b1
        have b2 := Nat.le_of_ble_eq_true b2
        obtain ⟨hcell, _⟩ := vcells_rel b3 h1
        have hl1 := rels_length _ _ hcell
        have hl2 := rels_length _ _ hc
        have hq1 : v.cells.toList.length = v.cells.size := Array.length_toList
        have hq2 : cs.toList.length = cs.size := Array.length_toList
        have hfill := fill_one off v.cells.toList cs (by omega)
        have e1 : (v.cells.zipIdx.foldl (fun cs (p : Value × Nat) => cs.setIfInBounds (off + p.2) p.1) cs).toList = cs.toList.take off ++ v.cells.toList ++ cs.toList.drop (off + size) := by
          rw [← Array.foldl_toList, Array.toList_zipIdx, hfill]
          rw [hl1, b1]
        have hc' : V.rels μ (cells.take off ++ d.cells ++ cells.drop (off + size)) (v.cells.zipIdx.foldl (fun cs (p : Value × Nat) => cs.setIfInBounds (off + p.2) p.1) cs).toList := by
          rw [e1]
          exact rels_append _ _ _ _ (rels_append _ _ _ _ (rels_take _ _ off hc) hcell) (rels_drop _ _ _ hc)
        obtain ⟨r, g1, g2⟩ := fillX_rel place parts ps _ out _ h he h2 hc'
        refine ⟨r, ?_, g2⟩
        have hcond : (decide (v.cells.size ≠ size) || decide (off + v.cells.size > cs.size)) = false := by simp; omega
        simp only [Instr.fill, hf]
        rw [hcond]
        exact g1
      · cases h
    · cases h
noncomputable def buildX (P : Program) [Tab P] (ev : Operand → Option V) (fs : List (Nat × Nat)) (zv : Value) (l : List (Nat × Operand)) : Option V :=
  match lookAll P fs, partsX ev l with
  | some q, some ps => match fillX (q[·]?) (zeroX zv) ps with
    | some out => some (.agg out)
    | none => none
  | _, _ => none
theorem buildX_sound [Tab P] {ev : Operand → Option V} (hev : ∀ x v, ev x = some v → v.rel μ (ρ x)) (h : Inv N μ H nx w) {parts : Array (Nat × Operand)} {fs : List (Nat × Nat)} {zv : Value} {r : V} (ht : Tab.look P T = some ⟨.struct fs, sz, by', some zv⟩) (hl : buildX P ev fs zv parts.toList = some r) :
    Does P N μ nx w (execOp ρ ⟨dst, .build T parts, ty, pos, af, g⟩) (some r, H, nx) := by
  unfold buildX at hl
  split at hl
  · rename_i q ps hq hps
    split at hl
    · rename_i out hf
      cases hl
      obtain ⟨h1, h2⟩ := partsX_rel hev _ ps hps
      obtain ⟨d, hd1, hd2⟩ := Tab.und ht
      obtain ⟨ar, rfl, hd3⟩ := TD.of_struct hd2
      obtain ⟨r, g1, g2⟩ := fillX_rel (μ := μ) (q[·]?) ps _ _ out zv.cells hf h1 h2 (rels_val _)
      refine Does.value h (.agg r) ?_ ⟨r.toList, by simp, g2⟩
      have hpl : ((ar.mapM fun f => do pure (f.offset, ← sizeOf f.type) : Sem (Array (Nat × Nat)))).run P w = .ok q.toArray w := by
        have hp : ((ar.toList.mapM fun f => do pure (f.offset, ← sizeOf f.type) : Sem (List (Nat × Nat)))).run P w = .ok q w := Go.Cr.run_places w ar.toList q (by rw [hd3]; exact hq)
        rw [Array.mapM_eq_mapM_toList, Sem.run_map, hp]
        rfl
      have hfun : (fun i => q.toArray[i]?) = (fun i => q[i]?) := funext fun i => List.getElem?_toArray
      simp only [execOp, Sem.run_bind, Instr.build, Tab.zeroOf w ht, run_underlying hd1, Result.andThen, hpl]
      rw [show (Array.map (fun x => match x with | (i, x) => (i, ρ x)) parts).toList = parts.toList.map fun p => (p.1, ρ p.2) from by simp]
      rw [hfun, g1]
      rfl
    · cases hl
  · cases hl

/-! ### Slices built; make -/
noncomputable def rep (n : Nat) (l : List V) : List V := Nat.rec (motive := fun _ => List V) [] (fun _ ih => l ++ ih) n
theorem rep_length (l : List V) : ∀ n, (rep n l).length = n * l.length
  | 0 => by show ([] : List V).length = _; simp
  | n + 1 => by
    show (l ++ rep n l).length = _
    rw [List.length_append, rep_length l n, Nat.add_mul]; omega
theorem rep_rels {l : List V} {us : List Value} (h : V.rels μ l us) : ∀ n, V.rels μ (rep n l) ((List.replicate n us).flatten)
  | 0 => rfl
  | n + 1 => by
    show V.rels μ (l ++ rep n l) _
    rw [List.replicate_succ, List.flatten_cons]
    exact rels_append _ _ _ _ h (rep_rels h n)
theorem range_cells (zc : Array Value) (q : Nat) (hz : 0 < zc.size) : ((Array.range (q * zc.size)).map (zc[· % zc.size]!)).toList = (List.replicate q zc.toList).flatten := by
  refine List.ext_getElem? fun j => ?_
  by_cases hj : j < q * zc.size
  · have hlen : ((List.replicate q zc.toList).flatten).length = q * zc.size := by simp
    obtain ⟨v, hv⟩ : ∃ v, ((List.replicate q zc.toList).flatten)[j]? = some v := ⟨_, List.getElem?_eq_getElem (by omega)⟩
    rw [hv, (madeCells_get zc hz q j v hv).2]
    simp [hj]
  · rw [List.getElem?_eq_none (by simp; omega), List.getElem?_eq_none (by simp; omega)]
noncomputable def buildSliceX (ev : Operand → Option V) (k : Nat) (zv : Value) (q : Nat) (l : List (Nat × Operand)) : Option (List V) :=
  match partsX ev l, Nat.ble (q * k) 16777216, Nat.beq (zeroX zv).length k, Nat.blt 0 k with
  | some ps, true, true, true => match fillX (fun i => some (i * k, k)) (rep q (zeroX zv)) ps with
    | some out => match Nat.beq out.length (q * k) with
      | true => some out
      | false => none
    | none => none
  | _, _, _, _ => none
theorem buildSliceX_sound [Tab P] {ev : Operand → Option V} (hev : ∀ x v, ev x = some v → v.rel μ (ρ x)) (h : Inv N μ H nx w) {parts : Array (Nat × Operand)} {e q : Nat} {zv : Value} {out : List V} (ht : Tab.look P T = some ⟨.slice e, sz, by', z⟩) (he : Tab.look P e = some ⟨td, sz', by'', some zv⟩)
    (hl : buildSliceX ev sz' zv q parts.toList = some out) : Does P N μ nx w (execOp ρ ⟨dst, .buildSlice T q parts, ty, pos, af, g⟩) (some (.slice nx 0 q (some q)), H.put nx (some (.row true sz' e out)), nx + 1) := by
  unfold buildSliceX at hl
  split at hl
  · rename_i ps hps b1 b2 b3
    split at hl
    · rename_i out' hf
      split at hl
      · rename_i b4
        cases hl
        have b1 := Nat.le_of_ble_eq_true b1
        have b2 : zv.cells.size = sz' := by have := Nat.eq_of_beq_eq_true b2; simpa [zeroX] using this
        have b3 := Nat.blt_eq.mp b3
        have b4 := Nat.eq_of_beq_eq_true b4
        obtain ⟨h1, h2⟩ := partsX_rel hev _ ps hps
        have hz : V.rels μ (rep q (zeroX zv)) ((if q * sz' = 0 then ((Array.range (q * sz')).map ((#[] : Array Value)[· % (#[] : Array Value).size]!)) else ((Array.range (q * sz')).map (zv.cells[· % zv.cells.size]!))).toList) := by
          have := rep_rels (μ := μ) (rels_val zv.cells.toList) q
          rw [← range_cells zv.cells q (by omega), b2] at this
          by_cases hz : q * sz' = 0
          · rw [if_pos hz]
            rw [hz] at this ⊢
            simpa [zeroX] using this
          · rw [if_neg hz]; rw [b2]; exact this
        obtain ⟨r, g1, g2⟩ := fillX_rel (μ := μ) (fun i => some (i * sz', sz')) ps _ _ out _ hf h1 h2 hz
        have hlr := rels_length _ _ g2
        have hrs : r.size = q * sz' := by rw [← b4, ← hlr]; simp
        obtain ⟨μ', k1, k2, k3, k4⟩ := h.newRow sz' e (q * sz') out r hrs (by omega) (by rw [← hlr, List.take_length]; exact g2)
        refine ⟨.slice (some ⟨w.heap.size, 0, none⟩) q q, _, μ', ?_, k1, k3, k4, _, ⟨w.heap.size, 0, none⟩, q, k2, rfl, Nat.le_refl _, ?_, .inl ⟨rfl, by simp⟩, fun c hc => (by cases hc; rfl), fun hc => (by cases hc)⟩
        · have hnb : ¬ (q * sz' > 2 ^ 24) := by omega
          have e2 : (Array.map (fun x => match x with | (i, x) => (i, ρ x)) parts).toList = parts.toList.map fun p => (p.1, ρ p.2) := by simp
          by_cases hz : q * sz' = 0
          · rw [if_pos hz] at g1
            simp only [execOp, Sem.run_bind, Instr.buildSlice, run_underlying (Tab.slice ht), Result.andThen, Tab.sizeOf w he, Sem.run_ite, if_neg hnb, if_pos hz, Sem.run_pure, e2, g1]
            simp [newRow]
          · rw [if_neg hz] at g1
            simp only [execOp, Sem.run_bind, Instr.buildSlice, run_underlying (Tab.slice ht), Result.andThen, Tab.sizeOf w he, Sem.run_ite, if_neg hnb, if_neg hz, Tab.zeroOf w he, Sem.run_pure, e2, g1]
            simp [newRow]
        · unfold maxLen
          have : q ≤ q * sz' := Nat.le_mul_of_pos_right q b3
          omega
      · cases hl
    · cases hl
  · cases hl
noncomputable def makeX (k bytes : Nat) (zv : Value) (l c : Nat) : Option (List V) :=
  match Nat.ble l c, Nat.ble (bytes * c) 281474976710656, Nat.beq (zeroX zv).length k, Nat.blt 0 k, Nat.ble c 9223372036854775807 with
  | true, true, true, true, true => some (rep c (zeroX zv))
  | _, _, _, _, _ => none
theorem makeX_sound [Tab P] (h : Inv N μ H nx w) {e l c : Nat} {k k' : IntKind} {zv : Value} {out : List V} (hx : ρ x = .int k (l : Int)) (hy : ρ y = .int k' (c : Int)) (ht : Tab.look P T = some ⟨.slice e, sz, by', z⟩) (he : Tab.look P e = some ⟨td, sz', by'', some zv⟩)
    (hl : makeX sz' by'' zv l c = some out) : Does P N μ nx w (execOp ρ ⟨dst, .makeSlice T x y, ty, pos, af, g⟩) (some (.slice nx 0 l (some c)), H.put nx (some (.row true sz' e out)), nx + 1) := by
  unfold makeX at hl
  split at hl
  · rename_i b1 b2 b3 b4 b5
    cases hl
    have b1 := Nat.le_of_ble_eq_true b1
    have b2 := Nat.le_of_ble_eq_true b2
    have b3 : zv.cells.size = sz' := by have := Nat.eq_of_beq_eq_true b3; simpa [zeroX] using this
    have b4 := Nat.blt_eq.mp b4
    have b5 := Nat.le_of_ble_eq_true b5
    obtain ⟨i, d, g1, g2, g3, g4, g5, g6⟩ := Tab.row he
    simp only at g4 g5 g6
    have hbc : (i.bytes : Int) * (c : Nat) ≤ 281474976710656 := by
      have h : ((by'' * c : Nat) : Int) ≤ 281474976710656 := by omega
      rw [g5]; rwa [Int.natCast_mul] at h
    have hrun := run_make (P := P) w T e i zv (Tab.slice ht) g1 g6 k k' (l : Nat) (c : Nat) (by omega) (by omega) hbc (by omega)
    simp only [Int.toNat_natCast, g4] at hrun
    have hmade : (madeCells zv.cells (c * sz')).toList = (List.replicate c zv.cells.toList).flatten := by
      rw [← b3]; exact range_cells zv.cells c (by omega)
    have hrel : V.rels μ (rep c (zeroX zv)) _ := rep_rels (μ := μ) (rels_val zv.cells.toList) c
    have hlr := rels_length _ _ hrel
    have hrl : (rep c (zeroX zv)).length = c * sz' := by rw [rep_length]; simp [zeroX, b3]
    obtain ⟨μ', k1, k2, k3, k4⟩ := h.newRow sz' e (c * sz') (rep c (zeroX zv)) (madeCells zv.cells (c * sz')) (size_madeCells _ _) (by omega) (by rw [hmade, List.take_of_length_le (by omega)]; exact hrel)
    refine ⟨.slice (some ⟨w.heap.size, 0, none⟩) l c, _, μ', ?_, k1, k3, k4, _, ⟨w.heap.size, 0, none⟩, c, k2, rfl, b1, by unfold maxLen; omega, .inl ⟨rfl, by simp⟩, fun c' hc => (by cases hc; rfl), fun hc => (by cases hc)⟩
    simp only [execOp, hx, hy, Sem.run_bind, hrun, Result.andThen, Sem.run_pure]
  · cases hl
end
end Go.Xm

/- THE OWN LAYER, PART G: stores; aggregates built; make, append; rows frozen. -/
import Derived.Test.YtgbpggllmcpicaaGreatCoreF
namespace Go.Cr
open Go Go.RowKit

theorem rels_append {ok : Nat → Prop} {w : World} {hb : Nat → Option Blk} {ρ : Nat → R} : ∀ {l l' : List D} {vs vs' : List Value}, D.rels ok w hb ρ l vs → D.rels ok w hb ρ l' vs' → D.rels ok w hb ρ (l ++ l') (vs ++ vs')
  | [], _, _, _, h, h' => by simp only [D.rels] at h; subst h; simpa using h'
  | _ :: l, _, _, _, ⟨v, r, rfl, h1, h2⟩, h' => ⟨v, r ++ _, rfl, h1, rels_append h2 h'⟩

section
variable {n : Nat} {c : Cx n} {σ : Sg} {ρ : Nat → R} {a : Act} {w : World}
variable {P : Program} {s : Nat} {ty : TypeId} {pos : String} {af : Array Edge} {g : Option (Nat × Bool)} {x y : Operand} {T T' : TypeId} {k k' : IntKind} {m m' : Int}
variable {sz by' sz' by'' : Nat} {z z' : Option Value} {td : TD}

/-! ### Stores -/
theorem run_store_row [Tab P] {ev : Operand → Value} {dst : Option Tmp} {r off e : Nat} {v : Value} {cur : Array Value} (w : World) (hx : ev x = .pointer (some ⟨r, off, none⟩)) (hy : ev y = v) (ht : Tab.look P T = some ⟨td, sz, by', z⟩)
    (hv : v.cells.toList.length = sz) (h1 : ∀ u ∈ v.cells.toList, u.oneCell' = true) (hg : w.heap[r]? = some (.cells cur e (0, 0))) (hle : off + sz ≤ cur.size) :
    (execOp ev ⟨dst, .store T x y, ty, pos, af, g⟩).run P w = .ok .skip (w.setRow r (cur.toList.take off ++ v.cells.toList ++ cur.toList.drop (off + sz)).toArray) := by
  subst hy
  have h2 := run_storeCells_at (P := P) r off e (ev y).cells.toList 0 cur w hg (by rw [hv]; simpa using hle) h1
  rw [hv] at h2
  simp only [Nat.add_zero] at h2
  have h3 : ¬ ((ev y).cells.size ≠ sz) := by simpa using hv
  simp only [execOp, hx, Instr.storeAt, Sem.run_bind, Instr.sureAddr, Sem.run_pure, Result.andThen, storeVar, Tab.sizeOf w ht, Sem.run_ite, if_neg h3, h2]

theorem setRow_store (hr : RelR c σ ρ a w) {b : Nat} {K K' : Blk} {r cap : Nat} {cur cur' : Array Value} {e : Nat} (hb : σ.blk b = some K) (hR : ρ b = .blk r cap) (hg : w.heap[r]? = some (.cells cur e (0, 0)))
    (hshape : (∃ k e l l', K = .row k e l ∧ K' = .row k e l' ∧ l'.length = l.length) ∨ (∃ cs e cs' e', K = .obj cs e ∧ K' = .obj cs' e') ∨ (∃ es es', K = .map es ∧ K' = .map es'))
    (hK : (Keeps (okB c σ.blk ρ w) w (okB c σ.blk ρ w) (w.setRow r cur')) → (w.setRow r cur').heap[r]? = some (.cells cur' e (0, 0)) → K'.rel (okB c σ.blk ρ w) (w.setRow r cur') σ.blk ρ b) : RelR c (.hset b K' σ) ρ a (w.setRow r cur') := by
  refine hr.store hb hR _ rfl rfl rfl (by simp) (fun r' hne => setRow_other w r r' _ hne) hshape (hK (fun b0 hb0 => ⟨hb0, heap_cell (setRow_other w r b0 _ fun e => hb0.2.2 b K r cap hb hR e.symm)⟩) (setRow_heap w r cur cur' e (0, 0) hg))

/-- Into a variable. -/
theorem r_store_ptr [Tab P] {b f e : Nat} {cs ds : List D} {d : D} (hx : σ.opd x = some (.ptr b f)) (hb : σ.blk b = some (.obj cs e)) (hy : σ.opd y = some d) (hc : σ.cells d = some ds) (ht : Tab.look P T = some ⟨td, sz, by', z⟩)
    (hl : Nat.beq ds.length sz = true) (hle : Nat.ble (f + sz) cs.length = true) : Spec P c ⟨none, .store T x y, ty, pos, af, g⟩ σ (.hset b (.obj (cs.take f ++ ds ++ cs.drop (f + sz)) e) σ) := Spec.of_skip fun ρ a w hr => by
  obtain ⟨r, cap, hR, hv⟩ := hr.opd hx cs e hb
  obtain ⟨r', cap', cur, hR', hh, hcs⟩ := hr.blk b _ hb
  rw [hR] at hR'; cases hR'
  obtain ⟨h1, h2⟩ := cells_rel hc (hr.opd hy)
  have hlen := D.rels_length cs _ hcs
  have hlen' := D.rels_length ds _ h1
  have hle := Nat.le_of_ble_eq_true hle
  have hl := nbeq hl
  refine ⟨_, run_store_row w hv rfl ht (by omega) h2 hh (by simp at hlen; omega), _, setRow_store hr hb hR hh (.inr (.inl ⟨cs, e, _, e, rfl, rfl⟩)) fun hk hnew => ?_⟩
  refine ⟨r, cap, _, hR, hnew, ?_⟩
  have hm : ∀ l vs, D.rels (okB c σ.blk ρ w) w σ.blk ρ l vs → D.rels (okB c σ.blk ρ w) (w.setRow r (cur.toList.take f ++ (a.eval y).cells.toList ++ cur.toList.drop (f + sz)).toArray) σ.blk ρ l vs := fun l vs h =>
    D.rels_mono hk (fun _ => True) (fun b k e l _ h => ⟨l, h, rfl, rfl⟩) (fun b cs e _ h => ⟨cs, e, h, rfl⟩) (fun b es _ h => ⟨es, h, rfl⟩) l vs (fun _ _ => trivial) h
  have htake : D.rels (okB c σ.blk ρ w) w σ.blk ρ (cs.take f) (cur.toList.take f) := by simpa using rels_sub cs _ 0 f hcs
  have hdrop : D.rels (okB c σ.blk ρ w) w σ.blk ρ (cs.drop (f + sz)) (cur.toList.drop (f + sz)) := by
    have := rels_sub cs _ (f + sz) cs.length hcs
    rwa [List.take_of_length_le (by simp), List.take_of_length_le (by simp [hlen])] at this
  exact rels_append (rels_append (hm _ _ htake) (hm _ _ h1)) (hm _ _ hdrop)

/-- What a slot holds, as data that nobody writes (the own rows kept out). -/
def D.immOf : D → Option I
  | .imm i => some i
  | .full l => some (.slice l)
  | .nils => some (.slice [])
  | .agg l => (D.immOfs l).map .agg
  | _ => none
where
  D.immOfs : List D → Option (List I)
  | [] => some []
  | d :: l => match d with
    | .imm i => (D.immOfs l).map (i :: ·)
    | .full x => (D.immOfs l).map (.slice x :: ·)
    | .nils => (D.immOfs l).map (.slice [] :: ·)
    | _ => none
theorem immOfs_den {ok : Nat → Prop} {hb : Nat → Option Blk} : ∀ (l : List D) (vs : List Value) (is : List I), D.immOf.D.immOfs l = some is → D.rels ok w hb ρ l vs → I.dens ok w is vs
  | [], vs, is, h, hv => by simp [D.immOf.D.immOfs] at h; subst h; exact hv
  | d :: l, _, is, h, ⟨v, r, e, h1, h2⟩ => by
    cases d <;> simp only [D.immOf.D.immOfs, Option.map_eq_some_iff, reduceCtorEq] at h
    case imm i => obtain ⟨js, h3, rfl⟩ := h; exact ⟨v, r, e, h1, immOfs_den l r js h3 h2⟩
    case full x => obtain ⟨js, h3, rfl⟩ := h; exact ⟨v, r, e, h1.1, immOfs_den l r js h3 h2⟩
    case nils => obtain ⟨js, h3, rfl⟩ := h; exact ⟨v, r, e, ⟨none, 0, h1, Nat.le_refl _, by simp, .inl rfl⟩, immOfs_den l r js h3 h2⟩
theorem immOf_den {ok : Nat → Prop} {hb : Nat → Option Blk} {d : D} {v : Value} {i : I} (h : d.immOf = some i) (hv : d.rel ok w hb ρ v) : I.den ok w i v := by
  cases d <;> simp only [D.immOf, Option.some.injEq, Option.map_eq_some_iff, reduceCtorEq] at h
  case imm j => subst h; exact hv
  case full l => subst h; exact hv.1
  case nils => subst h; exact ⟨none, 0, hv, Nat.le_refl _, by simp, .inl rfl⟩
  case agg l => obtain ⟨is, h1, rfl⟩ := h; obtain ⟨cs, e, hl⟩ := hv; exact ⟨cs, e, immOfs_den l cs is h1 hl⟩
/-- Are the cells of such data cells of one value each? -/
def I.flatOk : I → Bool
  | .val v => v.oneCell'
  | .slice _ => true
  | .agg l => go l
where
  go : List I → Bool
  | [] => true
  | .val v :: l => v.oneCell' && go l
  | .slice _ :: l => go l
  | .agg _ :: _ => false
theorem flatOk_go {ok : Nat → Prop} : ∀ (l : List I) (vs : List Value), I.flatOk.go l = true → I.dens ok w l vs → ∀ u ∈ vs, u.oneCell' = true
  | [], vs, _, h => by simp only [I.dens] at h; subst h; simp
  | i :: l, _, hl, ⟨v, r, rfl, h1, h2⟩ => by
    intro u hu
    cases i with
    | val x =>
      simp only [I.flatOk.go, Bool.and_eq_true] at hl
      rcases List.mem_cons.1 hu with rfl | hu
      · cases h1; exact hl.1
      · exact flatOk_go l r hl.2 h2 u hu
    | slice x =>
      simp only [I.flatOk.go] at hl
      rcases List.mem_cons.1 hu with rfl | hu
      · obtain ⟨_, _, rfl, _⟩ := h1; rfl
      · exact flatOk_go l r hl h2 u hu
    | agg x => simp [I.flatOk.go] at hl
theorem flatOk_den {ok : Nat → Prop} {i : I} {v : Value} (h : i.flatOk = true) (hv : I.den ok w i v) : ∀ u ∈ v.cells.toList, u.oneCell' = true := by
  cases i with
  | val x =>
    cases hv
    have h2 : v.cells = #[v] := by cases v <;> simp [I.flatOk, Value.oneCell', Value.cells] at h ⊢
    have h' : v.oneCell' = true := h
    rw [h2]; simpa using h'
  | slice x => obtain ⟨_, _, rfl, _⟩ := hv; simp [Value.cells, Value.oneCell']
  | agg l => obtain ⟨cs, rfl, hl⟩ := hv; exact flatOk_go l cs h hl

/-- Into an own row: a whole element. -/
theorem r_store_elem [Tab P] {b i kk e : Nat} {l : List I} {d : D} {j : I} (hx : σ.opd x = some (.elem b i 0)) (hb : σ.blk b = some (.row kk e l)) (hy : σ.opd y = some d) (hj : d.immOf = some j) (hfl : j.flatOk = true) (hn : Nat.beq j.ncells kk = true)
    (ht : Tab.look P T = some ⟨td, kk, by', z⟩) : Spec P c ⟨none, .store T x y, ty, pos, af, g⟩ σ (.hset b (.row kk e (l.set i j)) σ) := Spec.of_skip fun ρ a w hr => by
  obtain ⟨hi, r, cap, hR, hv⟩ := hr.opd hx kk e l hb
  obtain ⟨cur, e1, e2, e3, e4, e5⟩ := row_den hr hb hR
  have hd := immOf_den hj (hr.opd hy)
  have hnc := den_ncells hd
  have hn := nbeq hn
  have hle : i * kk + kk ≤ cur.size := by
    rw [e2]
    have : (i + 1) * kk ≤ cap * kk := Nat.mul_le_mul_right _ (by omega)
    rw [Nat.add_mul] at this; omega
  simp only [Nat.add_zero] at hv
  refine ⟨_, run_store_row w hv rfl ht (by simp; omega) (flatOk_den hfl hd) e1 hle, _, setRow_store hr hb hR e1 (.inl ⟨kk, e, l, _, rfl, rfl, by simp⟩) fun hk hnew => ?_⟩
  simp only [Blk.rel, hR]
  refine ⟨_, hnew, ?_, by simpa using e3, e4, ?_⟩
  · simp; omega
  · have hcell : ∀ j', (w.setRow r (cur.toList.take (i * kk) ++ (a.eval y).cells.toList ++ cur.toList.drop (i * kk + kk)).toArray).cell? ⟨r, j', none⟩ = (cur.toList.take (i * kk) ++ (a.eval y).cells.toList ++ cur.toList.drop (i * kk + kk))[j']? := fun j' => by
      simp only [World.cell?, hnew]; simp
    have hold : ∀ j', w.cell? ⟨r, j', none⟩ = cur.toList[j']? := fun j' => by simp [World.cell?, e1]
    refine I.denRow_of _ 0 fun t u hu => ?_
    by_cases hti : t = i
    · subst hti
      rw [List.getElem?_set_self (by omega)] at hu
      simp only [Option.some.injEq] at hu
      subst hu
      refine ⟨a.eval y, I.den_mono hk _ _ hd, by omega, fun q hq => ?_⟩
      rw [hcell, List.getElem?_append_left (by simp; omega), List.getElem?_append_right (by simp; omega)]
      simp only [List.length_take, Array.length_toList]
      rw [show 0 + t * kk + q - min (t * kk) cur.size = q by omega]
      simp
    · rw [List.getElem?_set_ne (Ne.symm hti)] at hu
      obtain ⟨v, g1, g2, g3⟩ := I.denRow_get l 0 t u e5 hu
      refine ⟨v, I.den_mono hk _ _ g1, g2, fun q hq => ?_⟩
      rw [← g3 q hq, hcell, hold]
      simp only [Nat.zero_add]
      rcases Nat.lt_or_gt_of_ne hti with hlt | hgt
      · have h1 : (t + 1) * kk ≤ i * kk := Nat.mul_le_mul_right _ hlt
        rw [Nat.add_mul] at h1
        rw [List.getElem?_append_left (by simp; omega), List.getElem?_append_left (by simp; omega), List.getElem?_take_of_lt (by omega)]
      · have h1 : (i + 1) * kk ≤ t * kk := Nat.mul_le_mul_right _ hgt
        rw [Nat.add_mul] at h1
        rw [List.getElem?_append_right (by simp; omega), List.getElem?_drop]
        congr 1
        simp; omega
theorem r_store_elem_map [Tab P] {α : Type} {enc : α → I} {L : List α} {v : α} {b i kk e : Nat} {d : D} (hx : σ.opd x = some (.elem b i 0)) (hb : σ.blk b = some (.row kk e (L.map enc))) (hy : σ.opd y = some d) (hj : d.immOf = some (enc v)) (hfl : (enc v).flatOk = true) (hn : Nat.beq (enc v).ncells kk = true)
    (ht : Tab.look P T = some ⟨td, kk, by', z⟩) : Spec P c ⟨none, .store T x y, ty, pos, af, g⟩ σ (.hset b (.row kk e ((L.set i v).map enc)) σ) := by
  have := r_store_elem (P := P) (c := c) (ty := ty) (pos := pos) (af := af) (g := g) hx hb hy hj hfl hn ht
  rwa [← List.map_set] at this

/-! ### Aggregates -/
theorem splice_get {α : Type} (L vs : List α) (o i : Nat) (h : o + vs.length ≤ L.length) :
    (L.take o ++ vs ++ L.drop (o + vs.length))[i]? = if i < o then L[i]? else if i < o + vs.length then vs[i - o]? else L[i]? := by
  by_cases h1 : i < o
  · rw [if_pos h1, List.append_assoc, List.getElem?_append_left (by simp; omega), List.getElem?_take_of_lt h1]
  · rw [if_neg h1]
    by_cases h2 : i < o + vs.length
    · rw [if_pos h2, List.getElem?_append_left (by simp; omega), List.getElem?_append_right (by simp; omega)]
      congr 1; simp; omega
    · rw [if_neg h2, List.getElem?_append_right (by simp; omega), List.getElem?_drop]
      congr 1; simp; omega
theorem fill_get (off : Nat) : ∀ (vs : List Value) (k : Nat) (cells : Array Value), off + k + vs.length ≤ cells.size → ∀ i,
    ((vs.zipIdx k).foldl (fun cs (p : Value × Nat) => cs.setIfInBounds (off + p.2) p.1) cells)[i]? = if i < off + k then cells[i]? else if i < off + k + vs.length then vs[i - (off + k)]? else cells[i]?
  | [], k, cells, _, i => by
    simp only [List.zipIdx_nil, List.foldl_nil, List.length_nil, Nat.add_zero]
    by_cases h : i < off + k
    · rw [if_pos h]
    · rw [if_neg h, if_neg h]
  | v :: vs, k, cells, h, i => by
    simp only [List.length_cons] at h
    simp only [List.zipIdx_cons, List.foldl_cons]
    rw [fill_get off vs (k + 1) _ (by simp; omega) i]
    simp only [List.length_cons, Array.getElem?_setIfInBounds]
    by_cases h2 : i = off + k
    · subst h2
      have h5 : off + k < cells.size := by omega
      rw [if_pos (show off + k < off + (k + 1) by omega), if_neg (show ¬ off + k < off + k by omega), if_pos (show off + k < off + k + (vs.length + 1) by omega)]
      simp [h5]
    · have h4 : ¬ off + k = i := fun e => h2 e.symm
      simp only [h4, if_false]
      by_cases h1 : i < off + k
      · rw [if_pos (show i < off + (k + 1) by omega), if_pos h1]
      · rw [if_neg (show ¬ i < off + (k + 1) by omega), if_neg h1]
        by_cases h3 : i < off + k + (vs.length + 1)
        · rw [if_pos (show i < off + (k + 1) + vs.length by omega), if_pos h3, show i - (off + k) = (i - (off + (k + 1))) + 1 by omega, List.getElem?_cons_succ]
        · rw [if_neg (show ¬ i < off + (k + 1) + vs.length by omega), if_neg h3]
theorem fill_one (off : Nat) (vs : List Value) (cells : Array Value) (h : off + vs.length ≤ cells.size) :
    ((vs.zipIdx 0).foldl (fun cs (p : Value × Nat) => cs.setIfInBounds (off + p.2) p.1) cells).toList = cells.toList.take off ++ vs ++ cells.toList.drop (off + vs.length) := by
  apply List.ext_getElem?
  intro i
  have := fill_get off vs 0 cells (by omega) i
  simp only [Nat.add_zero] at this
  rw [splice_get _ _ _ _ (by simpa using h)]
  simpa using this
/-- The cells of an aggregate whose parts are laid one after the other. -/
def fillD (σ : Sg) (fs : List (Nat × Nat)) : List D → List (Nat × D) → Option (List D)
  | cells, [] => some cells
  | cells, (i, d) :: rest => match fs[i]?, σ.cells d with
    | some (off, size), some ds => bif Nat.beq ds.length size && Nat.ble (off + size) cells.length then fillD σ fs (cells.take off ++ ds ++ cells.drop (off + size)) rest else none
    | _, _ => none
theorem fillD_rel (hr : RelR c σ ρ a w) (fs : List (Nat × Nat)) (place : Nat → Option (Nat × Nat)) (hp : ∀ i p, fs[i]? = some p → place i = some p) : ∀ (parts : List (Nat × D)) (ps : List (Nat × Value)) (cells out : List D) (cs : Array Value),
    fillD σ fs cells parts = some out → ps.map (·.1) = parts.map (·.1) → D.rels (okB c σ.blk ρ w) w σ.blk ρ (parts.map (·.2)) (ps.map (·.2)) → D.rels (okB c σ.blk ρ w) w σ.blk ρ cells cs.toList →
    ∃ r, Instr.fill place cs ps = some r ∧ D.rels (okB c σ.blk ρ w) w σ.blk ρ out r.toList
  | [], [], cells, out, cs, h, _, _, hc => by simp only [fillD, Option.some.injEq] at h; subst h; exact ⟨cs, rfl, hc⟩
  | [], _ :: _, _, _, _, _, he, _, _ => by simp at he
  | _ :: _, [], _, _, _, _, he, _, _ => by simp at he
  | (i, d) :: parts, (i', v) :: ps, cells, out, cs, h, he, hv, hc => by
    simp only [List.map_cons, List.cons.injEq] at he
    obtain ⟨rfl, he⟩ := he
    obtain ⟨v', r', e, h1, h2⟩ := hv
    simp only [List.map_cons, List.cons.injEq] at e
    obtain ⟨rfl, rfl⟩ := e
    simp only [fillD] at h
    split at h
    · rename_i off size ds hf hd
      cases hb : (Nat.beq ds.length size && Nat.ble (off + size) cells.length) with
      | false => rw [hb] at h; simp at h
      | true =>
        rw [hb] at h
        simp only [cond_true] at h
        simp only [Bool.and_eq_true] at hb
        have hb1 := nbeq hb.1
        have hb2 := Nat.le_of_ble_eq_true hb.2
        obtain ⟨hcell, _⟩ := cells_rel hd h1
        have hl1 := D.rels_length _ _ hcell
        have hl2 := D.rels_length _ _ hc
        simp only [Array.length_toList] at hl1 hl2
        have hfill := fill_one off v.cells.toList cs (by simp; omega)
        have e1 : (v.cells.zipIdx.foldl (fun cs (p : Value × Nat) => cs.setIfInBounds (off + p.2) p.1) cs).toList = cs.toList.take off ++ v.cells.toList ++ cs.toList.drop (off + size) := by
          rw [← Array.foldl_toList, Array.toList_zipIdx, hfill]
          simp; congr 2; omega
        have hc' : D.rels (okB c σ.blk ρ w) w σ.blk ρ (cells.take off ++ ds ++ cells.drop (off + size)) (v.cells.zipIdx.foldl (fun cs (p : Value × Nat) => cs.setIfInBounds (off + p.2) p.1) cs).toList := by
          rw [e1]
          have htake : D.rels (okB c σ.blk ρ w) w σ.blk ρ (cells.take off) (cs.toList.take off) := by simpa using rels_sub cells _ 0 off hc
          have hdrop : D.rels (okB c σ.blk ρ w) w σ.blk ρ (cells.drop (off + size)) (cs.toList.drop (off + size)) := by
            have := rels_sub cells _ (off + size) cells.length hc
            rwa [List.take_of_length_le (by simp), List.take_of_length_le (by simp; omega)] at this
          exact rels_append (rels_append htake hcell) hdrop
        obtain ⟨r, g1, g2⟩ := fillD_rel hr fs place hp parts ps _ out _ h he h2 hc'
        refine ⟨r, ?_, g2⟩
        have hcond : (decide (v.cells.size ≠ size) || decide (off + v.cells.size > cs.size)) = false := by simp; omega
        simp only [Instr.fill, hp _ _ hf]
        rw [hcond]
        exact g1
    · simp at h
def lookAll (P : Program) [Tab P] : List (Nat × Nat) → Option (List (Nat × Nat))
  | [] => some []
  | (t, o) :: l => match Tab.look P t, lookAll P l with
    | some r, some q => some ((o, r.size) :: q)
    | _, _ => none
theorem run_places [Tab P] (w : World) : ∀ (l : List Field) (q : List (Nat × Nat)), lookAll P (l.map fun f => (f.type, f.offset)) = some q → ((l.mapM fun f => do pure (f.offset, ← sizeOf f.type) : Sem (List (Nat × Nat)))).run P w = .ok q w
  | [], q, h => by simp [lookAll] at h; subst h; rfl
  | f :: l, q, h => by
    simp only [List.map_cons, lookAll] at h
    split at h
    · rename_i r q' h1 h2
      simp only [Option.some.injEq] at h
      subst h
      obtain ⟨td, sz, by', z⟩ := r
      have ih := run_places w l q' h2
      simp only [List.mapM_cons, Sem.run_bind, Tab.sizeOf w h1, Result.andThen, Sem.run_pure, ih]
    · simp at h
def opds (σ : Sg) : List (Nat × Operand) → Option (List (Nat × D))
  | [] => some []
  | (i, x) :: l => match σ.opd x, opds σ l with
    | some d, some q => some ((i, d) :: q)
    | _, _ => none
theorem opds_rel (hr : RelR c σ ρ a w) : ∀ (l : List (Nat × Operand)) (q : List (Nat × D)), opds σ l = some q →
    (l.map fun p => (p.1, a.eval p.2)).map (·.1) = q.map (·.1) ∧ D.rels (okB c σ.blk ρ w) w σ.blk ρ (q.map (·.2)) ((l.map fun p => (p.1, a.eval p.2)).map (·.2))
  | [], q, h => by simp only [opds, Option.some.injEq] at h; subst h; exact ⟨rfl, rfl⟩
  | (i, x) :: l, q, h => by
    simp only [opds] at h
    split at h
    · rename_i d q' h1 h2
      simp only [Option.some.injEq] at h
      subst h
      obtain ⟨g1, g2⟩ := opds_rel hr l q' h2
      exact ⟨by simp at g1 ⊢; exact g1, a.eval x, _, rfl, hr.opd h1, g2⟩
    · simp at h
theorem r_build [Tab P] {l : List (Nat × Operand)} {fs q : List (Nat × Nat)} {ps : List (Nat × D)} {out : List D} {zc : Array Value} (ht : Tab.look P T = some ⟨.struct fs, sz, by', some (.agg zc)⟩) (hq : lookAll P fs = some q) (ho : opds σ l = some ps)
    (hf : fillD σ q (zc.toList.map constD) ps = some out) (hs : Nat.blt s n = true) : Spec P c ⟨some s, .build T l.toArray, ty, pos, af, g⟩ σ (.set s (.agg out) σ) := Spec.pure rfl hs fun ρ a w hr => by
  obtain ⟨h1, h2⟩ := opds_rel hr l ps ho
  obtain ⟨d, hd1, hd2⟩ := Tab.und ht
  obtain ⟨ar, rfl, hd3⟩ := TD.of_struct hd2
  obtain ⟨r, g1, g2⟩ := fillD_rel hr q (q.toArray[·]?) (fun i p h => by simpa using h) ps _ _ out zc hf h1 h2 (rels_const _)
  refine ⟨.agg r, ?_, r.toList, by simp, g2⟩
  have hpl : ((ar.mapM fun f => do pure (f.offset, ← sizeOf f.type) : Sem (Array (Nat × Nat)))).run P w = .ok q.toArray w := by
    rw [Array.mapM_eq_mapM_toList, Sem.run_map, run_places w ar.toList q (by rw [hd3]; exact hq)]
    rfl
  simp only [execOp, Sem.run_bind, Instr.build, Tab.zeroOf w ht, run_underlying hd1, Result.andThen, hpl]
  have e2 : (Array.map (fun (x : Nat × Operand) => (x.1, a.eval x.2)) l.toArray).toList = l.map fun p => (p.1, a.eval p.2) := by simp
  simp only [Value.cells]
  rw [show (Array.map (fun x => match x with | (i, x) => (i, a.eval x)) l.toArray).toList = l.map fun p => (p.1, a.eval p.2) from by simp]
  rw [g1]
  rfl
end
end Go.Cr

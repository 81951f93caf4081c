/- THE OWN LAYER, PART H: make, slices of parts, append; rows begun and frozen. -/
import Derived.Test.YtgbpggllmcpicaaGreatCoreG
namespace Go.Cr
open Go Go.RowKit

def I.flat (ok : Nat → Prop) (w : World) : List I → Nat → List Value → Prop
  | [], _, vs => vs = []
  | x :: l, k, vs => ∃ v r, vs = v.cells.toList ++ r ∧ v.cells.size = k ∧ I.den ok w x v ∧ I.flat ok w l k r
theorem flat_mono {ok ok' : Nat → Prop} {w w' : World} (h : Keeps ok w ok' w') {k : Nat} : ∀ (l : List I) (vs : List Value), I.flat ok w l k vs → I.flat ok' w' l k vs
  | [], _, hv => hv
  | x :: l, _, ⟨v, r, e, h1, h2, h3⟩ => ⟨v, r, e, h1, I.den_mono h x v h2, flat_mono h l r h3⟩
theorem flat_length {ok : Nat → Prop} {w : World} {k : Nat} : ∀ (l : List I) (vs : List Value), I.flat ok w l k vs → vs.length = l.length * k
  | [], _, hv => by simp only [I.flat] at hv; subst hv; simp
  | x :: l, _, ⟨v, r, e, h1, _, h3⟩ => by subst e; have := flat_length l r h3; simp [Nat.add_mul, this, h1]; omega
theorem flat_append {ok : Nat → Prop} {w : World} {k : Nat} : ∀ {l l' : List I} {vs vs' : List Value}, I.flat ok w l k vs → I.flat ok w l' k vs' → I.flat ok w (l ++ l') k (vs ++ vs')
  | [], _, _, _, h, h' => by simp only [I.flat] at h; subst h; simpa using h'
  | x :: l, _, _, _, ⟨v, r, e, h1, h2, h3⟩, h' => ⟨v, r ++ _, by rw [e, List.append_assoc], h1, h2, flat_append h3 h'⟩
theorem flat_one {ok : Nat → Prop} {w : World} {k : Nat} : ∀ {l : List I} {vs : List Value}, I.flat ok w l k vs → (∀ i ∈ l, i.flatOk = true) → ∀ u ∈ vs, u.oneCell' = true
  | [], _, h, _ => by simp only [I.flat] at h; subst h; simp
  | x :: l, _, ⟨v, r, e, _, h2, h3⟩, hf => by
    subst e
    intro u hu
    rcases List.mem_append.1 hu with hu | hu
    · exact flatOk_den (hf x (by simp)) h2 u hu
    · exact flat_one h3 (fun i hi => hf i (by simp [hi])) u hu
theorem row_flat {ok : Nat → Prop} {w : World} {k b : Nat} : ∀ (l : List I) (off : Nat), I.denRow ok w l b off k → ∃ vs, I.flat ok w l k vs ∧ ∀ j v, vs[j]? = some v → w.cell? ⟨b, off + j, none⟩ = some v
  | [], off, _ => ⟨[], rfl, fun j v h => by simp at h⟩
  | x :: l, off, ⟨⟨v, h1, h2, h3⟩, h4⟩ => by
    obtain ⟨vs, g1, g2⟩ := row_flat l (off + k) h4
    refine ⟨v.cells.toList ++ vs, ⟨v, vs, rfl, h2, h1, g1⟩, fun j u hu => ?_⟩
    rcases Nat.lt_or_ge j k with hj | hj
    · rw [List.getElem?_append_left (by simp; omega)] at hu
      rw [h3 j hj]; simpa using hu
    · rw [List.getElem?_append_right (by simp; omega)] at hu
      have := g2 _ u hu
      rw [← this]; congr 2; simp; omega
theorem flat_row {ok : Nat → Prop} {w : World} {k b : Nat} : ∀ (l : List I) (off : Nat) (vs : List Value), I.flat ok w l k vs → (∀ j v, vs[j]? = some v → w.cell? ⟨b, off + j, none⟩ = some v) → I.denRow ok w l b off k
  | [], _, _, _, _ => trivial
  | x :: l, off, _, ⟨v, r, e, h1, h2, h3⟩, hc => by
    subst e
    refine ⟨⟨v, h2, h1, fun j hj => ?_⟩, flat_row l (off + k) r h3 fun j u hu => ?_⟩
    · have hj' : j < v.cells.size := by omega
      rw [hc j v.cells[j] (by rw [List.getElem?_append_left (by simpa using hj')]; simp [hj'])]
      simp [hj']
    · have := hc (k + j) u (by rw [List.getElem?_append_right (by simp; omega)]; simp [h1, hu])
      rwa [← Nat.add_assoc] at this

section
variable {n : Nat} {c : Cx n} {σ : Sg} {ρ : Nat → R} {a : Act} {w : World}
variable {P : Program} {s : Nat} {ty : TypeId} {pos : String} {af : Array Edge} {g : Option (Nat × Bool)} {x y : Operand} {T T' : TypeId} {k k' : IntKind} {m m' : Int}
variable {sz by' sz' by'' : Nat} {z z' : Option Value} {td : TD}

/-- What others did, who left all old blocks as they were. -/
theorem RelR.below {w' : World} (h : RelR c σ ρ a w) (hb : Below w.heap.size w w') : RelR c σ ρ a w' := by
  have hk : Keeps (okB c σ.blk ρ w) w (okB c σ.blk ρ w') w' := fun b ⟨g1, g2, g3⟩ => ⟨⟨Nat.lt_of_lt_of_le g1 hb.size, g2, g3⟩, heap_cell (hb.block b g1)⟩
  have g1 : ∀ b k e l, True → σ.blk b = some (.row k e l) → ∃ l', σ.blk b = some (.row k e l') ∧ l'.length = l.length ∧ ρ b = ρ b := fun b k e l _ hb => ⟨l, hb, rfl, rfl⟩
  have g2 : ∀ b cs e, True → σ.blk b = some (.obj cs e) → ∃ cs' e', σ.blk b = some (.obj cs' e') ∧ ρ b = ρ b := fun b cs e _ hb => ⟨cs, e, hb, rfl⟩
  have g3 : ∀ b es, True → σ.blk b = some (.map es) → ∃ es', σ.blk b = some (.map es') ∧ ρ b = ρ b := fun b es _ hb => ⟨es, hb, rfl⟩
  exact
  { inj := h.inj
    live := fun b k r cap hb' hr => let ⟨e1, e2, e3⟩ := h.live b k r cap hb' hr; ⟨Nat.lt_of_lt_of_le e1 hb.size, e2, e3⟩
    blk := fun b k hb' => Blk.rel_mono hk (fun _ => True) g1 g2 g3 rfl (fun r cap hr => hb.block r (h.live b k r cap hb' hr).1) k (fun _ _ _ _ _ => trivial) (h.blk b k hb')
    slot := fun s d hd => D.rel_mono hk (fun _ => True) g1 g2 g3 d _ (fun _ _ => trivial) (h.slot s d hd)
    defs := h.defs
    size := h.size
    kept := ⟨hb.os.trans h.kept.os, hb.tape.trans h.kept.tape, hb.output.trans h.kept.output, Nat.le_trans h.kept.size hb.size, fun k hk hp => (hb.block k (Nat.lt_of_lt_of_le hk h.kept.size)).trans (h.kept.block k hk hp)⟩ }

/-! ### A new row, under a key -/
theorem RelR.newRow (h : RelR c σ ρ a w) (b : Nat) {kk e cap : Nat} {l : List I} {cur : Array Value} {vs : List Value} {w' : World} (hos : w'.os = w.os) (ht : w'.tape = w.tape) (ho : w'.output = w.output)
    (hh : w'.heap = w.heap.push (.cells cur e)) (hf : I.flat (okB c σ.blk ρ w) w l kk vs) (hcur : ∀ (j : Nat) v, vs[j]? = some v → cur[j]? = some v) (hsz : cur.size = cap * kk) (hl : l.length ≤ cap) (hm : cap ≤ maxLen) :
    RelR c (.hset b (.row kk e l) (.kill b σ)) (upd ρ b (.blk w.heap.size cap)) a w' := by
  have hsize : w'.heap.size = w.heap.size + 1 := by rw [hh]; simp
  have hkeep : ∀ r, r < w.heap.size → (∀ k cap, σ.blk b = some k → ρ b ≠ .blk r cap) → w'.heap[r]? = w.heap[r]? := fun r hr _ => by rw [hh, Array.getElem?_push]; rw [if_neg (by omega)]
  have hR : ∀ r cap', R.blk w.heap.size cap = .blk r cap' → r < w'.heap.size ∧ (w.heap.size ≤ r ∨ ∃ k cap', σ.blk b = some k ∧ ρ b = .blk r cap') := fun r cap' hr => by
    cases hr; exact ⟨by omega, .inl (Nat.le_refl _)⟩
  refine h.renew b _ (.blk w.heap.size cap) w' hos ht ho (by omega) hkeep hR ?_
  have hk := keeps_renew h b (.row kk e l) (.blk w.heap.size cap) w' (by omega) hkeep hR
  have hnew : w'.heap[w.heap.size]? = some (.cells cur e (0, 0)) := by rw [hh]; simp
  simp only [Blk.rel, upd_same]
  refine ⟨cur, hnew, hsz, hl, hm, flat_row l 0 vs (flat_mono hk l vs hf) fun j v hv => ?_⟩
  simp only [World.cell?, hnew]
  simpa using hcur j v hv

/-- A constant as data. -/
def constI1 : Value → I
  | .slice none 0 0 => .slice []
  | v => .val v
def constI : Value → I
  | .agg cs => .agg (cs.toList.map constI1)
  | v => constI1 v
theorem constI1_den {ok : Nat → Prop} (v : Value) : I.den ok w (constI1 v) v := by
  unfold constI1; split
  · exact ⟨none, 0, rfl, Nat.le_refl _, by simp, .inl rfl⟩
  · rfl
theorem constI_den {ok : Nat → Prop} (v : Value) : I.den ok w (constI v) v := by
  unfold constI; split
  · rename_i cs
    exact ⟨cs.toList, by simp, I.dens_of _ _ (by simp) fun i x v hx hv => by
      simp only [List.getElem?_map, hv, Option.map_some, Option.some.injEq] at hx
      subst hx; exact constI1_den v⟩
  · exact constI1_den v

theorem madeCells_flat {ok : Nat → Prop} {zv : Value} : ∀ (q : Nat), I.flat ok w (List.replicate q (constI zv)) zv.cells.size ((List.replicate q zv.cells.toList).flatten)
  | 0 => rfl
  | q + 1 => ⟨zv, (List.replicate q zv.cells.toList).flatten, by simp [List.replicate_succ], rfl, constI_den zv, madeCells_flat q⟩
theorem madeCells_get (zc : Array Value) (hz : 0 < zc.size) : ∀ (q j : Nat) (v : Value), ((List.replicate q zc.toList).flatten)[j]? = some v → j < q * zc.size ∧ v = zc[j % zc.size]!
  | 0, j, v, h => by simp at h
  | q + 1, j, v, h => by
    rw [List.replicate_succ, List.flatten_cons] at h
    rcases Nat.lt_or_ge j zc.size with hj | hj
    · rw [List.getElem?_append_left (by simpa using hj)] at h
      refine ⟨by rw [Nat.add_mul]; omega, ?_⟩
      rw [Nat.mod_eq_of_lt hj]
      simp only [Array.getElem?_toList, Array.getElem?_eq_getElem hj, Option.some.injEq] at h
      simp [hj, h]
    · rw [List.getElem?_append_right (by simpa using hj)] at h
      obtain ⟨h1, h2⟩ := madeCells_get zc hz q _ v h
      simp only [Array.length_toList] at h1 h2
      refine ⟨by rw [Nat.add_mul]; omega, ?_⟩
      rw [h2]; congr 1
      rw [Nat.mod_eq_sub_mod hj]
/-- 'make([]T, l, c)'. -/
theorem r_make [Tab P] {e l cp : Nat} {zv : Value} (hx : σ.opd x = some (dI k m)) (hy : σ.opd y = some (dI k' m')) (hm : m = (l : Nat)) (hm' : m' = (cp : Nat)) (hle : l ≤ cp) (ht : Tab.look P T = some ⟨.slice e, sz, by', z⟩) (he : Tab.look P e = some ⟨td, sz', by'', some zv⟩)
    (hzs : Nat.beq zv.cells.size sz' = true) (hz0 : Nat.blt 0 sz' = true) (hbytes : by'' * cp ≤ 281474976710656) (hmax : cp ≤ 9223372036854775807) (hs : Nat.blt s n = true) :
    Spec P c ⟨some s, .makeSlice T x y, ty, pos, af, g⟩ σ (.set s (.own s) (.hset s (.row sz' e (List.replicate l (constI zv))) (.kill s σ))) := Spec.of fun ρ a w hr => by
  have h1 : a.eval x = .int k m := hr.opd hx
  have h2 : a.eval y = .int k' m' := hr.opd hy
  obtain ⟨i, d, g1, g2, g3, g4, g5, g6⟩ := Tab.row he
  simp only at g4 g5 g6
  have hzs := nbeq hzs
  have hz0 : 0 < sz' := Nat.blt_eq.mp hz0
  subst hm hm'
  have hbc : (i.bytes : Int) * (cp : Nat) ≤ 281474976710656 := by
    have h : ((by'' * cp : Nat) : Int) ≤ 281474976710656 := by omega
    rw [g5]; rwa [Int.natCast_mul] at h
  have hrun := run_make (P := P) w T e i zv (Tab.slice ht) g1 g6 k k' (l : Nat) (cp : Nat) (by omega) (by omega) hbc (by omega)
  simp only [Int.toNat_natCast, g4] at hrun
  have hn := hr.newRow s (kk := sz') (e := e) (cap := cp) (l := List.replicate l (constI zv)) (cur := madeCells zv.cells (cp * sz')) (vs := (List.replicate l zv.cells.toList).flatten) (w' := w.alloc (.cells (madeCells zv.cells (cp * sz')) e)) rfl rfl rfl rfl
    (by have := madeCells_flat (w := w) (ok := okB c σ.blk ρ w) (zv := zv) l; rwa [hzs] at this)
    (fun j v hv => by
      obtain ⟨q1, q2⟩ := madeCells_get zv.cells (by omega) l j v hv
      have hlt : j < cp * sz' := Nat.lt_of_lt_of_le q1 (by rw [hzs]; exact Nat.mul_le_mul_right _ hle)
      subst q2
      simp [madeCells, hlt])
    (size_madeCells _ _) (by simpa using hle) (by unfold maxLen; omega)
  refine ⟨.slice (some ⟨w.heap.size, 0, none⟩) l cp, _, ?_, _, hn.put (s := s) (d := .own s) (Nat.blt_eq.mp hs) ?_⟩
  · simp only [execOp, h1, h2, Sem.run_bind, hrun, Result.andThen, Sem.run_pure]
  · intro k2 e2 l2 hb2
    simp only [Sg.blk, nb_self, cond_true, Option.some.injEq, Blk.row.injEq] at hb2
    obtain ⟨_, _, rfl⟩ := hb2
    simp [upd_same, R.val]

/-! ### append -/
theorem src_of [Tab P] (hr : RelR c σ ρ a w) {d : D} {v : Value} {ys : List I} {kk e : Nat} (hd : σ.rd d = some ys) (hv : d.rel (okB c σ.blk ρ w) w σ.blk ρ v) (hn : ∀ i ∈ ys, i.ncells = kk ∧ i.flatOk = true) (ht : Tab.look P T = some ⟨.slice e, sz, by', z⟩) :
    ∃ news, I.flat (okB c σ.blk ρ w) w ys kk news ∧ Src P kk T v ys.length news w := by
  have key : ∀ (b off k2 : Nat) (cp : Nat), v = .slice (some ⟨b, off, none⟩) ys.length cp → I.denRow (okB c σ.blk ρ w) w ys b off k2 → ∃ news, I.flat (okB c σ.blk ρ w) w ys kk news ∧ Src P kk T v ys.length news w := fun b off k2 cp hv hrow => by
    obtain ⟨vs, h1, h2⟩ := row_flat ys off hrow
    have h3 : I.flat (okB c σ.blk ρ w) w ys kk vs := by
      cases ys with
      | nil => exact h1
      | cons x l =>
        have : k2 = kk := by
          obtain ⟨v, _, _, e1, e2, _⟩ := h1
          rw [← e1, den_ncells e2]; exact (hn x (by simp)).1
        rwa [this] at h1
    refine ⟨vs, h3, ?_⟩
    rw [hv]
    exact Src.ofSlice w (Tab.slice ht) ⟨b, off, none⟩ _ cp vs (flat_length _ _ h3) (fun j u hu => by rw [addr_add]; exact h2 j u hu) (flat_one h3 fun i hi => (hn i hi).2)
  have nil : ∀ ad cp, v = .slice ad 0 cp → ys = [] → ∃ news, I.flat (okB c σ.blk ρ w) w ys kk news ∧ Src P kk T v ys.length news w := fun ad cp hv hy => by
    subst hy
    refine ⟨[], rfl, ?_⟩
    rw [hv]
    cases ad with
    | none => exact Src.ofNil w (Tab.slice ht) cp
    | some ad => exact Src.ofSlice w (Tab.slice ht) ad 0 cp [] (by simp) (fun j u hu => by simp at hu) (by simp)
  have imm : I.den (okB c σ.blk ρ w) w (.slice ys) v → ∃ news, I.flat (okB c σ.blk ρ w) w ys kk news ∧ Src P kk T v ys.length news w := fun h => by
    obtain ⟨ad, cp, h1, _, _, h4⟩ := h
    rcases h4 with h4 | ⟨b, off, k2, rfl, _, hrow⟩
    · exact nil ad cp (by rw [h1, h4]; rfl) h4
    · exact key b off k2 cp h1 hrow
  cases d with
  | imm i => cases i with
    | slice l => simp only [Sg.rd, Option.some.injEq] at hd; subst hd; exact imm hv
    | _ => simp [Sg.rd] at hd
  | full l => simp only [Sg.rd, Option.some.injEq] at hd; subst hd; exact imm hv.1
  | nils => simp only [Sg.rd, Option.some.injEq] at hd; subst hd; exact nil none 0 hv rfl
  | own b =>
    simp only [Sg.rd] at hd
    split at hd
    · rename_i k2 e2 l2 hb
      simp only [Option.some.injEq] at hd; subst hd
      have hv := hv k2 e2 l2 hb
      cases hR : ρ b with
      | nil => have h0 := row_nil hr hb hR; rw [hR] at hv; exact nil none 0 (by rw [hv, h0]; rfl) h0
      | blk r cap =>
        obtain ⟨cur, e1, e2, e3, e4, e5⟩ := row_den hr hb hR
        rw [hR] at hv
        exact key r 0 k2 cap hv e5
    · simp at hd
  | view b off m =>
    simp only [Sg.rd] at hd
    split at hd
    · rename_i k2 e2 l2 hb
      simp only [Option.some.injEq] at hd; subst hd
      obtain ⟨h1, a', cp, h2, h3, h4, h5⟩ := hv k2 e2 l2 hb
      have hlen : ((l2.drop off).take m).length = m := by simp; omega
      rcases h5 with rfl | ⟨r, cap, hR, rfl⟩
      · exact nil a' cp h2 (by simp)
      · obtain ⟨cur, e1, e2, e3, e4, e5⟩ := row_den hr hb hR
        have h6 := denRow_take _ _ m (denRow_drop _ _ off e5)
        rw [Nat.zero_add] at h6
        exact key r (off * k2) k2 cp (by rw [hlen]; exact h2) h6
    · simp at hd
  | _ => simp [Sg.rd] at hd

theorem zeroCells_size (zc : Array Value) (q : Nat) : (Builtin.zeroCells zc q).size = q * zc.size := by simp [Builtin.zeroCells]
/-- An append that grows: a new row. -/
theorem append_grow [Tab P] {kk e sLen sCap q : Nat} {base : Option Addr} {v : Value} {olds news : List Value} {zv : Value} (he : Tab.look P e = some ⟨td, kk, by'', some zv⟩) (hzs : zv.cells.size = kk) (ht : Tab.look P T = some ⟨.slice e, sz, by', z⟩)
    (hold : (Builtin.firstCells kk sLen (.slice base sLen sCap)).run P w.drew = .ok olds.toArray w.drew) (ho : olds.length = sLen * kk) (hs : Src P kk T' v q news w) (hg : sCap < sLen + q) (hb : (sLen + q) * by'' ≤ 140737488355328) (hm : sLen + q ≤ maxLen) :
    ∃ cap cur w', (Builtin.append_ #[T, T'] ty #[.slice base sLen sCap, v]).run P w = .ok (.slice (some ⟨w.heap.size, 0, none⟩) (sLen + q) cap) w' ∧ w'.heap = w.heap.push (.cells cur e) ∧ w'.os = w.os ∧ w'.tape = w.tape ∧ w'.output = w.output ∧
      (∀ (j : Nat) u, (olds ++ news)[j]? = some u → cur[j]? = some u) ∧ cur.size = cap * kk ∧ sLen + q ≤ cap ∧ cap ≤ maxLen := by
  obtain ⟨i, d, g1, g2, g3, g4, g5, g6⟩ := Tab.row he
  simp only at g4 g5 g6
  have hfit := growslice_fits (bytes := by'') hg hb
  have hrun := run_append_grow_src (P := P) w T T' ty e i zv (Tab.slice ht) g1 g6 base sLen sCap olds (by rw [g4]; exact hold) v q news (by rw [g4]; exact hs) hg (by unfold maxLen at hm; omega) (by rw [g5]; exact hfit)
  have hge := grownCap_ge w (sLen + q) sCap e
  refine ⟨_, _, _, hrun, rfl, rfl, rfl, rfl, fun j u hu => ?_, ?_, hge, grownCap_le_maxLen w _ _ e hm⟩
  · rw [Array.getElem?_append_left (by have := (List.getElem?_eq_some_iff.1 hu).1; simpa using this)]
    simpa using hu
  · simp only [Array.size_append, List.size_toArray, List.length_append, zeroCells_size, hzs, ho, hs.newsLen]
    rw [← Nat.add_mul, ← Nat.add_mul]; congr 1; omega
theorem run_call_append (ev : Operand → Value) (dst : Option Tmp) (w : World) : (execOp ev ⟨dst, .call ⟨.builtin .append, #[x, y], #[T, T']⟩, ty, pos, af, g⟩).run P w = ((Builtin.append_ #[T, T'] ty #[ev x, ev y]).run P w).andThen fun v w => .ok (.value v) w := by
  rw [run_call_builtin]
  simp [builtin]
/-- An append that finds room. -/
theorem append_room [Tab P] {kk e r sLen sCap q : Nat} {v : Value} {news : List Value} {cur : Array Value} {zv : Option Value} (he : Tab.look P e = some ⟨td, kk, by'', zv⟩) (ht : Tab.look P T = some ⟨.slice e, sz, by', z⟩) (hs : Src P kk T' v q news w) (hg : sLen + q ≤ sCap) {e2 : Nat} (hh : w.heap[r]? = some (.cells cur e2 (0, 0))) (hc : cur.size = sCap * kk) :
    (Builtin.append_ #[T, T'] ty #[.slice (some ⟨r, 0, none⟩) sLen sCap, v]).run P w = .ok (.slice (some ⟨r, 0, none⟩) (sLen + q) sCap) (w.setRow r (cur.toList.take (sLen * kk) ++ news ++ cur.toList.drop (sLen * kk + q * kk)).toArray) := by
  obtain ⟨i, d, g1, g2, g3, g4, g5, g6⟩ := Tab.row he
  simp only at g4
  have h2 := run_storeCells_at (P := P) r (sLen * kk) e2 news 0 cur w hh (by rw [hs.newsLen, hc, Nat.add_zero, ← Nat.add_mul]; exact Nat.mul_le_mul_right _ hg) hs.one
  rw [hs.newsLen] at h2
  simp only [Nat.add_zero] at h2
  rcases hs.kind with ⟨e', hk⟩ | hk <;> simp [Builtin.append_, run_underlying (Tab.slice ht), run_underlying hk, sizeOf, typeInfo, g1, g4, hs.len, hg, hs.cells, addr_add, h2]

theorem r_append_own [Tab P] {b kk e e' : Nat} {l ys : List I} {d : D} {zv : Value} (hx : σ.opd x = some (.own b)) (hb : σ.blk b = some (.row kk e l)) (hy : σ.opd y = some d) (hd : σ.rd d = some ys) (hn : ∀ i ∈ ys, i.ncells = kk ∧ i.flatOk = true)
    (ht : Tab.look P T = some ⟨.slice e, sz, by', z⟩) (ht' : Tab.look P T' = some ⟨.slice e', sz', by'', z'⟩) {by2 : Nat} (he : Tab.look P e = some ⟨td, kk, by2, some zv⟩) (hzs : Nat.beq zv.cells.size kk = true) (hbytes : (l.length + ys.length) * by2 ≤ 140737488355328) (hmax : l.length + ys.length ≤ 9223372036854775807) (hs : Nat.blt s n = true) :
    Spec P c ⟨some s, .call ⟨.builtin .append, #[x, y], #[T, T']⟩, ty, pos, af, g⟩ σ (.set s (.own b) (.hset b (.row kk e (l ++ ys)) (.kill b σ))) := Spec.of fun ρ a w hr => by
  have hzs := nbeq hzs
  obtain ⟨news, hf, hsrc⟩ := src_of (T := T') hr hd (hr.opd hy) hn ht'
  have hv := hr.opd hx kk e l hb
  have own : ∀ cap r, (∀ q, q = l.length + ys.length → (R.blk r cap).val (l ++ ys).length = .slice (some ⟨r, 0, none⟩) q cap) := fun cap r q hq => by subst hq; simp [R.val]
  have fin : ∀ (w' : World) (v' : Value) (r cap : Nat), (Builtin.append_ #[T, T'] ty #[a.eval x, a.eval y]).run P w = .ok v' w' → v' = .slice (some ⟨r, 0, none⟩) (l.length + ys.length) cap → RelR c (.hset b (.row kk e (l ++ ys)) (.kill b σ)) (upd ρ b (.blk r cap)) a w' →
      ∃ v w', (execOp a.eval ⟨some s, .call ⟨.builtin .append, #[x, y], #[T, T']⟩, ty, pos, af, g⟩).run P w = .ok (.value v) w' ∧ Rel c (.set s (.own b) (.hset b (.row kk e (l ++ ys)) (.kill b σ))) (a.put (some s) v) w' := fun w' v' r cap hrun hv' hrel => by
    refine ⟨v', w', by rw [run_call_append, hrun]; rfl, _, hrel.put (s := s) (d := .own b) (Nat.blt_eq.mp hs) ?_⟩
    intro k2 e2 l2 hb2
    simp only [Sg.blk, nb_self, cond_true, Option.some.injEq, Blk.row.injEq] at hb2
    obtain ⟨_, _, rfl⟩ := hb2
    rw [hv', upd_same, own cap r _ rfl]
  have grow : ∀ (base : Option Addr) (sCap : Nat) (olds : List Value), a.eval x = .slice base l.length sCap → (Builtin.firstCells kk l.length (.slice base l.length sCap)).run P w.drew = .ok olds.toArray w.drew → I.flat (okB c σ.blk ρ w) w l kk olds → sCap < l.length + ys.length → ∃ v w', (execOp a.eval ⟨some s, .call ⟨.builtin .append, #[x, y], #[T, T']⟩, ty, pos, af, g⟩).run P w = .ok (.value v) w' ∧ Rel c (.set s (.own b) (.hset b (.row kk e (l ++ ys)) (.kill b σ))) (a.put (some s) v) w' := fun base sCap olds hv hold hfl hg => by
    obtain ⟨cap, cur, w', h1, h2, h3, h4, h5, h6, h7, h8, h9⟩ := append_grow (T := T) (T' := T') (ty := ty) he hzs ht hold (flat_length _ _ hfl) hsrc hg hbytes (by unfold maxLen; omega)
    exact fin w' _ w.heap.size cap (by rw [hv]; exact h1) rfl (hr.newRow b h3 h4 h5 h2 (flat_append hfl hf) h6 h7 (by simpa using h8) h9)
  cases hR : ρ b with
  | nil =>
    have h0 := row_nil hr hb hR
    rw [hR] at hv
    by_cases hys : ys = []
    · subst hys
      refine ⟨.slice none 0 0, w, ?_, _, ((hr.renew b (.row kk e (l ++ [])) .nil w rfl rfl rfl (Nat.le_refl _) (fun _ _ _ => rfl) (fun r cap hr => by cases hr) ?_)).put (s := s) (d := .own b) (Nat.blt_eq.mp hs) ?_⟩
      · rw [run_call_append, hv, h0]
        obtain ⟨i, d', g1, g2, g3, g4, g5, g6⟩ := Tab.row he
        simp only at g4
        have hnews : news = [] := by have := hsrc.newsLen; simpa using this
        subst hnews
        have hcells := hsrc.cells
        rcases hsrc.kind with ⟨e2, hk⟩ | hk <;> simp [R.val, Builtin.append_, run_underlying (Tab.slice ht), run_underlying hk, sizeOf, typeInfo, g1, g4, hsrc.len, hcells]
        all_goals (simp at hcells; simp [hcells])
      · simp [Blk.rel, upd_same, h0]
      · intro k2 e2 l2 hb2
        simp only [Sg.blk, nb_self, cond_true, Option.some.injEq, Blk.row.injEq] at hb2
        obtain ⟨_, _, rfl⟩ := hb2
        simp [upd_same, R.val, h0]
    · refine grow none 0 [] hv ?_ (by rw [h0]; rfl) ?_
      · rw [h0]; exact run_firstCells_none _ _ _ _ _
      · have : 0 < ys.length := List.length_pos_iff.2 hys
        omega
  | blk r cap =>
    obtain ⟨cur, e1, e2, e3, e4, e5⟩ := row_den hr hb hR
    rw [hR] at hv
    obtain ⟨olds, hfl, hcell⟩ := row_flat l 0 e5
    by_cases hroom : l.length + ys.length ≤ cap
    · have hrun := append_room (ty := ty) he ht hsrc hroom e1 e2
      refine fin _ _ r cap (by rw [hv]; exact hrun) rfl ?_
      have hlt := (hr.live b _ r cap hb hR)
      have hkeep : ∀ r', r' < w.heap.size → (∀ k cap, σ.blk b = some k → ρ b ≠ .blk r' cap) → (w.setRow r (cur.toList.take (l.length * kk) ++ news ++ cur.toList.drop (l.length * kk + ys.length * kk)).toArray).heap[r']? = w.heap[r']? := fun r' _ hne => setRow_other w r r' _ fun h => by
        subst h; exact hne _ cap hb hR
      have hR' : ∀ r' cap', R.blk r cap = .blk r' cap' → r' < (w.setRow r (cur.toList.take (l.length * kk) ++ news ++ cur.toList.drop (l.length * kk + ys.length * kk)).toArray).heap.size ∧ (w.heap.size ≤ r' ∨ ∃ k cap', σ.blk b = some k ∧ ρ b = .blk r' cap') := fun r' cap' h => by
        cases h; exact ⟨by simpa using hlt.1, .inr ⟨_, cap, hb, hR⟩⟩
      refine hr.renew b _ (.blk r cap) _ rfl rfl rfl (by simp) hkeep hR' ?_
      have hk := keeps_renew hr b (.row kk e (l ++ ys)) (.blk r cap) _ (by simp) hkeep hR'
      have hnew := setRow_heap w r cur (cur.toList.take (l.length * kk) ++ news ++ cur.toList.drop (l.length * kk + ys.length * kk)).toArray e (0, 0) e1
      have hnl := hsrc.newsLen
      have hlen : l.length * kk + ys.length * kk ≤ cur.size := by rw [e2, ← Nat.add_mul]; exact Nat.mul_le_mul_right _ hroom
      simp only [Blk.rel, upd_same]
      refine ⟨_, hnew, ?_, by simpa using hroom, e4, flat_row (l ++ ys) 0 (olds ++ news) (flat_mono hk _ _ (flat_append hfl hf)) fun j v hv => ?_⟩
      · simp; omega
      · simp only [World.cell?, hnew]
        have ho := flat_length _ _ hfl
        simp only [Nat.zero_add, Option.isSome_none, Bool.false_eq_true, if_false, List.getElem?_toArray]
        rcases Nat.lt_or_ge j olds.length with hj | hj
        · rw [List.getElem?_append_left hj] at hv
          have := hcell j v hv
          simp only [World.cell?, e1, Nat.zero_add] at this
          rw [List.append_assoc, List.getElem?_append_left (by simp; omega), List.getElem?_take_of_lt (by omega)]
          simpa using this
        · rw [List.getElem?_append_right hj] at hv
          have hj2 : j - olds.length < news.length := (List.getElem?_eq_some_iff.1 hv).1
          rw [List.getElem?_append_left (by simp; omega), List.getElem?_append_right (by simp; omega)]
          rw [← hv]; congr 1; simp; omega
    · refine grow (some ⟨r, 0, none⟩) cap olds hv ?_ hfl (by omega)
      exact run_firstCells_some w.drew kk l.length ⟨r, 0, none⟩ l.length cap olds (flat_length _ _ hfl) (fun j u hu => by rw [addr_add]; simpa using hcell j u hu)
end
end Go.Cr

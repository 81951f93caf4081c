/- MACHINE X, PART E: append. -/
import Derived.Test.YtgbpggllmcpicaaGreatMachD
namespace Go.Xm
open Go Go.Cr Go.RowKit
section
variable {P : Program} {N : Ns} {μ : Mu} {H : Tr Bk} {nx : Nat} {w : World} {s : Sem Next}
variable {ty : TypeId} {pos : String} {af : Array Edge} {g : Option (Nat × Bool)} {x y : Operand} {T T' : TypeId} {sz by' sz' by'' : Nat} {z z' : Option Value} {td td' : TD} {ρ : Operand → Value} {dst : Option Tmp}

/-- A row that goes on under a new number. -/
theorem Inv.move (h : Inv N μ H nx w) {b : Nat} {bk bk' : Bk} {p p' : Pl} {o : Obj} {w' : World} (hb : H.get b = some bk) (hm : bk.wr = true) (hp : μ b = some p) (hr : p'.r = p.r) (ho : ∀ μ', Ext μ μ' → bk'.rel μ' p' o)
    (hw : w'.heap[p.r]? = some o) (hoth : ∀ r, r ≠ p.r → w'.heap[r]? = w.heap[r]?) (hsz : w'.heap.size = w.heap.size) (h1 : w'.os = w.os) (h2 : w'.tape = w.tape) (h3 : w'.output = w.output) :
    ∃ μ', ExtN nx μ μ' ∧ μ' nx = some p' ∧ Inv N μ' ((H.put b none).put nx (some bk')) (nx + 1) w' ∧ Keep N w w' := by
  let μ' : Mu := fun b => if b = nx then some p' else μ b
  have hn : μ' nx = some p' := by simp [μ']
  have hne : ∀ b, b ≠ nx → μ' b = μ b := fun b hb => by simp [μ', hb]
  have hx : Ext μ μ' := fun b p e => by
    have : b ≠ nx := fun eb => by rw [eb, h.fresh nx (Nat.le_refl _)] at e; cases e
    rw [hne b this]; exact e
  have hnN := h.own b bk p hb hm hp
  have hnH := h.hid b bk p hb hp
  have old : ∀ c ck, c ≠ nx → ((H.put b none).put nx (some bk')).get c = some ck → c ≠ b ∧ H.get c = some ck := fun c ck hc hg => by
    rw [Tr.get_put, if_neg hc, Tr.get_put] at hg
    by_cases e : c = b
    · rw [if_pos e] at hg; cases hg
    · rw [if_neg e] at hg; exact ⟨e, hg⟩
  have new : ∀ ck, ((H.put b none).put nx (some bk')).get nx = some ck → ck = bk' := fun ck hg => by
    rw [Tr.get_put, if_pos rfl] at hg; cases hg; rfl
  refine ⟨μ', ⟨hx, fun b hb => hne b (Nat.ne_of_lt hb)⟩, hn, ⟨fun r hr => by rw [hsz]; exact h.low r hr, fun c ck hc => ?_, fun c c' ck ck' q q' hcc e1 hm1 e2 f1 f2 => ?_, fun c ck q hc hm1 hq => ?_, fun c ck q hc hq => ?_, fun c hc => ?_⟩, ⟨h1, h2, h3, by omega, fun r hr => hoth r fun e => hnN (e ▸ hr)⟩⟩
  · by_cases e : c = nx
    · subst e; rw [new ck hc]; exact ⟨p', o, hn, by rw [hr]; exact hw, ho μ' hx⟩
    · obtain ⟨g0, g1⟩ := old c ck e hc
      obtain ⟨q, o', k1, k2, k3⟩ := h.blk c ck g1
      exact ⟨q, o', hx _ _ k1, by rw [hoth q.r (fun er => h.sep b c bk ck p q (Ne.symm g0) hb hm g1 hp k1 er.symm)]; exact k2, Bk.rel_ext hx k3⟩
  · by_cases e : c = nx
    · subst e
      rw [hn] at f1; cases f1
      obtain ⟨g0, g1⟩ := old c' ck' (Ne.symm hcc) e2
      rw [hne c' (Ne.symm hcc)] at f2
      rw [hr]; exact h.sep b c' bk ck' p q' (Ne.symm g0) hb hm g1 hp f2
    · obtain ⟨g0, g1⟩ := old c ck e e1
      rw [hne c e] at f1
      by_cases e' : c' = nx
      · subst e'
        rw [hn] at f2; cases f2
        rw [hr]; exact h.sep c b ck bk q p g0 g1 hm1 hb f1 hp
      · obtain ⟨g0', g1'⟩ := old c' ck' e' e2
        rw [hne c' e'] at f2
        exact h.sep c c' ck ck' q q' hcc g1 hm1 g1' f1 f2
  · by_cases e : c = nx
    · subst e; rw [hn] at hq; cases hq; rw [hr]; exact hnN
    · obtain ⟨g0, g1⟩ := old c ck e hc
      rw [hne c e] at hq; exact h.own c ck q g1 hm1 hq
  · by_cases e : c = nx
    · subst e; rw [hn] at hq; cases hq; rw [hr]; exact hnH
    · obtain ⟨g0, g1⟩ := old c ck e hc
      rw [hne c e] at hq; exact h.hid c ck q g1 hq
  · rw [hne c (by omega)]; exact h.fresh c (by omega)

/-! ### What is appended -/
noncomputable def srcX (H : Tr Bk) (k : Nat) : V → Option (Nat × List V)
  | .slice b off m _ => match H.get b with
    | some (.row _ _ _ cells) => match Nat.beq ((cells.drop off).take (m * k)).length (m * k), ones ((cells.drop off).take (m * k)) with
      | true, true => some (m, (cells.drop off).take (m * k))
      | _, _ => none
    | _ => none
  | .val (.slice none 0 0) => some (0, [])
  | _ => none
theorem srcX_sound (h : Inv N μ H nx w) {v : V} {u : Value} (hv : v.rel μ u) {k n e : Nat} {l : List V} (hT : P.underlying T = some (.slice e)) (hl : srcX H k v = some (n, l)) :
    ∃ news, V.rels μ l news ∧ Src P k T u n news w ∧ ones l = true ∧ l.length = n * k := by
  unfold srcX at hl
  split at hl
  · rename_i b off m cap
    split at hl
    · rename_i wr k' e' cells hb
      split at hl
      · rename_i b1 b2
        cases hl
        have b1 := Nat.eq_of_beq_eq_true b1
        obtain ⟨p0, a, cp, h1, h2, h3, h4, h5, h6⟩ := hv
        obtain ⟨p, cur, e', fz, g1, g2, g3, g4, g5, g6⟩ := row_cells h hb
        rw [h1] at g1; cases g1
        have hrel := rels_take _ _ (n * k) (rels_drop _ _ off g6)
        have hlen := rels_length _ _ hrel
        refine ⟨_, hrel, ?_, b2, b1⟩
        rw [h2]
        refine Src.ofSlice w hT a n cp _ (by rw [hlen, b1]) (fun j u hu => ?_) (ones_rel _ _ b2 hrel)
        rcases h5 with ⟨rfl, h5⟩ | h5
        · rw [addr_add, cell_heap g2]
          rw [List.getElem?_take] at hu
          split at hu
          · rw [List.getElem?_drop, List.getElem?_take] at hu
            split at hu
            · rw [List.getElem?_drop] at hu
              rw [← Array.getElem?_toList, Nat.add_assoc]; exact hu
            · cases hu
          · cases hu
        · have : n * k = 0 := by rw [show n = 0 by omega]; simp
          rw [this] at hu; simp at hu
      · cases hl
    · cases hl
  · cases hl
    have : u = .slice none 0 0 := hv
    subst this
    exact ⟨[], rfl, Src.ofNil w hT 0, rfl, by simp⟩
  · cases hl

theorem append_room_at [Tab P] {kk e r off sLen sCap q : Nat} {v : Value} {news : List Value} {cur : Array Value} {zv : Option Value} (he : Tab.look P e = some ⟨td, kk, by'', zv⟩) (ht : Tab.look P T = some ⟨.slice e, sz, by', z⟩) (hs : Src P kk T' v q news w) (hg : sLen + q ≤ sCap) {e2 : Nat} (hh : w.heap[r]? = some (.cells cur e2 (0, 0))) (hc : off + (sLen + q) * kk ≤ cur.size) :
    (Builtin.append_ #[T, T'] ty #[.slice (some ⟨r, off, none⟩) sLen sCap, v]).run P w = .ok (.slice (some ⟨r, off, none⟩) (sLen + q) sCap) (w.setRow r (cur.toList.take (off + sLen * kk) ++ news ++ cur.toList.drop (off + sLen * kk + q * kk)).toArray) := by
  obtain ⟨i, d, g1, g2, g3, g4, g5, g6⟩ := Tab.row he
  simp only at g4
  have h2 := run_storeCells_at (P := P) r (off + sLen * kk) e2 news 0 cur w hh (by rw [hs.newsLen, Nat.add_zero]; rw [Nat.add_mul] at hc; omega) hs.one
  rw [hs.newsLen] at h2
  simp only [Nat.add_zero] at h2
  rcases hs.kind with ⟨e', hk⟩ | hk <;> simp [Builtin.append_, run_underlying (Tab.slice ht), run_underlying hk, sizeOf, typeInfo, g1, g4, hs.len, hg, hs.cells, addr_add, h2]
theorem append_none_at [Tab P] {kk e sLen sCap : Nat} {base : Option Addr} {v : Value} {news : List Value} {zv : Option Value} (he : Tab.look P e = some ⟨td, kk, by'', zv⟩) (ht : Tab.look P T = some ⟨.slice e, sz, by', z⟩) (hs : Src P kk T' v 0 news w) (hg : sLen ≤ sCap) :
    (Builtin.append_ #[T, T'] ty #[.slice base sLen sCap, v]).run P w = .ok (.slice base sLen sCap) w := by
  obtain ⟨i, d, g1, g2, g3, g4, g5, g6⟩ := Tab.row he
  simp only at g4
  have hn : news = [] := by have := hs.newsLen; simpa using this
  subst hn
  have hcells := hs.cells
  cases base with
  | none => rcases hs.kind with ⟨e', hk⟩ | hk <;> (simp [Builtin.append_, run_underlying (Tab.slice ht), run_underlying hk, sizeOf, typeInfo, g1, g4, hs.len, hg, hcells]; try (simp at hcells; simp [hcells]))
  | some a => rcases hs.kind with ⟨e', hk⟩ | hk <;> (simp [Builtin.append_, run_underlying (Tab.slice ht), run_underlying hk, sizeOf, typeInfo, g1, g4, hs.len, hg, hcells, storeCells]; try (simp at hcells; simp [hcells, storeCells]))

noncomputable def appendX (H : Tr Bk) (nx k e bytes : Nat) (s x : V) : Option (V × Tr Bk × Nat) :=
  match srcX H k x with
  | none => none
  | some (0, _) => match s with
    | .slice _ _ _ _ => some (s, H, nx)
    | .val (.slice none 0 0) => some (s, H, nx)
    | _ => none
  | some (n, l) => match s with
    | .val (.slice none 0 0) => match Nat.ble (n * bytes) 140737488355328, Nat.ble n 9223372036854775807 with
      | true, true => some (.slice nx 0 n none, H.put nx (some (.row true k e l)), nx + 1)
      | _, _ => none
    | .slice b off len cap => match Nat.ble ((len + n) * bytes) 140737488355328, Nat.ble (len + n) 9223372036854775807, srcX H k s with
      | true, true, some (_, olds) => match cap with
        | some c => match Nat.ble (len + n) c with
          | true => match H.get b with
            | some (.row true k' e' cells) => match Nat.beq k' k, Nat.ble (off + (len + n) * k) cells.length with
              | true, true => some (.slice b off (len + n) (some c), H.put b (some (.row true k' e' (cells.take (off + len * k) ++ l ++ cells.drop (off + len * k + n * k)))), nx)
              | _, _ => none
            | _ => none
          | false => some (.slice nx 0 (len + n) none, H.put nx (some (.row true k e (olds ++ l))), nx + 1)
        | none => match H.get b with
          | some (.row true k' e' cells) => match Nat.beq k' k, Nat.ble (off + (len + n) * k) cells.length, Nat.blt 0 k with
           | true, true, true => some (.slice b off (len + n) none, H.put b (some (.row true k' e' (cells.take (off + len * k) ++ l ++ cells.drop (off + len * k + n * k)))), nx)
           | _, _, _ => match Nat.beq k' k, Nat.beq (off + len * k) cells.length, Nat.beq e' e with
            | true, true, true => some (.slice nx 0 (len + n) none, (H.put b none).put nx (some (.row true k e (olds ++ l))), nx + 1)
            | _, _, _ => none
          | _ => none
      | _, _, _ => none
    | _ => none
theorem Inv.same (h : Inv N μ H nx w) {w' : World} (hh : w'.heap = w.heap) : Inv N μ H nx w' :=
  ⟨fun r hr => by rw [hh]; exact h.low r hr, fun b bk hb => let ⟨p, o, h1, h2, h3⟩ := h.blk b bk hb; ⟨p, o, h1, by rw [hh]; exact h2, h3⟩, h.sep, h.own, h.hid, h.fresh⟩
theorem Keep.same {w1 w' : World} (h : Keep N w w1) (hh : w'.heap = w1.heap) (h1 : w'.os = w1.os) (h2 : w'.tape = w1.tape) (h3 : w'.output = w1.output) : Keep N w w' :=
  ⟨h1.trans h.os, h2.trans h.tape, h3.trans h.output, by rw [hh]; exact h.size, fun r hr => by rw [hh]; exact h.block r hr⟩
theorem take_of_get {L : List Value} {cur : Array Value} (h : ∀ (j : Nat) u, L[j]? = some u → cur[j]? = some u) : cur.toList.take L.length = L := by
  refine List.ext_getElem? fun j => ?_
  rw [List.getElem?_take]
  by_cases hj : j < L.length
  · rw [if_pos hj, List.getElem?_eq_getElem hj, Array.getElem?_toList]
    exact h j _ (List.getElem?_eq_getElem hj)
  · rw [if_neg hj, List.getElem?_eq_none (by omega)]
theorem append_grow_inv [Tab P] (h : Inv N μ H nx w) {k e sLen sCap q : Nat} {base : Option Addr} {v : Value} {olds news : List Value} {lo ln : List V} {zv : Value} (he : Tab.look P e = some ⟨td, k, by'', some zv⟩) (hzs : zv.cells.size = k) (ht : Tab.look P T = some ⟨.slice e, sz, by', z⟩)
    (hx : ρ x = .slice base sLen sCap) (hy : ρ y = v) (hold : (Builtin.firstCells k sLen (.slice base sLen sCap)).run P w.drew = .ok olds.toArray w.drew) (ho : V.rels μ lo olds) (hlo : lo.length = sLen * k) (hn : V.rels μ ln news) (hs : Src P k T' v q news w) (hg : sCap < sLen + q)
    (hb : Nat.ble ((sLen + q) * by'') 140737488355328 = true) (hm : Nat.ble (sLen + q) 9223372036854775807 = true) (b : Option Nat) :
    Does P N μ nx w (execOp ρ ⟨dst, .call ⟨.builtin .append, #[x, y], #[T, T']⟩, ty, pos, af, g⟩) (some (.slice nx 0 (sLen + q) none), (match b with | some b => H.put b none | none => H).put nx (some (.row true k e (lo ++ ln))), nx + 1) := by
  have hb := Nat.le_of_ble_eq_true hb
  have hm := Nat.le_of_ble_eq_true hm
  have hlen := rels_length _ _ ho
  obtain ⟨cap, cur, w', h1, h2, h3, h4, h5, h6, h7, h8, h9⟩ := append_grow (T := T) (T' := T') (ty := ty) he hzs ht hold (by rw [hlen, hlo]) hs hg hb (by unfold maxLen; omega)
  have hrel := rels_append _ _ _ _ ho hn
  have hl := rels_length _ _ hrel
  have hlnl := rels_length _ _ hn
  have hnl := hs.newsLen
  have h' : Inv N μ (match b with | some b => H.put b none | none => H) nx w := by
    cases b with
    | none => exact h
    | some b => exact h.drop b
  obtain ⟨μ', k1, k2, k3, k4⟩ := h'.newRow k e (cap * k) (lo ++ ln) cur h7 (by
    rw [List.length_append, hlo]
    have : (sLen + q) * k ≤ cap * k := Nat.mul_le_mul_right _ h8
    rw [Nat.add_mul] at this; omega) (by rw [← hl, take_of_get h6]; exact hrel)
  refine ⟨.slice (some ⟨w.heap.size, 0, none⟩) (sLen + q) cap, w', μ', ?_, k1, k3.same (by rw [h2]; rfl), k4.same (by rw [h2]; rfl) h3 h4 h5, _, ⟨w.heap.size, 0, none⟩, cap, k2, rfl, h8, h9, .inl ⟨rfl, by simp⟩, fun c hc => (by cases hc), fun _ => by simp⟩
  rw [run_call_append, hx, hy, h1]; rfl
theorem appendX_sound [Tab P] (h : Inv N μ H nx w) {k e e' : Nat} {sv xv : V} {r : V × Tr Bk × Nat} {zv : Value} (hs : sv.rel μ (ρ x)) (hx : xv.rel μ (ρ y)) (ht : Tab.look P T = some ⟨.slice e, sz, by', z⟩) (ht' : Tab.look P T' = some ⟨.slice e', sz', by'', z'⟩) {by2 : Nat} (he : Tab.look P e = some ⟨td, k, by2, some zv⟩) (hzs : Nat.beq (zeroX zv).length k = true)
    (hl : appendX H nx k e by2 sv xv = some r) : Does P N μ nx w (execOp ρ ⟨dst, .call ⟨.builtin .append, #[x, y], #[T, T']⟩, ty, pos, af, g⟩) (some r.1, r.2.1, r.2.2) := by
  have hzs : zv.cells.size = k := by have := Nat.eq_of_beq_eq_true hzs; simpa [zeroX] using this
  unfold appendX at hl
  split at hl
  · cases hl
  · rename_i l0 hsrc
    obtain ⟨news, n1, n2, n3, n4⟩ := srcX_sound (T := T') h hx (Tab.slice ht') hsrc
    split at hl
    · cases hl
      obtain ⟨p, a, cp, g1, g2, g3, g4, g5, g6⟩ := hs
      exact Does.value h _ (by rw [run_call_append, g2, append_none_at (T := T) he ht n2 g3]; rfl) ⟨p, a, cp, g1, rfl, g3, g4, g5, g6⟩
    · cases hl
      have hs : ρ x = .slice none 0 0 := hs
      exact Does.value h _ (by rw [run_call_append, hs, append_none_at (T := T) he ht n2 (Nat.le_refl _)]; rfl) rfl
    · cases hl
  · rename_i n l hn0 hsrc
    obtain ⟨news, n1, n2, n3, n4⟩ := srcX_sound (T := T') h hx (Tab.slice ht') hsrc
    have hn : 0 < n := Nat.pos_of_ne_zero fun e => hn0 e
    split at hl
    · split at hl
      · rename_i b1 b2
        cases hl
        have hs : ρ x = .slice none 0 0 := hs
        have := append_grow_inv (P := P) (N := N) (T := T) (T' := T') (dst := dst) (ty := ty) (pos := pos) (af := af) (g := g) (y := y) h he hzs ht (lo := []) (olds := []) hs rfl (run_firstCells_none _ _ _ _ _) rfl (by simp) n1 n2 (by omega) (by rw [Nat.zero_add]; exact b1) (by rw [Nat.zero_add]; exact b2) none
        simpa using this
      · cases hl
    · rename_i b off len cap
      split at hl
      · rename_i q olds b1 b2 hso
        obtain ⟨ovs, o1, o2, o3, o4⟩ := srcX_sound (T := T) h hs (Tab.slice ht) hso
        obtain ⟨p0, a, cp, g1, g2, g3, g4, g5, g6⟩ := hs
        have hq : q = len := by
          simp only [srcX] at hso
          split at hso
          · split at hso
            · cases hso; rfl
            · cases hso
          · cases hso
        subst hq
        have hold : (Builtin.firstCells k q (.slice (some a) q cp)).run P w.drew = .ok ovs.toArray w.drew := by rw [← g2]; exact o2.cellsD
        have grow : ∀ bb, cp < q + n → Does P N μ nx w (execOp ρ ⟨dst, .call ⟨.builtin .append, #[x, y], #[T, T']⟩, ty, pos, af, g⟩) (some (.slice nx 0 (q + n) none), (match bb with | some b => H.put b none | none => H).put nx (some (.row true k e (olds ++ l))), nx + 1) := fun bb hg =>
          append_grow_inv h he hzs ht g2 rfl hold o1 o4 n1 n2 hg b1 b2 bb
        have room : ∀ k' e2 cells, H.get b = some (.row true k' e2 cells) → k' = k → off + (q + n) * k ≤ cells.length → q + n ≤ cp →
            Does P N μ nx w (execOp ρ ⟨dst, .call ⟨.builtin .append, #[x, y], #[T, T']⟩, ty, pos, af, g⟩) (some (.slice b off (q + n) cap), H.put b (some (.row true k' e2 (cells.take (off + q * k) ++ l ++ cells.drop (off + q * k + n * k)))), nx) := fun k' e2 cells hb b4 b5 b3 => by
          subst b4
          have g5' := g5
          obtain ⟨p, cur, e3, fz, f1, f2, f3, f4, f5, f6⟩ := row_cells h hb
          rw [g1] at f1; cases f1
          obtain ⟨rfl, rfl, hsz⟩ := f3 rfl
          rcases g5' with ⟨rfl, g5'⟩ | g5'
          · have hlen := rels_length _ _ n1
            have hnl := n2.newsLen
            have hmul : (q + n) * k' = q * k' + n * k' := Nat.add_mul _ _ _
            have hrun := append_room_at (ty := ty) he ht n2 b3 f2 (off := p0.o + off) (by omega)
            have hcur : cur.toList.length = cur.size := Array.length_toList
            have hsp := splice_rel (off := off + q * k') (sz := n * k') f6 (by omega) (by rw [List.length_drop, hcur]; omega) n1 (by omega)
            have e1 : (cur.toList.take (p0.o + off + q * k') ++ news ++ cur.toList.drop (p0.o + off + q * k' + n * k')).drop p0.o = (cur.toList.drop p0.o).take (off + q * k') ++ news ++ (cur.toList.drop p0.o).drop (off + q * k' + n * k') := by
              rw [List.append_assoc, List.drop_append_of_le_length (by rw [List.length_take, hcur]; omega), List.append_assoc]
              congr 1
              · rw [List.drop_take]; congr 1; omega
              · congr 1; rw [List.drop_drop]; congr 1; omega
            rw [← e1] at hsp
            have hs1 : (cur.toList.take (p0.o + off + q * k') ++ news ++ cur.toList.drop (p0.o + off + q * k' + n * k')).toArray.size = p0.o + p0.size := by
              rw [List.size_toArray, List.length_append, List.length_append, List.length_take, List.length_drop, hcur]; omega
            obtain ⟨i1, i2⟩ := h.write (bk' := .row true k' e3 (cells.take (off + q * k') ++ l ++ cells.drop (off + q * k' + n * k'))) (w' := w.setRow p0.r (cur.toList.take (p0.o + off + q * k') ++ news ++ cur.toList.drop (p0.o + off + q * k' + n * k')).toArray) hb rfl g1
              ⟨_, e3, (0, 0), rfl, fun _ => ⟨rfl, rfl, hs1⟩, f4, by rw [List.length_append, List.length_append, List.length_take, List.length_drop]; omega, hsp⟩ (setRow_heap w p0.r cur _ e3 (0, 0) f2) (fun r hr => setRow_other w p0.r r _ hr) (by simp) rfl rfl rfl
            exact ⟨_, _, μ, by rw [run_call_append, g2, hrun]; rfl, ExtN.refl μ, i1, i2, p0, _, cp, g1, rfl, b3, g4, .inl ⟨rfl, g5'⟩, g6⟩
          · omega
        split at hl
        · rename_i c
          have hcp : cp = c := g6.1 c rfl
          subst hcp
          split at hl
          · rename_i b3
            have b3 := Nat.le_of_ble_eq_true b3
            split at hl
            · rename_i k' e2 cells hb
              split at hl
              · rename_i b4 b5
                cases hl
                exact room k' e2 cells hb (Nat.eq_of_beq_eq_true b4) (Nat.le_of_ble_eq_true b5) b3
              · cases hl
            · cases hl
          · rename_i b3
            cases hl
            exact grow none (by
              have : ¬ (q + n ≤ cp) := fun hle => by rw [Nat.ble_eq_true_of_le hle] at b3; cases b3
              omega)
        · split at hl
          · rename_i k' e2 cells hb
            split at hl
            · rename_i b4 b5 b6
              cases hl
              have b4 := Nat.eq_of_beq_eq_true b4
              have b5 := Nat.le_of_ble_eq_true b5
              have b6 := Nat.blt_eq.mp b6
              refine room k' e2 cells hb b4 b5 ?_
              obtain ⟨p, cur, e3, fz, f1, f2, f3, f4, f5, f6⟩ := row_cells h hb
              rw [g1] at f1; cases f1
              have h1 := g6.2 rfl
              rw [f4, b4] at h1
              exact Nat.le_of_mul_le_mul_right (c := k) (by omega) b6
            · split at hl
              · rename_i b4 b5 b6
                cases hl
                have b4 := Nat.eq_of_beq_eq_true b4
                have b5 := Nat.eq_of_beq_eq_true b5
                have b6 := Nat.eq_of_beq_eq_true b6
                subst b4 b6
                by_cases hroom : q + n ≤ cp
                · obtain ⟨p, cur, e3, fz, f1, f2, f3, f4, f5, f6⟩ := row_cells h hb
                  rw [g1] at f1; cases f1
                  obtain ⟨rfl, rfl, hsz⟩ := f3 rfl
                  rcases g5 with ⟨rfl, g5⟩ | g5
                  · have hlen := rels_length _ _ n1
                    have hnl := n2.newsLen
                    have hmul : (q + n) * k' = q * k' + n * k' := Nat.add_mul _ _ _
                    have hmul2 : (q + n) * k' ≤ cp * k' := Nat.mul_le_mul_right _ hroom
                    rw [f4] at g5
                    have hrun := append_room_at (ty := ty) he ht n2 hroom f2 (off := p0.o + off) (by omega)
                    have hcur : cur.toList.length = cur.size := Array.length_toList
                    have hov := rels_length _ _ o1
                    have hdrop : olds = cells.drop off := by
                      simp only [srcX, hb] at hso
                      split at hso
                      · cases hso
                        rw [List.take_of_length_le (by rw [List.length_drop]; omega)]
                      · cases hso
                    have hso2 : ovs = ((cur.toList.take (p0.o + off + q * k')).drop (p0.o + off)) := by
                      have hc := o2.cells
                      rw [g2] at hc
                      have hc2 := run_firstCells_some (P := P) w k' q ⟨p0.r, p0.o + off, none⟩ q cp ((cur.toList.take (p0.o + off + q * k')).drop (p0.o + off)) (by rw [List.length_drop, List.length_take, hcur]; omega) (fun j u hu => by
                        rw [addr_add, cell_heap f2]
                        rw [List.getElem?_drop, List.getElem?_take] at hu
                        split at hu
                        · rw [← Array.getElem?_toList]; exact hu
                        · cases hu)
                      rw [hc] at hc2
                      simpa using hc2
                    have hrel : V.rels μ (olds ++ l) (((cur.toList.take (p0.o + off + q * k') ++ news ++ cur.toList.drop (p0.o + off + q * k' + n * k')).drop (p0.o + off)).take (olds ++ l).length) := by
                      have hL : (olds ++ l).length = q * k' + n * k' := by rw [List.length_append, o4, n4]
                      rw [List.append_assoc, List.drop_append_of_le_length (by rw [List.length_take, hcur]; omega), ← hso2, hL, List.take_append, List.take_of_length_le (by omega), List.take_append, List.take_of_length_le (l := news) (by omega)]
                      rw [show q * k' + n * k' - ovs.length - news.length = 0 by omega, List.take_zero, List.append_nil]
                      exact rels_append _ _ _ _ o1 n1
                    obtain ⟨μ', i1, i2, i3, i4⟩ := h.move (bk' := .row true k' e3 (olds ++ l)) (p' := ⟨p0.r, p0.o + off, p0.size - off, k'⟩) (w' := w.setRow p0.r (cur.toList.take (p0.o + off + q * k') ++ news ++ cur.toList.drop (p0.o + off + q * k' + n * k')).toArray) hb rfl g1 rfl
                      (fun μ' hx => ⟨_, e3, (0, 0), rfl, fun _ => ⟨rfl, rfl, by
                        show _ = p0.o + off + (p0.size - off)
                        rw [List.size_toArray, List.length_append, List.length_append, List.length_take, List.length_drop, hcur]; omega⟩, rfl, by
                          show (olds ++ l).length ≤ p0.size - off
                          rw [List.length_append, o4, n4]; omega, V.rels_ext hx _ _ hrel⟩) (setRow_heap w p0.r cur _ e3 (0, 0) f2) (fun r hr => setRow_other w p0.r r _ hr) (by simp) rfl rfl rfl
                    refine ⟨_, _, μ', by rw [run_call_append, g2, hrun]; rfl, i1, i3, i4, _, _, cp, i2, rfl, hroom, g4, .inl ⟨by simp, ?_⟩, fun c hc => (by cases hc), fun _ => ?_⟩
                    · show 0 + cp * k' ≤ p0.size - off
                      omega
                    · have h1 := g6.2 rfl
                      rw [f4] at h1
                      show 0 + cp * k' = p0.size - off
                      omega
                  · omega
                · exact grow (some b) (by omega)
              · cases hl
          · cases hl
      · cases hl
    · cases hl
end
end Go.Xm

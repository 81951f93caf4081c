/- MACHINE X: slices.Insert[[]int,int] of a slice that is open, within it: by the kit's contracts ('_shift', '_grow'), laid at this translation. -/
import Derived.Test.YtgbpggllmcpicaaGreatInsLay
import Derived.Test.YtgbpggllmcpicaaGreatKnow
namespace Go.Xm
open Go Go.Cr Go.RowKit Go.Proofs

noncomputable def orcOr (a b : CallX) : CallX := fun f args H nx => match a f args H nx with
  | some r => some r
  | none => b f args H nx
theorem orcOr_ok {P : Program} {a b : CallX} (ha : CallOK P a) (hb : CallOK P b) : CallOK P (orcOr a b) := by
  intro f args H nx v H' nx' h
  unfold orcOr at h
  split at h
  · rename_i r hr; cases h; exact ha _ _ _ _ _ _ _ hr
  · exact hb _ _ _ _ _ _ _ h
noncomputable def allInt : List V → Bool
  | [] => true
  | .val (.int _ _) :: l => allInt l
  | _ => false
noncomputable def orcIns : CallX := fun f args H nx => match f, args with
  | .fn (.func k) [] [], [.slice b 0 n none, .val (.int .i64 (.ofNat i)), .slice vb 0 m (some vc)] => match Nat.beq k 68, Nat.beq b vb, Nat.blt i n, Nat.blt 0 m with
    | true, false, true, true => match H.get b, H.get vb with
      | some (.row true 1 e cs), some (.row true 1 e2 vs) => match Nat.beq cs.length n, Nat.beq vs.length m, Nat.ble ((n + m) * 8) 140737488355328, allInt cs, allInt vs with
        | true, true, true, true, true => match Nat.beq e 3 with
          | true => some (.slice nx 0 (n + m) none, (H.put b none).put nx (some (.row true 1 3 (cs.take i ++ vs ++ cs.drop i))), nx + 1)
          | false => none
        | _, _, _, _, _ => none
      | _, _ => none
    | _, _, _, _ => none
  | _, _ => none

section
variable {P : Program} {N : Ns} {μ : Mu} {H : Tr Bk} {nx n : Nat} {w : World} {t : Tr V}
theorem allInt_one : ∀ (l : List V) (us : List Value), allInt l = true → V.rels μ l us → ∀ v ∈ us, v.oneCell' = true
  | [], us, _, h, v, hv => by simp only [V.rels] at h; subst h; cases hv
  | x :: l, _, h, ⟨u, r, rfl, h1, h2⟩, v, hv => by
    unfold allInt at h
    split at h
    · rename_i heq; cases heq
    · rename_i k z l' heq
      cases heq
      rcases List.mem_cons.1 hv with rfl | hv
      · have : v = .int k z := h1
        subst this; rfl
      · exact allInt_one l r h h2 v hv
    · cases h
/-- Cells written one behind the other. -/
theorem setCells_heap (b : Nat) : ∀ (vs : List Value) (o : Nat) (w : World) (cur : Array Value) (e : TypeId) (fz : Nat × Nat), w.heap[b]? = some (.cells cur e fz) →
    ∃ cur', w.setCells b o vs = w.putObj b (.cells cur' e fz) ∧ cur'.size = cur.size ∧ ∀ j, cur'[j]? = if o ≤ j ∧ j < o + vs.length ∧ j < cur.size then vs[j - o]? else cur[j]?
  | [], o, w, cur, e, fz, h => by
    refine ⟨cur, ?_, rfl, fun j => ?_⟩
    · have hlt := (Array.getElem?_eq_some_iff.1 h).1
      have : w.heap.setIfInBounds b (.cells cur e fz) = w.heap := by
        refine Array.ext_getElem? fun j => ?_
        rw [Array.getElem?_setIfInBounds]
        split
        · rename_i hj; subst hj; simp_all
        · rfl
      show w = w.putObj b (.cells cur e fz)
      simp only [World.putObj, this]
    · rw [if_neg]; simp only [List.length_nil]; omega
  | v :: r, o, w, cur, e, fz, h => by
    have hlt := (Array.getElem?_eq_some_iff.1 h).1
    have hw := (Array.getElem?_eq_some_iff.1 h).2
    have h1 : w.setCell ⟨b, o, none⟩ v = w.putObj b (.cells (cur.setIfInBounds o v) e fz) := by
      simp only [World.setCell, World.putObj, World.mk.injEq, and_self, and_true]
      refine Array.ext_getElem? fun j => ?_
      rw [Array.getElem?_modify, Array.getElem?_setIfInBounds]
      split
      · rename_i hj; subst hj; simp [hlt, hw]
      · rfl
    obtain ⟨cur', k1, k2, k3⟩ := setCells_heap b r (o + 1) (w.putObj b (.cells (cur.setIfInBounds o v) e fz)) (cur.setIfInBounds o v) e fz (World.putObj_heap_same hlt)
    refine ⟨cur', ?_, by rw [k2]; simp, fun j => ?_⟩
    · rw [World.setCells, h1, k1]
      simp [World.putObj]
    · rw [k3 j, Array.getElem?_setIfInBounds]
      simp only [Array.size_setIfInBounds, List.length_cons]
      by_cases hj : o + 1 ≤ j ∧ j < o + 1 + r.length ∧ j < cur.size
      · rw [if_pos hj, if_pos (by omega)]
        obtain ⟨d, rfl⟩ : ∃ d, j = o + 1 + d := ⟨j - (o + 1), by omega⟩
        rw [show o + 1 + d - o = d + 1 by omega, List.getElem?_cons_succ]
        rw [show o + 1 + d - (o + 1) = d by omega]
      · rw [if_neg hj]
        by_cases e0 : o = j
        · subst e0
          simp only [if_true]
          by_cases hlt' : o < cur.size
          · rw [if_pos hlt', if_pos (by omega)]; simp
          · rw [if_neg hlt', if_neg (by omega)]
            rw [Array.getElem?_eq_none (by omega)]
        · rw [if_neg e0, if_neg (by omega)]
theorem Inv.getEq {H' : Tr Bk} (h : Inv N μ H nx w) (e : ∀ c, H'.get c = H.get c) : Inv N μ H' nx w :=
  ⟨h.low, fun b bk hb => h.blk b bk (by rw [← e]; exact hb), fun b b' bk bk' p p' hbb e1 hm e2 => h.sep b b' bk bk' p p' hbb (by rw [← e]; exact e1) hm (by rw [← e]; exact e2), fun b bk p hb => h.own b bk p (by rw [← e]; exact hb), fun b bk p hb => h.hid b bk p (by rw [← e]; exact hb), h.fresh⟩
/-- A block gets another number. -/
theorem Inv.renum (h : Inv N μ H nx w) {b : Nat} {bk : Bk} {p : Pl} (hb : H.get b = some bk) (hp : μ b = some p) :
    ∃ μ', Ext μ μ' ∧ μ' nx = some p ∧ Inv N μ' ((H.put b none).put nx (some bk)) (nx + 1) w := by
  let μ' : Mu := fun c => if c = nx then some p else μ c
  have hn : μ' nx = some p := by simp [μ']
  have hne : ∀ c, c ≠ nx → μ' c = μ c := fun c hc => by simp [μ', hc]
  have hx : Ext μ μ' := fun c q e => by
    have : c ≠ nx := fun ec => by rw [ec, h.fresh nx (Nat.le_refl _)] at e; cases e
    rw [hne c this]; exact e
  have key : ∀ c ck, ((H.put b none).put nx (some bk)).get c = some ck → ∃ c0, H.get c0 = some ck ∧ μ' c = μ c0 ∧ ((c = nx ∧ c0 = b) ∨ (c ≠ nx ∧ c ≠ b ∧ c0 = c)) := fun c ck hc => by
    rw [Tr.get_put] at hc
    by_cases e : c = nx
    · rw [if_pos e] at hc; cases hc
      exact ⟨b, hb, by rw [e, hn, hp], .inl ⟨e, rfl⟩⟩
    · rw [if_neg e, Tr.get_put] at hc
      by_cases e2 : c = b
      · rw [if_pos e2] at hc; cases hc
      · rw [if_neg e2] at hc
        exact ⟨c, hc, hne c e, .inr ⟨e, e2, rfl⟩⟩
  refine ⟨μ', hx, hn, h.low, fun c ck hc => ?_, fun c c' ck ck' q q' hcc e1 hm1 e2 f1 f2 => ?_, fun c ck q hc hm hq => ?_, fun c ck q hc hq => ?_, fun c hc => ?_⟩
  · obtain ⟨c0, k1, k2, _⟩ := key c ck hc
    obtain ⟨q, o, g1, g2, g3⟩ := h.blk c0 ck k1
    exact ⟨q, o, by rw [k2, g1], g2, Bk.rel_ext hx g3⟩
  · obtain ⟨c0, k1, k2, k3⟩ := key c ck e1
    obtain ⟨c1, l1, l2, l3⟩ := key c' ck' e2
    refine h.sep c0 c1 ck ck' q q' (fun e => ?_) k1 hm1 l1 (by rw [← k2]; exact f1) (by rw [← l2]; exact f2)
    rcases k3 with ⟨a1, a2⟩ | ⟨a1, a2, a3⟩ <;> rcases l3 with ⟨b1, b2⟩ | ⟨b1, b2, b3⟩ <;> omega
  · obtain ⟨c0, k1, k2, _⟩ := key c ck hc
    exact h.own c0 ck q k1 hm (by rw [← k2]; exact hq)
  · obtain ⟨c0, k1, k2, _⟩ := key c ck hc
    exact h.hid c0 ck q k1 (by rw [← k2]; exact hq)
  · rw [hne c (by omega)]; exact h.fresh c (by omega)
theorem ins_take {L cs vs : List Value} {i n m : Nat} (hi : i ≤ n) (hc : cs.length = n) (hv : vs.length = m) (hl : n + m ≤ L.length)
    (h : ∀ j, j < n + m → L[j]? = if i + m ≤ j then (cs.drop i)[j - (i + m)]? else if i ≤ j then vs[j - i]? else cs[j]?) : L.take (n + m) = cs.take i ++ vs ++ cs.drop i := by
  refine List.ext_getElem? fun j => ?_
  rw [List.getElem?_take]
  by_cases hj : j < n + m
  · rw [if_pos hj, h j hj]
    by_cases h1 : i + m ≤ j
    · rw [if_pos h1, List.getElem?_append_right (by simp; omega)]
      congr 1; simp; omega
    · rw [if_neg h1]
      by_cases h2 : i ≤ j
      · rw [if_pos h2, List.getElem?_append_left (by simp; omega), List.getElem?_append_right (by simp; omega)]
        congr 1; simp; omega
      · rw [if_neg h2, List.getElem?_append_left (by simp; omega), List.getElem?_append_left (by simp; omega), List.getElem?_take, if_pos (by omega)]
  · rw [if_neg hj, List.getElem?_eq_none]
    simp; omega
theorem grownCap_le (w : World) (need c : Nat) (e : TypeId) (h : need < 2 ^ 63) : need ≤ grownCap w need c e ∧ grownCap w need c e ≤ maxLen := by
  unfold grownCap Question.cut maxLen
  simp only
  have := Nat.mod_lt (w.tape w.drawn (.appendCap need c e)) (show 0 < 2 ^ 63 - need by omega)
  omega
theorem orcIns_ok : CallOK Pr orcIns := by
  intro f args H nx v H' nx' h N μ w uf us hi hf ha
  unfold orcIns at h
  split at h
  case h_2 => cases h
  rename_i k b n i vb m vc
  obtain ⟨_, _, rfl, hc1, hc2⟩ := hf
  simp only [V.rels] at hc1 hc2
  subst hc1; subst hc2
  split at h
  case h_2 => cases h
  rename_i hk hbv hin hm0
  have hk := Nat.eq_of_beq_eq_true hk
  have hbv : ¬ b = vb := Nat.ne_of_beq_eq_false hbv
  have hin : i < n := Nat.blt_eq.mp hin
  have hm0 : 0 < m := Nat.blt_eq.mp hm0
  subst hk
  split at h
  case h_2 => cases h
  rename_i e cs e2 vs hgb hgv
  split at h
  case h_2 => cases h
  rename_i hcl hvl hbig hai hav
  have hcl := Nat.eq_of_beq_eq_true hcl
  have hvl := Nat.eq_of_beq_eq_true hvl
  have hbig := Nat.le_of_ble_eq_true hbig
  split at h
  case h_2 => cases h
  rename_i he3
  have he3 := Nat.eq_of_beq_eq_true he3
  subst he3
  cases h
  obtain ⟨u0, r0, rfl, hu0, hr0⟩ := ha
  obtain ⟨u1, r1, rfl, hu1, hr1⟩ := hr0
  obtain ⟨u2, r2, rfl, hu2, hr2⟩ := hr1
  simp only [V.rels] at hr2
  subst hr2
  have hu1 : u1 = .int .i64 (i : Int) := hu1
  subst hu1
  obtain ⟨p, a, cp, p1, rfl, p3, p4, p5, -, p7⟩ := hu0
  obtain ⟨q, a2, cp2, q1, rfl, q3, q4, q5, -, -⟩ := hu2
  obtain ⟨p', cur, e', fz, g1, g2, g3, g4, g5, g6⟩ := row_cells hi hgb
  rw [p1] at g1; cases g1
  obtain ⟨q', curv, ev', fzv, f1, f2, f3, f4, f5, f6⟩ := row_cells hi hgv
  rw [q1] at f1; cases f1
  obtain ⟨rfl, rfl, g9⟩ := g3 rfl
  obtain ⟨rfl, rfl, f9⟩ := f3 rfl
  have hpq : p.r ≠ q.r := hi.sep b vb _ _ p q hbv hgb rfl hgv p1 q1
  have ea : a = ⟨p.r, p.o, none⟩ := by
    rcases p5 with ⟨h1, _⟩ | ⟨h1, _⟩
    · simpa using h1
    · omega
  have ea2 : a2 = ⟨q.r, q.o, none⟩ := by
    rcases q5 with ⟨h1, _⟩ | ⟨h1, _⟩
    · simpa using h1
    · omega
  subst ea; subst ea2
  have hps : cp = p.size := by have := p7 rfl; rw [g4] at this; simpa using this
  obtain ⟨L, hL⟩ : ∃ L, L = (cur.toList.drop p.o).take n := ⟨_, rfl⟩
  obtain ⟨Lv, hLv⟩ : ∃ Lv, Lv = (curv.toList.drop q.o).take m := ⟨_, rfl⟩
  rw [hcl, ← hL] at g6
  rw [hvl, ← hLv] at f6
  have hLl : L.length = n := by rw [rels_length _ _ g6, hcl]
  have hLvl : Lv.length = m := by rw [rels_length _ _ f6, hvl]
  have hLj : ∀ j, j < n → L[j]? = cur[p.o + j]? := fun j hj => by rw [hL, List.getElem?_take, if_pos hj, List.getElem?_drop, Array.getElem?_toList]
  have hLvj : ∀ j, j < m → Lv[j]? = curv[q.o + j]? := fun j hj => by rw [hLv, List.getElem?_take, if_pos hj, List.getElem?_drop, Array.getElem?_toList]
  have hcs : ∀ j v, L[j]? = some v → w.cell? ⟨p.r, p.o + j, none⟩ = some v := fun j v hj => by
    have : j < n := by have := (List.getElem?_eq_some_iff.1 hj).1; omega
    rw [cell_heap g2, ← hLj j this]; exact hj
  have hvs : ∀ j v, Lv[j]? = some v → w.cell? ⟨q.r, q.o + j, none⟩ = some v := fun j v hj => by
    have : j < m := by have := (List.getElem?_eq_some_iff.1 hj).1; omega
    rw [cell_heap f2, ← hLvj j this]; exact hj
  have h1c := allInt_one _ _ hai g6
  have h1v := allInt_one _ _ hav f6
  have hrel : V.rels μ (cs.take i ++ vs ++ cs.drop i) (L.take i ++ Lv ++ L.drop i) := rels_append _ _ _ _ (rels_append _ _ _ _ (rels_take _ _ i g6) f6) (rels_drop _ _ i g6)
  have hnl : (cs.take i ++ vs ++ cs.drop i).length = n + m := by simp; omega
  have hfn : ∃ fn, Pr.funcs[68]? = some fn ∧ (fn.name == "runtime.NumGoroutine") = false ∧ ∃ c, fn.body = some c := ⟨_, Tryz.lays21.f21, by kernel_rfl, _, rfl⟩
  obtain ⟨fn, fe1, fe2, fe3⟩ := hfn
  refine ⟨_, .enter 68 #[.slice (some ⟨p.r, p.o, none⟩) n cp, .int .i64 (i : Int), .slice (some ⟨q.r, q.o, none⟩) m cp2], rfl, ?_, callsIn_wide.2 ?_, fun _ _ _ _ => ⟨_, _, rfl⟩⟩
  · have := run_callFunc' (w := w) fe1 fe2 fe3 #[.slice (some ⟨p.r, p.o, none⟩) n cp, .int .i64 (i : Int), .slice (some ⟨q.r, q.o, none⟩) m cp2]
    simp [invoke, this]
  · by_cases hroom : n + m ≤ cp
    · have hc := Any2.slices_Insert_int_shift Tryz.lays21 p.r p.o n cp i q.r q.o m cp2 L Lv w hin hm0 hroom p4 (Ne.symm hpq) hLl hLvl hcs
        (fun j hj => by
          have : p.o + j < cur.size := by omega
          rw [cell_heap g2, Array.getElem?_eq_getElem this]; rfl) (fun j hj => by simp [World.frozen?, g2]) hvs h1c h1v ev' 3 curv.size cur.size (by simp [World.shape?, f2]) (by simp [World.shape?, g2]) (by omega) (by simp [World.frozen?, f2]) (by simp [World.frozen?, f2])
      refine Calls.mono (R := _) hc ?_
      rintro e w' ⟨rfl, rfl⟩
      obtain ⟨c1, k1, k2, k3⟩ := setCells_heap p.r (L.drop i) (p.o + (i + m)) w.drew cur 3 (0, 0) g2
      have hlt : p.r < w.drew.heap.size := (Array.getElem?_eq_some_iff.1 g2).1
      obtain ⟨c2, l1, l2, l3⟩ := setCells_heap p.r Lv (p.o + i) (w.drew.putObj p.r (.cells c1 3 (0, 0))) c1 3 (0, 0) (World.putObj_heap_same hlt)
      rw [k1, l1]
      have hw2 : (w.drew.putObj p.r (.cells c1 3 (0, 0))).putObj p.r (.cells c2 3 (0, 0)) = w.drew.putObj p.r (.cells c2 3 (0, 0)) := by simp [World.putObj]
      rw [hw2]
      have htake : (c2.toList.drop p.o).take (n + m) = L.take i ++ Lv ++ L.drop i := by
        refine ins_take (Nat.le_of_lt hin) hLl hLvl (by simp; omega) fun j hj => ?_
        rw [List.getElem?_drop, Array.getElem?_toList, l3, k2]
        by_cases h1 : i + m ≤ j
        · rw [if_neg (by omega), k3, if_pos (by simp; omega), if_pos h1, show p.o + j - (p.o + (i + m)) = j - (i + m) by omega]
        · rw [if_neg h1]
          by_cases h2 : i ≤ j
          · rw [if_pos (by omega), if_pos h2, show p.o + j - (p.o + i) = j - i by omega]
          · rw [if_neg (by omega), if_neg h2, k3, if_neg (by omega), hLj j (by omega)]
      have hi2 : Inv N μ H nx w.drew := hi.same rfl
      obtain ⟨i1, i2⟩ := hi2.write (bk' := .row true 1 3 (cs.take i ++ vs ++ cs.drop i)) (o := .cells c2 3 (0, 0)) (w' := w.drew.putObj p.r (.cells c2 3 (0, 0))) hgb rfl p1
        ⟨c2, 3, (0, 0), rfl, fun _ => ⟨rfl, rfl, by omega⟩, g4, by rw [hnl]; omega, by rw [hnl, htake]; exact hrel⟩ (World.putObj_heap_same hlt) (fun r hr => World.putObj_heap_other hr) World.putObj_size rfl rfl rfl
      obtain ⟨μ', m1, m2, m3⟩ := i1.renum (b := b) (p := p) (by rw [Tr.get_put, if_pos rfl]) p1
      refine ⟨_, rfl, μ', m1, m3.getEq (fun c => ?_), Keep.trans (b := w.drew) ⟨rfl, rfl, rfl, Nat.le_refl _, fun _ _ => rfl⟩ i2, p, ⟨p.r, p.o, none⟩, cp, m2, rfl, hroom, p4, .inl ⟨rfl, by rw [g4]; omega⟩, fun c hc => (by cases hc), fun _ => by rw [g4]; omega⟩
      simp only [Tr.get_put]
      by_cases a1 : c = nx <;> by_cases a2 : c = b <;> simp [a1, a2]
    · have hc := Any2.slices_Insert_int_grow Tryz.lays21 p.r p.o n cp i q.r q.o m cp2 L Lv w hin hm0 p3 (by omega) hbig hLl hLvl hcs hvs h1c h1v
      refine Calls.mono (R := _) hc ?_
      rintro e w' ⟨rfl, rfl⟩
      obtain ⟨y1, y2⟩ := grownCap_le w (n + m) cp 3 (by omega)
      have hrt : Tryz.lays21_ren.t 3 = 3 := rfl
      rw [hrt]
      generalize grownCap w (n + m) cp 3 = G at y1 y2 ⊢
      obtain ⟨ROW, hROW⟩ : ∃ ROW, ROW = (L.take i).toArray ++ Builtin.zeroCells (Value.int .i64 0).cells (n + m - i) ++ Builtin.zeroCells (Value.int .i64 0).cells (G - (n + m)) := ⟨_, rfl⟩
      rw [← hROW]
      have hRl : ROW.size = G := by
        rw [hROW]
        simp [Builtin.zeroCells, Value.cells]
        omega
      have hRj : ∀ j, j < i → ROW[j]? = L[j]? := fun j hj => by
        rw [hROW, Array.getElem?_append_left (by simp; omega), Array.getElem?_append_left (by simp; omega)]
        simp [List.getElem?_take, hj]
      have hal : ∀ o, (w.alloc o).heap = w.heap.push o := fun _ => rfl
      have hlt : w.heap.size < ((w.alloc (.cells ROW 3)).drew).heap.size := by show w.heap.size < (w.alloc (.cells ROW 3)).heap.size; rw [hal]; simp
      obtain ⟨c1, k1, k2, k3⟩ := setCells_heap w.heap.size Lv i (w.alloc (.cells ROW 3)).drew ROW 3 (0, 0) (by show (w.alloc (.cells ROW 3)).heap[w.heap.size]? = _; rw [hal]; simp)
      rw [k1]
      obtain ⟨c2, l1, l2, l3⟩ := setCells_heap w.heap.size (L.drop i) (i + m) (((w.alloc (.cells ROW 3)).drew.putObj w.heap.size (.cells c1 3 (0, 0))).drew) c1 3 (0, 0) (World.putObj_heap_same hlt)
      rw [l1]
      have htake : c2.toList.take (n + m) = L.take i ++ Lv ++ L.drop i := by
        refine ins_take (Nat.le_of_lt hin) hLl hLvl (by simp; omega) fun j hj => ?_
        rw [Array.getElem?_toList, l3, k2]
        by_cases h1 : i + m ≤ j
        · rw [if_pos (by simp; omega), if_pos h1]
        · rw [if_neg (by omega), if_neg h1, k3]
          by_cases h2 : i ≤ j
          · rw [if_pos (by omega), if_pos h2]
          · rw [if_neg (by omega), if_neg h2, hRj j (by omega)]
      have hi2 : Inv N μ (H.put b none) nx w := hi.drop b
      obtain ⟨μ', m1, m2, m3, m4⟩ := hi2.newRow 1 3 G (cs.take i ++ vs ++ cs.drop i) c2 (by omega) (by rw [hnl]; exact y1) (by rw [hnl, htake]; exact hrel)
      have hheap : ((((w.alloc (.cells ROW 3)).drew.putObj w.heap.size (.cells c1 3 (0, 0))).drew).putObj w.heap.size (.cells c2 3 (0, 0))).heap = (w.alloc (.cells c2 3)).heap := by
        show ((w.alloc (.cells ROW 3)).heap.setIfInBounds w.heap.size (.cells c1 3 (0, 0))).setIfInBounds w.heap.size (.cells c2 3 (0, 0)) = (w.alloc (.cells c2 3)).heap
        rw [hal, hal]
        refine Array.ext_getElem? fun j => ?_
        simp only [Array.getElem?_setIfInBounds, Array.getElem?_push, Array.size_push, Array.size_setIfInBounds]
        by_cases ej : w.heap.size = j
        · subst ej; simp
        · simp [ej, Ne.symm ej]
      refine ⟨_, rfl, μ', m1.1, m3.same hheap, m4.same hheap rfl rfl rfl, _, ⟨w.heap.size, 0, none⟩, G, m2, rfl, y1, y2, .inl ⟨rfl, by simp⟩, fun c hc => (by cases hc), fun _ => by simp⟩
end
end Go.Xm

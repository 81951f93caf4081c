/- THE OWN LAYER, PART F: parts of slices; aggregates built; variables, stores, make, append. -/
import Derived.Test.YtgbpggllmcpicaaGreatCoreE
namespace Go.Cr
open Go Go.RowKit

/-- A bound of 'x[lo:hi]'. -/
def Bnd (σ : Sg) : Option Operand → Nat → Nat → Prop
  | none, dflt, v => v = dflt
  | some o, _, v => ∃ k m, σ.opd o = some (dI k m) ∧ m = (v : Int)
theorem Bnd.none {σ : Sg} {dflt : Nat} : Bnd σ .none dflt dflt := rfl
theorem Bnd.nat {σ : Sg} {o : Operand} {k : IntKind} {dflt v : Nat} (h : σ.opd o = some (dI k (v : Int))) : Bnd σ (some o) dflt v := ⟨k, _, h, rfl⟩
theorem Bnd.int {σ : Sg} {o : Operand} {k : IntKind} {dflt : Nat} {m : Int} (h : σ.opd o = some (dI k m)) (h0 : 0 ≤ m) : Bnd σ (some o) dflt m.toNat := ⟨k, _, h, (Int.toNat_of_nonneg h0).symm⟩

section
variable {n : Nat} {c : Cx n} {σ : Sg} {ρ : Nat → R} {a : Act} {w : World}
variable {P : Program} {s : Nat} {ty : TypeId} {pos : String} {af : Array Edge} {g : Option (Nat × Bool)} {x y : Operand} {T T' : TypeId} {k k' : IntKind} {m m' : Int}
variable {sz by' sz' by'' : Nat} {z z' : Option Value} {td : TD}

theorem run_bound {v : Value} {v' y : Nat} (w : World) (code : BoundsCode) (h : ∃ k, v = .int k (v' : Int)) (hle : v' ≤ y) : (Instr.sliceBound v y code).run P w = .ok v' w := by
  obtain ⟨k, rfl⟩ := h
  have := run_sliceBound (P := P) w k (v' : Int) y code (by omega) (by omega)
  simpa using this
theorem bnd_val {ev : Operand → Value} {o : Option Operand} {dflt v : Nat} (h : Bnd σ o dflt v) (hev : ∀ x d, σ.opd x = some d → ∀ k m, d = dI k m → ev x = .int k m) :
    (o = none ∧ v = dflt) ∨ ∃ x, o = some x ∧ ∃ k, ev x = .int k (v : Int) := by
  cases o with
  | none => exact .inl ⟨rfl, h⟩
  | some x => obtain ⟨k, m, h1, rfl⟩ := h; exact .inr ⟨x, rfl, k, hev x _ h1 k _ rfl⟩
/-- 'x[lo:hi]' of a slice. -/
theorem run_slice [Tab P] {ev : Operand → Value} {dst : Option Tmp} {e : Nat} {ad : Option Addr} {len cap l h : Nat} {lo hi : Option Operand} (w : World) (hx : ev x = .slice ad len cap)
    (h1 : (lo = none ∧ l = 0) ∨ ∃ x, lo = some x ∧ ∃ k, ev x = .int k (l : Int)) (h2 : (hi = none ∧ h = len) ∨ ∃ x, hi = some x ∧ ∃ k, ev x = .int k (h : Int)) (hle : l ≤ h) (hc : h ≤ cap)
    (ht : Tab.look P T = some ⟨.slice e, sz, by', z⟩) (he : Tab.look P e = some ⟨td, sz', by'', z'⟩) :
    (execOp ev ⟨dst, .slice T x lo hi none, ty, pos, af, g⟩).run P w = .ok (.value (.slice (if cap = l then ad else ad.map (·.add (l * sz'))) (h - l) (cap - l))) w := by
  have hb : (Instr.sliceBounds true len cap (lo.map ev) (hi.map ev) none).run P w = .ok (l, h, cap) w := by
    rcases h1 with ⟨rfl, rfl⟩ | ⟨xl, rfl, hk⟩ <;> rcases h2 with ⟨rfl, rfl⟩ | ⟨xh, rfl, hk'⟩
    · simp [Instr.sliceBounds]
    · simp [Instr.sliceBounds, run_bound w _ hk' hc]
    · simp [Instr.sliceBounds, run_bound w _ hk hle]
    · simp [Instr.sliceBounds, run_bound w _ hk hle, run_bound w _ hk' hc]
  simp only [execOp, hx, Instr.sliceAt, Sem.run_bind, run_underlying (Tab.slice ht), Result.andThen, Instr.slice, Option.map_none, hb, Tab.sizeOf w he, Sem.run_pure]
theorem opd_ev (hr : RelR c σ ρ a w) : ∀ x d, σ.opd x = some d → ∀ k m, d = dI k m → a.eval x = .int k m := fun x d hx k m hd => by subst hd; exact hr.opd hx

theorem r_slice [Tab P] {d : D} {ls : List I} {e l h : Nat} {lo hi : Option Operand} (hx : σ.opd x = some d) (hl : d.immL = some ls) (h1 : Bnd σ lo 0 l) (h2 : Bnd σ hi ls.length h) (hle : l ≤ h) (hh : h ≤ ls.length)
    (ht : Tab.look P T = some ⟨.slice e, sz, by', z⟩) (he : Tab.look P e = some ⟨td, sz', by'', z'⟩) (hs : Nat.blt s n = true) (hsz : ∀ i ∈ ls, i.ncells = sz') :
    Spec P c ⟨some s, .slice T x lo hi none, ty, pos, af, g⟩ σ (.set s (.imm (.slice ((ls.drop l).take (h - l)))) σ) := Spec.pure rfl hs fun ρ a w hr => by
  obtain ⟨a', cp, hv, g1, g2, g3⟩ := immL_den hl (hr.opd hx)
  refine ⟨_, run_slice w hv (bnd_val h1 (opd_ev hr)) (bnd_val h2 (opd_ev hr)) hle (by omega) ht he, ?_⟩
  have hlen : ((ls.drop l).take (h - l)).length = h - l := by simp; omega
  refine ⟨_, cp - l, by rw [hlen], by rw [hlen]; omega, by omega, ?_⟩
  by_cases hemp : (ls.drop l).take (h - l) = []
  · exact .inl hemp
  · right
    rcases g3 with rfl | ⟨b, off, kk, rfl, hb, hrow⟩
    · simp at hemp
    · have hlt : l < h := by
        rcases Nat.lt_or_ge l h with h' | h'
        · exact h'
        · exact absurd (by rw [show h - l = 0 by omega]; simp) hemp
      have hne : ¬ cp = l := by omega
      have hkk : kk = sz' := by
        obtain ⟨u, hu, hus, _⟩ := I.denRow_get ls off 0 _ hrow (List.getElem?_eq_getElem (by omega))
        rw [← hus, den_ncells hu, hsz _ (List.getElem_mem _)]
      subst hkk
      refine ⟨b, off + l * kk, kk, by rw [if_neg hne]; simp [addr_add], hb, ?_⟩
      exact denRow_take _ _ _ (denRow_drop _ _ _ hrow)
theorem r_slice_map [Tab P] {α : Type} {enc : α → I} {ls : List α} {d : D} {e l h : Nat} {lo hi : Option Operand} (hx : σ.opd x = some d) (hl : d.immL = some (ls.map enc)) (h1 : Bnd σ lo 0 l) (h2 : Bnd σ hi ls.length h) (hle : l ≤ h) (hh : h ≤ ls.length)
    (ht : Tab.look P T = some ⟨.slice e, sz, by', z⟩) (he : Tab.look P e = some ⟨td, sz', by'', z'⟩) (hs : Nat.blt s n = true) (hsz : ∀ t, (enc t).ncells = sz') :
    Spec P c ⟨some s, .slice T x lo hi none, ty, pos, af, g⟩ σ (.set s (.imm (.slice (((ls.drop l).take (h - l)).map enc))) σ) := by
  have := r_slice (P := P) (c := c) (ty := ty) (pos := pos) (af := af) (g := g) hx hl h1 (by simpa using h2) hle (by simpa using hh) ht he hs (by simpa using fun t _ => hsz t)
  simpa [List.map_take, List.map_drop] using this
/-- .. of an own row, up to a place. -/
theorem r_slice_own [Tab P] {b kk e' e l h : Nat} {ls : List I} {lo hi : Option Operand} (hx : σ.opd x = some (.own b)) (hb : σ.blk b = some (.row kk e' ls)) (h1 : Bnd σ lo 0 l) (h2 : Bnd σ hi ls.length h) (hle : l ≤ h) (hh : h ≤ ls.length)
    (ht : Tab.look P T = some ⟨.slice e, sz, by', z⟩) (he : Tab.look P e = some ⟨td, kk, by'', z'⟩) (hs : Nat.blt s n = true) :
    Spec P c ⟨some s, .slice T x lo hi none, ty, pos, af, g⟩ σ (.set s (.view b l (h - l)) σ) := Spec.pure rfl hs fun ρ a w hr => by
  have hv := hr.opd hx kk e' ls hb
  have key : ∃ ad cap, a.eval x = .slice ad ls.length cap ∧ ls.length ≤ cap ∧ cap ≤ maxLen ∧ (ls.length = 0 ∨ ∃ r, ρ b = .blk r cap ∧ ad = some ⟨r, 0, none⟩) := by
    cases hR : ρ b with
    | nil =>
      have h0 := row_nil hr hb hR
      subst h0
      rw [hR] at hv
      exact ⟨none, 0, hv, by simp, by simp, .inl rfl⟩
    | blk r cap =>
      obtain ⟨cur, e1, e2, e3, e4, e5⟩ := row_den hr hb hR
      rw [hR] at hv
      exact ⟨_, cap, hv, e3, e4, .inr ⟨r, rfl, rfl⟩⟩
  obtain ⟨ad, cap, hv', hc1, hc2, hc3⟩ := key
  refine ⟨_, run_slice w hv' (bnd_val h1 (opd_ev hr)) (bnd_val h2 (opd_ev hr)) hle (by omega) ht he, ?_⟩
  intro k2 e2 l2 hb2
  rw [hb] at hb2; cases hb2
  refine ⟨by omega, _, cap - l, rfl, by omega, by omega, ?_⟩
  by_cases hz : h - l = 0
  · exact .inl hz
  · right
    rcases hc3 with h0 | ⟨r, hR, rfl⟩
    · omega
    · have hne : ¬ cap = l := by omega
      exact ⟨r, cap, hR, by rw [if_neg hne]; simp [addr_add]⟩
theorem r_slice_view [Tab P] {b off len kk e' e l h : Nat} {ls : List I} {lo hi : Option Operand} (hx : σ.opd x = some (.view b off len)) (hb : σ.blk b = some (.row kk e' ls)) (h1 : Bnd σ lo 0 l) (h2 : Bnd σ hi len h) (hle : l ≤ h) (hh : h ≤ len)
    (ht : Tab.look P T = some ⟨.slice e, sz, by', z⟩) (he : Tab.look P e = some ⟨td, kk, by'', z'⟩) (hs : Nat.blt s n = true) :
    Spec P c ⟨some s, .slice T x lo hi none, ty, pos, af, g⟩ σ (.set s (.view b (off + l) (h - l)) σ) := Spec.pure rfl hs fun ρ a w hr => by
  obtain ⟨g0, ad, cap, hv, hc1, hc2, hc3⟩ := hr.opd hx kk e' ls hb
  refine ⟨_, run_slice w hv (bnd_val h1 (opd_ev hr)) (bnd_val h2 (opd_ev hr)) hle (by omega) ht he, ?_⟩
  intro k2 e2 l2 hb2
  rw [hb] at hb2; cases hb2
  refine ⟨by omega, _, cap - l, rfl, by omega, by omega, ?_⟩
  by_cases hz : h - l = 0
  · exact .inl hz
  · right
    rcases hc3 with h0 | ⟨r, cap', hR, rfl⟩
    · omega
    · have hne : ¬ cap = l := by omega
      exact ⟨r, cap', hR, by rw [if_neg hne]; simp [addr_add, Nat.add_mul]⟩

/-! ### What a value's cells are -/
def Sg.leaf (σ : Sg) : D → Bool
  | .imm (.val v) => v.oneCell'
  | .imm (.slice _) => true
  | .imm (.agg _) => false
  | .own b => match σ.blk b with
    | some (.row _ _ _) => true
    | _ => false
  | .view b _ _ => match σ.blk b with
    | some (.row _ _ _) => true
    | _ => false
  | .elem b _ _ => match σ.blk b with
    | some (.row _ _ _) => true
    | _ => false
  | .ptr b _ => match σ.blk b with
    | some (.obj _ _) => true
    | _ => false
  | .mp b => match σ.blk b with
    | some (.map _) => true
    | _ => false
  | .at _ _ => true
  | .full _ => true
  | .nils => true
  | .fn _ _ _ => true
  | _ => false
theorem leaf_rel {ok : Nat → Prop} {d : D} {v : Value} (hl : σ.leaf d = true) (hv : d.rel ok w σ.blk ρ v) : v.oneCell' = true := by
  cases d with
  | imm i => cases i with
    | val u => cases hv; exact hl
    | slice l => obtain ⟨_, _, rfl, _⟩ := hv; rfl
    | agg l => simp [Sg.leaf] at hl
  | own b =>
    simp only [Sg.leaf] at hl
    split at hl
    · rename_i k e l hb
      have := hv k e l hb
      cases hR : ρ b <;> rw [hR] at this <;> (rw [this]; rfl)
    · simp at hl
  | view b off m =>
    simp only [Sg.leaf] at hl
    split at hl
    · rename_i k e l hb
      obtain ⟨_, _, _, rfl, _⟩ := hv k e l hb; rfl
    · simp at hl
  | elem b i f =>
    simp only [Sg.leaf] at hl
    split at hl
    · rename_i k e l hb
      obtain ⟨_, _, _, _, rfl⟩ := hv k e l hb; rfl
    · simp at hl
  | ptr b f =>
    simp only [Sg.leaf] at hl
    split at hl
    · rename_i cs e hb
      obtain ⟨_, _, _, rfl⟩ := hv cs e hb; rfl
    · simp at hl
  | mp b =>
    simp only [Sg.leaf] at hl
    split at hl
    · rename_i es hb
      obtain ⟨_, _, _, rfl⟩ := hv es hb; rfl
    · simp at hl
  | «at» i f => obtain ⟨_, _, _, rfl, _⟩ := hv; rfl
  | full l => obtain ⟨_, _, rfl⟩ := hv; rfl
  | nils => cases hv; rfl
  | fn f l m => obtain ⟨_, _, rfl, _⟩ := hv; rfl
  | _ => simp [Sg.leaf] at hl
def Sg.leaves (σ : Sg) : List D → Bool
  | [] => true
  | d :: l => σ.leaf d && σ.leaves l
/-- The cells of what a slot holds. -/
def Sg.cells (σ : Sg) : D → Option (List D)
  | .imm (.agg l) => bif σ.leaves (l.map .imm) then some (l.map .imm) else none
  | .agg l => bif σ.leaves l then some l else none
  | .imm (.val (.agg cs)) => bif σ.leaves (cs.toList.map constD) then some (cs.toList.map constD) else none
  | d => bif σ.leaf d then some [d] else none
theorem rels_imm {ok : Nat → Prop} {hb : Nat → Option Blk} : ∀ (l : List I) (vs : List Value), I.dens ok w l vs → D.rels ok w hb ρ (l.map .imm) vs
  | [], _, h => h
  | _ :: l, _, ⟨v, r, e, h1, h2⟩ => ⟨v, r, e, h1, rels_imm l r h2⟩
theorem rels_const {ok : Nat → Prop} {hb : Nat → Option Blk} : ∀ (l : List Value), D.rels ok w hb ρ (l.map constD) l
  | [] => rfl
  | v :: l => ⟨v, l, rfl, constD_rel v, rels_const l⟩
theorem leaves_rels {ok : Nat → Prop} : ∀ (l : List D) (vs : List Value), σ.leaves l = true → D.rels ok w σ.blk ρ l vs → ∀ v ∈ vs, v.oneCell' = true
  | [], vs, _, h => by simp only [D.rels] at h; subst h; simp
  | d :: l, _, hl, ⟨v, r, rfl, h1, h2⟩ => by
    simp only [Sg.leaves, Bool.and_eq_true] at hl
    intro u hu
    rcases List.mem_cons.1 hu with rfl | hu
    · exact leaf_rel hl.1 h1
    · exact leaves_rels l r hl.2 h2 u hu
theorem cells_rel {ok : Nat → Prop} {d : D} {v : Value} {ds : List D} (hc : σ.cells d = some ds) (hv : d.rel ok w σ.blk ρ v) :
    D.rels ok w σ.blk ρ ds v.cells.toList ∧ ∀ u ∈ v.cells.toList, u.oneCell' = true := by
  have one : ∀ (d : D), d.rel ok w σ.blk ρ v → (bif σ.leaf d then some [d] else none) = some ds → D.rels ok w σ.blk ρ ds v.cells.toList ∧ ∀ u ∈ v.cells.toList, u.oneCell' = true := fun d hv hc => by
    cases hb : σ.leaf d with
    | false => rw [hb] at hc; simp at hc
    | true =>
      rw [hb] at hc
      simp only [cond_true, Option.some.injEq] at hc
      subst hc
      have h1 := leaf_rel hb hv
      have h2 : v.cells = #[v] := by cases v <;> simp [Value.oneCell', Value.cells] at h1 ⊢
      rw [h2]
      exact ⟨⟨v, [], rfl, hv, rfl⟩, by simpa using h1⟩
  have many : ∀ (l : List D) (vs : List Value), (bif σ.leaves l then some l else none) = some ds → D.rels ok w σ.blk ρ l vs → D.rels ok w σ.blk ρ ds vs ∧ ∀ u ∈ vs, u.oneCell' = true := fun l vs hc hv => by
    cases hb : σ.leaves l with
    | false => rw [hb] at hc; simp at hc
    | true =>
      rw [hb] at hc
      simp only [cond_true, Option.some.injEq] at hc
      subst hc
      exact ⟨hv, leaves_rels l vs hb hv⟩
  cases d with
  | imm i => cases i with
    | val u =>
      cases u with
      | agg cs =>
        simp only [Sg.cells] at hc
        cases hv
        exact many _ _ hc (rels_const _)
      | _ => exact one _ hv hc
    | slice l => exact one _ hv hc
    | agg l =>
      obtain ⟨cs, rfl, hl⟩ := hv
      exact many _ _ hc (rels_imm l cs hl)
  | agg l =>
    obtain ⟨cs, rfl, hl⟩ := hv
    exact many _ _ hc hl
  | _ => exact one _ hv hc

theorem okB_alloc_fresh : ∀ b, okB c σ.blk ρ w b → b < w.heap.size := fun _ h => h.1

/-- A NEW VARIABLE. -/
theorem RelR.newObj (h : RelR c σ ρ a w) (b : Nat) (hf : σ.blk b = none) (cs : List D) (e : TypeId) (vs : List Value) (hc : D.rels (okB c σ.blk ρ w) w σ.blk ρ cs vs) (hfr : D.frees b cs = true) :
    RelR c (.hset b (.obj cs e) (.kill b σ)) (upd ρ b (.blk w.heap.size 0)) a (w.alloc (.cells vs.toArray e)) := by
  have hkeep : ∀ r, r < w.heap.size → (∀ k cap, σ.blk b = some k → ρ b ≠ .blk r cap) → (w.alloc (.cells vs.toArray e)).heap[r]? = w.heap[r]? := fun r hr _ => Below.heap_alloc w _ r hr
  have hR : ∀ r cap, R.blk w.heap.size 0 = .blk r cap → r < (w.alloc (.cells vs.toArray e)).heap.size ∧ (w.heap.size ≤ r ∨ ∃ k cap', σ.blk b = some k ∧ ρ b = .blk r cap') := fun r cap hr => by
    cases hr; exact ⟨by simp, .inl (Nat.le_refl _)⟩
  refine h.renew b _ (.blk w.heap.size 0) _ rfl rfl rfl (by simp) hkeep hR ?_
  refine ⟨w.heap.size, 0, vs.toArray, upd_same _ _ _, heap_alloc_new w _, ?_⟩
  have hk := keeps_renew h b (.obj cs e) (.blk w.heap.size 0) (w.alloc (.cells vs.toArray e)) (by simp) hkeep hR
  refine D.rels_mono hk (fun t => t ≠ b) ?_ ?_ ?_ cs _ (fun t ht e => ?_) hc
  · intro t k e' l hne ht
    rcases blk_hset_kill ht with ⟨rfl, _⟩ | ⟨_, h1, _⟩
    · exact absurd rfl hne
    · simp only [Sg.blk, nb_ne hne, cond_false, Option.map_eq_some_iff] at h1
      obtain ⟨k', h2, h3⟩ := h1
      cases k' <;> simp [Blk.wipe] at h3
      obtain ⟨rfl, rfl, rfl⟩ := h3
      exact ⟨_, h2, rfl, upd_other _ _ hne⟩
  · intro t cs' e' hne ht
    rcases blk_hset_kill ht with ⟨rfl, _⟩ | ⟨_, h1, _⟩
    · exact absurd rfl hne
    · simp only [Sg.blk, nb_ne hne, cond_false, Option.map_eq_some_iff] at h1
      obtain ⟨k', h2, h3⟩ := h1
      cases k' <;> simp [Blk.wipe] at h3
      exact ⟨_, _, h2, upd_other _ _ hne⟩
  · intro t es hne ht
    rcases blk_hset_kill ht with ⟨rfl, _⟩ | ⟨_, h1, _⟩
    · exact absurd rfl hne
    · simp only [Sg.blk, nb_ne hne, cond_false, Option.map_eq_some_iff] at h1
      obtain ⟨k', h2, h3⟩ := h1
      cases k' <;> simp [Blk.wipe] at h3
      exact ⟨_, h2, upd_other _ _ hne⟩
  · subst e; rw [hfr] at ht; exact absurd ht (by simp)
/-- .. whatever the key was before. -/
theorem RelR.newObj' (h : RelR c σ ρ a w) (b : Nat) (cs : List D) (e : TypeId) (vs : List Value) (hc : D.rels (okB c σ.blk ρ w) w σ.blk ρ cs vs) (hfr : D.frees b cs = true) :
    RelR c (.hset b (.obj cs e) (.kill b (.kill b σ))) (upd ρ b (.blk w.heap.size 0)) a (w.alloc (.cells vs.toArray e)) := by
  have hk := h.kill b
  refine hk.newObj b (by simp [Sg.blk, nb_self]) cs e vs ?_ hfr
  have hkp : Keeps (okB c σ.blk ρ w) w (okB c (Sg.kill b σ).blk ρ w) w := fun b0 ⟨h1, h2, h3⟩ => by
    refine ⟨⟨h1, h2, fun k x r cap hx hr => ?_⟩, fun _ => rfl⟩
    simp only [Sg.blk] at hx
    cases hbb : Nat.beq k b with
    | true => rw [hbb] at hx; simp at hx
    | false =>
      rw [hbb] at hx
      simp only [cond_false, Option.map_eq_some_iff] at hx
      obtain ⟨k', h4, _⟩ := hx
      exact h3 k k' r cap h4 hr
  refine D.rels_mono hkp (fun t => t ≠ b) ?_ ?_ ?_ cs _ (fun t ht e => ?_) hc
  · intro t k e' l hne ht
    simp only [Sg.blk, nb_ne hne, cond_false, Option.map_eq_some_iff] at ht
    obtain ⟨k', h2, h3⟩ := ht
    cases k' <;> simp [Blk.wipe] at h3
    obtain ⟨rfl, rfl, rfl⟩ := h3
    exact ⟨_, h2, rfl, rfl⟩
  · intro t cs' e' hne ht
    simp only [Sg.blk, nb_ne hne, cond_false, Option.map_eq_some_iff] at ht
    obtain ⟨k', h2, h3⟩ := ht
    cases k' <;> simp [Blk.wipe] at h3
    exact ⟨_, _, h2, rfl⟩
  · intro t es hne ht
    simp only [Sg.blk, nb_ne hne, cond_false, Option.map_eq_some_iff] at ht
    obtain ⟨k', h2, h3⟩ := ht
    cases k' <;> simp [Blk.wipe] at h3
    exact ⟨_, h2, rfl⟩
  · subst e; rw [hfr] at ht; exact absurd ht (by simp)

theorem r_box {d : D} {ds : List D} (hx : σ.opd x = some d) (hc : σ.cells d = some ds) (hf : σ.blk s = none) (hfr : D.frees s ds = true) (hs : Nat.blt s n = true) :
    Spec P c ⟨some s, .box T x, ty, pos, af, g⟩ σ (.set s (.ptr s 0) (.hset s (.obj ds T) (.kill s σ))) := Spec.of fun ρ a w hr => by
  obtain ⟨h1, _⟩ := cells_rel hc (hr.opd hx)
  have hn := hr.newObj s hf ds T _ h1 hfr
  refine ⟨.pointer (some ⟨w.heap.size, 0, none⟩), _, ?_, _, hn.put (s := s) (d := .ptr s 0) (Nat.blt_eq.mp hs) ?_⟩
  · simp [execOp, Instr.box, newVar, newRow]
  · intro cs e _
    exact ⟨w.heap.size, 0, upd_same _ _ _, rfl⟩
theorem r_alloc [Tab P] {zv : Value} (ht : Tab.look P T = some ⟨td, sz, by', some zv⟩) (hf : σ.blk s = none) (hs : Nat.blt s n = true) (hfr : D.frees s (zv.cells.toList.map constD) = true) :
    Spec P c ⟨some s, .alloc T, ty, pos, af, g⟩ σ (.set s (.ptr s 0) (.hset s (.obj (zv.cells.toList.map constD) T) (.kill s σ))) := Spec.of fun ρ a w hr => by
  have hn := hr.newObj s hf (zv.cells.toList.map constD) T _ (rels_const _) hfr
  refine ⟨.pointer (some ⟨w.heap.size, 0, none⟩), _, ?_, _, hn.put (s := s) (d := .ptr s 0) (Nat.blt_eq.mp hs) ?_⟩
  · simp [execOp, Instr.alloc, newVar, newRow, Tab.zeroOf w ht]
  · intro cs e _
    exact ⟨w.heap.size, 0, upd_same _ _ _, rfl⟩
end
end Go.Cr

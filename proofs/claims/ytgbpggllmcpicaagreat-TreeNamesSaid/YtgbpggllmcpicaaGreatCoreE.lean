/- THE OWN LAYER, PART E: the rules of the operations that read memory. -/
import Derived.Test.YtgbpggllmcpicaaGreatCoreD
import Derived.Deep.AppendSrc
namespace Go.Cr
open Go Go.RowKit

theorem addr_add (b off n : Nat) : (⟨b, off, none⟩ : Addr).add n = ⟨b, off + n, none⟩ := by unfold Addr.add; split <;> simp_all

/-- How many elements a slice has. -/
def Sg.len (σ : Sg) : D → Option Nat
  | .imm (.slice l) => some l.length
  | .full l => some l.length
  | .nils => some 0
  | .own b => match σ.blk b with
    | some (.row _ _ l) => some l.length
    | _ => none
  | .view b _ m => match σ.blk b with
    | some (.row _ _ _) => some m
    | _ => none
  | _ => none
theorem len_rel {σ : Sg} {ok : Nat → Prop} {w : World} {ρ : Nat → R} {d : D} {v : Value} {m : Nat} (hl : σ.len d = some m) (hv : d.rel ok w σ.blk ρ v) : ∃ a c, v = .slice a m c := by
  cases d with
  | imm i => cases i with
    | slice l => simp only [Sg.len, Option.some.injEq] at hl; subst hl; obtain ⟨a, cap, e, _⟩ := hv; exact ⟨a, cap, e⟩
    | _ => simp [Sg.len] at hl
  | full l => simp only [Sg.len, Option.some.injEq] at hl; subst hl; obtain ⟨_, a, e⟩ := hv; exact ⟨a, _, e⟩
  | nils => simp only [Sg.len, Option.some.injEq] at hl; subst hl; exact ⟨none, 0, hv⟩
  | own b =>
    simp only [Sg.len] at hl
    split at hl
    · rename_i k e l hb
      simp only [Option.some.injEq] at hl; subst hl
      have := hv k e l hb
      cases hr : ρ b <;> rw [hr] at this <;> exact ⟨_, _, this⟩
    · simp at hl
  | view b off len =>
    simp only [Sg.len] at hl
    split at hl
    · rename_i k e l hb
      simp only [Option.some.injEq] at hl; subst hl
      obtain ⟨_, a, c, e, _⟩ := hv k e l hb
      exact ⟨a, c, e⟩
    · simp at hl
  | _ => simp [Sg.len] at hl

/-- The elements that a slice has. -/
def Sg.rd (σ : Sg) : D → Option (List I)
  | .imm (.slice l) => some l
  | .full l => some l
  | .nils => some []
  | .own b => match σ.blk b with
    | some (.row _ _ l) => some l
    | _ => none
  | .view b off m => match σ.blk b with
    | some (.row _ _ l) => some ((l.drop off).take m)
    | _ => none
  | _ => none

def okM {n : Nat} (c : Cx n) (w : World) (b : Nat) : Prop := b < w.heap.size ∧ ¬ c.M b
section
variable {n : Nat} {c : Cx n} {σ : Sg} {ρ : Nat → R} {a : Act} {w : World}
theorem keeps_okM : Keeps (okB c σ.blk ρ w) w (okM c w) w := fun b ⟨h1, h2, _⟩ => ⟨⟨h1, h2⟩, fun _ => rfl⟩

theorem denRow_drop {ok : Nat → Prop} {b k : Nat} : ∀ (l : List I) (off j : Nat), I.denRow ok w l b off k → I.denRow ok w (l.drop j) b (off + j * k) k
  | l, off, 0, h => by simpa using h
  | [], off, j + 1, _ => by simp [I.denRow]
  | x :: l, off, j + 1, ⟨_, h⟩ => by
    have e : off + (j + 1) * k = off + k + j * k := by rw [Nat.add_mul]; omega
    rw [e]; exact denRow_drop l (off + k) j h
theorem denRow_take {ok : Nat → Prop} {b k : Nat} : ∀ (l : List I) (off j : Nat), I.denRow ok w l b off k → I.denRow ok w (l.take j) b off k
  | l, off, 0, _ => by simp [I.denRow]
  | [], off, j + 1, _ => by simp [I.denRow]
  | x :: l, off, j + 1, ⟨hx, h⟩ => ⟨hx, denRow_take l (off + k) j h⟩

theorem row_den (h : RelR c σ ρ a w) {b k e : Nat} {l : List I} (hb : σ.blk b = some (.row k e l)) {r cap : Nat} (hr : ρ b = .blk r cap) :
    ∃ cur, w.heap[r]? = some (.cells cur e (0, 0)) ∧ cur.size = cap * k ∧ l.length ≤ cap ∧ cap ≤ maxLen ∧ I.denRow (okB c σ.blk ρ w) w l r 0 k := by
  have := h.blk b _ hb
  simp only [Blk.rel, hr] at this
  exact this
theorem row_nil (h : RelR c σ ρ a w) {b k e : Nat} {l : List I} (hb : σ.blk b = some (.row k e l)) (hr : ρ b = .nil) : l = [] := by
  have := h.blk b _ hb
  simp only [Blk.rel, hr] at this
  exact this

/-- Whatever slice it is, it reads as data. -/
theorem rd_den (h : RelR c σ ρ a w) {d : D} {v : Value} {l : List I} (hl : σ.rd d = some l) (hv : d.rel (okB c σ.blk ρ w) w σ.blk ρ v) : I.den (okM c w) w (.slice l) v := by
  cases d with
  | imm i => cases i with
    | slice l' => simp only [Sg.rd, Option.some.injEq] at hl; subst hl; exact I.den_mono keeps_okM _ v hv
    | _ => simp [Sg.rd] at hl
  | full l' => simp only [Sg.rd, Option.some.injEq] at hl; subst hl; exact I.den_mono keeps_okM _ v hv.1
  | nils => simp only [Sg.rd, Option.some.injEq] at hl; subst hl; exact ⟨none, 0, hv, Nat.le_refl _, by simp, .inl rfl⟩
  | own b =>
    simp only [Sg.rd] at hl
    split at hl
    · rename_i k e l' hb
      simp only [Option.some.injEq] at hl; subst hl
      have hv := hv k e l' hb
      cases hr : ρ b with
      | nil =>
        have := row_nil h hb hr
        subst this
        rw [hr] at hv
        exact ⟨none, 0, hv, Nat.le_refl _, by simp, .inl rfl⟩
      | blk r cap =>
        obtain ⟨cur, e1, e2, e3, e4, e5⟩ := row_den h hb hr
        rw [hr] at hv
        obtain ⟨g1, g2, g3⟩ := h.live b _ r cap hb hr
        exact ⟨some ⟨r, 0, none⟩, cap, hv, e3, e4, .inr ⟨r, 0, k, rfl, ⟨g1, g2⟩, I.denRow_mono keeps_okM l' r 0 k (fun _ => rfl) e5⟩⟩
    · simp at hl
  | view b off m =>
    simp only [Sg.rd] at hl
    split at hl
    · rename_i k e l' hb
      simp only [Option.some.injEq] at hl; subst hl
      obtain ⟨h1, a', cp, h2, h3, h4, h5⟩ := hv k e l' hb
      have hlen : ((l'.drop off).take m).length = m := by simp; omega
      refine ⟨a', cp, by rw [hlen]; exact h2, by rw [hlen]; exact h3, h4, ?_⟩
      rcases h5 with rfl | ⟨r, cap, hr, rfl⟩
      · left; simp
      · right
        obtain ⟨cur, e1, e2, e3, e4, e5⟩ := row_den h hb hr
        obtain ⟨g1, g2, g3⟩ := h.live b _ r cap hb hr
        have h6 := denRow_take _ _ m (denRow_drop _ _ off e5)
        rw [Nat.zero_add] at h6
        exact ⟨r, off * k, k, rfl, ⟨g1, g2⟩, I.denRow_mono keeps_okM _ r _ k (fun _ => rfl) h6⟩
    · simp at hl
  | _ => simp [Sg.rd] at hl

/-- How many cells an element has. -/
def I.ncells : I → Nat
  | .agg l => l.length
  | .val v => v.cells.size
  | .slice _ => 1
theorem den_ncells {ok : Nat → Prop} {w : World} {i : I} {v : Value} (h : I.den ok w i v) : v.cells.size = i.ncells := by
  cases i with
  | val u => cases h; rfl
  | agg l => obtain ⟨cs, rfl, hl⟩ := h; simp [Value.cells, I.ncells, I.dens_length l cs hl]
  | slice l => obtain ⟨a, cap, rfl, _⟩ := h; rfl

variable {P : Program} {s : Nat} {ty : TypeId} {pos : String} {af : Array Edge} {g : Option (Nat × Bool)} {x y : Operand} {T T' : TypeId} {k k' : IntKind} {m m' : Int}
variable {sz by' sz' by'' : Nat} {z z' : Option Value} {td : TD}

theorem run_call_builtin (ev : Operand → Value) (dst : Option Tmp) (b : Builtin) (xs : Array Operand) (ats : Array TypeId) :
    execOp ev ⟨dst, .call ⟨.builtin b, xs, ats⟩, ty, pos, af, g⟩ = builtin b ats ty (xs.map fun | .const _ => true | _ => false) (xs.map ev) := rfl

theorem r_len [Tab P] {d : D} {j e : Nat} (hx : σ.opd x = some d) (hl : σ.len d = some j) (ht : Tab.look P T = some ⟨.slice e, sz, by', z⟩) (hs : Nat.blt s n = true) :
    Spec P c ⟨some s, .call ⟨.builtin .len, #[x], #[T]⟩, ty, pos, af, g⟩ σ (.set s (dI .i64 (j : Nat)) σ) := Spec.pure rfl hs fun ρ a w hr => by
  obtain ⟨a', cp, hv⟩ := len_rel hl (hr.opd hx)
  refine ⟨.int .i64 j, ?_, rfl⟩
  rw [run_call_builtin]
  simp [builtin, Builtin.len_, hv, run_underlying (Tab.slice ht), goInt]
theorem r_len_str [Tab P] {str : ByteArray} (hx : σ.opd x = some (.imm (.val (.string str)))) (ht : Tab.look P T = some ⟨.string, sz, by', z⟩) (hs : Nat.blt s n = true) :
    Spec P c ⟨some s, .call ⟨.builtin .len, #[x], #[T]⟩, ty, pos, af, g⟩ σ (.set s (dI .i64 (str.size : Nat)) σ) := Spec.pure rfl hs fun ρ a w hr => by
  have hv : a.eval x = .string str := hr.opd hx
  refine ⟨.int .i64 str.size, ?_, rfl⟩
  rw [run_call_builtin]
  simp [builtin, Builtin.len_, hv, run_underlying (Tab.string ht), goInt]
theorem r_min (hx : σ.opd x = some (dI k m)) (hy : σ.opd y = some (dI k m')) (hs : Nat.blt s n = true) {ats : Array TypeId} :
    Spec P c ⟨some s, .call ⟨.builtin .min, #[x, y], ats⟩, ty, pos, af, g⟩ σ (.set s (dI k (min m m')) σ) := Spec.pure rfl hs fun ρ a w hr => by
  have hv : a.eval x = .int k m := hr.opd hx
  have hv' : a.eval y = .int k m' := hr.opd hy
  refine ⟨.int k (min m m'), ?_, rfl⟩
  rw [run_call_builtin]
  simp [builtin, Builtin.min_, hv, hv', Builtin.min2]
  split <;> omega
theorem r_max (hx : σ.opd x = some (dI k m)) (hy : σ.opd y = some (dI k m')) (hs : Nat.blt s n = true) {ats : Array TypeId} :
    Spec P c ⟨some s, .call ⟨.builtin .max, #[x, y], ats⟩, ty, pos, af, g⟩ σ (.set s (dI k (max m m')) σ) := Spec.pure rfl hs fun ρ a w hr => by
  have hv : a.eval x = .int k m := hr.opd hx
  have hv' : a.eval y = .int k m' := hr.opd hy
  refine ⟨.int k (max m m'), ?_, rfl⟩
  rw [run_call_builtin]
  simp [builtin, Builtin.max_, hv, hv', Builtin.max2]
  split <;> omega

/-! ### An element's address -/
def D.immL : D → Option (List I)
  | .imm (.slice l) => some l
  | .full l => some l
  | .nils => some []
  | _ => none
theorem immL_den {ok : Nat → Prop} {hb : Nat → Option Blk} {d : D} {v : Value} {l : List I} (hl : d.immL = some l) (hv : d.rel ok w hb ρ v) : I.den ok w (.slice l) v := by
  cases d with
  | imm i => cases i with
    | slice l' => simp only [D.immL, Option.some.injEq] at hl; subst hl; exact hv
    | _ => simp [D.immL] at hl
  | full l' => simp only [D.immL, Option.some.injEq] at hl; subst hl; exact hv.1
  | nils => simp only [D.immL, Option.some.injEq] at hl; subst hl; exact ⟨none, 0, hv, Nat.le_refl _, by simp, .inl rfl⟩
  | _ => simp [D.immL] at hl
theorem run_indexAddr [Tab P] {ev : Operand → Value} {dst : Option Tmp} {e : Nat} {a : Addr} {len cap j : Nat} (w : World) (hx : ev x = .slice (some a) len cap) (hy : ev y = .int k m) (hm : m = (j : Nat)) (hj : j < len)
    (ht : Tab.look P T = some ⟨.slice e, sz, by', z⟩) (he : Tab.look P e = some ⟨td, sz', by'', z'⟩) :
    (execOp ev ⟨dst, .indexAddr T x y, ty, pos, af, g⟩).run P w = .ok (.value (.pointer (some (a.add (j * sz'))))) w := by
  subst hm
  have h1 : (0 : Int) ≤ (j : Int) ∧ (j : Int) < (len : Int) := ⟨by omega, by omega⟩
  simp only [execOp, hx, hy, Instr.indexAt, Sem.run_bind, run_underlying (Tab.slice ht), Result.andThen, asIntOf, Sem.run_pure, Sem.run_ite, if_pos h1, Tab.sizeOf w he, Int.toNat_natCast]
theorem r_index [Tab P] {d : D} {l : List I} {j e : Nat} (hx : σ.opd x = some d) (hl : d.immL = some l) (hy : σ.opd y = some (dI k m)) (hm : m = (j : Nat)) (hj : j < l.length)
    (ht : Tab.look P T = some ⟨.slice e, sz, by', z⟩) (he : Tab.look P e = some ⟨td, sz', by'', z'⟩) (hs : Nat.blt s n = true) (hsz : (l[j]'hj).ncells = sz') :
    Spec P c ⟨some s, .indexAddr T x y, ty, pos, af, g⟩ σ (.set s (.at (l[j]'hj) 0) σ) := Spec.pure rfl hs fun ρ a w hr => by
  obtain ⟨a', cp, hv, h1, h2, h3⟩ := immL_den hl (hr.opd hx)
  have hi : a.eval y = .int k m := hr.opd hy
  rcases h3 with rfl | ⟨b, off, kk, rfl, hb, hrow⟩
  · simp at hj
  · refine ⟨_, run_indexAddr w hv hi hm hj ht he, ?_⟩
    obtain ⟨u, hu, hus, hcells⟩ := I.denRow_get l off j _ hrow (List.getElem?_eq_getElem hj)
    have hk : kk = sz' := by rw [← hus, den_ncells hu, hsz]
    subst hk
    exact ⟨b, off + j * kk, u, by rw [addr_add]; simp, hb, hu, fun i hi' => hcells i (by omega)⟩
theorem r_index_map [Tab P] {α : Type} {enc : α → I} {L : List α} {d : D} {j e : Nat} (hx : σ.opd x = some d) (hl : d.immL = some (L.map enc)) (hy : σ.opd y = some (dI k m)) (hm : m = (j : Nat)) (hj : j < L.length)
    (ht : Tab.look P T = some ⟨.slice e, sz, by', z⟩) (he : Tab.look P e = some ⟨td, sz', by'', z'⟩) (hs : Nat.blt s n = true) (hsz : ∀ t, (enc t).ncells = sz') :
    Spec P c ⟨some s, .indexAddr T x y, ty, pos, af, g⟩ σ (.set s (.at (enc (L[j]'hj)) 0) σ) := by
  have := r_index (P := P) (c := c) (ty := ty) (pos := pos) (af := af) (g := g) (j := j) hx hl hy hm (by simpa using hj) ht he hs (by simpa using hsz _)
  simpa using this
theorem r_index_own [Tab P] {b j e kk e' : Nat} {l : List I} (hx : σ.opd x = some (.own b)) (hb : σ.blk b = some (.row kk e' l)) (hy : σ.opd y = some (dI k m)) (hm : m = (j : Nat)) (hj : j < l.length)
    (ht : Tab.look P T = some ⟨.slice e, sz, by', z⟩) (he : Tab.look P e = some ⟨td, kk, by'', z'⟩) (hs : Nat.blt s n = true) :
    Spec P c ⟨some s, .indexAddr T x y, ty, pos, af, g⟩ σ (.set s (.elem b j 0) σ) := Spec.pure rfl hs fun ρ a w hr => by
  have hv := hr.opd hx kk e' l hb
  have hi : a.eval y = .int k m := hr.opd hy
  cases hR : ρ b with
  | nil => have := row_nil hr hb hR; subst this; simp at hj
  | blk r cap =>
    rw [hR] at hv
    refine ⟨_, run_indexAddr w hv hi hm hj ht he, ?_⟩
    intro k2 e2 l2 hb2
    rw [hb] at hb2; cases hb2
    exact ⟨hj, r, cap, hR, by rw [addr_add]; simp⟩
theorem r_index_view [Tab P] {b off len j e kk e' : Nat} {l : List I} (hx : σ.opd x = some (.view b off len)) (hb : σ.blk b = some (.row kk e' l)) (hy : σ.opd y = some (dI k m)) (hm : m = (j : Nat)) (hj : j < len)
    (ht : Tab.look P T = some ⟨.slice e, sz, by', z⟩) (he : Tab.look P e = some ⟨td, kk, by'', z'⟩) (hs : Nat.blt s n = true) :
    Spec P c ⟨some s, .indexAddr T x y, ty, pos, af, g⟩ σ (.set s (.elem b (off + j) 0) σ) := Spec.pure rfl hs fun ρ a w hr => by
  obtain ⟨h1, a', cp, hv, h3, h4, h5⟩ := hr.opd hx kk e' l hb
  have hi : a.eval y = .int k m := hr.opd hy
  rcases h5 with rfl | ⟨r, cap, hR, rfl⟩
  · omega
  · refine ⟨_, run_indexAddr w hv hi hm hj ht he, ?_⟩
    intro k2 e2 l2 hb2
    rw [hb] at hb2; cases hb2
    exact ⟨by omega, r, cap, hR, by rw [addr_add, Nat.add_mul]; simp⟩

/-! ### A field's address; a field -/
theorem run_fieldAddr [Tab P] {ev : Operand → Value} {dst : Option Tmp} {fs : List (Nat × Nat)} {fld ft fo : Nat} {b off : Nat} (w : World) (hx : ev x = .pointer (some ⟨b, off, none⟩))
    (ht : Tab.look P T = some ⟨.struct fs, sz, by', z⟩) (hf : fs[fld]? = some (ft, fo)) (hft : Tab.look P ft = some ⟨td, sz', by'', z'⟩) (hnz : Nat.beq sz' 0 = false) :
    (execOp ev ⟨dst, .fieldAddr T x fld, ty, pos, af, g⟩).run P w = .ok (.value (.pointer (some ⟨b, off + fo, none⟩))) w := by
  obtain ⟨d, h1, h2⟩ := Tab.und ht
  obtain ⟨ar, h3, h4⟩ := TD.of_struct h2
  subst h3
  have hg : ar[fld]?.map (fun f => (f.type, f.offset)) = some (ft, fo) := by
    rw [← h4] at hf
    simpa using hf
  cases har : ar[fld]? with
  | none => rw [har] at hg; simp at hg
  | some f =>
    rw [har] at hg
    simp only [Option.map_some, Option.some.injEq, Prod.mk.injEq] at hg
    obtain ⟨g1, g2⟩ := hg
    have hz : ¬ sz' = 0 := nbne hnz
    simp only [execOp, hx, Instr.fieldAt, Sem.run_bind, run_underlying h1, Result.andThen, har, Instr.sureAddr, Sem.run_pure, fieldPlace, g1, g2, Tab.sizeOf w hft, Sem.run_ite, if_neg hz, addr_add]
theorem r_fieldAddr_at [Tab P] {i : I} {f : Nat} {fs : List (Nat × Nat)} {fld ft fo : Nat} (hx : σ.opd x = some (.at i f)) (ht : Tab.look P T = some ⟨.struct fs, sz, by', z⟩) (hf : fs[fld]? = some (ft, fo))
    (hft : Tab.look P ft = some ⟨td, sz', by'', z'⟩) (hnz : Nat.beq sz' 0 = false) (hs : Nat.blt s n = true) : Spec P c ⟨some s, .fieldAddr T x fld, ty, pos, af, g⟩ σ (.set s (.at i (f + fo)) σ) := Spec.pure rfl hs fun ρ a w hr => by
  obtain ⟨b, off, u, e, h1, h2, h3⟩ := hr.opd hx
  exact ⟨_, run_fieldAddr w e ht hf hft hnz, b, off, u, by simp [Nat.add_assoc], h1, h2, h3⟩
theorem r_fieldAddr_ptr [Tab P] {b f e : Nat} {cs : List D} {fs : List (Nat × Nat)} {fld ft fo : Nat} (hx : σ.opd x = some (.ptr b f)) (hb : σ.blk b = some (.obj cs e)) (ht : Tab.look P T = some ⟨.struct fs, sz, by', z⟩) (hf : fs[fld]? = some (ft, fo))
    (hft : Tab.look P ft = some ⟨td, sz', by'', z'⟩) (hnz : Nat.beq sz' 0 = false) (hs : Nat.blt s n = true) : Spec P c ⟨some s, .fieldAddr T x fld, ty, pos, af, g⟩ σ (.set s (.ptr b (f + fo)) σ) := Spec.pure rfl hs fun ρ a w hr => by
  obtain ⟨r, cap, hR, hv⟩ := hr.opd hx cs e hb
  refine ⟨_, run_fieldAddr w hv ht hf hft hnz, fun cs' e' _ => ⟨r, cap, hR, rfl⟩⟩
theorem r_fieldAddr_elem [Tab P] {b i f kk e : Nat} {l : List I} {fs : List (Nat × Nat)} {fld ft fo : Nat} (hx : σ.opd x = some (.elem b i f)) (hb : σ.blk b = some (.row kk e l)) (ht : Tab.look P T = some ⟨.struct fs, sz, by', z⟩) (hf : fs[fld]? = some (ft, fo))
    (hft : Tab.look P ft = some ⟨td, sz', by'', z'⟩) (hnz : Nat.beq sz' 0 = false) (hs : Nat.blt s n = true) : Spec P c ⟨some s, .fieldAddr T x fld, ty, pos, af, g⟩ σ (.set s (.elem b i (f + fo)) σ) := Spec.pure rfl hs fun ρ a w hr => by
  obtain ⟨h0, r, cap, hR, hv⟩ := hr.opd hx kk e l hb
  refine ⟨_, run_fieldAddr w hv ht hf hft hnz, fun k' e' l' hb' => ?_⟩
  rw [hb] at hb'; cases hb'
  exact ⟨h0, r, cap, hR, by rw [Nat.add_assoc]⟩

/-- A part of an aggregate: of a type of so many cells. -/
def partI (agg : Bool) (sz f : Nat) : I → Option I
  | .agg l => bif agg then (bif Nat.ble (f + sz) l.length then some (.agg ((l.drop f).take sz)) else none) else l[f]?
  | _ => none
def wholeI (agg : Bool) (sz : Nat) : I → Bool
  | .agg l => agg && Nat.beq l.length sz
  | .slice _ => !agg && Nat.beq sz 1
  | .val v => (!agg && v.oneCell') && Nat.beq sz 1
theorem dens_sub {ok : Nat → Prop} : ∀ (l : List I) (vs : List Value) (f s : Nat), I.dens ok w l vs → I.dens ok w ((l.drop f).take s) ((vs.drop f).take s) := fun l vs f s h =>
  I.dens_of _ _ (by simp [I.dens_length l vs h]) fun i x v hx hv => by
    simp only [List.getElem?_take, List.getElem?_drop] at hx hv
    split at hx <;> rename_i hi
    · rw [if_pos hi] at hv
      obtain ⟨v', e, hd⟩ := I.dens_get l vs _ x h hx
      rw [hv] at e; cases e; exact hd
    · simp at hx
theorem part_den {ok : Nat → Prop} {agg : Bool} {sz f : Nat} {i r : I} {v : Value} (h : partI agg sz f i = some r) (hv : I.den ok w i v) :
    ∃ cs, v = .agg cs ∧ if agg then f + sz ≤ cs.size ∧ I.den ok w r (.agg (cs.extract f (f + sz))) else ∃ u, cs[f]? = some u ∧ I.den ok w r u := by
  cases i with
  | agg l =>
    obtain ⟨cs, rfl, hl⟩ := hv
    refine ⟨cs.toArray, rfl, ?_⟩
    have hlen := I.dens_length l cs hl
    cases agg with
    | false =>
      simp only [partI, cond_false] at h
      obtain ⟨u, h1, h2⟩ := I.dens_get l cs f r hl h
      simp
      exact ⟨u, h1, h2⟩
    | true =>
      simp only [partI, cond_true] at h
      cases hb : Nat.ble (f + sz) l.length with
      | false => rw [hb] at h; simp at h
      | true =>
        rw [hb] at h
        simp only [cond_true, Option.some.injEq] at h
        subst h
        have hle := Nat.le_of_ble_eq_true hb
        simp
        refine ⟨by omega, (cs.drop f).take sz, ?_, dens_sub l cs f sz hl⟩
        first
          | rfl
          | (congr 1; apply Array.ext'; simp [List.extract_eq_take_drop])
  | _ => simp [partI] at h

theorem run_field [Tab P] {ev : Operand → Value} {dst : Option Tmp} {fs : List (Nat × Nat)} {fld ft fo : Nat} {cs : Array Value} (w : World) (hx : ev x = .agg cs)
    (ht : Tab.look P T = some ⟨.struct fs, sz, by', z⟩) (hf : fs[fld]? = some (ft, fo)) (hft : Tab.look P ft = some ⟨td, sz', by'', z'⟩) {u : Value}
    (hu : if td.isAgg then u = .agg (cs.extract fo (fo + sz')) else cs[fo]? = some u) :
    (execOp ev ⟨dst, .field T x fld, ty, pos, af, g⟩).run P w = .ok (.value u) w := by
  obtain ⟨d, h1, h2⟩ := Tab.und ht
  obtain ⟨ar, h3, h4⟩ := TD.of_struct h2
  subst h3
  have hg : ar[fld]?.map (fun f => (f.type, f.offset)) = some (ft, fo) := by
    rw [← h4] at hf
    simpa using hf
  cases har : ar[fld]? with
  | none => rw [har] at hg; simp at hg
  | some f =>
    rw [har] at hg
    simp only [Option.map_some, Option.some.injEq, Prod.mk.injEq] at hg
    obtain ⟨g1, g2⟩ := hg
    simp only [execOp, hx, Instr.field, Sem.run_bind, run_underlying h1, Result.andThen, har, asAgg, Sem.run_pure, part, g1, g2, Tab.isAgg w hft]
    cases hb : td.isAgg with
    | true => rw [hb] at hu; simp only [if_true] at hu; subst hu; simp [Tab.sizeOf w hft]
    | false => rw [hb] at hu; simp only [Bool.false_eq_true, if_false] at hu; simp [hu]
theorem r_field [Tab P] {i r : I} {fs : List (Nat × Nat)} {fld ft fo : Nat} (hx : σ.opd x = some (.imm i)) (ht : Tab.look P T = some ⟨.struct fs, sz, by', z⟩) (hf : fs[fld]? = some (ft, fo))
    (hft : Tab.look P ft = some ⟨td, sz', by'', z'⟩) (hp : partI td.isAgg sz' fo i = some r) (hs : Nat.blt s n = true) : Spec P c ⟨some s, .field T x fld, ty, pos, af, g⟩ σ (.set s (.imm r) σ) := Spec.pure rfl hs fun ρ a w hr => by
  obtain ⟨cs, e, h⟩ := part_den hp (hr.opd hx)
  cases hb : td.isAgg with
  | true =>
    rw [hb] at h; simp only [if_true] at h
    exact ⟨_, run_field w e ht hf hft (by rw [hb]; rfl), h.2⟩
  | false =>
    rw [hb] at h; simp only [Bool.false_eq_true, if_false] at h
    obtain ⟨u, h1, h2⟩ := h
    exact ⟨u, run_field w e ht hf hft (by rw [hb]; exact h1), h2⟩

/-! ### Loads -/
theorem run_load_cells [Tab P] {ev : Operand → Value} {dst : Option Tmp} {b off : Nat} (w : World) (hx : ev x = .pointer (some ⟨b, off, none⟩)) (ht : Tab.look P T = some ⟨td, sz, by', z⟩) (cs : List Value) (hcs : cs.length = sz)
    (hc : ∀ j v, cs[j]? = some v → w.cell? ⟨b, off + j, none⟩ = some v) {u : Value} (hu : if td.isAgg then u = .agg cs.toArray else cs = [u]) :
    (execOp ev ⟨dst, .load T x, ty, pos, af, g⟩).run P w = .ok (.value u) w := by
  simp only [execOp, hx, Instr.loadAt, Sem.run_bind, Instr.sureAddr, Sem.run_pure, Result.andThen, loadVar, Tab.isAgg w ht]
  cases hb : td.isAgg with
  | true =>
    rw [hb] at hu; simp only [if_true] at hu
    have := run_loadCells_list (P := P) w ⟨b, off, none⟩ cs (fun j v hv => by rw [addr_add]; exact hc j v hv)
    rw [hcs] at this
    simp [Tab.sizeOf w ht, this, hu]
  | false =>
    rw [hb] at hu; simp only [Bool.false_eq_true, if_false] at hu
    subst hu
    have := hc 0 u rfl
    simp only [Nat.add_zero] at this
    simp [this]
theorem cells_at {b off : Nat} {u : Value} (h : ∀ j, j < u.cells.size → w.cell? ⟨b, off + j, none⟩ = u.cells[j]?) : ∀ j v, u.cells.toList[j]? = some v → w.cell? ⟨b, off + j, none⟩ = some v := fun j v hv => by
  have hj : j < u.cells.size := by
    have := (List.getElem?_eq_some_iff.1 hv).1
    simpa using this
  rw [h j hj]; simpa using hv
theorem whole_den {ok : Nat → Prop} {agg : Bool} {sz : Nat} {i : I} {v : Value} (h : wholeI agg sz i = true) (hv : I.den ok w i v) :
    v.cells.toList.length = sz ∧ if agg then v = .agg v.cells.toList.toArray else v.cells.toList = [v] := by
  cases i with
  | agg l =>
    obtain ⟨cs, rfl, hl⟩ := hv
    simp only [wholeI, Bool.and_eq_true] at h
    obtain ⟨rfl, h2⟩ := h
    have := nbeq h2
    simp [Value.cells, I.dens_length l cs hl, this]
  | slice l =>
    obtain ⟨a, cap, rfl, _⟩ := hv
    simp only [wholeI, Bool.and_eq_true, Bool.not_eq_true'] at h
    obtain ⟨rfl, h2⟩ := h
    have := nbeq h2
    subst this
    simp [Value.cells]
  | val u =>
    cases hv
    simp only [wholeI, Bool.and_eq_true, Bool.not_eq_true'] at h
    obtain ⟨⟨rfl, h1⟩, h2⟩ := h
    have := nbeq h2
    subst this
    cases v <;> simp [Value.cells, Value.oneCell'] at h1 ⊢
/-- The whole of what lies there. -/
theorem r_load_at [Tab P] {i : I} (hx : σ.opd x = some (.at i 0)) (ht : Tab.look P T = some ⟨td, sz, by', z⟩) (hw : wholeI td.isAgg sz i = true) (hs : Nat.blt s n = true) :
    Spec P c ⟨some s, .load T x, ty, pos, af, g⟩ σ (.set s (.imm i) σ) := Spec.pure rfl hs fun ρ a w hr => by
  obtain ⟨b, off, u, e, h1, h2, h3⟩ := hr.opd hx
  obtain ⟨g1, g2⟩ := whole_den hw h2
  exact ⟨u, run_load_cells w e ht u.cells.toList g1 (cells_at h3) g2, h2⟩
/-- A part of it. -/
theorem r_load_at_part [Tab P] {i r : I} {f : Nat} (hx : σ.opd x = some (.at i f)) (ht : Tab.look P T = some ⟨td, sz, by', z⟩) (hp : partI td.isAgg sz f i = some r) (h1z : (td.isAgg || Nat.beq sz 1) = true) (hs : Nat.blt s n = true) :
    Spec P c ⟨some s, .load T x, ty, pos, af, g⟩ σ (.set s (.imm r) σ) := Spec.pure rfl hs fun ρ a w hr => by
  obtain ⟨b, off, u, e, h1, h2, h3⟩ := hr.opd hx
  obtain ⟨cs, rfl, h⟩ := part_den hp h2
  have hc := cells_at h3
  simp only [Value.cells] at hc
  cases hb : td.isAgg with
  | true =>
    rw [hb] at h; simp only [if_true] at h
    refine ⟨_, run_load_cells w e ht (cs.extract f (f + sz)).toList (by simp; omega) (fun j v hv => ?_) (by rw [hb, if_pos rfl, Array.toArray_toList]), h.2⟩
    have : cs.toList[f + j]? = some v := by
      simp only [Array.toList_extract, List.extract_eq_take_drop] at hv
      simp only [List.getElem?_take, List.getElem?_drop] at hv
      split at hv
      · simpa using hv
      · simp at hv
    have := hc (f + j) v this
    rwa [← Nat.add_assoc] at this
  | false =>
    rw [hb] at h; simp only [Bool.false_eq_true, if_false] at h
    obtain ⟨u, g1, g2⟩ := h
    rw [hb] at h1z
    have hz : sz = 1 := nbeq (by simpa using h1z)
    subst hz
    refine ⟨u, run_load_cells w e ht [u] rfl (fun j v hv => ?_) (by rw [hb]; simp), g2⟩
    cases j with
    | zero => simp at hv; subst hv; simpa using hc f u (by simpa using g1)
    | succ j => simp at hv
/-- A variable of the own memory, one cell of it. -/
theorem r_load_ptr [Tab P] {b f e : Nat} {cs : List D} {d : D} (hx : σ.opd x = some (.ptr b f)) (hb : σ.blk b = some (.obj cs e)) (hd : cs[f]? = some d) (ht : Tab.look P T = some ⟨td, 1, by', z⟩) (hna : td.isAgg = false) (hs : Nat.blt s n = true) :
    Spec P c ⟨some s, .load T x, ty, pos, af, g⟩ σ (.set s d σ) := Spec.pure rfl hs fun ρ a w hr => by
  obtain ⟨r, cap, hR, hv⟩ := hr.opd hx cs e hb
  obtain ⟨r', cap', cur, hR', hh, hc⟩ := hr.blk b _ hb
  rw [hR] at hR'; cases hR'
  obtain ⟨u, h1, h2⟩ := D.rels_get cs _ f d hc hd
  refine ⟨u, run_load_cells w hv ht [u] rfl (fun j v hv => ?_) (by rw [hna]; simp), h2⟩
  cases j with
  | zero => simp at hv; subst hv; simp only [Nat.add_zero, World.cell?, hh]; simpa using h1
  | succ j => simp at hv
theorem rels_sub {ok : Nat → Prop} {hb : Nat → Option Blk} : ∀ (l : List D) (vs : List Value) (f s : Nat), D.rels ok w hb ρ l vs → D.rels ok w hb ρ ((l.drop f).take s) ((vs.drop f).take s) := fun l vs f s h =>
  D.rels_of _ _ (by simp [D.rels_length l vs h]) fun i x v hx hv => by
    simp only [List.getElem?_take, List.getElem?_drop] at hx hv
    split at hx <;> rename_i hi
    · rw [if_pos hi] at hv
      obtain ⟨v', e, hd⟩ := D.rels_get l vs _ x h hx
      rw [hv] at e; cases e; exact hd
    · simp at hx
/-- .. an aggregate of it. -/
theorem r_load_ptr_agg [Tab P] {b f e : Nat} {cs : List D} (hx : σ.opd x = some (.ptr b f)) (hb : σ.blk b = some (.obj cs e)) (hle : Nat.ble (f + sz) cs.length = true) (ht : Tab.look P T = some ⟨td, sz, by', z⟩) (hna : td.isAgg = true) (hs : Nat.blt s n = true) :
    Spec P c ⟨some s, .load T x, ty, pos, af, g⟩ σ (.set s (.agg ((cs.drop f).take sz)) σ) := Spec.pure rfl hs fun ρ a w hr => by
  obtain ⟨r, cap, hR, hv⟩ := hr.opd hx cs e hb
  obtain ⟨r', cap', cur, hR', hh, hc⟩ := hr.blk b _ hb
  rw [hR] at hR'; cases hR'
  have hlen := D.rels_length cs _ hc
  have hle := Nat.le_of_ble_eq_true hle
  refine ⟨.agg ((cur.toList.drop f).take sz).toArray, run_load_cells w hv ht ((cur.toList.drop f).take sz) (by simp at hlen ⊢; omega) (fun j v hv => ?_) (by rw [hna]; rfl), _, rfl, rels_sub cs _ f sz hc⟩
  simp only [List.getElem?_take, List.getElem?_drop] at hv
  split at hv
  · simp only [World.cell?, hh]; simpa using hv
  · simp at hv
/-- An element of an own row. -/
theorem r_load_elem [Tab P] {b i kk e : Nat} {l : List I} (hx : σ.opd x = some (.elem b i 0)) (hb : σ.blk b = some (.row kk e l)) (hi : i < l.length) (ht : Tab.look P T = some ⟨td, sz, by', z⟩) (hw : wholeI td.isAgg sz (l[i]'hi) = true) (hs : Nat.blt s n = true) :
    Spec P c ⟨some s, .load T x, ty, pos, af, g⟩ σ (.set s (.imm (l[i]'hi)) σ) := Spec.pure rfl hs fun ρ a w hr => by
  obtain ⟨_, r, cap, hR, hv⟩ := hr.opd hx kk e l hb
  obtain ⟨cur, e1, e2, e3, e4, e5⟩ := row_den hr hb hR
  obtain ⟨u, hu, hus, hcells⟩ := I.denRow_get l 0 i _ e5 (List.getElem?_eq_getElem hi)
  obtain ⟨g1, g2⟩ := whole_den hw hu
  refine ⟨u, run_load_cells w hv ht u.cells.toList g1 (cells_at fun j hj => ?_) g2, hu⟩
  have := hcells j (by omega)
  simpa using this
theorem r_load_elem_map [Tab P] {α : Type} {enc : α → I} {L : List α} {b i kk e : Nat} (hx : σ.opd x = some (.elem b i 0)) (hb : σ.blk b = some (.row kk e (L.map enc))) (hi : i < L.length) (ht : Tab.look P T = some ⟨td, sz, by', z⟩) (hw : ∀ t, wholeI td.isAgg sz (enc t) = true) (hs : Nat.blt s n = true) :
    Spec P c ⟨some s, .load T x, ty, pos, af, g⟩ σ (.set s (.imm (enc (L[i]'hi))) σ) := by
  have := r_load_elem (P := P) (c := c) (ty := ty) (pos := pos) (af := af) (g := g) hx hb (by simpa using hi) ht (by simpa using hw _) hs
  simpa using this
theorem r_load_elem_part [Tab P] {b i f kk e : Nat} {l : List I} {q : I} (hx : σ.opd x = some (.elem b i f)) (hb : σ.blk b = some (.row kk e l)) (hi : i < l.length) (ht : Tab.look P T = some ⟨td, sz, by', z⟩) (hp : partI td.isAgg sz f (l[i]'hi) = some q) (h1z : (td.isAgg || Nat.beq sz 1) = true) (hs : Nat.blt s n = true) :
    Spec P c ⟨some s, .load T x, ty, pos, af, g⟩ σ (.set s (.imm q) σ) := Spec.pure rfl hs fun ρ a w hr => by
  obtain ⟨_, r, cap, hR, hv⟩ := hr.opd hx kk e l hb
  obtain ⟨cur, e1, e2, e3, e4, e5⟩ := row_den hr hb hR
  obtain ⟨u, hu, hus, hcells⟩ := I.denRow_get l 0 i _ e5 (List.getElem?_eq_getElem hi)
  obtain ⟨cs, rfl, h⟩ := part_den hp hu
  have hc : ∀ j v, cs.toList[j]? = some v → w.cell? ⟨r, i * kk + j, none⟩ = some v := fun j v hv => by
    have hj : j < cs.size := by simpa using (List.getElem?_eq_some_iff.1 hv).1
    have := hcells j (by rw [← hus]; exact hj)
    simp only [Nat.zero_add, Value.cells] at this
    rw [this]; simpa using hv
  cases hb : td.isAgg with
  | true =>
    rw [hb] at h; simp only [if_true] at h
    refine ⟨_, run_load_cells w hv ht (cs.extract f (f + sz)).toList (by simp; omega) (fun j v hv => ?_) (by rw [hb, if_pos rfl, Array.toArray_toList]), h.2⟩
    have : cs.toList[f + j]? = some v := by
      simp only [Array.toList_extract, List.extract_eq_take_drop] at hv
      simp only [List.getElem?_take, List.getElem?_drop] at hv
      split at hv
      · simpa using hv
      · simp at hv
    have := hc (f + j) v this
    rwa [← Nat.add_assoc] at this
  | false =>
    rw [hb] at h; simp only [Bool.false_eq_true, if_false] at h
    obtain ⟨u, g1, g2⟩ := h
    rw [hb] at h1z
    have hz : sz = 1 := nbeq (by simpa using h1z)
    subst hz
    refine ⟨u, run_load_cells w hv ht [u] rfl (fun j v hv => ?_) (by rw [hb]; simp), g2⟩
    cases j with
    | zero => simp at hv; subst hv; simpa using hc f u (by simpa using g1)
    | succ j => simp at hv
end
end Go.Cr

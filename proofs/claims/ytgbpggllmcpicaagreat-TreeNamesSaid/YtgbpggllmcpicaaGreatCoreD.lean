/- THE OWN LAYER, PART D: the table of types; the rules of the operations that touch no memory. -/
import Derived.Test.YtgbpggllmcpicaaGreatCoreC
namespace Go.Cr
open Go Go.RowKit

/-- What is asked of a type. -/
inductive TD where
  | bool | int (k : IntKind) | string | slice (e : Nat) | ptr (e : Nat) | map (k e : Nat) | struct (fs : List (Nat × Nat)) | array (n e : Nat) | iface | func | other
structure TyRow where
  td : TD
  size : Nat
  bytes : Nat
  zero : Option Value
def TD.of : TypeDesc → TD
  | .bool => .bool | .int k => .int k | .string => .string | .slice e => .slice e | .pointer e => .ptr e | .map k e => .map k e
  | .struct fs => .struct (fs.toList.map fun f => (f.type, f.offset)) | .array n e => .array n e | .interface _ => .iface | .func .. => .func | _ => .other
def rowOf (P : Program) (t : Nat) : Option TyRow :=
  match P.info? t, P.underlying t with
  | some i, some d => some ⟨TD.of d, i.size, i.bytes, i.zero⟩
  | _, _ => none
class Tab (P : Program) where
  list : List (Nat × TyRow)
  ok : list.map (fun p => rowOf P p.1) = list.map (fun p => some p.2)
  /-- Methods of a type's own, whose receivers are no pointers. -/
  ahead : TypeId → String → Bool
  aheadOk : ∀ t m, ahead t m = true → ∀ v w, (nilAhead (P.types.size + Made.depth) t v m).run P w = .ok (some false) w
def lookIn : List (Nat × TyRow) → Nat → Option TyRow
  | [], _ => none
  | (t, r) :: l, s => bif Nat.beq s t then some r else lookIn l s
def Tab.look (P : Program) [Tab P] (t : Nat) : Option TyRow := lookIn (Tab.list P) t
theorem lookIn_ok {P : Program} : ∀ (l : List (Nat × TyRow)), l.map (fun p => rowOf P p.1) = l.map (fun p => some p.2) → ∀ t r, lookIn l t = some r → rowOf P t = some r
  | [], _, t, r, h => by simp [lookIn] at h
  | (u, x) :: l, hm, t, r, h => by
    simp only [List.map_cons, List.cons.injEq] at hm
    simp only [lookIn] at h
    cases hb : Nat.beq t u with
    | true => rw [hb] at h; simp at h; subst h; rw [nbeq hb]; exact hm.1
    | false => rw [hb] at h; exact lookIn_ok l hm.2 t r h
theorem Tab.row {P : Program} [Tab P] {t : Nat} {r : TyRow} (h : Tab.look P t = some r) :
    ∃ i d, P.info? t = some i ∧ P.underlying t = some d ∧ TD.of d = r.td ∧ i.size = r.size ∧ i.bytes = r.bytes ∧ i.zero = r.zero := by
  have hr := lookIn_ok (Tab.list P) Tab.ok t r h
  unfold rowOf at hr
  split at hr
  · rename_i i d h1 h2
    simp only [Option.some.injEq] at hr
    subst hr
    exact ⟨i, d, h1, h2, rfl, rfl, rfl, rfl⟩
  · simp at hr

theorem TD.of_bool {d : TypeDesc} (h : TD.of d = .bool) : d = .bool := by cases d <;> simp [TD.of] at h ⊢
theorem TD.of_int {d : TypeDesc} {k : IntKind} (h : TD.of d = .int k) : d = .int k := by cases d <;> simp [TD.of] at h ⊢; exact h
theorem TD.of_string {d : TypeDesc} (h : TD.of d = .string) : d = .string := by cases d <;> simp [TD.of] at h ⊢
theorem TD.of_slice {d : TypeDesc} {e : Nat} (h : TD.of d = .slice e) : d = .slice e := by cases d <;> simp [TD.of] at h ⊢; exact h
theorem TD.of_map {d : TypeDesc} {k e : Nat} (h : TD.of d = .map k e) : d = .map k e := by cases d <;> simp [TD.of] at h ⊢; exact h
theorem TD.of_array {d : TypeDesc} {k e : Nat} (h : TD.of d = .array k e) : d = .array k e := by cases d <;> simp [TD.of] at h ⊢; exact h
theorem TD.of_struct {d : TypeDesc} {fs : List (Nat × Nat)} (h : TD.of d = .struct fs) : ∃ a : Array Field, d = .struct a ∧ a.toList.map (fun f => (f.type, f.offset)) = fs := by
  cases d <;> simp [TD.of] at h ⊢; exact h

section
variable {P : Program} [Tab P] {t : Nat} {td : TD} {sz by' : Nat} {z : Option Value} (w : World)
theorem Tab.sizeOf (h : Tab.look P t = some ⟨td, sz, by', z⟩) : (sizeOf t).run P w = .ok sz w := by
  obtain ⟨i, d, h1, h2, h3, h4, h5, h6⟩ := Tab.row h
  simp only [Go.sizeOf, typeInfo, Sem.run_bind, run_program, Result.andThen, h1]
  simp; exact h4
theorem Tab.bytesOf (h : Tab.look P t = some ⟨td, sz, by', z⟩) : ∃ i, (typeInfo t).run P w = .ok i w ∧ i.bytes = by' := by
  obtain ⟨i, d, h1, h2, h3, h4, h5, h6⟩ := Tab.row h
  refine ⟨i, ?_, h5⟩
  simp [typeInfo, h1]
theorem Tab.zeroOf {z : Value} (h : Tab.look P t = some ⟨td, sz, by', some z⟩) : (zeroValue t).run P w = .ok z w := by
  obtain ⟨i, d, h1, h2, h3, h4, h5, h6⟩ := Tab.row h
  simp only [zeroValue, typeInfo, Sem.run_bind, run_program, Result.andThen, h1]
  simp only [Sem.run_pure]
  rw [h6]; rfl
theorem Tab.und (h : Tab.look P t = some ⟨td, sz, by', z⟩) : ∃ d, P.underlying t = some d ∧ TD.of d = td := by
  obtain ⟨i, d, h1, h2, h3, h4, h5, h6⟩ := Tab.row h
  exact ⟨d, h2, h3⟩
theorem Tab.slice {e : Nat} (h : Tab.look P t = some ⟨.slice e, sz, by', z⟩) : P.underlying t = some (.slice e) := by
  obtain ⟨d, h1, h2⟩ := Tab.und h; rw [h1, TD.of_slice h2]
theorem Tab.int {k : IntKind} (h : Tab.look P t = some ⟨.int k, sz, by', z⟩) : P.underlying t = some (.int k) := by
  obtain ⟨d, h1, h2⟩ := Tab.und h; rw [h1, TD.of_int h2]
theorem Tab.bool (h : Tab.look P t = some ⟨.bool, sz, by', z⟩) : P.underlying t = some .bool := by
  obtain ⟨d, h1, h2⟩ := Tab.und h; rw [h1, TD.of_bool h2]
theorem Tab.string (h : Tab.look P t = some ⟨.string, sz, by', z⟩) : P.underlying t = some .string := by
  obtain ⟨d, h1, h2⟩ := Tab.und h; rw [h1, TD.of_string h2]
theorem Tab.map {k e : Nat} (h : Tab.look P t = some ⟨.map k e, sz, by', z⟩) : P.underlying t = some (.map k e) := by
  obtain ⟨d, h1, h2⟩ := Tab.und h; rw [h1, TD.of_map h2]
/-- Is a value of this type one of several cells that stands as an aggregate? -/
def TD.isAgg : TD → Bool
  | .struct _ | .array _ _ => true
  | _ => false
theorem Tab.isAgg (h : Tab.look P t = some ⟨td, sz, by', z⟩) : (isAgg t).run P w = .ok td.isAgg w := by
  obtain ⟨d, h1, h2⟩ := Tab.und h
  subst h2
  simp only [Go.isAgg, Sem.run_bind, run_underlying h1, Result.andThen]
  cases d <;> rfl
end

/-! ### Numbers that fit -/
def fits (k : IntKind) (x : Int) : Prop :=
  match k with
  | .i8 => -128 ≤ x ∧ x ≤ 127 | .i16 => -32768 ≤ x ∧ x ≤ 32767 | .i32 => -2147483648 ≤ x ∧ x ≤ 2147483647 | .i64 => -9223372036854775808 ≤ x ∧ x ≤ 9223372036854775807
  | .u8 => 0 ≤ x ∧ x ≤ 255 | .u16 => 0 ≤ x ∧ x ≤ 65535 | .u32 => 0 ≤ x ∧ x ≤ 4294967295 | .u64 => 0 ≤ x ∧ x ≤ 18446744073709551615
theorem wrap_fits {k : IntKind} {x : Int} (h : fits k x) : k.wrap x = x := by
  cases k <;> simp only [fits] at h <;> simp only [IntKind.wrap, IntKind.bits, IntKind.signed] <;> (simp; omega)
theorem wrap_u64 (x : Int) : IntKind.u64.wrap x = x % 18446744073709551616 := by simp [IntKind.wrap, IntKind.bits, IntKind.signed]
theorem wrap_u32 (x : Int) : IntKind.u32.wrap x = x % 4294967296 := by simp [IntKind.wrap, IntKind.bits, IntKind.signed]
theorem wrap_u8 (x : Int) : IntKind.u8.wrap x = x % 256 := by simp [IntKind.wrap, IntKind.bits, IntKind.signed]

/-- An int, a bool as what a slot holds. -/
abbrev dI (k : IntKind) (n : Int) : D := .imm (.val (.int k n))
abbrev dB (b : Bool) : D := .imm (.val (.bool b))

section
variable {P : Program} {n : Nat} {c : Cx n} {σ : Sg} {s : Nat} {ty : TypeId} {pos : String} {af : Array Edge} {g : Option (Nat × Bool)} {x y : Operand} {T T' : TypeId} {k k' : IntKind} {m m' : Int}

theorem run_binOp_int {ev : Operand → Value} {op : BinOp} {dst : Option Tmp} (w : World) (hx : ev x = .int k m) (hy : ev y = .int k' m') :
    (execOp ev ⟨dst, .binOp op T x y T', ty, pos, af, g⟩).run P w = ((binOp op T (.int k m) (.int k' m')).run P w).andThen fun v w => .ok (.value v) w := by
  simp only [execOp, hx, hy]
  have he : (eqGuard op T x y (.int k m) (.int k' m')).run P w = .ok () w := by
    unfold eqGuard; cases op <;> simp
  simp [he]
theorem spec_binOp {op : BinOp} {d : D} (hx : σ.opd x = some (dI k m)) (hy : σ.opd y = some (dI k' m')) (hs : Nat.blt s n = true)
    (h : ∀ w, ∃ v, (binOp op T (.int k m) (.int k' m')).run P w = .ok v w ∧ ∀ ok hb ρ, d.rel ok w hb ρ v) :
    Spec P c ⟨some s, .binOp op T x y T', ty, pos, af, g⟩ σ (.set s d σ) := Spec.pure rfl hs fun ρ a w hr => by
  have h1 : a.eval x = .int k m := hr.opd hx
  have h2 : a.eval y = .int k' m' := hr.opd hy
  obtain ⟨v, h3, h4⟩ := h w
  exact ⟨v, by rw [run_binOp_int w h1 h2, h3]; rfl, h4 _ _ _⟩

theorem r_add (hx : σ.opd x = some (dI k m)) (hy : σ.opd y = some (dI k m')) (hs : Nat.blt s n = true) (hf : fits k (m + m')) :
    Spec P c ⟨some s, .binOp .add T x y T', ty, pos, af, g⟩ σ (.set s (dI k (m + m')) σ) :=
  spec_binOp hx hy hs fun w => ⟨.int k (m + m'), by simp [binOp, Op.intArith, wrap_fits hf], fun _ _ _ => rfl⟩
theorem r_add_w (hx : σ.opd x = some (dI k m)) (hy : σ.opd y = some (dI k m')) (hs : Nat.blt s n = true) :
    Spec P c ⟨some s, .binOp .add T x y T', ty, pos, af, g⟩ σ (.set s (dI k (k.wrap (m + m'))) σ) :=
  spec_binOp hx hy hs fun w => ⟨.int k (k.wrap (m + m')), by simp [binOp, Op.intArith], fun _ _ _ => rfl⟩
theorem r_sub (hx : σ.opd x = some (dI k m)) (hy : σ.opd y = some (dI k m')) (hs : Nat.blt s n = true) (hf : fits k (m - m')) :
    Spec P c ⟨some s, .binOp .sub T x y T', ty, pos, af, g⟩ σ (.set s (dI k (m - m')) σ) :=
  spec_binOp hx hy hs fun w => ⟨.int k (m - m'), by simp [binOp, Op.intArith, wrap_fits hf], fun _ _ _ => rfl⟩
theorem r_sub_w (hx : σ.opd x = some (dI k m)) (hy : σ.opd y = some (dI k m')) (hs : Nat.blt s n = true) :
    Spec P c ⟨some s, .binOp .sub T x y T', ty, pos, af, g⟩ σ (.set s (dI k (k.wrap (m - m'))) σ) :=
  spec_binOp hx hy hs fun w => ⟨.int k (k.wrap (m - m')), by simp [binOp, Op.intArith], fun _ _ _ => rfl⟩
theorem r_mul (hx : σ.opd x = some (dI k m)) (hy : σ.opd y = some (dI k m')) (hs : Nat.blt s n = true) (hf : fits k (m * m')) :
    Spec P c ⟨some s, .binOp .mul T x y T', ty, pos, af, g⟩ σ (.set s (dI k (m * m')) σ) :=
  spec_binOp hx hy hs fun w => ⟨.int k (m * m'), by simp [binOp, Op.intArith, wrap_fits hf], fun _ _ _ => rfl⟩
theorem r_mul_w (hx : σ.opd x = some (dI k m)) (hy : σ.opd y = some (dI k m')) (hs : Nat.blt s n = true) :
    Spec P c ⟨some s, .binOp .mul T x y T', ty, pos, af, g⟩ σ (.set s (dI k (k.wrap (m * m'))) σ) :=
  spec_binOp hx hy hs fun w => ⟨.int k (k.wrap (m * m')), by simp [binOp, Op.intArith], fun _ _ _ => rfl⟩
theorem fits_div {k : IntKind} {m m' : Int} (h0 : 0 ≤ m) (h1 : 0 < m') (hf : fits k m) : fits k (m / m') := by
  have h2 : 0 ≤ m / m' := Int.ediv_nonneg h0 (by omega)
  have h3 : m / m' ≤ m := Int.ediv_le_self m' h0
  cases k <;> simp only [fits] at hf ⊢ <;> omega
theorem r_quo (hx : σ.opd x = some (dI k m)) (hy : σ.opd y = some (dI k m')) (hs : Nat.blt s n = true) (h0 : 0 ≤ m) (h1 : 0 < m') (hf : fits k m) :
    Spec P c ⟨some s, .binOp .quo T x y T', ty, pos, af, g⟩ σ (.set s (dI k (m / m')) σ) :=
  spec_binOp hx hy hs fun w => ⟨.int k (m / m'), by
    have e : m.tdiv m' = m / m' := Int.tdiv_eq_ediv_of_nonneg h0
    have hne : m' ≠ 0 := by omega
    simp [binOp, Op.intDiv, hne, e, wrap_fits (fits_div h0 h1 hf)], fun _ _ _ => rfl⟩
theorem r_rem (hx : σ.opd x = some (dI k m)) (hy : σ.opd y = some (dI k m')) (hs : Nat.blt s n = true) (h0 : 0 ≤ m) (h1 : 0 < m') :
    Spec P c ⟨some s, .binOp .rem T x y T', ty, pos, af, g⟩ σ (.set s (dI k (m % m')) σ) :=
  spec_binOp hx hy hs fun w => ⟨.int k (m % m'), by
    have e : m.tmod m' = m % m' := Int.tmod_eq_emod_of_nonneg h0
    have hne : m' ≠ 0 := by omega
    simp [binOp, Op.intDiv, hne, e], fun _ _ _ => rfl⟩
/-- The remainder of any int, by one above 0: as Go has it. -/
theorem r_rem_t (hx : σ.opd x = some (dI k m)) (hy : σ.opd y = some (dI k m')) (hs : Nat.blt s n = true) (h1 : m' ≠ 0) :
    Spec P c ⟨some s, .binOp .rem T x y T', ty, pos, af, g⟩ σ (.set s (dI k (m.tmod m')) σ) :=
  spec_binOp hx hy hs fun w => ⟨.int k (m.tmod m'), by simp [binOp, Op.intDiv, h1], fun _ _ _ => rfl⟩

theorem bitsAt {k : IntKind} {m : Int} (h0 : 0 ≤ m) (h1 : m < 2 ^ k.bits) : (BitVec.ofInt k.bits m).toNat = m.toNat := by
  rw [BitVec.toNat_ofInt]
  have h2 : ((2 ^ k.bits : Nat) : Int) = 2 ^ k.bits := by norm_cast
  rw [h2, Int.emod_eq_of_lt h0 h1]
theorem r_and (hx : σ.opd x = some (dI k m)) (hy : σ.opd y = some (dI k m')) (hs : Nat.blt s n = true) (h0 : 0 ≤ m ∧ m < 2 ^ k.bits) (h1 : 0 ≤ m' ∧ m' < 2 ^ k.bits) (hk : fits k ((m.toNat &&& m'.toNat : Nat) : Int)) :
    Spec P c ⟨some s, .binOp .and T x y T', ty, pos, af, g⟩ σ (.set s (dI k ((m.toNat &&& m'.toNat : Nat) : Int)) σ) :=
  spec_binOp hx hy hs fun w => ⟨.int k ((m.toNat &&& m'.toNat : Nat) : Int), by
    simp [binOp, Op.intBits, BitVec.toNat_and, bitsAt h0.1 h0.2, bitsAt h1.1 h1.2, wrap_fits hk], fun _ _ _ => rfl⟩
theorem r_or (hx : σ.opd x = some (dI k m)) (hy : σ.opd y = some (dI k m')) (hs : Nat.blt s n = true) (h0 : 0 ≤ m ∧ m < 2 ^ k.bits) (h1 : 0 ≤ m' ∧ m' < 2 ^ k.bits) (hk : fits k ((m.toNat ||| m'.toNat : Nat) : Int)) :
    Spec P c ⟨some s, .binOp .or T x y T', ty, pos, af, g⟩ σ (.set s (dI k ((m.toNat ||| m'.toNat : Nat) : Int)) σ) :=
  spec_binOp hx hy hs fun w => ⟨.int k ((m.toNat ||| m'.toNat : Nat) : Int), by
    simp [binOp, Op.intBits, BitVec.toNat_or, bitsAt h0.1 h0.2, bitsAt h1.1 h1.2, wrap_fits hk], fun _ _ _ => rfl⟩
/-- 'x << y', the power by name. -/
theorem r_shl {q : Int} (hx : σ.opd x = some (dI k m)) (hy : σ.opd y = some (dI k' m')) (hs : Nat.blt s n = true) (h0 : 0 ≤ m') (hq : (2 : Int) ^ (min m'.toNat k.bits) = q) :
    Spec P c ⟨some s, .binOp .shl T x y T', ty, pos, af, g⟩ σ (.set s (dI k (k.wrap (m * q))) σ) :=
  spec_binOp hx hy hs fun w => ⟨.int k (k.wrap (m * q)), by
    have hne : ¬ m' < 0 := by omega
    simp [binOp, Op.shift, hne, hq], fun _ _ _ => rfl⟩
theorem r_shl_f {q : Int} (hx : σ.opd x = some (dI k m)) (hy : σ.opd y = some (dI k' m')) (hs : Nat.blt s n = true) (h0 : 0 ≤ m') (hq : (2 : Int) ^ (min m'.toNat k.bits) = q) (hf : fits k (m * q)) :
    Spec P c ⟨some s, .binOp .shl T x y T', ty, pos, af, g⟩ σ (.set s (dI k (m * q)) σ) := by
  have := r_shl (P := P) (c := c) (T := T) (T' := T') (ty := ty) (pos := pos) (af := af) (g := g) hx hy hs h0 hq
  rwa [wrap_fits hf] at this
theorem r_shr {q : Int} (hx : σ.opd x = some (dI k m)) (hy : σ.opd y = some (dI k' m')) (hs : Nat.blt s n = true) (h0 : 0 ≤ m') (hm : 0 ≤ m) (hq : (2 : Int) ^ (min m'.toNat k.bits) = q) :
    Spec P c ⟨some s, .binOp .shr T x y T', ty, pos, af, g⟩ σ (.set s (dI k (m / q)) σ) :=
  spec_binOp hx hy hs fun w => ⟨.int k (m / q), by
    have e : m.fdiv q = m / q := Int.fdiv_eq_ediv_of_nonneg m (by rw [← hq]; exact Int.pow_nonneg (by decide))
    have hne : ¬ m' < 0 := by omega
    simp [binOp, Op.shift, hne, hq, e], fun _ _ _ => rfl⟩

/-! Comparisons: decided (yes, no), or open. -/
theorem r_lss (hx : σ.opd x = some (dI k m)) (hy : σ.opd y = some (dI k m')) (hs : Nat.blt s n = true) :
    Spec P c ⟨some s, .binOp .lss T x y T', ty, pos, af, g⟩ σ (.set s (dB (decide (m < m'))) σ) :=
  spec_binOp hx hy hs fun w => ⟨.bool (decide (m < m')), by simp [binOp, Op.intCmp], fun _ _ _ => rfl⟩
theorem r_leq (hx : σ.opd x = some (dI k m)) (hy : σ.opd y = some (dI k m')) (hs : Nat.blt s n = true) :
    Spec P c ⟨some s, .binOp .leq T x y T', ty, pos, af, g⟩ σ (.set s (dB (decide (m ≤ m'))) σ) :=
  spec_binOp hx hy hs fun w => ⟨.bool (decide (m ≤ m')), by simp [binOp, Op.intCmp], fun _ _ _ => rfl⟩
theorem r_gtr (hx : σ.opd x = some (dI k m)) (hy : σ.opd y = some (dI k m')) (hs : Nat.blt s n = true) :
    Spec P c ⟨some s, .binOp .gtr T x y T', ty, pos, af, g⟩ σ (.set s (dB (decide (m' < m))) σ) :=
  spec_binOp hx hy hs fun w => ⟨.bool (decide (m' < m)), by simp [binOp, Op.intCmp], fun _ _ _ => rfl⟩
theorem r_geq (hx : σ.opd x = some (dI k m)) (hy : σ.opd y = some (dI k m')) (hs : Nat.blt s n = true) :
    Spec P c ⟨some s, .binOp .geq T x y T', ty, pos, af, g⟩ σ (.set s (dB (decide (m' ≤ m))) σ) :=
  spec_binOp hx hy hs fun w => ⟨.bool (decide (m' ≤ m)), by simp [binOp, Op.intCmp], fun _ _ _ => rfl⟩
theorem r_eql (hx : σ.opd x = some (dI k m)) (hy : σ.opd y = some (dI k m')) (hs : Nat.blt s n = true) :
    Spec P c ⟨some s, .binOp .eql T x y T', ty, pos, af, g⟩ σ (.set s (dB (decide (m = m'))) σ) :=
  spec_binOp hx hy hs fun w => ⟨.bool (decide (m = m')), by simp [binOp, Op.intCmp]; rfl, fun _ _ _ => rfl⟩
theorem r_neq (hx : σ.opd x = some (dI k m)) (hy : σ.opd y = some (dI k m')) (hs : Nat.blt s n = true) :
    Spec P c ⟨some s, .binOp .neq T x y T', ty, pos, af, g⟩ σ (.set s (dB (decide (¬ m = m'))) σ) :=
  spec_binOp hx hy hs fun w => ⟨.bool (decide (¬ m = m')), by
    simp only [binOp, Op.intCmp]; by_cases h : m = m' <;> simp [h], fun _ _ _ => rfl⟩
theorem dec_t {p : Prop} [Decidable p] (h : p) : dB (decide p) = dB true := by simp [h]
theorem dec_f {p : Prop} [Decidable p] (h : ¬ p) : dB (decide p) = dB false := by simp [h]
theorem r_lss_t (hx : σ.opd x = some (dI k m)) (hy : σ.opd y = some (dI k m')) (hs : Nat.blt s n = true) (h : m < m') : Spec P c ⟨some s, .binOp .lss T x y T', ty, pos, af, g⟩ σ (.set s (dB true) σ) := dec_t h ▸ r_lss hx hy hs
theorem r_lss_f (hx : σ.opd x = some (dI k m)) (hy : σ.opd y = some (dI k m')) (hs : Nat.blt s n = true) (h : ¬ m < m') : Spec P c ⟨some s, .binOp .lss T x y T', ty, pos, af, g⟩ σ (.set s (dB false) σ) := dec_f h ▸ r_lss hx hy hs
theorem r_leq_t (hx : σ.opd x = some (dI k m)) (hy : σ.opd y = some (dI k m')) (hs : Nat.blt s n = true) (h : m ≤ m') : Spec P c ⟨some s, .binOp .leq T x y T', ty, pos, af, g⟩ σ (.set s (dB true) σ) := dec_t h ▸ r_leq hx hy hs
theorem r_leq_f (hx : σ.opd x = some (dI k m)) (hy : σ.opd y = some (dI k m')) (hs : Nat.blt s n = true) (h : ¬ m ≤ m') : Spec P c ⟨some s, .binOp .leq T x y T', ty, pos, af, g⟩ σ (.set s (dB false) σ) := dec_f h ▸ r_leq hx hy hs
theorem r_gtr_t (hx : σ.opd x = some (dI k m)) (hy : σ.opd y = some (dI k m')) (hs : Nat.blt s n = true) (h : m' < m) : Spec P c ⟨some s, .binOp .gtr T x y T', ty, pos, af, g⟩ σ (.set s (dB true) σ) := dec_t h ▸ r_gtr hx hy hs
theorem r_gtr_f (hx : σ.opd x = some (dI k m)) (hy : σ.opd y = some (dI k m')) (hs : Nat.blt s n = true) (h : ¬ m' < m) : Spec P c ⟨some s, .binOp .gtr T x y T', ty, pos, af, g⟩ σ (.set s (dB false) σ) := dec_f h ▸ r_gtr hx hy hs
theorem r_geq_t (hx : σ.opd x = some (dI k m)) (hy : σ.opd y = some (dI k m')) (hs : Nat.blt s n = true) (h : m' ≤ m) : Spec P c ⟨some s, .binOp .geq T x y T', ty, pos, af, g⟩ σ (.set s (dB true) σ) := dec_t h ▸ r_geq hx hy hs
theorem r_geq_f (hx : σ.opd x = some (dI k m)) (hy : σ.opd y = some (dI k m')) (hs : Nat.blt s n = true) (h : ¬ m' ≤ m) : Spec P c ⟨some s, .binOp .geq T x y T', ty, pos, af, g⟩ σ (.set s (dB false) σ) := dec_f h ▸ r_geq hx hy hs
theorem r_eql_t (hx : σ.opd x = some (dI k m)) (hy : σ.opd y = some (dI k m')) (hs : Nat.blt s n = true) (h : m = m') : Spec P c ⟨some s, .binOp .eql T x y T', ty, pos, af, g⟩ σ (.set s (dB true) σ) := dec_t h ▸ r_eql hx hy hs
theorem r_eql_f (hx : σ.opd x = some (dI k m)) (hy : σ.opd y = some (dI k m')) (hs : Nat.blt s n = true) (h : ¬ m = m') : Spec P c ⟨some s, .binOp .eql T x y T', ty, pos, af, g⟩ σ (.set s (dB false) σ) := dec_f h ▸ r_eql hx hy hs
theorem r_neq_t (hx : σ.opd x = some (dI k m)) (hy : σ.opd y = some (dI k m')) (hs : Nat.blt s n = true) (h : ¬ m = m') : Spec P c ⟨some s, .binOp .neq T x y T', ty, pos, af, g⟩ σ (.set s (dB true) σ) := dec_t h ▸ r_neq hx hy hs
theorem r_neq_f (hx : σ.opd x = some (dI k m)) (hy : σ.opd y = some (dI k m')) (hs : Nat.blt s n = true) (h : m = m') : Spec P c ⟨some s, .binOp .neq T x y T', ty, pos, af, g⟩ σ (.set s (dB false) σ) := dec_f (not_not_intro h) ▸ r_neq hx hy hs

/-! One value: conversion, '!', a pick, a part of a tuple -/
theorem r_conv [Tab P] {T1 T2 : TypeId} {td : TD} {sz1 by1 sz2 by2 : Nat} {z1 z2 : Option Value} (hx : σ.opd x = some (dI k' m)) (h1 : Tab.look P T1 = some ⟨td, sz1, by1, z1⟩) (h2 : Tab.look P T2 = some ⟨.int k, sz2, by2, z2⟩) (hs : Nat.blt s n = true) (hf : fits k m) :
    Spec P c ⟨some s, .convert T1 T2 x, ty, pos, af, g⟩ σ (.set s (dI k m) σ) := Spec.pure rfl hs fun ρ a w hr => ⟨.int k m, by
  have hv : a.eval x = .int k' m := hr.opd hx
  obtain ⟨d, hd, _⟩ := Tab.und h1
  simp only [execOp, hv, convert, Sem.run_bind, run_underlying hd, run_underlying (Tab.int h2), Result.andThen]
  simp [Conv.intToInt, wrap_fits hf], rfl⟩
theorem r_conv_w [Tab P] {T1 T2 : TypeId} {td : TD} {sz1 by1 sz2 by2 : Nat} {z1 z2 : Option Value} (hx : σ.opd x = some (dI k' m)) (h1 : Tab.look P T1 = some ⟨td, sz1, by1, z1⟩) (h2 : Tab.look P T2 = some ⟨.int k, sz2, by2, z2⟩) (hs : Nat.blt s n = true) :
    Spec P c ⟨some s, .convert T1 T2 x, ty, pos, af, g⟩ σ (.set s (dI k (k.wrap m)) σ) := Spec.pure rfl hs fun ρ a w hr => ⟨.int k (k.wrap m), by
  have hv : a.eval x = .int k' m := hr.opd hx
  obtain ⟨d, hd, _⟩ := Tab.und h1
  simp only [execOp, hv, convert, Sem.run_bind, run_underlying hd, run_underlying (Tab.int h2), Result.andThen]
  simp [Conv.intToInt], rfl⟩
theorem r_not {b : Bool} (hx : σ.opd x = some (dB b)) (hs : Nat.blt s n = true) : Spec P c ⟨some s, .unOp .not T x, ty, pos, af, g⟩ σ (.set s (dB (!b)) σ) := Spec.pure rfl hs fun ρ a w hr => ⟨.bool (!b), by
  have hv : a.eval x = .bool b := hr.opd hx
  simp [execOp, hv, Op.unary], rfl⟩
theorem r_not_dec {p : Prop} [Decidable p] (hx : σ.opd x = some (dB (decide p))) (hs : Nat.blt s n = true) : Spec P c ⟨some s, .unOp .not T x, ty, pos, af, g⟩ σ (.set s (dB (decide (¬ p))) σ) := by
  have := r_not (P := P) (c := c) (T := T) (ty := ty) (pos := pos) (af := af) (g := g) hx hs
  rwa [← decide_not] at this
theorem r_neg (hx : σ.opd x = some (dI k m)) (hs : Nat.blt s n = true) (hf : fits k (-m)) : Spec P c ⟨some s, .unOp .neg T x, ty, pos, af, g⟩ σ (.set s (dI k (-m)) σ) := Spec.pure rfl hs fun ρ a w hr => ⟨.int k (-m), by
  have hv : a.eval x = .int k m := hr.opd hx
  simp [execOp, hv, Op.unary, Op.intArith, wrap_fits hf], rfl⟩
theorem r_neg_w (hx : σ.opd x = some (dI k m)) (hs : Nat.blt s n = true) : Spec P c ⟨some s, .unOp .neg T x, ty, pos, af, g⟩ σ (.set s (dI k (k.wrap (-m))) σ) := Spec.pure rfl hs fun ρ a w hr => ⟨.int k (k.wrap (-m)), by
  have hv : a.eval x = .int k m := hr.opd hx
  simp [execOp, hv, Op.unary, Op.intArith], rfl⟩
theorem r_pick_t {cc : Operand} {d : D} (hc : σ.opd cc = some (dB true)) (hx : σ.opd x = some d) (hs : Nat.blt s n = true) : Spec P c ⟨some s, .pick cc x y, ty, pos, af, g⟩ σ (.set s d σ) := Spec.pure rfl hs fun ρ a w hr => ⟨a.eval x, by
  have hv : a.eval cc = .bool true := hr.opd hc
  simp [execOp, hv, asBool], hr.opd hx⟩
theorem r_pick_f {cc : Operand} {d : D} (hc : σ.opd cc = some (dB false)) (hy : σ.opd y = some d) (hs : Nat.blt s n = true) : Spec P c ⟨some s, .pick cc x y, ty, pos, af, g⟩ σ (.set s d σ) := Spec.pure rfl hs fun ρ a w hr => ⟨a.eval y, by
  have hv : a.eval cc = .bool false := hr.opd hc
  simp [execOp, hv, asBool], hr.opd hy⟩
theorem r_extract {l : List D} {i : Nat} {d : D} (hx : σ.opd x = some (.tup l)) (hi : l[i]? = some d) (hs : Nat.blt s n = true) : Spec P c ⟨some s, .extract x i, ty, pos, af, g⟩ σ (.set s d σ) := Spec.pure rfl hs fun ρ a w hr => by
  obtain ⟨cs, hv, hl⟩ := hr.opd hx
  obtain ⟨v, h1, h2⟩ := D.rels_get l cs i d hl hi
  exact ⟨v, by simp [execOp, hv, Instr.extract, h1], h2⟩
theorem r_makeFunc {f : Fn} {l m : Array Operand} {ds es : List D} (h1 : l.toList.mapM σ.opd = some ds) (h2 : m.toList.mapM σ.opd = some es) (hs : Nat.blt s n = true) :
    Spec P c ⟨some s, .makeFunc f l m, ty, pos, af, g⟩ σ (.set s (.fn f ds es) σ) := Spec.pure rfl hs fun ρ a w hr => by
  have key : ∀ (xs : List Operand) (ds : List D), xs.mapM σ.opd = some ds → D.rels (okB c σ.blk ρ w) w σ.blk ρ ds (xs.map a.eval) := by
    intro xs
    induction xs with
    | nil => intro ds h; simp at h; subst h; rfl
    | cons x xs ih =>
      intro ds h
      simp only [List.mapM_cons, Option.bind_eq_bind, Option.bind_eq_some_iff] at h
      obtain ⟨d, hd, r, hr', he⟩ := h
      simp only [Option.pure_def, Option.some.injEq] at he
      subst he
      exact ⟨a.eval x, xs.map a.eval, rfl, hr.opd hd, ih r hr'⟩
  refine ⟨.func f (l.map a.eval) (m.map a.eval), by simp [execOp, Instr.makeFunc], (l.toList.map a.eval), (m.toList.map a.eval), ?_, key _ _ h1, key _ _ h2⟩
  congr 1 <;> (apply Array.ext'; simp)
end
end Go.Cr

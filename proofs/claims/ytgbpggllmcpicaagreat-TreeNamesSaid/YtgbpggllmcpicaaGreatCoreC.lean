/- THE OWN LAYER, PART C: the judgements 'AW' (a piece of code) and 'AO' (operations in the text's order), their rules of structure. -/
import Derived.Test.YtgbpggllmcpicaaGreatCoreB
import Derived.Deep.LoopGhost
namespace Go.Cr
open Go Go.RowKit
variable {P : Program} {n : Nat} {c : Cx n}

def AW (P : Program) {n : Nat} (c : Cx n) (code : Code) (σ : Sg) (Q : Exit → Sg → Prop) : Prop :=
  ∀ a w, Rel c σ a w → code.wp P (fun e a' w' => ∃ σ', Q e σ' ∧ Rel c σ' a' w') a w

def QS (K : Sg → Prop) (Q : Exit → Sg → Prop) : Exit → Sg → Prop
  | .normal, σ => K σ
  | e, σ => Q e σ
def QB (id : Nat) (Q : Exit → Sg → Prop) : Exit → Sg → Prop
  | .exit i, σ => bif Nat.beq i id then Q .normal σ else Q (.exit i) σ
  | e, σ => Q e σ

theorem AW.weaken {code : Code} {σ τ : Sg} {Q : Exit → Sg → Prop} (hs : Has σ τ) (h : AW P c code τ Q) : AW P c code σ Q :=
  fun a w hr => h a w (hr.weaken hs)
theorem AW.mono {code : Code} {σ : Sg} {Q Q' : Exit → Sg → Prop} (h : AW P c code σ Q) (hq : ∀ e σ, Q e σ → Q' e σ) : AW P c code σ Q' :=
  fun a w hr => wp_mono (h a w hr) fun _ _ _ ⟨σ', h1, h2⟩ => ⟨σ', hq _ _ h1, h2⟩
theorem AW.seq {x y : Code} {σ : Sg} {Q : Exit → Sg → Prop} (h : AW P c x σ (QS (fun σ' => AW P c y σ' Q) Q)) : AW P c (.seq x y) σ Q := fun a w hr =>
  wp_seq (wp_mono (h a w hr) fun e a' w' ⟨σ', h1, h2⟩ => by
    cases e with
    | normal => exact h1 a' w' h2
    | _ => exact ⟨σ', h1, h2⟩)
/-- After a piece of code a state is fixed. -/
theorem AW.seq_cut {x y : Code} {σ : Sg} {Q : Exit → Sg → Prop} (τ : Sg) (h : AW P c x σ (QS (fun σ' => Has σ' τ) Q)) (h' : AW P c y τ Q) : AW P c (.seq x y) σ Q :=
  AW.seq (h.mono fun e σ' hq => by
    cases e with
    | normal => exact h'.weaken hq
    | _ => exact hq)
theorem AW.seq_cutE {ι : Type} {x y : Code} {σ : Sg} {Q : Exit → Sg → Prop} (τ : ι → Sg) (h : AW P c x σ (QS (fun σ' => ∃ i, Has σ' (τ i)) Q)) (h' : ∀ i, AW P c y (τ i) Q) : AW P c (.seq x y) σ Q :=
  AW.seq (h.mono fun e σ' hq => by
    cases e with
    | normal => exact let ⟨i, hi⟩ := hq; (h' i).weaken hi
    | _ => exact hq)
theorem AW.block {id : Nat} {x : Code} {σ : Sg} {Q : Exit → Sg → Prop} (h : AW P c x σ (QB id Q)) : AW P c (.block id x) σ Q := fun a w hr =>
  wp_block (wp_mono (h a w hr) fun e a' w' ⟨σ', h1, h2⟩ => by
    cases e with
    | exit i =>
      simp only [QB] at h1
      simp only [Exit.inBlock]
      by_cases hi : i = id
      · subst hi; rw [nb_self] at h1; rw [if_pos rfl]; exact ⟨σ', h1, h2⟩
      · rw [nb_ne hi] at h1; rw [if_neg hi]; exact ⟨σ', h1, h2⟩
    | _ => exact ⟨σ', h1, h2⟩)
theorem AW.skip {σ : Sg} {Q : Exit → Sg → Prop} (h : Q .normal σ) : AW P c .skip σ Q := fun _ _ hr => wp_skip ⟨σ, h, hr⟩
theorem AW.ret {σ : Sg} {Q : Exit → Sg → Prop} (h : Q .ret σ) : AW P c .ret σ Q := fun _ _ hr => wp_ret ⟨σ, h, hr⟩
theorem AW.exit {id : Nat} {σ : Sg} {Q : Exit → Sg → Prop} (h : Q (.exit id) σ) : AW P c (.exit id) σ Q := fun _ _ hr => wp_exit ⟨σ, h, hr⟩
theorem AW.loop {ι : Type} {x : Code} {σ : Sg} {Q : Exit → Sg → Prop} (S : ι → Sg) (μ : ι → Nat) (i0 : ι) (h0 : Has σ (S i0))
    (round : ∀ i, AW P c x (S i) (QS (fun σ' => ∃ j, μ j < μ i ∧ Has σ' (S j)) Q)) : AW P c (.loop x) σ Q := fun a w hr =>
  wp_loop_ghost (fun n a w => ∃ i, μ i = n ∧ Rel c (S i) a w) (μ i0) ⟨i0, rfl, hr.weaken h0⟩ fun n a w ⟨i, hi, hri⟩ =>
    wp_mono (round i a w hri) fun e a' w' ⟨σ', h1, h2⟩ => by
      cases e with
      | normal =>
        obtain ⟨j, hj, hh⟩ := h1
        exact ⟨μ j, by omega, j, rfl, h2.weaken hh⟩
      | _ => exact ⟨σ', h1, h2⟩

/-- What a constant, as an operand, is. -/
def constD : Value → D
  | .slice none 0 0 => .nils
  | v => .imm (.val v)
def Sg.opd (σ : Sg) : Operand → Option D
  | .tmp t => σ.get t
  | .const v => some (constD v)
  | .func f => some (.imm (.val (.func (.func f) #[] #[])))
  | .global g => some (.imm (.val (.pointer (some ⟨g, 0, none⟩))))

theorem constD_rel {ok : Nat → Prop} {w : World} {hb : Nat → Option Blk} {ρ : Nat → R} (v : Value) : (constD v).rel ok w hb ρ v := by
  unfold constD
  split
  · rfl
  · rfl
theorem RelR.opd {σ : Sg} {ρ : Nat → R} {a : Act} {w : World} (h : RelR c σ ρ a w) {x : Operand} {d : D} (hx : σ.opd x = some d) : d.rel (okB c σ.blk ρ w) w σ.blk ρ (a.eval x) := by
  cases x with
  | tmp t => exact h.slot t d hx
  | const v => simp only [Sg.opd, Option.some.injEq] at hx; subst hx; exact constD_rel v
  | func f => simp only [Sg.opd, Option.some.injEq] at hx; subst hx; rfl
  | global g => simp only [Sg.opd, Option.some.injEq] at hx; subst hx; rfl

theorem AW.cond {x : Operand} {t f : Code} {σ : Sg} {Q : Exit → Sg → Prop} {b : Bool} (hx : σ.opd x = some (.imm (.val (.bool b))))
    (ht : b = true → AW P c t σ Q) (hf : b = false → AW P c f σ Q) : AW P c (.cond x t f) σ Q := fun a w hr => by
  obtain ⟨ρ, h⟩ := hr
  have hv : a.eval x = .bool b := h.opd hx
  cases b with
  | true => exact Go.wp_cond hv (ht rfl a w ⟨ρ, h⟩)
  | false => exact Go.wp_cond hv (hf rfl a w ⟨ρ, h⟩)
theorem AW.cond_true {x : Operand} {t f : Code} {σ : Sg} {Q : Exit → Sg → Prop} (hx : σ.opd x = some (.imm (.val (.bool true)))) (ht : AW P c t σ Q) : AW P c (.cond x t f) σ Q :=
  AW.cond hx (fun _ => ht) (fun h => by simp at h)
theorem AW.cond_false {x : Operand} {t f : Code} {σ : Sg} {Q : Exit → Sg → Prop} (hx : σ.opd x = some (.imm (.val (.bool false)))) (hf : AW P c f σ Q) : AW P c (.cond x t f) σ Q :=
  AW.cond hx (fun h => by simp at h) (fun _ => hf)
theorem AW.cond_dec {x : Operand} {t f : Code} {σ : Sg} {Q : Exit → Sg → Prop} {p : Prop} [Decidable p] (hx : σ.opd x = some (.imm (.val (.bool (decide p)))))
    (ht : p → AW P c t σ Q) (hf : ¬ p → AW P c f σ Q) : AW P c (.cond x t f) σ Q :=
  AW.cond hx (fun h => ht (by simpa using h)) (fun h => hf (by simpa using h))

/-- One operation, from a state to a state. -/
def Spec (P : Program) {n : Nat} (c : Cx n) (o : Oper) (σ σ' : Sg) : Prop :=
  ∀ a w, Rel c σ a w → ∀ Q, o.wp P a w (fun a' w' => Rel c σ' a' w') Q

def AO (P : Program) {n : Nat} (c : Cx n) (all rest : List Oper) (σ : Sg) (Q : Sg → Prop) : Prop :=
  ∀ a w, Rel c σ a w → wpList P all.toArray (fun e a' w' => ∃ σ', (e = .normal ∧ Q σ') ∧ Rel c σ' a' w') rest a w

theorem AW.region {id : Nat} {l : List Oper} {σ : Sg} {Q : Exit → Sg → Prop} (h : AO P c l l σ (Q .normal)) : AW P c (.region id l.toArray false) σ Q := fun a w hr =>
  wp_mono (wp_region_lit (h a w hr)) fun e a' w' ⟨σ', ⟨he, h1⟩, h2⟩ => ⟨σ', he ▸ h1, h2⟩

theorem AO.nil {all : List Oper} {σ : Sg} {Q : Sg → Prop} (h : Q σ) : AO P c all [] σ Q := fun _ _ hr => wpList_nil ⟨σ, ⟨rfl, h⟩, hr⟩
theorem AO.weaken {all rest : List Oper} {σ τ : Sg} {Q : Sg → Prop} (hs : Has σ τ) (h : AO P c all rest τ Q) : AO P c all rest σ Q := fun a w hr => h a w (hr.weaken hs)
theorem AO.cons {all rest : List Oper} {o : Oper} {σ σ' : Sg} {Q : Sg → Prop} (hs : Spec P c o σ σ') (hg : o.guard = none) (h : AO P c all rest σ' Q) : AO P c all (o :: rest) σ Q := fun a w hr =>
  wpList_plain hg fun K hK => Oper.wp_mono (fun a w h' => hK a w (h a w h')) (hs a w hr _)

theorem yielded_of {all : List Oper} {j s : Nat} {b : Bool} {σ : Sg} {ρ : Nat → R} {a : Act} {w : World} (h : RelR c σ ρ a w)
    (hj : (all[j]?).bind (·.dst) = some s) (hs : σ.get s = some (.imm (.val (.bool b)))) (hn : Nat.blt s n = true) : yielded all.toArray a.tmps j = some b := by
  have hv : a.tmps.getD s undef = .bool b := h.slot s _ hs
  have hlt : s < a.tmps.size := by rw [h.size]; exact Nat.blt_eq.mp hn
  unfold yielded
  simp only [List.getElem?_toArray, hj, Option.bind_some]
  have : a.tmps[s]? = some (.bool b) := by
    have e : a.tmps[s]? = some a.tmps[s] := Array.getElem?_eq_getElem hlt
    rw [e]
    simp only [Array.getD_eq_getD_getElem?, e, Option.getD_some] at hv
    rw [hv]
  rw [this]

/-- An operation whose guard says yes. -/
theorem AO.cons_yes {all rest : List Oper} {o : Oper} {σ σ' : Sg} {Q : Sg → Prop} {j s : Nat} {b : Bool} (hg : o.guard = some (j, b)) (hj : (all[j]?).bind (·.dst) = some s)
    (hs : σ.get s = some (.imm (.val (.bool b)))) (hn : Nat.blt s n = true) (hsp : Spec P c o σ σ') (h : AO P c all rest σ' Q) : AO P c all (o :: rest) σ Q := fun a w hr => by
  obtain ⟨ρ, hρ⟩ := hr
  have hy := yielded_of (all := all) hρ hj hs hn
  refine wpList_step fun K hK => ?_
  rw [if_pos (by simp [Region.wanted, hg, hy])]
  exact Oper.wp_mono (fun a w h' => hK a w (h a w h')) (hsp a w ⟨ρ, hρ⟩ _)
/-- .. no: the slot holds nothing that is known. -/
theorem AO.cons_no {all rest : List Oper} {o : Oper} {σ : Sg} {Q : Sg → Prop} {j s d : Nat} {b : Bool} (hg : o.guard = some (j, b)) (hj : (all[j]?).bind (·.dst) = some s)
    (hs : σ.get s = some (.imm (.val (.bool (!b))))) (hn : Nat.blt s n = true) (hd : o.dst = some d) (hdn : Nat.blt d n = true) (h : AO P c all rest (.set d .any σ) Q) : AO P c all (o :: rest) σ Q := fun a w hr => by
  obtain ⟨ρ, hρ⟩ := hr
  have hy := yielded_of (all := all) hρ hj hs hn
  refine wpList_skip (by simp [Region.wanted, hg, hy]) ?_
  rw [hd]
  exact h _ _ ⟨ρ, hρ.put (Nat.blt_eq.mp hdn) trivial⟩
/-- .. no, and it writes no slot. -/
theorem AO.cons_no' {all rest : List Oper} {o : Oper} {σ : Sg} {Q : Sg → Prop} {j s : Nat} {b : Bool} (hg : o.guard = some (j, b)) (hj : (all[j]?).bind (·.dst) = some s)
    (hs : σ.get s = some (.imm (.val (.bool (!b))))) (hn : Nat.blt s n = true) (hd : o.dst = none) (h : AO P c all rest σ Q) : AO P c all (o :: rest) σ Q := fun a w hr => by
  obtain ⟨ρ, hρ⟩ := hr
  have hy := yielded_of (all := all) hρ hj hs hn
  refine wpList_skip (by simp [Region.wanted, hg, hy]) ?_
  rw [hd]
  exact h _ _ ⟨ρ, hρ⟩

/-- A test that is not decided parts the walk. -/
theorem AO.part {all rest : List Oper} {σ : Sg} {Q : Sg → Prop} {s : Nat} {b : Bool} (hs : σ.get s = some (.imm (.val (.bool b))))
    (ht : b = true → AO P c all rest (.set s (.imm (.val (.bool true))) σ) Q) (hf : b = false → AO P c all rest (.set s (.imm (.val (.bool false))) σ) Q) : AO P c all rest σ Q := by
  cases b with
  | true => exact (ht rfl).weaken (.set hs (.refl σ))
  | false => exact (hf rfl).weaken (.set hs (.refl σ))

/-! ### Specs out of runs -/
theorem Spec.of {o : Oper} {σ σ' : Sg} (h : ∀ ρ a w, RelR c σ ρ a w → ∃ v w', (execOp a.eval o).run P w = .ok (.value v) w' ∧ Rel c σ' (a.put o.dst v) w') : Spec P c o σ σ' := fun a w ⟨ρ, hr⟩ Q => by
  obtain ⟨v, w', h1, h2⟩ := h ρ a w hr
  unfold Oper.wp; rw [h1]; exact h2
theorem Spec.of_skip {o : Oper} {σ σ' : Sg} (h : ∀ ρ a w, RelR c σ ρ a w → ∃ w', (execOp a.eval o).run P w = .ok .skip w' ∧ Rel c σ' (a.put o.dst undef) w') : Spec P c o σ σ' := fun a w ⟨ρ, hr⟩ Q => by
  obtain ⟨w', h1, h2⟩ := h ρ a w hr
  unfold Oper.wp; rw [h1]; exact h2
/-- An operation that touches no memory. -/
theorem Spec.pure {o : Oper} {σ : Sg} {s : Nat} {d : D} (hd : o.dst = some s) (hs : Nat.blt s n = true)
    (h : ∀ ρ a w, RelR c σ ρ a w → ∃ v, (execOp a.eval o).run P w = .ok (.value v) w ∧ d.rel (okB c σ.blk ρ w) w σ.blk ρ v) : Spec P c o σ (.set s d σ) :=
  Spec.of fun ρ a w hr => let ⟨v, h1, h2⟩ := h ρ a w hr; ⟨v, w, h1, ρ, by rw [hd]; exact hr.put (Nat.blt_eq.mp hs) h2⟩

theorem r_move {σ : Sg} {s : Nat} {x : Operand} {d : D} {ty : TypeId} {pos : String} {af : Array Edge} {g : Option (Nat × Bool)} (hx : σ.opd x = some d) (hs : Nat.blt s n = true) :
    Spec P c ⟨some s, .move x, ty, pos, af, g⟩ σ (.set s d σ) := Spec.pure rfl hs fun ρ a w hr => ⟨a.eval x, rfl, hr.opd hx⟩
theorem r_assign {σ : Sg} {s : Nat} {x : Operand} {d : D} {ty : TypeId} {pos : String} {af : Array Edge} {g : Option (Nat × Bool)} (hx : σ.opd x = some d) (hs : Nat.blt s n = true) :
    Spec P c ⟨some s, .assign x, ty, pos, af, g⟩ σ (.set s d σ) := Spec.pure rfl hs fun ρ a w hr => ⟨a.eval x, rfl, hr.opd hx⟩
end Go.Cr

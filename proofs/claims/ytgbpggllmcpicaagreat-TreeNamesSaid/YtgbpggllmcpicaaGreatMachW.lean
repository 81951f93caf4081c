/- MACHINE X, PART W: one operation more, by its kind; all orders. -/
import Derived.Test.YtgbpggllmcpicaaGreatMachV
namespace Go.Xm
open Go Go.Cr Go.RowKit

section
variable {P : Program} [Tab P] {n : Nat} {ops : List Oper} {T : Nat → Tr V} {hp : Nat → Tr Bk} {nxs : Nat → Nat} {pre : Nat → Nat → Prop} {hid : Nat → List Tmp}
  {N : Ns} {μ0 : Mu} {w0 : World} {df : List Deferred} {S : Nat → Prop} {a : Act} {w : World} {μ : Mu} {q : Nat}
theorem read_out {ev : Operand → Option V} {H : Tr Bk} {nx : Nat} {o : Oper} {r : Out} (hk : kd o.op = .read) (h : opX P ev H nx o = some r) : ∃ v, r = (some v, H, nx) := by
  obtain ⟨dst, op, ty, pos, af, g⟩ := o
  cases op <;> simp only [kd] at hk <;> first | (cases hk; done) | skip
  case load => obtain ⟨v, _, e⟩ := val1_out h; exact ⟨v, e⟩
  case slice => obtain ⟨v, _, e⟩ := val1_out h; exact ⟨v, e⟩
  case lookup => obtain ⟨v, _, e⟩ := val1_out h; exact ⟨v, e⟩
  case call c =>
    obtain ⟨cal, args, ats⟩ := c
    simp only [opX, builtinX] at h
    split at h
    · split at h
      · obtain ⟨v, _, e⟩ := val1_out h; exact ⟨v, e⟩
      · cases h
    · split at h
      · obtain ⟨v, _, e⟩ := val1_out h; exact ⟨v, e⟩
      · cases h
    · cases hk
    · cases hk
    · cases hk
    · obtain ⟨v, _, e⟩ := val1_out h; exact ⟨v, e⟩
    · cases h
theorem no_defer {o : Oper} (hk : kd o.op ≠ .eff) : ∀ c, o.op ≠ .defer c := fun c e => hk (by rw [e]; rfl)
theorem lowE_rel {ev : Operand → Option V} {m : Nat} {ρ : Operand → Value} (hev : ∀ x v, ev x = some v → v.rel μ (ρ x)) : ∀ x v, lowE m ev x = some v → v.rel (cut μ m) (ρ x) := fun x v h => by
  unfold lowE at h
  split at h
  · rename_i v' hv'
    split at h
    · rename_i hl; cases h; exact low_rel v _ hl (hev x v hv')
    · cases h
  · cases h

theorem DI.run {call : CallX} (hcall : CallOK P call) (D : DH P n (stepC P call) ops T hp nxs pre hid) (h : DI n ops T hp nxs pre N μ0 w0 df S a w μ q) {i : Nat} {o : Oper} (ho : ops[i]? = some o) (hS : ¬ S i) (hpre : ∀ j, pre j i → S j) {ro : Option Nat}
    {K : Act → World → Prop} {Q : Exit → Act → World → Prop} (hK : ∀ a' w' μ' q', DI n ops T hp nxs pre N μ0 w0 df (fun j => S j ∨ j = i) a' w' μ' q' → K a' w') : wpOpIn (Fr ro) 0 P ops.toArray Q i K a w := by
  have hlen : i < ops.length := (List.getElem?_eq_some_iff.1 ho).1
  have hsl := h.slots D hlen hS hpre
  have hev : ∀ x v, evalX (hide (hid i) (T i)) x = some v → v.rel (cut μ (nxs i)) (a.eval x) := fun x v hv => evalX_rel hsl x v hv
  unfold wpOpIn
  rw [show ops.toArray[i]? = some o by simpa using ho]
  simp only
  have hwant : ∀ b, wantX ops (hide (hid i) (T i)) o = some b → Region.wanted o (yielded ops.toArray a.tmps) = b := fun b hb => wantX_eq (all := ops.toArray) hsl (by simpa using hb)
  have hearlier : kd o.op = .eff → q ≤ i ∧ ∀ j, q ≤ j → j < i → (nxs j ≠ nxs (j + 1) → S j) ∧ ∀ o', ops[j]? = some o' → kd o'.op = .eff → S j := fun hke => by
    refine ⟨?_, fun j _ hj => ?_⟩
    · rcases h.qeff with e | ⟨E, o', e, h1, h2, h3⟩
      · omega
      · rcases Nat.lt_trichotomy E i with g | g | g
        · omega
        · exact absurd (g ▸ h3) hS
        · exact absurd (h.closed E i h3 (D.effs E o' i o h1 h2 g ho (.inl hke))) hS
    · have hoj := List.getElem?_eq_getElem (show j < ops.length by omega)
      exact ⟨fun hc => hpre j (D.effs i o j _ ho hke hj hoj (.inr hc)), fun o' h1 h2 => hpre j (D.effs i o j o' ho hke hj h1 (.inl h2))⟩
  rcases stepT_out (D.stp i o ho) with ⟨hw, hT, hH, hn⟩ | ⟨hw, hk, v, H1, hput, hh⟩ | ⟨hw, hk, hH, hn, v, H1, nx1, hput, hl, hx⟩ | ⟨hw, hk, hle, r, hput, hx⟩
  · rw [hwant _ hw, if_neg (by simp)]
    refine ⟨fun _ _ => trivial, ?_⟩
    have hu : ∀ μ' s v, o.dst = some s → (T (i + 1)).get s = some v → (s < n ∨ undef = undef) ∧ v.rel μ' undef := fun μ' s v hd hv => by
      rw [hT, (dropX_get _ _).2 s hd] at hv; cases hv; exact ⟨.inr rfl, rfl⟩
    by_cases hke : kd o.op = .eff
    · obtain ⟨g1, g2⟩ := hearlier hke
      have hi := h.adopt D i g1 (by omega) g2
      obtain ⟨μ1, hd⟩ := h.big D ho hke hS hpre (w1 := w) (u := undef) (μ' := cut μ (nxs i)) g1 (Ext.refl _) (by rw [hH, hn]; exact hi) (Keep.refl _ w) (hu _)
      exact hK _ _ _ _ hd
    · exact hK _ _ _ _ (h.still D ho hS hpre hn (fun e => absurd e hke) (hu _) (Keep.refl _ w) h.inv)
  · rw [hwant _ hw, if_pos rfl]
    have hne : kd o.op ≠ .eff := fun e => by rw [hk] at e; cases e
    have hall : Inv (Ns.all w.heap.size) (cut μ (nxs i)) .nil (nxs i) w :=
      ⟨fun r hr => hr, fun b bk hb => (by rw [Tr.get_nil] at hb; cases hb), fun b b' bk bk' p p' _ hb => (by rw [Tr.get_nil] at hb; cases hb), fun b bk p hb => (by rw [Tr.get_nil] at hb; cases hb), fun b bk p hb => (by rw [Tr.get_nil] at hb; cases hb), fun b hb => (by unfold cut; rw [if_neg (by omega)])⟩
    have hu : ∀ (μ' : Mu) (u : Value), v.rel μ' u → ∀ s v', o.dst = some s → (T (i + 1)).get s = some v' → (s < n ∨ u = undef) ∧ v'.rel μ' u := fun μ' u hr s v' hd hv => by
      obtain ⟨h1, h2⟩ := (putX_get hput).2 s hd
      rw [h2] at hv; cases hv; exact ⟨.inl h1, hr⟩
    rcases hh with ⟨hH, hn, hx⟩ | ⟨bk, hH, hn, hg, hwr, hx⟩
    · obtain ⟨u, w', μ', e1, e2, e3, e4, e5⟩ := opX_sound hev (fun _ => rfl) hall hx
      have hμ : μ' = cut μ (nxs i) := by
        funext b
        rcases Nat.lt_or_ge b (nxs i) with g | g
        · exact e2.2 b g
        · rw [e3.fresh b g]; unfold cut; rw [if_neg (by omega)]
      refine ⟨fun _ _ => trivial, ?_⟩
      rw [Oper.semAt_eq _ _ _ (no_defer hne), e1]
      refine hK _ _ _ _ (h.still D ho hS hpre hn (fun e => absurd e hne) (hu _ _ (by rw [hn, ← hμ]; exact e5)) ⟨e4.os, e4.tape, e4.output, e4.size, fun r hr => e4.block r (h.inv.low r hr)⟩ (h.inv.grow e4.size e4.block))
    · obtain ⟨u, w', μ', e1, e2, e3, e4, e5⟩ := opX_sound hev (fun _ => rfl) hall hx
      refine ⟨fun _ _ => trivial, ?_⟩
      rw [Oper.semAt_eq _ _ _ (no_defer hne), e1]
      obtain ⟨μ1, hd⟩ := h.make D ho hk hS hpre hwr hH hn hg e2.2 e3 e4 (hu _ _ e5)
      exact hK _ _ _ _ hd
  · rw [hwant _ hw, if_pos rfl]
    have hne : kd o.op ≠ .eff := fun e => by rw [hk] at e; cases e
    obtain ⟨H', nx', hx'⟩ := D.reads i o ho hk hw q (h.qeff.imp id fun ⟨E, o', e, h1, h2, _⟩ => ⟨E, o', e, h1, h2⟩) (fun E o' hE hkE hqE hp => absurd (h.qmax E o' hE hkE (hpre E hp)) (by omega))
      (fun E o' hE hkE hEq hp => by
        have hSE : S E := by
          rcases h.qeff with e | ⟨E', o2, e, h1, h2, h3⟩
          · omega
          · by_cases g : E = E'
            · exact g ▸ h3
            · exact h.closed E' E h3 (D.effs E' o2 E o' h1 h2 (by omega) hE (.inl hkE))
        exact hS (h.closed E i hSE hp)) _ hx
    obtain ⟨v', hv'⟩ := read_out hk hx'
    cases hv'
    have hev' := fun x v => lowE_rel (m := nxs q) hev x v
    have hev2 : ∀ x v, lowE (nxs q) (evalX (hide (hid i) (T i))) x = some v → v.rel (cut μ (nxs q)) (a.eval x) := fun x v hv => V.rel_ext (fun b p e => by
      unfold cut at e ⊢
      by_cases g : b < nxs q
      · rw [if_pos g] at e ⊢
        by_cases g2 : b < nxs i
        · rw [if_pos g2] at e; exact e
        · rw [if_neg g2] at e; cases e
      · rw [if_neg g] at e; cases e) _ _ (hev' x v hv)
    obtain ⟨u, w', μ', e1, e2, e3, e4, e5⟩ := opX_sound hev2 (fun _ => rfl) h.inv hx'
    have hμ : μ' = cut μ (nxs q) := by
      funext b
      rcases Nat.lt_or_ge b (nxs q) with g | g
      · exact e2.2 b g
      · rw [e3.fresh b g]; unfold cut; rw [if_neg (by omega)]
    subst hμ
    refine ⟨fun _ _ => trivial, ?_⟩
    rw [Oper.semAt_eq _ _ _ (no_defer hne), e1]
    refine hK _ _ _ _ (h.still D ho hS hpre hn (fun e => absurd e hne) (fun s v2 hd hv2 => ?_) e4 e3)
    obtain ⟨h1, h2⟩ := (putX_get hput).2 s hd
    rw [h2] at hv2; cases hv2
    refine ⟨.inl h1, ?_⟩
    rw [hn]
    have e6 := low_rel _ _ hl e5
    exact V.rel_ext (fun b p e => by
      unfold cut at e ⊢
      by_cases g : b < nxs i
      · rw [if_pos g] at e ⊢
        by_cases g2 : b < nxs q
        · rw [if_pos g2] at e; exact e
        · rw [if_neg g2] at e; cases e
      · rw [if_neg g] at e; cases e) _ _ e6
  · rw [hwant _ hw, if_pos rfl]
    obtain ⟨g1, g2⟩ := hearlier hk
    have hi := h.adopt D i g1 (by omega) g2
    refine stepC_ok hcall ro _ a _ _ _ _ w o _ hev hi hx K Q ?_
    have hu : ∀ (μ' : Mu) (u : Value), (∀ v, r = some v → v.rel μ' u) → ∀ s v', o.dst = some s → (T (i + 1)).get s = some v' → (s < n ∨ u = undef) ∧ v'.rel μ' u := fun μ' u hr s v' hd hv => by
      obtain ⟨h1, h2⟩ := (putX_get hput).2 s hd
      rw [h2] at hv; exact ⟨.inl h1, hr v' hv⟩
    cases r with
    | some v =>
      intro u w' μ' f1 f2 f3 f4
      obtain ⟨μ1, hd⟩ := h.big D ho hk hS hpre g1 f1 f2 f3 (hu μ' u fun v' e => by cases e; exact f4)
      exact hK _ _ _ _ hd
    | none =>
      intro w' μ' f1 f2 f3
      obtain ⟨μ1, hd⟩ := h.big D ho hk hS hpre (u := undef) g1 f1 f2 f3 (hu μ' undef fun v' e => by cases e)
      exact hK _ _ _ _ hd

/-! ### All of them -/
def cnt (f : Nat → Bool) : Nat → Nat
  | 0 => 0
  | n + 1 => cnt f n + if f n then 0 else 1
theorem cnt_set {f g : Nat → Bool} {i : Nat} (hf : f i = false) (hg : g i = true) (h : ∀ j, j ≠ i → g j = f j) : ∀ n, i < n → cnt f n = cnt g n + 1
  | 0, h0 => absurd h0 (Nat.not_lt_zero _)
  | n + 1, h0 => by
    simp only [cnt]
    by_cases e : i = n
    · subst e
      have : ∀ m, m ≤ i → cnt f m = cnt g m := fun m hm => by
        induction m with
        | zero => rfl
        | succ m ih => simp only [cnt]; rw [ih (by omega), h m (by omega)]
      rw [this i (Nat.le_refl _), hf, hg]; simp
    · rw [cnt_set hf hg h n (by omega), h n (Ne.symm e)]; omega
theorem cnt_zero {f : Nat → Bool} : ∀ n, cnt f n = 0 → ∀ i, i < n → f i = true
  | 0, _, i, hi => absurd hi (Nat.not_lt_zero _)
  | n + 1, h, i, hi => by
    simp only [cnt] at h
    by_cases e : i = n
    · subst e
      cases hf : f i with
      | true => rfl
      | false => rw [hf] at h; simp at h
    · exact cnt_zero n (by omega) i (by omega)

theorem draws {call : CallX} (hcall : CallOK P call) (D : DH P n (stepC P call) ops T hp nxs pre hid) {ro : Option Nat} {Q : Exit → Act → World → Prop}
    (hQ : ∀ a' w' μ', Ext μ0 μ' → Slots μ' n (T ops.length) a'.tmps → a'.defers = df → Inv N μ' (hp ops.length) (nxs ops.length) w' → Keep N w0 w' → Q .normal a' w') :
    ∀ (fuel : Nat) (listed : Array Bool) (S : Nat → Prop) (a : Act) (w : World) (μ : Mu) (q : Nat), listed.size = ops.length → (∀ j, j < ops.length → (S j ↔ listed.getD j true = true)) → cnt (fun j => listed.getD j true) ops.length ≤ fuel →
      DI n ops T hp nxs pre N μ0 w0 df S a w μ q → wpAnyIn (Fr ro) 0 P .any ops.toArray Q fuel listed a w := by
  have fin : ∀ (S : Nat → Prop) (a : Act) (w : World) (μ : Mu) (q : Nat), (∀ j, j < ops.length → S j) → DI n ops T hp nxs pre N μ0 w0 df S a w μ q → Q .normal a w := fun S a w μ q hall h => by
    have hcut : cut μ (nxs ops.length) = μ := by
      funext b
      unfold cut
      by_cases g : b < nxs ops.length
      · rw [if_pos g]
      · rw [if_neg g]; exact (h.top b (by omega)).symm
    have hi := h.adopt D ops.length (h.qlen D) (Nat.le_refl _) fun j _ hj => ⟨fun _ => hall j hj, fun _ _ _ => hall j hj⟩
    rw [hcut] at hi
    refine hQ a w μ h.ext ⟨h.size, fun s v hv => ?_⟩ h.defs (hi.less (fun r hr => .inl hr) fun r hr => .inl hr) h.keep
    have hlow : ∀ m, Ext (cut μ m) μ := fun m b p e => by
      unfold cut at e
      split at e
      · exact e
      · cases e
    rcases D.slot ops.length (Nat.le_refl _) s with ⟨j, o, h1, h2, h3, h4⟩ | ⟨h1, h2⟩
    · rw [h4] at hv; exact V.rel_ext (hlow _) _ _ (h.new j o s v (hall j h1) h2 h3 hv)
    · rw [h2] at hv; exact V.rel_ext (hlow _) _ _ (h.old s v (fun j o hj hoj => h1 j o (h.slen j hj) hoj) hv)
  have none : ∀ (listed : Array Bool), listed.size = ops.length → Region.ready .any ops.toArray listed = [] → ∀ i, i < ops.length → listed.getD i true = true := fun listed hsz hr i => by
    induction i using Nat.strongRecOn with
    | _ i ih =>
      intro hi
      cases hl : listed.getD i true with
      | true => rfl
      | false =>
        exfalso
        have ho := List.getElem?_eq_getElem hi
        have : i ∈ Region.ready .any ops.toArray listed := mem_ready.2 ⟨hl, _, by rw [List.getElem?_toArray]; exact ho, fun e he hb => by
          have hlt := D.pre_lt e.on i hi (D.pre_of i _ e ho he hb)
          have := ih e.on hlt (by omega)
          rw [Array.getD_eq_getD_getElem?] at this ⊢
          rw [Array.getElem?_eq_getElem (by omega)] at this ⊢
          simpa using this⟩
        rw [hr] at this; cases this
  intro fuel
  induction fuel with
  | zero =>
    intro listed S a w μ q hsz hSl hc h
    have hall := cnt_zero _ (Nat.le_zero.mp hc)
    refine ⟨?_, fin S a w μ q (fun j hj => (hSl j hj).2 (hall j hj)) h⟩
    rw [List.eq_nil_iff_forall_not_mem]
    intro i hi
    obtain ⟨h1, o, h2, _⟩ := mem_ready.1 hi
    have hi' : i < ops.length := by simpa using (Array.getElem?_eq_some_iff.1 h2).1
    have := hall i hi'
    rw [h1] at this; cases this
  | succ fuel ih =>
    intro listed S a w μ q hsz hSl hc h
    refine ⟨fun hr => fin S a w μ q (fun j hj => (hSl j hj).2 (none listed hsz hr j hj)) h, fun i hi => ?_⟩
    obtain ⟨h1, o, h2, h3⟩ := mem_ready.1 hi
    have hi' : i < ops.length := by simpa using (Array.getElem?_eq_some_iff.1 h2).1
    have ho : ops[i]? = some o := by simpa using h2
    have hS : ¬ S i := fun hs => by have := (hSl i hi').1 hs; rw [h1] at this; cases this
    have hpre : ∀ j, pre j i → S j := fun j hj => by
      obtain ⟨e, he, hb, hor⟩ := D.pre_in i o j ho hj
      have hon : S e.on := by
        have hlt := D.pre_lt e.on i hi' (D.pre_of i o e ho he hb)
        refine (hSl e.on (by omega)).2 ?_
        have := h3 e he hb
        rw [Array.getD_eq_getD_getElem?] at this ⊢
        rw [Array.getElem?_eq_getElem (by omega)] at this ⊢
        simpa using this
      rcases hor with rfl | hp
      · exact hon
      · exact h.closed e.on j hon hp
    refine h.run hcall D ho hS hpre fun a' w' μ' q' hd => ih (listed.setIfInBounds i true) _ a' w' μ' q' (by simpa using hsz) (fun j hj => ?_) ?_ hd
    · by_cases e : j = i
      · subst e; simp [Array.getD_eq_getD_getElem?, hsz, hj]
      · simp only [e, or_false]
        rw [hSl j hj]
        simp [Array.getD_eq_getD_getElem?, Array.getElem?_setIfInBounds_ne (Ne.symm e)]
    · have := cnt_set (f := fun j => listed.getD j true) (g := fun j => (listed.setIfInBounds i true).getD j true) (i := i) h1 (by simp [Array.getD_eq_getD_getElem?, hsz, hi']) (fun j hj => by simp [Array.getD_eq_getD_getElem?, Array.getElem?_setIfInBounds_ne (Ne.symm hj)]) ops.length hi'
      omega
end
end Go.Xm

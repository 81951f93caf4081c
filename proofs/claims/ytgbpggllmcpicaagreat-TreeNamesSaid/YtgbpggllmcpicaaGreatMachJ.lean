/- MACHINE X, PART J: regions in the text's order, whatever an operation does. -/
import Derived.Test.YtgbpggllmcpicaaGreatMachH
import Derived.TacticsIn
namespace Go.Xm
open Go Go.Cr Go.RowKit

/-- A frame of functions, in a round of the record r or in none. -/
noncomputable abbrev Fr (r : Option Nat) : Fence := { Fence.wide with round := r }
abbrev StepX := (Operand → Option V) → Oper → Tr Bk → Nat → Option Out
/-- What stands behind an operation's outcome. -/
def Then (N : Ns) (μ : Mu) (w : World) (o : Oper) (a : Act) (K : Act → World → Prop) (r : Out) : Prop :=
  match r.1 with
  | some v => ∀ u w' μ', Ext μ μ' → Inv N μ' r.2.1 r.2.2 w' → Keep N w w' → v.rel μ' u → K (a.put o.dst u) w'
  | none => ∀ w' μ', Ext μ μ' → Inv N μ' r.2.1 r.2.2 w' → Keep N w w' → K (a.put o.dst undef) w'
def StepOK (P : Program) (F : Fence) (step : StepX) : Prop :=
  ∀ (ev : Operand → Option V) (a : Act) (N : Ns) (μ : Mu) (H : Tr Bk) (nx : Nat) (w : World) (o : Oper) (r : Out), (∀ x v, ev x = some v → v.rel μ (a.eval x)) → Inv N μ H nx w → step ev o H nx = some r →
    ∀ (K : Act → World → Prop) (Q : Exit → Act → World → Prop), Then N μ w o a K r → o.wpIn F 0 P a w K Q

/-! ### Slots -/
noncomputable def putX (n : Nat) (t : Tr V) (dst : Option Tmp) (r : Option V) : Option (Tr V) := match dst with
  | none => some t
  | some s => match Nat.blt s n with
    | true => some (t.put s r)
    | false => none
noncomputable def dropX (t : Tr V) (dst : Option Tmp) : Tr V := match dst with
  | none => t
  | some s => t.put s (some (.val undef))
/-- Is an operation wanted? -/
noncomputable def wantX (all : List Oper) (t : Tr V) (o : Oper) : Option Bool := match o.guard with
  | none => some true
  | some (j, want) => match all[j]? with
    | some q => match q.dst with
      | some s => match t.get s with
        | some (.val (.bool b)) => match b, want with
          | true, true => some true
          | false, false => some true
          | _, _ => some false
        | some (.val _) => some false
        | _ => none
      | none => none
    | none => none
noncomputable def regionX (n : Nat) (step : StepX) (all : List Oper) : List Oper → Tr V → Tr Bk → Nat → Option (Tr V × Tr Bk × Nat)
  | [], t, H, nx => some (t, H, nx)
  | o :: l, t, H, nx => match wantX all t o with
    | some true => match step (evalX t) o H nx with
      | some (r, H', nx') => match putX n t o.dst r with
        | some t' => regionX n step all l t' H' nx'
        | none => none
      | none => none
    | some false => regionX n step all l (dropX t o.dst) H nx
    | none => none

section
variable {P : Program} {N : Ns} {μ : Mu} {H : Tr Bk} {nx n : Nat} {w : World} {t : Tr V} {a : Act} {all : Array Oper}
theorem Slots.put (h : Slots μ n t a.tmps) {s : Nat} (hs : s < n) {v : V} {u : Value} (hv : v.rel μ u) : Slots μ n (t.put s (some v)) (a.put (some s) u).tmps := by
  refine ⟨by simp [Act.put, h.size], fun i x hx => ?_⟩
  rw [Tr.get_put] at hx
  by_cases e : i = s
  · subst e
    rw [if_pos rfl] at hx; cases hx
    simp [Act.put, h.size, hs, hv]
  · rw [if_neg e] at hx
    have := h.get i x hx
    simpa [Act.put, Array.getElem?_setIfInBounds_ne (Ne.symm e)] using this
theorem Slots.drop (h : Slots μ n t a.tmps) (s : Nat) (u : Value) : Slots μ n (t.put s none) (a.put (some s) u).tmps := by
  refine ⟨by simp [Act.put, h.size], fun i x hx => ?_⟩
  rw [Tr.get_put] at hx
  by_cases e : i = s
  · rw [if_pos e] at hx; cases hx
  · rw [if_neg e] at hx
    have := h.get i x hx
    simpa [Act.put, Array.getElem?_setIfInBounds_ne (Ne.symm e)] using this
theorem Slots.putX (h : Slots μ n t a.tmps) {dst : Option Tmp} {v : V} {u : Value} {t' : Tr V} (hv : v.rel μ u) (hp : putX n t dst (some v) = some t') : Slots μ n t' (a.put dst u).tmps := by
  unfold Xm.putX at hp
  split at hp
  · cases hp; exact h
  · split at hp
    · rename_i hb; cases hp; exact h.put (Nat.blt_eq.mp hb) hv
    · cases hp
theorem Slots.putN (h : Slots μ n t a.tmps) {dst : Option Tmp} {u : Value} {t' : Tr V} (hp : Xm.putX n t dst none = some t') : Slots μ n t' (a.put dst u).tmps := by
  unfold Xm.putX at hp
  split at hp
  · cases hp; exact h
  · split at hp
    · cases hp; exact h.drop _ _
    · cases hp
theorem Slots.dropX (h : Slots μ n t a.tmps) (dst : Option Tmp) : Slots μ n (Xm.dropX t dst) (a.put dst undef).tmps := by
  unfold Xm.dropX
  split
  · exact h
  · rename_i s
    refine ⟨by simp [Act.put, h.size], fun i x hx => ?_⟩
    rw [Tr.get_put] at hx
    by_cases e : i = s
    · subst e
      rw [if_pos rfl] at hx; cases hx
      show (a.tmps.setIfInBounds i undef).getD i undef = undef
      by_cases hi : i < a.tmps.size <;> simp [hi]
    · rw [if_neg e] at hx
      have := h.get i x hx
      simpa [Act.put, Array.getElem?_setIfInBounds_ne (Ne.symm e)] using this
theorem put_defers (a : Act) (dst : Option Tmp) (u : Value) : (a.put dst u).defers = a.defers := by cases dst <;> rfl
theorem wantX_eq (h : Slots μ n t a.tmps) {o : Oper} {b : Bool} (hw : wantX all.toList t o = some b) : Region.wanted o (yielded all a.tmps) = b := by
  unfold wantX at hw
  unfold Region.wanted
  split at hw
  · rename_i hg; rw [hg]; cases hw; rfl
  · rename_i j want hg
    rw [hg]
    split at hw
    · rename_i q hq
      split at hw
      · rename_i s hs
        split at hw
        · rename_i bb hb
          have hv : a.tmps.getD s undef = .bool bb := h.get s _ hb
          have hy : yielded all a.tmps j = some bb := by
            unfold yielded
            have hq' : all[j]? = some q := by simpa using hq
            rw [hq']
            simp only [Option.bind_some, hs]
            have : a.tmps[s]? = some (.bool bb) := by
              rw [Array.getD_eq_getD_getElem?] at hv
              cases hx : a.tmps[s]? with
              | none => rw [hx] at hv; cases hv
              | some y => rw [hx] at hv; simp only [Option.getD_some] at hv; rw [hv]
            rw [this]
          simp only [hy]
          cases bb <;> cases want <;> simp at hw ⊢ <;> exact hw
        · rename_i v hnb hb
          cases hw
          have hv : a.tmps.getD s undef = v := h.get s _ hb
          have hy : yielded all a.tmps j = none := by
            unfold yielded
            have hq' : all[j]? = some q := by simpa using hq
            rw [hq']
            simp only [Option.bind_some, hs]
            rw [Array.getD_eq_getD_getElem?] at hv
            cases hx : a.tmps[s]? with
            | none => rfl
            | some y =>
              rw [hx] at hv; simp only [Option.getD_some] at hv
              subst hv
              cases y <;> first | rfl | (exact (hnb _ rfl).elim)
          simp [hy]
        · cases hw
      · cases hw
    · cases hw
/-- REGIONS IN THE TEXT's ORDER. -/
theorem regionX_sound {F : Fence} (hF : F.fn = fun _ => True) {step : StepX} (hs : StepOK P F step) {Q : Exit → Act → World → Prop} : ∀ (l : List Oper) (t : Tr V) (H : Tr Bk) (nx : Nat) (μ : Mu) (a : Act) (w : World) (r : Tr V × Tr Bk × Nat),
    regionX n step all.toList l t H nx = some r → Slots μ n t a.tmps → Inv N μ H nx w →
    (∀ a' w' μ', Ext μ μ' → Slots μ' n r.1 a'.tmps → a'.defers = a.defers → Inv N μ' r.2.1 r.2.2 w' → Keep N w w' → Q .normal a' w') → wpListIn F 0 P all Q l a w
  | [], t, H, nx, μ, a, w, r, hr, ht, hi, hq => by cases hr; exact hq a w μ (Ext.refl μ) ht rfl hi (Keep.refl N w)
  | o :: l, t, H, nx, μ, a, w, r, hr, ht, hi, hq => by
    simp only [regionX] at hr
    simp only [wpListIn]
    split at hr
    · rename_i hw
      rw [wantX_eq ht hw, if_pos rfl]
      split at hr
      · rename_i rv H' nx' hstep
        split at hr
        · rename_i t' hp
          refine hs (evalX t) a N μ H nx w o _ (fun x v hv => evalX_rel ht x v hv) hi hstep _ _ ?_
          cases rv with
          | some v => exact fun u w' μ' hx hi' hk hv => regionX_sound hF hs l t' H' nx' μ' _ w' r hr ((ht.ext hx).putX hv hp) hi' fun a' w'' μ'' hx' hs' hd hi'' hk' => hq a' w'' μ'' (hx.trans hx') hs' (hd.trans (put_defers _ _ _)) hi'' (hk.trans hk')
          | none => exact fun w' μ' hx hi' hk => regionX_sound hF hs l t' H' nx' μ' _ w' r hr ((ht.ext hx).putN hp) hi' fun a' w'' μ'' hx' hs' hd hi'' hk' => hq a' w'' μ'' (hx.trans hx') hs' (hd.trans (put_defers _ _ _)) hi'' (hk.trans hk')
        · cases hr
      · cases hr
    · rename_i hw
      rw [wantX_eq ht hw, if_neg (by simp)]
      exact ⟨fun f _ => by rw [hF]; trivial, regionX_sound hF hs l _ H nx μ _ w r hr (ht.dropX o.dst) hi fun a' w'' μ'' hx' hs' hd hi'' hk' => hq a' w'' μ'' hx' hs' (hd.trans (put_defers _ _ _)) hi'' hk'⟩
    · cases hr

/-- An operation that calls no function. -/
theorem Does.then {P : Program} {F : Fence} {o : Oper} {r : Out} (hF : F.fn = fun _ => True) (hd : ∀ c, o.op ≠ .defer c) (h : Does P N μ nx w (execOp a.eval o) r) {K : Act → World → Prop} {Q : Exit → Act → World → Prop} (hk : Then N μ w o a K r) : o.wpIn F 0 P a w K Q := by
  refine ⟨fun f _ => by rw [hF]; trivial, ?_⟩
  rw [Oper.semAt_eq _ _ _ hd]
  obtain ⟨rv, H', nx'⟩ := r
  cases rv with
  | some v =>
    obtain ⟨u, w', μ', h1, h2, h3, h4, h5⟩ := h
    rw [h1]; exact hk u w' μ' h2.1 h3 h4 h5
  | none =>
    obtain ⟨w', μ', h1, h2, h3, h4⟩ := h
    rw [h1]; exact hk w' μ' h2.1 h3 h4
end
end Go.Xm

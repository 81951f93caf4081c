/- MACHINE X, PART U: out of a trace: every order comes to the same. -/
import Derived.Test.YtgbpggllmcpicaaGreatMachT
namespace Go.Xm
open Go Go.Cr Go.RowKit

section
variable {P : Program} [Tab P] {n : Nat} {step : StepX} {ops : List Oper} {T : Nat → Tr V} {hp : Nat → Tr Bk} {nxs : Nat → Nat} {pre : Nat → Nat → Prop} {hid : Nat → List Tmp}

/-- What one step of the trace has done. -/
theorem stepT_out {o : Oper} {hd : List Tmp} {T T' : Tr V} {H H' : Tr Bk} {nx nx' : Nat} (h : stepT P n step ops hd o T H nx = some (T', H', nx')) :
    (wantX ops (hide hd T) o = some false ∧ T' = dropX T o.dst ∧ H' = H ∧ nx' = nx) ∨
    (wantX ops (hide hd T) o = some true ∧ kd o.op = .free ∧ ∃ v H1, putX n T o.dst (some v) = some T' ∧ ((H' = H ∧ nx' = nx ∧ opX P (evalX (hide hd T)) .nil nx o = some (some v, H1, nx)) ∨ ∃ bk, H' = H.put nx (some bk) ∧ nx' = nx + 1 ∧ H1.get nx = some bk ∧ bk.wr = true ∧ opX P (evalX (hide hd T)) .nil nx o = some (some v, H1, nx + 1))) ∨
    (wantX ops (hide hd T) o = some true ∧ kd o.op = .read ∧ H' = H ∧ nx' = nx ∧ ∃ v H1 nx1, putX n T o.dst (some v) = some T' ∧ v.low nx = true ∧ opX P (evalX (hide hd T)) H nx o = some (some v, H1, nx1)) ∨
    (wantX ops (hide hd T) o = some true ∧ kd o.op = .eff ∧ nx ≤ nx' ∧ ∃ r, putX n T o.dst r = some T' ∧ step (evalX (hide hd T)) o H nx = some (r, H', nx')) := by
  unfold stepT at h
  split at h
  · rename_i hw; cases h; exact .inl ⟨hw, rfl, rfl, rfl⟩
  · rename_i hw
    split at h
    · rename_i hk
      refine .inr (.inl ⟨hw, hk, ?_⟩)
      generalize hx : opX P (evalX (hide hd T)) .nil nx o = x at h
      unfold freeT at h
      split at h
      · rename_i v H1 nx1
        split at h
        · rename_i T1 hp
          split at h
          · rename_i hb
            cases h
            exact ⟨v, H1, hp, .inl ⟨rfl, rfl, by rw [Nat.eq_of_beq_eq_true hb]⟩⟩
          · split at h
            · rename_i bk hb hg
              split at h
              · rename_i hwr
                cases h
                exact ⟨v, H1, hp, .inr ⟨bk, rfl, rfl, hg, hwr, by rw [Nat.eq_of_beq_eq_true hb]⟩⟩
              · cases h
            · cases h
        · cases h
      · cases h
    · rename_i hk
      refine .inr (.inr (.inl ⟨hw, hk, ?_⟩))
      generalize hx : opX P (evalX (hide hd T)) H nx o = x at h
      unfold readT at h
      split at h
      · rename_i v H1 nx1
        split at h
        · rename_i T1 hl hp
          cases h
          exact ⟨rfl, rfl, v, H1, nx1, hp, hl, rfl⟩
        · cases h
      · cases h
    · rename_i hk
      refine .inr (.inr (.inr ⟨hw, hk, ?_⟩))
      generalize hx : step (evalX (hide hd T)) o H nx = x at h
      unfold effT at h
      split at h
      · rename_i r H1 nx1
        split at h
        · rename_i T1 hl hp
          cases h
          exact ⟨Nat.ble_eq.mp hl, r, hp, rfl⟩
        · cases h
      · cases h
  · cases h
theorem putX_get {T T' : Tr V} {dst : Option Tmp} {r : Option V} (h : putX n T dst r = some T') : (∀ s, dst ≠ some s → T'.get s = T.get s) ∧ (∀ s, dst = some s → s < n ∧ T'.get s = r) := by
  unfold putX at h
  split at h
  · cases h; exact ⟨fun _ _ => rfl, fun _ e => by cases e⟩
  · rename_i d
    split at h
    · rename_i hb
      cases h
      refine ⟨fun s hs => ?_, fun s hs => ?_⟩
      · rw [Tr.get_put, if_neg (fun (e : s = d) => hs (by rw [e]))]
      · cases hs; exact ⟨Nat.blt_eq.mp hb, by rw [Tr.get_put, if_pos rfl]⟩
    · cases h
theorem dropX_get (T : Tr V) (dst : Option Tmp) : (∀ s, dst ≠ some s → (dropX T dst).get s = T.get s) ∧ (∀ s, dst = some s → (dropX T dst).get s = some (.val undef)) := by
  unfold dropX
  cases dst with
  | none => exact ⟨fun _ _ => rfl, fun _ e => by cases e⟩
  | some d =>
    refine ⟨fun s hs => ?_, fun s hs => ?_⟩
    · simp only; rw [Tr.get_put, if_neg (fun (e : s = d) => hs (by rw [e]))]
    · cases hs; simp only; rw [Tr.get_put, if_pos rfl]

variable (D : DH P n step ops T hp nxs pre hid)
include D
theorem DH.other {i : Nat} {o : Oper} (ho : ops[i]? = some o) (s : Nat) (hs : o.dst ≠ some s) : (T (i + 1)).get s = (T i).get s := by
  rcases stepT_out (D.stp i o ho) with ⟨_, e, _⟩ | ⟨_, _, v, _, hp, _⟩ | ⟨_, _, _, _, v, _, _, hp, _⟩ | ⟨_, _, _, r, hp, _⟩
  · rw [e]; exact (dropX_get _ _).1 s hs
  · exact (putX_get hp).1 s hs
  · exact (putX_get hp).1 s hs
  · exact (putX_get hp).1 s hs
theorem DH.mono1 {i : Nat} {o : Oper} (ho : ops[i]? = some o) : nxs i ≤ nxs (i + 1) := by
  rcases stepT_out (D.stp i o ho) with ⟨_, _, _, e⟩ | ⟨_, _, v, _, _, ⟨_, e, _⟩ | ⟨_, _, e, _⟩⟩ | ⟨_, _, _, e, _⟩ | ⟨_, _, e, _⟩ <;> omega
theorem DH.mono {i j : Nat} (h : i ≤ j) (hj : j ≤ ops.length) : nxs i ≤ nxs j := by
  induction j with
  | zero => rw [show i = 0 by omega]; exact Nat.le_refl _
  | succ j ih =>
    rcases Nat.lt_or_ge i (j + 1) with g | g
    · exact Nat.le_trans (ih (by omega) (by omega)) (D.mono1 (List.getElem?_eq_getElem (by omega)))
    · rw [show i = j + 1 by omega]; exact Nat.le_refl _
/-- A slot behind the first i operations. -/
theorem DH.slot (i : Nat) (hi : i ≤ ops.length) (s : Nat) : (∃ j o, j < i ∧ ops[j]? = some o ∧ o.dst = some s ∧ (T i).get s = (T (j + 1)).get s) ∨ ((∀ j o, j < i → ops[j]? = some o → o.dst ≠ some s) ∧ (T i).get s = (T 0).get s) := by
  induction i with
  | zero => exact .inr ⟨fun _ _ h => absurd h (Nat.not_lt_zero _), rfl⟩
  | succ i ih =>
    have ho := List.getElem?_eq_getElem (show i < ops.length by omega)
    by_cases hd : ops[i].dst = some s
    · exact .inl ⟨i, _, Nat.lt_succ_self i, ho, hd, rfl⟩
    · rw [D.other ho s hd]
      rcases ih (by omega) with ⟨j, o, h1, h2, h3, h4⟩ | ⟨h1, h2⟩
      · exact .inl ⟨j, o, by omega, h2, h3, h4⟩
      · refine .inr ⟨fun j o hj hoj => ?_, h2⟩
        by_cases e : j = i
        · subst e; rw [ho] at hoj; cases hoj; exact hd
        · exact h1 j o (by omega) hoj
end

/-- What is known when some operations have been done. -/
structure DI (n : Nat) (ops : List Oper) (T : Nat → Tr V) (hp : Nat → Tr Bk) (nxs : Nat → Nat) (pre : Nat → Nat → Prop) (N : Ns) (μ0 : Mu) (w0 : World) (df : List Deferred) (S : Nat → Prop) (a : Act) (w : World) (μ : Mu) (q : Nat) : Prop where
  ext : Ext μ0 μ
  top : ∀ b, nxs ops.length ≤ b → μ b = none
  gap : ∀ j, j < ops.length → ¬ S j → ∀ b, nxs j ≤ b → b < nxs (j + 1) → μ b = none
  closed : ∀ i j, S i → pre j i → S j
  slen : ∀ i, S i → i < ops.length
  qeff : q = 0 ∨ ∃ E o, q = E + 1 ∧ ops[E]? = some o ∧ kd o.op = .eff ∧ S E
  qmax : ∀ E o, ops[E]? = some o → kd o.op = .eff → S E → E < q
  old : ∀ s v, (∀ j o, S j → ops[j]? = some o → o.dst ≠ some s) → (T 0).get s = some v → v.rel (cut μ (nxs 0)) (a.tmps.getD s undef)
  new : ∀ j o s v, S j → ops[j]? = some o → o.dst = some s → (T (j + 1)).get s = some v → v.rel (cut μ (nxs (j + 1))) (a.tmps.getD s undef)
  size : a.tmps.size = n
  defs : a.defers = df
  keep : Keep N w0 w
  inv : Inv (N.un fun r => ∃ j p, S j ∧ q ≤ j ∧ nxs j ≠ nxs (j + 1) ∧ μ (nxs j) = some p ∧ p.r = r) (cut μ (nxs q)) (hp q) (nxs q) w
  blks : ∀ j, S j → q ≤ j → nxs j ≠ nxs (j + 1) → ∃ p o bk, μ (nxs j) = some p ∧ w.heap[p.r]? = some o ∧ hp (j + 1) = (hp j).put (nxs j) (some bk) ∧ nxs (j + 1) = nxs j + 1 ∧ bk.rel (cut μ (nxs (j + 1))) p o ∧ ¬ N p.r
  dist : ∀ j j' p p', S j → S j' → q ≤ j → q ≤ j' → j ≠ j' → nxs j ≠ nxs (j + 1) → nxs j' ≠ nxs (j' + 1) → μ (nxs j) = some p → μ (nxs j') = some p' → p.r ≠ p'.r

section
variable {P : Program} [Tab P] {n : Nat} {step : StepX} {ops : List Oper} {T : Nat → Tr V} {hp : Nat → Tr Bk} {nxs : Nat → Nat} {pre : Nat → Nat → Prop} {hid : Nat → List Tmp}
  {N : Ns} {μ0 : Mu} {w0 : World} {df : List Deferred} {S : Nat → Prop} {a : Act} {w : World} {μ : Mu} {q : Nat}
theorem DI.qlen (D : DH P n step ops T hp nxs pre hid) (h : DI n ops T hp nxs pre N μ0 w0 df S a w μ q) : q ≤ ops.length := by
  rcases h.qeff with e | ⟨E, o, e, h1, _⟩
  · omega
  · have := (List.getElem?_eq_some_iff.1 h1).1; omega
/-- The slots that the i-th operation may look at. -/
theorem DI.slots (D : DH P n step ops T hp nxs pre hid) (h : DI n ops T hp nxs pre N μ0 w0 df S a w μ q) {i : Nat} (hi : i < ops.length) (hS : ¬ S i) (hpre : ∀ j, pre j i → S j) : Slots (cut μ (nxs i)) n (hide (hid i) (T i)) a.tmps := by
  refine ⟨h.size, fun s v hv => ?_⟩
  obtain ⟨hs, hv⟩ := hide_get _ _ _ _ hv
  rcases D.slot i (by omega) s with ⟨j, o, h1, h2, h3, h4⟩ | ⟨h1, h2⟩
  · rw [h4] at hv
    have hj : S j := by
      by_cases g : pre j i
      · exact hpre j g
      · exact absurd (D.hidden i j o s hi h2 (by omega) h3 g (fun g2 => absurd (D.pre_lt i j (by omega) g2) (by omega))) hs
    exact V.rel_ext (cut_le (D.mono (show j + 1 ≤ i by omega) (by omega))) _ _ (h.new j o s v hj h2 h3 hv)
  · rw [h2] at hv
    refine V.rel_ext (cut_le (D.mono (Nat.zero_le i) (by omega))) _ _ (h.old s v (fun j o hj hoj hd => ?_) hv)
    have hlt := h.slen j hj
    rcases Nat.lt_trichotomy j i with g | g | g
    · exact h1 j o g hoj hd
    · exact hS (g ▸ hj)
    · refine hs (D.hidden i j o s hi hoj (by omega) hd (fun g2 => absurd (D.pre_lt j i hi g2) (by omega)) fun g2 => hS (h.closed j i hj g2))
/-- Blocks that were made ahead of their turn come into the memory that is known, up to an operation. -/
theorem DI.adopt (D : DH P n step ops T hp nxs pre hid) (h : DI n ops T hp nxs pre N μ0 w0 df S a w μ q) (m : Nat) (hqm : q ≤ m) (hm : m ≤ ops.length) (hall : ∀ j, q ≤ j → j < m → (nxs j ≠ nxs (j + 1) → S j) ∧ ∀ o, ops[j]? = some o → kd o.op = .eff → S j) :
    Inv (N.un fun r => ∃ j p, S j ∧ m ≤ j ∧ nxs j ≠ nxs (j + 1) ∧ μ (nxs j) = some p ∧ p.r = r) (cut μ (nxs m)) (hp m) (nxs m) w := by
  induction m with
  | zero => rw [show q = 0 by omega] at h; exact h.inv
  | succ m ih =>
    rcases Nat.lt_or_ge q (m + 1) with g | g
    · have hprev := ih (by omega) (by omega) fun j h1 h2 => hall j h1 (by omega)
      have ho := List.getElem?_eq_getElem (show m < ops.length by omega)
      have hne : kd ops[m].op ≠ .eff := fun e => by
        have := h.qmax m _ ho e ((hall m (by omega) (Nat.lt_succ_self m)).2 _ ho e); omega
      by_cases hc : nxs m = nxs (m + 1)
      · have hsame : hp (m + 1) = hp m := by
          rcases stepT_out (D.stp m _ ho) with ⟨_, _, e, _⟩ | ⟨_, _, v, _, _, ⟨e, _⟩ | ⟨_, _, e, _⟩⟩ | ⟨_, _, e, _⟩ | ⟨_, e, _⟩
          · exact e
          · exact e
          · omega
          · exact e
          · exact absurd e hne
        rw [← hc, hsame]
        exact hprev.less (fun r hr => hr.imp id fun ⟨j, p, h1, h2, h3⟩ => ⟨j, p, h1, by omega, h3⟩) fun r hr => hr.imp id fun ⟨j, p, h1, h2, h3⟩ => ⟨j, p, h1, by omega, h3⟩
      · have hSm : S m := (hall m (by omega) (Nat.lt_succ_self m)).1 hc
        obtain ⟨p, o, bk, e1, e2, e3, e4, e5, e6⟩ := h.blks m hSm (by omega) hc
        rw [e3, e4] at *
        refine hprev.adopt (μ' := cut μ (nxs m + 1)) (fun b hb => by unfold cut; rw [if_pos hb, if_pos (by omega)]) (by unfold cut; rw [if_pos (by omega)]; exact e1) (fun b hb => by unfold cut; rw [if_neg (by omega)]) e2 e5 (.inr ⟨m, p, hSm, Nat.le_refl _, by omega, e1, rfl⟩) (fun r hr => ?_) fun r hr => ?_
        · rcases hr with hr | ⟨j, p', h1, h2, h3, h4, rfl⟩
          · exact ⟨.inl hr, fun e => e6 (e ▸ hr)⟩
          · exact ⟨.inr ⟨j, p', h1, by omega, h3, h4, rfl⟩, h.dist j m p' p h1 hSm (by omega) (by omega) (by omega) h3 (by omega) h4 e1⟩
        · rcases hr with hr | ⟨j, p', h1, h2, h3, h4, rfl⟩
          · exact ⟨.inl hr, fun e => e6 (e ▸ N.sub _ hr)⟩
          · exact ⟨.inr ⟨j, p', h1, by omega, h3, h4, rfl⟩, h.dist j m p' p h1 hSm (by omega) (by omega) (by omega) h3 (by omega) h4 e1⟩
    · rw [show m + 1 = q by omega]; exact h.inv
end
end Go.Xm

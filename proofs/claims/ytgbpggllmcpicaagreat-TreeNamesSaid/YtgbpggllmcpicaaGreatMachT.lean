/- MACHINE X, PART T: regions that draw their order: what is asked of a trace in the text's order, and that every order then comes to the same. -/
import Derived.Test.YtgbpggllmcpicaaGreatMachS
namespace Go.Xm
open Go Go.Cr Go.RowKit

/-! ### Kinds: an operation that needs no memory (it may make a block); one that reads; one that does more -/
inductive Kd where
  | free
  | read
  | eff
noncomputable def kd : Op → Kd
  | .load _ _ => .read
  | .slice _ _ _ _ _ => .read
  | .lookup _ _ _ _ => .read
  | .store _ _ _ => .eff
  | .mapUpdate _ _ _ _ => .eff
  | .mapEntry _ _ _ => .eff
  | .entryStore _ _ _ _ => .eff
  | .range _ _ => .eff
  | .next _ _ => .eff
  | .entry _ => .eff
  | .call c => match c.callee with
    | .builtin .append => .eff
    | .builtin .clear => .eff
    | .builtin .delete => .eff
    | .builtin _ => .read
    | _ => .eff
  | .defer _ => .eff
  | _ => .free
mutual
noncomputable def V.low (m : Nat) : V → Bool
  | .val _ => true
  | .ptr b _ => Nat.blt b m
  | .slice b _ _ _ => Nat.blt b m
  | .agg l => V.lows m l
  | .tup l => V.lows m l
  | .fn _ l k => match V.lows m l with
    | true => V.lows m k
    | false => false
  | .yield b => Nat.blt b m
  | .iface _ v => V.low m v
  | .map b => Nat.blt b m
noncomputable def V.lows (m : Nat) : List V → Bool
  | [] => true
  | v :: l => match V.low m v with
    | true => V.lows m l
    | false => false
end
noncomputable def hide : List Tmp → Tr V → Tr V
  | [], t => t
  | s :: l, t => hide l (t.put s none)
noncomputable def lowE (m : Nat) (ev : Operand → Option V) (x : Operand) : Option V := match ev x with
  | some v => match V.low m v with
    | true => some v
    | false => none
  | none => none
abbrev S3 := Tr V × Tr Bk × Nat
noncomputable def freeT (n : Nat) (dst : Option Tmp) (T : Tr V) (H : Tr Bk) (nx : Nat) : Option Out → Option S3
  | some (some v, H1, nx1) => match putX n T dst (some v) with
    | some T' => match Nat.beq nx1 nx with
      | true => some (T', H, nx)
      | false => match Nat.beq nx1 (nx + 1), H1.get nx with
        | true, some bk => match bk.wr with
          | true => some (T', H.put nx (some bk), nx + 1)
          | false => none
        | _, _ => none
    | none => none
  | _ => none
noncomputable def readT (n : Nat) (dst : Option Tmp) (T : Tr V) (H : Tr Bk) (nx : Nat) : Option Out → Option S3
  | some (some v, _, _) => match V.low nx v, putX n T dst (some v) with
    | true, some T' => some (T', H, nx)
    | _, _ => none
  | _ => none
noncomputable def effT (n : Nat) (dst : Option Tmp) (T : Tr V) (nx : Nat) : Option Out → Option S3
  | some (r, H', nx') => match Nat.ble nx nx', putX n T dst r with
    | true, some T' => some (T', H', nx')
    | _, _ => none
  | none => none
noncomputable def stepT (P : Program) [Tab P] (n : Nat) (step : StepX) (all : List Oper) (hid : List Tmp) (o : Oper) (T : Tr V) (H : Tr Bk) (nx : Nat) : Option S3 := match wantX all (hide hid T) o with
  | some false => some (dropX T o.dst, H, nx)
  | some true => match kd o.op with
    | .free => freeT n o.dst T H nx (opX P (evalX (hide hid T)) .nil nx o)
    | .read => readT n o.dst T H nx (opX P (evalX (hide hid T)) H nx o)
    | .eff => effT n o.dst T nx (step (evalX (hide hid T)) o H nx)
  | none => none

/-! ### What is asked of a trace -/
structure DH (P : Program) [Tab P] (n : Nat) (step : StepX) (ops : List Oper) (T : Nat → Tr V) (hp : Nat → Tr Bk) (nxs : Nat → Nat) (pre : Nat → Nat → Prop) (hid : Nat → List Tmp) : Prop where
  stp : ∀ (i : Nat) (o : Oper), ops[i]? = some o → stepT P n step ops (hid i) o (T i) (hp i) (nxs i) = some (T (i + 1), hp (i + 1), nxs (i + 1))
  pre_lt : ∀ j i, i < ops.length → pre j i → j < i
  pre_of : ∀ (i : Nat) (o : Oper) (e : Edge), ops[i]? = some o → e ∈ o.after → Region.binds .any e = true → pre e.on i
  pre_in : ∀ (i : Nat) (o : Oper) (j : Nat), ops[i]? = some o → pre j i → ∃ e, e ∈ o.after ∧ Region.binds .any e = true ∧ (j = e.on ∨ pre j e.on)
  hidden : ∀ (i j : Nat) (o : Oper) (s : Tmp), i < ops.length → ops[j]? = some o → j ≠ i → o.dst = some s → ¬ pre j i → ¬ pre i j → s ∈ hid i
  effs : ∀ (i : Nat) (o : Oper) (j : Nat) (o' : Oper), ops[i]? = some o → kd o.op = .eff → j < i → ops[j]? = some o' → (kd o'.op = .eff ∨ nxs j ≠ nxs (j + 1)) → pre j i
  dst : ∀ (i j : Nat) (o o' : Oper) (s : Tmp), ops[i]? = some o → ops[j]? = some o' → o.dst = some s → o'.dst = some s → i = j
  reads : ∀ (i : Nat) (o : Oper), ops[i]? = some o → kd o.op = .read → wantX ops (hide (hid i) (T i)) o = some true → ∀ q, (q = 0 ∨ ∃ E o', q = E + 1 ∧ ops[E]? = some o' ∧ kd o'.op = .eff) → (∀ E o', ops[E]? = some o' → kd o'.op = .eff → q ≤ E → ¬ pre E i) →
    (∀ E o', ops[E]? = some o' → kd o'.op = .eff → E < q → ¬ pre i E) → ∀ r, opX P (evalX (hide (hid i) (T i))) (hp i) (nxs i) o = some r → ∃ H' nx', opX P (lowE (nxs q) (evalX (hide (hid i) (T i)))) (hp q) (nxs q) o = some (r.1, H', nx')

/-! ### Small facts -/
def cut (μ : Mu) (m : Nat) : Mu := fun b => if b < m then μ b else none
theorem cut_ext {μ μ' : Mu} {m m' : Nat} (h : m ≤ m') (hx : ∀ b p, b < m → μ b = some p → μ' b = some p) : Ext (cut μ m) (cut μ' m') := fun b p e => by
  unfold cut at e ⊢
  by_cases hb : b < m
  · rw [if_pos hb] at e; rw [if_pos (by omega)]; exact hx b p hb e
  · rw [if_neg hb] at e; cases e
theorem cut_le {μ : Mu} {m m' : Nat} (h : m ≤ m') : Ext (cut μ m) (cut μ m') := cut_ext h fun _ _ _ e => e
theorem hide_get : ∀ (l : List Tmp) (t : Tr V) (s : Nat) (v : V), (hide l t).get s = some v → s ∉ l ∧ t.get s = some v
  | [], t, s, v, h => ⟨by simp, h⟩
  | x :: l, t, s, v, h => by
    obtain ⟨h1, h2⟩ := hide_get l _ s v h
    rw [Tr.get_put] at h2
    by_cases e : s = x
    · rw [if_pos e] at h2; cases h2
    · rw [if_neg e] at h2; exact ⟨by simp [e, h1], h2⟩
mutual
theorem low_rel {μ : Mu} {m : Nat} : ∀ (v : V) (u : Value), v.low m = true → v.rel μ u → v.rel (cut μ m) u
  | .val _, _, _, h => h
  | .ptr b _, _, hl, ⟨p, h1, h2⟩ => ⟨p, by unfold cut; rw [if_pos (Nat.blt_eq.mp hl)]; exact h1, h2⟩
  | .slice b _ _ _, _, hl, ⟨p, a, cp, h1, h2⟩ => ⟨p, a, cp, by unfold cut; rw [if_pos (Nat.blt_eq.mp hl)]; exact h1, h2⟩
  | .agg l, _, hl, ⟨cs, e, h⟩ => ⟨cs, e, lows_rel l cs hl h⟩
  | .tup l, _, hl, ⟨cs, e, h⟩ => ⟨cs, e, lows_rel l cs hl h⟩
  | .fn _ l k, _, hl, ⟨cs, ds, e, h1, h2⟩ => by
    simp only [V.low] at hl
    split at hl
    · rename_i hl1; exact ⟨cs, ds, e, lows_rel l cs hl1 h1, lows_rel k ds hl h2⟩
    · cases hl
  | .yield b, _, hl, ⟨p, h1, h2⟩ => ⟨p, by unfold cut; rw [if_pos (Nat.blt_eq.mp hl)]; exact h1, h2⟩
  | .iface _ v, _, hl, ⟨v', e, h⟩ => ⟨v', e, low_rel v v' hl h⟩
  | .map b, _, hl, ⟨p, h1, h2⟩ => ⟨p, by unfold cut; rw [if_pos (Nat.blt_eq.mp hl)]; exact h1, h2⟩
theorem lows_rel {μ : Mu} {m : Nat} : ∀ (l : List V) (us : List Value), V.lows m l = true → V.rels μ l us → V.rels (cut μ m) l us
  | [], _, _, h => h
  | v :: l, _, hl, ⟨u, r, e, h1, h2⟩ => by
    simp only [V.lows] at hl
    split at hl
    · rename_i hl1; exact ⟨u, r, e, low_rel v u hl1 h1, lows_rel l r hl h2⟩
    · cases hl
end

section
variable {P : Program} {N : Ns} {μ : Mu} {H : Tr Bk} {nx n : Nat} {w : World} {t : Tr V}
theorem Inv.less {N' : Ns} (h : Inv N μ H nx w) (hN : ∀ r, N' r → N r) (hH : ∀ r, N'.hid r → N.hid r) : Inv N' μ H nx w :=
  ⟨fun r hr => h.low r (hN r hr), h.blk, h.sep, fun b bk p hb hm hp hn => h.own b bk p hb hm hp (hN _ hn), fun b bk p hb hp hn => h.hid b bk p hb hp (hH _ hn), h.fresh⟩
theorem Inv.grow {w' : World} (h : Inv N μ H nx w) (hsz : w.heap.size ≤ w'.heap.size) (hb : ∀ r, r < w.heap.size → w'.heap[r]? = w.heap[r]?) : Inv N μ H nx w' :=
  ⟨fun r hr => Nat.lt_of_lt_of_le (h.low r hr) hsz, fun b bk hk => let ⟨p, o, h1, h2, h3⟩ := h.blk b bk hk; ⟨p, o, h1, by rw [hb _ (Array.getElem?_eq_some_iff.1 h2).1]; exact h2, h3⟩, h.sep, h.own, h.hid, h.fresh⟩
theorem Inv.more {N' : Ns} (h : Inv N μ H nx w) (hl : ∀ r, N' r → r < w.heap.size) (hN : ∀ r, N' r → N r ∨ ∀ b bk p, H.get b = some bk → μ b = some p → p.r ≠ r) (hH : ∀ r, N'.hid r → N.hid r ∨ ∀ b bk p, H.get b = some bk → μ b = some p → p.r ≠ r) : Inv N' μ H nx w :=
  ⟨hl, h.blk, h.sep, fun b bk p hb hm hp hn => (hN _ hn).elim (h.own b bk p hb hm hp) fun hh => hh b bk p hb hp rfl, fun b bk p hb hp hn => (hH _ hn).elim (h.hid b bk p hb hp) fun hh => hh b bk p hb hp rfl, h.fresh⟩
theorem Inv.adopt {N' : Ns} {μ' : Mu} (h : Inv N μ H nx w) (hx : ∀ b, b < nx → μ' b = μ b) {p : Pl} {o : Obj} {bk : Bk} (hn : μ' nx = some p) (hf : ∀ b, nx + 1 ≤ b → μ' b = none) (ho : w.heap[p.r]? = some o) (hr : bk.rel μ' p o)
    (hN : N.hid p.r) (hN' : ∀ r, N' r → N r ∧ r ≠ p.r) (hH' : ∀ r, N'.hid r → N.hid r ∧ r ≠ p.r) : Inv N' μ' (H.put nx (some bk)) (nx + 1) w := by
  have hlt : ∀ b q, μ b = some q → b < nx := fun b q e => by
    rcases Nat.lt_or_ge b nx with g | g
    · exact g
    · rw [h.fresh b g] at e; cases e
  have hE : Ext μ μ' := fun b q e => by rw [hx b (hlt b q e)]; exact e
  have get : ∀ b bk', (H.put nx (some bk)).get b = some bk' → (b = nx ∧ bk' = bk) ∨ (b ≠ nx ∧ H.get b = some bk' ∧ μ' b = μ b) := fun b bk' hb => by
    rw [Tr.get_put] at hb
    by_cases e : b = nx
    · rw [if_pos e] at hb; cases hb; exact .inl ⟨e, rfl⟩
    · rw [if_neg e] at hb
      obtain ⟨q, _, h1, _⟩ := h.blk b bk' hb
      exact .inr ⟨e, hb, hx b (hlt b q h1)⟩
  refine ⟨fun r hr => h.low r (hN' r hr).1, fun b bk' hb => ?_, fun b b' bk1 bk2 q q' hbb h1 hm h2 e1 e2 => ?_, fun b bk' q hb hm hq hn' => ?_, fun b bk' q hb hq hn' => ?_, hf⟩
  · rcases get b bk' hb with ⟨rfl, rfl⟩ | ⟨_, h1, _⟩
    · exact ⟨p, o, hn, ho, hr⟩
    · obtain ⟨q, o', g1, g2, g3⟩ := h.blk b bk' h1
      exact ⟨q, o', hE _ _ g1, g2, Bk.rel_ext hE g3⟩
  · rcases get b bk1 h1 with ⟨rfl, rfl⟩ | ⟨_, g1, g2⟩ <;> rcases get b' bk2 h2 with ⟨rfl, rfl⟩ | ⟨_, g3, g4⟩
    · exact absurd rfl hbb
    · rw [hn] at e1; cases e1
      exact fun e => h.hid b' bk2 q' g3 (g4 ▸ e2) (e ▸ hN)
    · rw [hn] at e2; cases e2
      exact fun e => h.hid b bk1 q g1 (g2 ▸ e1) (e ▸ hN)
    · exact h.sep b b' bk1 bk2 q q' hbb g1 hm g3 (g2 ▸ e1) (g4 ▸ e2)
  · rcases get b bk' hb with ⟨rfl, rfl⟩ | ⟨_, g1, g2⟩
    · rw [hn] at hq; cases hq; exact (hN' _ hn').2 rfl
    · exact h.own b bk' q g1 hm (g2 ▸ hq) (hN' _ hn').1
  · rcases get b bk' hb with ⟨rfl, rfl⟩ | ⟨_, g1, g2⟩
    · rw [hn] at hq; cases hq; exact (hH' _ hn').2 rfl
    · exact h.hid b bk' q g1 (g2 ▸ hq) (hH' _ hn').1
theorem put_getD (a : Act) (dst : Option Tmp) (u : Value) (s : Nat) : (a.put dst u).tmps.getD s undef = a.tmps.getD s undef ∨ (dst = some s ∧ s < a.tmps.size ∧ (a.put dst u).tmps.getD s undef = u) := by
  cases dst with
  | none => exact .inl rfl
  | some d =>
    by_cases e : d = s
    · subst e
      by_cases hs : d < a.tmps.size
      · exact .inr ⟨rfl, hs, by simp [Act.put, hs]⟩
      · exact .inl (by simp [Act.put, hs])
    · exact .inl (by simp [Act.put, Array.getElem?_setIfInBounds_ne e])
theorem put_size (a : Act) (dst : Option Tmp) (u : Value) : (a.put dst u).tmps.size = a.tmps.size := by cases dst <;> simp [Act.put]
end
end Go.Xm

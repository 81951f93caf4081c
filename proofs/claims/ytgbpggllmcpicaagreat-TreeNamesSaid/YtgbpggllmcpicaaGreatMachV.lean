/- MACHINE X, PART V: one operation more, whichever it is; all of them. -/
import Derived.Test.YtgbpggllmcpicaaGreatMachU
namespace Go.Xm
open Go Go.Cr Go.RowKit

section
variable {P : Program} [Tab P] {n : Nat} {step : StepX} {ops : List Oper} {T : Nat → Tr V} {hp : Nat → Tr Bk} {nxs : Nat → Nat} {pre : Nat → Nat → Prop} {hid : Nat → List Tmp}
  {N : Ns} {μ0 : Mu} {w0 : World} {df : List Deferred} {S : Nat → Prop} {a : Act} {w : World} {μ : Mu} {q : Nat}
theorem put_same {a : Act} {dst : Option Tmp} {s : Nat} (u : Value) (h : dst = some s) (hs : s < a.tmps.size ∨ u = undef) : (a.put dst u).tmps.getD s undef = u := by
  subst h
  by_cases hh : s < a.tmps.size
  · simp [Act.put, hh]
  · rw [hs.resolve_left hh]; simp [Act.put, hh]
theorem put_other {a : Act} {dst : Option Tmp} {s : Nat} (u : Value) (h : dst ≠ some s) : (a.put dst u).tmps.getD s undef = a.tmps.getD s undef := by
  cases dst with
  | none => rfl
  | some d =>
    have hne : d ≠ s := fun e => h (by rw [e])
    simp [Act.put, Array.getElem?_setIfInBounds_ne hne]

theorem DI.next (D : DH P n step ops T hp nxs pre hid) (h : DI n ops T hp nxs pre N μ0 w0 df S a w μ q) {i : Nat} {o : Oper} (ho : ops[i]? = some o) (hS : ¬ S i) (hpre : ∀ j, pre j i → S j) {μ1 : Mu} {w1 : World} {u : Value} {q1 : Nat}
    (hx : Ext μ μ1) (htop : ∀ b, nxs ops.length ≤ b → μ1 b = none) (hgap : ∀ j, j < ops.length → ¬ S j → j ≠ i → ∀ b, nxs j ≤ b → b < nxs (j + 1) → μ1 b = none)
    (hqe : q1 = 0 ∨ ∃ E o, q1 = E + 1 ∧ ops[E]? = some o ∧ kd o.op = .eff ∧ (S E ∨ E = i)) (hqm : ∀ E o, ops[E]? = some o → kd o.op = .eff → (S E ∨ E = i) → E < q1)
    (hu : ∀ s v, o.dst = some s → (T (i + 1)).get s = some v → (s < n ∨ u = undef) ∧ v.rel (cut μ1 (nxs (i + 1))) u) (hk : Keep N w w1)
    (hi : Inv (N.un fun r => ∃ j p, (S j ∨ j = i) ∧ q1 ≤ j ∧ nxs j ≠ nxs (j + 1) ∧ μ1 (nxs j) = some p ∧ p.r = r) (cut μ1 (nxs q1)) (hp q1) (nxs q1) w1)
    (hb : ∀ j, (S j ∨ j = i) → q1 ≤ j → nxs j ≠ nxs (j + 1) → ∃ p o bk, μ1 (nxs j) = some p ∧ w1.heap[p.r]? = some o ∧ hp (j + 1) = (hp j).put (nxs j) (some bk) ∧ nxs (j + 1) = nxs j + 1 ∧ bk.rel (cut μ1 (nxs (j + 1))) p o ∧ ¬ N p.r)
    (hd : ∀ j j' p p', (S j ∨ j = i) → (S j' ∨ j' = i) → q1 ≤ j → q1 ≤ j' → j ≠ j' → nxs j ≠ nxs (j + 1) → nxs j' ≠ nxs (j' + 1) → μ1 (nxs j) = some p → μ1 (nxs j') = some p' → p.r ≠ p'.r) :
    DI n ops T hp nxs pre N μ0 w0 df (fun j => S j ∨ j = i) (a.put o.dst u) w1 μ1 q1 where
  ext := h.ext.trans hx
  top := htop
  gap := fun j hj hn => hgap j hj (fun e => hn (.inl e)) fun e => hn (.inr e)
  closed := fun k j hk hp => by
    rcases hk with hk | rfl
    · exact .inl (h.closed k j hk hp)
    · exact .inl (hpre j hp)
  slen := fun k hk => by
    rcases hk with hk | rfl
    · exact h.slen k hk
    · exact (List.getElem?_eq_some_iff.1 ho).1
  qeff := hqe
  qmax := hqm
  old := fun s v hs hv => by
    rw [put_other u (hs i o (.inr rfl) ho)]
    exact V.rel_ext (cut_ext (Nat.le_refl _) fun b p _ e => hx b p e) _ _ (h.old s v (fun j o' hj => hs j o' (.inl hj)) hv)
  new := fun j o' s v hj hoj hds hv => by
    by_cases e : j = i
    · subst e
      rw [ho] at hoj; cases hoj
      obtain ⟨h1, h2⟩ := hu s v hds hv
      rw [put_same u hds (by rw [h.size]; exact h1)]
      exact h2
    · have hj' := hj.resolve_right e
      rw [put_other u (fun e2 => e (D.dst j i o' o s hoj ho hds e2))]
      exact V.rel_ext (cut_ext (Nat.le_refl _) fun b p _ e => hx b p e) _ _ (h.new j o' s v hj' hoj hds hv)
  size := by rw [put_size]; exact h.size
  defs := by rw [put_defers]; exact h.defs
  keep := h.keep.trans hk
  inv := hi
  blks := hb
  dist := hd

/-- An operation that makes nothing and moves no memory. -/
theorem DI.still (D : DH P n step ops T hp nxs pre hid) (h : DI n ops T hp nxs pre N μ0 w0 df S a w μ q) {i : Nat} {o : Oper} (ho : ops[i]? = some o) (hS : ¬ S i) (hpre : ∀ j, pre j i → S j) (hnx : nxs (i + 1) = nxs i)  (hke : kd o.op = .eff → i < q)
    {w1 : World} {u : Value} (hu : ∀ s v, o.dst = some s → (T (i + 1)).get s = some v → (s < n ∨ u = undef) ∧ v.rel (cut μ (nxs (i + 1))) u) (hk : Keep (N.un fun r => ∃ j p, S j ∧ q ≤ j ∧ nxs j ≠ nxs (j + 1) ∧ μ (nxs j) = some p ∧ p.r = r) w w1)
    (hi : Inv (N.un fun r => ∃ j p, S j ∧ q ≤ j ∧ nxs j ≠ nxs (j + 1) ∧ μ (nxs j) = some p ∧ p.r = r) (cut μ (nxs q)) (hp q) (nxs q) w1) :
    DI n ops T hp nxs pre N μ0 w0 df (fun j => S j ∨ j = i) (a.put o.dst u) w1 μ q := by
  have old : ∀ j, (S j ∨ j = i) → nxs j ≠ nxs (j + 1) → S j := fun j hj hc => hj.resolve_right fun e => hc (by rw [e, hnx])
  refine h.next D ho hS hpre (Ext.refl μ) h.top (fun j hj hn _ => h.gap j hj hn) (h.qeff.imp id fun ⟨E, o, e, h1, h2, h3⟩ => ⟨E, o, e, h1, h2, .inl h3⟩) (fun E o' hE hkE hs => ?_) hu
    ⟨hk.os, hk.tape, hk.output, hk.size, fun r hr => hk.block r (.inl hr)⟩ (hi.less (fun r hr => hr.imp id fun ⟨j, p, h1, h2, h3, h4⟩ => ⟨j, p, old j h1 h3, h2, h3, h4⟩) fun r hr => hr.imp id fun ⟨j, p, h1, h2, h3, h4⟩ => ⟨j, p, old j h1 h3, h2, h3, h4⟩) (fun j hj hq hc => ?_) (fun j j' p p' h1 h2 h3 h4 h5 h6 h7 => h.dist j j' p p' (old j h1 h6) (old j' h2 h7) h3 h4 h5 h6 h7)
  · rcases hs with hs | rfl
    · exact h.qmax E o' hE hkE hs
    · rw [ho] at hE; cases hE; exact hke hkE
  · obtain ⟨p, o', bk, e1, e2, e3⟩ := h.blks j (old j hj hc) hq hc
    exact ⟨p, o', bk, e1, by rw [hk.block p.r (.inr ⟨j, p, old j hj hc, hq, hc, e1, rfl⟩)]; exact e2, e3⟩
/-- An operation that may write: what was made ahead of its turn is known by then. -/
theorem DI.big (D : DH P n step ops T hp nxs pre hid) (h : DI n ops T hp nxs pre N μ0 w0 df S a w μ q) {i : Nat} {o : Oper} (ho : ops[i]? = some o) (hke : kd o.op = .eff) (hS : ¬ S i) (hpre : ∀ j, pre j i → S j)
    {w1 : World} {u : Value} {μ' : Mu} (hq : q ≤ i)
    (hx : Ext (cut μ (nxs i)) μ') (hi : Inv (N.un fun r => ∃ j p, S j ∧ i ≤ j ∧ nxs j ≠ nxs (j + 1) ∧ μ (nxs j) = some p ∧ p.r = r) μ' (hp (i + 1)) (nxs (i + 1)) w1)
    (hk : Keep (N.un fun r => ∃ j p, S j ∧ i ≤ j ∧ nxs j ≠ nxs (j + 1) ∧ μ (nxs j) = some p ∧ p.r = r) w w1)
    (hu : ∀ s v, o.dst = some s → (T (i + 1)).get s = some v → (s < n ∨ u = undef) ∧ v.rel μ' u) :
    ∃ μ1, DI n ops T hp nxs pre N μ0 w0 df (fun j => S j ∨ j = i) (a.put o.dst u) w1 μ1 (i + 1) := by
  have hlen : i < ops.length := (List.getElem?_eq_some_iff.1 ho).1
  have hm1 := D.mono1 ho
  let μ1 : Mu := fun b => if b < nxs (i + 1) then μ' b else μ b
  have hcut : cut μ1 (nxs (i + 1)) = μ' := by
    funext b
    unfold cut
    by_cases hb : b < nxs (i + 1)
    · rw [if_pos hb]; simp [μ1, hb]
    · rw [if_neg hb]; exact (hi.fresh b (by omega)).symm
  have hge : ∀ b, nxs (i + 1) ≤ b → μ1 b = μ b := fun b hb => by simp only [μ1]; rw [if_neg (by omega)]
  have hxx : Ext μ μ1 := fun b p e => by
    by_cases hb : b < nxs (i + 1)
    · simp only [μ1]; rw [if_pos hb]
      by_cases hb2 : b < nxs i
      · exact hx b p (by unfold cut; rw [if_pos hb2]; exact e)
      · rw [h.gap i hlen hS b (by omega) hb] at e; cases e
    · rw [hge b (by omega)]; exact e
  have hearlier : ∀ j, j < i → (nxs j ≠ nxs (j + 1) ∨ ∃ o', ops[j]? = some o' ∧ kd o'.op = .eff) → S j := fun j hj hc => by
    have hoj := List.getElem?_eq_getElem (show j < ops.length by omega)
    refine hpre j (D.effs i o j _ ho hke hj hoj ?_)
    rcases hc with hc | ⟨o', h1, h2⟩
    · exact .inr hc
    · rw [hoj] at h1; cases h1; exact .inl h2
  have later : ∀ E o', ops[E]? = some o' → kd o'.op = .eff → S E → E < i := fun E o' hE hkE hSE => Nat.lt_of_lt_of_le (h.qmax E o' hE hkE hSE) hq
  refine ⟨μ1, h.next D ho hS hpre hxx (fun b hb => ?_) (fun j hj hn hji b h1 h2 => ?_) (.inr ⟨i, o, rfl, ho, hke, .inr rfl⟩) (fun E o' hE hkE hs => ?_) (fun s v h1 h2 => ?_) ⟨hk.os, hk.tape, hk.output, hk.size, fun r hr => hk.block r (.inl hr)⟩ ?_ (fun j hj hqj hc => ?_)
    (fun j j' p p' h1 h2 h3 h4 h5 h6 h7 e1 e2 => ?_)⟩
  · rw [hge b (Nat.le_trans (D.mono (show i + 1 ≤ ops.length by omega) (Nat.le_refl _)) hb)]; exact h.top b hb
  · rcases Nat.lt_trichotomy j i with g | g | g
    · exact absurd (hearlier j g (.inl (by omega))) hn
    · exact absurd g hji
    · rw [hge b (Nat.le_trans (D.mono (show i + 1 ≤ j by omega) (by omega)) h1)]; exact h.gap j hj hn b h1 h2
  · rcases hs with hs | rfl
    · exact Nat.lt_succ_of_lt (later E o' hE hkE hs)
    · exact Nat.lt_succ_self _
  · rw [hcut]; exact hu s v h1 h2
  · rw [hcut]
    have sub : ∀ r, (∃ j p, (S j ∨ j = i) ∧ i + 1 ≤ j ∧ nxs j ≠ nxs (j + 1) ∧ μ1 (nxs j) = some p ∧ p.r = r) → ∃ j p, S j ∧ i ≤ j ∧ nxs j ≠ nxs (j + 1) ∧ μ (nxs j) = some p ∧ p.r = r := fun r ⟨j, p, h1, h2, h3, h4, h5⟩ => by
      refine ⟨j, p, h1.resolve_right (by omega), by omega, h3, ?_, h5⟩
      rwa [hge _ (D.mono h2 (Nat.le_of_lt (h.slen j (h1.resolve_right (by omega)))))] at h4
    exact hi.less (fun r hr => hr.imp id (sub r)) fun r hr => hr.imp id (sub r)
  · have hj' := hj.resolve_right (by omega)
    have hjl := h.slen j hj'
    obtain ⟨p, o', bk, e1, e2, e3, e4, e5, e6⟩ := h.blks j hj' (by omega) hc
    have g1 := D.mono hqj (Nat.le_of_lt hjl)
    refine ⟨p, o', bk, by rw [hge _ g1]; exact e1, by rw [hk.block p.r (.inr ⟨j, p, hj', by omega, hc, e1, rfl⟩)]; exact e2, e3, e4, Bk.rel_ext (cut_ext (Nat.le_refl _) fun b p _ e => hxx b p e) e5, e6⟩
  · have a1 := h1.resolve_right (by omega)
    have a2 := h2.resolve_right (by omega)
    rw [hge _ (D.mono h3 (Nat.le_of_lt (h.slen j a1)))] at e1
    rw [hge _ (D.mono h4 (Nat.le_of_lt (h.slen j' a2)))] at e2
    exact h.dist j j' p p' a1 a2 (by omega) (by omega) h5 h6 h7 e1 e2
/-- An operation that makes a block, perhaps ahead of its turn. -/
theorem DI.make (D : DH P n step ops T hp nxs pre hid) (h : DI n ops T hp nxs pre N μ0 w0 df S a w μ q) {i : Nat} {o : Oper} (ho : ops[i]? = some o) (hkf : kd o.op = .free) (hS : ¬ S i) (hpre : ∀ j, pre j i → S j)
    {w1 : World} {u : Value} {μ' : Mu} {bk : Bk} {H1 : Tr Bk} (hwr : bk.wr = true) (hhp : hp (i + 1) = (hp i).put (nxs i) (some bk)) (hnx : nxs (i + 1) = nxs i + 1) (hg : H1.get (nxs i) = some bk)
    (hx : ∀ b, b < nxs i → μ' b = cut μ (nxs i) b) (hi : Inv (Ns.all w.heap.size) μ' H1 (nxs i + 1) w1) (hk : Keep (Ns.all w.heap.size) w w1)
    (hu : ∀ s v, o.dst = some s → (T (i + 1)).get s = some v → (s < n ∨ u = undef) ∧ v.rel μ' u) :
    ∃ μ1, DI n ops T hp nxs pre N μ0 w0 df (fun j => S j ∨ j = i) (a.put o.dst u) w1 μ1 q := by
  have hlen : i < ops.length := (List.getElem?_eq_some_iff.1 ho).1
  obtain ⟨p, ob, e1, e2, e3⟩ := hi.blk (nxs i) bk hg
  have hpn : w.heap.size ≤ p.r := Nat.le_of_not_lt (hi.own (nxs i) bk p hg hwr e1)
  have hqi : q ≤ i := by
    rcases h.qeff with e | ⟨E, o', e, h1, h2, h3⟩
    · omega
    · by_cases g : i < E
      · exact absurd (h.closed E i h3 (D.effs E o' i o h1 h2 g ho (.inr (by omega)))) hS
      · have : i ≠ E := fun e' => hS (e' ▸ h3)
        omega
  let μ1 : Mu := fun b => if b = nxs i then some p else μ b
  have hne : ∀ b, b ≠ nxs i → μ1 b = μ b := fun b hb => by simp [μ1, hb]
  have hn : μ1 (nxs i) = some p := by simp [μ1]
  have hxx : Ext μ μ1 := fun b p' e => by
    by_cases hb : b = nxs i
    · subst hb; rw [h.gap i hlen hS (nxs i) (Nat.le_refl _) (by omega)] at e; cases e
    · rw [hne b hb]; exact e
  have hcut : cut μ1 (nxs (i + 1)) = μ' := by
    funext b
    unfold cut
    rcases Nat.lt_trichotomy b (nxs i) with g | g | g
    · rw [if_pos (by omega), hne b (by omega), hx b g]; unfold cut; rw [if_pos g]
    · rw [if_pos (by omega), g, hn, e1]
    · rw [if_neg (by omega)]; exact (hi.fresh b (by omega)).symm
  have hcutq : cut μ1 (nxs q) = cut μ (nxs q) := by
    have := D.mono hqi (Nat.le_of_lt hlen)
    funext b
    unfold cut
    by_cases hb : b < nxs q
    · rw [if_pos hb, if_pos hb, hne b (by omega)]
    · rw [if_neg hb, if_neg hb]
  have hnum : ∀ j, S j → nxs j ≠ nxs (j + 1) → nxs j ≠ nxs i := fun j hj hc e => by
    have hjl := h.slen j hj
    have hji : j ≠ i := fun e' => hS (e' ▸ hj)
    rcases Nat.lt_or_ge j i with g | g
    · have := D.mono (show j + 1 ≤ i by omega) (by omega)
      have := D.mono1 (List.getElem?_eq_getElem hjl)
      omega
    · have := D.mono (show i + 1 ≤ j by omega) (by omega); omega
  have hold : ∀ r, r < w.heap.size → w1.heap[r]? = w.heap[r]? := fun r hr => hk.block r hr
  have hlt1 : p.r < w1.heap.size := (Array.getElem?_eq_some_iff.1 e2).1
  have inold : ∀ j p', S j → q ≤ j → nxs j ≠ nxs (j + 1) → μ (nxs j) = some p' → p'.r < w.heap.size := fun j p' h1 h2 h3 h4 => by
    obtain ⟨p2, o2, _, g1, g2, _⟩ := h.blks j h1 h2 h3
    rw [h4] at g1; cases g1
    exact (Array.getElem?_eq_some_iff.1 g2).1
  refine ⟨μ1, h.next D ho hS hpre hxx (fun b hb => ?_) (fun j hj hnj hji b h1 h2 => ?_) (h.qeff.imp id fun ⟨E, o, e, h1, h2, h3⟩ => ⟨E, o, e, h1, h2, .inl h3⟩) (fun E o' hE hkE hs => ?_) (fun s v h1 h2 => ?_)
    ⟨hk.os, hk.tape, hk.output, hk.size, fun r hr => hk.block r (h.inv.low r (.inl hr))⟩ ?_ (fun j hj hqj hc => ?_) (fun j j' p1 p2 h1 h2 h3 h4 h5 h6 h7 f1 f2 => ?_)⟩
  · have := D.mono (show i + 1 ≤ ops.length by omega) (Nat.le_refl _)
    rw [hne b (by omega)]; exact h.top b hb
  · have hb : b ≠ nxs i := fun e => by
      subst e
      rcases Nat.lt_or_ge j i with g | g
      · have := D.mono (show j + 1 ≤ i by omega) (by omega); omega
      · have := D.mono (show i + 1 ≤ j by omega) (by omega); omega
    rw [hne b hb]; exact h.gap j hj hnj b h1 h2
  · rcases hs with hs | rfl
    · exact h.qmax E o' hE hkE hs
    · rw [ho] at hE; cases hE; rw [hkf] at hkE; cases hkE
  · rw [hcut]; exact hu s v h1 h2
  · rw [hcutq]
    have parts : ∀ r, (∃ j p, (S j ∨ j = i) ∧ q ≤ j ∧ nxs j ≠ nxs (j + 1) ∧ μ1 (nxs j) = some p ∧ p.r = r) → (∃ j p, S j ∧ q ≤ j ∧ nxs j ≠ nxs (j + 1) ∧ μ (nxs j) = some p ∧ p.r = r) ∨ r = p.r := fun r hr => by
      obtain ⟨j, p', h1, h2, h3, h4, rfl⟩ := hr
      rcases h1 with h1 | rfl
      · rw [hne _ (hnum j h1 h3)] at h4
        exact .inl ⟨j, p', h1, h2, h3, h4, rfl⟩
      · rw [hn] at h4; cases h4; exact .inr rfl
    have new : ∀ b bk' pb, (hp q).get b = some bk' → cut μ (nxs q) b = some pb → pb.r ≠ p.r := fun b bk' pb hb hpb e => by
      obtain ⟨p2, o2, g1, g2, _⟩ := h.inv.blk b bk' hb
      rw [hpb] at g1; cases g1
      have := (Array.getElem?_eq_some_iff.1 g2).1
      omega
    refine (h.inv.grow hk.size hold).more (fun r hr => ?_) (fun r hr => ?_) fun r hr => ?_
    · rcases hr with hr | hr
      · exact Nat.lt_of_lt_of_le (h.inv.low r (.inl hr)) hk.size
      · rcases parts r hr with hr | rfl
        · exact Nat.lt_of_lt_of_le (h.inv.low r (.inr hr)) hk.size
        · exact hlt1
    · rcases hr with hr | hr
      · exact .inl (.inl hr)
      · rcases parts r hr with hr | rfl
        · exact .inl (.inr hr)
        · exact .inr new
    · rcases hr with hr | hr
      · exact .inl (.inl hr)
      · rcases parts r hr with hr | rfl
        · exact .inl (.inr hr)
        · exact .inr new
  · rcases hj with hj | rfl
    · obtain ⟨p', o', bk', g1, g2, g3, g4, g5, g6⟩ := h.blks j hj hqj hc
      exact ⟨p', o', bk', by rw [hne _ (hnum j hj hc)]; exact g1, by rw [hold _ (inold j p' hj hqj hc g1)]; exact g2, g3, g4, Bk.rel_ext (cut_ext (Nat.le_refl _) fun b p _ e => hxx b p e) g5, g6⟩
    · exact ⟨p, ob, bk, hn, e2, hhp, hnx, by rw [hcut]; exact e3, fun hN => absurd (h.inv.low p.r (.inl hN)) (by omega)⟩
  · rcases h1 with h1 | rfl
    · rw [hne _ (hnum j h1 h6)] at f1
      have b1 := inold j p1 h1 h3 h6 f1
      rcases h2 with h2 | rfl
      · rw [hne _ (hnum j' h2 h7)] at f2
        exact h.dist j j' p1 p2 h1 h2 h3 h4 h5 h6 h7 f1 f2
      · rw [hn] at f2; cases f2; omega
    · rw [hn] at f1; cases f1
      rcases h2 with h2 | rfl
      · rw [hne _ (hnum j' h2 h7)] at f2
        have b2 := inold j' p2 h2 h4 h7 f2
        omega
      · exact absurd rfl h5
end
end Go.Xm

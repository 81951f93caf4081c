/- MACHINE X, PART A: values with block numbers (V), blocks (Bk), what they stand for in a world (Inv). -/
import Derived.CallsIn
import Derived.OrdersIn
import Derived.RangeFuncIn
import Derived.Test.YtgbpggllmcpicaaGreatCoreL
namespace Go.Xm
open Go Go.Cr

/-! ### A tree of places -/
inductive Tr (α : Type) where
  | nil
  | node (l : Tr α) (v : Option α) (r : Tr α)
noncomputable def Tr.get {α : Type} (t : Tr α) : Nat → Option α :=
  Tr.rec (motive := fun _ => Nat → Option α) (fun _ => none)
    (fun _ v _ gl gr n => match n with
      | 0 => v
      | m + 1 => bif Nat.beq (m % 2) 0 then gl (m / 2) else gr (m / 2)) t
noncomputable def Tr.putF {α : Type} (fuel : Nat) : Tr α → Nat → Option α → Tr α :=
  Nat.rec (motive := fun _ => Tr α → Nat → Option α → Tr α) (fun t _ _ => t)
    (fun _ ih t n v => match t with
      | .nil => match n with
        | 0 => .node .nil v .nil
        | m + 1 => bif Nat.beq (m % 2) 0 then .node (ih .nil (m / 2) v) none .nil else .node .nil none (ih .nil (m / 2) v)
      | .node l x r => match n with
        | 0 => .node l v r
        | m + 1 => bif Nat.beq (m % 2) 0 then .node (ih l (m / 2) v) x r else .node l x (ih r (m / 2) v)) fuel
noncomputable def Tr.put {α : Type} (t : Tr α) (n : Nat) (v : Option α) : Tr α := Tr.putF (n + 1) t n v

section
variable {α : Type}
theorem Tr.get_nil (n : Nat) : (Tr.nil : Tr α).get n = none := rfl
theorem Tr.get_zero (l : Tr α) (v : Option α) (r : Tr α) : (Tr.node l v r).get 0 = v := rfl
theorem Tr.get_succ (l : Tr α) (v : Option α) (r : Tr α) (m : Nat) : (Tr.node l v r).get (m + 1) = bif Nat.beq (m % 2) 0 then l.get (m / 2) else r.get (m / 2) := rfl
theorem Tr.get_putF : ∀ (fuel : Nat) (t : Tr α) (n : Nat) (v : Option α) (i : Nat), n < fuel → (Tr.putF fuel t n v).get i = if i = n then v else t.get i
  | 0, t, n, v, i, h => by omega
  | f + 1, t, n, v, i, h => by
    cases t with
    | nil =>
      cases n with
      | zero => cases i with
        | zero => rfl
        | succ j =>
          show (bif Nat.beq (j % 2) 0 then (Tr.nil : Tr α).get (j / 2) else (Tr.nil : Tr α).get (j / 2)) = _
          simp [Tr.get_nil]
      | succ m =>
        have ih := fun i => Tr.get_putF f (Tr.nil : Tr α) (m / 2) v i (by omega)
        cases hm : Nat.beq (m % 2) 0 with
        | true =>
          have e : Tr.putF (f + 1) (Tr.nil : Tr α) (m + 1) v = .node (Tr.putF f .nil (m / 2) v) none .nil := by
            show (bif Nat.beq (m % 2) 0 then _ else _) = _
            rw [hm]; rfl
          rw [e]
          have hm' := Nat.eq_of_beq_eq_true hm
          cases i with
          | zero => simp [Tr.get_zero, Tr.get_nil]
          | succ j =>
            rw [Tr.get_succ]
            cases hj : Nat.beq (j % 2) 0 with
            | true =>
              have hj' := Nat.eq_of_beq_eq_true hj
              simp only [cond_true, ih, Tr.get_nil]
              by_cases e : j = m
              · subst e; simp
              · rw [if_neg (by omega), if_neg (by omega)]
            | false =>
              have hj' : j % 2 ≠ 0 := fun e => by rw [e] at hj; simp at hj
              simp only [cond_false, Tr.get_nil]
              rw [if_neg (by omega)]
        | false =>
          have e : Tr.putF (f + 1) (Tr.nil : Tr α) (m + 1) v = .node .nil none (Tr.putF f .nil (m / 2) v) := by
            show (bif Nat.beq (m % 2) 0 then _ else _) = _
            rw [hm]; rfl
          rw [e]
          have hm' : m % 2 ≠ 0 := fun e => by rw [e] at hm; simp at hm
          cases i with
          | zero => simp [Tr.get_zero, Tr.get_nil]
          | succ j =>
            rw [Tr.get_succ]
            cases hj : Nat.beq (j % 2) 0 with
            | true =>
              have hj' := Nat.eq_of_beq_eq_true hj
              simp only [cond_true, Tr.get_nil]
              rw [if_neg (by omega)]
            | false =>
              have hj' : j % 2 ≠ 0 := fun e => by rw [e] at hj; simp at hj
              simp only [cond_false, ih, Tr.get_nil]
              by_cases e : j = m
              · subst e; simp
              · rw [if_neg (by omega), if_neg (by omega)]
    | node l x r =>
      cases n with
      | zero => cases i with
        | zero => rfl
        | succ j => simp [show Tr.putF (f + 1) (Tr.node l x r) 0 v = .node l v r from rfl, Tr.get_succ]
      | succ m =>
        have ihl := fun i => Tr.get_putF f l (m / 2) v i (by omega)
        have ihr := fun i => Tr.get_putF f r (m / 2) v i (by omega)
        cases hm : Nat.beq (m % 2) 0 with
        | true =>
          have e : Tr.putF (f + 1) (Tr.node l x r) (m + 1) v = .node (Tr.putF f l (m / 2) v) x r := by
            show (bif Nat.beq (m % 2) 0 then _ else _) = _
            rw [hm]; rfl
          rw [e]
          have hm' := Nat.eq_of_beq_eq_true hm
          cases i with
          | zero => simp [Tr.get_zero]
          | succ j =>
            rw [Tr.get_succ, Tr.get_succ]
            cases hj : Nat.beq (j % 2) 0 with
            | true =>
              have hj' := Nat.eq_of_beq_eq_true hj
              simp only [cond_true, ihl]
              by_cases e : j = m
              · subst e; simp
              · rw [if_neg (by omega), if_neg (by omega)]
            | false =>
              have hj' : j % 2 ≠ 0 := fun e => by rw [e] at hj; simp at hj
              simp only [cond_false]
              rw [if_neg (by omega)]
        | false =>
          have e : Tr.putF (f + 1) (Tr.node l x r) (m + 1) v = .node l x (Tr.putF f r (m / 2) v) := by
            show (bif Nat.beq (m % 2) 0 then _ else _) = _
            rw [hm]; rfl
          rw [e]
          have hm' : m % 2 ≠ 0 := fun e => by rw [e] at hm; simp at hm
          cases i with
          | zero => simp [Tr.get_zero]
          | succ j =>
            rw [Tr.get_succ, Tr.get_succ]
            cases hj : Nat.beq (j % 2) 0 with
            | true =>
              have hj' := Nat.eq_of_beq_eq_true hj
              simp only [cond_true]
              rw [if_neg (by omega)]
            | false =>
              have hj' : j % 2 ≠ 0 := fun e => by rw [e] at hj; simp at hj
              simp only [cond_false, ihr]
              by_cases e : j = m
              · subst e; simp
              · rw [if_neg (by omega), if_neg (by omega)]
theorem Tr.get_put (t : Tr α) (n : Nat) (v : Option α) (i : Nat) : (t.put n v).get i = if i = n then v else t.get i := Tr.get_putF (n + 1) t n v i (Nat.lt_succ_self n)
end

/-! ### Values -/
inductive V where
  | val (v : Value)
  | ptr (b off : Nat)
  | slice (b off len : Nat) (cap : Option Nat)
  | agg (l : List V)
  | tup (l : List V)
  | fn (f : Fn) (first cap : List V)
  | yield (b : Nat)
  | iface (t : TypeId) (v : V)
  | map (b : Nat)
instance : Inhabited V := ⟨.val default⟩

/-- Where a number's block lies: the world's block, from which cell, how many cells from there on, how many an element. -/
structure Pl where
  r : Nat
  o : Nat
  size : Nat
  k : Nat
abbrev Mu := Nat → Option Pl

mutual
def V.rel (μ : Mu) : V → Value → Prop
  | .val v, u => u = v
  | .ptr b off, u => ∃ p, μ b = some p ∧ u = .pointer (some ⟨p.r, p.o + off, none⟩)
  | .slice b off len cap, u => ∃ p a cp, μ b = some p ∧ u = .slice (some a) len cp ∧ len ≤ cp ∧ cp ≤ maxLen ∧ ((a = ⟨p.r, p.o + off, none⟩ ∧ off + cp * p.k ≤ p.size) ∨ (cp = 0 ∧ ∃ o', a = ⟨p.r, o', none⟩)) ∧ (∀ c, cap = some c → cp = c) ∧ (cap = none → off + cp * p.k = p.size)
  | .agg l, u => ∃ cs : List Value, u = .agg cs.toArray ∧ V.rels μ l cs
  | .tup l, u => ∃ cs : List Value, u = .tuple cs.toArray ∧ V.rels μ l cs
  | .fn f l m, u => ∃ cs ds : List Value, u = .func f cs.toArray ds.toArray ∧ V.rels μ l cs ∧ V.rels μ m ds
  | .yield b, u => ∃ p, μ b = some p ∧ u = .func (.yield p.r) #[] #[]
  | .iface t v, u => ∃ v', u = .iface t v' ∧ V.rel μ v v'
  | .map b, u => ∃ p, μ b = some p ∧ u = .map (some p.r)
def V.rels (μ : Mu) : List V → List Value → Prop
  | [], us => us = []
  | v :: l, us => ∃ u r, us = u :: r ∧ V.rel μ v u ∧ V.rels μ l r
end

/-- The second map says all that the first says. -/
def Ext (μ μ' : Mu) : Prop := ∀ b p, μ b = some p → μ' b = some p
/-- .. and the same below a number. -/
def ExtN (m : Nat) (μ μ' : Mu) : Prop := Ext μ μ' ∧ ∀ b, b < m → μ' b = μ b
theorem Ext.refl (μ : Mu) : Ext μ μ := fun _ _ h => h
theorem ExtN.refl {m : Nat} (μ : Mu) : ExtN m μ μ := ⟨fun _ _ h => h, fun _ _ => rfl⟩
theorem Ext.trans {a b c : Mu} (h : Ext a b) (k : Ext b c) : Ext a c := fun _ _ e => k _ _ (h _ _ e)

mutual
theorem V.rel_ext {μ μ' : Mu} (h : Ext μ μ') : ∀ (v : V) (u : Value), v.rel μ u → v.rel μ' u
  | .val _, _, hv => hv
  | .ptr _ _, _, ⟨p, h1, h2⟩ => ⟨p, h _ _ h1, h2⟩
  | .slice _ _ _ _, _, ⟨p, a, cp, h1, h2⟩ => ⟨p, a, cp, h _ _ h1, h2⟩
  | .agg l, _, ⟨cs, e, hl⟩ => ⟨cs, e, V.rels_ext h l cs hl⟩
  | .tup l, _, ⟨cs, e, hl⟩ => ⟨cs, e, V.rels_ext h l cs hl⟩
  | .fn _ l m, _, ⟨cs, ds, e, h1, h2⟩ => ⟨cs, ds, e, V.rels_ext h l cs h1, V.rels_ext h m ds h2⟩
  | .yield _, _, ⟨p, h1, h2⟩ => ⟨p, h _ _ h1, h2⟩
  | .iface _ v, _, ⟨v', e, hv⟩ => ⟨v', e, V.rel_ext h v v' hv⟩
  | .map _, _, ⟨p, h1, h2⟩ => ⟨p, h _ _ h1, h2⟩
theorem V.rels_ext {μ μ' : Mu} (h : Ext μ μ') : ∀ (l : List V) (us : List Value), V.rels μ l us → V.rels μ' l us
  | [], _, hv => hv
  | v :: l, _, ⟨u, r, e, h1, h2⟩ => ⟨u, r, e, V.rel_ext h v u h1, V.rels_ext h l r h2⟩
end

section
variable {μ : Mu}
theorem rels_length : ∀ (l : List V) (us : List Value), V.rels μ l us → us.length = l.length
  | [], us, h => by simp [V.rels] at h; simp [h]
  | _ :: l, _, ⟨_, r, e, _, h⟩ => by subst e; simp [rels_length l r h]
theorem rels_get : ∀ (l : List V) (us : List Value) (i : Nat) (v : V), V.rels μ l us → l[i]? = some v → ∃ u, us[i]? = some u ∧ v.rel μ u
  | [], _, i, v, _, h => by simp at h
  | x :: l, _, 0, v, ⟨u, r, e, h1, _⟩, h => by subst e; simp at h; subst h; exact ⟨u, rfl, h1⟩
  | x :: l, _, i + 1, v, ⟨u, r, e, _, h2⟩, h => by subst e; simpa using rels_get l r i v h2 (by simpa using h)
theorem rels_of : ∀ (l : List V) (us : List Value), us.length = l.length → (∀ (i : Nat) (v : V) (u : Value), l[i]? = some v → us[i]? = some u → v.rel μ u) → V.rels μ l us
  | [], us, h, _ => by show us = []; simpa using h
  | x :: l, [], h, _ => by simp at h
  | x :: l, u :: us, h, hx => ⟨u, us, rfl, hx 0 x u rfl rfl, rels_of l us (by simpa using h) fun i v u h1 h2 => hx (i + 1) v u (by simpa using h1) (by simpa using h2)⟩
theorem rels_append : ∀ (l m : List V) (us vs : List Value), V.rels μ l us → V.rels μ m vs → V.rels μ (l ++ m) (us ++ vs)
  | [], m, us, vs, h, k => by simp [V.rels] at h; subst h; exact k
  | x :: l, m, _, vs, ⟨u, r, e, h1, h2⟩, k => by subst e; exact ⟨u, r ++ vs, rfl, h1, rels_append l m r vs h2 k⟩
theorem rels_take : ∀ (l : List V) (us : List Value) (n : Nat), V.rels μ l us → V.rels μ (l.take n) (us.take n)
  | [], us, n, h => by simp [V.rels] at h; subst h; simp [V.rels]
  | x :: l, _, 0, _ => by simp [V.rels]
  | x :: l, _, n + 1, ⟨u, r, e, h1, h2⟩ => by subst e; exact ⟨u, _, rfl, h1, rels_take l r n h2⟩
theorem rels_drop : ∀ (l : List V) (us : List Value) (n : Nat), V.rels μ l us → V.rels μ (l.drop n) (us.drop n)
  | [], us, n, h => by simp [V.rels] at h; subst h; simp [V.rels]
  | x :: l, _, 0, h => h
  | x :: l, _, n + 1, ⟨u, r, e, h1, h2⟩ => by subst e; exact rels_drop l r n h2
theorem rels_set {l : List V} {us : List Value} {i : Nat} {v : V} {u : Value} (h : V.rels μ l us) (hv : v.rel μ u) : V.rels μ (l.set i v) (us.set i u) := by
  refine rels_of _ _ (by simp [rels_length l us h]) fun j v' u' h1 h2 => ?_
  rw [List.getElem?_set] at h1 h2
  by_cases e : i = j
  · subst e
    simp only [if_true] at h1 h2
    split at h1
    · split at h2
      · cases h1; cases h2; exact hv
      · cases h2
    · cases h1
  · rw [if_neg e] at h1 h2
    obtain ⟨u'', h3, h4⟩ := rels_get l us j v' h h1
    rw [h2] at h3; cases h3; exact h4
theorem rels_replicate {v : V} {u : Value} (n : Nat) (h : v.rel μ u) : V.rels μ (List.replicate n v) (List.replicate n u) :=
  rels_of _ _ (by simp) fun i v' u' h1 h2 => by
    rw [List.getElem?_replicate] at h1 h2
    split at h1
    · rename_i hi; rw [if_pos hi] at h2; cases h1; cases h2; exact h
    · cases h1
end

/-! ### Blocks -/
/-- The record of a range over a function. -/
structure Lp where
  st : LoopState
  pend : Option Code
  t : Tr V
  n : Nat
  params : Array Tmp
  assign : Code
  body : Code
  d : Nat
inductive Bk where
  | row (wr : Bool) (k : Nat) (e : TypeId) (cells : List V)
  | map (c : Nat) (bs : List Nat) (es : List (Value × V))
  | iter (m since : Nat) (seen : List Nat) (last : Nat)
  | loop (l : Lp)
  | defd
def Bk.wr : Bk → Bool
  | .row m _ _ _ => m
  | _ => true

/-- The slots of a frame. -/
structure Slots (μ : Mu) (n : Nat) (t : Tr V) (tmps : Array Value) : Prop where
  size : tmps.size = n
  get : ∀ i v, t.get i = some v → v.rel μ (tmps.getD i undef)
theorem Slots.ext {μ μ' : Mu} {n : Nat} {t : Tr V} {tmps : Array Value} (h : Slots μ n t tmps) (e : Ext μ μ') : Slots μ' n t tmps := ⟨h.size, fun i v hv => V.rel_ext e _ _ (h.get i v hv)⟩

def Bk.rel (μ : Mu) (p : Pl) : Bk → Obj → Prop
  | .row m k e cells, o => ∃ cur e' fz, o = .cells cur e' fz ∧ (m = true → fz = (0, 0) ∧ e' = e ∧ cur.size = p.o + p.size) ∧ p.k = k ∧ cells.length ≤ p.size ∧ V.rels μ cells ((cur.toList.drop p.o).take cells.length)
  | .map c bs es, o => ∃ (l : List MapEntry), o = .map l.toArray c ∧ l.map (·.key) = es.map (·.1) ∧ V.rels μ (es.map (·.2)) (l.map (·.val)) ∧ l.map (·.born) = bs
  | .iter m since seen last, o => p.o = 0 ∧ ∃ q, μ m = some q ∧ o = .mapIter (some q.r) since seen.toArray last
  | .loop l, o => ∃ r : Loop, o = .loop r ∧ r.state = l.st ∧ r.pending = l.pend ∧ Slots μ l.n l.t r.tmps ∧ r.params = l.params ∧ r.assign = l.assign ∧ r.body = l.body ∧ ∃ p, μ l.d = some p ∧ r.defers = p.r
  | .defd, o => o = .deferred (some [])
theorem Bk.rel_ext {μ μ' : Mu} (h : Ext μ μ') {p : Pl} : ∀ {bk : Bk} {o : Obj}, bk.rel μ p o → bk.rel μ' p o
  | .row .., _, ⟨cur, e', fz, h1, h2, h3, h4, h5⟩ => ⟨cur, e', fz, h1, h2, h3, h4, V.rels_ext h _ _ h5⟩
  | .map _ _ _, _, ⟨l, h1, h2, h3, h4⟩ => ⟨l, h1, h2, V.rels_ext h _ _ h3, h4⟩
  | .iter _ _ _ _, _, ⟨h0, p, h1, h2⟩ => ⟨h0, p, h _ _ h1, h2⟩
  | .loop _, _, ⟨r, h1, h2, h3, h5, h6, h7, h8, p, h9, h10⟩ => ⟨r, h1, h2, h3, h5.ext h, h6, h7, h8, p, h _ _ h9, h10⟩
  | .defd, _, h => h

/-- Blocks that stay as they are; those among them that are out of sight. -/
structure Ns where
  stay : Nat → Prop
  hid : Nat → Prop
  sub : ∀ r, hid r → stay r
instance : CoeFun Ns (fun _ => Nat → Prop) := ⟨Ns.stay⟩
def Ns.un (N : Ns) (X : Nat → Prop) : Ns := ⟨fun r => N r ∨ X r, fun r => N.hid r ∨ X r, fun r h => h.imp (N.sub r) id⟩
def Ns.all (n : Nat) : Ns := ⟨fun r => r < n, fun r => r < n, fun _ h => h⟩
/-- What is known of a world. N: blocks that stay as they are. -/
structure Inv (N : Ns) (μ : Mu) (H : Tr Bk) (nx : Nat) (w : World) : Prop where
  low : ∀ r, N r → r < w.heap.size
  blk : ∀ b bk, H.get b = some bk → ∃ p o, μ b = some p ∧ w.heap[p.r]? = some o ∧ bk.rel μ p o
  sep : ∀ b b' bk bk' p p', b ≠ b' → H.get b = some bk → bk.wr = true → H.get b' = some bk' → μ b = some p → μ b' = some p' → p.r ≠ p'.r
  own : ∀ b bk p, H.get b = some bk → bk.wr = true → μ b = some p → ¬ N p.r
  hid : ∀ b bk p, H.get b = some bk → μ b = some p → ¬ N.hid p.r
  fresh : ∀ b, nx ≤ b → μ b = none
structure Keep (N : Ns) (w w' : World) : Prop where
  os : w'.os = w.os
  tape : w'.tape = w.tape
  output : w'.output = w.output
  size : w.heap.size ≤ w'.heap.size
  block : ∀ r, N r → w'.heap[r]? = w.heap[r]?
theorem Keep.refl (N : Ns) (w : World) : Keep N w w := ⟨rfl, rfl, rfl, Nat.le_refl _, fun _ _ => rfl⟩
theorem Keep.trans {N : Ns} {a b c : World} (h : Keep N a b) (k : Keep N b c) : Keep N a c :=
  ⟨k.os.trans h.os, k.tape.trans h.tape, k.output.trans h.output, Nat.le_trans h.size k.size, fun r hr => (k.block r hr).trans (h.block r hr)⟩

section
variable {N : Ns} {μ : Mu} {H : Tr Bk} {nx : Nat} {w : World}
/-- A new block. -/
theorem Inv.alloc (h : Inv N μ H nx w) (bk : Bk) (o : Obj) (size k : Nat) (ho : ∀ μ', Ext μ μ' → μ' nx = some ⟨w.heap.size, 0, size, k⟩ → bk.rel μ' ⟨w.heap.size, 0, size, k⟩ o) :
    ∃ μ', ExtN nx μ μ' ∧ μ' nx = some ⟨w.heap.size, 0, size, k⟩ ∧ Inv N μ' (H.put nx (some bk)) (nx + 1) { w with heap := w.heap.push o } ∧ Keep N w { w with heap := w.heap.push o } := by
  let μ' : Mu := fun b => if b = nx then some ⟨w.heap.size, 0, size, k⟩ else μ b
  have hn : μ' nx = some ⟨w.heap.size, 0, size, k⟩ := by simp [μ']
  have hne : ∀ b, b ≠ nx → μ' b = μ b := fun b hb => by simp [μ', hb]
  have hx : Ext μ μ' := fun b p e => by
    have : b ≠ nx := fun eb => by rw [eb, h.fresh nx (Nat.le_refl _)] at e; cases e
    rw [hne b this]; exact e
  have hlt : ∀ b bk p, H.get b = some bk → μ b = some p → p.r < w.heap.size := fun b bk p hb hp => by
    obtain ⟨p', o', h1, h2, _⟩ := h.blk b bk hb
    rw [hp] at h1; cases h1
    exact (Array.getElem?_eq_some_iff.1 h2).1
  refine ⟨μ', ⟨hx, fun b hb => hne b (Nat.ne_of_lt hb)⟩, hn, ⟨fun r hr => by simpa using Nat.lt_succ_of_lt (h.low r hr), fun b bk' hb => ?_, fun b b' bk1 bk2 p p' hbb h1 hm h2 e1 e2 => ?_, fun b bk' p hb hm hp => ?_, fun b bk' p hb hp => ?_, fun b hb => ?_⟩,
    ⟨rfl, rfl, rfl, by simp, fun r hr => ?_⟩⟩
  · rw [Tr.get_put] at hb
    by_cases e : b = nx
    · rw [if_pos e] at hb; cases hb; subst e
      exact ⟨_, o, hn, by simp, ho μ' hx hn⟩
    · rw [if_neg e] at hb
      obtain ⟨p, o', h1, h2, h3⟩ := h.blk b bk' hb
      exact ⟨p, o', hx _ _ h1, by
        have := (Array.getElem?_eq_some_iff.1 h2).1
        show (w.heap.push o)[p.r]? = _
        rw [Array.getElem?_push_lt this, ← h2, Array.getElem?_eq_getElem this], Bk.rel_ext hx h3⟩
  · rw [Tr.get_put] at h1 h2
    by_cases eb : b = nx
    · subst eb
      rw [if_neg (fun e => hbb e.symm)] at h2
      rw [hn] at e1; cases e1
      rw [hne b' (fun e => hbb e.symm)] at e2
      exact fun e => absurd (hlt b' bk2 p' h2 e2) (by simp only at e; omega)
    · rw [if_neg eb] at h1
      rw [hne b eb] at e1
      by_cases eb' : b' = nx
      · subst eb'
        rw [hn] at e2; cases e2
        exact fun e => absurd (hlt b bk1 p h1 e1) (by simp only at e; omega)
      · rw [if_neg eb'] at h2
        rw [hne b' eb'] at e2
        exact h.sep b b' bk1 bk2 p p' hbb h1 hm h2 e1 e2
  · rw [Tr.get_put] at hb
    by_cases e : b = nx
    · subst e; rw [hn] at hp; cases hp
      exact fun hN => absurd (h.low _ hN) (by simp)
    · rw [if_neg e] at hb; rw [hne b e] at hp
      exact h.own b bk' p hb hm hp
  · rw [Tr.get_put] at hb
    by_cases e : b = nx
    · subst e; rw [hn] at hp; cases hp
      exact fun hN => absurd (h.low _ (N.sub _ hN)) (by simp)
    · rw [if_neg e] at hb; rw [hne b e] at hp
      exact h.hid b bk' p hb hp
  · rw [hne b (by omega)]; exact h.fresh b (by omega)
  · have := h.low r hr
    show (w.heap.push o)[r]? = _
    rw [Array.getElem?_push_lt this, Array.getElem?_eq_getElem this]
/-- A block that is written. -/
theorem Inv.write (h : Inv N μ H nx w) {b : Nat} {bk bk' : Bk} {p : Pl} {o : Obj} {w' : World} (hb : H.get b = some bk) (hm : bk.wr = true) (hp : μ b = some p) (ho : bk'.rel μ p o)
    (hw : w'.heap[p.r]? = some o) (hoth : ∀ r, r ≠ p.r → w'.heap[r]? = w.heap[r]?) (hsz : w'.heap.size = w.heap.size) (h1 : w'.os = w.os) (h2 : w'.tape = w.tape) (h3 : w'.output = w.output) :
    Inv N μ (H.put b (some bk')) nx w' ∧ Keep N w w' := by
  have hnN := h.own b bk p hb hm hp
  have hnH := h.hid b bk p hb hp
  refine ⟨⟨fun r hr => by rw [hsz]; exact h.low r hr, fun c ck hc => ?_, fun c c' ck ck' q q' hcc e1 hm1 e2 f1 f2 => ?_, fun c ck q hc hm1 hq => ?_, fun c ck q hc hq => ?_, h.fresh⟩, ⟨h1, h2, h3, by omega, fun r hr => hoth r fun e => hnN (e ▸ hr)⟩⟩
  · rw [Tr.get_put] at hc
    by_cases e : c = b
    · subst e; rw [if_pos rfl] at hc; cases hc; exact ⟨p, o, hp, hw, ho⟩
    · rw [if_neg e] at hc
      obtain ⟨q, o', g1, g2, g3⟩ := h.blk c ck hc
      exact ⟨q, o', g1, by rw [hoth q.r (fun er => h.sep b c bk ck p q (Ne.symm e) hb hm hc hp g1 er.symm)]; exact g2, g3⟩
  · rw [Tr.get_put] at e1 e2
    by_cases eb : c = b
    · subst eb
      rw [if_neg (fun e => hcc e.symm)] at e2
      exact h.sep c c' bk ck' q q' hcc hb hm e2 f1 f2
    · rw [if_neg eb] at e1
      by_cases eb' : c' = b
      · subst eb'; exact h.sep c c' ck bk q q' hcc e1 hm1 hb f1 f2
      · rw [if_neg eb'] at e2; exact h.sep c c' ck ck' q q' hcc e1 hm1 e2 f1 f2
  · rw [Tr.get_put] at hc
    by_cases e : c = b
    · subst e; rw [hp] at hq; cases hq; exact hnN
    · rw [if_neg e] at hc; exact h.own c ck q hc hm1 hq
  · rw [Tr.get_put] at hc
    by_cases e : c = b
    · subst e; rw [hp] at hq; cases hq; exact hnH
    · rw [if_neg e] at hc; exact h.hid c ck q hc hq
/-- A number forgotten. -/
theorem Inv.drop (h : Inv N μ H nx w) (b : Nat) : Inv N μ (H.put b none) nx w := by
  have key : ∀ c ck, (H.put b none).get c = some ck → H.get c = some ck := fun c ck hc => by
    rw [Tr.get_put] at hc
    by_cases e : c = b
    · rw [if_pos e] at hc; cases hc
    · rwa [if_neg e] at hc
  exact ⟨h.low, fun c ck hc => h.blk c ck (key c ck hc), fun c c' ck ck' q q' hcc e1 hm e2 => h.sep c c' ck ck' q q' hcc (key _ _ e1) hm (key _ _ e2), fun c ck q hc => h.own c ck q (key _ _ hc), fun c ck q hc => h.hid c ck q (key _ _ hc), h.fresh⟩
end
end Go.Xm

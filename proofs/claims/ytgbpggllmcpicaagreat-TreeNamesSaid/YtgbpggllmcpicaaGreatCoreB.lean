/- THE OWN LAYER, PART B: how the relation is carried on; the judgements for code and for operations. -/
import Derived.Test.YtgbpggllmcpicaaGreatCoreA
namespace Go.Cr
open Go Go.RowKit

/-- Whatever τ knows σ knows. -/
structure Has (σ τ : Sg) : Prop where
  get : ∀ s d, τ.get s = some d → σ.get s = some d
  blk : ∀ b k, τ.blk b = some k → σ.blk b = some k
theorem Has.refl (σ : Sg) : Has σ σ := ⟨fun _ _ h => h, fun _ _ h => h⟩
theorem Has.trans {σ τ υ : Sg} (h : Has σ τ) (h' : Has τ υ) : Has σ υ := ⟨fun s d e => h.get s d (h'.get s d e), fun b k e => h.blk b k (h'.blk b k e)⟩
theorem Has.nil (σ : Sg) : Has σ .nil := ⟨fun s d h => (by simp [Sg.get] at h), fun b k h => (by simp [Sg.blk] at h)⟩
theorem nbeq {a b : Nat} (h : Nat.beq a b = true) : a = b := Nat.eq_of_beq_eq_true h
theorem nbne {a b : Nat} (h : Nat.beq a b = false) : a ≠ b := Nat.ne_of_beq_eq_false h
theorem nb_self (a : Nat) : Nat.beq a a = true := Nat.beq_refl a
theorem nb_ne {a b : Nat} (h : a ≠ b) : Nat.beq a b = false := by
  cases hb : Nat.beq a b with
  | false => rfl
  | true => exact absurd (nbeq hb) h
theorem Has.set {σ τ : Sg} {s : Nat} {d : D} (hs : σ.get s = some d) (h : Has σ τ) : Has σ (.set s d τ) := by
  refine ⟨fun t e ht => ?_, fun b k hb => h.blk b k hb⟩
  simp only [Sg.get] at ht
  cases hb : Nat.beq t s with
  | true => rw [hb] at ht; simp at ht; subst ht; rw [nbeq hb]; exact hs
  | false => rw [hb] at ht; exact h.get t e ht
theorem Has.hset {σ τ : Sg} {b : Nat} {k : Blk} (hs : σ.blk b = some k) (h : Has σ τ) : Has σ (.hset b k τ) := by
  refine ⟨fun t e ht => h.get t e ht, fun t e ht => ?_⟩
  simp only [Sg.blk] at ht
  cases hb : Nat.beq t b with
  | true => rw [hb] at ht; simp at ht; subst ht; rw [nbeq hb]; exact hs
  | false => rw [hb] at ht; exact h.blk t e ht

theorem heap_cell {w w' : World} {b : Nat} (h : w'.heap[b]? = w.heap[b]?) (off : Nat) : w'.cell? ⟨b, off, none⟩ = w.cell? ⟨b, off, none⟩ := by
  simp [World.cell?, h]

section
variable {n : Nat} {c : Cx n} {σ : Sg} {ρ : Nat → R} {a : Act} {w : World}

theorem Blk.rel_mono {ok ok' : Nat → Prop} {w w' : World} {hb hb' : Nat → Option Blk} {ρ ρ' : Nat → R} {b : Nat} (h : Keeps ok w ok' w')
    (good : Nat → Prop)
    (h1 : ∀ b k e l, good b → hb' b = some (.row k e l) → ∃ l', hb b = some (.row k e l') ∧ l'.length = l.length ∧ ρ' b = ρ b)
    (h2 : ∀ b cs e, good b → hb' b = some (.obj cs e) → ∃ cs' e', hb b = some (.obj cs' e') ∧ ρ' b = ρ b)
    (h3 : ∀ b es, good b → hb' b = some (.map es) → ∃ es', hb b = some (.map es') ∧ ρ' b = ρ b)
    (hρ : ρ' b = ρ b) (hsame : ∀ r cap, ρ b = .blk r cap → w'.heap[r]? = w.heap[r]?)
    (K : Blk) (hg : ∀ cs e, K = .obj cs e → ∀ b, D.frees b cs = false → good b) (hK : K.rel ok w hb ρ b) : K.rel ok' w' hb' ρ' b := by
  cases K with
  | row k e l =>
    simp only [Blk.rel, hρ] at hK ⊢
    cases hr : ρ b with
    | nil => rw [hr] at hK; exact hK
    | blk r cap =>
      rw [hr] at hK
      obtain ⟨cur, e1, e2, e3, e4, e5⟩ := hK
      have hh := hsame r cap hr
      exact ⟨cur, hh.trans e1, e2, e3, e4, I.denRow_mono h l r 0 k (heap_cell hh) e5⟩
  | obj cs e =>
    obtain ⟨r, cap, cur, e1, e2, e3⟩ := hK
    exact ⟨r, cap, cur, hρ.trans e1, (hsame r cap e1).trans e2, D.rels_mono h good h1 h2 h3 cs _ (hg cs e rfl) e3⟩
  | map es =>
    obtain ⟨r, cap, e1, l, clock, e2, e3, e4⟩ := hK
    exact ⟨r, cap, hρ.trans e1, l, clock, (hsame r cap e1).trans e2, e3, I.dens_mono h _ _ e4⟩

theorem RelR.weaken {τ : Sg} (h : RelR c σ ρ a w) (hs : Has σ τ) : RelR c τ ρ a w := by
  have hk : Keeps (okB c σ.blk ρ w) w (okB c τ.blk ρ w) w := fun b ⟨h1, h2, h3⟩ => ⟨⟨h1, h2, fun k x r cap hx hr => h3 k x r cap (hs.blk k x hx) hr⟩, fun _ => rfl⟩
  have g1 : ∀ b k e l, True → τ.blk b = some (.row k e l) → ∃ l', σ.blk b = some (.row k e l') ∧ l'.length = l.length ∧ ρ b = ρ b := fun b k e l _ hb => ⟨l, hs.blk _ _ hb, rfl, rfl⟩
  have g2 : ∀ b cs e, True → τ.blk b = some (.obj cs e) → ∃ cs' e', σ.blk b = some (.obj cs' e') ∧ ρ b = ρ b := fun b cs e _ hb => ⟨cs, e, hs.blk _ _ hb, rfl⟩
  have g3 : ∀ b es, True → τ.blk b = some (.map es) → ∃ es', σ.blk b = some (.map es') ∧ ρ b = ρ b := fun b es _ hb => ⟨es, hs.blk _ _ hb, rfl⟩
  exact
  { inj := fun b b' k k' r cap r' cap' hne hb hb' => h.inj b b' k k' r cap r' cap' hne (hs.blk _ _ hb) (hs.blk _ _ hb')
    live := fun b k r cap hb => h.live b k r cap (hs.blk _ _ hb)
    blk := fun b k hb => Blk.rel_mono hk (fun _ => True) g1 g2 g3 rfl (fun _ _ _ => rfl) k (fun _ _ _ _ _ => trivial) (h.blk b k (hs.blk _ _ hb))
    slot := fun s d hd => D.rel_mono hk (fun _ => True) g1 g2 g3 d _ (fun _ _ => trivial) (h.slot s d (hs.get _ _ hd))
    defs := h.defs
    size := h.size
    kept := h.kept }

theorem Rel.weaken {τ : Sg} (h : Rel c σ a w) (hs : Has σ τ) : Rel c τ a w := h.elim fun ρ h => ⟨ρ, h.weaken hs⟩

theorem RelR.put {s : Nat} {d : D} {v : Value} (h : RelR c σ ρ a w) (hs : s < n) (hv : d.rel (okB c σ.blk ρ w) w σ.blk ρ v) : RelR c (.set s d σ) ρ (a.put (some s) v) w :=
  { inj := h.inj
    live := h.live
    blk := h.blk
    slot := fun t e ht => by
      simp only [Sg.get] at ht
      simp only [Act.put]
      cases hb : Nat.beq t s with
      | true =>
        rw [hb] at ht; simp at ht; subst ht
        have hts : t = s := nbeq hb
        subst hts
        have hlt : t < a.tmps.size := by rw [h.size]; exact hs
        simp [Array.getElem?_setIfInBounds, hlt]
        exact hv
      | false =>
        rw [hb] at ht
        have hts : t ≠ s := nbne hb
        have hx := h.slot t e ht
        have hy : e.rel (okB c σ.blk ρ w) w σ.blk ρ ((a.tmps.setIfInBounds s v).getD t undef) := by
          simpa [Array.getElem?_setIfInBounds, Ne.symm hts] using hx
        exact hy
    defs := h.defs
    size := by simp [Act.put, h.size]
    kept := h.kept }

/-- A slot that is left unknown. -/
theorem RelR.put_none {v : Value} (h : RelR c σ ρ a w) : RelR c σ ρ (a.put none v) w := h

theorem RelR.world {w' : World} (h : RelR c σ ρ a w) (hh : w'.heap = w.heap) (h1 : w'.os = w.os) (h2 : w'.tape = w.tape) (h3 : w'.output = w.output) : RelR c σ ρ a w' := by
  have hcell : ∀ b off, w'.cell? ⟨b, off, none⟩ = w.cell? ⟨b, off, none⟩ := fun b off => by simp [World.cell?, hh]
  have hk : Keeps (okB c σ.blk ρ w) w (okB c σ.blk ρ w') w' := fun b ⟨g1, g2, g3⟩ => ⟨⟨by rw [hh]; exact g1, g2, g3⟩, hcell b⟩
  have g1 : ∀ b k e l, True → σ.blk b = some (.row k e l) → ∃ l', σ.blk b = some (.row k e l') ∧ l'.length = l.length ∧ ρ b = ρ b := fun b k e l _ hb => ⟨l, hb, rfl, rfl⟩
  have g2 : ∀ b cs e, True → σ.blk b = some (.obj cs e) → ∃ cs' e', σ.blk b = some (.obj cs' e') ∧ ρ b = ρ b := fun b cs e _ hb => ⟨cs, e, hb, rfl⟩
  have g3 : ∀ b es, True → σ.blk b = some (.map es) → ∃ es', σ.blk b = some (.map es') ∧ ρ b = ρ b := fun b es _ hb => ⟨es, hb, rfl⟩
  exact
  { inj := h.inj
    live := fun b k r cap hb hr => by rw [hh]; exact h.live b k r cap hb hr
    blk := fun b k hb => Blk.rel_mono hk (fun _ => True) g1 g2 g3 rfl (fun _ _ _ => by rw [hh]) k (fun _ _ _ _ _ => trivial) (h.blk b k hb)
    slot := fun s d hd => D.rel_mono hk (fun _ => True) g1 g2 g3 d _ (fun _ _ => trivial) (h.slot s d hd)
    defs := h.defs
    size := h.size
    kept := ⟨h1.trans h.kept.os, h2.trans h.kept.tape, h3.trans h.kept.output, by rw [hh]; exact h.kept.size, fun k hk hp => by rw [hh]; exact h.kept.block k hk hp⟩ }

theorem wipe_free {b : Nat} {d : D} (h : d.free b = true) : d.wipe b = d := by simp [D.wipe, h]
theorem rels_wipe {ok : Nat → Prop} {hb : Nat → Option Blk} (b : Nat) (l : List D) (vs : List Value) (h : D.rels ok w hb ρ l vs) : D.rels ok w hb ρ (l.map (D.wipe b)) vs := by
  refine D.rels_of _ _ (by simpa using D.rels_length l vs h) fun i x v hx hv => ?_
  simp only [List.getElem?_map, Option.map_eq_some_iff] at hx
  obtain ⟨y, hy, rfl⟩ := hx
  obtain ⟨v', e, hr⟩ := D.rels_get l vs i y h hy
  rw [hv] at e; cases e
  unfold D.wipe
  split
  · exact hr
  · trivial
mutual
theorem free_wipe (b : Nat) (d : D) : (d.wipe b).free b = true := by
  unfold D.wipe
  split
  · assumption
  · rfl
theorem frees_wipe (b : Nat) : ∀ l : List D, D.frees b (l.map (D.wipe b)) = true
  | [] => rfl
  | x :: l => by simp [D.frees, free_wipe b x, frees_wipe b l]
end

/-- A key is struck. -/
theorem RelR.kill (h : RelR c σ ρ a w) (b : Nat) : RelR c (.kill b σ) ρ a w := by
  have hblk : ∀ t k, (Sg.kill b σ).blk t = some k → t ≠ b ∧ ∃ k', σ.blk t = some k' ∧ k = k'.wipe b := fun t k ht => by
    simp only [Sg.blk] at ht
    cases hb : Nat.beq t b with
    | true => rw [hb] at ht; simp at ht
    | false =>
      rw [hb] at ht
      simp only [cond_false, Option.map_eq_some_iff] at ht
      obtain ⟨k', h1, h2⟩ := ht
      exact ⟨nbne hb, k', h1, h2.symm⟩
  have hk : Keeps (okB c σ.blk ρ w) w (okB c (Sg.kill b σ).blk ρ w) w := fun b0 ⟨h1, h2, h3⟩ =>
    ⟨⟨h1, h2, fun k x r cap hx hr => let ⟨_, k', hk', _⟩ := hblk k x hx; h3 k k' r cap hk' hr⟩, fun _ => rfl⟩
  have g1 : ∀ t k e l, t ≠ b → (Sg.kill b σ).blk t = some (.row k e l) → ∃ l', σ.blk t = some (.row k e l') ∧ l'.length = l.length ∧ ρ t = ρ t := fun t k e l _ ht => by
    obtain ⟨_, k', hk', he⟩ := hblk t _ ht
    cases k' <;> simp [Blk.wipe] at he
    obtain ⟨rfl, rfl, rfl⟩ := he
    exact ⟨_, hk', rfl, rfl⟩
  have g2 : ∀ t cs e, t ≠ b → (Sg.kill b σ).blk t = some (.obj cs e) → ∃ cs' e', σ.blk t = some (.obj cs' e') ∧ ρ t = ρ t := fun t cs e _ ht => by
    obtain ⟨_, k', hk', he⟩ := hblk t _ ht
    cases k' <;> simp [Blk.wipe] at he
    exact ⟨_, _, hk', rfl⟩
  have g3 : ∀ t es, t ≠ b → (Sg.kill b σ).blk t = some (.map es) → ∃ es', σ.blk t = some (.map es') ∧ ρ t = ρ t := fun t es _ ht => by
    obtain ⟨_, k', hk', he⟩ := hblk t _ ht
    cases k' <;> simp [Blk.wipe] at he
    exact ⟨_, hk', rfl⟩
  have hfree : ∀ (d : D) (v : Value), d.rel (okB c σ.blk ρ w) w σ.blk ρ v → (d.wipe b).rel (okB c (Sg.kill b σ).blk ρ w) w (Sg.kill b σ).blk ρ v := fun d v hv => by
    refine D.rel_mono hk (fun t => t ≠ b) g1 g2 g3 (d.wipe b) v (fun t ht e => ?_) ?_
    · subst e; rw [free_wipe] at ht; exact absurd ht (by simp)
    · unfold D.wipe; split
      · exact hv
      · trivial
  exact
  { inj := fun t t' k k' r cap r' cap' hne ht ht' => by
      obtain ⟨_, x, hx, _⟩ := hblk t k ht
      obtain ⟨_, x', hx', _⟩ := hblk t' k' ht'
      exact h.inj t t' x x' r cap r' cap' hne hx hx'
    live := fun t k r cap ht => let ⟨_, x, hx, _⟩ := hblk t k ht; h.live t x r cap hx
    blk := fun t k ht => by
      obtain ⟨hne, x, hx, e⟩ := hblk t k ht
      have hK := h.blk t x hx
      have hK' : k.rel (okB c σ.blk ρ w) w σ.blk ρ t := by
        subst e
        cases x with
        | row => exact hK
        | obj cs e => obtain ⟨r, cap, cur, e1, e2, e3⟩ := hK; exact ⟨r, cap, cur, e1, e2, rels_wipe b cs _ e3⟩
        | map => exact hK
      refine Blk.rel_mono hk (fun t => t ≠ b) g1 g2 g3 rfl (fun _ _ _ => rfl) k (fun cs e' hcs t' ht' e2 => ?_) hK'
      subst e2
      rw [e] at hcs
      cases x <;> simp [Blk.wipe] at hcs
      rw [← hcs.1, frees_wipe] at ht'
      exact absurd ht' (by simp)
    slot := fun s d hd => by
      simp only [Sg.get, Option.map_eq_some_iff] at hd
      obtain ⟨d', h1, rfl⟩ := hd
      exact hfree d' _ (h.slot s d' h1)
    defs := h.defs
    size := h.size
    kept := h.kept }

def upd (ρ : Nat → R) (b : Nat) (x : R) : Nat → R := fun t => if t = b then x else ρ t
theorem upd_same (ρ : Nat → R) (b : Nat) (x : R) : upd ρ b x b = x := by simp [upd]
theorem upd_other (ρ : Nat → R) {b t : Nat} (x : R) (h : t ≠ b) : upd ρ b x t = ρ t := by simp [upd, h]

theorem blk_hset_kill {b t : Nat} {K k : Blk} (h : (Sg.hset b K (.kill b σ)).blk t = some k) : (t = b ∧ k = K) ∨ (t ≠ b ∧ (Sg.kill b σ).blk t = some k ∧ ∃ x, σ.blk t = some x) := by
  simp only [Sg.blk] at h ⊢
  cases hb : Nat.beq t b with
  | true => rw [hb] at h; simp at h; exact .inl ⟨nbeq hb, h.symm⟩
  | false =>
    rw [hb] at h
    simp only [cond_false, Option.map_eq_some_iff] at h ⊢
    obtain ⟨x, h1, h2⟩ := h
    exact .inr ⟨nbne hb, ⟨x, h1, h2⟩, x, h1⟩

/-- THE ok BLOCKS STAY ok where a key is laid anew. -/
theorem keeps_renew (h : RelR c σ ρ a w) (b : Nat) (K : Blk) (x : R) (w' : World) (hsz : w.heap.size ≤ w'.heap.size)
    (hkeep : ∀ r, r < w.heap.size → (∀ k cap, σ.blk b = some k → ρ b ≠ .blk r cap) → w'.heap[r]? = w.heap[r]?)
    (hR : ∀ r cap, x = .blk r cap → r < w'.heap.size ∧ (w.heap.size ≤ r ∨ ∃ k cap', σ.blk b = some k ∧ ρ b = .blk r cap')) :
    Keeps (okB c σ.blk ρ w) w (okB c (Sg.hset b K (.kill b σ)).blk (upd ρ b x) w') w' := fun b0 ⟨h1, h2, h3⟩ => by
  refine ⟨⟨Nat.lt_of_lt_of_le h1 hsz, h2, fun t k r cap hk hr => ?_⟩, heap_cell (hkeep b0 h1 fun k cap hk hr => h3 b k b0 cap hk hr rfl)⟩
  rcases blk_hset_kill hk with ⟨rfl, rfl⟩ | ⟨hne, _, y, hy⟩
  · rw [upd_same] at hr
    rcases (hR r cap hr).2 with h4 | ⟨k', cap', h4, h5⟩
    · omega
    · exact h3 t k' r cap' h4 h5
  · rw [upd_other _ _ hne] at hr
    exact h3 t y r cap hy hr

/-- A KEY IS LAID ANEW: new memory, or what an append has made of the old. -/
theorem RelR.renew (h : RelR c σ ρ a w) (b : Nat) (K : Blk) (x : R) (w' : World)
    (hos : w'.os = w.os) (htape : w'.tape = w.tape) (hout : w'.output = w.output) (hsz : w.heap.size ≤ w'.heap.size)
    (hkeep : ∀ r, r < w.heap.size → (∀ k cap, σ.blk b = some k → ρ b ≠ .blk r cap) → w'.heap[r]? = w.heap[r]?)
    (hR : ∀ r cap, x = .blk r cap → r < w'.heap.size ∧ (w.heap.size ≤ r ∨ ∃ k cap', σ.blk b = some k ∧ ρ b = .blk r cap'))
    (hK : K.rel (okB c (Sg.hset b K (.kill b σ)).blk (upd ρ b x) w') w' (Sg.hset b K (.kill b σ)).blk (upd ρ b x) b) :
    RelR c (.hset b K (.kill b σ)) (upd ρ b x) a w' := by
  have hk' := keeps_renew h b K x w' hsz hkeep hR
  have hkl := h.kill b
  have hk : Keeps (okB c (Sg.kill b σ).blk ρ w) w (okB c (Sg.hset b K (.kill b σ)).blk (upd ρ b x) w') w' → True := fun _ => trivial
  have g1 : ∀ t k e l, t ≠ b → (Sg.hset b K (.kill b σ)).blk t = some (.row k e l) → ∃ l', σ.blk t = some (.row k e l') ∧ l'.length = l.length ∧ upd ρ b x t = ρ t := fun t k e l hne ht => by
    rcases blk_hset_kill ht with ⟨rfl, _⟩ | ⟨_, h1, _⟩
    · exact absurd rfl hne
    · simp only [Sg.blk, nb_ne hne, cond_false, Option.map_eq_some_iff] at h1
      obtain ⟨k', h2, h3⟩ := h1
      cases k' <;> simp [Blk.wipe] at h3
      obtain ⟨rfl, rfl, rfl⟩ := h3
      exact ⟨_, h2, rfl, upd_other _ _ hne⟩
  have g2 : ∀ t cs e, t ≠ b → (Sg.hset b K (.kill b σ)).blk t = some (.obj cs e) → ∃ cs' e', σ.blk t = some (.obj cs' e') ∧ upd ρ b x t = ρ t := fun t cs e hne ht => by
    rcases blk_hset_kill ht with ⟨rfl, _⟩ | ⟨_, h1, _⟩
    · exact absurd rfl hne
    · simp only [Sg.blk, nb_ne hne, cond_false, Option.map_eq_some_iff] at h1
      obtain ⟨k', h2, h3⟩ := h1
      cases k' <;> simp [Blk.wipe] at h3
      exact ⟨_, _, h2, upd_other _ _ hne⟩
  have g3 : ∀ t es, t ≠ b → (Sg.hset b K (.kill b σ)).blk t = some (.map es) → ∃ es', σ.blk t = some (.map es') ∧ upd ρ b x t = ρ t := fun t es hne ht => by
    rcases blk_hset_kill ht with ⟨rfl, _⟩ | ⟨_, h1, _⟩
    · exact absurd rfl hne
    · simp only [Sg.blk, nb_ne hne, cond_false, Option.map_eq_some_iff] at h1
      obtain ⟨k', h2, h3⟩ := h1
      cases k' <;> simp [Blk.wipe] at h3
      exact ⟨_, h2, upd_other _ _ hne⟩
  exact
  { inj := fun t t' k k' r cap r' cap' hne ht ht' hr hr' => by
      rcases blk_hset_kill ht with ⟨rfl, _⟩ | ⟨hn, _, y, hy⟩ <;> rcases blk_hset_kill ht' with ⟨rfl, _⟩ | ⟨hn', _, y', hy'⟩
      · exact absurd rfl hne
      · rw [upd_same] at hr; rw [upd_other _ _ hn'] at hr'
        rcases (hR r cap hr).2 with h4 | ⟨k0, cap0, h4, h5⟩
        · have := (h.live t' y' r' cap' hy' hr').1; omega
        · exact h.inj t t' k0 y' r cap0 r' cap' hne h4 hy' h5 hr'
      · rw [upd_same] at hr'; rw [upd_other _ _ hn] at hr
        rcases (hR r' cap' hr').2 with h4 | ⟨k0, cap0, h4, h5⟩
        · have := (h.live t y r cap hy hr).1; omega
        · exact h.inj t t' y k0 r cap r' cap0 hne hy h4 hr h5
      · rw [upd_other _ _ hn] at hr; rw [upd_other _ _ hn'] at hr'
        exact h.inj t t' y y' r cap r' cap' hne hy hy' hr hr'
    live := fun t k r cap ht hr => by
      rcases blk_hset_kill ht with ⟨rfl, _⟩ | ⟨hn, _, y, hy⟩
      · rw [upd_same] at hr
        obtain ⟨h3, h4⟩ := hR r cap hr
        rcases h4 with h4 | ⟨k0, cap0, h4, h5⟩
        · exact ⟨h3, fun hm => (by have := c.hM r hm; have := h.kept.size; omega), .inl (Nat.le_trans h.kept.size h4)⟩
        · obtain ⟨_, h6, h7⟩ := h.live t k0 r cap0 h4 h5
          exact ⟨h3, h6, h7⟩
      · rw [upd_other _ _ hn] at hr
        obtain ⟨h5, h6, h7⟩ := h.live t y r cap hy hr
        exact ⟨Nat.lt_of_lt_of_le h5 hsz, h6, h7⟩
    blk := fun t k ht => by
      rcases blk_hset_kill ht with ⟨rfl, rfl⟩ | ⟨hn, h1, y, hy⟩
      · exact hK
      · have hKk := hkl.blk t k h1
        have hKy := h.blk t y hy
        have e : k = y.wipe b := by
          simp only [Sg.blk, nb_ne hn, cond_false, hy, Option.map_some, Option.some.injEq] at h1
          exact h1.symm
        have hK' : k.rel (okB c σ.blk ρ w) w σ.blk ρ t := by
          subst e
          cases y with
          | row => exact hKy
          | obj cs e => obtain ⟨r, cap, cur, e1, e2, e3⟩ := hKy; exact ⟨r, cap, cur, e1, e2, rels_wipe b cs _ e3⟩
          | map => exact hKy
        refine Blk.rel_mono hk' (fun t => t ≠ b) g1 g2 g3 (upd_other _ _ hn) (fun r cap hr => ?_) k (fun cs e' hcs t' ht' e2 => ?_) hK'
        · exact hkeep r (h.live t y r cap hy hr).1 fun k0 cap0 h4 h5 => h.inj t b y k0 r cap r cap0 hn hy h4 hr h5 rfl
        · subst e2
          rw [e] at hcs
          cases y <;> simp [Blk.wipe] at hcs
          rw [← hcs.1, frees_wipe] at ht'
          exact absurd ht' (by simp)
    slot := fun s d hd => by
      simp only [Sg.get, Option.map_eq_some_iff] at hd
      obtain ⟨d', h1, rfl⟩ := hd
      refine D.rel_mono hk' (fun t => t ≠ b) g1 g2 g3 (d'.wipe b) _ (fun t ht e => ?_) ?_
      · subst e; rw [free_wipe] at ht; exact absurd ht (by simp)
      · unfold D.wipe; split
        · exact h.slot s d' h1
        · trivial
    defs := h.defs
    size := h.size
    kept := ⟨hos.trans h.kept.os, htape.trans h.kept.tape, hout.trans h.kept.output, Nat.le_trans h.kept.size hsz, fun r hr hp => by
      refine (hkeep r (Nat.lt_of_lt_of_le hr h.kept.size) fun k cap h4 h5 => ?_).trans (h.kept.block r hr hp)
      rcases (h.live b k r cap h4 h5).2.2 with h6 | h6
      · omega
      · exact hp h6⟩ }

/-- A STORE into a key's memory: the key's kind and length stay. -/
theorem RelR.store (h : RelR c σ ρ a w) {b : Nat} {K K' : Blk} {r cap : Nat} (hb : σ.blk b = some K) (hr : ρ b = .blk r cap) (w' : World)
    (hos : w'.os = w.os) (htape : w'.tape = w.tape) (hout : w'.output = w.output) (hsz : w'.heap.size = w.heap.size)
    (hkeep : ∀ r', r' ≠ r → w'.heap[r']? = w.heap[r']?)
    (hshape : (∃ k e l l', K = .row k e l ∧ K' = .row k e l' ∧ l'.length = l.length) ∨ (∃ cs e cs' e', K = .obj cs e ∧ K' = .obj cs' e') ∨ (∃ es es', K = .map es ∧ K' = .map es'))
    (hK : K'.rel (okB c σ.blk ρ w) w' σ.blk ρ b) : RelR c (.hset b K' σ) ρ a w' := by
  have hblk : ∀ t k, (Sg.hset b K' σ).blk t = some k → (t = b ∧ k = K') ∨ (t ≠ b ∧ σ.blk t = some k) := fun t k ht => by
    simp only [Sg.blk] at ht
    cases hb : Nat.beq t b with
    | true => rw [hb] at ht; simp at ht; exact .inl ⟨nbeq hb, ht.symm⟩
    | false => rw [hb] at ht; exact .inr ⟨nbne hb, ht⟩
  have hlive : ∀ t k, (Sg.hset b K' σ).blk t = some k → ∃ x, σ.blk t = some x := fun t k ht => by
    rcases hblk t k ht with ⟨rfl, _⟩ | ⟨_, h1⟩
    · exact ⟨_, hb⟩
    · exact ⟨_, h1⟩
  have hk : Keeps (okB c σ.blk ρ w) w (okB c (Sg.hset b K' σ).blk ρ w') w' := fun b0 ⟨h1, h2, h3⟩ =>
    ⟨⟨by rw [hsz]; exact h1, h2, fun k x r0 cap0 hx hr0 => let ⟨y, hy⟩ := hlive k x hx; h3 k y r0 cap0 hy hr0⟩, heap_cell (hkeep b0 fun e => h3 b K r cap hb hr e.symm)⟩
  have g1 : ∀ t k e l, True → (Sg.hset b K' σ).blk t = some (.row k e l) → ∃ l', σ.blk t = some (.row k e l') ∧ l'.length = l.length ∧ ρ t = ρ t := fun t k e l _ ht => by
    rcases hblk t _ ht with ⟨rfl, h1⟩ | ⟨_, h1⟩
    · rcases hshape with ⟨k0, e0, l0, l1, rfl, h3, h4⟩ | ⟨_, _, _, _, _, h3⟩ | ⟨_, _, _, h3⟩
      · rw [h3] at h1; cases h1; exact ⟨_, hb, h4.symm, rfl⟩
      · rw [h3] at h1; cases h1
      · rw [h3] at h1; cases h1
    · exact ⟨l, h1, rfl, rfl⟩
  have g2 : ∀ t cs e, True → (Sg.hset b K' σ).blk t = some (.obj cs e) → ∃ cs' e', σ.blk t = some (.obj cs' e') ∧ ρ t = ρ t := fun t cs e _ ht => by
    rcases hblk t _ ht with ⟨rfl, h1⟩ | ⟨_, h1⟩
    · rcases hshape with ⟨_, _, _, _, _, h3, _⟩ | ⟨_, _, _, _, rfl, h3⟩ | ⟨_, _, _, h3⟩
      · rw [h3] at h1; cases h1
      · exact ⟨_, _, hb, rfl⟩
      · rw [h3] at h1; cases h1
    · exact ⟨cs, e, h1, rfl⟩
  have g3 : ∀ t es, True → (Sg.hset b K' σ).blk t = some (.map es) → ∃ es', σ.blk t = some (.map es') ∧ ρ t = ρ t := fun t es _ ht => by
    rcases hblk t _ ht with ⟨rfl, h1⟩ | ⟨_, h1⟩
    · rcases hshape with ⟨_, _, _, _, _, h3, _⟩ | ⟨_, _, _, _, _, h3⟩ | ⟨_, _, rfl, h3⟩
      · rw [h3] at h1; cases h1
      · rw [h3] at h1; cases h1
      · exact ⟨_, hb, rfl⟩
    · exact ⟨es, h1, rfl⟩
  have hk0 : Keeps (okB c σ.blk ρ w) w' (okB c (Sg.hset b K' σ).blk ρ w') w' := fun b0 hb0 => ⟨(hk b0 hb0).1, fun _ => rfl⟩
  exact
  { inj := fun t t' k k' r1 cap1 r' cap' hne ht ht' => let ⟨y, hy⟩ := hlive t k ht; let ⟨y', hy'⟩ := hlive t' k' ht'; h.inj t t' y y' r1 cap1 r' cap' hne hy hy'
    live := fun t k r1 cap1 ht hr1 => let ⟨y, hy⟩ := hlive t k ht; by rw [hsz]; exact h.live t y r1 cap1 hy hr1
    blk := fun t k ht => by
      rcases hblk t k ht with ⟨rfl, rfl⟩ | ⟨hn, h1⟩
      · exact Blk.rel_mono hk0 (fun _ => True) g1 g2 g3 rfl (fun _ _ _ => rfl) k (fun _ _ _ _ _ => trivial) hK
      · exact Blk.rel_mono hk (fun _ => True) g1 g2 g3 rfl (fun r1 cap1 hr1 => hkeep r1 (h.inj t b k K r1 cap1 r cap hn h1 hb hr1 hr)) k (fun _ _ _ _ _ => trivial) (h.blk t k h1)
    slot := fun s d hd => D.rel_mono hk (fun _ => True) g1 g2 g3 d _ (fun _ _ => trivial) (h.slot s d hd)
    defs := h.defs
    size := h.size
    kept := ⟨hos.trans h.kept.os, htape.trans h.kept.tape, hout.trans h.kept.output, by rw [hsz]; exact h.kept.size, fun r1 hr1 hp => by
      refine (hkeep r1 fun e => ?_).trans (h.kept.block r1 hr1 hp)
      subst e
      rcases (h.live b K r1 cap hb hr).2.2 with h6 | h6
      · omega
      · exact hp h6⟩ }
end
end Go.Cr

/- THE OWN LAYER, PART L: rows begun and frozen; comparisons with nil; strings. -/
import Derived.Test.YtgbpggllmcpicaaGreatCoreK
namespace Go.Cr
open Go Go.RowKit

section
variable {n : Nat} {c : Cx n} {σ : Sg} {ρ : Nat → R} {a : Act} {w : World}
variable {P : Program} {s : Nat} {ty : TypeId} {pos : String} {af : Array Edge} {g : Option (Nat × Bool)} {x y : Operand} {T T' : TypeId} {k k' : IntKind} {m m' : Int}
variable {sz by' sz' by'' : Nat} {z z' : Option Value} {td : TD}

/-- One thing more that is known of a slot. -/
theorem RelR.know {d : D} (h : RelR c σ ρ a w) (hv : d.rel (okB c σ.blk ρ w) w σ.blk ρ (a.tmps.getD s undef)) : RelR c (.set s d σ) ρ a w :=
  { inj := h.inj
    live := h.live
    blk := h.blk
    slot := fun t e ht => by
      simp only [Sg.get] at ht
      cases hb : Nat.beq t s with
      | true => rw [hb] at ht; simp at ht; subst ht; rw [nbeq hb]; exact hv
      | false => rw [hb] at ht; exact h.slot t e ht
    defs := h.defs
    size := h.size
    kept := h.kept }
/-- A nil slice is taken for a row of our own that has no elements yet. -/
theorem Rel.adopt (b kk e : Nat) (hx : σ.get s = some .nils) (h : Rel c σ a w) : Rel c (.set s (.own b) (.hset b (.row kk e []) (.kill b σ))) a w := by
  obtain ⟨ρ, hr⟩ := h
  have hv : a.tmps.getD s undef = .slice none 0 0 := hr.slot s _ hx
  have hn := hr.renew b (.row kk e []) .nil w rfl rfl rfl (Nat.le_refl _) (fun _ _ _ => rfl) (fun r cap h => by cases h) (by simp [Blk.rel, upd_same])
  refine ⟨_, hn.know (s := s) (d := .own b) ?_⟩
  intro k2 e2 l2 hb2
  simp only [Sg.blk, nb_self, cond_true, Option.some.injEq, Blk.row.injEq] at hb2
  obtain ⟨_, _, rfl⟩ := hb2
  rw [hv, upd_same]; rfl
theorem AO.adopt {all rest : List Oper} {Q : Sg → Prop} (s b kk e : Nat) (hx : σ.get s = some .nils) (h : AO P c all rest (.set s (.own b) (.hset b (.row kk e []) (.kill b σ))) Q) : AO P c all rest σ Q := fun a w hr => h a w (hr.adopt b kk e hx)
theorem AW.adopt {code : Code} {Q : Exit → Sg → Prop} (s b kk e : Nat) (hx : σ.get s = some .nils) (h : AW P c code (.set s (.own b) (.hset b (.row kk e []) (.kill b σ))) Q) : AW P c code σ Q := fun a w hr => h a w (hr.adopt b kk e hx)
theorem AO.kill {all rest : List Oper} {Q : Sg → Prop} (b : Nat) (h : AO P c all rest (.kill b σ) Q) : AO P c all rest σ Q := fun a w ⟨ρ, hr⟩ => h a w ⟨ρ, hr.kill b⟩
theorem AW.kill {code : Code} {Q : Exit → Sg → Prop} (b : Nat) (h : AW P c code (.kill b σ) Q) : AW P c code σ Q := fun a w ⟨ρ, hr⟩ => h a w ⟨ρ, hr.kill b⟩

theorem blk_frz {b t : Nat} {l : List I} {K : Blk} (h : (Sg.frz b l σ).blk t = some K) : t ≠ b ∧ ∃ x, σ.blk t = some x ∧ K = x.frz b l := by
  simp only [Sg.blk] at h
  cases hb : Nat.beq t b with
  | true => rw [hb] at h; simp at h
  | false =>
    rw [hb] at h
    simp only [cond_false, Option.map_eq_some_iff] at h
    obtain ⟨x, h1, h2⟩ := h
    exact ⟨nbne hb, x, h1, h2.symm⟩
theorem frz_row {b t : Nat} {l l' : List I} {kk e : Nat} (h : (Sg.frz b l σ).blk t = some (.row kk e l')) : t ≠ b ∧ σ.blk t = some (.row kk e l') := by
  obtain ⟨h1, x, h2, h3⟩ := blk_frz h
  cases x <;> simp [Blk.frz] at h3
  obtain ⟨rfl, rfl, rfl⟩ := h3
  exact ⟨h1, h2⟩
theorem frz_obj {b t : Nat} {l : List I} {cs : List D} {e : Nat} (h : (Sg.frz b l σ).blk t = some (.obj cs e)) : t ≠ b ∧ ∃ cs', σ.blk t = some (.obj cs' e) := by
  obtain ⟨h1, x, h2, h3⟩ := blk_frz h
  cases x <;> simp [Blk.frz] at h3
  obtain ⟨rfl, rfl⟩ := h3
  exact ⟨h1, _, h2⟩
theorem frz_map {b t : Nat} {l : List I} {es : List (Value × I)} (h : (Sg.frz b l σ).blk t = some (.map es)) : t ≠ b ∧ σ.blk t = some (.map es) := by
  obtain ⟨h1, x, h2, h3⟩ := blk_frz h
  cases x <;> simp [Blk.frz] at h3
  obtain ⟨rfl⟩ := h3
  exact ⟨h1, h2⟩
theorem keeps_frz {b : Nat} {l : List I} : Keeps (okB c σ.blk ρ w) w (okB c (Sg.frz b l σ).blk ρ w) w := fun b0 ⟨h1, h2, h3⟩ =>
  ⟨⟨h1, h2, fun k x r cap hx hR => let ⟨_, y, hy, _⟩ := blk_frz hx; h3 k y r cap hy hR⟩, fun _ => rfl⟩
/-- What the frozen row's slice reads as now. -/
theorem frz_den (h : RelR c σ ρ a w) {b kk e : Nat} {l : List I} (hb : σ.blk b = some (.row kk e l)) {d : D} {v : Value} {l' : List I} (hd : σ.rd d = some l') (hdb : ∀ t, d.free t = false → t = b) (hv : d.rel (okB c σ.blk ρ w) w σ.blk ρ v) :
    I.den (okB c (Sg.frz b l σ).blk ρ w) w (.slice l') v := by
  have hrowk : ∀ (ys : List I) (r off k2 : Nat), I.denRow (okB c σ.blk ρ w) w ys r off k2 → I.denRow (okB c (Sg.frz b l σ).blk ρ w) w ys r off k2 := fun ys r off k2 hr => I.denRow_mono keeps_frz ys r off k2 (fun _ => rfl) hr
  have hok : ∀ r cap, ρ b = .blk r cap → okB c (Sg.frz b l σ).blk ρ w r := fun r cap hR => by
    obtain ⟨g1, g2, g3⟩ := h.live b _ r cap hb hR
    exact ⟨g1, g2, fun k x r' cap' hx hR' e => by
      obtain ⟨hne, y, hy, _⟩ := blk_frz hx
      exact h.inj k b y _ r' cap' r cap hne hy hb hR' hR e⟩
  cases d with
  | imm i => cases i with
    | slice l' => simp only [Sg.rd, Option.some.injEq] at hd; subst hd; exact I.den_mono keeps_frz _ v hv
    | _ => simp [Sg.rd] at hd
  | full l' => simp only [Sg.rd, Option.some.injEq] at hd; subst hd; exact I.den_mono keeps_frz _ v hv.1
  | nils => simp only [Sg.rd, Option.some.injEq] at hd; subst hd; exact ⟨none, 0, hv, Nat.le_refl _, by simp, .inl rfl⟩
  | own b' =>
    have : b' = b := hdb b' (by simp [D.free])
    subst this
    simp only [Sg.rd, hb, Option.some.injEq] at hd
    subst hd
    have hv := hv kk e l hb
    cases hR : ρ b' with
    | nil => have := row_nil h hb hR; subst this; rw [hR] at hv; exact ⟨none, 0, hv, Nat.le_refl _, by simp, .inl rfl⟩
    | blk r cap =>
      obtain ⟨cur, e1, e2, e3, e4, e5⟩ := row_den h hb hR
      rw [hR] at hv
      exact ⟨some ⟨r, 0, none⟩, cap, hv, e3, e4, .inr ⟨r, 0, kk, rfl, hok r cap hR, hrowk l r 0 kk e5⟩⟩
  | view b' off m =>
    have : b' = b := hdb b' (by simp [D.free])
    subst this
    simp only [Sg.rd, hb, Option.some.injEq] at hd
    subst hd
    obtain ⟨h1, a', cp, h2, h3, h4, h5⟩ := hv kk e l hb
    have hlen : ((l.drop off).take m).length = m := by simp; omega
    refine ⟨a', cp, by rw [hlen]; exact h2, by rw [hlen]; exact h3, h4, ?_⟩
    rcases h5 with rfl | ⟨r, cap, hR, rfl⟩
    · left; simp
    · right
      obtain ⟨cur, e1, e2, e3, e4, e5⟩ := row_den h hb hR
      have h6 := denRow_take _ _ m (denRow_drop _ _ off e5)
      rw [Nat.zero_add] at h6
      exact ⟨r, off * kk, kk, rfl, hok r cap hR, hrowk _ r _ kk h6⟩
  | _ => simp [Sg.rd] at hd
mutual
theorem frz_rel (h : RelR c σ ρ a w) {b kk e : Nat} {l : List I} (hb : σ.blk b = some (.row kk e l)) : ∀ (d : D) (v : Value), d.rel (okB c σ.blk ρ w) w σ.blk ρ v → (D.frz b l d).rel (okB c (Sg.frz b l σ).blk ρ w) w (Sg.frz b l σ).blk ρ v
  | .imm i, v, hv => I.den_mono keeps_frz i v hv
  | .own b', v, hv => by
    simp only [D.frz]
    cases hbb : Nat.beq b b' with
    | true =>
      have := nbeq hbb; subst this
      exact frz_den h hb (d := .own b) (by simp [Sg.rd, hb]) (fun t ht => by simp [D.free] at ht; exact ht) hv
    | false => exact fun k2 e2 l2 hl2 => hv k2 e2 l2 (frz_row hl2).2
  | .view b' off m, v, hv => by
    simp only [D.frz]
    cases hbb : Nat.beq b b' with
    | true =>
      have := nbeq hbb; subst this
      exact frz_den h hb (d := .view b off m) (by simp [Sg.rd, hb]) (fun t ht => by simp [D.free] at ht; exact ht) hv
    | false => exact fun k2 e2 l2 hl2 => hv k2 e2 l2 (frz_row hl2).2
  | .elem b' i f, v, hv => by
    simp only [D.frz]
    cases hbb : Nat.beq b b' with
    | true => trivial
    | false => exact fun k2 e2 l2 hl2 => hv k2 e2 l2 (frz_row hl2).2
  | .ptr b' f, v, hv => by
    simp only [D.frz]
    cases hbb : Nat.beq b b' with
    | true => trivial
    | false => exact fun cs e2 hl2 => let ⟨_, cs', h2⟩ := frz_obj hl2; hv cs' e2 h2
  | .mp b', v, hv => by
    simp only [D.frz]
    cases hbb : Nat.beq b b' with
    | true => trivial
    | false => exact fun es hl2 => hv es (frz_map hl2).2
  | .at i f, v, ⟨b0, off, u, e0, h1, h2, h3⟩ => ⟨b0, off, u, e0, (keeps_frz b0 h1).1, I.den_mono keeps_frz i u h2, h3⟩
  | .full x, v, ⟨h1, h2⟩ => ⟨I.den_mono keeps_frz _ v h1, h2⟩
  | .agg x, v, ⟨cs, e0, hl⟩ => ⟨cs, e0, frzs_rel h hb x cs hl⟩
  | .tup x, v, ⟨cs, e0, hl⟩ => ⟨cs, e0, frzs_rel h hb x cs hl⟩
  | .fn f x y, v, ⟨cs, ds, e0, hl, hm⟩ => ⟨cs, ds, e0, frzs_rel h hb x cs hl, frzs_rel h hb y ds hm⟩
  | .nils, _, hv => hv
  | .any, _, _ => trivial
theorem frzs_rel (h : RelR c σ ρ a w) {b kk e : Nat} {l : List I} (hb : σ.blk b = some (.row kk e l)) : ∀ (x : List D) (vs : List Value), D.rels (okB c σ.blk ρ w) w σ.blk ρ x vs → D.rels (okB c (Sg.frz b l σ).blk ρ w) w (Sg.frz b l σ).blk ρ (D.frzs b l x) vs
  | [], _, hv => hv
  | d :: x, _, ⟨v, r, e0, h1, h2⟩ => ⟨v, r, e0, frz_rel h hb d v h1, frzs_rel h hb x r h2⟩
end
/-- A ROW IS FROZEN. -/
theorem RelR.freeze (h : RelR c σ ρ a w) {b kk e : Nat} {l : List I} (hb : σ.blk b = some (.row kk e l)) : RelR c (.frz b l σ) ρ a w :=
  { inj := fun t t' K K' r cap r' cap' hne ht ht' => let ⟨_, y, hy, _⟩ := blk_frz ht; let ⟨_, y', hy', _⟩ := blk_frz ht'; h.inj t t' y y' r cap r' cap' hne hy hy'
    live := fun t K r cap ht => let ⟨_, y, hy, _⟩ := blk_frz ht; h.live t y r cap hy
    blk := fun t K ht => by
      obtain ⟨hne, y, hy, e1⟩ := blk_frz ht
      have hK := h.blk t y hy
      subst e1
      cases y with
      | row k2 e2 l2 =>
        simp only [Blk.frz, Blk.rel] at hK ⊢
        cases hR : ρ t with
        | nil => rw [hR] at hK; exact hK
        | blk r cap =>
          rw [hR] at hK
          obtain ⟨cur, g1, g2, g3, g4, g5⟩ := hK
          exact ⟨cur, g1, g2, g3, g4, I.denRow_mono keeps_frz _ _ _ _ (fun _ => rfl) g5⟩
      | obj cs e2 =>
        obtain ⟨r, cap, cur, g1, g2, g3⟩ := hK
        exact ⟨r, cap, cur, g1, g2, frzs_rel h hb cs _ g3⟩
      | map es =>
        obtain ⟨r, cap, g1, l0, clock, g2, g3, g4⟩ := hK
        exact ⟨r, cap, g1, l0, clock, g2, g3, I.dens_mono keeps_frz _ _ g4⟩
    slot := fun t d ht => by
      simp only [Sg.get, Option.map_eq_some_iff] at ht
      obtain ⟨d', h1, rfl⟩ := ht
      exact frz_rel h hb d' _ (h.slot t d' h1)
    defs := h.defs
    size := h.size
    kept := h.kept }
theorem AO.freeze {all rest : List Oper} {Q : Sg → Prop} (b : Nat) {kk e : Nat} {l : List I} (hb : σ.blk b = some (.row kk e l)) (h : AO P c all rest (.frz b l σ) Q) : AO P c all rest σ Q := fun a w ⟨ρ, hr⟩ => h a w ⟨ρ, hr.freeze hb⟩
theorem AW.freeze {code : Code} {Q : Exit → Sg → Prop} (b : Nat) {kk e : Nat} {l : List I} (hb : σ.blk b = some (.row kk e l)) (h : AW P c code (.frz b l σ) Q) : AW P c code σ Q := fun a w ⟨ρ, hr⟩ => h a w ⟨ρ, hr.freeze hb⟩

/-! ### A slice against nil -/
theorem len_nil (hr : RelR c σ ρ a w) {d : D} {v : Value} {j : Nat} (hl : σ.len d = some j) (hv : d.rel (okB c σ.blk ρ w) w σ.blk ρ v) : ∃ ad cp, v = .slice ad j cp ∧ (ad = none → j = 0) := by
  cases d with
  | imm i => cases i with
    | slice l =>
      simp only [Sg.len, Option.some.injEq] at hl; subst hl
      obtain ⟨ad, cap, e, _, _, h⟩ := hv
      refine ⟨ad, cap, e, fun h0 => ?_⟩
      rcases h with rfl | ⟨b, off, k, h1, _⟩
      · rfl
      · rw [h0] at h1; cases h1
    | _ => simp [Sg.len] at hl
  | full l =>
    simp only [Sg.len, Option.some.injEq] at hl; subst hl
    obtain ⟨⟨ad, cap, e, _, _, h⟩, _⟩ := hv
    refine ⟨ad, cap, e, fun h0 => ?_⟩
    rcases h with rfl | ⟨b, off, k, h1, _⟩
    · rfl
    · rw [h0] at h1; cases h1
  | nils => simp only [Sg.len, Option.some.injEq] at hl; subst hl; exact ⟨none, 0, hv, fun _ => rfl⟩
  | own b =>
    simp only [Sg.len] at hl
    split at hl
    · rename_i k e l hb
      simp only [Option.some.injEq] at hl; subst hl
      have := hv k e l hb
      cases hR : ρ b with
      | nil => rw [hR] at this; have h0 := row_nil hr hb hR; exact ⟨_, _, this, fun _ => by rw [h0]; rfl⟩
      | blk r cap => rw [hR] at this; exact ⟨_, _, this, fun h => by cases h⟩
    · simp at hl
  | view b off len =>
    simp only [Sg.len] at hl
    split at hl
    · rename_i k e l hb
      simp only [Option.some.injEq] at hl; subst hl
      obtain ⟨_, ad, cp, e, _, _, h⟩ := hv k e l hb
      refine ⟨ad, cp, e, fun h0 => ?_⟩
      rcases h with h | ⟨r, cap, _, h1⟩
      · exact h
      · rw [h0] at h1; cases h1
    · simp at hl
  | _ => simp [Sg.len] at hl
theorem run_eq_nil [Tab P] {ev : Operand → Value} {dst : Option Tmp} {e : Nat} {ad : Option Addr} {j cp : Nat} (w : World) (hx : ev x = .slice ad j cp) (hy : ev y = .slice none 0 0) (ht : Tab.look P T = some ⟨.slice e, sz, by', z⟩) :
    (execOp ev ⟨dst, .binOp .eql T x y T', ty, pos, af, g⟩).run P w = .ok (.value (.bool ad.isNone)) w := by
  simp only [execOp, hx, hy]
  have h1 : (eqGuard .eql T x y (.slice ad j cp) (.slice none 0 0)).run P w = .ok () w := by unfold eqGuard; simp
  have h2 : (Op.equal T (.slice ad j cp) (.slice none 0 0)).run P w = .ok ad.isNone w := by
    have h3 : ∀ d, (Op.equalIn (d + 1) T (.slice ad j cp) (.slice none 0 0)).run P w = .ok ad.isNone w := fun d => by
      cases ad <;> simp [Op.equalIn, run_underlying (Tab.slice ht)]
    exact h3 9999
  simp only [Sem.run_bind, h1, Result.andThen, binOp, h2, Sem.run_pure]
theorem AO.eq_nil [Tab P] {all rest : List Oper} {Q : Sg → Prop} {d : D} {j e : Nat} (hx : σ.opd x = some d) (hl : σ.len d = some j) (ht : Tab.look P T = some ⟨.slice e, sz, by', z⟩) (hs : Nat.blt s n = true)
    (h : ∀ b : Bool, (b = true → j = 0) → AO P c all rest (.set s (dB b) σ) Q) : AO P c all (⟨some s, .binOp .eql T x (.const (.slice none 0 0)) T', ty, pos, af, none⟩ :: rest) σ Q := fun a w hr => by
  obtain ⟨ρ, hρ⟩ := hr
  obtain ⟨ad, cp, h1, h2⟩ := len_nil hρ hl (hρ.opd hx)
  have hb : ad.isNone = true → j = 0 := fun hi => h2 (by cases ad <;> simp at hi ⊢)
  have hsp : Spec P c ⟨some s, .binOp .eql T x (.const (.slice none 0 0)) T', ty, pos, af, none⟩ σ (.set s (dB ad.isNone) σ) → True := fun _ => trivial
  refine wpList_plain rfl fun K hK => ?_
  unfold Oper.wp
  rw [run_eq_nil w h1 rfl ht]
  exact hK _ _ (h _ hb _ _ ⟨ρ, hρ.put (Nat.blt_eq.mp hs) rfl⟩)

/-! ### An operation, whether it is guarded or not -/
def wantB (all : List Oper) (σ : Sg) (n : Nat) (want : Bool) (o : Oper) : Bool := match o.guard with
  | none => want
  | some (j, b) => match (all[j]?).bind (·.dst) with
    | some s => Nat.blt s n && (match σ.get s with
      | some (.imm (.val (.bool b'))) => bif b then (bif want then b' else !b') else (bif want then !b' else b')
      | _ => false)
    | none => false
theorem AO.step {all rest : List Oper} {o : Oper} {σ' : Sg} {Q : Sg → Prop} (hs : Spec P c o σ σ') (hw : wantB all σ n true o = true) (h : AO P c all rest σ' Q) : AO P c all (o :: rest) σ Q := by
  unfold wantB at hw
  split at hw
  · rename_i hg
    exact AO.cons hs hg h
  · rename_i j b hg
    split at hw
    · rename_i s hd
      simp only [Bool.and_eq_true] at hw
      obtain ⟨hn, hw⟩ := hw
      split at hw
      · rename_i b' hb
        have : b' = b := by cases b <;> cases b' <;> simp at hw ⊢
        subst this
        exact AO.cons_yes hg hd hb hn hs h
      · simp at hw
    · simp at hw
theorem AO.pass {all rest : List Oper} {o : Oper} {d : Nat} {Q : Sg → Prop} (hw : wantB all σ n false o = true) (hd : o.dst = some d) (hdn : Nat.blt d n = true) (h : AO P c all rest (.set d .any σ) Q) : AO P c all (o :: rest) σ Q := by
  unfold wantB at hw
  split at hw
  · simp at hw
  · rename_i j b hg
    split at hw
    · rename_i s hd'
      simp only [Bool.and_eq_true] at hw
      obtain ⟨hn, hw⟩ := hw
      split at hw
      · rename_i b' hb
        have : b' = !b := by cases b <;> cases b' <;> simp at hw ⊢
        subst this
        exact AO.cons_no hg hd' hb hn hd hdn h
      · simp at hw
    · simp at hw

/-- A loop, its states told by a family under a condition. -/
theorem AW.loopC {ι : Type} {x : Code} {Q : Exit → Sg → Prop} (S : ι → Sg) (C : ι → Prop) (μ : ι → Nat) (i0 : ι) (h0 : C i0) (hh : Has σ (S i0))
    (round : ∀ i, C i → AW P c x (S i) (QS (fun σ' => ∃ j, C j ∧ μ j < μ i ∧ Has σ' (S j)) Q)) : AW P c (.loop x) σ Q :=
  AW.loop (ι := { i : ι // C i }) (fun i => S i.1) (fun i => μ i.1) ⟨i0, h0⟩ hh fun ⟨i, hi⟩ => (round i hi).mono fun e σ' hq => by
    cases e with
    | normal => obtain ⟨j, h1, h2, h3⟩ := hq; exact ⟨⟨j, h1⟩, h2, h3⟩
    | _ => exact hq
theorem r_len_map [Tab P] {α : Type} {enc : α → I} {L : List α} {d : D} {e : Nat} (hx : σ.opd x = some d) (hl : σ.rd d = some (L.map enc)) (ht : Tab.look P T = some ⟨.slice e, sz, by', z⟩) (hs : Nat.blt s n = true) :
    Spec P c ⟨some s, .call ⟨.builtin .len, #[x], #[T]⟩, ty, pos, af, g⟩ σ (.set s (dI .i64 (L.length : Nat)) σ) := by
  refine Spec.pure rfl hs fun ρ a w hr => ?_
  obtain ⟨a', cp, hv, _⟩ := rd_den hr hl (hr.opd hx)
  refine ⟨.int .i64 L.length, ?_, rfl⟩
  rw [run_call_builtin]
  simp [builtin, Builtin.len_, hv, run_underlying (Tab.slice ht), goInt]
theorem snoc_cases {α : Type} (l : List α) : l = [] ∨ ∃ L x, l = L ++ [x] := by
  rcases List.eq_nil_or_concat l with h | ⟨L, x, h⟩
  · exact .inl h
  · exact .inr ⟨L, x, by rw [h, List.concat_eq_append]⟩

/-! ### Strings -/
theorem run_binOp_str {ev : Operand → Value} {op : BinOp} {dst : Option Tmp} {u v : ByteArray} (w : World) (hx : ev x = .string u) (hy : ev y = .string v) :
    (execOp ev ⟨dst, .binOp op T x y T', ty, pos, af, g⟩).run P w = ((Op.stringOp op u v).run P w).andThen fun v w => .ok (.value v) w := by
  simp only [execOp, hx, hy]
  have he : (eqGuard op T x y (.string u) (.string v)).run P w = .ok () w := by
    unfold eqGuard; cases op <;> simp
  simp only [Sem.run_bind, he, Result.andThen]
  cases op <;> rfl
theorem r_str_eql {u v : ByteArray} (hx : σ.opd x = some (.imm (.val (.string u)))) (hy : σ.opd y = some (.imm (.val (.string v)))) (hs : Nat.blt s n = true) :
    Spec P c ⟨some s, .binOp .eql T x y T', ty, pos, af, g⟩ σ (.set s (dB (u.toList == v.toList)) σ) := Spec.pure rfl hs fun ρ a w hr => ⟨.bool (u.toList == v.toList), by
  have h1 : a.eval x = .string u := hr.opd hx
  have h2 : a.eval y = .string v := hr.opd hy
  rw [run_binOp_str w h1 h2]; rfl, rfl⟩
theorem r_str_neq {u v : ByteArray} (hx : σ.opd x = some (.imm (.val (.string u)))) (hy : σ.opd y = some (.imm (.val (.string v)))) (hs : Nat.blt s n = true) :
    Spec P c ⟨some s, .binOp .neq T x y T', ty, pos, af, g⟩ σ (.set s (dB (!(u.toList == v.toList))) σ) := Spec.pure rfl hs fun ρ a w hr => ⟨.bool (!(u.toList == v.toList)), by
  have h1 : a.eval x = .string u := hr.opd hx
  have h2 : a.eval y = .string v := hr.opd hy
  rw [run_binOp_str w h1 h2]; rfl, rfl⟩
/-- '==' of bools. -/
theorem r_bool_eql [Tab P] {u v : Bool} (hx : σ.opd x = some (dB u)) (hy : σ.opd y = some (dB v)) (ht : Tab.look P T = some ⟨.bool, sz, by', z⟩) (hs : Nat.blt s n = true) :
    Spec P c ⟨some s, .binOp .eql T x y T', ty, pos, af, g⟩ σ (.set s (dB (u == v)) σ) := Spec.pure rfl hs fun ρ a w hr => ⟨.bool (u == v), by
  have h1 : a.eval x = .bool u := hr.opd hx
  have h2 : a.eval y = .bool v := hr.opd hy
  simp only [execOp, h1, h2]
  have he : (eqGuard .eql T x y (.bool u) (.bool v)).run P w = .ok () w := by unfold eqGuard; simp
  simp only [Sem.run_bind, he, Result.andThen, run_eql_bool w T u v (Tab.bool ht), Sem.run_pure], rfl⟩
theorem r_bool_neq [Tab P] {u v : Bool} (hx : σ.opd x = some (dB u)) (hy : σ.opd y = some (dB v)) (ht : Tab.look P T = some ⟨.bool, sz, by', z⟩) (hs : Nat.blt s n = true) :
    Spec P c ⟨some s, .binOp .neq T x y T', ty, pos, af, g⟩ σ (.set s (dB (!(u == v))) σ) := Spec.pure rfl hs fun ρ a w hr => ⟨.bool (!(u == v)), by
  have h1 : a.eval x = .bool u := hr.opd hx
  have h2 : a.eval y = .bool v := hr.opd hy
  simp only [execOp, h1, h2]
  have he : (eqGuard .neq T x y (.bool u) (.bool v)).run P w = .ok () w := by unfold eqGuard; simp
  simp only [Sem.run_bind, he, Result.andThen, run_neq_bool w T u v (Tab.bool ht), Sem.run_pure], rfl⟩
end
end Go.Cr

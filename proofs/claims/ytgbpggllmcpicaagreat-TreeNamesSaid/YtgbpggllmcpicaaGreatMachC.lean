/- MACHINE X, PART C: addresses, fields, parts of slices, tuples, interfaces, nil. -/
import Derived.Test.YtgbpggllmcpicaaGreatMachB
namespace Go.Xm
open Go Go.Cr
section
variable {P : Program} {N : Ns} {μ : Mu} {H : Tr Bk} {nx : Nat} {w : World} {s : Sem Next}
variable {ty : TypeId} {pos : String} {af : Array Edge} {g : Option (Nat × Bool)} {x y : Operand} {T T' : TypeId} {sz by' sz' by'' : Nat} {z z' : Option Value} {td td' : TD} {ρ : Operand → Value} {dst : Option Tmp}

/-! ### Addresses and fields -/
noncomputable def fieldAddrX (fo : Nat) : V → Option V
  | .ptr b off => some (.ptr b (off + fo))
  | _ => none
theorem fieldAddrX_sound [Tab P] (h : Inv N μ H nx w) {v r : V} (hv : v.rel μ (ρ x)) {fs : List (Nat × Nat)} {fld ft fo : Nat} (ht : Tab.look P T = some ⟨.struct fs, sz, by', z⟩) (hf : fs[fld]? = some (ft, fo))
    (hft : Tab.look P ft = some ⟨td, sz', by'', z'⟩) (hnz : Nat.beq sz' 0 = false) (hl : fieldAddrX fo v = some r) : Does P N μ nx w (execOp ρ ⟨dst, .fieldAddr T x fld, ty, pos, af, g⟩) (some r, H, nx) := by
  unfold fieldAddrX at hl
  split at hl
  · cases hl
    obtain ⟨p, h1, h2⟩ := hv
    exact Does.value h _ (run_fieldAddr w h2 ht hf hft hnz) ⟨p, h1, by rw [Nat.add_assoc]⟩
  · cases hl
noncomputable def fieldX (agg : Bool) (sz fo : Nat) : V → Option V
  | .agg l => match agg with
    | true => match Nat.beq ((l.drop fo).take sz).length sz with
      | true => some (.agg ((l.drop fo).take sz))
      | false => none
    | false => l[fo]?
  | _ => none
theorem fieldX_sound [Tab P] (h : Inv N μ H nx w) {v r : V} (hv : v.rel μ (ρ x)) {fs : List (Nat × Nat)} {fld ft fo : Nat} (ht : Tab.look P T = some ⟨.struct fs, sz, by', z⟩) (hf : fs[fld]? = some (ft, fo))
    (hft : Tab.look P ft = some ⟨td, sz', by'', z'⟩) (hl : fieldX td.isAgg sz' fo v = some r) : Does P N μ nx w (execOp ρ ⟨dst, .field T x fld, ty, pos, af, g⟩) (some r, H, nx) := by
  unfold fieldX at hl
  split at hl
  · obtain ⟨cs, h1, h2⟩ := hv
    split at hl
    · rename_i ha
      split at hl
      · rename_i hq
        cases hl
        refine Does.value h (.agg (cs.toArray.extract fo (fo + sz'))) (run_field w h1 ht hf hft (by rw [ha]; rfl)) ⟨(cs.drop fo).take sz', ?_, rels_take _ _ _ (rels_drop _ _ _ h2)⟩
        congr 1
        apply Array.ext'
        simp [List.extract_eq_take_drop]
      · cases hl
    · rename_i ha
      obtain ⟨u, hu, hru⟩ := rels_get _ _ _ _ h2 hl
      exact Does.value h u (run_field w h1 ht hf hft (by rw [ha]; simpa using hu)) hru
  · cases hl
noncomputable def indexAddrX (k : Nat) : V → V → Option V
  | .slice b off len _, .val (.int _ (.ofNat i)) => match Nat.blt i len with
    | true => some (.ptr b (off + i * k))
    | false => none
  | _, _ => none
theorem indexAddrX_sound [Tab P] (h : Inv N μ H nx w) {v i r : V} (hv : v.rel μ (ρ x)) (hi : i.rel μ (ρ y)) {e : Nat} (ht : Tab.look P T = some ⟨.slice e, sz, by', z⟩) (he : Tab.look P e = some ⟨td, sz', by'', z'⟩)
    (hl : indexAddrX sz' v i = some r) : Does P N μ nx w (execOp ρ ⟨dst, .indexAddr T x y, ty, pos, af, g⟩) (some r, H, nx) := by
  unfold indexAddrX at hl
  split at hl
  · rename_i b off len cap k i
    split at hl
    · rename_i hlt
      cases hl
      have hlt := Nat.blt_eq.mp hlt
      obtain ⟨p, a, cp, h1, h2, h3, h4, h5, h6⟩ := hv
      have hi : ρ y = .int k (i : Int) := hi
      rcases h5 with ⟨rfl, h5⟩ | h5
      · exact Does.value h _ (run_indexAddr w h2 hi rfl hlt ht he) ⟨p, h1, by rw [addr_add, Nat.add_assoc]⟩
      · omega
    · cases hl
  · cases hl

/-! ### Parts of slices -/
noncomputable def boundX (ev : Operand → Option V) (dflt : Nat) : Option Operand → Option Nat
  | none => some dflt
  | some o => match ev o with
    | some (.val (.int _ (.ofNat i))) => some i
    | _ => none
theorem boundX_rel {ev : Operand → Option V} (hev : ∀ x v, ev x = some v → v.rel μ (ρ x)) {o : Option Operand} {dflt i : Nat} (h : boundX ev dflt o = some i) : (o = none ∧ i = dflt) ∨ ∃ x, o = some x ∧ ∃ k, ρ x = .int k (i : Int) := by
  cases o with
  | none => cases h; exact .inl ⟨rfl, rfl⟩
  | some x =>
    simp only [boundX] at h
    split at h
    · rename_i k j hx
      cases h
      exact .inr ⟨x, rfl, k, hev x _ hx⟩
    · cases h
/-- Behind the bounds: what is left of the room. -/
noncomputable def sliceX (kn k : Nat) (l h : Nat) (mx : Option Nat) : V → Option V
  | .slice b off len cap => match Nat.ble l h, (match mx with | some m => Nat.ble h m | none => true), (match cap with | some c => (match mx with | some m => Nat.ble m c | none => Nat.ble h c) | none => (match mx with | some m => Nat.ble m kn | none => Nat.ble h kn)) with
    | true, true, true => some (.slice b (off + l * k) (h - l) (match mx with | some m => some (m - l) | none => (match cap with | some c => some (c - l) | none => none)))
    | _, _, _ => none
  | .val (.slice none 0 0) => match l, h, mx with
    | 0, 0, none => some (.val (.slice none 0 0))
    | 0, 0, some 0 => some (.val (.slice none 0 0))
    | _, _, _ => none
  | _ => none
theorem run_slice3 [Tab P] {ev : Operand → Value} {e : Nat} {ad : Option Addr} {len cap l h m : Nat} {lo hi mx : Option Operand} (w : World) (hx : ev x = .slice ad len cap)
    (h1 : (lo = none ∧ l = 0) ∨ ∃ x, lo = some x ∧ ∃ k, ev x = .int k (l : Int)) (h2 : (hi = none ∧ h = len) ∨ ∃ x, hi = some x ∧ ∃ k, ev x = .int k (h : Int))
    (h3 : (mx = none ∧ m = cap) ∨ (hi ≠ none ∧ ∃ x, mx = some x ∧ ∃ k, ev x = .int k (m : Int))) (hle : l ≤ h) (hm : h ≤ m) (hc : m ≤ cap)
    (ht : Tab.look P T = some ⟨.slice e, sz, by', z⟩) (he : Tab.look P e = some ⟨td, sz', by'', z'⟩) :
    (execOp ev ⟨dst, .slice T x lo hi mx, ty, pos, af, g⟩).run P w = .ok (.value (.slice (if m = l then ad else ad.map (·.add (l * sz'))) (h - l) (m - l))) w := by
  have hb : (Instr.sliceBounds true len cap (lo.map ev) (hi.map ev) (mx.map ev)).run P w = .ok (l, h, m) w := by
    rcases h3 with ⟨rfl, rfl⟩ | ⟨hne, xm, rfl, hkm⟩
    · rcases h1 with ⟨rfl, rfl⟩ | ⟨xl, rfl, hk⟩ <;> rcases h2 with ⟨rfl, rfl⟩ | ⟨xh, rfl, hk'⟩
      · simp [Instr.sliceBounds]
      · simp [Instr.sliceBounds, run_bound w _ hk' hm]
      · simp [Instr.sliceBounds, run_bound w _ hk hle]
      · simp [Instr.sliceBounds, run_bound w _ hk hle, run_bound w _ hk' hm]
    · rcases h2 with ⟨rfl, _⟩ | ⟨xh, rfl, hk'⟩
      · exact absurd rfl hne
      · rcases h1 with ⟨rfl, rfl⟩ | ⟨xl, rfl, hk⟩
        · simp [Instr.sliceBounds, run_bound w _ hkm hc, run_bound w _ hk' hm]
        · simp [Instr.sliceBounds, run_bound w _ hkm hc, run_bound w _ hk hle, run_bound w _ hk' hm]
  simp only [execOp, hx, Instr.sliceAt, Sem.run_bind, run_underlying (Tab.slice ht), Result.andThen, Instr.slice, hb, Tab.sizeOf w he, Sem.run_pure]
/-- Of a slice that is known. -/
theorem sliceX_sound [Tab P] {ev : Operand → Option V} (hev : ∀ x v, ev x = some v → v.rel μ (ρ x)) (h : Inv N μ H nx w) {v r : V} (hv : v.rel μ (ρ x)) {e len l hh : Nat} {mm : Option Nat} {lo hi mx : Option Operand}
    (hlen : (∃ b off cap, v = .slice b off len cap) ∨ (v = .val (.slice none 0 0) ∧ len = 0)) (h1 : boundX ev 0 lo = some l) (h2 : boundX ev len hi = some hh) (h3 : (mx = none ∧ mm = none) ∨ (hi ≠ none ∧ ∃ m, mm = some m ∧ mx ≠ none ∧ boundX ev 0 mx = some m))
    (ht : Tab.look P T = some ⟨.slice e, sz, by', z⟩) (he : Tab.look P e = some ⟨td, sz', by'', z'⟩) (hk : ∀ b off cap p, v = .slice b off len cap → μ b = some p → p.k = sz')
    {kn : Nat} (hkn : ∀ b off p cp, v = .slice b off len none → μ b = some p → len ≤ cp → off + cp * p.k = p.size → kn ≤ cp) (hl : sliceX kn sz' l hh mm v = some r) : Does P N μ nx w (execOp ρ ⟨dst, .slice T x lo hi mx, ty, pos, af, g⟩) (some r, H, nx) := by
  have hb1 := boundX_rel hev h1
  have hb2 := boundX_rel hev h2
  have hb3 : ∀ cp : Nat, (mm = none → (mx = none ∧ cp = cp) ∨ (hi ≠ none ∧ ∃ x, mx = some x ∧ ∃ k, ρ x = .int k (cp : Int))) ∧ ∀ m, mm = some m → (hi ≠ none ∧ ∃ x, mx = some x ∧ ∃ k, ρ x = .int k (m : Int)) := fun cp => by
    rcases h3 with ⟨rfl, rfl⟩ | ⟨hne, m, rfl, hne', hb⟩
    · exact ⟨fun _ => .inl ⟨rfl, rfl⟩, fun m hm => by cases hm⟩
    · refine ⟨fun hm => (by cases hm), fun m' hm => ?_⟩
      cases hm
      rcases boundX_rel hev hb with ⟨h0, _⟩ | hq
      · exact absurd h0 hne'
      · exact ⟨hne, hq⟩
  unfold sliceX at hl
  split at hl
  · rename_i b off len' cap
    have : len = len' := by
      rcases hlen with ⟨b', off', cap', e⟩ | ⟨e, _⟩
      · cases e; rfl
      · cases e
    subst this
    split at hl
    · rename_i c1 c2 c3
      cases hl
      have c1 := Nat.le_of_ble_eq_true c1
      obtain ⟨p, a, cp, g1, g2, g3, g4, g5, g6⟩ := hv
      have hkk := hk b off cap p rfl g1
      cases hmm : mm with
      | none =>
        have hcp : hh ≤ cp := by
          rw [hmm] at c3
          cases hcap : cap with
          | some c => rw [hcap] at c3; have := Nat.le_of_ble_eq_true c3; rw [g6.1 c hcap]; exact this
          | none =>
            rw [hcap] at c3
            have h1 := Nat.le_of_ble_eq_true c3
            have h2 := hkn b off p cp (by rw [hcap]) g1 g3 (g6.2 hcap)
            omega
        have hm0 : (mx = none ∧ cp = cp) ∨ (hi ≠ none ∧ ∃ x, mx = some x ∧ ∃ k, ρ x = .int k (cp : Int)) := (hb3 cp).1 hmm
        refine Does.value h _ (run_slice3 w g2 hb1 hb2 hm0 c1 hcp (Nat.le_refl _) ht he) ⟨p, if cp = l then a else a.add (l * sz'), cp - l, g1, ?_, by omega, by omega, ?_, fun c hc => ?_, fun hc => ?_⟩
        · by_cases e : cp = l
          · simp [e]
          · simp [e]
        · by_cases e : cp = l
          · right
            refine ⟨by omega, ?_⟩
            rw [if_pos e]
            rcases g5 with ⟨rfl, _⟩ | ⟨_, o', rfl⟩ <;> exact ⟨_, rfl⟩
          · rw [if_neg e]
            rcases g5 with ⟨rfl, g5⟩ | g5
            · left
              refine ⟨by rw [addr_add, Nat.add_assoc], ?_⟩
              rw [hkk] at g5 ⊢
              have : l * sz' + (cp - l) * sz' = cp * sz' := by rw [← Nat.add_mul]; congr 1; omega
              omega
            · right
              obtain ⟨hz, o', rfl⟩ := g5
              exact ⟨by omega, _, addr_add _ _ _⟩
        · cases hcap : cap with
          | some c' => rw [hcap] at hc; simp only [Option.some.injEq] at hc; rw [g6.1 c' hcap]; exact hc
          | none => rw [hcap] at hc; cases hc
        · cases hcap : cap with
          | some c' => rw [hcap] at hc; cases hc
          | none =>
            have h1 := g6.2 hcap
            rw [hkk] at h1 ⊢
            have : l * sz' + (cp - l) * sz' = cp * sz' := by rw [← Nat.add_mul]; congr 1; omega
            omega
      | some m =>
        rw [hmm] at c2 c3
        have c2 := Nat.le_of_ble_eq_true c2
        have hcp : m ≤ cp := by
          cases hcap : cap with
          | some c => rw [hcap] at c3; have := Nat.le_of_ble_eq_true c3; rw [g6.1 c hcap]; exact this
          | none =>
            rw [hcap] at c3
            have h1 := Nat.le_of_ble_eq_true c3
            have h2 := hkn b off p cp (by rw [hcap]) g1 g3 (g6.2 hcap)
            omega
        refine Does.value h _ (run_slice3 w g2 hb1 hb2 (.inr ((hb3 0).2 m hmm)) c1 c2 hcp ht he) ⟨p, if m = l then a else a.add (l * sz'), m - l, g1, ?_, by omega, by omega, ?_, fun c hc => by simpa using hc, fun hc => (by cases hc)⟩
        · by_cases e : m = l
          · simp [e]
          · simp [e]
        · by_cases e : m = l
          · right
            refine ⟨by omega, ?_⟩
            rw [if_pos e]
            rcases g5 with ⟨rfl, _⟩ | ⟨_, o', rfl⟩ <;> exact ⟨_, rfl⟩
          · rw [if_neg e]
            rcases g5 with ⟨rfl, g5⟩ | g5
            · left
              refine ⟨by rw [addr_add, Nat.add_assoc], ?_⟩
              rw [hkk] at g5 ⊢
              have h1 : l * sz' + (m - l) * sz' = m * sz' := by rw [← Nat.add_mul]; congr 1; omega
              have h2 : m * sz' ≤ cp * sz' := Nat.mul_le_mul_right _ hcp
              omega
            · right
              obtain ⟨hz, o', rfl⟩ := g5
              exact ⟨by omega, _, addr_add _ _ _⟩
    · cases hl
  · split at hl
    · cases hl
      have : len = 0 := by
        rcases hlen with ⟨b', off', cap', e⟩ | ⟨_, e⟩
        · cases e
        · exact e
      subst this
      have hx : ρ x = .slice none 0 0 := hv
      exact Does.value h _ (run_slice3 (m := 0) w hx hb1 hb2 ((hb3 0).1 rfl) (Nat.le_refl _) (Nat.le_refl _) (Nat.le_refl _) ht he) (by simp [V.rel])
    · cases hl
      have : len = 0 := by
        rcases hlen with ⟨b', off', cap', e⟩ | ⟨_, e⟩
        · cases e
        · exact e
      subst this
      have hx : ρ x = .slice none 0 0 := hv
      exact Does.value h _ (run_slice3 (m := 0) w hx hb1 hb2 (.inr ((hb3 0).2 0 rfl)) (Nat.le_refl _) (Nat.le_refl _) (Nat.le_refl _) ht he) (by simp [V.rel])
    · cases hl
  · cases hl
end
end Go.Xm

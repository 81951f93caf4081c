/- MACHINE X, PART Y: the regions that draw their order, reckoned: 'drawX', and that it tells the truth. -/
import Derived.Test.YtgbpggllmcpicaaGreatMachW
namespace Go.Xm
open Go Go.Cr Go.RowKit

/-! ### Are two values the same? (no, where it is not known) -/
noncomputable def sameNum (a b : Int) : Bool := match a, b with
  | .ofNat x, .ofNat y => Nat.beq x y
  | .negSucc x, .negSucc y => Nat.beq x y
  | _, _ => false
noncomputable def sameKind (a b : IntKind) : Bool := decide (a = b)
noncomputable def sameVal : Value → Value → Bool
  | .bool true, .bool true => true
  | .bool false, .bool false => true
  | .int k a, .int k' b => match sameKind k k' with
    | true => sameNum a b
    | false => false
  | .string a, .string b => a == b
  | .slice none 0 0, .slice none 0 0 => true
  | .pointer none, .pointer none => true
  | .map none, .map none => true
  | .nilFunc, .nilFunc => true
  | .nilIface, .nilIface => true
  | _, _ => false
noncomputable def sameCap : Option Nat → Option Nat → Bool
  | none, none => true
  | some a, some b => Nat.beq a b
  | _, _ => false
mutual
noncomputable def sameV : V → V → Bool
  | .val a, .val b => sameVal a b
  | .ptr a b, .ptr a' b' => match Nat.beq a a' with
    | true => Nat.beq b b'
    | false => false
  | .slice a b c d, .slice a' b' c' d' => match Nat.beq a a', Nat.beq b b', Nat.beq c c', sameCap d d' with
    | true, true, true, true => true
    | _, _, _, _ => false
  | .agg l, .agg l' => sameVs l l'
  | .tup l, .tup l' => sameVs l l'
  | .fn (.func f) l m, .fn (.func f') l' m' => match Nat.beq f f', sameVs l l', sameVs m m' with
    | true, true, true => true
    | _, _, _ => false
  | .iface t v, .iface t' v' => match Nat.beq t t' with
    | true => sameV v v'
    | false => false
  | .map b, .map b' => Nat.beq b b'
  | _, _ => false
noncomputable def sameVs : List V → List V → Bool
  | [], [] => true
  | v :: l, v' :: l' => match sameV v v' with
    | true => sameVs l l'
    | false => false
  | _, _ => false
end
theorem sameNum_eq {a b : Int} (h : sameNum a b = true) : a = b := by
  unfold sameNum at h
  split at h
  · rw [Nat.eq_of_beq_eq_true h]
  · rw [Nat.eq_of_beq_eq_true h]
  · cases h
theorem sameVal_eq {a b : Value} (h : sameVal a b = true) : a = b := by
  unfold sameVal at h
  split at h
  · rfl
  · rfl
  · split at h
    · rename_i hk; rw [of_decide_eq_true hk, sameNum_eq h]
    · cases h
  · rw [ba_eq h]
  · rfl
  · rfl
  · rfl
  · rfl
  · rfl
  · cases h
theorem sameCap_eq {a b : Option Nat} (h : sameCap a b = true) : a = b := by
  unfold sameCap at h
  split at h
  · rfl
  · rw [Nat.eq_of_beq_eq_true h]
  · cases h
mutual
theorem sameV_eq : ∀ (v v' : V), sameV v v' = true → v = v'
  | .val a, v', h => by cases v' <;> simp only [sameV, Bool.false_eq_true] at h; rw [sameVal_eq h]
  | .ptr a b, v', h => by
    cases v' <;> simp only [sameV, Bool.false_eq_true] at h
    split at h
    · rename_i h1; rw [Nat.eq_of_beq_eq_true h1, Nat.eq_of_beq_eq_true h]
    · cases h
  | .slice a b c d, v', h => by
    cases v' <;> simp only [sameV, Bool.false_eq_true] at h
    split at h
    · rename_i h1 h2 h3 h4; rw [Nat.eq_of_beq_eq_true h1, Nat.eq_of_beq_eq_true h2, Nat.eq_of_beq_eq_true h3, sameCap_eq h4]
    · cases h
  | .agg l, v', h => by cases v' <;> simp only [sameV, Bool.false_eq_true] at h; rw [sameVs_eq _ _ h]
  | .tup l, v', h => by cases v' <;> simp only [sameV, Bool.false_eq_true] at h; rw [sameVs_eq _ _ h]
  | .fn f l m, v', h => by
    cases v' with
    | fn f' l' m' =>
      cases f <;> cases f' <;> simp only [sameV, Bool.false_eq_true] at h
      split at h
      · rename_i h1 h2 h3; rw [Nat.eq_of_beq_eq_true h1, sameVs_eq _ _ h2, sameVs_eq _ _ h3]
      · cases h
    | _ => cases f <;> simp [sameV] at h
  | .yield b, v', h => by cases v' <;> simp [sameV] at h
  | .iface t v, v', h => by
    cases v' <;> simp only [sameV, Bool.false_eq_true] at h
    split at h
    · rename_i h1; rw [Nat.eq_of_beq_eq_true h1, sameV_eq _ _ h]
    · cases h
  | .map b, v', h => by cases v' <;> simp only [sameV, Bool.false_eq_true] at h; rw [Nat.eq_of_beq_eq_true h]
theorem sameVs_eq : ∀ (l l' : List V), sameVs l l' = true → l = l'
  | [], l', h => by cases l' <;> simp [sameVs] at h; rfl
  | v :: l, l', h => by
    cases l' with
    | nil => simp [sameVs] at h
    | cons v' l' =>
      simp only [sameVs] at h
      split at h
      · rename_i h1; rw [sameV_eq _ _ h1, sameVs_eq _ _ h]
      · cases h
end

/-! ### What must stand before what: sets of numbers as the bits of one -/
noncomputable def tb (m i : Nat) : Bool := Nat.beq (Nat.mod (Nat.shiftRight m i) 2) 1
theorem tb_eq (m i : Nat) : tb m i = m.testBit i := by
  have h1 : tb m i = decide (m / 2 ^ i % 2 = 1) := by
    have : Nat.mod (Nat.shiftRight m i) 2 = m / 2 ^ i % 2 := by
      show (m >>> i) % 2 = _
      rw [Nat.shiftRight_eq_div_pow]
    unfold tb
    rw [this]
    cases h : Nat.beq (m / 2 ^ i % 2) 1 with
    | true => have := Nat.eq_of_beq_eq_true h; simp [this]
    | false => have := Nat.ne_of_beq_eq_false h; simp [this]
  rw [h1, Nat.testBit_eq_decide_div_mod_eq]
noncomputable def getN : List Nat → Nat → Nat
  | [], _ => 0
  | m :: l, i => match i with
    | 0 => m
    | i + 1 => getN l i
noncomputable def maskE (acc : List Nat) : List Edge → Nat
  | [] => 0
  | e :: l => match Region.binds .any e with
    | true => Nat.lor (Nat.lor (Nat.shiftLeft 1 e.on) (getN acc e.on)) (maskE acc l)
    | false => maskE acc l
theorem tb_lor (a b j : Nat) : tb (Nat.lor a b) j = (tb a j || tb b j) := by
  rw [tb_eq, tb_eq, tb_eq]; exact Nat.testBit_or a b j
theorem tb_one (k j : Nat) : tb (Nat.shiftLeft 1 k) j = decide (k = j) := by
  rw [tb_eq]
  show (1 <<< k).testBit j = _
  rw [Nat.one_shiftLeft, Nat.testBit_two_pow]
theorem tb_zero (j : Nat) : tb 0 j = false := by rw [tb_eq]; exact Nat.zero_testBit j
theorem maskE_tb {acc : List Nat} {j : Nat} : ∀ (l : List Edge), tb (maskE acc l) j = true ↔ ∃ e, e ∈ l ∧ Region.binds .any e = true ∧ (j = e.on ∨ tb (getN acc e.on) j = true)
  | [] => by simp [maskE, tb_zero]
  | e :: l => by
    simp only [maskE]
    split
    · rename_i hb
      rw [tb_lor, tb_lor, tb_one]
      simp only [Bool.or_eq_true, decide_eq_true_eq, maskE_tb l, List.mem_cons]
      constructor
      · rintro ((rfl | h) | ⟨e', h1, h2⟩)
        · exact ⟨e, .inl rfl, hb, .inl rfl⟩
        · exact ⟨e, .inl rfl, hb, .inr h⟩
        · exact ⟨e', .inr h1, h2⟩
      · rintro ⟨e', rfl | h1, h2, h3⟩
        · rcases h3 with rfl | h3
          · exact .inl (.inl rfl)
          · exact .inl (.inr h3)
        · exact .inr ⟨e', h1, h2, h3⟩
    · rename_i hb
      rw [maskE_tb l]
      constructor
      · rintro ⟨e', h1, h2⟩; exact ⟨e', List.mem_cons_of_mem _ h1, h2⟩
      · rintro ⟨e', h1, h2, h3⟩
        rcases List.mem_cons.1 h1 with rfl | h1
        · rw [hb] at h2; cases h2
        · exact ⟨e', h1, h2, h3⟩
noncomputable def masks : List Oper → List Nat → List Nat
  | [], acc => acc
  | o :: l, acc => masks l (acc ++ [maskE acc o.after.toList])
/-- The masks are what they should be, and each speaks of lesser numbers alone. -/
noncomputable def masksOk (pm : List Nat) : Nat → List Oper → Bool
  | _, [] => true
  | i, o :: l => match Nat.beq (getN pm i) (maskE pm o.after.toList), Nat.blt (getN pm i) (Nat.shiftLeft 1 i) with
    | true, true => masksOk pm (i + 1) l
    | _, _ => false
theorem masksOk_spec {pm : List Nat} : ∀ (l : List Oper) (i : Nat), masksOk pm i l = true → ∀ k o, l[k]? = some o → getN pm (i + k) = maskE pm o.after.toList ∧ getN pm (i + k) < 2 ^ (i + k)
  | [], _, _, k, o, h => by simp at h
  | x :: l, i, h, k, o, ho => by
    simp only [masksOk] at h
    split at h
    · rename_i h1 h2
      cases k with
      | zero =>
        simp at ho; subst ho
        refine ⟨Nat.eq_of_beq_eq_true h1, ?_⟩
        have := Nat.blt_eq.mp h2
        rwa [show Nat.shiftLeft 1 i = 2 ^ i from Nat.one_shiftLeft i] at this
      | succ k =>
        have := masksOk_spec l (i + 1) h k o (by simpa using ho)
        rwa [show i + 1 + k = i + (k + 1) by omega] at this
    · cases h
/-- The slots that the i-th operation is kept from: those of operations that may come before or behind it. -/
noncomputable def hidGo (pm : List Nat) (i : Nat) : Nat → List Oper → List Tmp
  | _, [] => []
  | j, o :: l => match o.dst with
    | none => hidGo pm i (j + 1) l
    | some s => match Nat.beq j i with
      | true => hidGo pm i (j + 1) l
      | false => match tb (getN pm i) j with
        | true => hidGo pm i (j + 1) l
        | false => match tb (getN pm j) i with
          | true => hidGo pm i (j + 1) l
          | false => s :: hidGo pm i (j + 1) l
theorem hidGo_mem {pm : List Nat} {i s : Nat} : ∀ (l : List Oper) (j k : Nat) (o : Oper), l[k]? = some o → j + k ≠ i → o.dst = some s → tb (getN pm i) (j + k) = false → tb (getN pm (j + k)) i = false → s ∈ hidGo pm i j l
  | [], _, k, o, h, _, _, _, _ => by simp at h
  | x :: l, j, k, o, ho, hne, hd, h1, h2 => by
    have sub : ∀ s', s' ∈ hidGo pm i (j + 1) l → s' ∈ hidGo pm i j (x :: l) := fun s' hs => by
      simp only [hidGo]
      split
      · exact hs
      · split
        · exact hs
        · split
          · exact hs
          · split
            · exact hs
            · exact List.mem_cons_of_mem _ hs
    cases k with
    | zero =>
      simp at ho; subst ho
      simp only [Nat.add_zero] at hne h1 h2
      simp only [hidGo, hd]
      rw [show Nat.beq j i = false from (by cases h : Nat.beq j i with | false => rfl | true => exact absurd (Nat.eq_of_beq_eq_true h) hne), h1, h2]
      exact List.mem_cons_self
    | succ k => exact sub s (hidGo_mem l (j + 1) k o (by simpa using ho) (by omega) hd (by rwa [show j + 1 + k = j + (k + 1) by omega]) (by rwa [show j + 1 + k = j + (k + 1) by omega]))
/-- No slot is written twice. -/
noncomputable def dstOk : Nat → List Oper → Bool
  | _, [] => true
  | m, o :: l => match o.dst with
    | none => dstOk m l
    | some s => match tb m s with
      | true => false
      | false => dstOk (Nat.lor m (Nat.shiftLeft 1 s)) l
theorem dstOk_spec {s : Nat} : ∀ (l : List Oper) (m : Nat), dstOk m l = true → (tb m s = true → ∀ (k : Nat) (o : Oper), l[k]? = some o → o.dst ≠ some s) ∧ ∀ (k k' : Nat) (o o' : Oper), l[k]? = some o → l[k']? = some o' → o.dst = some s → o'.dst = some s → k = k'
  | [], _, _ => ⟨fun _ k o h => by simp at h, fun k k' o o' h => by simp at h⟩
  | x :: l, m, h => by
    simp only [dstOk] at h
    split at h
    · rename_i hd
      obtain ⟨h1, h2⟩ := dstOk_spec l m h
      refine ⟨fun hm k o ho => ?_, fun k k' o o' ho ho' e e' => ?_⟩
      · cases k with
        | zero => simp at ho; subst ho; rw [hd]; simp
        | succ k => exact h1 hm k o (by simpa using ho)
      · cases k with
        | zero => simp at ho; subst ho; rw [hd] at e; cases e
        | succ k => cases k' with
          | zero => simp at ho'; subst ho'; rw [hd] at e'; cases e'
          | succ k' => rw [h2 k k' o o' (by simpa using ho) (by simpa using ho') e e']
    · rename_i d hd
      split at h
      · cases h
      · rename_i hb
        obtain ⟨h1, h2⟩ := dstOk_spec l _ h
        have new : ∀ (k : Nat) (o : Oper), d = s → l[k]? = some o → o.dst ≠ some s := fun k o e => h1 (by rw [tb_lor, tb_one]; simp [e]) k o
        refine ⟨fun hm k o ho => ?_, fun k k' o o' ho ho' e e' => ?_⟩
        · cases k with
          | zero => simp at ho; subst ho; rw [hd]; intro e; cases e; rw [hm] at hb; cases hb
          | succ k => exact h1 (by rw [tb_lor, hm]; rfl) k o (by simpa using ho)
        · cases k with
          | zero =>
            simp at ho; subst ho; rw [hd] at e; cases e
            cases k' with
            | zero => rfl
            | succ k' => exact absurd e' (new k' o' rfl (by simpa using ho'))
          | succ k => cases k' with
            | zero => simp at ho'; subst ho'; rw [hd] at e'; cases e'; exact absurd e (new k o rfl (by simpa using ho))
            | succ k' => rw [h2 k k' o o' (by simpa using ho) (by simpa using ho') e e']

/-! ### The trace -/
noncomputable def traceT (P : Program) [Tab P] (n : Nat) (step : StepX) (all : List Oper) (pm : List Nat) : Nat → List Oper → Tr V → Tr Bk → Nat → Option (List S3)
  | _, [], T, H, nx => some [(T, H, nx)]
  | i, o :: l, T, H, nx => match stepT P n step all (hidGo pm i 0 all) o T H nx with
    | some (T', H', nx') => match traceT P n step all pm (i + 1) l T' H' nx' with
      | some L => some ((T, H, nx) :: L)
      | none => none
    | none => none
def at3 (L : List S3) (i : Nat) : S3 := L.getD i (.nil, .nil, 0)
theorem traceT_spec {P : Program} [Tab P] {n : Nat} {step : StepX} {all : List Oper} {pm : List Nat} : ∀ (l : List Oper) (i : Nat) (T : Tr V) (H : Tr Bk) (nx : Nat) (L : List S3), traceT P n step all pm i l T H nx = some L →
    L.length = l.length + 1 ∧ at3 L 0 = (T, H, nx) ∧ ∀ k o, l[k]? = some o → stepT P n step all (hidGo pm (i + k) 0 all) o (at3 L k).1 (at3 L k).2.1 (at3 L k).2.2 = some (at3 L (k + 1))
  | [], i, T, H, nx, L, h => by
    simp only [traceT, Option.some.injEq] at h; subst h
    exact ⟨rfl, rfl, fun k o ho => by simp at ho⟩
  | x :: l, i, T, H, nx, L, h => by
    simp only [traceT] at h
    split at h
    · rename_i T' H' nx' hs
      split at h
      · rename_i L' hL
        cases h
        obtain ⟨h1, h2, h3⟩ := traceT_spec l (i + 1) T' H' nx' L' hL
        refine ⟨by simp [h1], rfl, fun k o ho => ?_⟩
        cases k with
        | zero =>
          simp at ho; subst ho
          show stepT P n step all _ x T H nx = some (at3 L' 0)
          rw [h2]; exact hs
        | succ k =>
          have := h3 k o (by simpa using ho)
          rwa [show i + 1 + k = i + (k + 1) by omega] at this
      · cases h
    · cases h
end Go.Xm

/- MACHINE X, PART Z: 'drawX' tells the truth; what a run of the whole machine says of a call. -/
import Derived.Test.YtgbpggllmcpicaaGreatMachY
namespace Go.Xm
open Go Go.Cr Go.RowKit

noncomputable def effM : Nat → List Oper → Nat
  | _, [] => 0
  | i, o :: l => match kd o.op with
    | .eff => Nat.lor (Nat.shiftLeft 1 i) (effM (i + 1) l)
    | _ => effM (i + 1) l
noncomputable def nxM : Nat → List S3 → Nat
  | _, [] => 0
  | i, s :: L => match L with
    | [] => 0
    | s' :: _ => match Nat.beq s.2.2 s'.2.2 with
      | true => nxM (i + 1) L
      | false => Nat.lor (Nat.shiftLeft 1 i) (nxM (i + 1) L)
theorem effM_tb : ∀ (l : List Oper) (i k : Nat) (o : Oper), l[k]? = some o → kd o.op = .eff → tb (effM i l) (i + k) = true
  | [], _, k, o, h, _ => by simp at h
  | x :: l, i, k, o, ho, hk => by
    cases k with
    | zero =>
      simp at ho; subst ho
      simp only [effM, hk]
      rw [tb_lor, tb_one]; simp
    | succ k =>
      have := effM_tb l (i + 1) k o (by simpa using ho) hk
      rw [show i + 1 + k = i + (k + 1) by omega] at this
      simp only [effM]
      split
      · rw [tb_lor, this]; simp
      · exact this
theorem effM_eff : ∀ (l : List Oper) (i j : Nat), tb (effM i l) j = true → ∃ k o, j = i + k ∧ l[k]? = some o ∧ kd o.op = .eff
  | [], _, j, h => by simp [effM, tb_zero] at h
  | x :: l, i, j, h => by
    have rec' : tb (effM (i + 1) l) j = true → ∃ k o, j = i + k ∧ (x :: l)[k]? = some o ∧ kd o.op = .eff := fun h => by
      obtain ⟨k, o, h1, h2, h3⟩ := effM_eff l (i + 1) j h
      exact ⟨k + 1, o, by omega, by simpa using h2, h3⟩
    simp only [effM] at h
    split at h
    · rename_i hk
      rw [tb_lor, tb_one] at h
      simp only [Bool.or_eq_true, decide_eq_true_eq] at h
      rcases h with rfl | h
      · exact ⟨0, x, rfl, rfl, hk⟩
      · exact rec' h
    · exact rec' h
theorem nxM_cons (i : Nat) (s s' : S3) (L : List S3) : nxM i (s :: s' :: L) = match Nat.beq s.2.2 s'.2.2 with
      | true => nxM (i + 1) (s' :: L)
      | false => Nat.lor (Nat.shiftLeft 1 i) (nxM (i + 1) (s' :: L)) := rfl
theorem nxM_tb : ∀ (L : List S3) (i k : Nat), k + 1 < L.length → (at3 L k).2.2 ≠ (at3 L (k + 1)).2.2 → tb (nxM i L) (i + k) = true
  | [], _, k, h, _ => by simp at h
  | [s], _, k, h, _ => by simp at h
  | s :: s' :: L, i, k, h, hne => by
    rw [nxM_cons]
    cases k with
    | zero =>
      have hb : Nat.beq s.2.2 s'.2.2 = false := by
        cases hb : Nat.beq s.2.2 s'.2.2 with
        | false => rfl
        | true => exact absurd (Nat.eq_of_beq_eq_true hb) hne
      rw [hb]
      simp only
      rw [tb_lor, tb_one]; simp
    | succ k =>
      have := nxM_tb (s' :: L) (i + 1) k (by simpa using h) hne
      rw [show i + 1 + k = i + (k + 1) by omega] at this
      split
      · exact this
      · rw [tb_lor, this]; simp
noncomputable def effsOk (pm : List Nat) (hv : Nat) : Nat → List Oper → Bool
  | _, [] => true
  | i, o :: l => match kd o.op with
    | .eff => match Nat.beq (Nat.land (Nat.mod hv (Nat.shiftLeft 1 i)) (getN pm i)) (Nat.mod hv (Nat.shiftLeft 1 i)) with
      | true => effsOk pm hv (i + 1) l
      | false => false
    | _ => effsOk pm hv (i + 1) l
theorem effsOk_spec {pm : List Nat} {hv : Nat} : ∀ (l : List Oper) (i : Nat), effsOk pm hv i l = true → ∀ k o, l[k]? = some o → kd o.op = .eff → ∀ j, j < i + k → tb hv j = true → tb (getN pm (i + k)) j = true
  | [], _, _, k, o, h => by simp at h
  | x :: l, i, h, k, o, ho => by
    simp only [effsOk] at h
    cases k with
    | zero =>
      simp at ho; subst ho
      intro hk j hj hb
      rw [hk] at h
      simp only at h
      split at h
      · rename_i he
        have he := Nat.eq_of_beq_eq_true he
        rw [show Nat.shiftLeft 1 i = 2 ^ i from Nat.one_shiftLeft i] at he
        have h1 : (hv % 2 ^ i).testBit j = true := by rw [Nat.testBit_mod_two_pow, ← tb_eq, hb]; simpa using hj
        have h2 : ((hv % 2 ^ i) &&& getN pm i).testBit j = true := by
          have : (hv % 2 ^ i) &&& getN pm i = hv % 2 ^ i := he
          rw [this]; exact h1
        rw [Nat.testBit_and, Bool.and_eq_true] at h2
        rw [tb_eq]; exact h2.2
      · cases h
    | succ k =>
      have h' : effsOk pm hv (i + 1) l = true := by
        split at h
        · split at h
          · exact h
          · cases h
        · exact h
      have := effsOk_spec l (i + 1) h' k o (by simpa using ho)
      rwa [show i + 1 + k = i + (k + 1) by omega] at this

/-! ### Readers -/
noncomputable def chkR (P : Program) [Tab P] (pmi em : Nat) (o : Oper) (ev : Operand → Option V) (v : V) (q : Nat) (s : S3) : Bool := match Nat.blt (Nat.land pmi em) (Nat.shiftLeft 1 q) with
  | false => true
  | true => match opX P (lowE s.2.2 ev) s.2.1 s.2.2 o with
    | some (some v', _, _) => sameV v v'
    | _ => false
noncomputable def readGo (P : Program) [Tab P] (pm : List Nat) (em i : Nat) (o : Oper) (ev : Operand → Option V) (v : V) : Nat → List Oper → List S3 → Bool
  | j, o' :: l, _ :: L => match kd o'.op with
    | .eff => match tb (getN pm j) i with
      | true => true
      | false => match L with
        | s' :: _ => match chkR P (getN pm i) em o ev v (j + 1) s' with
          | true => readGo P pm em i o ev v (j + 1) l L
          | false => false
        | [] => false
    | _ => readGo P pm em i o ev v (j + 1) l L
  | _, _, _ => true
noncomputable def readsGo (P : Program) [Tab P] (pm : List Nat) (em : Nat) (all : List Oper) (L0 : List S3) : Nat → List Oper → List S3 → Bool
  | i, o :: l, s :: L => match kd o.op with
    | .read => match wantX all (hide (hidGo pm i 0 all) s.1) o with
      | some true => match opX P (evalX (hide (hidGo pm i 0 all) s.1)) s.2.1 s.2.2 o with
        | some (some v, _, _) => match chkR P (getN pm i) em o (evalX (hide (hidGo pm i 0 all) s.1)) v 0 (at3 L0 0), readGo P pm em i o (evalX (hide (hidGo pm i 0 all) s.1)) v 0 all L0 with
          | true, true => readsGo P pm em all L0 (i + 1) l L
          | _, _ => false
        | _ => false
      | _ => readsGo P pm em all L0 (i + 1) l L
    | _ => readsGo P pm em all L0 (i + 1) l L
  | _, _, _ => true
theorem readGo_spec {P : Program} [Tab P] {pm : List Nat} {em i : Nat} {o : Oper} {ev : Operand → Option V} {v : V} : ∀ (l : List Oper) (j : Nat) (L : List S3), L.length = l.length + 1 → readGo P pm em i o ev v j l L = true →
    ∀ k o', l[k]? = some o' → kd o'.op = .eff → (∀ k' o2, k' ≤ k → l[k']? = some o2 → kd o2.op = .eff → tb (getN pm (j + k')) i = false) → chkR P (getN pm i) em o ev v (j + k + 1) (at3 L (k + 1)) = true
  | [], _, _, _, _, k, o', h => by simp at h
  | x :: l, j, [], hL, _, _, _, _ => by simp at hL
  | x :: l, j, [s], hL, _, _, _, _ => by simp at hL
  | x :: l, j, s :: s' :: L, hL, h, k, o', ho => by
    intro hk hall
    simp only [readGo] at h
    have h' : (kd x.op = .eff → chkR P (getN pm i) em o ev v (j + 1) s' = true) ∧ readGo P pm em i o ev v (j + 1) l (s' :: L) = true := by
      split at h
      · rename_i hx
        rw [show tb (getN pm j) i = false from hall 0 x (Nat.zero_le k) rfl hx] at h
        simp only at h
        split at h
        · rename_i hc; exact ⟨fun _ => hc, h⟩
        · cases h
      · rename_i hx; exact ⟨fun e => absurd e hx, h⟩
    cases k with
    | zero => simp at ho; subst ho; exact h'.1 hk
    | succ k =>
      have := readGo_spec l (j + 1) (s' :: L) (by simpa using hL) h'.2 k o' (by simpa using ho) hk fun k' o2 hk' ho2 he => by
        have := hall (k' + 1) o2 (by omega) (by simpa using ho2) he
        rwa [show j + (k' + 1) = j + 1 + k' by omega] at this
      rwa [show j + 1 + k + 1 = j + (k + 1) + 1 by omega] at this
theorem readsGo_spec {P : Program} [Tab P] {pm : List Nat} {em : Nat} {all : List Oper} {L0 : List S3} : ∀ (l : List Oper) (i : Nat) (L : List S3), L.length = l.length + 1 → readsGo P pm em all L0 i l L = true →
    ∀ k o, l[k]? = some o → kd o.op = .read → wantX all (hide (hidGo pm (i + k) 0 all) (at3 L k).1) o = some true → ∃ v H nx, opX P (evalX (hide (hidGo pm (i + k) 0 all) (at3 L k).1)) (at3 L k).2.1 (at3 L k).2.2 o = some (some v, H, nx) ∧
      chkR P (getN pm (i + k)) em o (evalX (hide (hidGo pm (i + k) 0 all) (at3 L k).1)) v 0 (at3 L0 0) = true ∧ readGo P pm em (i + k) o (evalX (hide (hidGo pm (i + k) 0 all) (at3 L k).1)) v 0 all L0 = true
  | [], _, _, _, _, k, o, h => by simp at h
  | x :: l, i, [], hL, _, _, _, _ => by simp at hL
  | x :: l, i, s :: L, hL, h, k, o, ho => by
    simp only [readsGo] at h
    cases k with
    | zero =>
      simp at ho; subst ho
      intro hk hw
      rw [hk] at h
      simp only at h
      rw [show wantX all (hide (hidGo pm i 0 all) s.1) x = some true from hw] at h
      simp only at h
      split at h
      · rename_i v H nx hx
        split at h
        · rename_i h1 h2; exact ⟨v, H, nx, hx, h1, h2⟩
        · cases h
      · cases h
    | succ k =>
      have h' : readsGo P pm em all L0 (i + 1) l L = true := by
        split at h
        · split at h
          · split at h
            · split at h
              · exact h
              · cases h
            · cases h
          · exact h
        · exact h
      have := readsGo_spec l (i + 1) L (by simpa using hL) h' k o (by simpa using ho)
      rwa [show i + 1 + k = i + (k + 1) by omega] at this

/-! ### The whole -/
noncomputable def last3 : List S3 → Option S3
  | [] => none
  | s :: L => match L with
    | [] => some s
    | _ :: _ => last3 L
theorem last3_at : ∀ (L : List S3) (s : S3), last3 L = some s → s = at3 L (L.length - 1)
  | [], _, h => by simp [last3] at h
  | [x], s, h => by simp only [last3, Option.some.injEq] at h; subst h; rfl
  | x :: y :: L, s, h => by
    have := last3_at (y :: L) s (by simpa [last3] using h)
    simpa [at3] using this
noncomputable def drawM (P : Program) [Tab P] (n : Nat) (step : StepX) (all : List Oper) (pm : List Nat) (em : Nat) (t : Tr V) (H : Tr Bk) (nx : Nat) : Option S3 := match masksOk pm 0 all, dstOk 0 all with
  | true, true => match traceT P n step all pm 0 all t H nx with
    | some L => match effsOk pm (Nat.lor em (nxM 0 L)) 0 all, readsGo P pm em all L 0 all L with
      | true, true => last3 L
      | _, _ => none
    | none => none
  | _, _ => none
noncomputable def drawX (P : Program) [Tab P] : DrawX := fun n step ops t H nx => drawM P n step ops.toList (masks ops.toList []) (effM 0 ops.toList) t H nx

theorem drawX_ok {P : Program} [Tab P] : DrawOK P (drawX P) := by
  intro call hcall ro n ops t H nx r hr N μ a w Q hs hi hQ
  unfold drawX drawM at hr
  split at hr
  · rename_i hm hdst
    split at hr
    · rename_i L hL
      split at hr
      · rename_i heff hread
        obtain ⟨h1, h2, h3⟩ := traceT_spec _ _ _ _ _ _ hL
        have hlast := last3_at L r hr
        rw [h1, Nat.add_sub_cancel] at hlast
        generalize hpm : masks ops.toList [] = pm at *
        have hmask : ∀ (k : Nat) (o : Oper), ops.toList[k]? = some o → getN pm k = maskE pm o.after.toList ∧ getN pm k < 2 ^ k := fun k o ho => by
          have := masksOk_spec _ 0 hm k o ho
          rwa [Nat.zero_add] at this
        have D : DH P n (stepC P call) ops.toList (fun i => (at3 L i).1) (fun i => (at3 L i).2.1) (fun i => (at3 L i).2.2) (fun j i => tb (getN pm i) j = true) (fun i => hidGo pm i 0 ops.toList) := by
          refine ⟨fun i o ho => ?_, fun j i hj hp => ?_, fun i o e ho he hb => ?_, fun i o j ho hp => ?_, fun i j o s hi' hoj hne hd hp1 hp2 => ?_, fun i o j o' ho hk hj hoj hor => ?_, fun i j o o' s ho hoj hd hd' => (dstOk_spec _ 0 hdst).2 i j o o' ho hoj hd hd', fun i o ho hk hw q hq hc1 hc2 r' hx => ?_⟩
          · have := h3 i o ho
            rwa [Nat.zero_add] at this
          · have hlt := (hmask i _ (List.getElem?_eq_getElem hj)).2
            rcases Nat.lt_or_ge j i with g | g
            · exact g
            · rw [tb_eq, Nat.testBit_lt_two_pow (Nat.lt_of_lt_of_le hlt (Nat.pow_le_pow_right (by omega) g))] at hp
              cases hp
          · show tb (getN pm i) e.on = true
            rw [(hmask i o ho).1]
            exact (maskE_tb _).2 ⟨e, by simpa using he, hb, .inl rfl⟩
          · rw [(hmask i o ho).1] at hp
            obtain ⟨e, h4, h5, h6⟩ := (maskE_tb _).1 hp
            exact ⟨e, by simpa using h4, h5, h6⟩
          · refine hidGo_mem _ 0 j o hoj (by omega) hd ?_ ?_
            · rw [Nat.zero_add]; simpa using hp1
            · rw [Nat.zero_add]; simpa using hp2
          · have := effsOk_spec _ 0 heff i o ho hk j (by omega) ?_
            · rwa [Nat.zero_add] at this
            · rw [tb_lor, Bool.or_eq_true]
              rcases hor with hor | hor
              · have := effM_tb _ 0 j o' hoj hor
                rw [Nat.zero_add] at this; exact .inl this
              · have hlt := (List.getElem?_eq_some_iff.1 hoj).1
                have := nxM_tb L 0 j (by omega) hor
                rw [Nat.zero_add] at this; exact .inr this
          · have hrd := readsGo_spec _ 0 L h1 hread i o ho hk (by rw [Nat.zero_add]; exact hw)
            rw [Nat.zero_add] at hrd
            obtain ⟨v, H2, nx2, g1, g2, g3⟩ := hrd
            rw [g1] at hx; cases hx
            have hcond : Nat.blt (Nat.land (getN pm i) (effM 0 ops.toList)) (Nat.shiftLeft 1 q) = true := by
              rw [Nat.blt_eq, show Nat.shiftLeft 1 q = 2 ^ q from Nat.one_shiftLeft q]
              refine Nat.lt_pow_two_of_testBit _ fun j hj => ?_
              show ((getN pm i) &&& effM 0 ops.toList).testBit j = false
              rw [Nat.testBit_and]
              cases hb : (effM 0 ops.toList).testBit j with
              | false => simp
              | true =>
                rw [← tb_eq] at hb
                obtain ⟨k, o2, e1, e2, e3⟩ := effM_eff _ _ _ hb
                have hjk : j = k := by omega
                subst hjk
                have := hc1 j o2 e2 e3 hj
                rw [tb_eq] at this
                simpa using this
            have hchk : chkR P (getN pm i) (effM 0 ops.toList) o (evalX (hide (hidGo pm i 0 ops.toList) (at3 L i).1)) v q (at3 L q) = true := by
              rcases hq with rfl | ⟨E, o2, rfl, e1, e2⟩
              · exact g2
              · have := readGo_spec _ 0 L h1 g3 E o2 e1 e2 fun k' o3 hk' ho3 hk3 => by
                  have := hc2 k' o3 ho3 hk3 (by omega)
                  rw [Nat.zero_add]; simpa using this
                rwa [Nat.zero_add] at this
            unfold chkR at hchk
            rw [hcond] at hchk
            simp only at hchk
            split at hchk
            · rename_i v' H3 nx3 hx3
              rw [sameV_eq _ _ hchk]
              exact ⟨_, _, hx3⟩
            · cases hchk
        have h0 : (at3 L 0) = (t, H, nx) := h2
        have hsz : ops.toList.length = ops.size := by simp
        have hstart : DI n ops.toList (fun i => (at3 L i).1) (fun i => (at3 L i).2.1) (fun i => (at3 L i).2.2) (fun j i => tb (getN pm i) j = true) N μ w a.defers (fun _ => False) a w μ 0 := by
          have hcut : cut μ nx = μ := by
            funext b
            unfold cut
            by_cases g : b < nx
            · rw [if_pos g]
            · rw [if_neg g]; exact (hi.fresh b (by omega)).symm
          refine ⟨Ext.refl μ, fun b hb => hi.fresh b (Nat.le_trans ?_ hb), fun j hj _ b hb _ => hi.fresh b (Nat.le_trans ?_ hb), fun _ _ h => h.elim, fun _ h => h.elim, .inl rfl, fun _ _ _ _ h => h.elim, fun s v _ hv => ?_, fun _ _ _ _ h => h.elim, hs.size, rfl, Keep.refl N w, ?_, fun _ h => h.elim, fun _ _ _ _ h => h.elim⟩
          · have := D.mono (Nat.zero_le ops.toList.length) (Nat.le_refl _)
            simp only [h0] at this; exact this
          · have := D.mono (Nat.zero_le j) (Nat.le_of_lt hj)
            simp only [h0] at this; exact this
          · simp only [h0] at hv ⊢
            rw [hcut]; exact hs.get s v hv
          · simp only [h0]
            rw [hcut]
            exact hi.less (fun r hr => hr.elim id fun ⟨_, _, h, _⟩ => h.elim) fun r hr => hr.elim id fun ⟨_, _, h, _⟩ => h.elim
        have hops : ops = ops.toList.toArray := by simp
        rw [hops]
        have := draws hcall D (ro := ro) (Q := Q) (μ0 := μ) (w0 := w) (N := N) (df := a.defers) (fun a' w' μ' e1 e2 e3 e4 e5 => hQ a' w' μ' e1 (by rw [hlast]; exact e2) e3 (by rw [hlast]; exact e4) e5)
          ops.toList.toArray.size (Array.replicate ops.toList.toArray.size false) (fun _ => False) a w μ 0 (by simp) (fun j hj => by simp [Array.getD_eq_getD_getElem?] at hj ⊢; simp [hj]) ?_ hstart
        · exact this
        · have : ∀ (f : Nat → Bool) m, cnt f m ≤ m := fun f m => by
            induction m with
            | zero => exact Nat.le_refl _
            | succ m ih => simp only [cnt]; split <;> omega
          simpa using this _ ops.toList.length
      · cases hr
    · cases hr
  · cases hr
end Go.Xm

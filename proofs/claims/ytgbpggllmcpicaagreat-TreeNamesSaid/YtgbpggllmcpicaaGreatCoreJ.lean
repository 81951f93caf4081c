/- THE OWN LAYER, PART J: calls by contract; a function entered and left. -/
import Derived.Test.YtgbpggllmcpicaaGreatCoreH
namespace Go.Cr
open Go Go.RowKit

/-- A value as the results of a call. -/
def resDen (ok : Nat → Prop) (w : World) : List I → Value → Prop
  | [r], v => I.den ok w r v
  | rs, v => ∃ vs : List Value, v = .tuple vs.toArray ∧ I.dens ok w rs vs
/-- THE CONTRACT of a function that reads such data and hands back such data; all that was there stays. -/
structure Pure (P : Program) (f : FuncId) (args res : List I) : Prop where
  ex : ∃ fn, P.funcs[f]? = some fn ∧ (fn.name == "runtime.NumGoroutine") = false ∧ fn.body.isNone = false
  run : ∀ (M : Nat → Prop) (w : World) (vs : List Value), (∀ b, M b → b < w.heap.size) → I.dens (fun b => b < w.heap.size ∧ ¬ M b) w args vs →
    Calls P f vs.toArray w fun e w' => ∃ v, e = .returned v ∧ resDen (fun b => b < w'.heap.size ∧ ¬ M b) w' res v ∧ Below w.heap.size w w'

def Sg.opdL (σ : Sg) : List Operand → Option (List D)
  | [] => some []
  | x :: l => match σ.opd x, σ.opdL l with
    | some d, some q => some (d :: q)
    | _, _ => none
def immL (l : List D) : Option (List I) := match l with
  | [] => some []
  | d :: l => match d.immOf, immL l with
    | some i, some q => some (i :: q)
    | _, _ => none
/-- .. the own rows as they are now. -/
def Sg.snapL (σ : Sg) : List D → Option (List I)
  | [] => some []
  | d :: l => match (match σ.rd d with
      | some x => some (I.slice x)
      | none => match d with
        | .imm i => some i
        | _ => none), σ.snapL l with
    | some i, some q => some (i :: q)
    | _, _ => none
def Sg.snapI (σ : Sg) (d : D) : Option I :=
  match σ.rd d with
  | some x => some (.slice x)
  | none => match d with
    | .imm i => some i
    | .agg l => (σ.snapL l).map .agg
    | _ => none
def Sg.snaps (σ : Sg) : List D → Option (List I)
  | [] => some []
  | d :: l => match σ.snapI d, σ.snaps l with
    | some i, some q => some (i :: q)
    | _, _ => none
/-- Does data name no memory? -/
def I.plain : I → Bool
  | .val _ => true
  | .slice _ => false
  | .agg l => plains l
where
  plains : List I → Bool
  | [] => true
  | i :: l => i.plain && plains l
mutual
theorem plain_den {ok ok' : Nat → Prop} {w w' : World} : ∀ (i : I) (v : Value), i.plain = true → I.den ok w i v → I.den ok' w' i v
  | .val _, _, _, h => h
  | .slice _, _, hp, _ => by simp [I.plain] at hp
  | .agg l, _, hp, ⟨cs, e, h⟩ => ⟨cs, e, plains_den l cs hp h⟩
theorem plains_den {ok ok' : Nat → Prop} {w w' : World} : ∀ (l : List I) (vs : List Value), I.plain.plains l = true → I.dens ok w l vs → I.dens ok' w' l vs
  | [], _, _, h => h
  | i :: l, _, hp, ⟨v, r, e, h1, h2⟩ => by
    simp only [I.plain.plains, Bool.and_eq_true] at hp
    exact ⟨v, r, e, plain_den i v hp.1 h1, plains_den l r hp.2 h2⟩
end

section
variable {n : Nat} {c : Cx n} {σ : Sg} {ρ : Nat → R} {a : Act} {w : World}
variable {P : Program} {s : Nat} {ty : TypeId} {pos : String} {af : Array Edge} {g : Option (Nat × Bool)} {x y : Operand} {T T' : TypeId} {k k' : IntKind} {m m' : Int}
variable {sz by' sz' by'' : Nat} {z z' : Option Value} {td : TD}

theorem snapL_den (hr : RelR c σ ρ a w) : ∀ (l : List D) (vs : List Value) (is : List I), σ.snapL l = some is → D.rels (okB c σ.blk ρ w) w σ.blk ρ l vs → I.dens (okM c w) w is vs
  | [], _, is, h, hv => by simp only [Sg.snapL, Option.some.injEq] at h; subst h; exact hv
  | d :: l, _, is, h, ⟨v, r, e, h1, h2⟩ => by
    simp only [Sg.snapL] at h
    split at h
    · rename_i i q hi hq
      simp only [Option.some.injEq] at h
      subst h
      refine ⟨v, r, e, ?_, snapL_den hr l r q hq h2⟩
      split at hi
      · rename_i x hx
        simp only [Option.some.injEq] at hi
        subst hi
        exact rd_den hr hx h1
      · split at hi
        · simp only [Option.some.injEq] at hi; subst hi; exact I.den_mono keeps_okM _ _ h1
        · simp at hi
    · simp at h
theorem snapI_den (hr : RelR c σ ρ a w) {d : D} {v : Value} {i : I} (h : σ.snapI d = some i) (hv : d.rel (okB c σ.blk ρ w) w σ.blk ρ v) : I.den (okM c w) w i v := by
  unfold Sg.snapI at h
  split at h
  · rename_i x hx
    simp only [Option.some.injEq] at h
    subst h
    exact rd_den hr hx hv
  · split at h
    · simp only [Option.some.injEq] at h; subst h; exact I.den_mono keeps_okM _ _ hv
    · simp only [Option.map_eq_some_iff] at h
      obtain ⟨is, h1, rfl⟩ := h
      obtain ⟨cs, e, hl⟩ := hv
      exact ⟨cs, e, snapL_den hr _ cs is h1 hl⟩
    · simp at h
theorem snaps_den (hr : RelR c σ ρ a w) : ∀ (l : List D) (vs : List Value) (is : List I), σ.snaps l = some is → D.rels (okB c σ.blk ρ w) w σ.blk ρ l vs → I.dens (okM c w) w is vs
  | [], _, is, h, hv => by simp only [Sg.snaps, Option.some.injEq] at h; subst h; exact hv
  | d :: l, _, is, h, ⟨v, r, e, h1, h2⟩ => by
    simp only [Sg.snaps] at h
    split at h
    · rename_i i q hi hq
      simp only [Option.some.injEq] at h
      subst h
      exact ⟨v, r, e, snapI_den hr hi h1, snaps_den hr l r q hq h2⟩
    · simp at h
theorem immL_dens {ok : Nat → Prop} {hb : Nat → Option Blk} : ∀ (l : List D) (vs : List Value) (is : List I), immL l = some is → D.rels ok w hb ρ l vs → I.dens ok w is vs
  | [], _, is, h, hv => by simp only [immL, Option.some.injEq] at h; subst h; exact hv
  | d :: l, _, is, h, ⟨v, r, e, h1, h2⟩ => by
    simp only [immL] at h
    split at h
    · rename_i i q hi hq
      simp only [Option.some.injEq] at h
      subst h
      exact ⟨v, r, e, immOf_den hi h1, immL_dens l r q hq h2⟩
    · simp at h
theorem opdL_rels (hr : RelR c σ ρ a w) : ∀ (l : List Operand) (ds : List D), σ.opdL l = some ds → D.rels (okB c σ.blk ρ w) w σ.blk ρ ds (l.map a.eval)
  | [], ds, h => by simp only [Sg.opdL, Option.some.injEq] at h; subst h; rfl
  | x :: l, ds, h => by
    simp only [Sg.opdL] at h
    split at h
    · rename_i d q h1 h2
      simp only [Option.some.injEq] at h
      subst h
      exact ⟨a.eval x, _, rfl, hr.opd h1, opdL_rels hr l q h2⟩
    · simp at h

theorem run_call {ev : Operand → Value} {dst : Option Tmp} {fx : Operand} {l : List Operand} {ats : Array TypeId} {f : FuncId} {cap : List Value} (w : World) (hf : ev fx = .func (.func f) #[] cap.toArray)
    (ex : ∃ fn, P.funcs[f]? = some fn ∧ (fn.name == "runtime.NumGoroutine") = false ∧ fn.body.isNone = false) :
    (execOp ev ⟨dst, .call ⟨.value fx, l.toArray, ats⟩, ty, pos, af, g⟩).run P w = .ok (.enter f (l.map ev ++ cap).toArray) w := by
  obtain ⟨fn, h1, h2, h3⟩ := ex
  have h4 : (callFunc f (l.map ev ++ cap).toArray).run P w = .ok (.enter f (l.map ev ++ cap).toArray) w := by
    unfold callFunc
    simp only [Sem.run_bind, run_program, Result.andThen, h1, h2, h3]
    rfl
  simp only [execOp, resolve, hf, Deferred.ofValue, Sem.run_bind, Sem.run_pure, Result.andThen, invoke]
  rw [← h4]
  congr 2
  simp

def resD : List I → D
  | [r] => .imm r
  | rs => .tup (rs.map .imm)
theorem resD_rel {ok : Nat → Prop} {hb : Nat → Option Blk} {rs : List I} {v : Value} (h : resDen ok w rs v) : (resD rs).rel ok w hb ρ v := by
  match rs, h with
  | [], ⟨vs, e, h⟩ => exact ⟨vs, e, rels_imm [] vs h⟩
  | [r], h => exact h
  | r :: r' :: rs, ⟨vs, e, h⟩ => exact ⟨vs, e, rels_imm _ vs h⟩
theorem resDen_mono {ok ok' : Nat → Prop} {w w' : World} (hk : Keeps ok w ok' w') {rs : List I} {v : Value} (h : resDen ok w rs v) : resDen ok' w' rs v := by
  match rs, h with
  | [], ⟨vs, e, h⟩ => exact ⟨vs, e, I.dens_mono hk [] vs h⟩
  | [r], h => exact I.den_mono hk r v h
  | r :: r' :: rs, ⟨vs, e, h⟩ => exact ⟨vs, e, I.dens_mono hk _ vs h⟩
theorem resDen_plain {ok ok' : Nat → Prop} {w w' : World} {rs : List I} {v : Value} (hp : I.plain.plains rs = true) (h : resDen ok w rs v) : resDen ok' w' rs v := by
  match rs, h, hp with
  | [], ⟨vs, e, h⟩, hp => exact ⟨vs, e, plains_den [] vs hp h⟩
  | [r], h, hp => simp only [I.plain.plains, Bool.and_eq_true] at hp; exact plain_den r v hp.1 h
  | r :: r' :: rs, ⟨vs, e, h⟩, hp => exact ⟨vs, e, plains_den _ vs hp h⟩

theorem Spec.of_call {o : Oper} {σ' : Sg} (h : ∀ ρ a w, RelR c σ ρ a w → ∃ f vs, (execOp a.eval o).run P w = .ok (.enter f vs) w ∧ Calls P f vs w fun e w' => ∃ v, e = .returned v ∧ Rel c σ' (a.put o.dst v) w') : Spec P c o σ σ' := fun a w ⟨ρ, hr⟩ Q => by
  obtain ⟨f, vs, h1, h2⟩ := h ρ a w hr
  unfold Oper.wp; rw [h1]
  exact Calls.mono h2 fun e w' ⟨v, he, hv⟩ => by subst he; exact hv

/-- A call: what goes in and comes out is data that nobody writes. -/
theorem r_call {fx : Operand} {l : List Operand} {ats : Array TypeId} {f : FuncId} {ds : List D} {is res : List I} (hf : σ.opd fx = some (.imm (.val (.func (.func f) #[] #[])))) (hl : σ.opdL l = some ds) (hi : immL ds = some is) (hp : Pure P f is res) (hs : Nat.blt s n = true) :
    Spec P c ⟨some s, .call ⟨.value fx, l.toArray, ats⟩, ty, pos, af, g⟩ σ (.set s (resD res) σ) := Spec.of_call fun ρ a w hr => by
  have hv : a.eval fx = .func (.func f) #[] ([] : List Value).toArray := hr.opd hf
  refine ⟨f, _, run_call w hv hp.ex, ?_⟩
  rw [List.append_nil]
  have hd := immL_dens ds _ is hi (opdL_rels hr l ds hl)
  refine (hp.run (fun b => c.M b ∨ ∃ k x cap, σ.blk k = some x ∧ ρ k = .blk b cap) w _ (fun b hb => ?_) (I.dens_mono (fun b ⟨h1, h2, h3⟩ => ⟨⟨h1, ?_⟩, fun _ => rfl⟩) _ _ hd)).mono fun e w' ⟨v, he, h1, h2⟩ => ⟨v, he, ρ, (hr.below h2).put (Nat.blt_eq.mp hs) (resD_rel (resDen_mono (fun b ⟨g1, g2⟩ => ⟨⟨g1, fun hm => g2 (.inl hm), fun k x r cap hx hR e => g2 (.inr ⟨k, x, cap, hx, e ▸ hR⟩)⟩, fun _ => rfl⟩) h1))⟩
  · rcases hb with hb | ⟨k, x, cap, hx, hR⟩
    · exact Nat.lt_of_lt_of_le (c.hM b hb) hr.kept.size
    · exact (hr.live k x b cap hx hR).1
  · rintro (hm | ⟨k, x, cap, hx, hR⟩)
    · exact h2 hm
    · exact h3 k x b cap hx hR rfl
/-- A call to which own rows are lent; what comes out names no memory. -/
theorem r_call_lend {fx : Operand} {l : List Operand} {ats : Array TypeId} {f : FuncId} {ds : List D} {is res : List I} (hf : σ.opd fx = some (.imm (.val (.func (.func f) #[] #[])))) (hl : σ.opdL l = some ds) (hi : σ.snaps ds = some is) (hp : Pure P f is res) (hpl : I.plain.plains res = true) (hs : Nat.blt s n = true) :
    Spec P c ⟨some s, .call ⟨.value fx, l.toArray, ats⟩, ty, pos, af, g⟩ σ (.set s (resD res) σ) := Spec.of_call fun ρ a w hr => by
  have hv : a.eval fx = .func (.func f) #[] ([] : List Value).toArray := hr.opd hf
  refine ⟨f, _, run_call w hv hp.ex, ?_⟩
  rw [List.append_nil]
  have hd := snaps_den hr ds _ is hi (opdL_rels hr l ds hl)
  exact (hp.run c.M w _ (fun b hb => Nat.lt_of_lt_of_le (c.hM b hb) hr.kept.size) hd).mono fun e w' ⟨v, he, h1, h2⟩ => ⟨v, he, ρ, (hr.below h2).put (Nat.blt_eq.mp hs) (resD_rel (resDen_plain hpl h1))⟩

/-! ### A function entered and left -/
def initS : List I → Nat → Sg
  | [], _ => .nil
  | x :: l, k => .set k (.imm x) (initS l (k + 1))
def Sg.retI (σ : Sg) : List ResultVar → Option (List I)
  | [] => some []
  | .tmp t :: l => match σ.get t, σ.retI l with
    | some d, some q => match σ.snapI d with
      | some i => some (i :: q)
      | none => none
    | _, _ => none
  | .cell t T :: l => match σ.get t, σ.retI l with
    | some (.ptr b 0), some q => match σ.blk b with
      | some (.obj cs _) => match σ.snapL cs with
        | some is => some (.agg is :: q)
        | none => none
      | _ => none
    | _, _ => none
def RetQ (rs : List ResultVar) (res : List I) : Exit → Sg → Prop
  | .ret, σ => σ.retI rs = some res
  | .normal, σ => σ.retI rs = some res
  | _, _ => False

def rvSem (tmps : Array Value) : ResultVar → Sem Value
  | .tmp t => pure (tmps.getD t undef)
  | .cell t T => do loadVar T (← asAddr (tmps.getD t undef))
theorem results_rv (fn : Func) (tmps : Array Value) : results fn tmps = (do
    let vs ← fn.results.mapM (rvSem tmps)
    pure (if h : vs.size = 1 then vs[0] else .tuple vs)) := by
  unfold results
  first
    | rfl
    | (congr 1; congr 1; funext r; cases r <;> rfl)
    | (congr 1; funext r; cases r <;> rfl)
/-- Are the results that lie in variables aggregates of the size? -/
def cellsOk (P : Program) [Tab P] (σ : Sg) : List ResultVar → Bool
  | [] => true
  | .tmp _ :: l => cellsOk P σ l
  | .cell t T :: l => (match σ.get t, Tab.look P T with
    | some (.ptr b 0), some r => match σ.blk b with
      | some (.obj cs _) => r.td.isAgg && Nat.beq cs.length r.size
      | _ => false
    | _, _ => false) && cellsOk P σ l
theorem run_results [Tab P] (hr : RelR c σ ρ a w) : ∀ (rs : List ResultVar) (res : List I), σ.retI rs = some res → cellsOk P σ rs = true → ∃ vs,
    (rs.mapM (rvSem a.tmps)).run P w = .ok vs w ∧ I.dens (okM c w) w res vs
  | [], res, h, _ => by simp only [Sg.retI, Option.some.injEq] at h; subst h; exact ⟨[], rfl, rfl⟩
  | .tmp t :: l, res, h, hc => by
    simp only [Sg.retI] at h
    split at h
    · rename_i d q hd hq
      split at h
      · rename_i i hi
        simp only [Option.some.injEq] at h
        subst h
        obtain ⟨vs, h1, h2⟩ := run_results hr l q hq hc
        refine ⟨_ :: vs, ?_, _, vs, rfl, snapI_den hr hi (hr.slot t d hd), h2⟩
        simp only [List.mapM_cons, Sem.run_bind, rvSem, Sem.run_pure, Result.andThen, h1]
      · simp at h
    · simp at h
  | .cell t T :: l, res, h, hc => by
    simp only [Sg.retI] at h
    split at h
    · rename_i b q hd hq
      split at h
      · rename_i cs e hb
        split at h
        · rename_i is his
          simp only [Option.some.injEq] at h
          subst h
          simp only [cellsOk, hd, hb, Bool.and_eq_true] at hc
          obtain ⟨hc1, hc2⟩ := hc
          split at hc1
          · rename_i b' r hb' hT
            cases hb'
            simp only [hb, Bool.and_eq_true] at hc1
            obtain ⟨vs, h1, h2⟩ := run_results hr l q hq hc2
            obtain ⟨rr, cap, hR, hv⟩ := hr.slot t _ hd cs e hb
            obtain ⟨r', cap', cur, hR', hh, hcs⟩ := hr.blk b _ hb
            rw [hR] at hR'; cases hR'
            have hlen := D.rels_length cs _ hcs
            have hsz := nbeq hc1.2
            obtain ⟨td, sz, by', z⟩ := r
            have hload : (loadVar T ⟨rr, 0, none⟩).run P w = .ok (.agg cur.toList.toArray) w := by
              have := run_loadCells_list (P := P) w ⟨rr, 0, none⟩ cur.toList (fun j v hv => by rw [addr_add]; simp only [World.cell?, hh]; simpa using hv)
              have hl : cur.toList.length = sz := by simp at hlen hsz ⊢; omega
              rw [hl] at this
              simp only [loadVar, Sem.run_bind, Tab.isAgg w hT, Result.andThen, hc1.1, if_true, Tab.sizeOf w hT, this, Sem.run_pure]
            refine ⟨.agg cur.toList.toArray :: vs, ?_, _, vs, rfl, ⟨_, rfl, snapL_den hr cs _ is his hcs⟩, h2⟩
            have ha : (rvSem a.tmps (.cell t T)).run P w = .ok (.agg cur.toList.toArray) w := by
              simp only [rvSem, Sem.run_bind, hv, asAddr, Sem.run_pure, Result.andThen, hload]
            simp only [List.mapM_cons, Sem.run_bind, ha, Result.andThen, h1, Sem.run_pure]
          · simp at hc1
        · simp at h
      · simp at h
    · simp at h

theorem initS_get : ∀ (l : List I) (k s : Nat) (d : D), (initS l k).get s = some d → k ≤ s ∧ ∃ i, l[s - k]? = some i ∧ d = .imm i
  | [], k, s, d, h => by simp [initS, Sg.get] at h
  | x :: l, k, s, d, h => by
    simp only [initS, Sg.get] at h
    cases hb : Nat.beq s k with
    | true => rw [hb] at h; simp at h; have := nbeq hb; subst this; exact ⟨Nat.le_refl _, x, by simp, h.symm⟩
    | false =>
      rw [hb] at h
      obtain ⟨h1, i, h2, h3⟩ := initS_get l (k + 1) s d h
      have hne := nbne hb
      refine ⟨by omega, i, ?_, h3⟩
      rw [show s - k = (s - (k + 1)) + 1 by omega]
      simpa using h2
theorem initS_blk : ∀ (l : List I) (k b : Nat), (initS l k).blk b = none
  | [], _, _ => rfl
  | _ :: l, k, b => initS_blk l (k + 1) b

def RetC (P : Program) [Tab P] (rs : List ResultVar) (res : List I) : Exit → Sg → Prop
  | .ret, σ => σ.retI rs = some res ∧ cellsOk P σ rs = true
  | .normal, σ => σ.retI rs = some res ∧ cellsOk P σ rs = true
  | _, _ => False
theorem RetC.ret [Tab P] {rs : List ResultVar} {res : List I} (h1 : σ.retI rs = some res) (h2 : cellsOk P σ rs = true) : RetC P rs res .ret σ := ⟨h1, h2⟩
theorem RetC.normal [Tab P] {rs : List ResultVar} {res : List I} (h1 : σ.retI rs = some res) (h2 : cellsOk P σ rs = true) : RetC P rs res .normal σ := ⟨h1, h2⟩

theorem Pure.of_AW [Tab P] {f : FuncId} {fn : Func} {code : Code} {nt : Nat} {rs : List ResultVar} {args res : List I} (hfn : P.funcs[f]? = some fn) (hname : (fn.name == "runtime.NumGoroutine") = false) (hbody : fn.body = some code) (hnt : fn.ntmps = nt) (hrs : fn.results = rs.toArray)
    (hk : args.length ≤ nt) (h : ∀ c : Cx nt, (∀ b, ¬ c.pas b) → AW P c code (initS args 0) (RetC P rs res)) : Pure P f args res := by
  refine ⟨⟨fn, hfn, hname, by rw [hbody]; rfl⟩, fun M w vs hM hd => calls_of_wp hfn hbody ?_⟩
  have hlen := I.dens_length args vs hd
  have hinit : RelR (n := nt) ⟨M, w, fun _ => False, hM⟩ (initS args 0) (fun _ => .nil) { tmps := vs.toArray ++ Array.replicate (fn.ntmps - vs.toArray.size) undef, defers := [] } w :=
    { inj := fun b _ k _ _ _ _ _ _ hb => by rw [initS_blk] at hb; cases hb
      live := fun b _ _ _ hb => by rw [initS_blk] at hb; cases hb
      blk := fun b _ hb => by rw [initS_blk] at hb; cases hb
      slot := fun t d hd' => by
        obtain ⟨_, i, h2, rfl⟩ := initS_get args 0 t d hd'
        obtain ⟨v, h3, h4⟩ := I.dens_get args vs t i hd (by simpa using h2)
        have hlt : t < vs.length := (List.getElem?_eq_some_iff.1 h3).1
        have e : (vs.toArray ++ Array.replicate (fn.ntmps - vs.toArray.size) undef).getD t undef = v := by
          simp [Array.getElem?_append_left, hlt]
          have := (List.getElem?_eq_some_iff.1 h3).2
          simpa using this
        show I.den _ w i _
        rw [e]
        exact I.den_mono (fun b ⟨g1, g2⟩ => ⟨⟨g1, g2, fun k x r cap hx => by rw [initS_blk] at hx; cases hx⟩, fun _ => rfl⟩) i v h4
      defs := rfl
      size := by simp [hnt, hlen]; omega
      kept := ⟨rfl, rfl, rfl, Nat.le_refl _, fun _ _ _ => rfl⟩ }
  refine wp_mono (h ⟨M, w, fun _ => False, hM⟩ (fun _ h => h) _ w ⟨_, hinit⟩) fun e a' w' ⟨σ', hq, ρ', hr'⟩ => ?_
  have fin : σ'.retI rs = some res ∧ cellsOk P σ' rs = true → a'.defers = [] ∧ ∃ v, (results fn a'.tmps).run P w' = .ok v w' ∧ ∃ v', Ending.returned v = .returned v' ∧ resDen (fun b => b < w'.heap.size ∧ ¬ M b) w' res v' ∧ Below w.heap.size w w' := fun ⟨h1, h2⟩ => by
    obtain ⟨us, g1, g2⟩ := run_results hr' rs res h1 h2
    refine ⟨hr'.defs, (if h : us.toArray.size = 1 then us.toArray[0] else .tuple us.toArray), ?_, _, rfl, ?_, ?_⟩
    · rw [results_rv, hrs]
      simp only [Sem.run_bind, List.mapM_toArray, Sem.run_map, g1, Result.andThen, Sem.run_pure]
    · have hlen2 := I.dens_length res us g2
      match res, us, g2, hlen2 with
      | [], [], g2, _ => exact ⟨[], rfl, g2⟩
      | [r], [u], ⟨v, r', e, g3, _⟩, _ => simp only [List.cons.injEq] at e; obtain ⟨rfl, _⟩ := e; exact g3
      | r :: r' :: rs', u :: u' :: us', g2, _ => exact ⟨u :: u' :: us', by simp, g2⟩
    · exact ⟨hr'.kept.os, hr'.kept.tape, hr'.kept.output, hr'.kept.size, fun k hk => hr'.kept.block k hk (fun h => h)⟩
  cases e with
  | normal => exact fin hq
  | ret => exact fin hq
  | exit id => exact hq
  | goto l => exact hq
  | panic ch => exact hq.elim
  | outgrown => exact hq.elim
end
end Go.Cr

/- MACHINE X, PART L: code, calls, rounds: the machine, and that it tells what the world's machine does. The regions that draw their order: by 'draw', of which 'DrawOK' is asked. -/
import Derived.Test.YtgbpggllmcpicaaGreatMachJ
import Derived.RangeFuncLeaves
import Derived.RangeFuncNested
import Derived.Sort.LoopGhostIn
namespace Go.Xm
open Go Go.Cr Go.RowKit

/-- The functions' table. -/
class FTab (P : Program) where
  get : Nat → Option Func
  ok : ∀ k fn, get k = some fn → P.funcs[k]? = some fn ∧ (fn.name == "runtime.NumGoroutine") = false
/-- Who answers a method's call. -/
class MTab (P : Program) where
  get : TypeId → String → Option FuncId
  ok : ∀ t m k, get t m = some k → ∀ v w, (method (P.types.size + Made.depth) t v m).run P w = .ok (k, v) w
structure St where
  t : Tr V
  df : List Nat
  H : Tr Bk
  nx : Nat
abbrev CallX := V → List V → Tr Bk → Nat → Option (V × Tr Bk × Nat)
abbrev CodeX := Nat → Option Nat → Code → St → Option (Exit × St)
abbrev DrawX := Nat → StepX → Array Oper → Tr V → Tr Bk → Nat → Option (Tr V × Tr Bk × Nat)
structure Ex where
  call : CallX
  code : CodeX

/-! ### The machine -/
noncomputable def callOp (call : CallX) (f : Option V) (args : Option (List V)) (H : Tr Bk) (nx : Nat) : Option Out := match f, args with
  | some f, some vs => match call f vs H nx with
    | some (v, H', nx') => some (some v, H', nx')
    | none => none
  | _, _ => none
noncomputable def stepC (P : Program) [Tab P] (call : CallX) : StepX := fun ev o H nx => match o.op with
  | .call c => match c.callee with
    | .value f => callOp call (ev f) (evalL ev c.args.toList) H nx
    | .builtin _ => opX P ev H nx o
    | .invoke x m => callOp call (some (.fn (.method m) [] [])) (evalL ev (x :: c.args.toList)) H nx
  | .defer _ => none
  | _ => opX P ev H nx o
noncomputable def listT : List V → Nat → Tr V → Tr V
  | [], _, t => t
  | v :: l, k, t => listT l (k + 1) (t.put k (some v))
noncomputable def retX (P : Program) [Tab P] (t : Tr V) (H : Tr Bk) : List ResultVar → Option (List V)
  | [] => some []
  | .tmp s :: l => match t.get s, retX P t H l with
    | some v, some q => some (v :: q)
    | _, _ => none
  | .cell s T :: l => match t.get s, Tab.look P T, retX P t H l with
    | some p, some r, some q => match loadX H r.td.isAgg r.size p with
      | some v => some (v :: q)
      | none => none
    | _, _, _ => none
noncomputable def tupX : List V → V
  | [v] => v
  | l => .tup l
/-- The marks among the deferred calls are come to. -/
noncomputable def marksX : List Nat → Tr Bk → Option (Tr Bk)
  | [], H => some H
  | d :: l, H => match H.get d with
    | some .defd => marksX l (H.put d none)
    | _ => none
noncomputable def funcX (P : Program) [Tab P] (code : CodeX) (fn : Func) (args : List V) (H : Tr Bk) (nx : Nat) : Option (V × Tr Bk × Nat) := match fn.body, Nat.ble args.length fn.ntmps with
  | some c, true => match code fn.ntmps none c ⟨listT args 0 .nil, [], H, nx⟩ with
    | some (e, st) => match (match e with | .normal => true | .ret => true | _ => false), marksX st.df st.H with
      | true, some H' => match retX P st.t H' fn.results.toList with
        | some vs => some (tupX vs, H', st.nx)
        | none => none
      | _, _ => none
    | none => none
  | _, _ => none
noncomputable def putsX (n : Nat) : List Tmp → List V → Tr V → Option (Tr V)
  | [], [], t => some t
  | s :: l, v :: vs, t => match Nat.blt s n with
    | true => putsX n l vs (t.put s (some v))
    | false => none
  | _, _, _ => none
noncomputable def jumpOf : Exit → Option (Option Code)
  | .normal => some none
  | .ret => some (some .ret)
  | .exit id => some (some (.exit id))
  | _ => none
noncomputable def roundX (code : CodeX) (b : Nat) (args : List V) (H : Tr Bk) (nx : Nat) : Option (V × Tr Bk × Nat) := match H.get b with
  | some (.loop r) => match putsX r.n r.params.toList args r.t with
    | some t => match code r.n (some b) r.assign ⟨t, [], H, nx⟩ with
      | some (.normal, st1) => match st1.H.get b with
        | some (.loop r1) => match r1.st with
          | .ready => match code r.n (some b) r.body ⟨st1.t, st1.df, st1.H.put b (some (.loop { r1 with st := .busy })), st1.nx⟩ with
            | some (e, st2) => match st2.H.get b, jumpOf e with
              | some (.loop r2), some j => some (.val (.bool j.isNone), st2.H.put b (some (.loop { r2 with st := if j.isNone then .ready else .done, pend := j })), st2.nx)
              | _, _ => none
            | none => none
          | _ => none
        | _ => none
      | _ => none
    | none => none
  | _ => none
noncomputable def enterX (P : Program) [Tab P] [FTab P] (ih : Ex) (k : FuncId) (args : List V) (H : Tr Bk) (nx : Nat) : Option (V × Tr Bk × Nat) := match FTab.get P k with
  | some fn => funcX P ih.code fn args H nx
  | none => none
noncomputable def plainStep (P : Program) [Tab P] [FTab P] [MTab P] (ih : Ex) : CallX := fun f args H nx => match f with
  | .fn (.func k) first cap => enterX P ih k (first ++ args ++ cap) H nx
  | .fn (.method m) first [] => match first ++ args with
    | .iface t v :: l => match MTab.get P t m with
      | some k => enterX P ih k (v :: l) H nx
      | none => none
    | _ => none
  | .yield b => roundX ih.code b args H nx
  | _ => none
/-- 'orc': calls whose outcome is known already. -/
noncomputable def callStep (P : Program) [Tab P] [FTab P] [MTab P] (orc : CallX) (ih : Ex) : CallX := fun f args H nx => match orc f args H nx with
  | some r => some r
  | none => plainStep P ih f args H nx
noncomputable def rangeGo (ih : Ex) (n : Nat) (ro : Option Nat) (f : Option V) (ps : Array Tmp) (assign body : Code) (t : Tr V) (d : Nat) (df : List Nat) (H : Tr Bk) (nx : Nat) : Option (Exit × St) := match f with
  | some (.fn (.func k) a1 a2) => match ih.call (.fn (.func k) a1 a2) [.yield nx] (H.put nx (some (.loop ⟨.ready, none, t, n, ps, assign, body, d⟩))) (nx + 1) with
    | some (_, H3, nx3) => match H3.get nx with
      | some (.loop r) => match r.st with
        | .busy => none
        | _ => match r.pend with
          | none => some (.normal, ⟨t, df, H3.put nx (some (.loop { r with st := .exhausted })), nx3⟩)
          | some c => ih.code n ro c ⟨t, df, H3.put nx (some (.loop { r with st := .exhausted })), nx3⟩
      | _ => none
    | none => none
  | _ => none
noncomputable def rangeX (ih : Ex) (n : Nat) (ro : Option Nat) (f : Option V) (ps : Array Tmp) (assign body : Code) (st : St) : Option (Exit × St) :=
  match ro with
  | none => rangeGo ih n ro f ps assign body st.t st.nx (st.nx :: st.df) (st.H.put st.nx (some .defd)) (st.nx + 1)
  | some b => match st.H.get b with
    | some (.loop r) => rangeGo ih n ro f ps assign body st.t r.d st.df st.H st.nx
    | _ => none
noncomputable def codeStep (P : Program) [Tab P] (draw : DrawX) (ih : Ex) : CodeX := fun n ro c st => match c with
  | .skip => some (.normal, st)
  | .ret => some (.ret, st)
  | .exit i => some (.exit i, st)
  | .seq x y => match ih.code n ro x st with
    | some (.normal, st') => ih.code n ro y st'
    | r => r
  | .cond c x y => match evalX st.t c with
    | some (.val (.bool true)) => ih.code n ro x st
    | some (.val (.bool false)) => ih.code n ro y st
    | _ => none
  | .block i x => match ih.code n ro x st with
    | some (.exit j, st') => match Nat.beq j i with
      | true => some (.normal, st')
      | false => some (.exit j, st')
    | r => r
  | .loop x => match ih.code n ro x st with
    | some (.normal, st') => ih.code n ro (.loop x) st'
    | r => r
  | .region _ ops false => match regionX n (stepC P ih.call) ops.toList ops.toList st.t st.H st.nx with
    | some (t, H, nx) => some (.normal, ⟨t, st.df, H, nx⟩)
    | none => none
  | .region _ ops true => match draw n (stepC P ih.call) ops st.t st.H st.nx with
    | some (t, H, nx) => some (.normal, ⟨t, st.df, H, nx⟩)
    | none => none
  | .rangeFunc f ps assign body => rangeX ih n ro (evalX st.t f) ps assign body st
  | _ => none
noncomputable def exec (P : Program) [Tab P] [FTab P] [MTab P] (orc : CallX) (draw : DrawX) (fuel : Nat) : Ex :=
  Nat.rec (motive := fun _ => Ex) ⟨fun _ _ _ _ => none, fun _ _ _ _ => none⟩ (fun _ ih => ⟨callStep P orc ih, codeStep P draw ih⟩) fuel

/-! ### What is said of it -/
def Dfs (μ : Mu) : List Nat → List Deferred → Prop
  | [], l => l = []
  | d :: ds, l => ∃ p r, l = { target := .collected p.r, args := #[] } :: r ∧ μ d = some p ∧ Dfs μ ds r
def Ro (μ : Mu) : Option Nat → Option Nat → Prop
  | none, r => r = none
  | some b, r => ∃ p, μ b = some p ∧ r = some p.r
structure StR (N : Ns) (μ : Mu) (n : Nat) (st : St) (a : Act) (w : World) : Prop where
  slots : Slots μ n st.t a.tmps
  dfs : Dfs μ st.df a.defers
  inv : Inv N μ st.H st.nx w
def Ret (N : Ns) (μ : Mu) (w : World) (v : V) (H : Tr Bk) (nx : Nat) : Ending → World → Prop := fun e w' => ∃ u, e = .returned u ∧ ∃ μ', Ext μ μ' ∧ Inv N μ' H nx w' ∧ Keep N w w' ∧ v.rel μ' u
def NextOK (P : Program) (w : World) (R : Ending → World → Prop) : Next → Prop
  | .enter k as => CallsIn Fence.wide 0 P k as w R
  | .round l fn tmps assign body => RoundIn Fence.wide 0 P l fn tmps assign body w R
  | _ => False
def CallOK (P : Program) (call : CallX) : Prop := ∀ f args H nx v H' nx', call f args H nx = some (v, H', nx') → ∀ N μ w uf us, Inv N μ H nx w → f.rel μ uf → V.rels μ args us →
  ∃ d nxt, (Deferred.ofValue uf us.toArray).run P w = .ok d w ∧ (invoke d.target d.args).run P w = .ok nxt w ∧ NextOK P w (Ret N μ w v H' nx') nxt ∧ (∀ k a1 a2, f = .fn (.func k) a1 a2 → ∃ j as, nxt = .enter j as)
def CodeOK (P : Program) (code : CodeX) : Prop := ∀ n ro c st e st', code n ro c st = some (e, st') → ∀ N μ w a r, StR N μ n st a w → Ro μ ro r →
  c.wpIn (Fr r) 0 P (fun e' a' w' => e' = e ∧ ∃ μ', Ext μ μ' ∧ StR N μ' n st' a' w' ∧ Keep N w w') a w
def DrawOK (P : Program) [Tab P] (draw : DrawX) : Prop := ∀ (call : CallX), CallOK P call → ∀ ro n ops t H nx r, draw n (stepC P call) ops t H nx = some r → ∀ N μ a w Q, Slots μ n t a.tmps → Inv N μ H nx w →
  (∀ a' w' μ', Ext μ μ' → Slots μ' n r.1 a'.tmps → a'.defers = a.defers → Inv N μ' r.2.1 r.2.2 w' → Keep N w w' → Q .normal a' w') → wpAnyIn (Fr ro) 0 P .any ops Q ops.size (Array.replicate ops.size false) a w
end Go.Xm

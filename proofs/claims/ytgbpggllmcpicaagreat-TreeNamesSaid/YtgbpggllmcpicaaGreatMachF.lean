/- MACHINE X, PART F: what hangs on no memory; tuples, interfaces, function values, nil; maps. -/
import Derived.Test.YtgbpggllmcpicaaGreatMachE
import Derived.MapKept
namespace Go.Xm
open Go Go.Cr Go.RowKit
section
variable {P : Program} {N : Ns} {μ : Mu} {H : Tr Bk} {nx : Nat} {w : World} {s : Sem Next}
variable {ty : TypeId} {pos : String} {af : Array Edge} {g : Option (Nat × Bool)} {x y : Operand} {T T' : TypeId} {sz by' sz' by'' : Nat} {z z' : Option Value} {td td' : TD} {ρ : Operand → Value} {dst : Option Tmp}

/-! ### Plain values alone -/
noncomputable def valOf (ev : Operand → Option V) (x : Operand) : Value := match ev x with
  | some (.val v) => v
  | _ => .tuple #[]
noncomputable def allVals (ev : Operand → Option V) : List Operand → Bool
  | [] => true
  | x :: l => match ev x with
    | some (.val _) => allVals ev l
    | _ => false
theorem allVals_eq {ev : Operand → Option V} (hev : ∀ x v, ev x = some v → v.rel μ (ρ x)) : ∀ (l : List Operand), allVals ev l = true → ∀ x ∈ l, ρ x = valOf ev x
  | [], _, x, h => by cases h
  | y :: l, ha, x, h => by
    simp only [allVals] at ha
    split at ha
    · rename_i v hv
      rcases List.mem_cons.1 h with rfl | h
      · have h1 : ρ x = v := hev x _ hv
        simp [valOf, hv, h1]
      · exact allVals_eq hev l ha x h
    · cases ha
noncomputable def notSelect : Op → Bool
  | .select _ _ => false
  | _ => true
noncomputable def pureX (P : Program) (ev : Operand → Option V) (o : Oper) : Option V :=
  match allVals ev o.op.operands.toList, notSelect o.op with
  | true, true => match runPure P (execOp (valOf ev) o) with
    | some (.value v) => some (V.ofConst v)
    | _ => none
  | _, _ => none
theorem pureX_sound {ev : Operand → Option V} (hev : ∀ x v, ev x = some v → v.rel μ (ρ x)) (h : Inv N μ H nx w) {o : Oper} {r : V} (hl : pureX P ev o = some r) : Does P N μ nx w (execOp ρ o) (some r, H, nx) := by
  unfold pureX at hl
  split at hl
  · rename_i b1 b2
    split at hl
    · rename_i v hv
      cases hl
      have he : execOp ρ o = execOp (valOf ev) o := execOp_congr o (fun cs b e => by rw [e] at b2; cases b2) fun x hx => allVals_eq hev _ b1 x (by simpa using hx)
      rw [he]
      exact Does.value h v (runPure_run w _ _ hv) (ofConst_rel v)
    · cases hl
  · cases hl

/-! ### Tuples, choices, interfaces, function values -/
noncomputable def extractX (i : Nat) : V → Option V
  | .tup l => l[i]?
  | _ => none
theorem extractX_sound (h : Inv N μ H nx w) {v r : V} (hv : v.rel μ (ρ x)) {i : Nat} (hl : extractX i v = some r) : Does P N μ nx w (execOp ρ ⟨dst, .extract x i, ty, pos, af, g⟩) (some r, H, nx) := by
  unfold extractX at hl
  split at hl
  · obtain ⟨cs, h1, h2⟩ := hv
    obtain ⟨u, hu, hru⟩ := rels_get _ _ _ _ h2 hl
    exact Does.value h u (by simp [execOp, h1, Instr.extract, hu]) hru
  · cases hl
noncomputable def pickX (ev : Operand → Option V) (c a b : Operand) : Option V := match ev c with
  | some (.val (.bool true)) => ev a
  | some (.val (.bool false)) => ev b
  | _ => none
theorem pickX_sound {ev : Operand → Option V} (hev : ∀ x v, ev x = some v → v.rel μ (ρ x)) (h : Inv N μ H nx w) {c a b : Operand} {r : V} (hl : pickX ev c a b = some r) : Does P N μ nx w (execOp ρ ⟨dst, .pick c a b, ty, pos, af, g⟩) (some r, H, nx) := by
  unfold pickX at hl
  split at hl
  · rename_i hc
    have hc : ρ c = .bool true := hev c _ hc
    exact Does.value h (ρ a) (by simp [execOp, hc, asBool]) (hev a r hl)
  · rename_i hc
    have hc : ρ c = .bool false := hev c _ hc
    exact Does.value h (ρ b) (by simp [execOp, hc, asBool]) (hev b r hl)
  · cases hl
theorem moveX_sound (h : Inv N μ H nx w) {v : V} (hv : v.rel μ (ρ x)) : Does P N μ nx w (execOp ρ ⟨dst, .move x, ty, pos, af, g⟩) (some v, H, nx) := Does.value h (ρ x) rfl hv
theorem assignX_sound (h : Inv N μ H nx w) {v : V} (hv : v.rel μ (ρ x)) : Does P N μ nx w (execOp ρ ⟨dst, .assign x, ty, pos, af, g⟩) (some v, H, nx) := Does.value h (ρ x) rfl hv
noncomputable def notIface : TD → Bool
  | .iface => false
  | _ => true
theorem makeInterfaceX_sound [Tab P] (h : Inv N μ H nx w) {v : V} (hv : v.rel μ (ρ x)) (ht : Tab.look P T = some ⟨td, sz, by', z⟩) (hn : notIface td = true) : Does P N μ nx w (execOp ρ ⟨dst, .makeInterface T x, ty, pos, af, g⟩) (some (.iface T v), H, nx) := by
  obtain ⟨d, h1, h2⟩ := Tab.und ht
  refine Does.value h (.iface T (ρ x)) ?_ ⟨_, rfl, hv⟩
  simp only [execOp, Sem.run_bind, Instr.makeInterface, run_underlying h1, Result.andThen]
  cases d <;> simp [TD.of] at h2 <;> first | rfl | (subst h2; cases hn)
noncomputable def evalL (ev : Operand → Option V) : List Operand → Option (List V)
  | [] => some []
  | x :: l => match ev x, evalL ev l with
    | some v, some q => some (v :: q)
    | _, _ => none
theorem evalL_rel {ev : Operand → Option V} (hev : ∀ x v, ev x = some v → v.rel μ (ρ x)) : ∀ (l : List Operand) (vs : List V), evalL ev l = some vs → V.rels μ vs (l.map ρ)
  | [], vs, h => by cases h; rfl
  | x :: l, vs, h => by
    simp only [evalL] at h
    split at h
    · rename_i v q hv hq
      cases h
      exact ⟨_, _, rfl, hev x v hv, evalL_rel hev l q hq⟩
    · cases h
theorem makeFuncX_sound {ev : Operand → Option V} (hev : ∀ x v, ev x = some v → v.rel μ (ρ x)) (h : Inv N μ H nx w) {f : Fn} {first cap : Array Operand} {a b : List V} (ha : evalL ev first.toList = some a) (hb : evalL ev cap.toList = some b) :
    Does P N μ nx w (execOp ρ ⟨dst, .makeFunc f first cap, ty, pos, af, g⟩) (some (.fn f a b), H, nx) :=
  Does.value h (.func f (first.map ρ) (cap.map ρ)) rfl ⟨first.toList.map ρ, cap.toList.map ρ, by congr 1 <;> (apply Array.ext'; simp), evalL_rel hev _ _ ha, evalL_rel hev _ _ hb⟩
noncomputable def nilCheckX (P : Program) [Tab P] (v : V) : Option V := match v with
  | .fn (.method m) (.iface t _ :: _) _ => match Tab.ahead P t m with
    | true => some v
    | false => none
  | .ptr _ _ => some v
  | .iface _ _ => some v
  | .yield _ => some v
  | .fn (.func _) _ _ => some v
  | _ => none
theorem nilCheckX_sound [Tab P] (h : Inv N μ H nx w) {v r : V} (hv : v.rel μ (ρ x)) (hl : nilCheckX P v = some r) : Does P N μ nx w (execOp ρ ⟨dst, .nilCheck x, ty, pos, af, g⟩) (some r, H, nx) := by
  unfold nilCheckX at hl
  split at hl
  · rename_i m t v1 l cap
    split at hl
    · rename_i ha
      cases hl
      have hv' := hv
      obtain ⟨c, d, h2, ⟨u, r, e, ⟨v', e', _⟩, _⟩, _⟩ := hv'
      refine Does.value h (ρ x) ?_ hv
      have hah := Tab.aheadOk t m ha v' w
      subst e
      subst e'
      simp [execOp, h2, Sem.run_bind, run_program, Result.andThen, hah]
    · cases hl
  · cases hl; have hv' := hv; obtain ⟨p, _, h2⟩ := hv'; exact Does.value h (ρ x) (by simp [execOp, h2]) hv
  · cases hl; have hv' := hv; obtain ⟨p, h2, _⟩ := hv'; exact Does.value h (ρ x) (by simp [execOp, h2]) hv
  · cases hl; have hv' := hv; obtain ⟨p, _, h2⟩ := hv'; exact Does.value h (ρ x) (by simp [execOp, h2]) hv
  · cases hl; have hv' := hv; obtain ⟨c, d, h2, _⟩ := hv'; exact Does.value h (ρ x) (by simp [execOp, h2]) hv
  · cases hl

/-! ### Lengths -/
noncomputable def lenX (H : Tr Bk) (td : TD) : V → Option V
  | .slice _ _ n _ => match td with
    | .slice _ => some (.val (.int .i64 (.ofNat n)))
    | _ => none
  | .map b => match td, H.get b with
    | .map _ _, some (.map _ _ es) => some (.val (.int .i64 (.ofNat es.length)))
    | _, _ => none
  | _ => none
theorem lenX_sound [Tab P] (h : Inv N μ H nx w) {v r : V} (hv : v.rel μ (ρ x)) (ht : Tab.look P T = some ⟨td, sz, by', z⟩) (hl : lenX H td v = some r) : Does P N μ nx w (execOp ρ ⟨dst, .call ⟨.builtin .len, #[x], #[T]⟩, ty, pos, af, g⟩) (some r, H, nx) := by
  unfold lenX at hl
  split at hl
  · split at hl
    · cases hl
      obtain ⟨p, a, cp, _, h2, _⟩ := hv
      refine Does.value h (.int .i64 (.ofNat _)) ?_ rfl
      rw [run_call_builtin]
      simp [builtin, Builtin.len_, h2, run_underlying (Tab.slice ht), goInt]
    · cases hl
  · rename_i b
    split at hl
    · rename_i clock bs es hb
      cases hl
      obtain ⟨p, h1, h2⟩ := hv
      obtain ⟨p', o, g1, g2, l, rfl, g3, g4⟩ := h.blk b _ hb
      rw [h1] at g1; cases g1
      refine Does.value h (.int .i64 (.ofNat es.length)) ?_ rfl
      have hl : l.length = es.length := by have := congrArg List.length g3; simpa using this
      rw [run_call_builtin]
      have hg : (getObj p.r).run P w = .ok (.map l.toArray clock) w := by simp [getObj, Sem.run, g2]
      simp [builtin, Builtin.len_, h2, run_underlying (Tab.map ht), goInt, hg, hl]
    · cases hl
  · cases hl
noncomputable def capX : V → Option V
  | .slice _ _ _ (some c) => some (.val (.int .i64 (.ofNat c)))
  | _ => none
theorem capX_sound [Tab P] (h : Inv N μ H nx w) {v r : V} (hv : v.rel μ (ρ x)) {e : Nat} (ht : Tab.look P T = some ⟨.slice e, sz, by', z⟩) (hl : capX v = some r) : Does P N μ nx w (execOp ρ ⟨dst, .call ⟨.builtin .cap, #[x], #[T]⟩, ty, pos, af, g⟩) (some r, H, nx) := by
  unfold capX at hl
  split at hl
  · cases hl
    obtain ⟨p, a, cp, _, h2, _, _, _, h6⟩ := hv
    have := h6.1 _ rfl
    subst this
    refine Does.value h (.int .i64 (.ofNat _)) ?_ rfl
    rw [run_call_builtin]
    simp [builtin, Builtin.cap_, h2, run_underlying (Tab.slice ht), goInt]
  · cases hl

/-! ### Against nil -/
/-- Never nil, compared by a type of its kind. -/
noncomputable def solid (td : TD) : V → Value → Bool
  | .slice _ _ _ _, .slice none 0 0 => match td with | .slice _ => true | _ => false
  | .fn _ _ _, .nilFunc => match td with | .func => true | _ => false
  | .yield _, .nilFunc => match td with | .func => true | _ => false
  | .iface _ _, .nilIface => match td with | .iface => true | _ => false
  | .ptr _ _, .pointer none => match td with | .ptr _ => true | _ => false
  | .map _, .map none => match td with | .map _ _ => true | _ => false
  | _, _ => false
theorem eq_slice {a : Addr} {n c e : Nat} (h1 : P.underlying T = some (.slice e)) : (Op.equal T (.slice (some a) n c) (.slice none 0 0)).run P w = .ok false w := by
  have key : ∀ q9, (Op.equalIn (q9 + 1) T (.slice (some a) n c) (.slice none 0 0)).run P w = .ok false w := fun q9 => by simp [Op.equalIn, run_underlying h1]
  exact key 9999
theorem eq_func {a : Fn} {b c : Array Value} {p q : Array TypeId} {v : Bool} (h1 : P.underlying T = some (.func p q v)) : (Op.equal T (.func a b c) (.nilFunc)).run P w = .ok false w := by
  have key : ∀ q9, (Op.equalIn (q9 + 1) T (.func a b c) (.nilFunc)).run P w = .ok false w := fun q9 => by simp [Op.equalIn, run_underlying h1]
  exact key 9999
theorem eq_iface {t : TypeId} {v : Value} {ms : Array (String × TypeId)} (h1 : P.underlying T = some (.interface ms)) : (Op.equal T (.iface t v) (.nilIface)).run P w = .ok false w := by
  have key : ∀ q9, (Op.equalIn (q9 + 1) T (.iface t v) (.nilIface)).run P w = .ok false w := fun q9 => by simp [Op.equalIn, run_underlying h1]
  exact key 9999
theorem eq_ptr {a : Addr} {e : Nat} (h1 : P.underlying T = some (.pointer e)) : (Op.equal T (.pointer (some a)) (.pointer none)).run P w = .ok false w := by
  have key : ∀ q9, (Op.equalIn (q9 + 1) T (.pointer (some a)) (.pointer none)).run P w = .ok false w := fun q9 => by simp [Op.equalIn, run_underlying h1]
  exact key 9999
theorem eq_map {a k e : Nat} (h1 : P.underlying T = some (.map k e)) : (Op.equal T (.map (some a)) (.map none)).run P w = .ok false w := by
  have key : ∀ q9, (Op.equalIn (q9 + 1) T (.map (some a)) (.map none)).run P w = .ok false w := fun q9 => by simp [Op.equalIn, run_underlying h1]
  exact key 9999
theorem equal_solid [Tab P] {v : V} (hv : v.rel μ (ρ x)) (ht : Tab.look P T = some ⟨td, sz, by', z⟩) {c : Value} (hs : solid td v c = true) : (Op.equal T (ρ x) c).run P w = .ok false w ∧ (∀ op, (eqGuard op T x y (ρ x) c).run P w = .ok () w) ∧
    (∀ w, (binOp .eql T (ρ x) c).run P w = ((Op.equal T (ρ x) c).run P w).andThen fun b w => .ok (.bool b) w) ∧ (∀ w, (binOp .neq T (ρ x) c).run P w = ((Op.equal T (ρ x) c).run P w).andThen fun b w => .ok (.bool !b) w) := by
  obtain ⟨d, h1, h2⟩ := Tab.und ht
  have key : (∀ q9, (Op.equalIn (q9 + 1) T (ρ x) c).run P w = .ok false w) → (Op.equal T (ρ x) c).run P w = .ok false w := fun h => h 9999
  unfold solid at hs
  split at hs
  · split at hs
    · obtain ⟨p, a, cp, _, e, _⟩ := hv
      have hd := TD.of_slice h2; subst hd
      rw [e]
      exact ⟨eq_slice h1, fun op => by unfold eqGuard; simp, fun w => by simp [binOp, Sem.run_bind], fun w => by simp [binOp, Sem.run_bind]⟩
    · cases hs
  · split at hs
    · obtain ⟨_, _, e, _⟩ := hv
      rw [e]
      have hd : ∃ a b c, d = .func a b c := by cases d <;> simp [TD.of] at h2 ⊢
      obtain ⟨_, _, _, rfl⟩ := hd
      exact ⟨eq_func h1, fun op => by unfold eqGuard; simp, fun w => by simp [binOp, Sem.run_bind], fun w => by simp [binOp, Sem.run_bind]⟩
    · cases hs
  · split at hs
    · obtain ⟨_, _, e⟩ := hv
      rw [e]
      have hd : ∃ a b c, d = .func a b c := by cases d <;> simp [TD.of] at h2 ⊢
      obtain ⟨_, _, _, rfl⟩ := hd
      exact ⟨eq_func h1, fun op => by unfold eqGuard; simp, fun w => by simp [binOp, Sem.run_bind], fun w => by simp [binOp, Sem.run_bind]⟩
    · cases hs
  · split at hs
    · obtain ⟨_, e, _⟩ := hv
      rw [e]
      have hd : ∃ a, d = .interface a := by cases d <;> simp [TD.of] at h2 ⊢
      obtain ⟨_, rfl⟩ := hd
      exact ⟨eq_iface h1, fun op => by unfold eqGuard; simp, fun w => by simp [binOp, Sem.run_bind], fun w => by simp [binOp, Sem.run_bind]⟩
    · cases hs
  · split at hs
    · obtain ⟨_, _, e⟩ := hv
      rw [e]
      have hd : ∃ a, d = .pointer a := by cases d <;> simp [TD.of] at h2 ⊢
      obtain ⟨_, rfl⟩ := hd
      exact ⟨eq_ptr h1, fun op => by unfold eqGuard; simp, fun w => by simp [binOp, Sem.run_bind], fun w => by simp [binOp, Sem.run_bind]⟩
    · cases hs
  · split at hs
    · obtain ⟨_, _, e⟩ := hv
      rw [e]
      have hd : ∃ a b, d = .map a b := by cases d <;> simp [TD.of] at h2 ⊢
      obtain ⟨_, _, rfl⟩ := hd
      exact ⟨eq_map h1, fun op => by unfold eqGuard; simp, fun w => by simp [binOp, Sem.run_bind], fun w => by simp [binOp, Sem.run_bind]⟩
    · cases hs
  · cases hs
theorem eqlX_sound [Tab P] (h : Inv N μ H nx w) {v : V} {c : Value} (hv : v.rel μ (ρ x)) (hc : ρ (.const c) = c) (ht : Tab.look P T = some ⟨td, sz, by', z⟩) (hs : solid td v c = true) : Does P N μ nx w (execOp ρ ⟨dst, .binOp .eql T x (.const c) T', ty, pos, af, g⟩) (some (.val (.bool false)), H, nx) := by
  obtain ⟨h1, h2, h3, h4⟩ := equal_solid (w := w) (y := .const c) hv ht hs
  exact Does.value h (.bool false) (by simp only [execOp, Sem.run_bind, hc, h2, h3, h1, Result.andThen]; rfl) rfl
theorem neqX_sound [Tab P] (h : Inv N μ H nx w) {v : V} {c : Value} (hv : v.rel μ (ρ x)) (hc : ρ (.const c) = c) (ht : Tab.look P T = some ⟨td, sz, by', z⟩) (hs : solid td v c = true) : Does P N μ nx w (execOp ρ ⟨dst, .binOp .neq T x (.const c) T', ty, pos, af, g⟩) (some (.val (.bool true)), H, nx) := by
  obtain ⟨h1, h2, h3, h4⟩ := equal_solid (w := w) (y := .const c) hv ht hs
  exact Does.value h (.bool true) (by simp only [execOp, Sem.run_bind, hc, h2, h4, h1, Result.andThen]; rfl) rfl
end
end Go.Xm

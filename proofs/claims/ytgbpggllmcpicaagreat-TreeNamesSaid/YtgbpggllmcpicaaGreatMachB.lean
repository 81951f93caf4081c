/- MACHINE X, PART B: operations that read and write what is there. -/
import Derived.Test.YtgbpggllmcpicaaGreatMachA
namespace Go.Xm
open Go Go.Cr

/-! ### What hangs on no memory -/
noncomputable def runPure {α : Type} (P : Program) (s : Sem α) : Option α :=
  Sem.rec (motive := fun _ => Option α) (fun a => some a) (fun _ _ _ _ => none) (fun _ _ _ _ _ => none) (fun _ _ _ => none) (fun _ _ _ => none) (fun _ _ _ _ => none) (fun _ _ _ => none)
    (fun _ _ _ => none) (fun _ _ _ _ => none) (fun _ _ _ => none) (fun _ _ _ => none) (fun _ ih => ih P) (fun _ _ _ => none) (fun _ => none) s
theorem runPure_run {α : Type} {P : Program} (w : World) : ∀ (s : Sem α) (a : α), runPure P s = some a → s.run P w = .ok a w
  | .pure b, a, h => by cases h; rfl
  | .program k, a, h => by
    have := runPure_run w (k P) a h
    simpa [Sem.run] using this
  | .load .., _, h => by cases h
  | .store .., _, h => by cases h
  | .new .., _, h => by cases h
  | .shape .., _, h => by cases h
  | .freeze .., _, h => by cases h
  | .frozen .., _, h => by cases h
  | .getObj .., _, h => by cases h
  | .setObj .., _, h => by cases h
  | .choose .., _, h => by cases h
  | .sys .., _, h => by cases h
  | .mark .., _, h => by cases h
  | .halt .., _, h => by cases h

/-! ### Operands -/
noncomputable def V.ofConst : Value → V
  | .agg cs => .agg (cs.toList.map .val)
  | v => .val v
theorem rels_val {μ : Mu} : ∀ l : List Value, V.rels μ (l.map .val) l
  | [] => rfl
  | v :: l => ⟨v, l, rfl, rfl, rels_val l⟩
theorem ofConst_rel {μ : Mu} (v : Value) : (V.ofConst v).rel μ v := by
  cases v with
  | agg cs => exact ⟨cs.toList, by simp, rels_val _⟩
  | _ => rfl
noncomputable def evalX (t : Tr V) : Operand → Option V
  | .tmp i => t.get i
  | .const v => some (V.ofConst v)
  | .func f => some (.fn (.func f) [] [])
  | .global _ => none
theorem evalX_rel {μ : Mu} {n : Nat} {t : Tr V} {a : Act} (h : Slots μ n t a.tmps) (x : Operand) (v : V) (hv : evalX t x = some v) : v.rel μ (a.eval x) := by
  cases x with
  | tmp i => exact h.get i v hv
  | const c => cases hv; exact ofConst_rel c
  | func f => cases hv; exact ⟨[], [], rfl, rfl, rfl⟩
  | global g => cases hv

/-! ### A value's cells -/
noncomputable def V.one : V → Bool
  | .val v => v.oneCell'
  | .agg _ => false
  | .tup _ => false
  | _ => true
noncomputable def V.cells : V → List V
  | .agg l => l
  | v => [v]
noncomputable def ones : List V → Bool
  | [] => true
  | v :: l => match v.one with
    | true => ones l
    | false => false
theorem one_rel {μ : Mu} {v : V} {u : Value} (h : v.one = true) (hv : v.rel μ u) : u.oneCell' = true := by
  cases v with
  | val x => cases hv; exact h
  | ptr => obtain ⟨_, _, rfl⟩ := hv; rfl
  | slice => obtain ⟨_, _, _, _, rfl, _⟩ := hv; rfl
  | agg => cases h
  | tup => cases h
  | fn => obtain ⟨_, _, rfl, _⟩ := hv; rfl
  | yield => obtain ⟨_, _, rfl⟩ := hv; rfl
  | iface => obtain ⟨_, rfl, _⟩ := hv; rfl
  | map => obtain ⟨_, _, rfl⟩ := hv; rfl
theorem ones_rel {μ : Mu} : ∀ (l : List V) (us : List Value), ones l = true → V.rels μ l us → ∀ u ∈ us, u.oneCell' = true
  | [], us, _, h => by simp only [V.rels] at h; subst h; simp
  | v :: l, _, hl, ⟨u, r, rfl, h1, h2⟩ => by
    simp only [ones] at hl
    cases hb : v.one with
    | false => rw [hb] at hl; cases hl
    | true =>
      rw [hb] at hl
      intro x hx
      rcases List.mem_cons.1 hx with rfl | hx
      · exact one_rel hb h1
      · exact ones_rel l r hl h2 x hx
theorem vcells_rel {μ : Mu} {v : V} {u : Value} (h : ones v.cells = true) (hv : v.rel μ u) : V.rels μ v.cells u.cells.toList ∧ ∀ x ∈ u.cells.toList, x.oneCell' = true := by
  have key : V.rels μ v.cells u.cells.toList := by
    cases v with
    | agg l => obtain ⟨cs, rfl, hl⟩ := hv; exact hl
    | _ =>
      simp only [V.cells, ones] at h
      split at h
      · rename_i hb
        have h1 := one_rel hb hv
        have h2 : u.cells = #[u] := by cases u <;> simp [Value.oneCell', Value.cells] at h1 ⊢
        rw [h2]; exact ⟨u, [], rfl, hv, rfl⟩
      · cases h
  exact ⟨key, ones_rel _ _ h key⟩

/-! ### What an operation does -/
abbrev Out := Option V × Tr Bk × Nat
def Does (P : Program) (N : Ns) (μ : Mu) (nx : Nat) (w : World) (s : Sem Next) (r : Out) : Prop :=
  match r.1 with
  | some v => ∃ u w' μ', s.run P w = .ok (.value u) w' ∧ ExtN nx μ μ' ∧ Inv N μ' r.2.1 r.2.2 w' ∧ Keep N w w' ∧ v.rel μ' u
  | none => ∃ w' μ', s.run P w = .ok .skip w' ∧ ExtN nx μ μ' ∧ Inv N μ' r.2.1 r.2.2 w' ∧ Keep N w w'
section
variable {P : Program} {N : Ns} {μ : Mu} {H : Tr Bk} {nx : Nat} {w : World} {s : Sem Next}
theorem Does.value {v : V} (h : Inv N μ H nx w) (u : Value) (hr : s.run P w = .ok (.value u) w) (hv : v.rel μ u) : Does P N μ nx w s (some v, H, nx) :=
  ⟨u, w, μ, hr, ExtN.refl μ, h, Keep.refl N w, hv⟩

theorem row_cells (h : Inv N μ H nx w) {b : Nat} {m : Bool} {k e : Nat} {cells : List V} (hb : H.get b = some (.row m k e cells)) : ∃ p cur e' fz, μ b = some p ∧ w.heap[p.r]? = some (.cells cur e' fz) ∧
    (m = true → fz = (0, 0) ∧ e' = e ∧ cur.size = p.o + p.size) ∧ p.k = k ∧ cells.length ≤ p.size ∧ V.rels μ cells ((cur.toList.drop p.o).take cells.length) := by
  obtain ⟨p, o, h1, h2, cur, e', fz, rfl, h3, h4, h5, h6⟩ := h.blk b _ hb
  exact ⟨p, cur, e', fz, h1, h2, h3, h4, h5, h6⟩
theorem cell_heap {r j e : Nat} {cur : Array Value} {fz : Nat × Nat} (h : w.heap[r]? = some (.cells cur e fz)) : w.cell? ⟨r, j, none⟩ = cur[j]? := by simp [World.cell?, h]

/-! ### Loads -/
noncomputable def loadX (H : Tr Bk) (agg : Bool) (sz : Nat) : V → Option V
  | .ptr b off => match H.get b with
    | some (.row _ _ _ cells) => match agg with
      | true => match Nat.beq ((cells.drop off).take sz).length sz with
        | true => some (.agg ((cells.drop off).take sz))
        | false => none
      | false => match Nat.beq sz 1 with
        | true => cells[off]?
        | false => none
    | _ => none
  | _ => none
variable {ty : TypeId} {pos : String} {af : Array Edge} {g : Option (Nat × Bool)} {x y : Operand} {T : TypeId} {sz by' sz' by'' : Nat} {z z' : Option Value} {td td' : TD} {ρ : Operand → Value} {dst : Option Tmp}
theorem loadX_sound [Tab P] (h : Inv N μ H nx w) {v r : V} (hv : v.rel μ (ρ x)) (ht : Tab.look P T = some ⟨td, sz, by', z⟩) (hl : loadX H td.isAgg sz v = some r) :
    Does P N μ nx w (execOp ρ ⟨dst, .load T x, ty, pos, af, g⟩) (some r, H, nx) := by
  unfold loadX at hl
  split at hl
  · rename_i b off
    split at hl
    · rename_i m k e cells hb
      obtain ⟨p0, h1, h2⟩ := hv
      obtain ⟨p, cur, e', fz, g1, g2, g3, g4, g5, g6⟩ := row_cells h hb
      rw [h1] at g1; cases g1
      split at hl
      · rename_i ha
        split at hl
        · rename_i hq
          cases hl
          have hq := Nat.eq_of_beq_eq_true hq
          have hrel := rels_take _ _ sz (rels_drop _ _ off g6)
          refine Does.value h (.agg (List.take sz (List.drop off (List.take cells.length (List.drop p0.o cur.toList)))).toArray) ?_ ⟨_, rfl, hrel⟩
          refine run_load_cells w h2 ht _ (by rw [rels_length _ _ hrel, hq]) (fun j u hu => ?_) (by rw [ha]; rfl)
          rw [cell_heap g2]
          rw [List.getElem?_take] at hu
          split at hu
          · rw [List.getElem?_drop, List.getElem?_take] at hu
            split at hu
            · rw [List.getElem?_drop] at hu
              rw [← Array.getElem?_toList, Nat.add_assoc]; exact hu
            · cases hu
          · cases hu
        · cases hl
      · rename_i ha
        split at hl
        · rename_i hs
          have hs := Nat.eq_of_beq_eq_true hs
          obtain ⟨u, hu, hru⟩ := rels_get _ _ off r g6 hl
          refine Does.value h u ?_ hru
          refine run_load_cells w h2 ht [u] (by rw [hs]; rfl) (fun j u' hu' => ?_) (by rw [ha]; rfl)
          cases j with
          | zero =>
            simp only [List.getElem?_cons_zero, Option.some.injEq] at hu'
            subst hu'
            rw [List.getElem?_take] at hu
            split at hu
            · rw [List.getElem?_drop] at hu
              rw [cell_heap g2, ← Array.getElem?_toList]; simpa using hu
            · cases hu
          | succ j => simp at hu'
        · cases hl
    · cases hl
  · cases hl

/-! ### Stores -/
theorem splice_rel {μ : Mu} {cells vs : List V} {L cs : List Value} {off sz : Nat} (h : V.rels μ cells (L.take cells.length)) (hle : off + sz ≤ cells.length) (hL : cells.length ≤ L.length) (hv : V.rels μ vs cs) (hs : vs.length = sz) :
    V.rels μ (cells.take off ++ vs ++ cells.drop (off + sz)) ((L.take off ++ cs ++ L.drop (off + sz)).take (cells.take off ++ vs ++ cells.drop (off + sz)).length) := by
  have hc := rels_length _ _ hv
  have hA := rels_take _ _ off h
  rw [List.take_take, Nat.min_eq_left (by omega)] at hA
  have hB := rels_drop _ _ (off + sz) h
  rw [List.drop_take] at hB
  have hl : (cells.take off ++ vs ++ cells.drop (off + sz)).length = cells.length := by simp only [List.length_append, List.length_take, List.length_drop]; omega
  have hl2 : (L.take off ++ cs).length = off + sz := by simp only [List.length_append, List.length_take]; omega
  have e2 : (L.take off ++ cs ++ L.drop (off + sz)).take cells.length = L.take off ++ cs ++ (L.drop (off + sz)).take (cells.length - (off + sz)) := by
    rw [List.take_append, List.take_of_length_le (by omega), hl2]
  rw [hl, e2]
  exact rels_append _ _ _ _ (rels_append _ _ _ _ hA hv) hB
noncomputable def storeX (H : Tr Bk) (sz : Nat) (p v : V) : Option (Tr Bk) :=
  match p with
  | .ptr b off => match H.get b with
    | some (.row true k e cells) => match ones v.cells, Nat.beq v.cells.length sz, Nat.ble (off + sz) cells.length with
      | true, true, true => some (H.put b (some (.row true k e (cells.take off ++ v.cells ++ cells.drop (off + sz)))))
      | _, _, _ => none
    | _ => none
  | _ => none
theorem storeX_sound [Tab P] (h : Inv N μ H nx w) {p v : V} {H' : Tr Bk} (hp : p.rel μ (ρ x)) (hv : v.rel μ (ρ y)) (ht : Tab.look P T = some ⟨td, sz, by', z⟩) (hl : storeX H sz p v = some H') :
    Does P N μ nx w (execOp ρ ⟨dst, .store T x y, ty, pos, af, g⟩) (none, H', nx) := by
  unfold storeX at hl
  split at hl
  · rename_i b off
    split at hl
    · rename_i k e cells hb
      obtain ⟨p0, h1, h2⟩ := hp
      obtain ⟨p, cur, e', fz, g1, g2, g3, g4, g5, g6⟩ := row_cells h hb
      rw [h1] at g1; cases g1
      obtain ⟨rfl, rfl, hsz⟩ := g3 rfl
      split at hl
      · rename_i o1 o2 o3
        cases hl
        have o2 := Nat.eq_of_beq_eq_true o2
        have o3 := Nat.le_of_ble_eq_true o3
        obtain ⟨k1, k2⟩ := vcells_rel o1 hv
        have hlen := rels_length _ _ k1
        have hrun := run_store_row (P := P) (T := T) (ev := ρ) (x := x) (y := y) (dst := dst) (ty := ty) (pos := pos) (af := af) (g := g) w h2 rfl ht (by rw [hlen, o2]) k2 g2 (by omega)
        have hcur : cur.toList.length = cur.size := Array.length_toList
        have hcl : cells.length ≤ (cur.toList.drop p0.o).length := by rw [List.length_drop, hcur]; omega
        have hnew := splice_rel (off := off) (sz := sz) g6 o3 hcl k1 o2
        have e1 : (cur.toList.take (p0.o + off) ++ (ρ y).cells.toList ++ cur.toList.drop (p0.o + off + sz)).drop p0.o = (cur.toList.drop p0.o).take off ++ (ρ y).cells.toList ++ (cur.toList.drop p0.o).drop (off + sz) := by
          rw [List.append_assoc, List.drop_append_of_le_length (by rw [List.length_take, hcur]; omega), List.append_assoc]
          congr 1
          · rw [List.drop_take]; congr 1; omega
          · congr 1; rw [List.drop_drop]; congr 1; omega
        rw [← e1] at hnew
        have hset := setRow_heap w p0.r cur (cur.toList.take (p0.o + off) ++ (ρ y).cells.toList ++ cur.toList.drop (p0.o + off + sz)).toArray e' (0, 0) g2
        have hs1 : (cur.toList.take (p0.o + off) ++ (ρ y).cells.toList ++ cur.toList.drop (p0.o + off + sz)).toArray.size = p0.o + p0.size := by
          rw [List.size_toArray, List.length_append, List.length_append, List.length_take, List.length_drop, hcur, hlen]; omega
        obtain ⟨i1, i2⟩ := h.write (bk' := .row true k e' (cells.take off ++ v.cells ++ cells.drop (off + sz))) (w' := w.setRow p0.r (cur.toList.take (p0.o + off) ++ (ρ y).cells.toList ++ cur.toList.drop (p0.o + off + sz)).toArray) hb rfl h1
          ⟨_, e', (0, 0), rfl, fun _ => ⟨rfl, rfl, hs1⟩, g4, by rw [List.length_append, List.length_append, List.length_take, List.length_drop, Nat.min_eq_left (Nat.le_trans (Nat.le_add_right _ _) o3), o2]; exact Nat.le_trans (Nat.le_of_eq (by omega)) g5, hnew⟩ hset (fun r hr => setRow_other w p0.r r _ hr) (by simp) rfl rfl rfl
        exact ⟨_, μ, hrun, ExtN.refl μ, i1, i2⟩
      · cases hl
    · cases hl
  · cases hl
end
end Go.Xm

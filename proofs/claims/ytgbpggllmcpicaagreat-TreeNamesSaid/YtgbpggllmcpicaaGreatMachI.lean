/- MACHINE X, PART I: slices cleared; bytes as text. -/
import Derived.Test.YtgbpggllmcpicaaGreatMachG
import Derived.Laws.BytesString
namespace Go.Xm
open Go Go.Cr Go.RowKit

noncomputable def clearX (H : Tr Bk) (k : Nat) (zv : Value) : V → Option (Tr Bk)
  | .slice b off len _ => match len with
    | 0 => some H
    | _ => match H.get b with
      | some (.row true k' e cells) => match Nat.beq k' k, Nat.ble (off + len * k) cells.length, Nat.beq (zeroX zv).length k, ones (zeroX zv), Nat.blt 0 k with
        | true, true, true, true, true => some (H.put b (some (.row true k' e (cells.take off ++ rep len (zeroX zv) ++ cells.drop (off + len * k)))))
        | _, _, _, _, _ => none
      | _ => none
  | .val (.slice none 0 0) => some H
  | _ => none
noncomputable def bytesL : List V → Option (List Int)
  | [] => some []
  | v :: l => match v, bytesL l with
    | .val (.int .u8 n), some q => some (n :: q)
    | _, _ => none
def strX (ns : List Int) : ByteArray := ns.foldl (fun r (n : Int) => r.push (UInt8.ofNat n.toNat)) ByteArray.empty
noncomputable def bytesX (H : Tr Bk) : V → Option V
  | .slice b off len _ => match H.get b with
    | some (.row _ k _ cells) => match Nat.beq k 1, Nat.beq ((cells.drop off).take len).length len, bytesL ((cells.drop off).take len) with
      | true, true, some ns => some (.val (.string (strX ns)))
      | _, _, _ => none
    | _ => none
  | _ => none

section
variable {P : Program} {N : Ns} {μ : Mu} {H : Tr Bk} {nx : Nat} {w : World} {ρ : Operand → Value}
variable {ty : TypeId} {pos : String} {af : Array Edge} {g : Option (Nat × Bool)} {x y : Operand} {T T' : TypeId} {sz by' sz' by'' : Nat} {z z' : Option Value} {td td' : TD} {dst : Option Tmp}
theorem bytesL_rel : ∀ (l : List V) (ns : List Int) (us : List Value), bytesL l = some ns → V.rels μ l us → us = ns.map (Value.int .u8)
  | [], ns, us, h, hv => by simp only [bytesL, Option.some.injEq] at h; subst h; simpa [V.rels] using hv
  | v :: l, ns, us, h, ⟨u, r, e, h1, h2⟩ => by
    simp only [bytesL] at h
    split at h
    · rename_i n q hq
      cases h
      have : u = .int .u8 n := h1
      rw [e, this, bytesL_rel l q r hq h2]; rfl
    · cases h
theorem bytesX_sound [Tab P] (h : Inv N μ H nx w) {v r : V} (hv : v.rel μ (ρ x)) {e : Nat} (ht : Tab.look P T = some ⟨.slice e, sz, by', z⟩) (he : Tab.look P e = some ⟨.int .u8, sz', by'', z'⟩) {sz2 by2 : Nat} {z2 : Option Value} (hd : Tab.look P T' = some ⟨.string, sz2, by2, z2⟩)
    (hl : bytesX H v = some r) : Does P N μ nx w (execOp ρ ⟨dst, .convert T T' x, ty, pos, af, g⟩) (some r, H, nx) := by
  unfold bytesX at hl
  split at hl
  · rename_i b off len cap
    split at hl
    · rename_i m k e1 cells hb
      split at hl
      · rename_i ns b1 b2 b3
        cases hl
        have b1 := Nat.eq_of_beq_eq_true b1
        have b2 := Nat.eq_of_beq_eq_true b2
        subst b1
        obtain ⟨p, a, cp, h1, h2, h3, h4, h5, h6⟩ := hv
        obtain ⟨p', cur, e', fz, g1, g2, g3, g4, g5, g6⟩ := row_cells h hb
        rw [h1] at g1; cases g1
        have hrel := rels_take _ _ len (rels_drop _ _ off g6)
        have hus := bytesL_rel _ _ _ b3 hrel
        have hlen : ns.length = len := by
          have := rels_length _ _ hrel
          rw [hus] at this
          simpa [b2] using this
        refine Does.value h (.string (strX ns)) ?_ rfl
        have hload : (loadCells a len).run P w = .ok (ns.map (Value.int .u8)).toArray w := by
          rcases h5 with ⟨rfl, _⟩ | ⟨hz, o', rfl⟩
          · have := run_loadCells_list (P := P) w ⟨p.r, p.o + off, none⟩ (ns.map (Value.int .u8)) (fun j u hu => by
              rw [addr_add, cell_heap g2]
              rw [← hus, List.getElem?_take] at hu
              split at hu
              · rw [List.getElem?_drop, List.getElem?_take] at hu
                split at hu
                · rw [List.getElem?_drop] at hu
                  rw [← Array.getElem?_toList, Nat.add_assoc]; exact hu
                · cases hu
              · cases hu)
            rwa [List.length_map, hlen] at this
          · have hl0 : len = 0 := by omega
            subst hl0
            have : ns = [] := List.eq_nil_of_length_eq_zero hlen
            subst this
            have := run_loadCells_list (P := P) w ⟨p.r, o', none⟩ [] (fun j u hu => by simp at hu)
            simpa using this
        have hc := run_bytesToString (P := P) w a len cp ns hload
        have hcv := run_convert_bytes_string (P := P) w T T' e (some a) len cp (Tab.slice ht) (Tab.int he) (Tab.string hd)
        simp only [execOp, h2, Sem.run_bind, hcv, hc, Result.andThen, Sem.run_pure]
        rfl
      · cases hl
    · cases hl
  · cases hl
theorem clearX_sound [Tab P] (h : Inv N μ H nx w) {v : V} {H' : Tr Bk} {zv : Value} (hv : v.rel μ (ρ x)) {e k by2 : Nat} (ht : Tab.look P T = some ⟨.slice e, sz, by', z⟩) (he : Tab.look P e = some ⟨td, k, by2, some zv⟩)
    (hl : clearX H k zv v = some H') : Does P N μ nx w (execOp ρ ⟨dst, .call ⟨.builtin .clear, #[x], #[T]⟩, ty, pos, af, g⟩) (some (.tup []), H', nx) := by
  have run : ∀ (w' : World), (Builtin.clear_ #[T] ty #[ρ x]).run P w = .ok (.tuple #[]) w' → (execOp ρ ⟨dst, .call ⟨.builtin .clear, #[x], #[T]⟩, ty, pos, af, g⟩).run P w = .ok (.value (.tuple #[])) w' := fun w' hr => by
    have := run_call_builtin ρ dst .clear #[x] #[T] (ty := ty) (pos := pos) (af := af) (g := g)
    rw [this]
    simp only [builtin, Sem.run_bind]
    simp [hr, Result.andThen, Sem.run_pure]
  unfold clearX at hl
  split at hl
  · rename_i b off len cap
    obtain ⟨p, a, cp, h1, h2, h3, h4, h5, h6⟩ := hv
    split at hl
    · cases hl
      exact ⟨_, w, μ, run w (by rw [h2]; simp [Builtin.clear_, run_underlying (Tab.slice ht)]), ExtN.refl μ, h, Keep.refl N w, [], rfl, rfl⟩
    · rename_i hn0
      have hn : 0 < len := Nat.pos_of_ne_zero fun e => hn0 e
      split at hl
      · rename_i k' e1 cells hb
        split at hl
        · rename_i b1 b2 b3 b4 b5
          cases hl
          have b1 := Nat.eq_of_beq_eq_true b1
          have b2 := Nat.le_of_ble_eq_true b2
          have b3 := Nat.eq_of_beq_eq_true b3
          have b5 := Nat.blt_eq.mp b5
          subst b1
          obtain ⟨p', cur, e', fz, g1, g2, g3, g4, g5, g6⟩ := row_cells h hb
          rw [h1] at g1; cases g1
          obtain ⟨rfl, rfl, hsz⟩ := g3 rfl
          have hcp : ¬ cp = 0 := by omega
          obtain ⟨rfl, h5⟩ := h5.resolve_right fun hh => hcp hh.1
          have hzs : zv.cells.size = k' := by simpa [zeroX] using b3
          have hz : 0 < zv.cells.size := by omega
          have hnew : (Builtin.zeroCells zv.cells len).toList = (List.replicate len zv.cells.toList).flatten := range_cells zv.cells len hz
          have hrels : V.rels μ (rep len (zeroX zv)) ((List.replicate len zv.cells.toList).flatten) := rep_rels (rels_val _) len
          have hlr : (rep len (zeroX zv)).length = len * k' := by rw [rep_length, b3]
          have hln : ((List.replicate len zv.cells.toList).flatten).length = len * k' := by rw [rels_length _ _ hrels, hlr]
          have hone : ∀ u ∈ (List.replicate len zv.cells.toList).flatten, u.oneCell' = true := fun u hu => by
            rw [List.mem_flatten] at hu
            obtain ⟨l, hl, hu⟩ := hu
            rw [List.eq_of_mem_replicate hl] at hu
            exact ones_rel (μ := μ) _ _ b4 (rels_val _) u hu
          have hcur : cur.toList.length = cur.size := Array.length_toList
          have hst := run_storeCells_at (P := P) p.r (p.o + off) e' ((List.replicate len zv.cells.toList).flatten) 0 cur w g2 (by rw [hln]; omega) hone
          simp only [Nat.add_zero] at hst
          rw [hln] at hst
          have hcl : cells.length ≤ (cur.toList.drop p.o).length := by rw [List.length_drop, hcur]; omega
          have hsp := splice_rel (off := off) (sz := len * k') g6 b2 hcl hrels hlr
          have e2 : (cur.toList.take (p.o + off) ++ (List.replicate len zv.cells.toList).flatten ++ cur.toList.drop (p.o + off + len * k')).drop p.o = (cur.toList.drop p.o).take off ++ (List.replicate len zv.cells.toList).flatten ++ (cur.toList.drop p.o).drop (off + len * k') := by
            rw [List.append_assoc, List.drop_append_of_le_length (by rw [List.length_take, hcur]; omega), List.append_assoc]
            congr 1
            · rw [List.drop_take]; congr 1; omega
            · congr 1; rw [List.drop_drop]; congr 1; omega
          rw [← e2] at hsp
          have hs1 : (cur.toList.take (p.o + off) ++ (List.replicate len zv.cells.toList).flatten ++ cur.toList.drop (p.o + off + len * k')).toArray.size = p.o + p.size := by
            rw [List.size_toArray, List.length_append, List.length_append, List.length_take, List.length_drop, hcur, hln]; omega
          obtain ⟨i1, i2⟩ := h.write (bk' := .row true k' e' (cells.take off ++ rep len (zeroX zv) ++ cells.drop (off + len * k'))) (w' := w.setRow p.r (cur.toList.take (p.o + off) ++ (List.replicate len zv.cells.toList).flatten ++ cur.toList.drop (p.o + off + len * k')).toArray) hb rfl h1
            ⟨_, e', (0, 0), rfl, fun _ => ⟨rfl, rfl, hs1⟩, g4, by rw [List.length_append, List.length_append, List.length_take, List.length_drop, hlr]; omega, hsp⟩ (setRow_heap w p.r cur _ e' (0, 0) g2) (fun r hr => setRow_other w p.r r _ hr) (by simp) rfl rfl rfl
          refine ⟨_, _, μ, run _ ?_, ExtN.refl μ, i1, i2, [], rfl, rfl⟩
          rw [h2]
          obtain ⟨m, rfl⟩ : ∃ m, len = m + 1 := ⟨len - 1, by omega⟩
          simp [Builtin.clear_, run_underlying (Tab.slice ht), Tab.zeroOf w he, hnew, hst]
        · cases hl
      · cases hl
  · cases hl
    have hx : ρ x = .slice none 0 0 := hv
    exact ⟨_, w, μ, run w (by rw [hx]; simp [Builtin.clear_, run_underlying (Tab.slice ht)]), ExtN.refl μ, h, Keep.refl N w, [], rfl, rfl⟩
  · cases hl
end
end Go.Xm

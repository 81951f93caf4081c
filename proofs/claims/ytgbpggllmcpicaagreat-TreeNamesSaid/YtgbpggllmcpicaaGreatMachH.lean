/- MACHINE X, PART H: one operation that is no call of a function. -/
import Derived.Test.YtgbpggllmcpicaaGreatMachK
namespace Go.Xm
open Go Go.Cr Go.RowKit

noncomputable def intOf : V → Option Nat
  | .val (.int _ (.ofNat n)) => some n
  | _ => none
noncomputable def lenOfX : V → Option Nat
  | .slice _ _ n _ => some n
  | .val (.slice none 0 0) => some 0
  | _ => none
/-- A slice's block has elements of so many cells. -/
noncomputable def kOk (H : Tr Bk) (k : Nat) : V → Bool
  | .slice b _ _ _ => match H.get b with
    | some (.row _ k' _ _) => Nat.beq k' k
    | _ => false
  | _ => true
/-- How many elements a slice may be taken to have. -/
noncomputable def knX (H : Tr Bk) (k len : Nat) : V → Nat
  | .slice b off _ _ => match H.get b with
    | some (.row _ _ _ cells) => match Nat.blt 0 k, Nat.ble len (Nat.div (Nat.sub cells.length off) k) with
      | true, true => Nat.div (Nat.sub cells.length off) k
      | _, _ => len
    | _ => len
  | _ => len
noncomputable def sliceOpX (P : Program) [Tab P] (ev : Operand → Option V) (H : Tr Bk) (T : TypeId) (x : Operand) (lo hi mx : Option Operand) : Option V :=
  match ev x, Tab.look P T with
  | some v, some ⟨.slice e, _, _, _⟩ => match Tab.look P e, lenOfX v, kOk H ((match Tab.look P e with | some r => r.size | none => 0)) v with
    | some r, some len, true => match boundX ev 0 lo, boundX ev len hi with
      | some l, some h => match mx with
        | none => sliceX (knX H r.size len v) r.size l h none v
        | some m => match hi, boundX ev 0 (some m) with
          | some _, some q => sliceX (knX H r.size len v) r.size l h (some q) v
          | _, _ => none
      | _, _ => none
    | _, _, _ => none
  | _, _ => none
noncomputable def val1 (r : Option V) (H : Tr Bk) (nx : Nat) : Option Out := match r with
  | some v => some (some v, H, nx)
  | none => none
noncomputable def nilX (P : Program) [Tab P] (ev : Operand → Option V) (T : TypeId) (x y : Operand) (b : Bool) : Option V :=
  match ev x, y, Tab.look P T with
  | some v, .const c, some r => match solid r.td v c with
    | true => some (.val (.bool b))
    | false => none
  | _, _, _ => none
noncomputable def or1 (a b : Option V) : Option V := match a with
  | some v => some v
  | none => b
noncomputable def builtinX (P : Program) [Tab P] (ev : Operand → Option V) (H : Tr Bk) (nx : Nat) (o : Oper) (c : Call) : Option Out :=
  match c.callee with
  | .builtin .len => match c.args.toList, c.argTypes.toList with
    | [x], [T] => val1 (or1 (match ev x, Tab.look P T with | some v, some r => lenX H r.td v | _, _ => none) (pureX P ev o)) H nx
    | _, _ => none
  | .builtin .cap => match c.args.toList, c.argTypes.toList with
    | [x], [T] => val1 (or1 (match ev x, Tab.look P T with | some v, some ⟨.slice _, _, _, _⟩ => capX v | _, _ => none) (pureX P ev o)) H nx
    | _, _ => none
  | .builtin .append => match c.args.toList, c.argTypes.toList with
    | [x, y], [T, T'] => match ev x, ev y, Tab.look P T, Tab.look P T' with
      | some s, some v, some ⟨.slice e, _, _, _⟩, some ⟨.slice _, _, _, _⟩ => match Tab.look P e with
        | some ⟨_, k, by', some zv⟩ => match Nat.beq (zeroX zv).length k with
          | true => match appendX H nx k e by' s v with
            | some (r, H', nx') => some (some r, H', nx')
            | none => none
          | false => none
        | _ => none
      | _, _, _, _ => none
    | _, _ => none
  | .builtin .clear => match c.args.toList, c.argTypes.toList with
    | [x], [T] => match ev x, Tab.look P T with
      | some v, some ⟨.slice e, _, _, _⟩ => match Tab.look P e with
        | some ⟨_, k, _, some zv⟩ => match clearX H k zv v with
          | some H' => some (some (.tup []), H', nx)
          | none => none
        | _ => none
      | some v, some ⟨.map _ _, _, _, _⟩ => match clearMX H v with
        | some H' => some (some (.tup []), H', nx)
        | none => none
      | _, _ => none
    | _, _ => none
  | .builtin .delete => match c.args.toList, c.argTypes.toList with
    | [x, y], [T, _] => match ev x, ev y, Tab.look P T with
      | some m, some k, some ⟨.map kk _, _, _, _⟩ => match finder P kk k with
        | some f => match deleteX H f.2 m with
          | some H' => some (some (.tup []), H', nx)
          | none => none
        | none => none
      | _, _, _ => none
    | _, _ => none
  | .builtin _ => val1 (pureX P ev o) H nx
  | _ => none
/-- Bytes as text. -/
noncomputable def convX (P : Program) [Tab P] (ev : Operand → Option V) (H : Tr Bk) (S T : TypeId) (x : Operand) : Option V := match Tab.look P T with
  | some ⟨.string, _, _, _⟩ => match ev x, Tab.look P S with
    | some (.slice b off len cap), some ⟨.slice e, _, _, _⟩ => match Tab.look P e with
      | some ⟨.int .u8, _, _, _⟩ => bytesX H (.slice b off len cap)
      | _ => none
    | _, _ => none
  | _ => none
noncomputable def opX (P : Program) [Tab P] (ev : Operand → Option V) (H : Tr Bk) (nx : Nat) (o : Oper) : Option Out :=
  match o.op with
  | .move x => val1 (ev x) H nx
  | .assign x => val1 (ev x) H nx
  | .pick c a b => val1 (pickX ev c a b) H nx
  | .extract x i => val1 (match ev x with | some v => extractX i v | none => none) H nx
  | .load T x => val1 (match ev x, Tab.look P T with | some v, some r => loadX H r.td.isAgg r.size v | _, _ => none) H nx
  | .store T x y => match ev x, ev y, Tab.look P T with
    | some p, some v, some r => match storeX H r.size p v with
      | some H' => some (none, H', nx)
      | none => none
    | _, _, _ => none
  | .fieldAddr T x i => val1 (match ev x, Tab.look P T with
    | some v, some ⟨.struct fs, _, _, _⟩ => match fs[i]? with
      | some (ft, fo) => match Tab.look P ft with
        | some r => match Nat.beq r.size 0 with
          | false => fieldAddrX fo v
          | true => none
        | none => none
      | none => none
    | _, _ => none) H nx
  | .field T x i => val1 (match ev x, Tab.look P T with
    | some v, some ⟨.struct fs, _, _, _⟩ => match fs[i]? with
      | some (ft, fo) => match Tab.look P ft with
        | some r => fieldX r.td.isAgg r.size fo v
        | none => none
      | none => none
    | _, _ => none) H nx
  | .indexAddr T x y => val1 (match ev x, ev y, Tab.look P T with
    | some v, some i, some ⟨.slice e, _, _, _⟩ => match Tab.look P e with
      | some r => indexAddrX r.size v i
      | none => none
    | _, _, _ => none) H nx
  | .slice T x lo hi mx => val1 (or1 (sliceOpX P ev H T x lo hi mx) (pureX P ev o)) H nx
  | .binOp .eql T x y _ => val1 (or1 (nilX P ev T x y false) (pureX P ev o)) H nx
  | .binOp .neq T x y _ => val1 (or1 (nilX P ev T x y true) (pureX P ev o)) H nx
  | .alloc T => match Tab.look P T with
    | some ⟨_, _, _, some zv⟩ => some (some (.ptr nx 0), H.put nx (some (.row true (zeroX zv).length T (zeroX zv))), nx + 1)
    | _ => none
  | .box T x => match ev x with
    | some v => match ones v.cells with
      | true => some (some (.ptr nx 0), H.put nx (some (.row true v.cells.length T v.cells)), nx + 1)
      | false => none
    | none => none
  | .build T ps => val1 (match Tab.look P T with
    | some ⟨.struct fs, _, _, some zv⟩ => buildX P ev fs zv ps.toList
    | some ⟨.array _ e, _, _, some zv⟩ => match Tab.look P e with
      | some r => buildArrX ev r.size zv ps.toList
      | none => none
    | _ => none) H nx
  | .index T x y => val1 (or1 (match ev x, ev y, Tab.look P T with
    | some v, some i, some ⟨.array m e, _, _, _⟩ => match Tab.look P e with
      | some r => indexArrX r.td.isAgg r.size m v i
      | none => none
    | _, _, _ => none) (pureX P ev o)) H nx
  | .buildSlice T q ps => match Tab.look P T with
    | some ⟨.slice e, _, _, _⟩ => match Tab.look P e with
      | some ⟨_, k, _, some zv⟩ => match buildSliceX ev k zv q ps.toList with
        | some out => some (some (.slice nx 0 q (some q)), H.put nx (some (.row true k e out)), nx + 1)
        | none => none
      | _ => none
    | _ => none
  | .makeSlice T x y => match ev x, ev y, Tab.look P T with
    | some (.val (.int _ (.ofNat l))), some (.val (.int _ (.ofNat c))), some ⟨.slice e, _, _, _⟩ => match Tab.look P e with
      | some ⟨_, k, by', some zv⟩ => match makeX k by' zv l c with
        | some out => some (some (.slice nx 0 l (some c)), H.put nx (some (.row true k e out)), nx + 1)
        | none => none
      | _ => none
    | _, _, _ => none
  | .makeInterface T x => val1 (match ev x, Tab.look P T with
    | some v, some r => match notIface r.td with
      | true => some (.iface T v)
      | false => none
    | _, _ => none) H nx
  | .makeFunc f a b => val1 (match evalL ev a.toList, evalL ev b.toList with
    | some p, some q => some (.fn f p q)
    | _, _ => none) H nx
  | .nilCheck x => val1 (match ev x with | some v => nilCheckX P v | none => none) H nx
  | .makeMap T none => some (some (.map nx), H.put nx (some (.map 0 [] [])), nx + 1)
  | .makeMap T (some x) => match ev x, Tab.look P T with
    | some (.val (.int _ _)), some ⟨.map _ _, _, _, _⟩ => some (some (.map nx), H.put nx (some (.map 0 [] [])), nx + 1)
    | _, _ => none
  | .lookup T x y ok => val1 (match ev x, ev y, Tab.look P T with
    | some m, some k, some ⟨.map kk e, _, _, _⟩ => match finder P kk k, Tab.look P e with
      | some f, some ⟨_, _, _, some zv⟩ => lookupX H f.2 zv ok m
      | _, _ => none
    | _, _, _ => none) H nx
  | .mapUpdate T x y v => match ev x, ev y, ev v, Tab.look P T with
    | some m, some k, some u, some ⟨.map kk _, _, _, _⟩ => match finder P kk k with
      | some f => match mapUpdateX H f.2 m f.1 u with
        | some H' => some (none, H', nx)
        | none => none
      | none => none
    | _, _, _, _ => none
  | .mapEntry T x y => match ev x, ev y, Tab.look P T with
    | some m, some k, some ⟨.map kk e, _, _, _⟩ => match finder P kk k, Tab.look P e with
      | some f, some ⟨_, _, _, some zv⟩ => match mapEntryX H f.2 zv m f.1 with
        | some q => some (some q.1, q.2, nx)
        | none => none
      | _, _ => none
    | _, _, _ => none
  | .entryStore _ x y v => match ev x, ev y, ev v with
    | some m, some st, some u => match entryStoreX H m st u with
      | some H' => some (none, H', nx)
      | none => none
    | _, _, _ => none
  | .range T x => match ev x, Tab.look P T with
    | some m, some ⟨.map _ _, _, _, _⟩ => match rangeMX H nx m with
      | some q => some (some q.1, q.2.1, q.2.2)
      | none => none
    | _, _ => none
  | .next x false => match ev x with
    | some it => match nextMX H it with
      | some q => some (some q.1, q.2, nx)
      | none => none
    | none => none
  | .entry x => val1 (match ev x with | some it => entryMX H it | none => none) H nx
  | .call c => builtinX P ev H nx o c
  | .convert S T x => val1 (or1 (convX P ev H S T x) (pureX P ev o)) H nx
  | _ => val1 (pureX P ev o) H nx

section
variable {P : Program} {N : Ns} {μ : Mu} {H : Tr Bk} {nx : Nat} {w : World} {ρ : Operand → Value}
theorem val1_out {r : Option V} {out : Out} (h : val1 r H nx = some out) : ∃ v, r = some v ∧ out = (some v, H, nx) := by
  unfold val1 at h
  split at h
  · cases h; exact ⟨_, rfl, rfl⟩
  · cases h
theorem or1_out {a b : Option V} {v : V} (h : or1 a b = some v) : a = some v ∨ b = some v := by
  unfold or1 at h
  split at h
  · exact .inl h
  · exact .inr h
theorem sliceOpX_sound [Tab P] {ev : Operand → Option V} (hev : ∀ x v, ev x = some v → v.rel μ (ρ x)) (h : Inv N μ H nx w) {dst : Option Tmp} {T : TypeId} {x : Operand} {lo hi mx : Option Operand} {ty : TypeId} {pos : String} {af : Array Edge} {g : Option (Nat × Bool)} {r : V}
    (hl : sliceOpX P ev H T x lo hi mx = some r) : Does P N μ nx w (execOp ρ ⟨dst, .slice T x lo hi mx, ty, pos, af, g⟩) (some r, H, nx) := by
  unfold sliceOpX at hl
  split at hl
  · rename_i v e _ _ _ hv hT
    split at hl
    · rename_i re len he hlen hk
      obtain ⟨tde, sze, bye, ze⟩ := re
      have hlen' : (∃ b off cap, v = .slice b off len cap) ∨ (v = .val (.slice none 0 0) ∧ len = 0) := by
        unfold lenOfX at hlen
        split at hlen
        · cases hlen; exact .inl ⟨_, _, _, rfl⟩
        · cases hlen; exact .inr ⟨rfl, rfl⟩
        · cases hlen
      rw [he] at hk
      simp only at hk
      have hkk : ∀ b off cap p, v = .slice b off len cap → μ b = some p → p.k = sze := fun b off cap p hvv hp => by
        subst hvv
        simp only [kOk] at hk
        split at hk
        · rename_i hb
          obtain ⟨p', cur, e', fz, g1, g2, g3, g4, _⟩ := row_cells h hb
          rw [hp] at g1; cases g1
          rw [g4]; exact Nat.eq_of_beq_eq_true hk
        · cases hk
      have hkn : ∀ b off p cp, v = .slice b off len none → μ b = some p → len ≤ cp → off + cp * p.k = p.size → knX H sze len v ≤ cp := fun b off p cp hvv hp hle hex => by
        have hk2 := hkk b off none p hvv hp
        subst hvv
        simp only [knX]
        split
        · rename_i cells hb
          obtain ⟨p', cur, e', fz, g1, g2, g3, g4, g5, g6⟩ := row_cells h hb
          rw [hp] at g1; cases g1
          split
          · rename_i hpos _
            have hpos := Nat.blt_eq.mp hpos
            rw [hk2] at hex
            refine Nat.le_of_mul_le_mul_right (c := sze) ?_ hpos
            have := Nat.div_mul_le_self (Nat.sub cells.length off) sze
            refine Nat.le_trans this ?_
            show _ - off ≤ _
            omega
          · exact hle
        · exact hle
      split at hl
      · rename_i l hh h1 h2
        split at hl
        · exact sliceX_sound hev h (hev x v hv) hlen' h1 h2 (.inl ⟨rfl, rfl⟩) hT he hkk hkn hl
        · split at hl
          · rename_i hq
            exact sliceX_sound hev h (hev x v hv) hlen' h1 h2 (.inr ⟨by simp, _, rfl, by simp, hq⟩) hT he hkk hkn hl
          · cases hl
      · cases hl
    · cases hl
  · cases hl
theorem toList_one {α : Type} {a : Array α} {l : List α} (h : a.toList = l) : a = l.toArray := by subst h; simp
theorem builtinX_sound [Tab P] {ev : Operand → Option V} (hev : ∀ x v, ev x = some v → v.rel μ (ρ x)) (h : Inv N μ H nx w) {dst : Option Tmp} {c : Call} {ty : TypeId} {pos : String} {af : Array Edge} {g : Option (Nat × Bool)} {r : Out}
    (hl : builtinX P ev H nx ⟨dst, .call c, ty, pos, af, g⟩ c = some r) : Does P N μ nx w (execOp ρ ⟨dst, .call c, ty, pos, af, g⟩) r := by
  obtain ⟨callee, args, ats⟩ := c
  unfold builtinX at hl
  simp only at hl
  split at hl
  · split at hl
    · rename_i ha ht0
      have ha := toList_one ha
      have ht0 := toList_one ht0
      subst ha ht0
      obtain ⟨v, h1, rfl⟩ := val1_out hl
      rcases or1_out h1 with h1 | h1
      · split at h1
        · rename_i r hx ht; obtain ⟨_, _, _, _⟩ := r; exact lenX_sound h (hev _ _ hx) ht h1
        · cases h1
      · exact pureX_sound hev h h1
    · cases hl
  · split at hl
    · rename_i ha ht0
      have ha := toList_one ha
      have ht0 := toList_one ht0
      subst ha ht0
      obtain ⟨v, h1, rfl⟩ := val1_out hl
      rcases or1_out h1 with h1 | h1
      · split at h1
        · rename_i hx ht; exact capX_sound h (hev _ _ hx) ht h1
        · cases h1
      · exact pureX_sound hev h h1
    · cases hl
  · split at hl
    · rename_i ha ht0
      have ha := toList_one ha
      have ht0 := toList_one ht0
      subst ha ht0
      split at hl
      · rename_i hx hy ht ht'
        split at hl
        · rename_i he
          split at hl
          · rename_i hz
            split at hl
            · rename_i ha; cases hl; exact appendX_sound h (hev _ _ hx) (hev _ _ hy) ht ht' he hz ha
            · cases hl
          · cases hl
        · cases hl
      · cases hl
    · cases hl
  · split at hl
    · rename_i ha ht0
      have ha := toList_one ha
      have ht0 := toList_one ht0
      subst ha ht0
      split at hl
      · rename_i hx ht
        split at hl
        · rename_i he
          split at hl
          · rename_i hc; cases hl; exact clearX_sound h (hev _ _ hx) ht he hc
          · cases hl
        · cases hl
      · rename_i hx ht
        split at hl
        · rename_i hc; cases hl; exact clearMX_sound h (hev _ _ hx) ht hc
        · cases hl
      · cases hl
    · cases hl
  · split at hl
    · rename_i ha ht0
      have ha := toList_one ha
      have ht0 := toList_one ht0
      subst ha ht0
      split at hl
      · rename_i hx hy ht
        split at hl
        · rename_i hf
          obtain ⟨f1, f2⟩ := finder_ok hf (hev _ _ hy)
          split at hl
          · rename_i hc; cases hl; exact deleteX_sound h (hev _ _ hx) f1 ht f2 hc
          · cases hl
        · cases hl
      · cases hl
    · cases hl
  · obtain ⟨v, h1, rfl⟩ := val1_out hl; exact pureX_sound hev h h1
  · cases hl
theorem opX_sound [Tab P] {ev : Operand → Option V} (hev : ∀ x v, ev x = some v → v.rel μ (ρ x)) (hc : ∀ c, ρ (.const c) = c) (h : Inv N μ H nx w) {o : Oper} {r : Out} (hl : opX P ev H nx o = some r) : Does P N μ nx w (execOp ρ o) r := by
  obtain ⟨dst, op, ty, pos, af, g⟩ := o
  unfold opX at hl
  simp only at hl
  split at hl
  · obtain ⟨v, h1, rfl⟩ := val1_out hl; exact moveX_sound h (hev _ v h1)
  · obtain ⟨v, h1, rfl⟩ := val1_out hl; exact assignX_sound h (hev _ v h1)
  · obtain ⟨v, h1, rfl⟩ := val1_out hl; exact pickX_sound hev h h1
  · obtain ⟨v, h1, rfl⟩ := val1_out hl
    split at h1
    · rename_i hx; exact extractX_sound h (hev _ _ hx) h1
    · cases h1
  · obtain ⟨v, h1, rfl⟩ := val1_out hl
    split at h1
    · rename_i r hx ht; obtain ⟨_, _, _, _⟩ := r; exact loadX_sound h (hev _ _ hx) ht h1
    · cases h1
  · split at hl
    · rename_i r hp hv ht
      obtain ⟨_, _, _, _⟩ := r
      split at hl
      · rename_i H' hs; cases hl; exact storeX_sound h (hev _ _ hp) (hev _ _ hv) ht hs
      · cases hl
    · cases hl
  · obtain ⟨v, h1, rfl⟩ := val1_out hl
    split at h1
    · rename_i hx ht
      split at h1
      · rename_i hf
        split at h1
        · rename_i r hft
          obtain ⟨_, _, _, _⟩ := r
          split at h1
          · rename_i hz; exact fieldAddrX_sound h (hev _ _ hx) ht hf hft hz h1
          · cases h1
        · cases h1
      · cases h1
    · cases h1
  · obtain ⟨v, h1, rfl⟩ := val1_out hl
    split at h1
    · rename_i hx ht
      split at h1
      · rename_i hf
        split at h1
        · rename_i r hft
          obtain ⟨_, _, _, _⟩ := r
          exact fieldX_sound h (hev _ _ hx) ht hf hft h1
        · cases h1
      · cases h1
    · cases h1
  · obtain ⟨v, h1, rfl⟩ := val1_out hl
    split at h1
    · rename_i hx hi ht
      split at h1
      · rename_i r he
        obtain ⟨_, _, _, _⟩ := r
        exact indexAddrX_sound h (hev _ _ hx) (hev _ _ hi) ht he h1
      · cases h1
    · cases h1
  · obtain ⟨v, h1, rfl⟩ := val1_out hl
    rcases or1_out h1 with h1 | h1
    · exact sliceOpX_sound hev h h1
    · exact pureX_sound hev h h1
  · obtain ⟨v, h1, rfl⟩ := val1_out hl
    rcases or1_out h1 with h1 | h1
    · unfold nilX at h1
      split at h1
      · rename_i r hx ht _
        obtain ⟨_, _, _, _⟩ := r
        split at h1
        · rename_i hs; cases h1; exact eqlX_sound h (hev _ _ hx) (hc _) ht hs
        · cases h1
      · cases h1
    · exact pureX_sound hev h h1
  · obtain ⟨v, h1, rfl⟩ := val1_out hl
    rcases or1_out h1 with h1 | h1
    · unfold nilX at h1
      split at h1
      · rename_i r hx ht _
        obtain ⟨_, _, _, _⟩ := r
        split at h1
        · rename_i hs; cases h1; exact neqX_sound h (hev _ _ hx) (hc _) ht hs
        · cases h1
      · cases h1
    · exact pureX_sound hev h h1
  · split at hl
    · rename_i ht; cases hl; exact allocX_sound h ht
    · cases hl
  · split at hl
    · rename_i hx
      split at hl
      · rename_i ho; cases hl; exact boxX_sound h (hev _ _ hx) ho
      · cases hl
    · cases hl
  · obtain ⟨v, h1, rfl⟩ := val1_out hl
    split at h1
    · rename_i ht; exact buildX_sound hev h ht h1
    · rename_i ht
      split at h1
      · rename_i r he; obtain ⟨_, _, _, _⟩ := r; exact buildArrX_sound hev h ht he h1
      · cases h1
    · cases h1
  · obtain ⟨v, h1, rfl⟩ := val1_out hl
    rcases or1_out h1 with h1 | h1
    · split at h1
      · rename_i hx hi ht
        split at h1
        · rename_i r he; obtain ⟨_, _, _, _⟩ := r; exact indexArrX_sound h (hev _ _ hx) (hev _ _ hi) ht he h1
        · cases h1
      · cases h1
    · exact pureX_sound hev h h1
  · split at hl
    · rename_i ht
      split at hl
      · rename_i he
        split at hl
        · rename_i hb; cases hl; exact buildSliceX_sound hev h ht he hb
        · cases hl
      · cases hl
    · cases hl
  · split at hl
    · rename_i hx hy ht
      split at hl
      · rename_i he
        split at hl
        · rename_i hb; cases hl; exact makeX_sound h (hev _ _ hx) (hev _ _ hy) ht he hb
        · cases hl
      · cases hl
    · cases hl
  · obtain ⟨v, h1, rfl⟩ := val1_out hl
    split at h1
    · rename_i r hx ht
      obtain ⟨_, _, _, _⟩ := r
      split at h1
      · rename_i hn; cases h1; exact makeInterfaceX_sound h (hev _ _ hx) ht hn
      · cases h1
    · cases h1
  · obtain ⟨v, h1, rfl⟩ := val1_out hl
    split at h1
    · rename_i ha hb; cases h1; exact makeFuncX_sound hev h ha hb
    · cases h1
  · obtain ⟨v, h1, rfl⟩ := val1_out hl
    split at h1
    · rename_i hx; exact nilCheckX_sound h (hev _ _ hx) h1
    · cases h1
  · cases hl; exact makeMapX_sound h
  · split at hl
    · rename_i hx ht; cases hl; exact makeMapHintX_sound h (hev _ _ hx) ht
    · cases hl
  · obtain ⟨v, h1, rfl⟩ := val1_out hl
    split at h1
    · rename_i hx hy ht
      split at h1
      · rename_i hf he
        obtain ⟨f1, f2⟩ := finder_ok hf (hev _ _ hy)
        exact lookupX_sound h (hev _ _ hx) f1 ht f2 he h1
      · cases h1
    · cases h1
  · split at hl
    · rename_i hx hy hv ht
      split at hl
      · rename_i hf
        obtain ⟨f1, f2⟩ := finder_ok hf (hev _ _ hy)
        split at hl
        · rename_i hu; cases hl; exact mapUpdateX_sound h (hev _ _ hx) f1 (hev _ _ hv) ht f2 hu
        · cases hl
      · cases hl
    · cases hl
  · split at hl
    · rename_i hx hy ht
      split at hl
      · rename_i hf he
        obtain ⟨f1, f2⟩ := finder_ok hf (hev _ _ hy)
        split at hl
        · rename_i q hq; obtain ⟨_, _⟩ := q; cases hl; exact mapEntryX_sound h (hev _ _ hx) f1 ht f2 he hq
        · cases hl
      · cases hl
    · cases hl
  · split at hl
    · rename_i hx hy hv
      split at hl
      · rename_i hq; cases hl; exact entryStoreX_sound h (hev _ _ hx) (hev _ _ hy) (hev _ _ hv) hq
      · cases hl
    · cases hl
  · split at hl
    · rename_i hx ht
      split at hl
      · rename_i q hq; cases hl; exact rangeMX_sound h (hev _ _ hx) ht hq
      · cases hl
    · cases hl
  · split at hl
    · rename_i hx
      split at hl
      · rename_i q hq; obtain ⟨_, _⟩ := q; cases hl; exact nextMX_sound h (hev _ _ hx) hq
      · cases hl
    · cases hl
  · obtain ⟨v, h1, rfl⟩ := val1_out hl
    split at h1
    · rename_i hx; exact entryMX_sound h (hev _ _ hx) h1
    · cases h1
  · exact builtinX_sound hev h hl
  · obtain ⟨v, h1, rfl⟩ := val1_out hl
    rcases or1_out h1 with h1 | h1
    · unfold convX at h1
      split at h1
      · rename_i hT
        split at h1
        · rename_i hx hS
          split at h1
          · rename_i he; exact bytesX_sound h (hev _ _ hx) hS he hT h1
          · cases h1
        · cases h1
      · cases h1
    · exact pureX_sound hev h h1
  · obtain ⟨v, h1, rfl⟩ := val1_out hl; exact pureX_sound hev h h1
end
end Go.Xm

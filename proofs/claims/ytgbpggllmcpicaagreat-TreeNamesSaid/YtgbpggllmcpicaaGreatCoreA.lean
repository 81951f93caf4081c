/- THE OWN LAYER, PART A: immutable data (I), what a slot holds (D), own memory (Blk), the state that is known of a frame and a world (Sg, RelR). -/
import Derived.Calls
import Derived.Orders
import Derived.Below
import Derived.Laws.AppendOwn
import Derived.WalkKit
namespace Go.Cr
open Go Go.RowKit

/-- Data that nobody writes any more. -/
inductive I where
  | val (v : Value)
  | slice (l : List I)
  | agg (l : List I)

mutual
/-- A value reads as such data; all memory on the way lies in blocks that are 'ok'. -/
def I.den (ok : Nat → Prop) (w : World) : I → Value → Prop
  | .val u, v => v = u
  | .agg l, v => ∃ cs : List Value, v = .agg cs.toArray ∧ I.dens ok w l cs
  | .slice l, v => ∃ a cap, v = .slice a l.length cap ∧ l.length ≤ cap ∧ cap ≤ maxLen ∧ (l = [] ∨ ∃ b off k, a = some ⟨b, off, none⟩ ∧ ok b ∧ I.denRow ok w l b off k)
def I.dens (ok : Nat → Prop) (w : World) : List I → List Value → Prop
  | [], vs => vs = []
  | x :: l, vs => ∃ v r, vs = v :: r ∧ I.den ok w x v ∧ I.dens ok w l r
/-- The elements lie in a row, each k cells. -/
def I.denRow (ok : Nat → Prop) (w : World) : List I → Nat → Nat → Nat → Prop
  | [], _, _, _ => True
  | x :: l, b, off, k => (∃ v, I.den ok w x v ∧ v.cells.size = k ∧ ∀ j, j < k → w.cell? ⟨b, off + j, none⟩ = v.cells[j]?) ∧ I.denRow ok w l b (off + k) k
end

/-- What holds in a world holds in one that keeps the ok blocks. -/
def Keeps (ok : Nat → Prop) (w : World) (ok' : Nat → Prop) (w' : World) : Prop :=
  ∀ b, ok b → ok' b ∧ ∀ off, w'.cell? ⟨b, off, none⟩ = w.cell? ⟨b, off, none⟩

mutual
theorem I.den_mono {ok : Nat → Prop} {w : World} {ok' : Nat → Prop} {w' : World} (h : Keeps ok w ok' w') : ∀ (i : I) (v : Value), I.den ok w i v → I.den ok' w' i v
  | .val _, _, hv => hv
  | .agg l, v, ⟨cs, e, hl⟩ => ⟨cs, e, I.dens_mono h l cs hl⟩
  | .slice l, v, ⟨a, cap, e, h1, h2, hl⟩ => ⟨a, cap, e, h1, h2, hl.imp id fun ⟨b, off, k, ea, hb, hr⟩ => ⟨b, off, k, ea, (h b hb).1, I.denRow_mono h l b off k (h b hb).2 hr⟩⟩
theorem I.dens_mono {ok : Nat → Prop} {w : World} {ok' : Nat → Prop} {w' : World} (h : Keeps ok w ok' w') : ∀ (l : List I) (vs : List Value), I.dens ok w l vs → I.dens ok' w' l vs
  | [], _, hv => hv
  | x :: l, vs, ⟨v, r, e, hx, hl⟩ => ⟨v, r, e, I.den_mono h x v hx, I.dens_mono h l r hl⟩
theorem I.denRow_mono {ok : Nat → Prop} {w : World} {ok' : Nat → Prop} {w' : World} (h : Keeps ok w ok' w') : ∀ (l : List I) (b off k : Nat), (∀ off, w'.cell? ⟨b, off, none⟩ = w.cell? ⟨b, off, none⟩) → I.denRow ok w l b off k → I.denRow ok' w' l b off k
  | [], _, _, _, _, _ => trivial
  | x :: l, b, off, k, hc, ⟨⟨v, hv, hs, hj⟩, hl⟩ => ⟨⟨v, I.den_mono h x v hv, hs, fun j hj' => (hc _).trans (hj j hj')⟩, I.denRow_mono h l b (off + k) k hc hl⟩
end

/-- The element at a place of a row. -/
theorem I.denRow_get {ok : Nat → Prop} {w : World} {k b : Nat} : ∀ (l : List I) (off i : Nat) (x : I), I.denRow ok w l b off k → l[i]? = some x →
    ∃ v, I.den ok w x v ∧ v.cells.size = k ∧ ∀ j, j < k → w.cell? ⟨b, off + i * k + j, none⟩ = v.cells[j]?
  | [], _, i, x, _, h => by simp at h
  | y :: l, off, 0, x, ⟨hv, _⟩, h => by
    simp at h; subst h; simpa using hv
  | y :: l, off, i + 1, x, ⟨_, hr⟩, h => by
    obtain ⟨v, h1, h2, h3⟩ := I.denRow_get l (off + k) i x hr (by simpa using h)
    refine ⟨v, h1, h2, fun j hj => ?_⟩
    have e : off + (i + 1) * k + j = off + k + i * k + j := by rw [Nat.add_mul]; omega
    rw [e]; exact h3 j hj
/-- A row out of its elements. -/
theorem I.denRow_of {ok : Nat → Prop} {w : World} {k b : Nat} : ∀ (l : List I) (off : Nat),
    (∀ i x, l[i]? = some x → ∃ v, I.den ok w x v ∧ v.cells.size = k ∧ ∀ j, j < k → w.cell? ⟨b, off + i * k + j, none⟩ = v.cells[j]?) → I.denRow ok w l b off k
  | [], _, _ => trivial
  | y :: l, off, h => by
    refine ⟨by simpa using h 0 y rfl, I.denRow_of l (off + k) fun i x hx => ?_⟩
    obtain ⟨v, h1, h2, h3⟩ := h (i + 1) x (by simpa using hx)
    refine ⟨v, h1, h2, fun j hj => ?_⟩
    have e : off + k + i * k + j = off + (i + 1) * k + j := by rw [Nat.add_mul]; omega
    rw [e]; exact h3 j hj
theorem I.dens_get {ok : Nat → Prop} {w : World} : ∀ (l : List I) (vs : List Value) (i : Nat) (x : I), I.dens ok w l vs → l[i]? = some x → ∃ v, vs[i]? = some v ∧ I.den ok w x v
  | [], _, i, x, _, h => by simp at h
  | y :: l, vs, 0, x, ⟨v, r, e, hx, _⟩, h => by simp at h; subst h; subst e; exact ⟨v, rfl, hx⟩
  | y :: l, vs, i + 1, x, ⟨v, r, e, _, hl⟩, h => by subst e; simpa using I.dens_get l r i x hl (by simpa using h)
theorem I.dens_length {ok : Nat → Prop} {w : World} : ∀ (l : List I) (vs : List Value), I.dens ok w l vs → vs.length = l.length
  | [], _, h => by simp [I.dens] at h; simp [h]
  | _ :: l, _, ⟨_, r, e, _, hl⟩ => by subst e; simp [I.dens_length l r hl]
theorem I.dens_of {ok : Nat → Prop} {w : World} : ∀ (l : List I) (vs : List Value), vs.length = l.length → (∀ (i : Nat) x v, l[i]? = some x → vs[i]? = some v → I.den ok w x v) → I.dens ok w l vs
  | [], vs, h, _ => by show vs = []; simpa using h
  | x :: l, [], h, _ => by simp at h
  | x :: l, v :: vs, h, hx => ⟨v, vs, rfl, hx 0 x v rfl rfl, I.dens_of l vs (by simpa using h) fun i x v h1 h2 => hx (i + 1) x v (by simpa using h1) (by simpa using h2)⟩

/-- What a slot holds. Keys (b) name own memory. -/
inductive D where
  | imm (i : I)
  | own (b : Nat)
  | view (b off len : Nat)
  | elem (b i f : Nat)
  | ptr (b f : Nat)
  | at (x : I) (f : Nat)
  | full (l : List I)
  | agg (l : List D)
  | tup (l : List D)
  | fn (f : Fn) (first cap : List D)
  | mp (b : Nat)
  | nils
  | any

/-- Own memory: a row of elements that may grow, or a variable of some cells; a map of plain keys. -/
inductive Blk where
  | row (k : Nat) (e : TypeId) (l : List I)
  | obj (cs : List D) (e : TypeId)
  | map (es : List (Value × I))

/-- Where a key's memory lies. -/
inductive R where
  | nil
  | blk (r cap : Nat)
def R.val : R → Nat → Value
  | .nil, n => .slice none n 0
  | .blk r cap, n => .slice (some ⟨r, 0, none⟩) n cap

mutual
def D.rel (ok : Nat → Prop) (w : World) (hb : Nat → Option Blk) (ρ : Nat → R) : D → Value → Prop
  | .imm i, v => I.den ok w i v
  | .own b, v => ∀ k e l, hb b = some (.row k e l) → v = (ρ b).val l.length
  | .view b off len, v => ∀ k e l, hb b = some (.row k e l) → off + len ≤ l.length ∧ ∃ a c, v = .slice a len c ∧ len ≤ c ∧ c ≤ maxLen ∧ (len = 0 ∨ ∃ r cap, ρ b = .blk r cap ∧ a = some ⟨r, off * k, none⟩)
  | .elem b i f, v => ∀ k e l, hb b = some (.row k e l) → i < l.length ∧ ∃ r cap, ρ b = .blk r cap ∧ v = .pointer (some ⟨r, i * k + f, none⟩)
  | .ptr b f, v => ∀ cs e, hb b = some (.obj cs e) → ∃ r cap, ρ b = .blk r cap ∧ v = .pointer (some ⟨r, f, none⟩)
  | .at x f, v => ∃ b off u, v = .pointer (some ⟨b, off + f, none⟩) ∧ ok b ∧ I.den ok w x u ∧ ∀ j, j < u.cells.size → w.cell? ⟨b, off + j, none⟩ = u.cells[j]?
  | .full l, v => I.den ok w (.slice l) v ∧ ∃ a, v = .slice a l.length l.length
  | .agg l, v => ∃ cs : List Value, v = .agg cs.toArray ∧ D.rels ok w hb ρ l cs
  | .tup l, v => ∃ cs : List Value, v = .tuple cs.toArray ∧ D.rels ok w hb ρ l cs
  | .fn f l m, v => ∃ cs ds : List Value, v = .func f cs.toArray ds.toArray ∧ D.rels ok w hb ρ l cs ∧ D.rels ok w hb ρ m ds
  | .mp b, v => ∀ es, hb b = some (.map es) → ∃ r cap, ρ b = .blk r cap ∧ v = .map (some r)
  | .nils, v => v = .slice none 0 0
  | .any, _ => True
def D.rels (ok : Nat → Prop) (w : World) (hb : Nat → Option Blk) (ρ : Nat → R) : List D → List Value → Prop
  | [], vs => vs = []
  | x :: l, vs => ∃ v r, vs = v :: r ∧ D.rel ok w hb ρ x v ∧ D.rels ok w hb ρ l r
end

/-- The entries of a map that is known. -/
def MapIs (ok : Nat → Prop) (w : World) (r : Nat) (es : List (Value × I)) : Prop :=
  ∃ (l : List MapEntry) (clock : Nat), w.heap[r]? = some (.map l.toArray clock) ∧ l.map (·.key) = es.map (·.1) ∧ I.dens ok w (es.map (·.2)) (l.map (·.val))

def Blk.rel (ok : Nat → Prop) (w : World) (hb : Nat → Option Blk) (ρ : Nat → R) (b : Nat) : Blk → Prop
  | .row k e l => match ρ b with
    | .nil => l = []
    | .blk r cap => ∃ cur, w.heap[r]? = some (.cells cur e (0, 0)) ∧ cur.size = cap * k ∧ l.length ≤ cap ∧ cap ≤ maxLen ∧ I.denRow ok w l r 0 k
  | .obj cs e => ∃ r cap cur, ρ b = .blk r cap ∧ w.heap[r]? = some (.cells cur e (0, 0)) ∧ D.rels ok w hb ρ cs cur.toList
  | .map es => ∃ r cap, ρ b = .blk r cap ∧ MapIs ok w r es

mutual
/-- Is a key not named? -/
def D.free (b : Nat) : D → Bool
  | .imm _ => true
  | .own b' => !(Nat.beq b b')
  | .view b' _ _ => !(Nat.beq b b')
  | .elem b' _ _ => !(Nat.beq b b')
  | .ptr b' _ => !(Nat.beq b b')
  | .at _ _ => true
  | .full _ => true
  | .agg l => D.frees b l
  | .tup l => D.frees b l
  | .fn _ l m => D.frees b l && D.frees b m
  | .mp b' => !(Nat.beq b b')
  | .nils => true
  | .any => true
def D.frees (b : Nat) : List D → Bool
  | [] => true
  | x :: l => D.free b x && D.frees b l
end
def D.wipe (b : Nat) (d : D) : D := if d.free b then d else .any
def Blk.wipe (b : Nat) : Blk → Blk
  | .obj cs e => .obj (cs.map (D.wipe b)) e
  | k => k

mutual
/-- A row is frozen: what named it is data now. -/
def D.frz (b : Nat) (l : List I) : D → D
  | .own b' => bif Nat.beq b b' then .imm (.slice l) else .own b'
  | .view b' off m => bif Nat.beq b b' then .imm (.slice ((l.drop off).take m)) else .view b' off m
  | .elem b' i f => bif Nat.beq b b' then .any else .elem b' i f
  | .ptr b' f => bif Nat.beq b b' then .any else .ptr b' f
  | .mp b' => bif Nat.beq b b' then .any else .mp b'
  | .agg x => .agg (D.frzs b l x)
  | .tup x => .tup (D.frzs b l x)
  | .fn f x y => .fn f (D.frzs b l x) (D.frzs b l y)
  | .imm i => .imm i
  | .at i f => .at i f
  | .full x => .full x
  | .nils => .nils
  | .any => .any
def D.frzs (b : Nat) (l : List I) : List D → List D
  | [] => []
  | x :: r => D.frz b l x :: D.frzs b l r
end
def Blk.frz (b : Nat) (l : List I) : Blk → Blk
  | .obj cs e => .obj (D.frzs b l cs) e
  | k => k

/-- WHAT IS KNOWN, as a list of turns, the newest first. -/
inductive Sg where
  | nil
  | set (s : Nat) (d : D) (σ : Sg)
  | hset (b : Nat) (k : Blk) (σ : Sg)
  | kill (b : Nat) (σ : Sg)
  | frz (b : Nat) (l : List I) (σ : Sg)
def Sg.get : Sg → Nat → Option D
  | .nil, _ => none
  | .set s d σ, t => bif Nat.beq t s then some d else σ.get t
  | .hset _ _ σ, t => σ.get t
  | .kill b σ, t => (σ.get t).map (D.wipe b)
  | .frz b l σ, t => (σ.get t).map (D.frz b l)
def Sg.blk : Sg → Nat → Option Blk
  | .nil, _ => none
  | .set _ _ σ, t => σ.blk t
  | .hset b k σ, t => bif Nat.beq t b then some k else σ.blk t
  | .kill b σ, t => bif Nat.beq t b then none else (σ.blk t).map (Blk.wipe b)
  | .frz b l σ, t => bif Nat.beq t b then none else (σ.blk t).map (Blk.frz b l)

/-- The call's frame: M: blocks of others that are kept out of what is read; W0: the world at the start; pas: blocks handed in to be written; n: how many slots. -/
structure Cx (n : Nat) where
  M : Nat → Prop
  W0 : World
  pas : Nat → Prop
  hM : ∀ b, M b → b < W0.heap.size

def okB {n : Nat} (c : Cx n) (hb : Nat → Option Blk) (ρ : Nat → R) (w : World) (b : Nat) : Prop :=
  b < w.heap.size ∧ ¬ c.M b ∧ ∀ k x r cap, hb k = some x → ρ k = .blk r cap → r ≠ b

structure Kept {n : Nat} (c : Cx n) (w : World) : Prop where
  os : w.os = c.W0.os
  tape : w.tape = c.W0.tape
  output : w.output = c.W0.output
  size : c.W0.heap.size ≤ w.heap.size
  block : ∀ k, k < c.W0.heap.size → ¬ c.pas k → w.heap[k]? = c.W0.heap[k]?

structure RelR {n : Nat} (c : Cx n) (σ : Sg) (ρ : Nat → R) (a : Act) (w : World) : Prop where
  inj : ∀ b b' k k' r cap r' cap', b ≠ b' → σ.blk b = some k → σ.blk b' = some k' → ρ b = .blk r cap → ρ b' = .blk r' cap' → r ≠ r'
  live : ∀ b k r cap, σ.blk b = some k → ρ b = .blk r cap → r < w.heap.size ∧ ¬ c.M r ∧ (c.W0.heap.size ≤ r ∨ c.pas r)
  blk : ∀ b k, σ.blk b = some k → k.rel (okB c σ.blk ρ w) w σ.blk ρ b
  slot : ∀ s d, σ.get s = some d → d.rel (okB c σ.blk ρ w) w σ.blk ρ (a.tmps.getD s undef)
  defs : a.defers = []
  size : a.tmps.size = n
  kept : Kept c w

def Rel {n : Nat} (c : Cx n) (σ : Sg) (a : Act) (w : World) : Prop := ∃ ρ, RelR c σ ρ a w

/-! ### D.rel carried on -/
mutual
/-- Carried on to another world and other memory that keeps what the keys that are named say. -/
theorem D.rel_mono {ok ok' : Nat → Prop} {w w' : World} {hb hb' : Nat → Option Blk} {ρ ρ' : Nat → R} (h : Keeps ok w ok' w')
    (good : Nat → Prop)
    (h1 : ∀ b k e l, good b → hb' b = some (.row k e l) → ∃ l', hb b = some (.row k e l') ∧ l'.length = l.length ∧ ρ' b = ρ b)
    (h2 : ∀ b cs e, good b → hb' b = some (.obj cs e) → ∃ cs' e', hb b = some (.obj cs' e') ∧ ρ' b = ρ b)
    (h3 : ∀ b es, good b → hb' b = some (.map es) → ∃ es', hb b = some (.map es') ∧ ρ' b = ρ b) :
    ∀ (d : D) (v : Value), (∀ b, d.free b = false → good b) → d.rel ok w hb ρ v → d.rel ok' w' hb' ρ' v
  | .imm i, v, _, hv => I.den_mono h i v hv
  | .own b, v, g, hv => fun k e l hl => by
    obtain ⟨l', e1, e2, e3⟩ := h1 b k e l (g b (by simp [D.free])) hl
    rw [e3, ← e2]; exact hv k e l' e1
  | .view b off len, v, g, hv => fun k e l hl => by
    obtain ⟨l', e1, e2, e3⟩ := h1 b k e l (g b (by simp [D.free])) hl
    rw [e3, ← e2]; exact hv k e l' e1
  | .elem b i f, v, g, hv => fun k e l hl => by
    obtain ⟨l', e1, e2, e3⟩ := h1 b k e l (g b (by simp [D.free])) hl
    rw [e3, ← e2]; exact hv k e l' e1
  | .ptr b f, v, g, hv => fun cs e hl => by
    obtain ⟨cs', e', e1, e3⟩ := h2 b cs e (g b (by simp [D.free])) hl
    rw [e3]; exact hv cs' e' e1
  | .at x f, v, _, ⟨b, off, u, e, hb, hx, hj⟩ => ⟨b, off, u, e, (h b hb).1, I.den_mono h x u hx, fun j hj' => ((h b hb).2 _).trans (hj j hj')⟩
  | .full l, v, _, ⟨hv, a⟩ => ⟨I.den_mono h _ v hv, a⟩
  | .agg l, v, g, ⟨cs, e, hl⟩ => ⟨cs, e, D.rels_mono h good h1 h2 h3 l cs (fun b hb => g b (by simpa [D.free] using hb)) hl⟩
  | .tup l, v, g, ⟨cs, e, hl⟩ => ⟨cs, e, D.rels_mono h good h1 h2 h3 l cs (fun b hb => g b (by simpa [D.free] using hb)) hl⟩
  | .fn f l m, v, g, ⟨cs, ds, e, hl, hm⟩ => ⟨cs, ds, e, D.rels_mono h good h1 h2 h3 l cs (fun b hb => g b (by simp [D.free, hb])) hl, D.rels_mono h good h1 h2 h3 m ds (fun b hb => g b (by simp [D.free, hb])) hm⟩
  | .mp b, v, g, hv => fun es hl => by
    obtain ⟨es', e1, e3⟩ := h3 b es (g b (by simp [D.free])) hl
    rw [e3]; exact hv es' e1
  | .nils, _, _, hv => hv
  | .any, _, _, _ => trivial
theorem D.rels_mono {ok ok' : Nat → Prop} {w w' : World} {hb hb' : Nat → Option Blk} {ρ ρ' : Nat → R} (h : Keeps ok w ok' w')
    (good : Nat → Prop)
    (h1 : ∀ b k e l, good b → hb' b = some (.row k e l) → ∃ l', hb b = some (.row k e l') ∧ l'.length = l.length ∧ ρ' b = ρ b)
    (h2 : ∀ b cs e, good b → hb' b = some (.obj cs e) → ∃ cs' e', hb b = some (.obj cs' e') ∧ ρ' b = ρ b)
    (h3 : ∀ b es, good b → hb' b = some (.map es) → ∃ es', hb b = some (.map es') ∧ ρ' b = ρ b) :
    ∀ (l : List D) (vs : List Value), (∀ b, D.frees b l = false → good b) → D.rels ok w hb ρ l vs → D.rels ok' w' hb' ρ' l vs
  | [], _, _, hv => hv
  | x :: l, vs, g, ⟨v, r, e, hx, hl⟩ => ⟨v, r, e, D.rel_mono h good h1 h2 h3 x v (fun b hb => g b (by simp [D.frees, hb])) hx, D.rels_mono h good h1 h2 h3 l r (fun b hb => g b (by simp [D.frees, hb])) hl⟩
end

theorem D.rels_get {ok : Nat → Prop} {w : World} {hb : Nat → Option Blk} {ρ : Nat → R} : ∀ (l : List D) (vs : List Value) (i : Nat) (x : D), D.rels ok w hb ρ l vs → l[i]? = some x → ∃ v, vs[i]? = some v ∧ x.rel ok w hb ρ v
  | [], _, i, x, _, h => by simp at h
  | y :: l, vs, 0, x, ⟨v, r, e, hx, _⟩, h => by simp at h; subst h; subst e; exact ⟨v, rfl, hx⟩
  | y :: l, vs, i + 1, x, ⟨v, r, e, _, hl⟩, h => by subst e; simpa using D.rels_get l r i x hl (by simpa using h)
theorem D.rels_length {ok : Nat → Prop} {w : World} {hb : Nat → Option Blk} {ρ : Nat → R} : ∀ (l : List D) (vs : List Value), D.rels ok w hb ρ l vs → vs.length = l.length
  | [], _, h => by simp [D.rels] at h; simp [h]
  | _ :: l, _, ⟨_, r, e, _, hl⟩ => by subst e; simp [D.rels_length l r hl]
theorem D.rels_of {ok : Nat → Prop} {w : World} {hb : Nat → Option Blk} {ρ : Nat → R} : ∀ (l : List D) (vs : List Value), vs.length = l.length → (∀ (i : Nat) x v, l[i]? = some x → vs[i]? = some v → x.rel ok w hb ρ v) → D.rels ok w hb ρ l vs
  | [], vs, h, _ => by show vs = []; simpa using h
  | x :: l, [], h, _ => by simp at h
  | x :: l, v :: vs, h, hx => ⟨v, vs, rfl, hx 0 x v rfl rfl, D.rels_of l vs (by simpa using h) fun i x v h1 h2 => hx (i + 1) x v (by simpa using h1) (by simpa using h2)⟩
end Go.Cr

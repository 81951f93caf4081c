/- THE TABLE OF TYPES of this translation, by program (gentab.py). -/
import Derived.Test.YtgbpggllmcpicaaGreatProg
import Derived.Test.YtgbpggllmcpicaaGreatCoreD
import Derived.KernelRfl
namespace Go.Cr
open Go Go.Proofs
noncomputable abbrev Pr : Program := Tryz.prog
def tyList : List (Nat × TyRow) := [
  (3, ⟨.int .i64, 1, 8, (some (.int .i64 0))⟩),
  (24, ⟨.slice 3, 1, 24, (some (.slice none 0 0))⟩),
  (48, ⟨.struct [(46, 0), (44, 2)], 3, 56, (some (.agg #[.bool false, .slice none 0 0, .slice none 0 0]))⟩),
  (155, ⟨.struct [(24, 0), (24, 1), (99, 2)], 3, 72, (some (.agg #[.slice none 0 0, .slice none 0 0, .slice none 0 0]))⟩),
  (41, ⟨.struct [(24, 0), (24, 1), (39, 2)], 3, 72, (some (.agg #[.slice none 0 0, .slice none 0 0, .slice none 0 0]))⟩),
  (46, ⟨.struct [(4, 0), (44, 1)], 2, 32, (some (.agg #[.bool false, .slice none 0 0]))⟩),
  (169, ⟨.int .u32, 1, 4, (some (.int .u32 0))⟩),
  (105, ⟨.int .u64, 1, 8, (some (.int .u64 0))⟩),
  (34, ⟨.struct [(9, 0), (30, 1), (31, 2), (23, 3), (32, 4)], 5, 112, (some (.agg #[.string ByteArray.empty, .slice none 0 0, .slice none 0 0, .slice none 0 0, .slice none 0 0]))⟩),
  (44, ⟨.slice 169, 1, 24, (some (.slice none 0 0))⟩),
  (91, ⟨.struct [(48, 0), (48, 3)], 6, 112, (some (.agg #[.bool false, .slice none 0 0, .slice none 0 0, .bool false, .slice none 0 0, .slice none 0 0]))⟩),
  (39, ⟨.slice 48, 1, 24, (some (.slice none 0 0))⟩),
  (4, ⟨.bool, 1, 1, (some (.bool false))⟩),
  (23, ⟨.slice 24, 1, 24, (some (.slice none 0 0))⟩),
  (26, ⟨.struct [(23, 0), (24, 1)], 2, 48, (some (.agg #[.slice none 0 0, .slice none 0 0]))⟩),
  (27, ⟨.int .i64, 1, 8, (some (.int .i64 0))⟩),
  (55, ⟨.struct [(3, 0), (3, 1)], 2, 16, (some (.agg #[.int .i64 0, .int .i64 0]))⟩),
  (99, ⟨.slice 91, 1, 24, (some (.slice none 0 0))⟩),
  (87, ⟨.struct [(3, 0), (3, 1), (3, 2), (3, 3)], 4, 32, (some (.agg #[.int .i64 0, .int .i64 0, .int .i64 0, .int .i64 0]))⟩),
  (30, ⟨.slice 9, 1, 24, (some (.slice none 0 0))⟩),
  (35, ⟨.slice 41, 1, 24, (some (.slice none 0 0))⟩),
  (31, ⟨.slice 30, 1, 24, (some (.slice none 0 0))⟩),
  (257, ⟨.slice 3, 1, 24, (some (.slice none 0 0))⟩),
  (32, ⟨.slice 39, 1, 24, (some (.slice none 0 0))⟩),
  (204, ⟨.struct [(24, 0)], 1, 24, (some (.agg #[.slice none 0 0]))⟩),
  (161, ⟨.struct [(24, 0), (24, 1), (23, 2), (3, 3), (3, 4), (3, 5)], 6, 96, (some (.agg #[.slice none 0 0, .slice none 0 0, .slice none 0 0, .int .i64 0, .int .i64 0, .int .i64 0]))⟩),
  (174, ⟨.int .u64, 1, 8, (some (.int .u64 0))⟩),
  (124, ⟨.slice 123, 1, 24, (some (.slice none 0 0))⟩),
  (278, ⟨.int .u64, 1, 8, (some (.int .u64 0))⟩),
  (150, ⟨.map 3 3, 1, 8, (some (.map none))⟩),
  (224, ⟨.struct [(219, 0), (153, 1), (161, 2)], 8, 136, (some (.agg #[.nilIface, .slice none 0 0, .slice none 0 0, .slice none 0 0, .slice none 0 0, .int .i64 0, .int .i64 0, .int .i64 0]))⟩),
  (9, ⟨.string, 1, 16, (some (.string ByteArray.empty))⟩),
  (51, ⟨.struct [(48, 0), (48, 3), (48, 6), (48, 9)], 12, 224, (some (.agg #[.bool false, .slice none 0 0, .slice none 0 0, .bool false, .slice none 0 0, .slice none 0 0, .bool false, .slice none 0 0, .slice none 0 0, .bool false, .slice none 0 0, .slice none 0 0]))⟩),
  (153, ⟨.slice 155, 1, 24, (some (.slice none 0 0))⟩),
  (123, ⟨.map 3 4, 1, 8, (some (.map none))⟩),
  (136, ⟨.struct [], 0, 0, (some (.agg #[]))⟩),
  (126, ⟨.struct [(124, 0)], 1, 24, (some (.agg #[.slice none 0 0]))⟩),
  (56, ⟨.slice 55, 1, 24, (some (.slice none 0 0))⟩),
  (5, ⟨.int .u8, 1, 1, (some (.int .u8 0))⟩),
  (219, ⟨.iface, 1, 16, (some (.nilIface))⟩),
  (77, ⟨.map 80 41, 1, 8, (some (.map none))⟩),
  (128, ⟨.struct [(3, 0), (3, 1)], 2, 16, (some (.agg #[.int .i64 0, .int .i64 0]))⟩),
  (164, ⟨.struct [], 0, 0, (some (.agg #[]))⟩),
  (175, ⟨.slice 5, 1, 24, (some (.slice none 0 0))⟩),
  (191, ⟨.iface, 1, 16, (some (.nilIface))⟩),
  (78, ⟨.func, 1, 8, (some (.nilFunc))⟩),
  (80, ⟨.array 2 3, 2, 16, (some (.agg #[.int .i64 0, .int .i64 0]))⟩),
  (146, ⟨.map 3 41, 1, 8, (some (.map none))⟩),
  (235, ⟨.map 9 3, 1, 8, (some (.map none))⟩),
  (68, ⟨.slice 128, 1, 24, (some (.slice none 0 0))⟩),
  (261, ⟨.int .i64, 1, 8, (some (.int .i64 0))⟩),
  (120, ⟨.func, 1, 8, (some (.nilFunc))⟩),
  (152, ⟨.func, 1, 8, (some (.nilFunc))⟩),
  (25, ⟨.struct [(23, 0), (24, 1)], 2, 48, (some (.agg #[.slice none 0 0, .slice none 0 0]))⟩),
  (33, ⟨.struct [(9, 0), (30, 1), (31, 2), (23, 3), (32, 4)], 5, 112, (some (.agg #[.string ByteArray.empty, .slice none 0 0, .slice none 0 0, .slice none 0 0, .slice none 0 0]))⟩),
  (40, ⟨.struct [(24, 0), (24, 1), (39, 2)], 3, 72, (some (.agg #[.slice none 0 0, .slice none 0 0, .slice none 0 0]))⟩),
  (43, ⟨.slice 169, 1, 24, (some (.slice none 0 0))⟩),
  (45, ⟨.struct [(4, 0), (44, 1)], 2, 32, (some (.agg #[.bool false, .slice none 0 0]))⟩),
  (47, ⟨.struct [(46, 0), (44, 2)], 3, 56, (some (.agg #[.bool false, .slice none 0 0, .slice none 0 0]))⟩),
  (50, ⟨.struct [(48, 0), (48, 3), (48, 6), (48, 9)], 12, 224, (some (.agg #[.bool false, .slice none 0 0, .slice none 0 0, .bool false, .slice none 0 0, .slice none 0 0, .bool false, .slice none 0 0, .slice none 0 0, .bool false, .slice none 0 0, .slice none 0 0]))⟩),
  (54, ⟨.struct [(3, 0), (3, 1)], 2, 16, (some (.agg #[.int .i64 0, .int .i64 0]))⟩),
  (86, ⟨.struct [(3, 0), (3, 1), (3, 2), (3, 3)], 4, 32, (some (.agg #[.int .i64 0, .int .i64 0, .int .i64 0, .int .i64 0]))⟩),
  (90, ⟨.struct [(48, 0), (48, 3)], 6, 112, (some (.agg #[.bool false, .slice none 0 0, .slice none 0 0, .bool false, .slice none 0 0, .slice none 0 0]))⟩),
  (125, ⟨.struct [(124, 0)], 1, 24, (some (.agg #[.slice none 0 0]))⟩),
  (127, ⟨.struct [(3, 0), (3, 1)], 2, 16, (some (.agg #[.int .i64 0, .int .i64 0]))⟩),
  (135, ⟨.struct [], 0, 0, (some (.agg #[]))⟩),
  (154, ⟨.struct [(24, 0), (24, 1), (99, 2)], 3, 72, (some (.agg #[.slice none 0 0, .slice none 0 0, .slice none 0 0]))⟩),
  (160, ⟨.struct [(24, 0), (24, 1), (23, 2), (3, 3), (3, 4), (3, 5)], 6, 96, (some (.agg #[.slice none 0 0, .slice none 0 0, .slice none 0 0, .int .i64 0, .int .i64 0, .int .i64 0]))⟩),
  (203, ⟨.struct [(24, 0)], 1, 24, (some (.agg #[.slice none 0 0]))⟩),
  (223, ⟨.struct [(219, 0), (153, 1), (161, 2)], 8, 136, (some (.agg #[.nilIface, .slice none 0 0, .slice none 0 0, .slice none 0 0, .slice none 0 0, .int .i64 0, .int .i64 0, .int .i64 0]))⟩)]
theorem tyList_ok : tyList.map (fun p => rowOf Pr p.1) = tyList.map (fun p => some p.2) := by kernel_rfl
noncomputable def afind (t : TypeId) (m : String) : List (TypeId × String) → Bool
  | [] => false
  | x :: l => match Nat.beq t x.1, m == x.2 with
    | true, true => true
    | _, _ => afind t m l
abbrev AOk (x : TypeId × String) : Prop := ∀ v w, (nilAhead (Pr.types.size + Made.depth) x.1 v x.2).run Pr w = .ok (some false) w
def AAll : List (TypeId × String) → Prop
  | [] => True
  | x :: l => AOk x ∧ AAll l
theorem afind_ok (t : TypeId) (m : String) : ∀ (l : List (TypeId × String)), AAll l → afind t m l = true → AOk (t, m)
  | [], _, h => by cases h
  | x :: l, ⟨h1, h2⟩, h => by
    simp only [afind] at h
    split at h
    · rename_i e1 e2
      have e1 := Nat.eq_of_beq_eq_true e1
      have e2 := eq_of_beq e2
      subst e1 e2
      exact h1
    · exact afind_ok t m l h2 h
theorem aok0 : AOk (136, "Add") := fun v w => by kernel_rfl
theorem aok1 : AOk (136, "Mul") := fun v w => by kernel_rfl
theorem aok2 : AOk (136, "One") := fun v w => by kernel_rfl
theorem aok3 : AOk (136, "Same") := fun v w => by kernel_rfl
theorem aok4 : AOk (136, "Zero") := fun v w => by kernel_rfl
theorem aok5 : AOk (164, "Add") := fun v w => by kernel_rfl
theorem aok6 : AOk (164, "Mul") := fun v w => by kernel_rfl
theorem aok7 : AOk (164, "One") := fun v w => by kernel_rfl
theorem aok8 : AOk (164, "Same") := fun v w => by kernel_rfl
theorem aok9 : AOk (164, "Zero") := fun v w => by kernel_rfl
def alist : List (TypeId × String) := [(136, "Add"), (136, "Mul"), (136, "One"), (136, "Same"), (136, "Zero"), (164, "Add"), (164, "Mul"), (164, "One"), (164, "Same"), (164, "Zero")]
theorem alist_ok : AAll alist := ⟨aok0, ⟨aok1, ⟨aok2, ⟨aok3, ⟨aok4, ⟨aok5, ⟨aok6, ⟨aok7, ⟨aok8, ⟨aok9, trivial⟩⟩⟩⟩⟩⟩⟩⟩⟩⟩
noncomputable instance instTab : Tab Pr := ⟨tyList, tyList_ok, fun t m => afind t m alist, fun t m h => afind_ok t m alist alist_ok h⟩
end Go.Cr

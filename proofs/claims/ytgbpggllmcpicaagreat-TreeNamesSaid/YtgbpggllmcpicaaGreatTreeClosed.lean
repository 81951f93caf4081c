/-
  PROVED HERE: the law 'credence/credencelaw22.TreeNames' returns true, in whatever memory and in whatever order Go evaluates; it leaves all that was there as it was. No condition.
  (The frame was printed by the kit's proof-skeleton.mjs and filled by closed.py: a reckoning of an own machine that is proved sound against the kit's calculus.)
-/
import Derived.Test.YtgbpggllmcpicaaGreatRows
import Derived.WalkKit
import Derived.ProofKit
import Derived.OpenShut
import Derived.Below
import Derived.Test.YtgbpggllmcpicaaGreatTree5
namespace Go.Proofs.YtgbpggllmcpicaaGreat.treeNames
open Go.ChangeShapes Go.WideShapes Go.ChangeAt Go.RowKit
set_option linter.unusedVariables false      -- a walk need not use every 'w<i>' (that an integer argument fits its kind)

theorem own : ownKnob Tryz.prog.godebug = none := by kernel_rfl

/-! ### The walk: a reckoning of the own machine, level by level. -/
theorem walk (w : World) : Calls Tryz.prog 4 #[] w fun e w' => e = .returned (.bool true) ∧ Below w.heap.size w w' := by
  refine Calls.mono (Go.Xm.tree_5_0.run (fun _ => False) w [] (fun _ h => h.elim) rfl) ?_
  rintro e w' ⟨u, rfl, hu, hk⟩
  have hu' : u = .bool true := hu
  exact ⟨by rw [hu'], hk.os, hk.tape, hk.output, hk.size, hk.block⟩

/-! ### THE ROW's STEP: WRITTEN OUT: LEAVE IT -/
set_option maxRecDepth 100000 in
theorem lifted (os : Os) (started : os.Started) (H : Type) (enc : TypeId × Value → H) :
    ReturnsInHanded {} Tryz.checked os 4 .any (Rows.treeNamesSpec.pre6 enc Tryz.prog Tryz.f4 Rows.treeNamesRow.domain false) (Rows.treeNamesSpec.post enc Tryz.prog Tryz.f4 false true false false) := by
  refine returnsInHanded_of_change (C := Tryz.checked) own started (by kernel_rfl) Tryz.func4
    (ChangeSpec.witness6 (enc := enc) (C := Tryz.checked) false ⟨#[], #[], []⟩ 8 (by kernel_rfl) (by kernel_rfl) (by kernel_rfl) (by kernel_rfl)) ?_
  intro W base args ds gs before hval0 hW hcnd _
  have hval : ∀ (j : Nat) t v, Tryz.f4.params[j]? = some t → args[j]? = some v → Value.okWide Tryz.prog W .any base t v := hval0
  have hW' := hW
  obtain ⟨p, q, hA0, hV, rfl, hfz, hnd⟩ := hW
  have hA : DataW.TrodAll enc Tryz.prog W 0 (fun _ => true) true Tryz.f4.params.toList args.toList ds p := hA0
  rw [Tryz.params4] at hA hval
  obtain ⟨rfl, rfl, rfl⟩ := trodAll_none hA
  obtain ⟨rfl, rfl⟩ := trodVars_none hV
  clear hA0 hval0
  simp only [List.append_nil] at hW'
  refine (walk  W).mono fun e W' ⟨he, hg⟩ => ?_
  subst he
  have hres : ∀ (b : Nat) (sp : Nat → Bool) (hd : Bool), DataW.TrodAll enc Tryz.checked.prog W' b sp hd Tryz.f4.resultTypes.toList ((Value.bool true).resultList Tryz.f4.resultTypes.size) [.lit (.bool true)] [] :=
    fun _ _ _ => trodAll_cons_mk (shut_bool Tryz.underlying4 _) trodAll_mk0
  refine ⟨_, rfl, [], [], [], [], [], [], hW', hres _ _ _, rfl, rfl, World.keptBut_mono (fun p hp => by cases hp) (hg.frame (fun p => p ∈ ([] : List MemPlace))), fun _ => ⟨ok_one (by kernel_rfl) rfl (okWide_bool_mk Tryz.underlying4 _), [.lit (.bool true)], [], [], ⟨[], [], ?_, rfl, rfl, fun _ _ h => (by cases h), fun _ => List.nodup_nil⟩, fun p h => (by cases h)⟩⟩
  simpa using hres 0 (fun _ => true) true

theorem over : Rows.treeNamesRow.holds Tryz.pinned (OpenSpec.ofChange Rows.treeNamesSpec) :=
  OpenClaim.holds_of_wide 4 Tryz.f4 rfl rfl rfl rfl rfl rfl rfl ⟨rfl, rfl, rfl, rfl, rfl⟩ rfl rfl rfl rfl rfl (by kernel_rfl) Tryz.func4 (by kernel_rfl)
    (of_decide_eq_true (by kernel_rfl)) (by unfold Func.isWrapper; first | (rw [if_pos (by decide +kernel)]; kernel_rfl) | (rw [if_neg (by decide +kernel)]; exact ⟨rfl, rfl⟩))
    (fun os started H enc _ => lifted os started H enc)

/-- ████ THE STATEMENT ████ -/
theorem proved : Rows.TreeNamesSaid :=
  over
#print axioms proved
end Go.Proofs.YtgbpggllmcpicaaGreat.treeNames

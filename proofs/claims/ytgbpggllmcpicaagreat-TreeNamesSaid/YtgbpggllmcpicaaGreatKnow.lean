/- MACHINE X: what stands ahead of the lemmas on calls of data. -/
import Derived.Test.YtgbpggllmcpicaaGreatFun
import Derived.Test.YtgbpggllmcpicaaGreatMachO
import Derived.KernelRfl
namespace Go.Xm
open Go Go.Cr Go.Proofs
theorem mixed : Pr.follows .mixedOrders = true := by kernel_rfl
noncomputable def orcNone : CallX := fun _ _ _ _ => none
theorem orcNone_ok : CallOK Pr orcNone := fun _ _ _ _ _ _ _ h => by cases h
def AllE (k : Nat) : List (List DV × DV) → Prop
  | [] => True
  | e :: l => PureD Pr k e.1 e.2 ∧ AllE k l
theorem AllE.mem {k : Nat} : ∀ (l : List (List DV × DV)), AllE k l → ∀ e, e ∈ l → PureD Pr k e.1 e.2
  | [], _, e, he => by cases he
  | x :: l, ⟨h1, h2⟩, e, he => by
    rcases List.mem_cons.1 he with rfl | he
    · exact h1
    · exact AllE.mem l h2 e he
end Go.Xm

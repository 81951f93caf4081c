/- WHAT IS KNOWN OF CALLS OF DATA, level 5, by program (genmemo.py). -/
import Derived.Test.YtkdmfgaijfbcgaaGreatMemo4
import Derived.KernelRfl
namespace Go.Xm
open Go Go.Cr Go.Proofs
def memo_a5_0 : List DV := []
def memo_r5_0 : DV := .val (.bool true)
theorem memo_5_0 : PureD Pr 3 memo_a5_0 memo_r5_0 := PureD.of_run (orc := orcMemo4) (m := 2000) mixed orcMemo4_ok (by kernel_rfl)
noncomputable def entMemo5_76 : List (List DV × DV) := [(memo_a0_0, memo_r0_0), (memo_a0_4, memo_r0_4), (memo_a0_14, memo_r0_14), (memo_a0_16, memo_r0_16)]
theorem entMemo5_76_ok : AllE 76 entMemo5_76 := ⟨memo_0_0, ⟨memo_0_4, ⟨memo_0_14, ⟨memo_0_16, trivial⟩⟩⟩⟩
noncomputable def entMemo5_30 : List (List DV × DV) := [(memo_a0_1, memo_r0_1), (memo_a0_5, memo_r0_5), (memo_a0_15, memo_r0_15), (memo_a0_17, memo_r0_17)]
theorem entMemo5_30_ok : AllE 30 entMemo5_30 := ⟨memo_0_1, ⟨memo_0_5, ⟨memo_0_15, ⟨memo_0_17, trivial⟩⟩⟩⟩
noncomputable def entMemo5_19 : List (List DV × DV) := [(memo_a0_2, memo_r0_2), (memo_a0_7, memo_r0_7), (memo_a0_18, memo_r0_18), (memo_a0_20, memo_r0_20)]
theorem entMemo5_19_ok : AllE 19 entMemo5_19 := ⟨memo_0_2, ⟨memo_0_7, ⟨memo_0_18, ⟨memo_0_20, trivial⟩⟩⟩⟩
noncomputable def entMemo5_72 : List (List DV × DV) := [(memo_a0_3, memo_r0_3), (memo_a0_12, memo_r0_12), (memo_a0_25, memo_r0_25), (memo_a0_26, memo_r0_26)]
theorem entMemo5_72_ok : AllE 72 entMemo5_72 := ⟨memo_0_3, ⟨memo_0_12, ⟨memo_0_25, ⟨memo_0_26, trivial⟩⟩⟩⟩
noncomputable def entMemo5_11 : List (List DV × DV) := [(memo_a0_6, memo_r0_6), (memo_a0_8, memo_r0_8), (memo_a0_19, memo_r0_19), (memo_a0_21, memo_r0_21), (memo_a0_29, memo_r0_29), (memo_a0_30, memo_r0_30)]
theorem entMemo5_11_ok : AllE 11 entMemo5_11 := ⟨memo_0_6, ⟨memo_0_8, ⟨memo_0_19, ⟨memo_0_21, ⟨memo_0_29, ⟨memo_0_30, trivial⟩⟩⟩⟩⟩⟩
noncomputable def entMemo5_21 : List (List DV × DV) := [(memo_a0_9, memo_r0_9), (memo_a0_10, memo_r0_10), (memo_a0_22, memo_r0_22), (memo_a0_23, memo_r0_23)]
theorem entMemo5_21_ok : AllE 21 entMemo5_21 := ⟨memo_0_9, ⟨memo_0_10, ⟨memo_0_22, ⟨memo_0_23, trivial⟩⟩⟩⟩
noncomputable def entMemo5_87 : List (List DV × DV) := [(memo_a0_11, memo_r0_11), (memo_a0_24, memo_r0_24)]
theorem entMemo5_87_ok : AllE 87 entMemo5_87 := ⟨memo_0_11, ⟨memo_0_24, trivial⟩⟩
noncomputable def entMemo5_47 : List (List DV × DV) := [(memo_a0_13, memo_r0_13), (memo_a0_27, memo_r0_27), (memo_a0_28, memo_r0_28)]
theorem entMemo5_47_ok : AllE 47 entMemo5_47 := ⟨memo_0_13, ⟨memo_0_27, ⟨memo_0_28, trivial⟩⟩⟩
noncomputable def entMemo5_13 : List (List DV × DV) := [(memo_a1_0, memo_r1_0), (memo_a1_1, memo_r1_1), (memo_a1_2, memo_r1_2), (memo_a1_3, memo_r1_3)]
theorem entMemo5_13_ok : AllE 13 entMemo5_13 := ⟨memo_1_0, ⟨memo_1_1, ⟨memo_1_2, ⟨memo_1_3, trivial⟩⟩⟩⟩
noncomputable def entMemo5_23 : List (List DV × DV) := [(memo_a2_0, memo_r2_0), (memo_a2_1, memo_r2_1), (memo_a2_2, memo_r2_2)]
theorem entMemo5_23_ok : AllE 23 entMemo5_23 := ⟨memo_2_0, ⟨memo_2_1, ⟨memo_2_2, trivial⟩⟩⟩
noncomputable def entMemo5_8 : List (List DV × DV) := [(memo_a3_0, memo_r3_0), (memo_a3_4, memo_r3_4)]
theorem entMemo5_8_ok : AllE 8 entMemo5_8 := ⟨memo_3_0, ⟨memo_3_4, trivial⟩⟩
noncomputable def entMemo5_7 : List (List DV × DV) := [(memo_a3_1, memo_r3_1), (memo_a3_2, memo_r3_2), (memo_a3_6, memo_r3_6)]
theorem entMemo5_7_ok : AllE 7 entMemo5_7 := ⟨memo_3_1, ⟨memo_3_2, ⟨memo_3_6, trivial⟩⟩⟩
noncomputable def entMemo5_6 : List (List DV × DV) := [(memo_a3_3, memo_r3_3), (memo_a3_5, memo_r3_5)]
theorem entMemo5_6_ok : AllE 6 entMemo5_6 := ⟨memo_3_3, ⟨memo_3_5, trivial⟩⟩
noncomputable def entMemo5_10 : List (List DV × DV) := [(memo_a4_0, memo_r4_0)]
theorem entMemo5_10_ok : AllE 10 entMemo5_10 := ⟨memo_4_0, trivial⟩
noncomputable def entMemo5_3 : List (List DV × DV) := [(memo_a5_0, memo_r5_0)]
theorem entMemo5_3_ok : AllE 3 entMemo5_3 := ⟨memo_5_0, trivial⟩
noncomputable def tabMemo5 : Tr (List (List DV × DV)) := (.node (.node (.node (.node (.node .nil none (.node .nil (some entMemo5_47) .nil)) (some entMemo5_7) (.node .nil (some entMemo5_23) (.node (.node .nil (some entMemo5_87) .nil) none .nil))) (some entMemo5_3) (.node (.node .nil (some entMemo5_19) .nil) (some entMemo5_11) .nil)) none (.node .nil none (.node (.node .nil (some entMemo5_21) .nil) (some entMemo5_13) .nil))) none (.node (.node (.node .nil (some entMemo5_8) (.node (.node (.node .nil (some entMemo5_72) .nil) none .nil) none .nil)) none (.node .nil none (.node (.node (.node .nil (some entMemo5_76) .nil) none .nil) none .nil))) none (.node (.node .nil (some entMemo5_10) .nil) (some entMemo5_6) (.node .nil none (.node .nil (some entMemo5_30) .nil)))))
theorem tabMemo5_ok : Tr.All AllE tabMemo5 := ⟨⟨⟨⟨⟨trivial, trivial, ⟨trivial, entMemo5_47_ok, trivial⟩⟩, entMemo5_7_ok, ⟨trivial, entMemo5_23_ok, ⟨⟨trivial, entMemo5_87_ok, trivial⟩, trivial, trivial⟩⟩⟩, entMemo5_3_ok, ⟨⟨trivial, entMemo5_19_ok, trivial⟩, entMemo5_11_ok, trivial⟩⟩, trivial, ⟨trivial, trivial, ⟨⟨trivial, entMemo5_21_ok, trivial⟩, entMemo5_13_ok, trivial⟩⟩⟩, trivial, ⟨⟨⟨trivial, entMemo5_8_ok, ⟨⟨⟨trivial, entMemo5_72_ok, trivial⟩, trivial, trivial⟩, trivial, trivial⟩⟩, trivial, ⟨trivial, trivial, ⟨⟨⟨trivial, entMemo5_76_ok, trivial⟩, trivial, trivial⟩, trivial, trivial⟩⟩⟩, trivial, ⟨⟨trivial, entMemo5_10_ok, trivial⟩, entMemo5_6_ok, ⟨trivial, trivial, ⟨trivial, entMemo5_30_ok, trivial⟩⟩⟩⟩⟩
noncomputable def orcMemo5 : CallX := orcM tabMemo5
theorem orcMemo5_ok : CallOK Pr orcMemo5 := orcM_ok fun k l h e he => AllE.mem l (Tr.All.get _ _ tabMemo5_ok k l h) e he
end Go.Xm

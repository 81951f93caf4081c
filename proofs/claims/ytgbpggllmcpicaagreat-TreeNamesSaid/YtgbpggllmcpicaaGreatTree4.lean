/- WHAT IS KNOWN OF CALLS OF DATA, level 4, by program (genmemo.py). -/
import Derived.Test.YtgbpggllmcpicaaGreatTree3
import Derived.Test.YtgbpggllmcpicaaGreatIns
import Derived.KernelRfl
namespace Go.Xm
open Go Go.Cr Go.Proofs
noncomputable def orcTreeB4 : CallX := orcOr orcIns orcTree3
theorem orcTreeB4_ok : CallOK Pr orcTreeB4 := orcOr_ok orcIns_ok orcTree3_ok
def tree_a4_0 : List DV := []
def tree_r4_0 : DV := .val (.bool true)
theorem tree_4_0 : PureD Pr 12 tree_a4_0 tree_r4_0 := PureD.of_run (orc := orcTreeB4) (m := 2000) mixed orcTreeB4_ok (by kernel_rfl)
noncomputable def entTree4_38 : List (List DV × DV) := [(tree_a0_0, tree_r0_0), (tree_a0_3, tree_r0_3), (tree_a0_6, tree_r0_6), (tree_a0_9, tree_r0_9), (tree_a0_14, tree_r0_14), (tree_a0_33, tree_r0_33), (tree_a0_66, tree_r0_66), (tree_a0_68, tree_r0_68)]
theorem entTree4_38_ok : AllE 38 entTree4_38 := ⟨tree_0_0, ⟨tree_0_3, ⟨tree_0_6, ⟨tree_0_9, ⟨tree_0_14, ⟨tree_0_33, ⟨tree_0_66, ⟨tree_0_68, trivial⟩⟩⟩⟩⟩⟩⟩⟩
noncomputable def entTree4_15 : List (List DV × DV) := [(tree_a0_1, tree_r0_1), (tree_a0_4, tree_r0_4), (tree_a0_7, tree_r0_7), (tree_a0_10, tree_r0_10), (tree_a0_15, tree_r0_15), (tree_a0_34, tree_r0_34), (tree_a0_70, tree_r0_70)]
theorem entTree4_15_ok : AllE 15 entTree4_15 := ⟨tree_0_1, ⟨tree_0_4, ⟨tree_0_7, ⟨tree_0_10, ⟨tree_0_15, ⟨tree_0_34, ⟨tree_0_70, trivial⟩⟩⟩⟩⟩⟩⟩
noncomputable def entTree4_11 : List (List DV × DV) := [(tree_a0_2, tree_r0_2), (tree_a0_5, tree_r0_5), (tree_a0_8, tree_r0_8), (tree_a0_11, tree_r0_11), (tree_a0_60, tree_r0_60), (tree_a0_71, tree_r0_71)]
theorem entTree4_11_ok : AllE 11 entTree4_11 := ⟨tree_0_2, ⟨tree_0_5, ⟨tree_0_8, ⟨tree_0_11, ⟨tree_0_60, ⟨tree_0_71, trivial⟩⟩⟩⟩⟩⟩
noncomputable def entTree4_9 : List (List DV × DV) := [(tree_a0_12, tree_r0_12)]
theorem entTree4_9_ok : AllE 9 entTree4_9 := ⟨tree_0_12, trivial⟩
noncomputable def entTree4_43 : List (List DV × DV) := [(tree_a0_13, tree_r0_13), (tree_a0_17, tree_r0_17), (tree_a0_19, tree_r0_19), (tree_a0_21, tree_r0_21)]
theorem entTree4_43_ok : AllE 43 entTree4_43 := ⟨tree_0_13, ⟨tree_0_17, ⟨tree_0_19, ⟨tree_0_21, trivial⟩⟩⟩⟩
noncomputable def entTree4_10 : List (List DV × DV) := [(tree_a0_16, tree_r0_16), (tree_a0_18, tree_r0_18), (tree_a0_20, tree_r0_20), (tree_a0_22, tree_r0_22), (tree_a0_26, tree_r0_26), (tree_a0_72, tree_r0_72)]
theorem entTree4_10_ok : AllE 10 entTree4_10 := ⟨tree_0_16, ⟨tree_0_18, ⟨tree_0_20, ⟨tree_0_22, ⟨tree_0_26, ⟨tree_0_72, trivial⟩⟩⟩⟩⟩⟩
noncomputable def entTree4_41 : List (List DV × DV) := [(tree_a0_23, tree_r0_23), (tree_a0_24, tree_r0_24), (tree_a0_27, tree_r0_27), (tree_a0_28, tree_r0_28), (tree_a0_30, tree_r0_30), (tree_a0_31, tree_r0_31), (tree_a0_54, tree_r0_54), (tree_a0_55, tree_r0_55), (tree_a0_56, tree_r0_56), (tree_a0_57, tree_r0_57), (tree_a0_58, tree_r0_58), (tree_a0_59, tree_r0_59), (tree_a0_63, tree_r0_63), (tree_a0_64, tree_r0_64), (tree_a0_65, tree_r0_65)]
theorem entTree4_41_ok : AllE 41 entTree4_41 := ⟨tree_0_23, ⟨tree_0_24, ⟨tree_0_27, ⟨tree_0_28, ⟨tree_0_30, ⟨tree_0_31, ⟨tree_0_54, ⟨tree_0_55, ⟨tree_0_56, ⟨tree_0_57, ⟨tree_0_58, ⟨tree_0_59, ⟨tree_0_63, ⟨tree_0_64, ⟨tree_0_65, trivial⟩⟩⟩⟩⟩⟩⟩⟩⟩⟩⟩⟩⟩⟩⟩
noncomputable def entTree4_87 : List (List DV × DV) := [(tree_a0_25, tree_r0_25), (tree_a0_29, tree_r0_29), (tree_a0_32, tree_r0_32)]
theorem entTree4_87_ok : AllE 87 entTree4_87 := ⟨tree_0_25, ⟨tree_0_29, ⟨tree_0_32, trivial⟩⟩⟩
noncomputable def entTree4_42 : List (List DV × DV) := [(tree_a0_35, tree_r0_35), (tree_a0_40, tree_r0_40), (tree_a0_41, tree_r0_41), (tree_a0_42, tree_r0_42), (tree_a0_43, tree_r0_43), (tree_a0_44, tree_r0_44), (tree_a0_45, tree_r0_45), (tree_a0_46, tree_r0_46), (tree_a0_47, tree_r0_47), (tree_a0_48, tree_r0_48), (tree_a0_49, tree_r0_49), (tree_a0_50, tree_r0_50), (tree_a0_51, tree_r0_51), (tree_a0_52, tree_r0_52), (tree_a0_53, tree_r0_53), (tree_a0_61, tree_r0_61), (tree_a0_62, tree_r0_62)]
theorem entTree4_42_ok : AllE 42 entTree4_42 := ⟨tree_0_35, ⟨tree_0_40, ⟨tree_0_41, ⟨tree_0_42, ⟨tree_0_43, ⟨tree_0_44, ⟨tree_0_45, ⟨tree_0_46, ⟨tree_0_47, ⟨tree_0_48, ⟨tree_0_49, ⟨tree_0_50, ⟨tree_0_51, ⟨tree_0_52, ⟨tree_0_53, ⟨tree_0_61, ⟨tree_0_62, trivial⟩⟩⟩⟩⟩⟩⟩⟩⟩⟩⟩⟩⟩⟩⟩⟩⟩
noncomputable def entTree4_26 : List (List DV × DV) := [(tree_a0_36, tree_r0_36), (tree_a0_37, tree_r0_37), (tree_a0_38, tree_r0_38), (tree_a0_39, tree_r0_39), (tree_a0_67, tree_r0_67), (tree_a0_69, tree_r0_69)]
theorem entTree4_26_ok : AllE 26 entTree4_26 := ⟨tree_0_36, ⟨tree_0_37, ⟨tree_0_38, ⟨tree_0_39, ⟨tree_0_67, ⟨tree_0_69, trivial⟩⟩⟩⟩⟩⟩
noncomputable def entTree4_19 : List (List DV × DV) := [(tree_a1_0, tree_r1_0), (tree_a1_1, tree_r1_1), (tree_a1_2, tree_r1_2)]
theorem entTree4_19_ok : AllE 19 entTree4_19 := ⟨tree_1_0, ⟨tree_1_1, ⟨tree_1_2, trivial⟩⟩⟩
noncomputable def entTree4_77 : List (List DV × DV) := [(tree_a2_0, tree_r2_0), (tree_a2_1, tree_r2_1)]
theorem entTree4_77_ok : AllE 77 entTree4_77 := ⟨tree_2_0, ⟨tree_2_1, trivial⟩⟩
noncomputable def entTree4_30 : List (List DV × DV) := [(tree_a3_0, tree_r3_0), (tree_a3_1, tree_r3_1), (tree_a3_2, tree_r3_2), (tree_a3_3, tree_r3_3), (tree_a3_5, tree_r3_5), (tree_a3_7, tree_r3_7), (tree_a3_8, tree_r3_8), (tree_a3_10, tree_r3_10), (tree_a3_12, tree_r3_12)]
theorem entTree4_30_ok : AllE 30 entTree4_30 := ⟨tree_3_0, ⟨tree_3_1, ⟨tree_3_2, ⟨tree_3_3, ⟨tree_3_5, ⟨tree_3_7, ⟨tree_3_8, ⟨tree_3_10, ⟨tree_3_12, trivial⟩⟩⟩⟩⟩⟩⟩⟩⟩
noncomputable def entTree4_24 : List (List DV × DV) := [(tree_a3_4, tree_r3_4), (tree_a3_6, tree_r3_6), (tree_a3_9, tree_r3_9), (tree_a3_11, tree_r3_11), (tree_a3_13, tree_r3_13), (tree_a3_14, tree_r3_14)]
theorem entTree4_24_ok : AllE 24 entTree4_24 := ⟨tree_3_4, ⟨tree_3_6, ⟨tree_3_9, ⟨tree_3_11, ⟨tree_3_13, ⟨tree_3_14, trivial⟩⟩⟩⟩⟩⟩
noncomputable def entTree4_12 : List (List DV × DV) := [(tree_a4_0, tree_r4_0)]
theorem entTree4_12_ok : AllE 12 entTree4_12 := ⟨tree_4_0, trivial⟩
noncomputable def tabTree4 : Tr (List (List DV × DV)) := (.node (.node (.node (.node (.node .nil (some entTree4_15) .nil) none (.node .nil none (.node (.node .nil (some entTree4_87) .nil) none .nil))) none (.node (.node .nil (some entTree4_19) .nil) (some entTree4_11) (.node (.node .nil (some entTree4_43) .nil) none .nil))) none (.node (.node .nil (some entTree4_9) (.node (.node .nil (some entTree4_41) .nil) none .nil)) none (.node .nil none (.node (.node (.node .nil (some entTree4_77) .nil) none .nil) none .nil)))) none (.node (.node (.node .nil none (.node .nil (some entTree4_24) .nil)) none (.node .nil (some entTree4_12) .nil)) none (.node (.node .nil (some entTree4_10) (.node (.node .nil (some entTree4_42) .nil) (some entTree4_26) .nil)) none (.node (.node (.node .nil (some entTree4_38) .nil) none .nil) none (.node .nil (some entTree4_30) .nil)))))
theorem tabTree4_ok : Tr.All AllE tabTree4 := ⟨⟨⟨⟨⟨trivial, entTree4_15_ok, trivial⟩, trivial, ⟨trivial, trivial, ⟨⟨trivial, entTree4_87_ok, trivial⟩, trivial, trivial⟩⟩⟩, trivial, ⟨⟨trivial, entTree4_19_ok, trivial⟩, entTree4_11_ok, ⟨⟨trivial, entTree4_43_ok, trivial⟩, trivial, trivial⟩⟩⟩, trivial, ⟨⟨trivial, entTree4_9_ok, ⟨⟨trivial, entTree4_41_ok, trivial⟩, trivial, trivial⟩⟩, trivial, ⟨trivial, trivial, ⟨⟨⟨trivial, entTree4_77_ok, trivial⟩, trivial, trivial⟩, trivial, trivial⟩⟩⟩⟩, trivial, ⟨⟨⟨trivial, trivial, ⟨trivial, entTree4_24_ok, trivial⟩⟩, trivial, ⟨trivial, entTree4_12_ok, trivial⟩⟩, trivial, ⟨⟨trivial, entTree4_10_ok, ⟨⟨trivial, entTree4_42_ok, trivial⟩, entTree4_26_ok, trivial⟩⟩, trivial, ⟨⟨⟨trivial, entTree4_38_ok, trivial⟩, trivial, trivial⟩, trivial, ⟨trivial, entTree4_30_ok, trivial⟩⟩⟩⟩⟩
noncomputable def orcTree4 : CallX := orcM tabTree4
theorem orcTree4_ok : CallOK Pr orcTree4 := orcM_ok fun k l h e he => AllE.mem l (Tr.All.get _ _ tabTree4_ok k l h) e he
end Go.Xm

/- WHAT IS KNOWN OF CALLS OF DATA, level 4, by program (genmemo.py). -/
import Derived.Test.YtgbpggllmcpicaaGreatSense3
import Derived.KernelRfl
namespace Go.Xm
open Go Go.Cr Go.Proofs
def sense_a4_0 : List DV := []
def sense_r4_0 : DV := .val (.bool true)
theorem sense_4_0 : PureD Pr 3 sense_a4_0 sense_r4_0 := PureD.of_run (orc := orcSense3) (m := 2000) mixed orcSense3_ok (by kernel_rfl)
noncomputable def entSense4_35 : List (List DV × DV) := [(sense_a0_0, sense_r0_0), (sense_a0_1, sense_r0_1), (sense_a0_2, sense_r0_2), (sense_a0_3, sense_r0_3)]
theorem entSense4_35_ok : AllE 35 entSense4_35 := ⟨sense_0_0, ⟨sense_0_1, ⟨sense_0_2, ⟨sense_0_3, trivial⟩⟩⟩⟩
noncomputable def entSense4_43 : List (List DV × DV) := [(sense_a0_4, sense_r0_4), (sense_a0_8, sense_r0_8), (sense_a0_10, sense_r0_10), (sense_a0_12, sense_r0_12), (sense_a0_58, sense_r0_58), (sense_a0_60, sense_r0_60)]
theorem entSense4_43_ok : AllE 43 entSense4_43 := ⟨sense_0_4, ⟨sense_0_8, ⟨sense_0_10, ⟨sense_0_12, ⟨sense_0_58, ⟨sense_0_60, trivial⟩⟩⟩⟩⟩⟩
noncomputable def entSense4_38 : List (List DV × DV) := [(sense_a0_5, sense_r0_5), (sense_a0_24, sense_r0_24), (sense_a0_26, sense_r0_26), (sense_a0_28, sense_r0_28), (sense_a0_30, sense_r0_30), (sense_a0_48, sense_r0_48), (sense_a0_53, sense_r0_53)]
theorem entSense4_38_ok : AllE 38 entSense4_38 := ⟨sense_0_5, ⟨sense_0_24, ⟨sense_0_26, ⟨sense_0_28, ⟨sense_0_30, ⟨sense_0_48, ⟨sense_0_53, trivial⟩⟩⟩⟩⟩⟩⟩
noncomputable def entSense4_15 : List (List DV × DV) := [(sense_a0_6, sense_r0_6), (sense_a0_49, sense_r0_49), (sense_a0_54, sense_r0_54)]
theorem entSense4_15_ok : AllE 15 entSense4_15 := ⟨sense_0_6, ⟨sense_0_49, ⟨sense_0_54, trivial⟩⟩⟩
noncomputable def entSense4_10 : List (List DV × DV) := [(sense_a0_7, sense_r0_7), (sense_a0_9, sense_r0_9), (sense_a0_11, sense_r0_11), (sense_a0_13, sense_r0_13), (sense_a0_17, sense_r0_17), (sense_a0_61, sense_r0_61)]
theorem entSense4_10_ok : AllE 10 entSense4_10 := ⟨sense_0_7, ⟨sense_0_9, ⟨sense_0_11, ⟨sense_0_13, ⟨sense_0_17, ⟨sense_0_61, trivial⟩⟩⟩⟩⟩⟩
noncomputable def entSense4_41 : List (List DV × DV) := [(sense_a0_14, sense_r0_14), (sense_a0_15, sense_r0_15), (sense_a0_18, sense_r0_18), (sense_a0_19, sense_r0_19), (sense_a0_21, sense_r0_21), (sense_a0_22, sense_r0_22), (sense_a0_32, sense_r0_32), (sense_a0_34, sense_r0_34), (sense_a0_35, sense_r0_35), (sense_a0_36, sense_r0_36), (sense_a0_43, sense_r0_43), (sense_a0_47, sense_r0_47), (sense_a0_50, sense_r0_50), (sense_a0_51, sense_r0_51), (sense_a0_52, sense_r0_52), (sense_a0_56, sense_r0_56), (sense_a0_57, sense_r0_57), (sense_a0_63, sense_r0_63), (sense_a0_65, sense_r0_65)]
theorem entSense4_41_ok : AllE 41 entSense4_41 := ⟨sense_0_14, ⟨sense_0_15, ⟨sense_0_18, ⟨sense_0_19, ⟨sense_0_21, ⟨sense_0_22, ⟨sense_0_32, ⟨sense_0_34, ⟨sense_0_35, ⟨sense_0_36, ⟨sense_0_43, ⟨sense_0_47, ⟨sense_0_50, ⟨sense_0_51, ⟨sense_0_52, ⟨sense_0_56, ⟨sense_0_57, ⟨sense_0_63, ⟨sense_0_65, trivial⟩⟩⟩⟩⟩⟩⟩⟩⟩⟩⟩⟩⟩⟩⟩⟩⟩⟩⟩
noncomputable def entSense4_87 : List (List DV × DV) := [(sense_a0_16, sense_r0_16), (sense_a0_20, sense_r0_20), (sense_a0_23, sense_r0_23), (sense_a0_33, sense_r0_33)]
theorem entSense4_87_ok : AllE 87 entSense4_87 := ⟨sense_0_16, ⟨sense_0_20, ⟨sense_0_23, ⟨sense_0_33, trivial⟩⟩⟩⟩
noncomputable def entSense4_26 : List (List DV × DV) := [(sense_a0_25, sense_r0_25), (sense_a0_27, sense_r0_27), (sense_a0_29, sense_r0_29), (sense_a0_31, sense_r0_31)]
theorem entSense4_26_ok : AllE 26 entSense4_26 := ⟨sense_0_25, ⟨sense_0_27, ⟨sense_0_29, ⟨sense_0_31, trivial⟩⟩⟩⟩
noncomputable def entSense4_96 : List (List DV × DV) := [(sense_a0_37, sense_r0_37)]
theorem entSense4_96_ok : AllE 96 entSense4_96 := ⟨sense_0_37, trivial⟩
noncomputable def entSense4_40 : List (List DV × DV) := [(sense_a0_38, sense_r0_38), (sense_a0_59, sense_r0_59)]
theorem entSense4_40_ok : AllE 40 entSense4_40 := ⟨sense_0_38, ⟨sense_0_59, trivial⟩⟩
noncomputable def entSense4_97 : List (List DV × DV) := [(sense_a0_39, sense_r0_39)]
theorem entSense4_97_ok : AllE 97 entSense4_97 := ⟨sense_0_39, trivial⟩
noncomputable def entSense4_42 : List (List DV × DV) := [(sense_a0_40, sense_r0_40), (sense_a0_41, sense_r0_41), (sense_a0_42, sense_r0_42), (sense_a0_44, sense_r0_44), (sense_a0_45, sense_r0_45), (sense_a0_46, sense_r0_46), (sense_a0_55, sense_r0_55), (sense_a0_62, sense_r0_62), (sense_a0_64, sense_r0_64)]
theorem entSense4_42_ok : AllE 42 entSense4_42 := ⟨sense_0_40, ⟨sense_0_41, ⟨sense_0_42, ⟨sense_0_44, ⟨sense_0_45, ⟨sense_0_46, ⟨sense_0_55, ⟨sense_0_62, ⟨sense_0_64, trivial⟩⟩⟩⟩⟩⟩⟩⟩⟩
noncomputable def entSense4_18 : List (List DV × DV) := [(sense_a0_66, sense_r0_66), (sense_a0_67, sense_r0_67), (sense_a0_68, sense_r0_68), (sense_a0_69, sense_r0_69)]
theorem entSense4_18_ok : AllE 18 entSense4_18 := ⟨sense_0_66, ⟨sense_0_67, ⟨sense_0_68, ⟨sense_0_69, trivial⟩⟩⟩⟩
noncomputable def entSense4_19 : List (List DV × DV) := [(sense_a1_0, sense_r1_0)]
theorem entSense4_19_ok : AllE 19 entSense4_19 := ⟨sense_1_0, trivial⟩
noncomputable def entSense4_13 : List (List DV × DV) := [(sense_a2_0, sense_r2_0)]
theorem entSense4_13_ok : AllE 13 entSense4_13 := ⟨sense_2_0, trivial⟩
noncomputable def entSense4_77 : List (List DV × DV) := [(sense_a2_1, sense_r2_1)]
theorem entSense4_77_ok : AllE 77 entSense4_77 := ⟨sense_2_1, trivial⟩
noncomputable def entSense4_5 : List (List DV × DV) := [(sense_a3_0, sense_r3_0)]
theorem entSense4_5_ok : AllE 5 entSense4_5 := ⟨sense_3_0, trivial⟩
noncomputable def entSense4_3 : List (List DV × DV) := [(sense_a4_0, sense_r4_0)]
theorem entSense4_3_ok : AllE 3 entSense4_3 := ⟨sense_4_0, trivial⟩
noncomputable def tabSense4 : Tr (List (List DV × DV)) := (.node (.node (.node (.node (.node .nil (some entSense4_15) .nil) none (.node .nil none (.node (.node .nil (some entSense4_87) .nil) none .nil))) (some entSense4_3) (.node (.node (.node .nil (some entSense4_35) .nil) (some entSense4_19) .nil) none (.node (.node .nil (some entSense4_43) .nil) none .nil))) none (.node (.node (.node (.node .nil none (.node .nil (some entSense4_97) .nil)) none .nil) none (.node (.node .nil (some entSense4_41) .nil) none .nil)) (some entSense4_5) (.node .nil (some entSense4_13) (.node (.node (.node .nil (some entSense4_77) .nil) none .nil) none .nil)))) none (.node (.node (.node (.node (.node .nil none (.node .nil (some entSense4_96) .nil)) none .nil) none (.node (.node .nil (some entSense4_40) .nil) none .nil)) none .nil) none (.node (.node (.node .nil (some entSense4_18) .nil) (some entSense4_10) (.node (.node .nil (some entSense4_42) .nil) (some entSense4_26) .nil)) none (.node (.node (.node .nil (some entSense4_38) .nil) none .nil) none .nil))))
theorem tabSense4_ok : Tr.All AllE tabSense4 := ⟨⟨⟨⟨⟨trivial, entSense4_15_ok, trivial⟩, trivial, ⟨trivial, trivial, ⟨⟨trivial, entSense4_87_ok, trivial⟩, trivial, trivial⟩⟩⟩, entSense4_3_ok, ⟨⟨⟨trivial, entSense4_35_ok, trivial⟩, entSense4_19_ok, trivial⟩, trivial, ⟨⟨trivial, entSense4_43_ok, trivial⟩, trivial, trivial⟩⟩⟩, trivial, ⟨⟨⟨⟨trivial, trivial, ⟨trivial, entSense4_97_ok, trivial⟩⟩, trivial, trivial⟩, trivial, ⟨⟨trivial, entSense4_41_ok, trivial⟩, trivial, trivial⟩⟩, entSense4_5_ok, ⟨trivial, entSense4_13_ok, ⟨⟨⟨trivial, entSense4_77_ok, trivial⟩, trivial, trivial⟩, trivial, trivial⟩⟩⟩⟩, trivial, ⟨⟨⟨⟨⟨trivial, trivial, ⟨trivial, entSense4_96_ok, trivial⟩⟩, trivial, trivial⟩, trivial, ⟨⟨trivial, entSense4_40_ok, trivial⟩, trivial, trivial⟩⟩, trivial, trivial⟩, trivial, ⟨⟨⟨trivial, entSense4_18_ok, trivial⟩, entSense4_10_ok, ⟨⟨trivial, entSense4_42_ok, trivial⟩, entSense4_26_ok, trivial⟩⟩, trivial, ⟨⟨⟨trivial, entSense4_38_ok, trivial⟩, trivial, trivial⟩, trivial, trivial⟩⟩⟩⟩
noncomputable def orcSense4 : CallX := orcM tabSense4
theorem orcSense4_ok : CallOK Pr orcSense4 := orcM_ok fun k l h e he => AllE.mem l (Tr.All.get _ _ tabSense4_ok k l h) e he
end Go.Xm

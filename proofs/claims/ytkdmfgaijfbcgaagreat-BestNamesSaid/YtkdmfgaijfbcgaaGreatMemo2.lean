/- WHAT IS KNOWN OF CALLS OF DATA, level 2, by program (genmemo.py). -/
import Derived.Test.YtkdmfgaijfbcgaaGreatMemo1
import Derived.KernelRfl
namespace Go.Xm
open Go Go.Cr Go.Proofs
def memo_a2_0 : List DV := [.agg [.val (.string ⟨#[]⟩), .val (.slice none 0 0), .val (.slice none 0 0), .val (.slice none 0 0), .val (.slice none 0 0)]]
def memo_r2_0 : DV := .tup [.val (.slice none 0 0), .val (.int .i64 (.ofNat 0))]
theorem memo_2_0 : PureD Pr 23 memo_a2_0 memo_r2_0 := PureD.of_run (orc := orcMemo1) (m := 2000) mixed orcMemo1_ok (by kernel_rfl)
def memo_a2_1 : List DV := [.agg [.val (.string ⟨#[110]⟩), .slice 1 1 [.val (.string ⟨#[97]⟩)], .slice 1 1 [.slice 1 2 [.val (.string ⟨#[120]⟩), .val (.string ⟨#[121]⟩)]], .slice 1 1 [.val (.slice none 0 0)], .slice 1 1 [.slice 3 2 [.val (.bool false), .slice 1 1 [.val (.int .u32 (.ofNat 1))], .slice 1 1 [.val (.int .u32 (.ofNat 1))], .val (.bool false), .val (.slice none 0 0), .slice 1 1 [.val (.int .u32 (.ofNat 1))]]]]]
def memo_r2_1 : DV := .tup [.slice 3 1 [.slice 1 1 [.val (.int .i64 (.ofNat 0))], .slice 1 1 [.val (.int .i64 (.ofNat 2))], .slice 3 2 [.val (.bool false), .slice 1 1 [.val (.int .u32 (.ofNat 1))], .slice 1 1 [.val (.int .u32 (.ofNat 1))], .val (.bool false), .val (.slice none 0 0), .slice 1 1 [.val (.int .u32 (.ofNat 1))]]], .val (.int .i64 (.ofNat 0))]
theorem memo_2_1 : PureD Pr 23 memo_a2_1 memo_r2_1 := PureD.of_run (orc := orcMemo1) (m := 2000) mixed orcMemo1_ok (by kernel_rfl)
def memo_a2_2 : List DV := [.agg [.val (.string ⟨#[110]⟩), .slice 1 1 [.val (.string ⟨#[97]⟩)], .slice 1 1 [.slice 1 2 [.val (.string ⟨#[120]⟩), .val (.string ⟨#[121]⟩)]], .slice 1 1 [.val (.slice none 0 0)], .slice 1 1 [.slice 3 2 [.val (.bool false), .slice 1 1 [.val (.int .u32 (.ofNat 1))], .slice 1 1 [.val (.int .u32 (.ofNat 3))], .val (.bool false), .slice 1 1 [.val (.int .u32 (.ofNat 2))], .slice 1 1 [.val (.int .u32 (.ofNat 3))]]]]]
def memo_r2_2 : DV := .tup [.slice 3 1 [.slice 1 1 [.val (.int .i64 (.ofNat 0))], .slice 1 1 [.val (.int .i64 (.ofNat 2))], .slice 3 2 [.val (.bool false), .slice 1 1 [.val (.int .u32 (.ofNat 1))], .slice 1 1 [.val (.int .u32 (.ofNat 3))], .val (.bool false), .slice 1 1 [.val (.int .u32 (.ofNat 2))], .slice 1 1 [.val (.int .u32 (.ofNat 3))]]], .val (.int .i64 (.ofNat 0))]
theorem memo_2_2 : PureD Pr 23 memo_a2_2 memo_r2_2 := PureD.of_run (orc := orcMemo1) (m := 2000) mixed orcMemo1_ok (by kernel_rfl)
noncomputable def entMemo2_76 : List (List DV × DV) := [(memo_a0_0, memo_r0_0), (memo_a0_4, memo_r0_4), (memo_a0_14, memo_r0_14), (memo_a0_16, memo_r0_16)]
theorem entMemo2_76_ok : AllE 76 entMemo2_76 := ⟨memo_0_0, ⟨memo_0_4, ⟨memo_0_14, ⟨memo_0_16, trivial⟩⟩⟩⟩
noncomputable def entMemo2_30 : List (List DV × DV) := [(memo_a0_1, memo_r0_1), (memo_a0_5, memo_r0_5), (memo_a0_15, memo_r0_15), (memo_a0_17, memo_r0_17)]
theorem entMemo2_30_ok : AllE 30 entMemo2_30 := ⟨memo_0_1, ⟨memo_0_5, ⟨memo_0_15, ⟨memo_0_17, trivial⟩⟩⟩⟩
noncomputable def entMemo2_19 : List (List DV × DV) := [(memo_a0_2, memo_r0_2), (memo_a0_7, memo_r0_7), (memo_a0_18, memo_r0_18), (memo_a0_20, memo_r0_20)]
theorem entMemo2_19_ok : AllE 19 entMemo2_19 := ⟨memo_0_2, ⟨memo_0_7, ⟨memo_0_18, ⟨memo_0_20, trivial⟩⟩⟩⟩
noncomputable def entMemo2_72 : List (List DV × DV) := [(memo_a0_3, memo_r0_3), (memo_a0_12, memo_r0_12), (memo_a0_25, memo_r0_25), (memo_a0_26, memo_r0_26)]
theorem entMemo2_72_ok : AllE 72 entMemo2_72 := ⟨memo_0_3, ⟨memo_0_12, ⟨memo_0_25, ⟨memo_0_26, trivial⟩⟩⟩⟩
noncomputable def entMemo2_11 : List (List DV × DV) := [(memo_a0_6, memo_r0_6), (memo_a0_8, memo_r0_8), (memo_a0_19, memo_r0_19), (memo_a0_21, memo_r0_21), (memo_a0_29, memo_r0_29), (memo_a0_30, memo_r0_30)]
theorem entMemo2_11_ok : AllE 11 entMemo2_11 := ⟨memo_0_6, ⟨memo_0_8, ⟨memo_0_19, ⟨memo_0_21, ⟨memo_0_29, ⟨memo_0_30, trivial⟩⟩⟩⟩⟩⟩
noncomputable def entMemo2_21 : List (List DV × DV) := [(memo_a0_9, memo_r0_9), (memo_a0_10, memo_r0_10), (memo_a0_22, memo_r0_22), (memo_a0_23, memo_r0_23)]
theorem entMemo2_21_ok : AllE 21 entMemo2_21 := ⟨memo_0_9, ⟨memo_0_10, ⟨memo_0_22, ⟨memo_0_23, trivial⟩⟩⟩⟩
noncomputable def entMemo2_87 : List (List DV × DV) := [(memo_a0_11, memo_r0_11), (memo_a0_24, memo_r0_24)]
theorem entMemo2_87_ok : AllE 87 entMemo2_87 := ⟨memo_0_11, ⟨memo_0_24, trivial⟩⟩
noncomputable def entMemo2_47 : List (List DV × DV) := [(memo_a0_13, memo_r0_13), (memo_a0_27, memo_r0_27), (memo_a0_28, memo_r0_28)]
theorem entMemo2_47_ok : AllE 47 entMemo2_47 := ⟨memo_0_13, ⟨memo_0_27, ⟨memo_0_28, trivial⟩⟩⟩
noncomputable def entMemo2_13 : List (List DV × DV) := [(memo_a1_0, memo_r1_0), (memo_a1_1, memo_r1_1), (memo_a1_2, memo_r1_2), (memo_a1_3, memo_r1_3)]
theorem entMemo2_13_ok : AllE 13 entMemo2_13 := ⟨memo_1_0, ⟨memo_1_1, ⟨memo_1_2, ⟨memo_1_3, trivial⟩⟩⟩⟩
noncomputable def entMemo2_23 : List (List DV × DV) := [(memo_a2_0, memo_r2_0), (memo_a2_1, memo_r2_1), (memo_a2_2, memo_r2_2)]
theorem entMemo2_23_ok : AllE 23 entMemo2_23 := ⟨memo_2_0, ⟨memo_2_1, ⟨memo_2_2, trivial⟩⟩⟩
noncomputable def tabMemo2 : Tr (List (List DV × DV)) := (.node (.node (.node (.node (.node .nil none (.node .nil (some entMemo2_47) .nil)) none (.node .nil (some entMemo2_23) (.node (.node .nil (some entMemo2_87) .nil) none .nil))) none (.node (.node .nil (some entMemo2_19) .nil) (some entMemo2_11) .nil)) none (.node .nil none (.node (.node .nil (some entMemo2_21) .nil) (some entMemo2_13) .nil))) none (.node (.node (.node .nil none (.node (.node (.node .nil (some entMemo2_72) .nil) none .nil) none .nil)) none (.node .nil none (.node (.node (.node .nil (some entMemo2_76) .nil) none .nil) none .nil))) none (.node .nil none (.node .nil none (.node .nil (some entMemo2_30) .nil)))))
theorem tabMemo2_ok : Tr.All AllE tabMemo2 := ⟨⟨⟨⟨⟨trivial, trivial, ⟨trivial, entMemo2_47_ok, trivial⟩⟩, trivial, ⟨trivial, entMemo2_23_ok, ⟨⟨trivial, entMemo2_87_ok, trivial⟩, trivial, trivial⟩⟩⟩, trivial, ⟨⟨trivial, entMemo2_19_ok, trivial⟩, entMemo2_11_ok, trivial⟩⟩, trivial, ⟨trivial, trivial, ⟨⟨trivial, entMemo2_21_ok, trivial⟩, entMemo2_13_ok, trivial⟩⟩⟩, trivial, ⟨⟨⟨trivial, trivial, ⟨⟨⟨trivial, entMemo2_72_ok, trivial⟩, trivial, trivial⟩, trivial, trivial⟩⟩, trivial, ⟨trivial, trivial, ⟨⟨⟨trivial, entMemo2_76_ok, trivial⟩, trivial, trivial⟩, trivial, trivial⟩⟩⟩, trivial, ⟨trivial, trivial, ⟨trivial, trivial, ⟨trivial, entMemo2_30_ok, trivial⟩⟩⟩⟩⟩
noncomputable def orcMemo2 : CallX := orcM tabMemo2
theorem orcMemo2_ok : CallOK Pr orcMemo2 := orcM_ok fun k l h e he => AllE.mem l (Tr.All.get _ _ tabMemo2_ok k l h) e he
end Go.Xm

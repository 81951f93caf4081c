/- WHAT IS KNOWN OF CALLS OF DATA, level 0, by program (genmemo.py). -/
import Derived.Test.YtkdmfgaijfbcgaaGreatKnow
import Derived.KernelRfl
namespace Go.Xm
open Go Go.Cr Go.Proofs
def memo_a0_0 : List DV := [.agg [.val (.bool false), .slice 1 1 [.val (.int .u32 (.ofNat 1))]], .agg [.val (.bool false), .slice 1 1 [.val (.int .u32 (.ofNat 1))]]]
def memo_r0_0 : DV := .tup [.agg [.val (.bool false), .slice 1 1 [.val (.int .u32 (.ofNat 1))], .slice 1 1 [.val (.int .u32 (.ofNat 1))]], .val (.int .i64 (.ofNat 0))]
theorem memo_0_0 : PureD Pr 76 memo_a0_0 memo_r0_0 := PureD.of_run (orc := orcNone) (m := 2000) mixed orcNone_ok (by kernel_rfl)
def memo_a0_1 : List DV := [.val (.int .i64 (.ofNat 1)), .val (.int .i64 (.ofNat 1))]
def memo_r0_1 : DV := .tup [.agg [.val (.bool false), .slice 1 1 [.val (.int .u32 (.ofNat 1))], .slice 1 1 [.val (.int .u32 (.ofNat 1))]], .val (.int .i64 (.ofNat 0))]
theorem memo_0_1 : PureD Pr 30 memo_a0_1 memo_r0_1 := PureD.of_run (orc := orcNone) (m := 2000) mixed orcNone_ok (by kernel_rfl)
def memo_a0_2 : List DV := [.agg [.val (.bool false), .slice 1 1 [.val (.int .u32 (.ofNat 1))], .slice 1 1 [.val (.int .u32 (.ofNat 1))]]]
def memo_r0_2 : DV := .val (.int .i64 (.ofNat 1))
theorem memo_0_2 : PureD Pr 19 memo_a0_2 memo_r0_2 := PureD.of_run (orc := orcNone) (m := 2000) mixed orcNone_ok (by kernel_rfl)
def memo_a0_3 : List DV := [.agg [.val (.bool false), .slice 1 1 [.val (.int .u32 (.ofNat 1))], .slice 1 1 [.val (.int .u32 (.ofNat 1))]]]
def memo_r0_3 : DV := .tup [.agg [.val (.bool false), .slice 1 1 [.val (.int .u32 (.ofNat 1))], .slice 1 1 [.val (.int .u32 (.ofNat 1))]], .val (.int .i64 (.ofNat 0))]
theorem memo_0_3 : PureD Pr 72 memo_a0_3 memo_r0_3 := PureD.of_run (orc := orcNone) (m := 2000) mixed orcNone_ok (by kernel_rfl)
def memo_a0_4 : List DV := [.agg [.val (.bool false), .val (.slice none 0 0)], .agg [.val (.bool false), .slice 1 1 [.val (.int .u32 (.ofNat 1))]]]
def memo_r0_4 : DV := .tup [.agg [.val (.bool false), .val (.slice none 0 0), .slice 1 1 [.val (.int .u32 (.ofNat 1))]], .val (.int .i64 (.ofNat 0))]
theorem memo_0_4 : PureD Pr 76 memo_a0_4 memo_r0_4 := PureD.of_run (orc := orcNone) (m := 2000) mixed orcNone_ok (by kernel_rfl)
def memo_a0_5 : List DV := [.val (.int .i64 (.ofNat 0)), .val (.int .i64 (.ofNat 1))]
def memo_r0_5 : DV := .tup [.agg [.val (.bool false), .val (.slice none 0 0), .slice 1 1 [.val (.int .u32 (.ofNat 1))]], .val (.int .i64 (.ofNat 0))]
theorem memo_0_5 : PureD Pr 30 memo_a0_5 memo_r0_5 := PureD.of_run (orc := orcNone) (m := 2000) mixed orcNone_ok (by kernel_rfl)
def memo_a0_6 : List DV := [.agg [.val (.bool false), .slice 1 1 [.val (.int .u32 (.ofNat 1))], .slice 1 1 [.val (.int .u32 (.ofNat 1))]], .agg [.val (.bool false), .slice 1 1 [.val (.int .u32 (.ofNat 1))], .slice 1 1 [.val (.int .u32 (.ofNat 1))]]]
def memo_r0_6 : DV := .val (.int .i64 (.ofNat 0))
theorem memo_0_6 : PureD Pr 11 memo_a0_6 memo_r0_6 := PureD.of_run (orc := orcNone) (m := 2000) mixed orcNone_ok (by kernel_rfl)
def memo_a0_7 : List DV := [.agg [.val (.bool false), .val (.slice none 0 0), .slice 1 1 [.val (.int .u32 (.ofNat 1))]]]
def memo_r0_7 : DV := .val (.int .i64 (.ofNat 0))
theorem memo_0_7 : PureD Pr 19 memo_a0_7 memo_r0_7 := PureD.of_run (orc := orcNone) (m := 2000) mixed orcNone_ok (by kernel_rfl)
def memo_a0_8 : List DV := [.agg [.val (.bool false), .val (.slice none 0 0), .slice 1 1 [.val (.int .u32 (.ofNat 1))]], .agg [.val (.bool false), .slice 1 1 [.val (.int .u32 (.ofNat 1))], .slice 1 1 [.val (.int .u32 (.ofNat 1))]]]
def memo_r0_8 : DV := .val (.int .i64 (.negSucc 0))
theorem memo_0_8 : PureD Pr 11 memo_a0_8 memo_r0_8 := PureD.of_run (orc := orcNone) (m := 2000) mixed orcNone_ok (by kernel_rfl)
def memo_a0_9 : List DV := [.agg [.val (.bool false), .val (.slice none 0 0), .slice 1 1 [.val (.int .u32 (.ofNat 1))]], .agg [.val (.bool false), .slice 1 1 [.val (.int .u32 (.ofNat 1))], .slice 1 1 [.val (.int .u32 (.ofNat 1))]]]
def memo_r0_9 : DV := .agg [.val (.bool false), .slice 1 1 [.val (.int .u32 (.ofNat 1))], .slice 1 1 [.val (.int .u32 (.ofNat 1))]]
theorem memo_0_9 : PureD Pr 21 memo_a0_9 memo_r0_9 := PureD.of_run (orc := orcNone) (m := 2000) mixed orcNone_ok (by kernel_rfl)
def memo_a0_10 : List DV := [.agg [.val (.bool false), .slice 1 1 [.val (.int .u32 (.ofNat 1))], .slice 1 1 [.val (.int .u32 (.ofNat 1))]], .agg [.val (.bool false), .val (.slice none 0 0), .slice 1 1 [.val (.int .u32 (.ofNat 1))]]]
def memo_r0_10 : DV := .agg [.val (.bool false), .slice 1 1 [.val (.int .u32 (.ofNat 1))], .slice 1 1 [.val (.int .u32 (.ofNat 1))]]
theorem memo_0_10 : PureD Pr 21 memo_a0_10 memo_r0_10 := PureD.of_run (orc := orcNone) (m := 2000) mixed orcNone_ok (by kernel_rfl)
def memo_a0_11 : List DV := [.slice 3 2 [.val (.bool false), .slice 1 1 [.val (.int .u32 (.ofNat 1))], .slice 1 1 [.val (.int .u32 (.ofNat 1))], .val (.bool false), .val (.slice none 0 0), .slice 1 1 [.val (.int .u32 (.ofNat 1))]]]
def memo_r0_11 : DV := .agg [.val (.bool false), .slice 1 1 [.val (.int .u32 (.ofNat 1))], .slice 1 1 [.val (.int .u32 (.ofNat 1))]]
theorem memo_0_11 : PureD Pr 87 memo_a0_11 memo_r0_11 := PureD.of_run (orc := orcNone) (m := 2000) mixed orcNone_ok (by kernel_rfl)
def memo_a0_12 : List DV := [.agg [.val (.bool false), .val (.slice none 0 0), .slice 1 1 [.val (.int .u32 (.ofNat 1))]]]
def memo_r0_12 : DV := .tup [.agg [.val (.bool false), .val (.slice none 0 0), .slice 1 1 [.val (.int .u32 (.ofNat 1))]], .val (.int .i64 (.ofNat 0))]
theorem memo_0_12 : PureD Pr 72 memo_a0_12 memo_r0_12 := PureD.of_run (orc := orcNone) (m := 2000) mixed orcNone_ok (by kernel_rfl)
def memo_a0_13 : List DV := [.agg [.val (.bool false), .slice 1 1 [.val (.int .u32 (.ofNat 1))], .slice 1 1 [.val (.int .u32 (.ofNat 1))]], .agg [.val (.bool false), .val (.slice none 0 0), .slice 1 1 [.val (.int .u32 (.ofNat 1))]]]
def memo_r0_13 : DV := .agg [.val (.bool false), .val (.slice none 0 0), .slice 1 1 [.val (.int .u32 (.ofNat 1))]]
theorem memo_0_13 : PureD Pr 47 memo_a0_13 memo_r0_13 := PureD.of_run (orc := orcNone) (m := 2000) mixed orcNone_ok (by kernel_rfl)
def memo_a0_14 : List DV := [.agg [.val (.bool false), .slice 1 1 [.val (.int .u32 (.ofNat 1))]], .agg [.val (.bool false), .slice 1 1 [.val (.int .u32 (.ofNat 3))]]]
def memo_r0_14 : DV := .tup [.agg [.val (.bool false), .slice 1 1 [.val (.int .u32 (.ofNat 1))], .slice 1 1 [.val (.int .u32 (.ofNat 3))]], .val (.int .i64 (.ofNat 0))]
theorem memo_0_14 : PureD Pr 76 memo_a0_14 memo_r0_14 := PureD.of_run (orc := orcNone) (m := 2000) mixed orcNone_ok (by kernel_rfl)
def memo_a0_15 : List DV := [.val (.int .i64 (.ofNat 1)), .val (.int .i64 (.ofNat 3))]
def memo_r0_15 : DV := .tup [.agg [.val (.bool false), .slice 1 1 [.val (.int .u32 (.ofNat 1))], .slice 1 1 [.val (.int .u32 (.ofNat 3))]], .val (.int .i64 (.ofNat 0))]
theorem memo_0_15 : PureD Pr 30 memo_a0_15 memo_r0_15 := PureD.of_run (orc := orcNone) (m := 2000) mixed orcNone_ok (by kernel_rfl)
def memo_a0_16 : List DV := [.agg [.val (.bool false), .slice 1 1 [.val (.int .u32 (.ofNat 2))]], .agg [.val (.bool false), .slice 1 1 [.val (.int .u32 (.ofNat 3))]]]
def memo_r0_16 : DV := .tup [.agg [.val (.bool false), .slice 1 1 [.val (.int .u32 (.ofNat 2))], .slice 1 1 [.val (.int .u32 (.ofNat 3))]], .val (.int .i64 (.ofNat 0))]
theorem memo_0_16 : PureD Pr 76 memo_a0_16 memo_r0_16 := PureD.of_run (orc := orcNone) (m := 2000) mixed orcNone_ok (by kernel_rfl)
def memo_a0_17 : List DV := [.val (.int .i64 (.ofNat 2)), .val (.int .i64 (.ofNat 3))]
def memo_r0_17 : DV := .tup [.agg [.val (.bool false), .slice 1 1 [.val (.int .u32 (.ofNat 2))], .slice 1 1 [.val (.int .u32 (.ofNat 3))]], .val (.int .i64 (.ofNat 0))]
theorem memo_0_17 : PureD Pr 30 memo_a0_17 memo_r0_17 := PureD.of_run (orc := orcNone) (m := 2000) mixed orcNone_ok (by kernel_rfl)
def memo_a0_18 : List DV := [.agg [.val (.bool false), .slice 1 1 [.val (.int .u32 (.ofNat 1))], .slice 1 1 [.val (.int .u32 (.ofNat 3))]]]
def memo_r0_18 : DV := .val (.int .i64 (.ofNat 1))
theorem memo_0_18 : PureD Pr 19 memo_a0_18 memo_r0_18 := PureD.of_run (orc := orcNone) (m := 2000) mixed orcNone_ok (by kernel_rfl)
def memo_a0_19 : List DV := [.agg [.val (.bool false), .slice 1 1 [.val (.int .u32 (.ofNat 1))], .slice 1 1 [.val (.int .u32 (.ofNat 3))]], .agg [.val (.bool false), .slice 1 1 [.val (.int .u32 (.ofNat 1))], .slice 1 1 [.val (.int .u32 (.ofNat 1))]]]
def memo_r0_19 : DV := .val (.int .i64 (.negSucc 0))
theorem memo_0_19 : PureD Pr 11 memo_a0_19 memo_r0_19 := PureD.of_run (orc := orcNone) (m := 2000) mixed orcNone_ok (by kernel_rfl)
def memo_a0_20 : List DV := [.agg [.val (.bool false), .slice 1 1 [.val (.int .u32 (.ofNat 2))], .slice 1 1 [.val (.int .u32 (.ofNat 3))]]]
def memo_r0_20 : DV := .val (.int .i64 (.ofNat 1))
theorem memo_0_20 : PureD Pr 19 memo_a0_20 memo_r0_20 := PureD.of_run (orc := orcNone) (m := 2000) mixed orcNone_ok (by kernel_rfl)
def memo_a0_21 : List DV := [.agg [.val (.bool false), .slice 1 1 [.val (.int .u32 (.ofNat 2))], .slice 1 1 [.val (.int .u32 (.ofNat 3))]], .agg [.val (.bool false), .slice 1 1 [.val (.int .u32 (.ofNat 1))], .slice 1 1 [.val (.int .u32 (.ofNat 1))]]]
def memo_r0_21 : DV := .val (.int .i64 (.negSucc 0))
theorem memo_0_21 : PureD Pr 11 memo_a0_21 memo_r0_21 := PureD.of_run (orc := orcNone) (m := 2000) mixed orcNone_ok (by kernel_rfl)
def memo_a0_22 : List DV := [.agg [.val (.bool false), .val (.slice none 0 0), .slice 1 1 [.val (.int .u32 (.ofNat 1))]], .agg [.val (.bool false), .slice 1 1 [.val (.int .u32 (.ofNat 1))], .slice 1 1 [.val (.int .u32 (.ofNat 3))]]]
def memo_r0_22 : DV := .agg [.val (.bool false), .slice 1 1 [.val (.int .u32 (.ofNat 1))], .slice 1 1 [.val (.int .u32 (.ofNat 3))]]
theorem memo_0_22 : PureD Pr 21 memo_a0_22 memo_r0_22 := PureD.of_run (orc := orcNone) (m := 2000) mixed orcNone_ok (by kernel_rfl)
def memo_a0_23 : List DV := [.agg [.val (.bool false), .slice 1 1 [.val (.int .u32 (.ofNat 1))], .slice 1 1 [.val (.int .u32 (.ofNat 3))]], .agg [.val (.bool false), .slice 1 1 [.val (.int .u32 (.ofNat 2))], .slice 1 1 [.val (.int .u32 (.ofNat 3))]]]
def memo_r0_23 : DV := .agg [.val (.bool false), .slice 1 1 [.val (.int .u32 (.ofNat 1))], .slice 1 1 [.val (.int .u32 (.ofNat 1))]]
theorem memo_0_23 : PureD Pr 21 memo_a0_23 memo_r0_23 := PureD.of_run (orc := orcNone) (m := 2000) mixed orcNone_ok (by kernel_rfl)
def memo_a0_24 : List DV := [.slice 3 2 [.val (.bool false), .slice 1 1 [.val (.int .u32 (.ofNat 1))], .slice 1 1 [.val (.int .u32 (.ofNat 3))], .val (.bool false), .slice 1 1 [.val (.int .u32 (.ofNat 2))], .slice 1 1 [.val (.int .u32 (.ofNat 3))]]]
def memo_r0_24 : DV := .agg [.val (.bool false), .slice 1 1 [.val (.int .u32 (.ofNat 1))], .slice 1 1 [.val (.int .u32 (.ofNat 1))]]
theorem memo_0_24 : PureD Pr 87 memo_a0_24 memo_r0_24 := PureD.of_run (orc := orcNone) (m := 2000) mixed orcNone_ok (by kernel_rfl)
def memo_a0_25 : List DV := [.agg [.val (.bool false), .slice 1 1 [.val (.int .u32 (.ofNat 1))], .slice 1 1 [.val (.int .u32 (.ofNat 3))]]]
def memo_r0_25 : DV := .tup [.agg [.val (.bool false), .slice 1 1 [.val (.int .u32 (.ofNat 1))], .slice 1 1 [.val (.int .u32 (.ofNat 3))]], .val (.int .i64 (.ofNat 0))]
theorem memo_0_25 : PureD Pr 72 memo_a0_25 memo_r0_25 := PureD.of_run (orc := orcNone) (m := 2000) mixed orcNone_ok (by kernel_rfl)
def memo_a0_26 : List DV := [.agg [.val (.bool false), .slice 1 1 [.val (.int .u32 (.ofNat 2))], .slice 1 1 [.val (.int .u32 (.ofNat 3))]]]
def memo_r0_26 : DV := .tup [.agg [.val (.bool false), .slice 1 1 [.val (.int .u32 (.ofNat 2))], .slice 1 1 [.val (.int .u32 (.ofNat 3))]], .val (.int .i64 (.ofNat 0))]
theorem memo_0_26 : PureD Pr 72 memo_a0_26 memo_r0_26 := PureD.of_run (orc := orcNone) (m := 2000) mixed orcNone_ok (by kernel_rfl)
def memo_a0_27 : List DV := [.agg [.val (.bool false), .slice 1 1 [.val (.int .u32 (.ofNat 1))], .slice 1 1 [.val (.int .u32 (.ofNat 1))]], .agg [.val (.bool false), .slice 1 1 [.val (.int .u32 (.ofNat 1))], .slice 1 1 [.val (.int .u32 (.ofNat 3))]]]
def memo_r0_27 : DV := .agg [.val (.bool false), .slice 1 1 [.val (.int .u32 (.ofNat 1))], .slice 1 1 [.val (.int .u32 (.ofNat 3))]]
theorem memo_0_27 : PureD Pr 47 memo_a0_27 memo_r0_27 := PureD.of_run (orc := orcNone) (m := 2000) mixed orcNone_ok (by kernel_rfl)
def memo_a0_28 : List DV := [.agg [.val (.bool false), .slice 1 1 [.val (.int .u32 (.ofNat 1))], .slice 1 1 [.val (.int .u32 (.ofNat 1))]], .agg [.val (.bool false), .slice 1 1 [.val (.int .u32 (.ofNat 2))], .slice 1 1 [.val (.int .u32 (.ofNat 3))]]]
def memo_r0_28 : DV := .agg [.val (.bool false), .slice 1 1 [.val (.int .u32 (.ofNat 2))], .slice 1 1 [.val (.int .u32 (.ofNat 3))]]
theorem memo_0_28 : PureD Pr 47 memo_a0_28 memo_r0_28 := PureD.of_run (orc := orcNone) (m := 2000) mixed orcNone_ok (by kernel_rfl)
def memo_a0_29 : List DV := [.agg [.val (.bool false), .slice 1 1 [.val (.int .u32 (.ofNat 1))], .slice 1 1 [.val (.int .u32 (.ofNat 3))]], .agg [.val (.bool false), .slice 1 1 [.val (.int .u32 (.ofNat 2))], .slice 1 1 [.val (.int .u32 (.ofNat 3))]]]
def memo_r0_29 : DV := .val (.int .i64 (.negSucc 0))
theorem memo_0_29 : PureD Pr 11 memo_a0_29 memo_r0_29 := PureD.of_run (orc := orcNone) (m := 2000) mixed orcNone_ok (by kernel_rfl)
def memo_a0_30 : List DV := [.agg [.val (.bool false), .slice 1 1 [.val (.int .u32 (.ofNat 2))], .slice 1 1 [.val (.int .u32 (.ofNat 3))]], .agg [.val (.bool false), .slice 1 1 [.val (.int .u32 (.ofNat 2))], .slice 1 1 [.val (.int .u32 (.ofNat 3))]]]
def memo_r0_30 : DV := .val (.int .i64 (.ofNat 0))
theorem memo_0_30 : PureD Pr 11 memo_a0_30 memo_r0_30 := PureD.of_run (orc := orcNone) (m := 2000) mixed orcNone_ok (by kernel_rfl)
noncomputable def entMemo0_76 : List (List DV × DV) := [(memo_a0_0, memo_r0_0), (memo_a0_4, memo_r0_4), (memo_a0_14, memo_r0_14), (memo_a0_16, memo_r0_16)]
theorem entMemo0_76_ok : AllE 76 entMemo0_76 := ⟨memo_0_0, ⟨memo_0_4, ⟨memo_0_14, ⟨memo_0_16, trivial⟩⟩⟩⟩
noncomputable def entMemo0_30 : List (List DV × DV) := [(memo_a0_1, memo_r0_1), (memo_a0_5, memo_r0_5), (memo_a0_15, memo_r0_15), (memo_a0_17, memo_r0_17)]
theorem entMemo0_30_ok : AllE 30 entMemo0_30 := ⟨memo_0_1, ⟨memo_0_5, ⟨memo_0_15, ⟨memo_0_17, trivial⟩⟩⟩⟩
noncomputable def entMemo0_19 : List (List DV × DV) := [(memo_a0_2, memo_r0_2), (memo_a0_7, memo_r0_7), (memo_a0_18, memo_r0_18), (memo_a0_20, memo_r0_20)]
theorem entMemo0_19_ok : AllE 19 entMemo0_19 := ⟨memo_0_2, ⟨memo_0_7, ⟨memo_0_18, ⟨memo_0_20, trivial⟩⟩⟩⟩
noncomputable def entMemo0_72 : List (List DV × DV) := [(memo_a0_3, memo_r0_3), (memo_a0_12, memo_r0_12), (memo_a0_25, memo_r0_25), (memo_a0_26, memo_r0_26)]
theorem entMemo0_72_ok : AllE 72 entMemo0_72 := ⟨memo_0_3, ⟨memo_0_12, ⟨memo_0_25, ⟨memo_0_26, trivial⟩⟩⟩⟩
noncomputable def entMemo0_11 : List (List DV × DV) := [(memo_a0_6, memo_r0_6), (memo_a0_8, memo_r0_8), (memo_a0_19, memo_r0_19), (memo_a0_21, memo_r0_21), (memo_a0_29, memo_r0_29), (memo_a0_30, memo_r0_30)]
theorem entMemo0_11_ok : AllE 11 entMemo0_11 := ⟨memo_0_6, ⟨memo_0_8, ⟨memo_0_19, ⟨memo_0_21, ⟨memo_0_29, ⟨memo_0_30, trivial⟩⟩⟩⟩⟩⟩
noncomputable def entMemo0_21 : List (List DV × DV) := [(memo_a0_9, memo_r0_9), (memo_a0_10, memo_r0_10), (memo_a0_22, memo_r0_22), (memo_a0_23, memo_r0_23)]
theorem entMemo0_21_ok : AllE 21 entMemo0_21 := ⟨memo_0_9, ⟨memo_0_10, ⟨memo_0_22, ⟨memo_0_23, trivial⟩⟩⟩⟩
noncomputable def entMemo0_87 : List (List DV × DV) := [(memo_a0_11, memo_r0_11), (memo_a0_24, memo_r0_24)]
theorem entMemo0_87_ok : AllE 87 entMemo0_87 := ⟨memo_0_11, ⟨memo_0_24, trivial⟩⟩
noncomputable def entMemo0_47 : List (List DV × DV) := [(memo_a0_13, memo_r0_13), (memo_a0_27, memo_r0_27), (memo_a0_28, memo_r0_28)]
theorem entMemo0_47_ok : AllE 47 entMemo0_47 := ⟨memo_0_13, ⟨memo_0_27, ⟨memo_0_28, trivial⟩⟩⟩
noncomputable def tabMemo0 : Tr (List (List DV × DV)) := (.node (.node (.node (.node (.node .nil none (.node .nil (some entMemo0_47) .nil)) none (.node .nil none (.node (.node .nil (some entMemo0_87) .nil) none .nil))) none (.node (.node .nil (some entMemo0_19) .nil) (some entMemo0_11) .nil)) none (.node .nil none (.node (.node .nil (some entMemo0_21) .nil) none .nil))) none (.node (.node (.node .nil none (.node (.node (.node .nil (some entMemo0_72) .nil) none .nil) none .nil)) none (.node .nil none (.node (.node (.node .nil (some entMemo0_76) .nil) none .nil) none .nil))) none (.node .nil none (.node .nil none (.node .nil (some entMemo0_30) .nil)))))
theorem tabMemo0_ok : Tr.All AllE tabMemo0 := ⟨⟨⟨⟨⟨trivial, trivial, ⟨trivial, entMemo0_47_ok, trivial⟩⟩, trivial, ⟨trivial, trivial, ⟨⟨trivial, entMemo0_87_ok, trivial⟩, trivial, trivial⟩⟩⟩, trivial, ⟨⟨trivial, entMemo0_19_ok, trivial⟩, entMemo0_11_ok, trivial⟩⟩, trivial, ⟨trivial, trivial, ⟨⟨trivial, entMemo0_21_ok, trivial⟩, trivial, trivial⟩⟩⟩, trivial, ⟨⟨⟨trivial, trivial, ⟨⟨⟨trivial, entMemo0_72_ok, trivial⟩, trivial, trivial⟩, trivial, trivial⟩⟩, trivial, ⟨trivial, trivial, ⟨⟨⟨trivial, entMemo0_76_ok, trivial⟩, trivial, trivial⟩, trivial, trivial⟩⟩⟩, trivial, ⟨trivial, trivial, ⟨trivial, trivial, ⟨trivial, entMemo0_30_ok, trivial⟩⟩⟩⟩⟩
noncomputable def orcMemo0 : CallX := orcM tabMemo0
theorem orcMemo0_ok : CallOK Pr orcMemo0 := orcM_ok fun k l h e he => AllE.mem l (Tr.All.get _ _ tabMemo0_ok k l h) e he
end Go.Xm

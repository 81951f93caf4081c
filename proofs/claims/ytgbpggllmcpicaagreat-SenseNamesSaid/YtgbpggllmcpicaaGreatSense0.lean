/- WHAT IS KNOWN OF CALLS OF DATA, level 0, by program (genmemo.py). -/
import Derived.Test.YtgbpggllmcpicaaGreatKnow
import Derived.KernelRfl
namespace Go.Xm
open Go Go.Cr Go.Proofs
def sense_a0_0 : List DV := [.val (.int .i64 (.ofNat 4)), .val (.int .i64 (.ofNat 5))]
def sense_r0_0 : DV := .agg [.val (.bool false), .slice 1 1 [.val (.int .u32 (.ofNat 4))], .slice 1 1 [.val (.int .u32 (.ofNat 5))]]
theorem sense_0_0 : PureD Pr 35 sense_a0_0 sense_r0_0 := PureD.of_run (orc := orcNone) (m := 2000) mixed orcNone_ok (by kernel_rfl)
def sense_a0_1 : List DV := [.val (.int .i64 (.ofNat 1)), .val (.int .i64 (.ofNat 5))]
def sense_r0_1 : DV := .agg [.val (.bool false), .slice 1 1 [.val (.int .u32 (.ofNat 1))], .slice 1 1 [.val (.int .u32 (.ofNat 5))]]
theorem sense_0_1 : PureD Pr 35 sense_a0_1 sense_r0_1 := PureD.of_run (orc := orcNone) (m := 2000) mixed orcNone_ok (by kernel_rfl)
def sense_a0_2 : List DV := [.val (.int .i64 (.ofNat 9)), .val (.int .i64 (.ofNat 10))]
def sense_r0_2 : DV := .agg [.val (.bool false), .slice 1 1 [.val (.int .u32 (.ofNat 9))], .slice 1 1 [.val (.int .u32 (.ofNat 10))]]
theorem sense_0_2 : PureD Pr 35 sense_a0_2 sense_r0_2 := PureD.of_run (orc := orcNone) (m := 2000) mixed orcNone_ok (by kernel_rfl)
def sense_a0_3 : List DV := [.val (.int .i64 (.ofNat 1)), .val (.int .i64 (.ofNat 10))]
def sense_r0_3 : DV := .agg [.val (.bool false), .slice 1 1 [.val (.int .u32 (.ofNat 1))], .slice 1 1 [.val (.int .u32 (.ofNat 10))]]
theorem sense_0_3 : PureD Pr 35 sense_a0_3 sense_r0_3 := PureD.of_run (orc := orcNone) (m := 2000) mixed orcNone_ok (by kernel_rfl)
def sense_a0_4 : List DV := [.agg [.val (.bool false), .slice 1 1 [.val (.int .u32 (.ofNat 4))], .slice 1 1 [.val (.int .u32 (.ofNat 5))]]]
def sense_r0_4 : DV := .val (.int .i64 (.ofNat 1))
theorem sense_0_4 : PureD Pr 43 sense_a0_4 sense_r0_4 := PureD.of_run (orc := orcNone) (m := 2000) mixed orcNone_ok (by kernel_rfl)
def sense_a0_5 : List DV := [.agg [.val (.bool false), .slice 1 1 [.val (.int .u32 (.ofNat 1))]], .agg [.val (.bool false), .slice 1 1 [.val (.int .u32 (.ofNat 1))]]]
def sense_r0_5 : DV := .tup [.agg [.val (.bool false), .slice 1 1 [.val (.int .u32 (.ofNat 1))], .slice 1 1 [.val (.int .u32 (.ofNat 1))]], .val (.int .i64 (.ofNat 0))]
theorem sense_0_5 : PureD Pr 38 sense_a0_5 sense_r0_5 := PureD.of_run (orc := orcNone) (m := 2000) mixed orcNone_ok (by kernel_rfl)
def sense_a0_6 : List DV := [.val (.int .i64 (.ofNat 1)), .val (.int .i64 (.ofNat 1))]
def sense_r0_6 : DV := .tup [.agg [.val (.bool false), .slice 1 1 [.val (.int .u32 (.ofNat 1))], .slice 1 1 [.val (.int .u32 (.ofNat 1))]], .val (.int .i64 (.ofNat 0))]
theorem sense_0_6 : PureD Pr 15 sense_a0_6 sense_r0_6 := PureD.of_run (orc := orcNone) (m := 2000) mixed orcNone_ok (by kernel_rfl)
def sense_a0_7 : List DV := [.agg [.val (.bool false), .slice 1 1 [.val (.int .u32 (.ofNat 4))], .slice 1 1 [.val (.int .u32 (.ofNat 5))]], .agg [.val (.bool false), .slice 1 1 [.val (.int .u32 (.ofNat 1))], .slice 1 1 [.val (.int .u32 (.ofNat 1))]]]
def sense_r0_7 : DV := .val (.int .i64 (.negSucc 0))
theorem sense_0_7 : PureD Pr 10 sense_a0_7 sense_r0_7 := PureD.of_run (orc := orcNone) (m := 2000) mixed orcNone_ok (by kernel_rfl)
def sense_a0_8 : List DV := [.agg [.val (.bool false), .slice 1 1 [.val (.int .u32 (.ofNat 1))], .slice 1 1 [.val (.int .u32 (.ofNat 5))]]]
def sense_r0_8 : DV := .val (.int .i64 (.ofNat 1))
theorem sense_0_8 : PureD Pr 43 sense_a0_8 sense_r0_8 := PureD.of_run (orc := orcNone) (m := 2000) mixed orcNone_ok (by kernel_rfl)
def sense_a0_9 : List DV := [.agg [.val (.bool false), .slice 1 1 [.val (.int .u32 (.ofNat 1))], .slice 1 1 [.val (.int .u32 (.ofNat 5))]], .agg [.val (.bool false), .slice 1 1 [.val (.int .u32 (.ofNat 1))], .slice 1 1 [.val (.int .u32 (.ofNat 1))]]]
def sense_r0_9 : DV := .val (.int .i64 (.negSucc 0))
theorem sense_0_9 : PureD Pr 10 sense_a0_9 sense_r0_9 := PureD.of_run (orc := orcNone) (m := 2000) mixed orcNone_ok (by kernel_rfl)
def sense_a0_10 : List DV := [.agg [.val (.bool false), .slice 1 1 [.val (.int .u32 (.ofNat 9))], .slice 1 1 [.val (.int .u32 (.ofNat 10))]]]
def sense_r0_10 : DV := .val (.int .i64 (.ofNat 1))
theorem sense_0_10 : PureD Pr 43 sense_a0_10 sense_r0_10 := PureD.of_run (orc := orcNone) (m := 2000) mixed orcNone_ok (by kernel_rfl)
def sense_a0_11 : List DV := [.agg [.val (.bool false), .slice 1 1 [.val (.int .u32 (.ofNat 9))], .slice 1 1 [.val (.int .u32 (.ofNat 10))]], .agg [.val (.bool false), .slice 1 1 [.val (.int .u32 (.ofNat 1))], .slice 1 1 [.val (.int .u32 (.ofNat 1))]]]
def sense_r0_11 : DV := .val (.int .i64 (.negSucc 0))
theorem sense_0_11 : PureD Pr 10 sense_a0_11 sense_r0_11 := PureD.of_run (orc := orcNone) (m := 2000) mixed orcNone_ok (by kernel_rfl)
def sense_a0_12 : List DV := [.agg [.val (.bool false), .slice 1 1 [.val (.int .u32 (.ofNat 1))], .slice 1 1 [.val (.int .u32 (.ofNat 10))]]]
def sense_r0_12 : DV := .val (.int .i64 (.ofNat 1))
theorem sense_0_12 : PureD Pr 43 sense_a0_12 sense_r0_12 := PureD.of_run (orc := orcNone) (m := 2000) mixed orcNone_ok (by kernel_rfl)
def sense_a0_13 : List DV := [.agg [.val (.bool false), .slice 1 1 [.val (.int .u32 (.ofNat 1))], .slice 1 1 [.val (.int .u32 (.ofNat 10))]], .agg [.val (.bool false), .slice 1 1 [.val (.int .u32 (.ofNat 1))], .slice 1 1 [.val (.int .u32 (.ofNat 1))]]]
def sense_r0_13 : DV := .val (.int .i64 (.negSucc 0))
theorem sense_0_13 : PureD Pr 10 sense_a0_13 sense_r0_13 := PureD.of_run (orc := orcNone) (m := 2000) mixed orcNone_ok (by kernel_rfl)
def sense_a0_14 : List DV := [.agg [.val (.bool false), .val (.slice none 0 0), .slice 1 1 [.val (.int .u32 (.ofNat 1))]], .agg [.val (.bool false), .slice 1 1 [.val (.int .u32 (.ofNat 4))], .slice 1 1 [.val (.int .u32 (.ofNat 5))]]]
def sense_r0_14 : DV := .agg [.val (.bool false), .slice 1 1 [.val (.int .u32 (.ofNat 4))], .slice 1 1 [.val (.int .u32 (.ofNat 5))]]
theorem sense_0_14 : PureD Pr 41 sense_a0_14 sense_r0_14 := PureD.of_run (orc := orcNone) (m := 2000) mixed orcNone_ok (by kernel_rfl)
def sense_a0_15 : List DV := [.agg [.val (.bool false), .slice 1 1 [.val (.int .u32 (.ofNat 4))], .slice 1 1 [.val (.int .u32 (.ofNat 5))]], .agg [.val (.bool false), .slice 1 1 [.val (.int .u32 (.ofNat 1))], .slice 1 1 [.val (.int .u32 (.ofNat 5))]]]
def sense_r0_15 : DV := .agg [.val (.bool false), .slice 1 1 [.val (.int .u32 (.ofNat 1))], .slice 1 1 [.val (.int .u32 (.ofNat 1))]]
theorem sense_0_15 : PureD Pr 41 sense_a0_15 sense_r0_15 := PureD.of_run (orc := orcNone) (m := 2000) mixed orcNone_ok (by kernel_rfl)
def sense_a0_16 : List DV := [.slice 3 2 [.val (.bool false), .slice 1 1 [.val (.int .u32 (.ofNat 4))], .slice 1 1 [.val (.int .u32 (.ofNat 5))], .val (.bool false), .slice 1 1 [.val (.int .u32 (.ofNat 1))], .slice 1 1 [.val (.int .u32 (.ofNat 5))]]]
def sense_r0_16 : DV := .agg [.val (.bool false), .slice 1 1 [.val (.int .u32 (.ofNat 1))], .slice 1 1 [.val (.int .u32 (.ofNat 1))]]
theorem sense_0_16 : PureD Pr 87 sense_a0_16 sense_r0_16 := PureD.of_run (orc := orcNone) (m := 2000) mixed orcNone_ok (by kernel_rfl)
def sense_a0_17 : List DV := [.agg [.val (.bool false), .slice 1 1 [.val (.int .u32 (.ofNat 1))], .slice 1 1 [.val (.int .u32 (.ofNat 1))]], .agg [.val (.bool false), .slice 1 1 [.val (.int .u32 (.ofNat 1))], .slice 1 1 [.val (.int .u32 (.ofNat 1))]]]
def sense_r0_17 : DV := .val (.int .i64 (.ofNat 0))
theorem sense_0_17 : PureD Pr 10 sense_a0_17 sense_r0_17 := PureD.of_run (orc := orcNone) (m := 2000) mixed orcNone_ok (by kernel_rfl)
def sense_a0_18 : List DV := [.agg [.val (.bool false), .val (.slice none 0 0), .slice 1 1 [.val (.int .u32 (.ofNat 1))]], .agg [.val (.bool false), .slice 1 1 [.val (.int .u32 (.ofNat 9))], .slice 1 1 [.val (.int .u32 (.ofNat 10))]]]
def sense_r0_18 : DV := .agg [.val (.bool false), .slice 1 1 [.val (.int .u32 (.ofNat 9))], .slice 1 1 [.val (.int .u32 (.ofNat 10))]]
theorem sense_0_18 : PureD Pr 41 sense_a0_18 sense_r0_18 := PureD.of_run (orc := orcNone) (m := 2000) mixed orcNone_ok (by kernel_rfl)
def sense_a0_19 : List DV := [.agg [.val (.bool false), .slice 1 1 [.val (.int .u32 (.ofNat 9))], .slice 1 1 [.val (.int .u32 (.ofNat 10))]], .agg [.val (.bool false), .slice 1 1 [.val (.int .u32 (.ofNat 1))], .slice 1 1 [.val (.int .u32 (.ofNat 10))]]]
def sense_r0_19 : DV := .agg [.val (.bool false), .slice 1 1 [.val (.int .u32 (.ofNat 1))], .slice 1 1 [.val (.int .u32 (.ofNat 1))]]
theorem sense_0_19 : PureD Pr 41 sense_a0_19 sense_r0_19 := PureD.of_run (orc := orcNone) (m := 2000) mixed orcNone_ok (by kernel_rfl)
def sense_a0_20 : List DV := [.slice 3 2 [.val (.bool false), .slice 1 1 [.val (.int .u32 (.ofNat 9))], .slice 1 1 [.val (.int .u32 (.ofNat 10))], .val (.bool false), .slice 1 1 [.val (.int .u32 (.ofNat 1))], .slice 1 1 [.val (.int .u32 (.ofNat 10))]]]
def sense_r0_20 : DV := .agg [.val (.bool false), .slice 1 1 [.val (.int .u32 (.ofNat 1))], .slice 1 1 [.val (.int .u32 (.ofNat 1))]]
theorem sense_0_20 : PureD Pr 87 sense_a0_20 sense_r0_20 := PureD.of_run (orc := orcNone) (m := 2000) mixed orcNone_ok (by kernel_rfl)
def sense_a0_21 : List DV := [.agg [.val (.bool false), .val (.slice none 0 0), .slice 1 1 [.val (.int .u32 (.ofNat 1))]], .agg [.val (.bool false), .slice 1 1 [.val (.int .u32 (.ofNat 1))], .slice 1 1 [.val (.int .u32 (.ofNat 10))]]]
def sense_r0_21 : DV := .agg [.val (.bool false), .slice 1 1 [.val (.int .u32 (.ofNat 1))], .slice 1 1 [.val (.int .u32 (.ofNat 10))]]
theorem sense_0_21 : PureD Pr 41 sense_a0_21 sense_r0_21 := PureD.of_run (orc := orcNone) (m := 2000) mixed orcNone_ok (by kernel_rfl)
def sense_a0_22 : List DV := [.agg [.val (.bool false), .slice 1 1 [.val (.int .u32 (.ofNat 1))], .slice 1 1 [.val (.int .u32 (.ofNat 10))]], .agg [.val (.bool false), .slice 1 1 [.val (.int .u32 (.ofNat 9))], .slice 1 1 [.val (.int .u32 (.ofNat 10))]]]
def sense_r0_22 : DV := .agg [.val (.bool false), .slice 1 1 [.val (.int .u32 (.ofNat 1))], .slice 1 1 [.val (.int .u32 (.ofNat 1))]]
theorem sense_0_22 : PureD Pr 41 sense_a0_22 sense_r0_22 := PureD.of_run (orc := orcNone) (m := 2000) mixed orcNone_ok (by kernel_rfl)
def sense_a0_23 : List DV := [.slice 3 2 [.val (.bool false), .slice 1 1 [.val (.int .u32 (.ofNat 1))], .slice 1 1 [.val (.int .u32 (.ofNat 10))], .val (.bool false), .slice 1 1 [.val (.int .u32 (.ofNat 9))], .slice 1 1 [.val (.int .u32 (.ofNat 10))]]]
def sense_r0_23 : DV := .agg [.val (.bool false), .slice 1 1 [.val (.int .u32 (.ofNat 1))], .slice 1 1 [.val (.int .u32 (.ofNat 1))]]
theorem sense_0_23 : PureD Pr 87 sense_a0_23 sense_r0_23 := PureD.of_run (orc := orcNone) (m := 2000) mixed orcNone_ok (by kernel_rfl)
def sense_a0_24 : List DV := [.agg [.val (.bool false), .slice 1 1 [.val (.int .u32 (.ofNat 4))]], .agg [.val (.bool false), .slice 1 1 [.val (.int .u32 (.ofNat 5))]]]
def sense_r0_24 : DV := .tup [.agg [.val (.bool false), .slice 1 1 [.val (.int .u32 (.ofNat 4))], .slice 1 1 [.val (.int .u32 (.ofNat 5))]], .val (.int .i64 (.ofNat 0))]
theorem sense_0_24 : PureD Pr 38 sense_a0_24 sense_r0_24 := PureD.of_run (orc := orcNone) (m := 2000) mixed orcNone_ok (by kernel_rfl)
def sense_a0_25 : List DV := [.agg [.val (.bool false), .slice 1 1 [.val (.int .u32 (.ofNat 4))], .slice 1 1 [.val (.int .u32 (.ofNat 5))]]]
def sense_r0_25 : DV := .tup [.agg [.val (.bool false), .slice 1 1 [.val (.int .u32 (.ofNat 4))], .slice 1 1 [.val (.int .u32 (.ofNat 5))]], .val (.int .i64 (.ofNat 0))]
theorem sense_0_25 : PureD Pr 26 sense_a0_25 sense_r0_25 := PureD.of_run (orc := orcNone) (m := 2000) mixed orcNone_ok (by kernel_rfl)
def sense_a0_26 : List DV := [.agg [.val (.bool false), .slice 1 1 [.val (.int .u32 (.ofNat 1))]], .agg [.val (.bool false), .slice 1 1 [.val (.int .u32 (.ofNat 5))]]]
def sense_r0_26 : DV := .tup [.agg [.val (.bool false), .slice 1 1 [.val (.int .u32 (.ofNat 1))], .slice 1 1 [.val (.int .u32 (.ofNat 5))]], .val (.int .i64 (.ofNat 0))]
theorem sense_0_26 : PureD Pr 38 sense_a0_26 sense_r0_26 := PureD.of_run (orc := orcNone) (m := 2000) mixed orcNone_ok (by kernel_rfl)
def sense_a0_27 : List DV := [.agg [.val (.bool false), .slice 1 1 [.val (.int .u32 (.ofNat 1))], .slice 1 1 [.val (.int .u32 (.ofNat 5))]]]
def sense_r0_27 : DV := .tup [.agg [.val (.bool false), .slice 1 1 [.val (.int .u32 (.ofNat 1))], .slice 1 1 [.val (.int .u32 (.ofNat 5))]], .val (.int .i64 (.ofNat 0))]
theorem sense_0_27 : PureD Pr 26 sense_a0_27 sense_r0_27 := PureD.of_run (orc := orcNone) (m := 2000) mixed orcNone_ok (by kernel_rfl)
def sense_a0_28 : List DV := [.agg [.val (.bool false), .slice 1 1 [.val (.int .u32 (.ofNat 9))]], .agg [.val (.bool false), .slice 1 1 [.val (.int .u32 (.ofNat 10))]]]
def sense_r0_28 : DV := .tup [.agg [.val (.bool false), .slice 1 1 [.val (.int .u32 (.ofNat 9))], .slice 1 1 [.val (.int .u32 (.ofNat 10))]], .val (.int .i64 (.ofNat 0))]
theorem sense_0_28 : PureD Pr 38 sense_a0_28 sense_r0_28 := PureD.of_run (orc := orcNone) (m := 2000) mixed orcNone_ok (by kernel_rfl)
def sense_a0_29 : List DV := [.agg [.val (.bool false), .slice 1 1 [.val (.int .u32 (.ofNat 9))], .slice 1 1 [.val (.int .u32 (.ofNat 10))]]]
def sense_r0_29 : DV := .tup [.agg [.val (.bool false), .slice 1 1 [.val (.int .u32 (.ofNat 9))], .slice 1 1 [.val (.int .u32 (.ofNat 10))]], .val (.int .i64 (.ofNat 0))]
theorem sense_0_29 : PureD Pr 26 sense_a0_29 sense_r0_29 := PureD.of_run (orc := orcNone) (m := 2000) mixed orcNone_ok (by kernel_rfl)
def sense_a0_30 : List DV := [.agg [.val (.bool false), .slice 1 1 [.val (.int .u32 (.ofNat 1))]], .agg [.val (.bool false), .slice 1 1 [.val (.int .u32 (.ofNat 10))]]]
def sense_r0_30 : DV := .tup [.agg [.val (.bool false), .slice 1 1 [.val (.int .u32 (.ofNat 1))], .slice 1 1 [.val (.int .u32 (.ofNat 10))]], .val (.int .i64 (.ofNat 0))]
theorem sense_0_30 : PureD Pr 38 sense_a0_30 sense_r0_30 := PureD.of_run (orc := orcNone) (m := 2000) mixed orcNone_ok (by kernel_rfl)
def sense_a0_31 : List DV := [.agg [.val (.bool false), .slice 1 1 [.val (.int .u32 (.ofNat 1))], .slice 1 1 [.val (.int .u32 (.ofNat 10))]]]
def sense_r0_31 : DV := .tup [.agg [.val (.bool false), .slice 1 1 [.val (.int .u32 (.ofNat 1))], .slice 1 1 [.val (.int .u32 (.ofNat 10))]], .val (.int .i64 (.ofNat 0))]
theorem sense_0_31 : PureD Pr 26 sense_a0_31 sense_r0_31 := PureD.of_run (orc := orcNone) (m := 2000) mixed orcNone_ok (by kernel_rfl)
def sense_a0_32 : List DV := [.agg [.val (.bool false), .slice 1 1 [.val (.int .u32 (.ofNat 4))], .slice 1 1 [.val (.int .u32 (.ofNat 5))]], .agg [.val (.bool false), .val (.slice none 0 0), .val (.slice none 0 0)]]
def sense_r0_32 : DV := .agg [.val (.bool false), .slice 1 1 [.val (.int .u32 (.ofNat 4))], .slice 1 1 [.val (.int .u32 (.ofNat 5))]]
theorem sense_0_32 : PureD Pr 41 sense_a0_32 sense_r0_32 := PureD.of_run (orc := orcNone) (m := 2000) mixed orcNone_ok (by kernel_rfl)
def sense_a0_33 : List DV := [.val (.slice none 0 0)]
def sense_r0_33 : DV := .agg [.val (.bool false), .val (.slice none 0 0), .slice 1 1 [.val (.int .u32 (.ofNat 1))]]
theorem sense_0_33 : PureD Pr 87 sense_a0_33 sense_r0_33 := PureD.of_run (orc := orcNone) (m := 2000) mixed orcNone_ok (by kernel_rfl)
def sense_a0_34 : List DV := [.agg [.val (.bool false), .slice 1 1 [.val (.int .u32 (.ofNat 1))], .slice 1 1 [.val (.int .u32 (.ofNat 5))]], .agg [.val (.bool false), .val (.slice none 0 0), .val (.slice none 0 0)]]
def sense_r0_34 : DV := .agg [.val (.bool false), .slice 1 1 [.val (.int .u32 (.ofNat 1))], .slice 1 1 [.val (.int .u32 (.ofNat 5))]]
theorem sense_0_34 : PureD Pr 41 sense_a0_34 sense_r0_34 := PureD.of_run (orc := orcNone) (m := 2000) mixed orcNone_ok (by kernel_rfl)
def sense_a0_35 : List DV := [.agg [.val (.bool false), .slice 1 1 [.val (.int .u32 (.ofNat 9))], .slice 1 1 [.val (.int .u32 (.ofNat 10))]], .agg [.val (.bool false), .val (.slice none 0 0), .val (.slice none 0 0)]]
def sense_r0_35 : DV := .agg [.val (.bool false), .slice 1 1 [.val (.int .u32 (.ofNat 9))], .slice 1 1 [.val (.int .u32 (.ofNat 10))]]
theorem sense_0_35 : PureD Pr 41 sense_a0_35 sense_r0_35 := PureD.of_run (orc := orcNone) (m := 2000) mixed orcNone_ok (by kernel_rfl)
def sense_a0_36 : List DV := [.agg [.val (.bool false), .slice 1 1 [.val (.int .u32 (.ofNat 1))], .slice 1 1 [.val (.int .u32 (.ofNat 10))]], .agg [.val (.bool false), .val (.slice none 0 0), .val (.slice none 0 0)]]
def sense_r0_36 : DV := .agg [.val (.bool false), .slice 1 1 [.val (.int .u32 (.ofNat 1))], .slice 1 1 [.val (.int .u32 (.ofNat 10))]]
theorem sense_0_36 : PureD Pr 41 sense_a0_36 sense_r0_36 := PureD.of_run (orc := orcNone) (m := 2000) mixed orcNone_ok (by kernel_rfl)
def sense_a0_37 : List DV := [.agg [.val (.bool false), .slice 1 1 [.val (.int .u32 (.ofNat 1))], .slice 1 1 [.val (.int .u32 (.ofNat 1))]], .agg [.val (.bool false), .slice 1 1 [.val (.int .u32 (.ofNat 9))], .slice 1 1 [.val (.int .u32 (.ofNat 10))]]]
def sense_r0_37 : DV := .agg [.val (.bool false), .slice 1 1 [.val (.int .u32 (.ofNat 1))], .slice 1 1 [.val (.int .u32 (.ofNat 10))]]
theorem sense_0_37 : PureD Pr 96 sense_a0_37 sense_r0_37 := PureD.of_run (orc := orcNone) (m := 2000) mixed orcNone_ok (by kernel_rfl)
def sense_a0_38 : List DV := [.agg [.val (.bool false), .slice 1 1 [.val (.int .u32 (.ofNat 1))], .slice 1 1 [.val (.int .u32 (.ofNat 10))]], .agg [.val (.bool false), .slice 1 1 [.val (.int .u32 (.ofNat 1))], .slice 1 1 [.val (.int .u32 (.ofNat 10))]]]
def sense_r0_38 : DV := .tup [.agg [.val (.bool false), .slice 1 1 [.val (.int .u32 (.ofNat 1))], .slice 1 1 [.val (.int .u32 (.ofNat 1))]], .val (.int .i64 (.ofNat 0))]
theorem sense_0_38 : PureD Pr 40 sense_a0_38 sense_r0_38 := PureD.of_run (orc := orcNone) (m := 2000) mixed orcNone_ok (by kernel_rfl)
def sense_a0_39 : List DV := [.agg [.val (.bool false), .slice 1 1 [.val (.int .u32 (.ofNat 1))], .slice 1 1 [.val (.int .u32 (.ofNat 1))]]]
def sense_r0_39 : DV := .agg [.val (.bool true), .slice 1 1 [.val (.int .u32 (.ofNat 1))], .slice 1 1 [.val (.int .u32 (.ofNat 1))]]
theorem sense_0_39 : PureD Pr 97 sense_a0_39 sense_r0_39 := PureD.of_run (orc := orcNone) (m := 2000) mixed orcNone_ok (by kernel_rfl)
def sense_a0_40 : List DV := [.agg [.val (.bool false), .slice 1 1 [.val (.int .u32 (.ofNat 1))], .slice 1 1 [.val (.int .u32 (.ofNat 5))]], .agg [.val (.bool false), .val (.slice none 0 0), .slice 1 1 [.val (.int .u32 (.ofNat 1))]]]
def sense_r0_40 : DV := .agg [.val (.bool false), .val (.slice none 0 0), .slice 1 1 [.val (.int .u32 (.ofNat 1))]]
theorem sense_0_40 : PureD Pr 42 sense_a0_40 sense_r0_40 := PureD.of_run (orc := orcNone) (m := 2000) mixed orcNone_ok (by kernel_rfl)
def sense_a0_41 : List DV := [.agg [.val (.bool false), .slice 1 1 [.val (.int .u32 (.ofNat 1))], .slice 1 1 [.val (.int .u32 (.ofNat 5))]], .agg [.val (.bool false), .slice 1 1 [.val (.int .u32 (.ofNat 1))], .slice 1 1 [.val (.int .u32 (.ofNat 1))]]]
def sense_r0_41 : DV := .agg [.val (.bool false), .slice 1 1 [.val (.int .u32 (.ofNat 1))], .slice 1 1 [.val (.int .u32 (.ofNat 5))]]
theorem sense_0_41 : PureD Pr 42 sense_a0_41 sense_r0_41 := PureD.of_run (orc := orcNone) (m := 2000) mixed orcNone_ok (by kernel_rfl)
def sense_a0_42 : List DV := [.agg [.val (.bool false), .val (.slice none 0 0), .slice 1 1 [.val (.int .u32 (.ofNat 1))]], .agg [.val (.bool false), .val (.slice none 0 0), .slice 1 1 [.val (.int .u32 (.ofNat 1))]]]
def sense_r0_42 : DV := .agg [.val (.bool false), .val (.slice none 0 0), .slice 1 1 [.val (.int .u32 (.ofNat 1))]]
theorem sense_0_42 : PureD Pr 42 sense_a0_42 sense_r0_42 := PureD.of_run (orc := orcNone) (m := 2000) mixed orcNone_ok (by kernel_rfl)
def sense_a0_43 : List DV := [.agg [.val (.bool false), .slice 1 1 [.val (.int .u32 (.ofNat 1))], .slice 1 1 [.val (.int .u32 (.ofNat 5))]], .agg [.val (.bool false), .val (.slice none 0 0), .slice 1 1 [.val (.int .u32 (.ofNat 1))]]]
def sense_r0_43 : DV := .agg [.val (.bool false), .slice 1 1 [.val (.int .u32 (.ofNat 1))], .slice 1 1 [.val (.int .u32 (.ofNat 5))]]
theorem sense_0_43 : PureD Pr 41 sense_a0_43 sense_r0_43 := PureD.of_run (orc := orcNone) (m := 2000) mixed orcNone_ok (by kernel_rfl)
def sense_a0_44 : List DV := [.agg [.val (.bool false), .slice 1 1 [.val (.int .u32 (.ofNat 4))], .slice 1 1 [.val (.int .u32 (.ofNat 5))]], .agg [.val (.bool false), .slice 1 1 [.val (.int .u32 (.ofNat 1))], .slice 1 1 [.val (.int .u32 (.ofNat 10))]]]
def sense_r0_44 : DV := .agg [.val (.bool false), .slice 1 1 [.val (.int .u32 (.ofNat 2))], .slice 1 1 [.val (.int .u32 (.ofNat 25))]]
theorem sense_0_44 : PureD Pr 42 sense_a0_44 sense_r0_44 := PureD.of_run (orc := orcNone) (m := 2000) mixed orcNone_ok (by kernel_rfl)
def sense_a0_45 : List DV := [.agg [.val (.bool false), .slice 1 1 [.val (.int .u32 (.ofNat 4))], .slice 1 1 [.val (.int .u32 (.ofNat 5))]], .agg [.val (.bool false), .val (.slice none 0 0), .slice 1 1 [.val (.int .u32 (.ofNat 1))]]]
def sense_r0_45 : DV := .agg [.val (.bool false), .val (.slice none 0 0), .slice 1 1 [.val (.int .u32 (.ofNat 1))]]
theorem sense_0_45 : PureD Pr 42 sense_a0_45 sense_r0_45 := PureD.of_run (orc := orcNone) (m := 2000) mixed orcNone_ok (by kernel_rfl)
def sense_a0_46 : List DV := [.agg [.val (.bool false), .val (.slice none 0 0), .slice 1 1 [.val (.int .u32 (.ofNat 1))]], .agg [.val (.bool false), .slice 1 1 [.val (.int .u32 (.ofNat 1))], .slice 1 1 [.val (.int .u32 (.ofNat 10))]]]
def sense_r0_46 : DV := .agg [.val (.bool false), .val (.slice none 0 0), .slice 1 1 [.val (.int .u32 (.ofNat 1))]]
theorem sense_0_46 : PureD Pr 42 sense_a0_46 sense_r0_46 := PureD.of_run (orc := orcNone) (m := 2000) mixed orcNone_ok (by kernel_rfl)
def sense_a0_47 : List DV := [.agg [.val (.bool false), .val (.slice none 0 0), .slice 1 1 [.val (.int .u32 (.ofNat 1))]], .agg [.val (.bool false), .val (.slice none 0 0), .slice 1 1 [.val (.int .u32 (.ofNat 1))]]]
def sense_r0_47 : DV := .agg [.val (.bool false), .val (.slice none 0 0), .slice 1 1 [.val (.int .u32 (.ofNat 1))]]
theorem sense_0_47 : PureD Pr 41 sense_a0_47 sense_r0_47 := PureD.of_run (orc := orcNone) (m := 2000) mixed orcNone_ok (by kernel_rfl)
def sense_a0_48 : List DV := [.agg [.val (.bool false), .val (.slice none 0 0)], .agg [.val (.bool false), .slice 1 1 [.val (.int .u32 (.ofNat 1))]]]
def sense_r0_48 : DV := .tup [.agg [.val (.bool false), .val (.slice none 0 0), .slice 1 1 [.val (.int .u32 (.ofNat 1))]], .val (.int .i64 (.ofNat 0))]
theorem sense_0_48 : PureD Pr 38 sense_a0_48 sense_r0_48 := PureD.of_run (orc := orcNone) (m := 2000) mixed orcNone_ok (by kernel_rfl)
def sense_a0_49 : List DV := [.val (.int .i64 (.ofNat 0)), .val (.int .i64 (.ofNat 1))]
def sense_r0_49 : DV := .tup [.agg [.val (.bool false), .val (.slice none 0 0), .slice 1 1 [.val (.int .u32 (.ofNat 1))]], .val (.int .i64 (.ofNat 0))]
theorem sense_0_49 : PureD Pr 15 sense_a0_49 sense_r0_49 := PureD.of_run (orc := orcNone) (m := 2000) mixed orcNone_ok (by kernel_rfl)
def sense_a0_50 : List DV := [.agg [.val (.bool false), .val (.slice none 0 0), .slice 1 1 [.val (.int .u32 (.ofNat 1))]], .agg [.val (.bool false), .slice 1 1 [.val (.int .u32 (.ofNat 2))], .slice 1 1 [.val (.int .u32 (.ofNat 25))]]]
def sense_r0_50 : DV := .agg [.val (.bool false), .slice 1 1 [.val (.int .u32 (.ofNat 2))], .slice 1 1 [.val (.int .u32 (.ofNat 25))]]
theorem sense_0_50 : PureD Pr 41 sense_a0_50 sense_r0_50 := PureD.of_run (orc := orcNone) (m := 2000) mixed orcNone_ok (by kernel_rfl)
def sense_a0_51 : List DV := [.agg [.val (.bool false), .slice 1 1 [.val (.int .u32 (.ofNat 2))], .slice 1 1 [.val (.int .u32 (.ofNat 25))]], .agg [.val (.bool false), .val (.slice none 0 0), .slice 1 1 [.val (.int .u32 (.ofNat 1))]]]
def sense_r0_51 : DV := .agg [.val (.bool false), .slice 1 1 [.val (.int .u32 (.ofNat 2))], .slice 1 1 [.val (.int .u32 (.ofNat 25))]]
theorem sense_0_51 : PureD Pr 41 sense_a0_51 sense_r0_51 := PureD.of_run (orc := orcNone) (m := 2000) mixed orcNone_ok (by kernel_rfl)
def sense_a0_52 : List DV := [.agg [.val (.bool false), .val (.slice none 0 0), .slice 1 1 [.val (.int .u32 (.ofNat 1))]], .agg [.val (.bool false), .slice 1 1 [.val (.int .u32 (.ofNat 1))], .slice 1 1 [.val (.int .u32 (.ofNat 5))]]]
def sense_r0_52 : DV := .agg [.val (.bool false), .slice 1 1 [.val (.int .u32 (.ofNat 1))], .slice 1 1 [.val (.int .u32 (.ofNat 5))]]
theorem sense_0_52 : PureD Pr 41 sense_a0_52 sense_r0_52 := PureD.of_run (orc := orcNone) (m := 2000) mixed orcNone_ok (by kernel_rfl)
def sense_a0_53 : List DV := [.agg [.val (.bool false), .slice 1 1 [.val (.int .u32 (.ofNat 1))]], .agg [.val (.bool false), .slice 1 1 [.val (.int .u32 (.ofNat 2))]]]
def sense_r0_53 : DV := .tup [.agg [.val (.bool false), .slice 1 1 [.val (.int .u32 (.ofNat 1))], .slice 1 1 [.val (.int .u32 (.ofNat 2))]], .val (.int .i64 (.ofNat 0))]
theorem sense_0_53 : PureD Pr 38 sense_a0_53 sense_r0_53 := PureD.of_run (orc := orcNone) (m := 2000) mixed orcNone_ok (by kernel_rfl)
def sense_a0_54 : List DV := [.val (.int .i64 (.ofNat 1)), .val (.int .i64 (.ofNat 2))]
def sense_r0_54 : DV := .tup [.agg [.val (.bool false), .slice 1 1 [.val (.int .u32 (.ofNat 1))], .slice 1 1 [.val (.int .u32 (.ofNat 2))]], .val (.int .i64 (.ofNat 0))]
theorem sense_0_54 : PureD Pr 15 sense_a0_54 sense_r0_54 := PureD.of_run (orc := orcNone) (m := 2000) mixed orcNone_ok (by kernel_rfl)
def sense_a0_55 : List DV := [.agg [.val (.bool false), .slice 1 1 [.val (.int .u32 (.ofNat 1))], .slice 1 1 [.val (.int .u32 (.ofNat 5))]], .agg [.val (.bool false), .slice 1 1 [.val (.int .u32 (.ofNat 1))], .slice 1 1 [.val (.int .u32 (.ofNat 2))]]]
def sense_r0_55 : DV := .agg [.val (.bool false), .slice 1 1 [.val (.int .u32 (.ofNat 1))], .slice 1 1 [.val (.int .u32 (.ofNat 10))]]
theorem sense_0_55 : PureD Pr 42 sense_a0_55 sense_r0_55 := PureD.of_run (orc := orcNone) (m := 2000) mixed orcNone_ok (by kernel_rfl)
def sense_a0_56 : List DV := [.agg [.val (.bool false), .slice 1 1 [.val (.int .u32 (.ofNat 1))], .slice 1 1 [.val (.int .u32 (.ofNat 10))]], .agg [.val (.bool false), .val (.slice none 0 0), .slice 1 1 [.val (.int .u32 (.ofNat 1))]]]
def sense_r0_56 : DV := .agg [.val (.bool false), .slice 1 1 [.val (.int .u32 (.ofNat 1))], .slice 1 1 [.val (.int .u32 (.ofNat 10))]]
theorem sense_0_56 : PureD Pr 41 sense_a0_56 sense_r0_56 := PureD.of_run (orc := orcNone) (m := 2000) mixed orcNone_ok (by kernel_rfl)
def sense_a0_57 : List DV := [.agg [.val (.bool false), .slice 1 1 [.val (.int .u32 (.ofNat 1))], .slice 1 1 [.val (.int .u32 (.ofNat 10))]], .agg [.val (.bool false), .slice 1 1 [.val (.int .u32 (.ofNat 2))], .slice 1 1 [.val (.int .u32 (.ofNat 25))]]]
def sense_r0_57 : DV := .agg [.val (.bool false), .slice 1 1 [.val (.int .u32 (.ofNat 9))], .slice 1 1 [.val (.int .u32 (.ofNat 50))]]
theorem sense_0_57 : PureD Pr 41 sense_a0_57 sense_r0_57 := PureD.of_run (orc := orcNone) (m := 2000) mixed orcNone_ok (by kernel_rfl)
def sense_a0_58 : List DV := [.agg [.val (.bool false), .slice 1 1 [.val (.int .u32 (.ofNat 9))], .slice 1 1 [.val (.int .u32 (.ofNat 50))]]]
def sense_r0_58 : DV := .val (.int .i64 (.ofNat 1))
theorem sense_0_58 : PureD Pr 43 sense_a0_58 sense_r0_58 := PureD.of_run (orc := orcNone) (m := 2000) mixed orcNone_ok (by kernel_rfl)
def sense_a0_59 : List DV := [.agg [.val (.bool false), .slice 1 1 [.val (.int .u32 (.ofNat 1))], .slice 1 1 [.val (.int .u32 (.ofNat 10))]], .agg [.val (.bool false), .slice 1 1 [.val (.int .u32 (.ofNat 9))], .slice 1 1 [.val (.int .u32 (.ofNat 50))]]]
def sense_r0_59 : DV := .tup [.agg [.val (.bool false), .slice 1 1 [.val (.int .u32 (.ofNat 5))], .slice 1 1 [.val (.int .u32 (.ofNat 9))]], .val (.int .i64 (.ofNat 0))]
theorem sense_0_59 : PureD Pr 40 sense_a0_59 sense_r0_59 := PureD.of_run (orc := orcNone) (m := 2000) mixed orcNone_ok (by kernel_rfl)
def sense_a0_60 : List DV := [.agg [.val (.bool false), .slice 1 1 [.val (.int .u32 (.ofNat 1))], .slice 1 1 [.val (.int .u32 (.ofNat 2))]]]
def sense_r0_60 : DV := .val (.int .i64 (.ofNat 1))
theorem sense_0_60 : PureD Pr 43 sense_a0_60 sense_r0_60 := PureD.of_run (orc := orcNone) (m := 2000) mixed orcNone_ok (by kernel_rfl)
def sense_a0_61 : List DV := [.agg [.val (.bool false), .slice 1 1 [.val (.int .u32 (.ofNat 1))], .slice 1 1 [.val (.int .u32 (.ofNat 2))]], .agg [.val (.bool false), .slice 1 1 [.val (.int .u32 (.ofNat 1))], .slice 1 1 [.val (.int .u32 (.ofNat 1))]]]
def sense_r0_61 : DV := .val (.int .i64 (.negSucc 0))
theorem sense_0_61 : PureD Pr 10 sense_a0_61 sense_r0_61 := PureD.of_run (orc := orcNone) (m := 2000) mixed orcNone_ok (by kernel_rfl)
def sense_a0_62 : List DV := [.agg [.val (.bool true), .slice 1 1 [.val (.int .u32 (.ofNat 1))], .slice 1 1 [.val (.int .u32 (.ofNat 1))]], .agg [.val (.bool false), .slice 1 1 [.val (.int .u32 (.ofNat 1))], .slice 1 1 [.val (.int .u32 (.ofNat 2))]]]
def sense_r0_62 : DV := .agg [.val (.bool true), .slice 1 1 [.val (.int .u32 (.ofNat 1))], .slice 1 1 [.val (.int .u32 (.ofNat 2))]]
theorem sense_0_62 : PureD Pr 42 sense_a0_62 sense_r0_62 := PureD.of_run (orc := orcNone) (m := 2000) mixed orcNone_ok (by kernel_rfl)
def sense_a0_63 : List DV := [.agg [.val (.bool false), .slice 1 1 [.val (.int .u32 (.ofNat 1))], .slice 1 1 [.val (.int .u32 (.ofNat 1))]], .agg [.val (.bool true), .slice 1 1 [.val (.int .u32 (.ofNat 1))], .slice 1 1 [.val (.int .u32 (.ofNat 2))]]]
def sense_r0_63 : DV := .agg [.val (.bool false), .slice 1 1 [.val (.int .u32 (.ofNat 1))], .slice 1 1 [.val (.int .u32 (.ofNat 2))]]
theorem sense_0_63 : PureD Pr 41 sense_a0_63 sense_r0_63 := PureD.of_run (orc := orcNone) (m := 2000) mixed orcNone_ok (by kernel_rfl)
def sense_a0_64 : List DV := [.agg [.val (.bool false), .slice 1 1 [.val (.int .u32 (.ofNat 1))], .slice 1 1 [.val (.int .u32 (.ofNat 1))]], .agg [.val (.bool false), .slice 1 1 [.val (.int .u32 (.ofNat 1))], .slice 1 1 [.val (.int .u32 (.ofNat 2))]]]
def sense_r0_64 : DV := .agg [.val (.bool false), .slice 1 1 [.val (.int .u32 (.ofNat 1))], .slice 1 1 [.val (.int .u32 (.ofNat 2))]]
theorem sense_0_64 : PureD Pr 42 sense_a0_64 sense_r0_64 := PureD.of_run (orc := orcNone) (m := 2000) mixed orcNone_ok (by kernel_rfl)
def sense_a0_65 : List DV := [.agg [.val (.bool false), .val (.slice none 0 0), .slice 1 1 [.val (.int .u32 (.ofNat 1))]], .agg [.val (.bool false), .slice 1 1 [.val (.int .u32 (.ofNat 1))], .slice 1 1 [.val (.int .u32 (.ofNat 2))]]]
def sense_r0_65 : DV := .agg [.val (.bool false), .slice 1 1 [.val (.int .u32 (.ofNat 1))], .slice 1 1 [.val (.int .u32 (.ofNat 2))]]
theorem sense_0_65 : PureD Pr 41 sense_a0_65 sense_r0_65 := PureD.of_run (orc := orcNone) (m := 2000) mixed orcNone_ok (by kernel_rfl)
def sense_a0_66 : List DV := [.agg [.val (.bool false), .slice 1 1 [.val (.int .u32 (.ofNat 1))], .slice 1 1 [.val (.int .u32 (.ofNat 5))]]]
def sense_r0_66 : DV := .val (.string ⟨#[49, 47, 53]⟩)
theorem sense_0_66 : PureD Pr 18 sense_a0_66 sense_r0_66 := PureD.of_run (orc := orcNone) (m := 2000) mixed orcNone_ok (by kernel_rfl)
def sense_a0_67 : List DV := [.agg [.val (.bool false), .slice 1 1 [.val (.int .u32 (.ofNat 2))], .slice 1 1 [.val (.int .u32 (.ofNat 25))]]]
def sense_r0_67 : DV := .val (.string ⟨#[50, 47, 50, 53]⟩)
theorem sense_0_67 : PureD Pr 18 sense_a0_67 sense_r0_67 := PureD.of_run (orc := orcNone) (m := 2000) mixed orcNone_ok (by kernel_rfl)
def sense_a0_68 : List DV := [.agg [.val (.bool false), .slice 1 1 [.val (.int .u32 (.ofNat 5))], .slice 1 1 [.val (.int .u32 (.ofNat 9))]]]
def sense_r0_68 : DV := .val (.string ⟨#[53, 47, 57]⟩)
theorem sense_0_68 : PureD Pr 18 sense_a0_68 sense_r0_68 := PureD.of_run (orc := orcNone) (m := 2000) mixed orcNone_ok (by kernel_rfl)
def sense_a0_69 : List DV := [.agg [.val (.bool false), .slice 1 1 [.val (.int .u32 (.ofNat 1))], .slice 1 1 [.val (.int .u32 (.ofNat 2))]]]
def sense_r0_69 : DV := .val (.string ⟨#[49, 47, 50]⟩)
theorem sense_0_69 : PureD Pr 18 sense_a0_69 sense_r0_69 := PureD.of_run (orc := orcNone) (m := 2000) mixed orcNone_ok (by kernel_rfl)
noncomputable def entSense0_35 : List (List DV × DV) := [(sense_a0_0, sense_r0_0), (sense_a0_1, sense_r0_1), (sense_a0_2, sense_r0_2), (sense_a0_3, sense_r0_3)]
theorem entSense0_35_ok : AllE 35 entSense0_35 := ⟨sense_0_0, ⟨sense_0_1, ⟨sense_0_2, ⟨sense_0_3, trivial⟩⟩⟩⟩
noncomputable def entSense0_43 : List (List DV × DV) := [(sense_a0_4, sense_r0_4), (sense_a0_8, sense_r0_8), (sense_a0_10, sense_r0_10), (sense_a0_12, sense_r0_12), (sense_a0_58, sense_r0_58), (sense_a0_60, sense_r0_60)]
theorem entSense0_43_ok : AllE 43 entSense0_43 := ⟨sense_0_4, ⟨sense_0_8, ⟨sense_0_10, ⟨sense_0_12, ⟨sense_0_58, ⟨sense_0_60, trivial⟩⟩⟩⟩⟩⟩
noncomputable def entSense0_38 : List (List DV × DV) := [(sense_a0_5, sense_r0_5), (sense_a0_24, sense_r0_24), (sense_a0_26, sense_r0_26), (sense_a0_28, sense_r0_28), (sense_a0_30, sense_r0_30), (sense_a0_48, sense_r0_48), (sense_a0_53, sense_r0_53)]
theorem entSense0_38_ok : AllE 38 entSense0_38 := ⟨sense_0_5, ⟨sense_0_24, ⟨sense_0_26, ⟨sense_0_28, ⟨sense_0_30, ⟨sense_0_48, ⟨sense_0_53, trivial⟩⟩⟩⟩⟩⟩⟩
noncomputable def entSense0_15 : List (List DV × DV) := [(sense_a0_6, sense_r0_6), (sense_a0_49, sense_r0_49), (sense_a0_54, sense_r0_54)]
theorem entSense0_15_ok : AllE 15 entSense0_15 := ⟨sense_0_6, ⟨sense_0_49, ⟨sense_0_54, trivial⟩⟩⟩
noncomputable def entSense0_10 : List (List DV × DV) := [(sense_a0_7, sense_r0_7), (sense_a0_9, sense_r0_9), (sense_a0_11, sense_r0_11), (sense_a0_13, sense_r0_13), (sense_a0_17, sense_r0_17), (sense_a0_61, sense_r0_61)]
theorem entSense0_10_ok : AllE 10 entSense0_10 := ⟨sense_0_7, ⟨sense_0_9, ⟨sense_0_11, ⟨sense_0_13, ⟨sense_0_17, ⟨sense_0_61, trivial⟩⟩⟩⟩⟩⟩
noncomputable def entSense0_41 : List (List DV × DV) := [(sense_a0_14, sense_r0_14), (sense_a0_15, sense_r0_15), (sense_a0_18, sense_r0_18), (sense_a0_19, sense_r0_19), (sense_a0_21, sense_r0_21), (sense_a0_22, sense_r0_22), (sense_a0_32, sense_r0_32), (sense_a0_34, sense_r0_34), (sense_a0_35, sense_r0_35), (sense_a0_36, sense_r0_36), (sense_a0_43, sense_r0_43), (sense_a0_47, sense_r0_47), (sense_a0_50, sense_r0_50), (sense_a0_51, sense_r0_51), (sense_a0_52, sense_r0_52), (sense_a0_56, sense_r0_56), (sense_a0_57, sense_r0_57), (sense_a0_63, sense_r0_63), (sense_a0_65, sense_r0_65)]
theorem entSense0_41_ok : AllE 41 entSense0_41 := ⟨sense_0_14, ⟨sense_0_15, ⟨sense_0_18, ⟨sense_0_19, ⟨sense_0_21, ⟨sense_0_22, ⟨sense_0_32, ⟨sense_0_34, ⟨sense_0_35, ⟨sense_0_36, ⟨sense_0_43, ⟨sense_0_47, ⟨sense_0_50, ⟨sense_0_51, ⟨sense_0_52, ⟨sense_0_56, ⟨sense_0_57, ⟨sense_0_63, ⟨sense_0_65, trivial⟩⟩⟩⟩⟩⟩⟩⟩⟩⟩⟩⟩⟩⟩⟩⟩⟩⟩⟩
noncomputable def entSense0_87 : List (List DV × DV) := [(sense_a0_16, sense_r0_16), (sense_a0_20, sense_r0_20), (sense_a0_23, sense_r0_23), (sense_a0_33, sense_r0_33)]
theorem entSense0_87_ok : AllE 87 entSense0_87 := ⟨sense_0_16, ⟨sense_0_20, ⟨sense_0_23, ⟨sense_0_33, trivial⟩⟩⟩⟩
noncomputable def entSense0_26 : List (List DV × DV) := [(sense_a0_25, sense_r0_25), (sense_a0_27, sense_r0_27), (sense_a0_29, sense_r0_29), (sense_a0_31, sense_r0_31)]
theorem entSense0_26_ok : AllE 26 entSense0_26 := ⟨sense_0_25, ⟨sense_0_27, ⟨sense_0_29, ⟨sense_0_31, trivial⟩⟩⟩⟩
noncomputable def entSense0_96 : List (List DV × DV) := [(sense_a0_37, sense_r0_37)]
theorem entSense0_96_ok : AllE 96 entSense0_96 := ⟨sense_0_37, trivial⟩
noncomputable def entSense0_40 : List (List DV × DV) := [(sense_a0_38, sense_r0_38), (sense_a0_59, sense_r0_59)]
theorem entSense0_40_ok : AllE 40 entSense0_40 := ⟨sense_0_38, ⟨sense_0_59, trivial⟩⟩
noncomputable def entSense0_97 : List (List DV × DV) := [(sense_a0_39, sense_r0_39)]
theorem entSense0_97_ok : AllE 97 entSense0_97 := ⟨sense_0_39, trivial⟩
noncomputable def entSense0_42 : List (List DV × DV) := [(sense_a0_40, sense_r0_40), (sense_a0_41, sense_r0_41), (sense_a0_42, sense_r0_42), (sense_a0_44, sense_r0_44), (sense_a0_45, sense_r0_45), (sense_a0_46, sense_r0_46), (sense_a0_55, sense_r0_55), (sense_a0_62, sense_r0_62), (sense_a0_64, sense_r0_64)]
theorem entSense0_42_ok : AllE 42 entSense0_42 := ⟨sense_0_40, ⟨sense_0_41, ⟨sense_0_42, ⟨sense_0_44, ⟨sense_0_45, ⟨sense_0_46, ⟨sense_0_55, ⟨sense_0_62, ⟨sense_0_64, trivial⟩⟩⟩⟩⟩⟩⟩⟩⟩
noncomputable def entSense0_18 : List (List DV × DV) := [(sense_a0_66, sense_r0_66), (sense_a0_67, sense_r0_67), (sense_a0_68, sense_r0_68), (sense_a0_69, sense_r0_69)]
theorem entSense0_18_ok : AllE 18 entSense0_18 := ⟨sense_0_66, ⟨sense_0_67, ⟨sense_0_68, ⟨sense_0_69, trivial⟩⟩⟩⟩
noncomputable def tabSense0 : Tr (List (List DV × DV)) := (.node (.node (.node (.node (.node .nil (some entSense0_15) .nil) none (.node .nil none (.node (.node .nil (some entSense0_87) .nil) none .nil))) none (.node (.node (.node .nil (some entSense0_35) .nil) none .nil) none (.node (.node .nil (some entSense0_43) .nil) none .nil))) none (.node (.node (.node (.node .nil none (.node .nil (some entSense0_97) .nil)) none .nil) none (.node (.node .nil (some entSense0_41) .nil) none .nil)) none .nil)) none (.node (.node (.node (.node (.node .nil none (.node .nil (some entSense0_96) .nil)) none .nil) none (.node (.node .nil (some entSense0_40) .nil) none .nil)) none .nil) none (.node (.node (.node .nil (some entSense0_18) .nil) (some entSense0_10) (.node (.node .nil (some entSense0_42) .nil) (some entSense0_26) .nil)) none (.node (.node (.node .nil (some entSense0_38) .nil) none .nil) none .nil))))
theorem tabSense0_ok : Tr.All AllE tabSense0 := ⟨⟨⟨⟨⟨trivial, entSense0_15_ok, trivial⟩, trivial, ⟨trivial, trivial, ⟨⟨trivial, entSense0_87_ok, trivial⟩, trivial, trivial⟩⟩⟩, trivial, ⟨⟨⟨trivial, entSense0_35_ok, trivial⟩, trivial, trivial⟩, trivial, ⟨⟨trivial, entSense0_43_ok, trivial⟩, trivial, trivial⟩⟩⟩, trivial, ⟨⟨⟨⟨trivial, trivial, ⟨trivial, entSense0_97_ok, trivial⟩⟩, trivial, trivial⟩, trivial, ⟨⟨trivial, entSense0_41_ok, trivial⟩, trivial, trivial⟩⟩, trivial, trivial⟩⟩, trivial, ⟨⟨⟨⟨⟨trivial, trivial, ⟨trivial, entSense0_96_ok, trivial⟩⟩, trivial, trivial⟩, trivial, ⟨⟨trivial, entSense0_40_ok, trivial⟩, trivial, trivial⟩⟩, trivial, trivial⟩, trivial, ⟨⟨⟨trivial, entSense0_18_ok, trivial⟩, entSense0_10_ok, ⟨⟨trivial, entSense0_42_ok, trivial⟩, entSense0_26_ok, trivial⟩⟩, trivial, ⟨⟨⟨trivial, entSense0_38_ok, trivial⟩, trivial, trivial⟩, trivial, trivial⟩⟩⟩⟩
noncomputable def orcSense0 : CallX := orcM tabSense0
theorem orcSense0_ok : CallOK Pr orcSense0 := orcM_ok fun k l h e he => AllE.mem l (Tr.All.get _ _ tabSense0_ok k l h) e he
end Go.Xm

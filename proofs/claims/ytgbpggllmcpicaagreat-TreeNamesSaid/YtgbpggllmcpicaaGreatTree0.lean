/- WHAT IS KNOWN OF CALLS OF DATA, level 0, by program (genmemo.py). -/
import Derived.Test.YtgbpggllmcpicaaGreatKnow
import Derived.KernelRfl
namespace Go.Xm
open Go Go.Cr Go.Proofs
def tree_a0_0 : List DV := [.agg [.val (.bool false), .slice 1 1 [.val (.int .u32 (.ofNat 4))]], .agg [.val (.bool false), .slice 1 1 [.val (.int .u32 (.ofNat 5))]]]
def tree_r0_0 : DV := .tup [.agg [.val (.bool false), .slice 1 1 [.val (.int .u32 (.ofNat 4))], .slice 1 1 [.val (.int .u32 (.ofNat 5))]], .val (.int .i64 (.ofNat 0))]
theorem tree_0_0 : PureD Pr 38 tree_a0_0 tree_r0_0 := PureD.of_run (orc := orcNone) (m := 2000) mixed orcNone_ok (by kernel_rfl)
def tree_a0_1 : List DV := [.val (.int .i64 (.ofNat 4)), .val (.int .i64 (.ofNat 5))]
def tree_r0_1 : DV := .tup [.agg [.val (.bool false), .slice 1 1 [.val (.int .u32 (.ofNat 4))], .slice 1 1 [.val (.int .u32 (.ofNat 5))]], .val (.int .i64 (.ofNat 0))]
theorem tree_0_1 : PureD Pr 15 tree_a0_1 tree_r0_1 := PureD.of_run (orc := orcNone) (m := 2000) mixed orcNone_ok (by kernel_rfl)
def tree_a0_2 : List DV := [.val (.int .i64 (.ofNat 4)), .val (.int .i64 (.ofNat 5))]
def tree_r0_2 : DV := .agg [.val (.bool false), .slice 1 1 [.val (.int .u32 (.ofNat 4))], .slice 1 1 [.val (.int .u32 (.ofNat 5))]]
theorem tree_0_2 : PureD Pr 11 tree_a0_2 tree_r0_2 := PureD.of_run (orc := orcNone) (m := 2000) mixed orcNone_ok (by kernel_rfl)
def tree_a0_3 : List DV := [.agg [.val (.bool false), .slice 1 1 [.val (.int .u32 (.ofNat 1))]], .agg [.val (.bool false), .slice 1 1 [.val (.int .u32 (.ofNat 5))]]]
def tree_r0_3 : DV := .tup [.agg [.val (.bool false), .slice 1 1 [.val (.int .u32 (.ofNat 1))], .slice 1 1 [.val (.int .u32 (.ofNat 5))]], .val (.int .i64 (.ofNat 0))]
theorem tree_0_3 : PureD Pr 38 tree_a0_3 tree_r0_3 := PureD.of_run (orc := orcNone) (m := 2000) mixed orcNone_ok (by kernel_rfl)
def tree_a0_4 : List DV := [.val (.int .i64 (.ofNat 1)), .val (.int .i64 (.ofNat 5))]
def tree_r0_4 : DV := .tup [.agg [.val (.bool false), .slice 1 1 [.val (.int .u32 (.ofNat 1))], .slice 1 1 [.val (.int .u32 (.ofNat 5))]], .val (.int .i64 (.ofNat 0))]
theorem tree_0_4 : PureD Pr 15 tree_a0_4 tree_r0_4 := PureD.of_run (orc := orcNone) (m := 2000) mixed orcNone_ok (by kernel_rfl)
def tree_a0_5 : List DV := [.val (.int .i64 (.ofNat 1)), .val (.int .i64 (.ofNat 5))]
def tree_r0_5 : DV := .agg [.val (.bool false), .slice 1 1 [.val (.int .u32 (.ofNat 1))], .slice 1 1 [.val (.int .u32 (.ofNat 5))]]
theorem tree_0_5 : PureD Pr 11 tree_a0_5 tree_r0_5 := PureD.of_run (orc := orcNone) (m := 2000) mixed orcNone_ok (by kernel_rfl)
def tree_a0_6 : List DV := [.agg [.val (.bool false), .slice 1 1 [.val (.int .u32 (.ofNat 9))]], .agg [.val (.bool false), .slice 1 1 [.val (.int .u32 (.ofNat 10))]]]
def tree_r0_6 : DV := .tup [.agg [.val (.bool false), .slice 1 1 [.val (.int .u32 (.ofNat 9))], .slice 1 1 [.val (.int .u32 (.ofNat 10))]], .val (.int .i64 (.ofNat 0))]
theorem tree_0_6 : PureD Pr 38 tree_a0_6 tree_r0_6 := PureD.of_run (orc := orcNone) (m := 2000) mixed orcNone_ok (by kernel_rfl)
def tree_a0_7 : List DV := [.val (.int .i64 (.ofNat 9)), .val (.int .i64 (.ofNat 10))]
def tree_r0_7 : DV := .tup [.agg [.val (.bool false), .slice 1 1 [.val (.int .u32 (.ofNat 9))], .slice 1 1 [.val (.int .u32 (.ofNat 10))]], .val (.int .i64 (.ofNat 0))]
theorem tree_0_7 : PureD Pr 15 tree_a0_7 tree_r0_7 := PureD.of_run (orc := orcNone) (m := 2000) mixed orcNone_ok (by kernel_rfl)
def tree_a0_8 : List DV := [.val (.int .i64 (.ofNat 9)), .val (.int .i64 (.ofNat 10))]
def tree_r0_8 : DV := .agg [.val (.bool false), .slice 1 1 [.val (.int .u32 (.ofNat 9))], .slice 1 1 [.val (.int .u32 (.ofNat 10))]]
theorem tree_0_8 : PureD Pr 11 tree_a0_8 tree_r0_8 := PureD.of_run (orc := orcNone) (m := 2000) mixed orcNone_ok (by kernel_rfl)
def tree_a0_9 : List DV := [.agg [.val (.bool false), .slice 1 1 [.val (.int .u32 (.ofNat 1))]], .agg [.val (.bool false), .slice 1 1 [.val (.int .u32 (.ofNat 10))]]]
def tree_r0_9 : DV := .tup [.agg [.val (.bool false), .slice 1 1 [.val (.int .u32 (.ofNat 1))], .slice 1 1 [.val (.int .u32 (.ofNat 10))]], .val (.int .i64 (.ofNat 0))]
theorem tree_0_9 : PureD Pr 38 tree_a0_9 tree_r0_9 := PureD.of_run (orc := orcNone) (m := 2000) mixed orcNone_ok (by kernel_rfl)
def tree_a0_10 : List DV := [.val (.int .i64 (.ofNat 1)), .val (.int .i64 (.ofNat 10))]
def tree_r0_10 : DV := .tup [.agg [.val (.bool false), .slice 1 1 [.val (.int .u32 (.ofNat 1))], .slice 1 1 [.val (.int .u32 (.ofNat 10))]], .val (.int .i64 (.ofNat 0))]
theorem tree_0_10 : PureD Pr 15 tree_a0_10 tree_r0_10 := PureD.of_run (orc := orcNone) (m := 2000) mixed orcNone_ok (by kernel_rfl)
def tree_a0_11 : List DV := [.val (.int .i64 (.ofNat 1)), .val (.int .i64 (.ofNat 10))]
def tree_r0_11 : DV := .agg [.val (.bool false), .slice 1 1 [.val (.int .u32 (.ofNat 1))], .slice 1 1 [.val (.int .u32 (.ofNat 10))]]
theorem tree_0_11 : PureD Pr 11 tree_a0_11 tree_r0_11 := PureD.of_run (orc := orcNone) (m := 2000) mixed orcNone_ok (by kernel_rfl)
def tree_a0_12 : List DV := []
def tree_r0_12 : DV := .agg [.val (.string ⟨#[110]⟩), .slice 1 2 [.val (.string ⟨#[114, 97, 105, 110]⟩), .val (.string ⟨#[103, 114, 97, 115, 115]⟩)], .slice 1 2 [.slice 1 2 [.val (.string ⟨#[110, 111]⟩), .val (.string ⟨#[121, 101, 115]⟩)], .slice 1 2 [.val (.string ⟨#[100, 114, 121]⟩), .val (.string ⟨#[119, 101, 116]⟩)]], .slice 1 2 [.val (.slice none 0 0), .slice 1 1 [.val (.int .i64 (.ofNat 0))]], .slice 1 2 [.slice 3 2 [.val (.bool false), .slice 1 1 [.val (.int .u32 (.ofNat 4))], .slice 1 1 [.val (.int .u32 (.ofNat 5))], .val (.bool false), .slice 1 1 [.val (.int .u32 (.ofNat 1))], .slice 1 1 [.val (.int .u32 (.ofNat 5))]], .slice 3 4 [.val (.bool false), .slice 1 1 [.val (.int .u32 (.ofNat 9))], .slice 1 1 [.val (.int .u32 (.ofNat 10))], .val (.bool false), .slice 1 1 [.val (.int .u32 (.ofNat 1))], .slice 1 1 [.val (.int .u32 (.ofNat 10))], .val (.bool false), .slice 1 1 [.val (.int .u32 (.ofNat 1))], .slice 1 1 [.val (.int .u32 (.ofNat 10))], .val (.bool false), .slice 1 1 [.val (.int .u32 (.ofNat 9))], .slice 1 1 [.val (.int .u32 (.ofNat 10))]]]]
theorem tree_0_12 : PureD Pr 9 tree_a0_12 tree_r0_12 := PureD.of_run (orc := orcNone) (m := 2000) mixed orcNone_ok (by kernel_rfl)
def tree_a0_13 : List DV := [.agg [.val (.bool false), .slice 1 1 [.val (.int .u32 (.ofNat 4))], .slice 1 1 [.val (.int .u32 (.ofNat 5))]]]
def tree_r0_13 : DV := .val (.int .i64 (.ofNat 1))
theorem tree_0_13 : PureD Pr 43 tree_a0_13 tree_r0_13 := PureD.of_run (orc := orcNone) (m := 2000) mixed orcNone_ok (by kernel_rfl)
def tree_a0_14 : List DV := [.agg [.val (.bool false), .slice 1 1 [.val (.int .u32 (.ofNat 1))]], .agg [.val (.bool false), .slice 1 1 [.val (.int .u32 (.ofNat 1))]]]
def tree_r0_14 : DV := .tup [.agg [.val (.bool false), .slice 1 1 [.val (.int .u32 (.ofNat 1))], .slice 1 1 [.val (.int .u32 (.ofNat 1))]], .val (.int .i64 (.ofNat 0))]
theorem tree_0_14 : PureD Pr 38 tree_a0_14 tree_r0_14 := PureD.of_run (orc := orcNone) (m := 2000) mixed orcNone_ok (by kernel_rfl)
def tree_a0_15 : List DV := [.val (.int .i64 (.ofNat 1)), .val (.int .i64 (.ofNat 1))]
def tree_r0_15 : DV := .tup [.agg [.val (.bool false), .slice 1 1 [.val (.int .u32 (.ofNat 1))], .slice 1 1 [.val (.int .u32 (.ofNat 1))]], .val (.int .i64 (.ofNat 0))]
theorem tree_0_15 : PureD Pr 15 tree_a0_15 tree_r0_15 := PureD.of_run (orc := orcNone) (m := 2000) mixed orcNone_ok (by kernel_rfl)
def tree_a0_16 : List DV := [.agg [.val (.bool false), .slice 1 1 [.val (.int .u32 (.ofNat 4))], .slice 1 1 [.val (.int .u32 (.ofNat 5))]], .agg [.val (.bool false), .slice 1 1 [.val (.int .u32 (.ofNat 1))], .slice 1 1 [.val (.int .u32 (.ofNat 1))]]]
def tree_r0_16 : DV := .val (.int .i64 (.negSucc 0))
theorem tree_0_16 : PureD Pr 10 tree_a0_16 tree_r0_16 := PureD.of_run (orc := orcNone) (m := 2000) mixed orcNone_ok (by kernel_rfl)
def tree_a0_17 : List DV := [.agg [.val (.bool false), .slice 1 1 [.val (.int .u32 (.ofNat 1))], .slice 1 1 [.val (.int .u32 (.ofNat 5))]]]
def tree_r0_17 : DV := .val (.int .i64 (.ofNat 1))
theorem tree_0_17 : PureD Pr 43 tree_a0_17 tree_r0_17 := PureD.of_run (orc := orcNone) (m := 2000) mixed orcNone_ok (by kernel_rfl)
def tree_a0_18 : List DV := [.agg [.val (.bool false), .slice 1 1 [.val (.int .u32 (.ofNat 1))], .slice 1 1 [.val (.int .u32 (.ofNat 5))]], .agg [.val (.bool false), .slice 1 1 [.val (.int .u32 (.ofNat 1))], .slice 1 1 [.val (.int .u32 (.ofNat 1))]]]
def tree_r0_18 : DV := .val (.int .i64 (.negSucc 0))
theorem tree_0_18 : PureD Pr 10 tree_a0_18 tree_r0_18 := PureD.of_run (orc := orcNone) (m := 2000) mixed orcNone_ok (by kernel_rfl)
def tree_a0_19 : List DV := [.agg [.val (.bool false), .slice 1 1 [.val (.int .u32 (.ofNat 9))], .slice 1 1 [.val (.int .u32 (.ofNat 10))]]]
def tree_r0_19 : DV := .val (.int .i64 (.ofNat 1))
theorem tree_0_19 : PureD Pr 43 tree_a0_19 tree_r0_19 := PureD.of_run (orc := orcNone) (m := 2000) mixed orcNone_ok (by kernel_rfl)
def tree_a0_20 : List DV := [.agg [.val (.bool false), .slice 1 1 [.val (.int .u32 (.ofNat 9))], .slice 1 1 [.val (.int .u32 (.ofNat 10))]], .agg [.val (.bool false), .slice 1 1 [.val (.int .u32 (.ofNat 1))], .slice 1 1 [.val (.int .u32 (.ofNat 1))]]]
def tree_r0_20 : DV := .val (.int .i64 (.negSucc 0))
theorem tree_0_20 : PureD Pr 10 tree_a0_20 tree_r0_20 := PureD.of_run (orc := orcNone) (m := 2000) mixed orcNone_ok (by kernel_rfl)
def tree_a0_21 : List DV := [.agg [.val (.bool false), .slice 1 1 [.val (.int .u32 (.ofNat 1))], .slice 1 1 [.val (.int .u32 (.ofNat 10))]]]
def tree_r0_21 : DV := .val (.int .i64 (.ofNat 1))
theorem tree_0_21 : PureD Pr 43 tree_a0_21 tree_r0_21 := PureD.of_run (orc := orcNone) (m := 2000) mixed orcNone_ok (by kernel_rfl)
def tree_a0_22 : List DV := [.agg [.val (.bool false), .slice 1 1 [.val (.int .u32 (.ofNat 1))], .slice 1 1 [.val (.int .u32 (.ofNat 10))]], .agg [.val (.bool false), .slice 1 1 [.val (.int .u32 (.ofNat 1))], .slice 1 1 [.val (.int .u32 (.ofNat 1))]]]
def tree_r0_22 : DV := .val (.int .i64 (.negSucc 0))
theorem tree_0_22 : PureD Pr 10 tree_a0_22 tree_r0_22 := PureD.of_run (orc := orcNone) (m := 2000) mixed orcNone_ok (by kernel_rfl)
def tree_a0_23 : List DV := [.agg [.val (.bool false), .val (.slice none 0 0), .slice 1 1 [.val (.int .u32 (.ofNat 1))]], .agg [.val (.bool false), .slice 1 1 [.val (.int .u32 (.ofNat 4))], .slice 1 1 [.val (.int .u32 (.ofNat 5))]]]
def tree_r0_23 : DV := .agg [.val (.bool false), .slice 1 1 [.val (.int .u32 (.ofNat 4))], .slice 1 1 [.val (.int .u32 (.ofNat 5))]]
theorem tree_0_23 : PureD Pr 41 tree_a0_23 tree_r0_23 := PureD.of_run (orc := orcNone) (m := 2000) mixed orcNone_ok (by kernel_rfl)
def tree_a0_24 : List DV := [.agg [.val (.bool false), .slice 1 1 [.val (.int .u32 (.ofNat 4))], .slice 1 1 [.val (.int .u32 (.ofNat 5))]], .agg [.val (.bool false), .slice 1 1 [.val (.int .u32 (.ofNat 1))], .slice 1 1 [.val (.int .u32 (.ofNat 5))]]]
def tree_r0_24 : DV := .agg [.val (.bool false), .slice 1 1 [.val (.int .u32 (.ofNat 1))], .slice 1 1 [.val (.int .u32 (.ofNat 1))]]
theorem tree_0_24 : PureD Pr 41 tree_a0_24 tree_r0_24 := PureD.of_run (orc := orcNone) (m := 2000) mixed orcNone_ok (by kernel_rfl)
def tree_a0_25 : List DV := [.slice 3 2 [.val (.bool false), .slice 1 1 [.val (.int .u32 (.ofNat 4))], .slice 1 1 [.val (.int .u32 (.ofNat 5))], .val (.bool false), .slice 1 1 [.val (.int .u32 (.ofNat 1))], .slice 1 1 [.val (.int .u32 (.ofNat 5))]]]
def tree_r0_25 : DV := .agg [.val (.bool false), .slice 1 1 [.val (.int .u32 (.ofNat 1))], .slice 1 1 [.val (.int .u32 (.ofNat 1))]]
theorem tree_0_25 : PureD Pr 87 tree_a0_25 tree_r0_25 := PureD.of_run (orc := orcNone) (m := 2000) mixed orcNone_ok (by kernel_rfl)
def tree_a0_26 : List DV := [.agg [.val (.bool false), .slice 1 1 [.val (.int .u32 (.ofNat 1))], .slice 1 1 [.val (.int .u32 (.ofNat 1))]], .agg [.val (.bool false), .slice 1 1 [.val (.int .u32 (.ofNat 1))], .slice 1 1 [.val (.int .u32 (.ofNat 1))]]]
def tree_r0_26 : DV := .val (.int .i64 (.ofNat 0))
theorem tree_0_26 : PureD Pr 10 tree_a0_26 tree_r0_26 := PureD.of_run (orc := orcNone) (m := 2000) mixed orcNone_ok (by kernel_rfl)
def tree_a0_27 : List DV := [.agg [.val (.bool false), .val (.slice none 0 0), .slice 1 1 [.val (.int .u32 (.ofNat 1))]], .agg [.val (.bool false), .slice 1 1 [.val (.int .u32 (.ofNat 9))], .slice 1 1 [.val (.int .u32 (.ofNat 10))]]]
def tree_r0_27 : DV := .agg [.val (.bool false), .slice 1 1 [.val (.int .u32 (.ofNat 9))], .slice 1 1 [.val (.int .u32 (.ofNat 10))]]
theorem tree_0_27 : PureD Pr 41 tree_a0_27 tree_r0_27 := PureD.of_run (orc := orcNone) (m := 2000) mixed orcNone_ok (by kernel_rfl)
def tree_a0_28 : List DV := [.agg [.val (.bool false), .slice 1 1 [.val (.int .u32 (.ofNat 9))], .slice 1 1 [.val (.int .u32 (.ofNat 10))]], .agg [.val (.bool false), .slice 1 1 [.val (.int .u32 (.ofNat 1))], .slice 1 1 [.val (.int .u32 (.ofNat 10))]]]
def tree_r0_28 : DV := .agg [.val (.bool false), .slice 1 1 [.val (.int .u32 (.ofNat 1))], .slice 1 1 [.val (.int .u32 (.ofNat 1))]]
theorem tree_0_28 : PureD Pr 41 tree_a0_28 tree_r0_28 := PureD.of_run (orc := orcNone) (m := 2000) mixed orcNone_ok (by kernel_rfl)
def tree_a0_29 : List DV := [.slice 3 2 [.val (.bool false), .slice 1 1 [.val (.int .u32 (.ofNat 9))], .slice 1 1 [.val (.int .u32 (.ofNat 10))], .val (.bool false), .slice 1 1 [.val (.int .u32 (.ofNat 1))], .slice 1 1 [.val (.int .u32 (.ofNat 10))]]]
def tree_r0_29 : DV := .agg [.val (.bool false), .slice 1 1 [.val (.int .u32 (.ofNat 1))], .slice 1 1 [.val (.int .u32 (.ofNat 1))]]
theorem tree_0_29 : PureD Pr 87 tree_a0_29 tree_r0_29 := PureD.of_run (orc := orcNone) (m := 2000) mixed orcNone_ok (by kernel_rfl)
def tree_a0_30 : List DV := [.agg [.val (.bool false), .val (.slice none 0 0), .slice 1 1 [.val (.int .u32 (.ofNat 1))]], .agg [.val (.bool false), .slice 1 1 [.val (.int .u32 (.ofNat 1))], .slice 1 1 [.val (.int .u32 (.ofNat 10))]]]
def tree_r0_30 : DV := .agg [.val (.bool false), .slice 1 1 [.val (.int .u32 (.ofNat 1))], .slice 1 1 [.val (.int .u32 (.ofNat 10))]]
theorem tree_0_30 : PureD Pr 41 tree_a0_30 tree_r0_30 := PureD.of_run (orc := orcNone) (m := 2000) mixed orcNone_ok (by kernel_rfl)
def tree_a0_31 : List DV := [.agg [.val (.bool false), .slice 1 1 [.val (.int .u32 (.ofNat 1))], .slice 1 1 [.val (.int .u32 (.ofNat 10))]], .agg [.val (.bool false), .slice 1 1 [.val (.int .u32 (.ofNat 9))], .slice 1 1 [.val (.int .u32 (.ofNat 10))]]]
def tree_r0_31 : DV := .agg [.val (.bool false), .slice 1 1 [.val (.int .u32 (.ofNat 1))], .slice 1 1 [.val (.int .u32 (.ofNat 1))]]
theorem tree_0_31 : PureD Pr 41 tree_a0_31 tree_r0_31 := PureD.of_run (orc := orcNone) (m := 2000) mixed orcNone_ok (by kernel_rfl)
def tree_a0_32 : List DV := [.slice 3 2 [.val (.bool false), .slice 1 1 [.val (.int .u32 (.ofNat 1))], .slice 1 1 [.val (.int .u32 (.ofNat 10))], .val (.bool false), .slice 1 1 [.val (.int .u32 (.ofNat 9))], .slice 1 1 [.val (.int .u32 (.ofNat 10))]]]
def tree_r0_32 : DV := .agg [.val (.bool false), .slice 1 1 [.val (.int .u32 (.ofNat 1))], .slice 1 1 [.val (.int .u32 (.ofNat 1))]]
theorem tree_0_32 : PureD Pr 87 tree_a0_32 tree_r0_32 := PureD.of_run (orc := orcNone) (m := 2000) mixed orcNone_ok (by kernel_rfl)
def tree_a0_33 : List DV := [.agg [.val (.bool false), .val (.slice none 0 0)], .agg [.val (.bool false), .slice 1 1 [.val (.int .u32 (.ofNat 1))]]]
def tree_r0_33 : DV := .tup [.agg [.val (.bool false), .val (.slice none 0 0), .slice 1 1 [.val (.int .u32 (.ofNat 1))]], .val (.int .i64 (.ofNat 0))]
theorem tree_0_33 : PureD Pr 38 tree_a0_33 tree_r0_33 := PureD.of_run (orc := orcNone) (m := 2000) mixed orcNone_ok (by kernel_rfl)
def tree_a0_34 : List DV := [.val (.int .i64 (.ofNat 0)), .val (.int .i64 (.ofNat 1))]
def tree_r0_34 : DV := .tup [.agg [.val (.bool false), .val (.slice none 0 0), .slice 1 1 [.val (.int .u32 (.ofNat 1))]], .val (.int .i64 (.ofNat 0))]
theorem tree_0_34 : PureD Pr 15 tree_a0_34 tree_r0_34 := PureD.of_run (orc := orcNone) (m := 2000) mixed orcNone_ok (by kernel_rfl)
def tree_a0_35 : List DV := [.agg [.val (.bool false), .slice 1 1 [.val (.int .u32 (.ofNat 1))], .slice 1 1 [.val (.int .u32 (.ofNat 1))]], .agg [.val (.bool false), .slice 1 1 [.val (.int .u32 (.ofNat 1))], .slice 1 1 [.val (.int .u32 (.ofNat 1))]]]
def tree_r0_35 : DV := .agg [.val (.bool false), .slice 1 1 [.val (.int .u32 (.ofNat 1))], .slice 1 1 [.val (.int .u32 (.ofNat 1))]]
theorem tree_0_35 : PureD Pr 42 tree_a0_35 tree_r0_35 := PureD.of_run (orc := orcNone) (m := 2000) mixed orcNone_ok (by kernel_rfl)
def tree_a0_36 : List DV := [.agg [.val (.bool false), .slice 1 1 [.val (.int .u32 (.ofNat 4))], .slice 1 1 [.val (.int .u32 (.ofNat 5))]]]
def tree_r0_36 : DV := .tup [.agg [.val (.bool false), .slice 1 1 [.val (.int .u32 (.ofNat 4))], .slice 1 1 [.val (.int .u32 (.ofNat 5))]], .val (.int .i64 (.ofNat 0))]
theorem tree_0_36 : PureD Pr 26 tree_a0_36 tree_r0_36 := PureD.of_run (orc := orcNone) (m := 2000) mixed orcNone_ok (by kernel_rfl)
def tree_a0_37 : List DV := [.agg [.val (.bool false), .slice 1 1 [.val (.int .u32 (.ofNat 1))], .slice 1 1 [.val (.int .u32 (.ofNat 5))]]]
def tree_r0_37 : DV := .tup [.agg [.val (.bool false), .slice 1 1 [.val (.int .u32 (.ofNat 1))], .slice 1 1 [.val (.int .u32 (.ofNat 5))]], .val (.int .i64 (.ofNat 0))]
theorem tree_0_37 : PureD Pr 26 tree_a0_37 tree_r0_37 := PureD.of_run (orc := orcNone) (m := 2000) mixed orcNone_ok (by kernel_rfl)
def tree_a0_38 : List DV := [.agg [.val (.bool false), .slice 1 1 [.val (.int .u32 (.ofNat 9))], .slice 1 1 [.val (.int .u32 (.ofNat 10))]]]
def tree_r0_38 : DV := .tup [.agg [.val (.bool false), .slice 1 1 [.val (.int .u32 (.ofNat 9))], .slice 1 1 [.val (.int .u32 (.ofNat 10))]], .val (.int .i64 (.ofNat 0))]
theorem tree_0_38 : PureD Pr 26 tree_a0_38 tree_r0_38 := PureD.of_run (orc := orcNone) (m := 2000) mixed orcNone_ok (by kernel_rfl)
def tree_a0_39 : List DV := [.agg [.val (.bool false), .slice 1 1 [.val (.int .u32 (.ofNat 1))], .slice 1 1 [.val (.int .u32 (.ofNat 10))]]]
def tree_r0_39 : DV := .tup [.agg [.val (.bool false), .slice 1 1 [.val (.int .u32 (.ofNat 1))], .slice 1 1 [.val (.int .u32 (.ofNat 10))]], .val (.int .i64 (.ofNat 0))]
theorem tree_0_39 : PureD Pr 26 tree_a0_39 tree_r0_39 := PureD.of_run (orc := orcNone) (m := 2000) mixed orcNone_ok (by kernel_rfl)
def tree_a0_40 : List DV := [.agg [.val (.bool false), .slice 1 1 [.val (.int .u32 (.ofNat 1))], .slice 1 1 [.val (.int .u32 (.ofNat 1))]], .agg [.val (.bool false), .slice 1 1 [.val (.int .u32 (.ofNat 4))], .slice 1 1 [.val (.int .u32 (.ofNat 5))]]]
def tree_r0_40 : DV := .agg [.val (.bool false), .slice 1 1 [.val (.int .u32 (.ofNat 4))], .slice 1 1 [.val (.int .u32 (.ofNat 5))]]
theorem tree_0_40 : PureD Pr 42 tree_a0_40 tree_r0_40 := PureD.of_run (orc := orcNone) (m := 2000) mixed orcNone_ok (by kernel_rfl)
def tree_a0_41 : List DV := [.agg [.val (.bool false), .slice 1 1 [.val (.int .u32 (.ofNat 1))], .slice 1 1 [.val (.int .u32 (.ofNat 1))]], .agg [.val (.bool false), .slice 1 1 [.val (.int .u32 (.ofNat 1))], .slice 1 1 [.val (.int .u32 (.ofNat 5))]]]
def tree_r0_41 : DV := .agg [.val (.bool false), .slice 1 1 [.val (.int .u32 (.ofNat 1))], .slice 1 1 [.val (.int .u32 (.ofNat 5))]]
theorem tree_0_41 : PureD Pr 42 tree_a0_41 tree_r0_41 := PureD.of_run (orc := orcNone) (m := 2000) mixed orcNone_ok (by kernel_rfl)
def tree_a0_42 : List DV := [.agg [.val (.bool false), .slice 1 1 [.val (.int .u32 (.ofNat 4))], .slice 1 1 [.val (.int .u32 (.ofNat 5))]], .agg [.val (.bool false), .slice 1 1 [.val (.int .u32 (.ofNat 9))], .slice 1 1 [.val (.int .u32 (.ofNat 10))]]]
def tree_r0_42 : DV := .agg [.val (.bool false), .slice 1 1 [.val (.int .u32 (.ofNat 18))], .slice 1 1 [.val (.int .u32 (.ofNat 25))]]
theorem tree_0_42 : PureD Pr 42 tree_a0_42 tree_r0_42 := PureD.of_run (orc := orcNone) (m := 2000) mixed orcNone_ok (by kernel_rfl)
def tree_a0_43 : List DV := [.agg [.val (.bool false), .slice 1 1 [.val (.int .u32 (.ofNat 4))], .slice 1 1 [.val (.int .u32 (.ofNat 5))]], .agg [.val (.bool false), .slice 1 1 [.val (.int .u32 (.ofNat 1))], .slice 1 1 [.val (.int .u32 (.ofNat 10))]]]
def tree_r0_43 : DV := .agg [.val (.bool false), .slice 1 1 [.val (.int .u32 (.ofNat 2))], .slice 1 1 [.val (.int .u32 (.ofNat 25))]]
theorem tree_0_43 : PureD Pr 42 tree_a0_43 tree_r0_43 := PureD.of_run (orc := orcNone) (m := 2000) mixed orcNone_ok (by kernel_rfl)
def tree_a0_44 : List DV := [.agg [.val (.bool false), .slice 1 1 [.val (.int .u32 (.ofNat 1))], .slice 1 1 [.val (.int .u32 (.ofNat 5))]], .agg [.val (.bool false), .slice 1 1 [.val (.int .u32 (.ofNat 1))], .slice 1 1 [.val (.int .u32 (.ofNat 10))]]]
def tree_r0_44 : DV := .agg [.val (.bool false), .slice 1 1 [.val (.int .u32 (.ofNat 1))], .slice 1 1 [.val (.int .u32 (.ofNat 50))]]
theorem tree_0_44 : PureD Pr 42 tree_a0_44 tree_r0_44 := PureD.of_run (orc := orcNone) (m := 2000) mixed orcNone_ok (by kernel_rfl)
def tree_a0_45 : List DV := [.agg [.val (.bool false), .slice 1 1 [.val (.int .u32 (.ofNat 1))], .slice 1 1 [.val (.int .u32 (.ofNat 5))]], .agg [.val (.bool false), .slice 1 1 [.val (.int .u32 (.ofNat 9))], .slice 1 1 [.val (.int .u32 (.ofNat 10))]]]
def tree_r0_45 : DV := .agg [.val (.bool false), .slice 1 1 [.val (.int .u32 (.ofNat 9))], .slice 1 1 [.val (.int .u32 (.ofNat 50))]]
theorem tree_0_45 : PureD Pr 42 tree_a0_45 tree_r0_45 := PureD.of_run (orc := orcNone) (m := 2000) mixed orcNone_ok (by kernel_rfl)
def tree_a0_46 : List DV := [.agg [.val (.bool false), .slice 1 1 [.val (.int .u32 (.ofNat 1))], .slice 1 1 [.val (.int .u32 (.ofNat 1))]], .agg [.val (.bool false), .slice 1 1 [.val (.int .u32 (.ofNat 18))], .slice 1 1 [.val (.int .u32 (.ofNat 25))]]]
def tree_r0_46 : DV := .agg [.val (.bool false), .slice 1 1 [.val (.int .u32 (.ofNat 18))], .slice 1 1 [.val (.int .u32 (.ofNat 25))]]
theorem tree_0_46 : PureD Pr 42 tree_a0_46 tree_r0_46 := PureD.of_run (orc := orcNone) (m := 2000) mixed orcNone_ok (by kernel_rfl)
def tree_a0_47 : List DV := [.agg [.val (.bool false), .slice 1 1 [.val (.int .u32 (.ofNat 1))], .slice 1 1 [.val (.int .u32 (.ofNat 1))]], .agg [.val (.bool false), .slice 1 1 [.val (.int .u32 (.ofNat 2))], .slice 1 1 [.val (.int .u32 (.ofNat 25))]]]
def tree_r0_47 : DV := .agg [.val (.bool false), .slice 1 1 [.val (.int .u32 (.ofNat 2))], .slice 1 1 [.val (.int .u32 (.ofNat 25))]]
theorem tree_0_47 : PureD Pr 42 tree_a0_47 tree_r0_47 := PureD.of_run (orc := orcNone) (m := 2000) mixed orcNone_ok (by kernel_rfl)
def tree_a0_48 : List DV := [.agg [.val (.bool false), .slice 1 1 [.val (.int .u32 (.ofNat 1))], .slice 1 1 [.val (.int .u32 (.ofNat 1))]], .agg [.val (.bool false), .slice 1 1 [.val (.int .u32 (.ofNat 1))], .slice 1 1 [.val (.int .u32 (.ofNat 50))]]]
def tree_r0_48 : DV := .agg [.val (.bool false), .slice 1 1 [.val (.int .u32 (.ofNat 1))], .slice 1 1 [.val (.int .u32 (.ofNat 50))]]
theorem tree_0_48 : PureD Pr 42 tree_a0_48 tree_r0_48 := PureD.of_run (orc := orcNone) (m := 2000) mixed orcNone_ok (by kernel_rfl)
def tree_a0_49 : List DV := [.agg [.val (.bool false), .slice 1 1 [.val (.int .u32 (.ofNat 1))], .slice 1 1 [.val (.int .u32 (.ofNat 1))]], .agg [.val (.bool false), .slice 1 1 [.val (.int .u32 (.ofNat 9))], .slice 1 1 [.val (.int .u32 (.ofNat 50))]]]
def tree_r0_49 : DV := .agg [.val (.bool false), .slice 1 1 [.val (.int .u32 (.ofNat 9))], .slice 1 1 [.val (.int .u32 (.ofNat 50))]]
theorem tree_0_49 : PureD Pr 42 tree_a0_49 tree_r0_49 := PureD.of_run (orc := orcNone) (m := 2000) mixed orcNone_ok (by kernel_rfl)
def tree_a0_50 : List DV := [.agg [.val (.bool false), .slice 1 1 [.val (.int .u32 (.ofNat 18))], .slice 1 1 [.val (.int .u32 (.ofNat 25))]], .agg [.val (.bool false), .slice 1 1 [.val (.int .u32 (.ofNat 1))], .slice 1 1 [.val (.int .u32 (.ofNat 1))]]]
def tree_r0_50 : DV := .agg [.val (.bool false), .slice 1 1 [.val (.int .u32 (.ofNat 18))], .slice 1 1 [.val (.int .u32 (.ofNat 25))]]
theorem tree_0_50 : PureD Pr 42 tree_a0_50 tree_r0_50 := PureD.of_run (orc := orcNone) (m := 2000) mixed orcNone_ok (by kernel_rfl)
def tree_a0_51 : List DV := [.agg [.val (.bool false), .slice 1 1 [.val (.int .u32 (.ofNat 2))], .slice 1 1 [.val (.int .u32 (.ofNat 25))]], .agg [.val (.bool false), .slice 1 1 [.val (.int .u32 (.ofNat 1))], .slice 1 1 [.val (.int .u32 (.ofNat 1))]]]
def tree_r0_51 : DV := .agg [.val (.bool false), .slice 1 1 [.val (.int .u32 (.ofNat 2))], .slice 1 1 [.val (.int .u32 (.ofNat 25))]]
theorem tree_0_51 : PureD Pr 42 tree_a0_51 tree_r0_51 := PureD.of_run (orc := orcNone) (m := 2000) mixed orcNone_ok (by kernel_rfl)
def tree_a0_52 : List DV := [.agg [.val (.bool false), .slice 1 1 [.val (.int .u32 (.ofNat 1))], .slice 1 1 [.val (.int .u32 (.ofNat 50))]], .agg [.val (.bool false), .slice 1 1 [.val (.int .u32 (.ofNat 1))], .slice 1 1 [.val (.int .u32 (.ofNat 1))]]]
def tree_r0_52 : DV := .agg [.val (.bool false), .slice 1 1 [.val (.int .u32 (.ofNat 1))], .slice 1 1 [.val (.int .u32 (.ofNat 50))]]
theorem tree_0_52 : PureD Pr 42 tree_a0_52 tree_r0_52 := PureD.of_run (orc := orcNone) (m := 2000) mixed orcNone_ok (by kernel_rfl)
def tree_a0_53 : List DV := [.agg [.val (.bool false), .slice 1 1 [.val (.int .u32 (.ofNat 9))], .slice 1 1 [.val (.int .u32 (.ofNat 50))]], .agg [.val (.bool false), .slice 1 1 [.val (.int .u32 (.ofNat 1))], .slice 1 1 [.val (.int .u32 (.ofNat 1))]]]
def tree_r0_53 : DV := .agg [.val (.bool false), .slice 1 1 [.val (.int .u32 (.ofNat 9))], .slice 1 1 [.val (.int .u32 (.ofNat 50))]]
theorem tree_0_53 : PureD Pr 42 tree_a0_53 tree_r0_53 := PureD.of_run (orc := orcNone) (m := 2000) mixed orcNone_ok (by kernel_rfl)
def tree_a0_54 : List DV := [.agg [.val (.bool false), .val (.slice none 0 0), .slice 1 1 [.val (.int .u32 (.ofNat 1))]], .agg [.val (.bool false), .slice 1 1 [.val (.int .u32 (.ofNat 18))], .slice 1 1 [.val (.int .u32 (.ofNat 25))]]]
def tree_r0_54 : DV := .agg [.val (.bool false), .slice 1 1 [.val (.int .u32 (.ofNat 18))], .slice 1 1 [.val (.int .u32 (.ofNat 25))]]
theorem tree_0_54 : PureD Pr 41 tree_a0_54 tree_r0_54 := PureD.of_run (orc := orcNone) (m := 2000) mixed orcNone_ok (by kernel_rfl)
def tree_a0_55 : List DV := [.agg [.val (.bool false), .slice 1 1 [.val (.int .u32 (.ofNat 18))], .slice 1 1 [.val (.int .u32 (.ofNat 25))]], .agg [.val (.bool false), .slice 1 1 [.val (.int .u32 (.ofNat 1))], .slice 1 1 [.val (.int .u32 (.ofNat 50))]]]
def tree_r0_55 : DV := .agg [.val (.bool false), .slice 1 1 [.val (.int .u32 (.ofNat 37))], .slice 1 1 [.val (.int .u32 (.ofNat 50))]]
theorem tree_0_55 : PureD Pr 41 tree_a0_55 tree_r0_55 := PureD.of_run (orc := orcNone) (m := 2000) mixed orcNone_ok (by kernel_rfl)
def tree_a0_56 : List DV := [.agg [.val (.bool false), .val (.slice none 0 0), .slice 1 1 [.val (.int .u32 (.ofNat 1))]], .agg [.val (.bool false), .slice 1 1 [.val (.int .u32 (.ofNat 2))], .slice 1 1 [.val (.int .u32 (.ofNat 25))]]]
def tree_r0_56 : DV := .agg [.val (.bool false), .slice 1 1 [.val (.int .u32 (.ofNat 2))], .slice 1 1 [.val (.int .u32 (.ofNat 25))]]
theorem tree_0_56 : PureD Pr 41 tree_a0_56 tree_r0_56 := PureD.of_run (orc := orcNone) (m := 2000) mixed orcNone_ok (by kernel_rfl)
def tree_a0_57 : List DV := [.agg [.val (.bool false), .slice 1 1 [.val (.int .u32 (.ofNat 2))], .slice 1 1 [.val (.int .u32 (.ofNat 25))]], .agg [.val (.bool false), .slice 1 1 [.val (.int .u32 (.ofNat 9))], .slice 1 1 [.val (.int .u32 (.ofNat 50))]]]
def tree_r0_57 : DV := .agg [.val (.bool false), .slice 1 1 [.val (.int .u32 (.ofNat 13))], .slice 1 1 [.val (.int .u32 (.ofNat 50))]]
theorem tree_0_57 : PureD Pr 41 tree_a0_57 tree_r0_57 := PureD.of_run (orc := orcNone) (m := 2000) mixed orcNone_ok (by kernel_rfl)
def tree_a0_58 : List DV := [.agg [.val (.bool false), .val (.slice none 0 0), .slice 1 1 [.val (.int .u32 (.ofNat 1))]], .agg [.val (.bool false), .slice 1 1 [.val (.int .u32 (.ofNat 37))], .slice 1 1 [.val (.int .u32 (.ofNat 50))]]]
def tree_r0_58 : DV := .agg [.val (.bool false), .slice 1 1 [.val (.int .u32 (.ofNat 37))], .slice 1 1 [.val (.int .u32 (.ofNat 50))]]
theorem tree_0_58 : PureD Pr 41 tree_a0_58 tree_r0_58 := PureD.of_run (orc := orcNone) (m := 2000) mixed orcNone_ok (by kernel_rfl)
def tree_a0_59 : List DV := [.agg [.val (.bool false), .slice 1 1 [.val (.int .u32 (.ofNat 37))], .slice 1 1 [.val (.int .u32 (.ofNat 50))]], .agg [.val (.bool false), .slice 1 1 [.val (.int .u32 (.ofNat 13))], .slice 1 1 [.val (.int .u32 (.ofNat 50))]]]
def tree_r0_59 : DV := .agg [.val (.bool false), .slice 1 1 [.val (.int .u32 (.ofNat 1))], .slice 1 1 [.val (.int .u32 (.ofNat 1))]]
theorem tree_0_59 : PureD Pr 41 tree_a0_59 tree_r0_59 := PureD.of_run (orc := orcNone) (m := 2000) mixed orcNone_ok (by kernel_rfl)
def tree_a0_60 : List DV := [.val (.int .i64 (.ofNat 1)), .val (.int .i64 (.ofNat 1))]
def tree_r0_60 : DV := .agg [.val (.bool false), .slice 1 1 [.val (.int .u32 (.ofNat 1))], .slice 1 1 [.val (.int .u32 (.ofNat 1))]]
theorem tree_0_60 : PureD Pr 11 tree_a0_60 tree_r0_60 := PureD.of_run (orc := orcNone) (m := 2000) mixed orcNone_ok (by kernel_rfl)
def tree_a0_61 : List DV := [.agg [.val (.bool false), .slice 1 1 [.val (.int .u32 (.ofNat 1))], .slice 1 1 [.val (.int .u32 (.ofNat 1))]], .agg [.val (.bool false), .slice 1 1 [.val (.int .u32 (.ofNat 37))], .slice 1 1 [.val (.int .u32 (.ofNat 50))]]]
def tree_r0_61 : DV := .agg [.val (.bool false), .slice 1 1 [.val (.int .u32 (.ofNat 37))], .slice 1 1 [.val (.int .u32 (.ofNat 50))]]
theorem tree_0_61 : PureD Pr 42 tree_a0_61 tree_r0_61 := PureD.of_run (orc := orcNone) (m := 2000) mixed orcNone_ok (by kernel_rfl)
def tree_a0_62 : List DV := [.agg [.val (.bool false), .slice 1 1 [.val (.int .u32 (.ofNat 1))], .slice 1 1 [.val (.int .u32 (.ofNat 1))]], .agg [.val (.bool false), .slice 1 1 [.val (.int .u32 (.ofNat 13))], .slice 1 1 [.val (.int .u32 (.ofNat 50))]]]
def tree_r0_62 : DV := .agg [.val (.bool false), .slice 1 1 [.val (.int .u32 (.ofNat 13))], .slice 1 1 [.val (.int .u32 (.ofNat 50))]]
theorem tree_0_62 : PureD Pr 42 tree_a0_62 tree_r0_62 := PureD.of_run (orc := orcNone) (m := 2000) mixed orcNone_ok (by kernel_rfl)
def tree_a0_63 : List DV := [.agg [.val (.bool false), .slice 1 1 [.val (.int .u32 (.ofNat 18))], .slice 1 1 [.val (.int .u32 (.ofNat 25))]], .agg [.val (.bool false), .slice 1 1 [.val (.int .u32 (.ofNat 2))], .slice 1 1 [.val (.int .u32 (.ofNat 25))]]]
def tree_r0_63 : DV := .agg [.val (.bool false), .slice 1 1 [.val (.int .u32 (.ofNat 4))], .slice 1 1 [.val (.int .u32 (.ofNat 5))]]
theorem tree_0_63 : PureD Pr 41 tree_a0_63 tree_r0_63 := PureD.of_run (orc := orcNone) (m := 2000) mixed orcNone_ok (by kernel_rfl)
def tree_a0_64 : List DV := [.agg [.val (.bool false), .val (.slice none 0 0), .slice 1 1 [.val (.int .u32 (.ofNat 1))]], .agg [.val (.bool false), .slice 1 1 [.val (.int .u32 (.ofNat 1))], .slice 1 1 [.val (.int .u32 (.ofNat 50))]]]
def tree_r0_64 : DV := .agg [.val (.bool false), .slice 1 1 [.val (.int .u32 (.ofNat 1))], .slice 1 1 [.val (.int .u32 (.ofNat 50))]]
theorem tree_0_64 : PureD Pr 41 tree_a0_64 tree_r0_64 := PureD.of_run (orc := orcNone) (m := 2000) mixed orcNone_ok (by kernel_rfl)
def tree_a0_65 : List DV := [.agg [.val (.bool false), .slice 1 1 [.val (.int .u32 (.ofNat 1))], .slice 1 1 [.val (.int .u32 (.ofNat 50))]], .agg [.val (.bool false), .slice 1 1 [.val (.int .u32 (.ofNat 9))], .slice 1 1 [.val (.int .u32 (.ofNat 50))]]]
def tree_r0_65 : DV := .agg [.val (.bool false), .slice 1 1 [.val (.int .u32 (.ofNat 1))], .slice 1 1 [.val (.int .u32 (.ofNat 5))]]
theorem tree_0_65 : PureD Pr 41 tree_a0_65 tree_r0_65 := PureD.of_run (orc := orcNone) (m := 2000) mixed orcNone_ok (by kernel_rfl)
def tree_a0_66 : List DV := [.agg [.val (.bool false), .slice 1 1 [.val (.int .u32 (.ofNat 37))]], .agg [.val (.bool false), .slice 1 1 [.val (.int .u32 (.ofNat 50))]]]
def tree_r0_66 : DV := .tup [.agg [.val (.bool false), .slice 1 1 [.val (.int .u32 (.ofNat 37))], .slice 1 1 [.val (.int .u32 (.ofNat 50))]], .val (.int .i64 (.ofNat 0))]
theorem tree_0_66 : PureD Pr 38 tree_a0_66 tree_r0_66 := PureD.of_run (orc := orcNone) (m := 2000) mixed orcNone_ok (by kernel_rfl)
def tree_a0_67 : List DV := [.agg [.val (.bool false), .slice 1 1 [.val (.int .u32 (.ofNat 37))], .slice 1 1 [.val (.int .u32 (.ofNat 50))]]]
def tree_r0_67 : DV := .tup [.agg [.val (.bool false), .slice 1 1 [.val (.int .u32 (.ofNat 37))], .slice 1 1 [.val (.int .u32 (.ofNat 50))]], .val (.int .i64 (.ofNat 0))]
theorem tree_0_67 : PureD Pr 26 tree_a0_67 tree_r0_67 := PureD.of_run (orc := orcNone) (m := 2000) mixed orcNone_ok (by kernel_rfl)
def tree_a0_68 : List DV := [.agg [.val (.bool false), .slice 1 1 [.val (.int .u32 (.ofNat 13))]], .agg [.val (.bool false), .slice 1 1 [.val (.int .u32 (.ofNat 50))]]]
def tree_r0_68 : DV := .tup [.agg [.val (.bool false), .slice 1 1 [.val (.int .u32 (.ofNat 13))], .slice 1 1 [.val (.int .u32 (.ofNat 50))]], .val (.int .i64 (.ofNat 0))]
theorem tree_0_68 : PureD Pr 38 tree_a0_68 tree_r0_68 := PureD.of_run (orc := orcNone) (m := 2000) mixed orcNone_ok (by kernel_rfl)
def tree_a0_69 : List DV := [.agg [.val (.bool false), .slice 1 1 [.val (.int .u32 (.ofNat 13))], .slice 1 1 [.val (.int .u32 (.ofNat 50))]]]
def tree_r0_69 : DV := .tup [.agg [.val (.bool false), .slice 1 1 [.val (.int .u32 (.ofNat 13))], .slice 1 1 [.val (.int .u32 (.ofNat 50))]], .val (.int .i64 (.ofNat 0))]
theorem tree_0_69 : PureD Pr 26 tree_a0_69 tree_r0_69 := PureD.of_run (orc := orcNone) (m := 2000) mixed orcNone_ok (by kernel_rfl)
def tree_a0_70 : List DV := [.val (.int .i64 (.ofNat 13)), .val (.int .i64 (.ofNat 50))]
def tree_r0_70 : DV := .tup [.agg [.val (.bool false), .slice 1 1 [.val (.int .u32 (.ofNat 13))], .slice 1 1 [.val (.int .u32 (.ofNat 50))]], .val (.int .i64 (.ofNat 0))]
theorem tree_0_70 : PureD Pr 15 tree_a0_70 tree_r0_70 := PureD.of_run (orc := orcNone) (m := 2000) mixed orcNone_ok (by kernel_rfl)
def tree_a0_71 : List DV := [.val (.int .i64 (.ofNat 13)), .val (.int .i64 (.ofNat 50))]
def tree_r0_71 : DV := .agg [.val (.bool false), .slice 1 1 [.val (.int .u32 (.ofNat 13))], .slice 1 1 [.val (.int .u32 (.ofNat 50))]]
theorem tree_0_71 : PureD Pr 11 tree_a0_71 tree_r0_71 := PureD.of_run (orc := orcNone) (m := 2000) mixed orcNone_ok (by kernel_rfl)
def tree_a0_72 : List DV := [.agg [.val (.bool false), .slice 1 1 [.val (.int .u32 (.ofNat 13))], .slice 1 1 [.val (.int .u32 (.ofNat 50))]], .agg [.val (.bool false), .slice 1 1 [.val (.int .u32 (.ofNat 13))], .slice 1 1 [.val (.int .u32 (.ofNat 50))]]]
def tree_r0_72 : DV := .val (.int .i64 (.ofNat 0))
theorem tree_0_72 : PureD Pr 10 tree_a0_72 tree_r0_72 := PureD.of_run (orc := orcNone) (m := 2000) mixed orcNone_ok (by kernel_rfl)
noncomputable def entTree0_38 : List (List DV × DV) := [(tree_a0_0, tree_r0_0), (tree_a0_3, tree_r0_3), (tree_a0_6, tree_r0_6), (tree_a0_9, tree_r0_9), (tree_a0_14, tree_r0_14), (tree_a0_33, tree_r0_33), (tree_a0_66, tree_r0_66), (tree_a0_68, tree_r0_68)]
theorem entTree0_38_ok : AllE 38 entTree0_38 := ⟨tree_0_0, ⟨tree_0_3, ⟨tree_0_6, ⟨tree_0_9, ⟨tree_0_14, ⟨tree_0_33, ⟨tree_0_66, ⟨tree_0_68, trivial⟩⟩⟩⟩⟩⟩⟩⟩
noncomputable def entTree0_15 : List (List DV × DV) := [(tree_a0_1, tree_r0_1), (tree_a0_4, tree_r0_4), (tree_a0_7, tree_r0_7), (tree_a0_10, tree_r0_10), (tree_a0_15, tree_r0_15), (tree_a0_34, tree_r0_34), (tree_a0_70, tree_r0_70)]
theorem entTree0_15_ok : AllE 15 entTree0_15 := ⟨tree_0_1, ⟨tree_0_4, ⟨tree_0_7, ⟨tree_0_10, ⟨tree_0_15, ⟨tree_0_34, ⟨tree_0_70, trivial⟩⟩⟩⟩⟩⟩⟩
noncomputable def entTree0_11 : List (List DV × DV) := [(tree_a0_2, tree_r0_2), (tree_a0_5, tree_r0_5), (tree_a0_8, tree_r0_8), (tree_a0_11, tree_r0_11), (tree_a0_60, tree_r0_60), (tree_a0_71, tree_r0_71)]
theorem entTree0_11_ok : AllE 11 entTree0_11 := ⟨tree_0_2, ⟨tree_0_5, ⟨tree_0_8, ⟨tree_0_11, ⟨tree_0_60, ⟨tree_0_71, trivial⟩⟩⟩⟩⟩⟩
noncomputable def entTree0_9 : List (List DV × DV) := [(tree_a0_12, tree_r0_12)]
theorem entTree0_9_ok : AllE 9 entTree0_9 := ⟨tree_0_12, trivial⟩
noncomputable def entTree0_43 : List (List DV × DV) := [(tree_a0_13, tree_r0_13), (tree_a0_17, tree_r0_17), (tree_a0_19, tree_r0_19), (tree_a0_21, tree_r0_21)]
theorem entTree0_43_ok : AllE 43 entTree0_43 := ⟨tree_0_13, ⟨tree_0_17, ⟨tree_0_19, ⟨tree_0_21, trivial⟩⟩⟩⟩
noncomputable def entTree0_10 : List (List DV × DV) := [(tree_a0_16, tree_r0_16), (tree_a0_18, tree_r0_18), (tree_a0_20, tree_r0_20), (tree_a0_22, tree_r0_22), (tree_a0_26, tree_r0_26), (tree_a0_72, tree_r0_72)]
theorem entTree0_10_ok : AllE 10 entTree0_10 := ⟨tree_0_16, ⟨tree_0_18, ⟨tree_0_20, ⟨tree_0_22, ⟨tree_0_26, ⟨tree_0_72, trivial⟩⟩⟩⟩⟩⟩
noncomputable def entTree0_41 : List (List DV × DV) := [(tree_a0_23, tree_r0_23), (tree_a0_24, tree_r0_24), (tree_a0_27, tree_r0_27), (tree_a0_28, tree_r0_28), (tree_a0_30, tree_r0_30), (tree_a0_31, tree_r0_31), (tree_a0_54, tree_r0_54), (tree_a0_55, tree_r0_55), (tree_a0_56, tree_r0_56), (tree_a0_57, tree_r0_57), (tree_a0_58, tree_r0_58), (tree_a0_59, tree_r0_59), (tree_a0_63, tree_r0_63), (tree_a0_64, tree_r0_64), (tree_a0_65, tree_r0_65)]
theorem entTree0_41_ok : AllE 41 entTree0_41 := ⟨tree_0_23, ⟨tree_0_24, ⟨tree_0_27, ⟨tree_0_28, ⟨tree_0_30, ⟨tree_0_31, ⟨tree_0_54, ⟨tree_0_55, ⟨tree_0_56, ⟨tree_0_57, ⟨tree_0_58, ⟨tree_0_59, ⟨tree_0_63, ⟨tree_0_64, ⟨tree_0_65, trivial⟩⟩⟩⟩⟩⟩⟩⟩⟩⟩⟩⟩⟩⟩⟩
noncomputable def entTree0_87 : List (List DV × DV) := [(tree_a0_25, tree_r0_25), (tree_a0_29, tree_r0_29), (tree_a0_32, tree_r0_32)]
theorem entTree0_87_ok : AllE 87 entTree0_87 := ⟨tree_0_25, ⟨tree_0_29, ⟨tree_0_32, trivial⟩⟩⟩
noncomputable def entTree0_42 : List (List DV × DV) := [(tree_a0_35, tree_r0_35), (tree_a0_40, tree_r0_40), (tree_a0_41, tree_r0_41), (tree_a0_42, tree_r0_42), (tree_a0_43, tree_r0_43), (tree_a0_44, tree_r0_44), (tree_a0_45, tree_r0_45), (tree_a0_46, tree_r0_46), (tree_a0_47, tree_r0_47), (tree_a0_48, tree_r0_48), (tree_a0_49, tree_r0_49), (tree_a0_50, tree_r0_50), (tree_a0_51, tree_r0_51), (tree_a0_52, tree_r0_52), (tree_a0_53, tree_r0_53), (tree_a0_61, tree_r0_61), (tree_a0_62, tree_r0_62)]
theorem entTree0_42_ok : AllE 42 entTree0_42 := ⟨tree_0_35, ⟨tree_0_40, ⟨tree_0_41, ⟨tree_0_42, ⟨tree_0_43, ⟨tree_0_44, ⟨tree_0_45, ⟨tree_0_46, ⟨tree_0_47, ⟨tree_0_48, ⟨tree_0_49, ⟨tree_0_50, ⟨tree_0_51, ⟨tree_0_52, ⟨tree_0_53, ⟨tree_0_61, ⟨tree_0_62, trivial⟩⟩⟩⟩⟩⟩⟩⟩⟩⟩⟩⟩⟩⟩⟩⟩⟩
noncomputable def entTree0_26 : List (List DV × DV) := [(tree_a0_36, tree_r0_36), (tree_a0_37, tree_r0_37), (tree_a0_38, tree_r0_38), (tree_a0_39, tree_r0_39), (tree_a0_67, tree_r0_67), (tree_a0_69, tree_r0_69)]
theorem entTree0_26_ok : AllE 26 entTree0_26 := ⟨tree_0_36, ⟨tree_0_37, ⟨tree_0_38, ⟨tree_0_39, ⟨tree_0_67, ⟨tree_0_69, trivial⟩⟩⟩⟩⟩⟩
noncomputable def tabTree0 : Tr (List (List DV × DV)) := (.node (.node (.node (.node (.node .nil (some entTree0_15) .nil) none (.node .nil none (.node (.node .nil (some entTree0_87) .nil) none .nil))) none (.node .nil (some entTree0_11) (.node (.node .nil (some entTree0_43) .nil) none .nil))) none (.node (.node .nil (some entTree0_9) (.node (.node .nil (some entTree0_41) .nil) none .nil)) none .nil)) none (.node .nil none (.node (.node .nil (some entTree0_10) (.node (.node .nil (some entTree0_42) .nil) (some entTree0_26) .nil)) none (.node (.node (.node .nil (some entTree0_38) .nil) none .nil) none .nil))))
theorem tabTree0_ok : Tr.All AllE tabTree0 := ⟨⟨⟨⟨⟨trivial, entTree0_15_ok, trivial⟩, trivial, ⟨trivial, trivial, ⟨⟨trivial, entTree0_87_ok, trivial⟩, trivial, trivial⟩⟩⟩, trivial, ⟨trivial, entTree0_11_ok, ⟨⟨trivial, entTree0_43_ok, trivial⟩, trivial, trivial⟩⟩⟩, trivial, ⟨⟨trivial, entTree0_9_ok, ⟨⟨trivial, entTree0_41_ok, trivial⟩, trivial, trivial⟩⟩, trivial, trivial⟩⟩, trivial, ⟨trivial, trivial, ⟨⟨trivial, entTree0_10_ok, ⟨⟨trivial, entTree0_42_ok, trivial⟩, entTree0_26_ok, trivial⟩⟩, trivial, ⟨⟨⟨trivial, entTree0_38_ok, trivial⟩, trivial, trivial⟩, trivial, trivial⟩⟩⟩⟩
noncomputable def orcTree0 : CallX := orcM tabTree0
theorem orcTree0_ok : CallOK Pr orcTree0 := orcM_ok fun k l h e he => AllE.mem l (Tr.All.get _ _ tabTree0_ok k l h) e he
end Go.Xm
